/-
  The wheel's Advance: what all need.
-/
import Derived.Test.YtmjbhnkhpgnchaaDoorAdvC
import Derived.Test.YtmjbhnkhpgnchaaDoorGood
namespace Go.Proofs.YtmjbhnkhpgnchaaDoor
open Go Go.RowKit

theorem Good.firstN_keys {S : WSt} (h : Good S) : ∀ n, n ≤ 65 → (keys (S.firstN n)).Nodup
  | 0, _ => List.nodup_nil
  | n + 1, hn => by
    rw [firstN_succ]
    unfold keys
    rw [List.map_append, List.nodup_append]
    refine ⟨h.firstN_keys n (by omega), h.nodups n (by omega), ?_⟩
    intro a ha b hb e
    obtain ⟨p, hp, e1⟩ := List.mem_map.1 ha
    obtain ⟨i, hi, hpi⟩ := mem_firstN.1 hp
    subst e1
    exact h.apart i n (by omega) (by omega) (by omega) p hpi (e ▸ hb)

set_option maxRecDepth 100000 in
set_option maxHeartbeats 400000 in
theorem advance_no (w : World) (b : Nat) (S : WSt) (t : Nat) (h : WheelAt w b S) (ht : t < S.now) :
    Calls Tryd.prog 28 #[.pointer (some ⟨b, 0, none⟩), .int .u64 t] w fun e w' => e = .returned (.slice none 0 0) ∧ RowKit.Below w.heap.size w w' := by
  have c0 := h.cnow
  have hlt := h.lt
  clear h
  have hle : decide ((t : Int) < (S.now : Int)) = true := by simpa using ht
  have HB := Lib.hid (show ∀ o n, RowKit.Below w.heap.size w ((w.alloc o).drewN n) from fun o n => below_drewN ((RowKit.Below.refl _ w).alloc (Nat.le_refl _) _) n)
  go_enter Tryd.func28, Tryd.ntmps28
  go_wp2
  go_step3
  go_wp2
  go_quiet (fail)
  go_wp2
  try rw [Exit.noGoto_ret]
  go_ret
  exact ⟨rfl, HB.out _ _⟩


theorem asc_ext : ∀ {a b : List (ByteArray × Nat)}, Asc a → Asc b → (∀ p, p ∈ a ↔ p ∈ b) → a = b
  | [], [], _, _, _ => rfl
  | [], y :: b, _, _, h => by have := (h y).2 (by simp); cases this
  | x :: a, [], _, _, h => by have := (h x).1 (by simp); cases this
  | x :: a, y :: b, ha, hb, h => by
    unfold Asc at ha hb
    rw [List.pairwise_cons] at ha hb
    have hxy : x = y := by
      rcases List.mem_cons.1 ((h x).1 (by simp)) with e | hx
      · exact e
      · rcases List.mem_cons.1 ((h y).2 (by simp)) with e | hy
        · exact e.symm
        · have h1 := ahead_trans (ha.1 y hy) (hb.1 x hx)
          rw [ahead_irrefl] at h1
          cases h1
    subst hxy
    have := asc_ext (a := a) (b := b) ha.2 hb.2 (fun p => by
      have hp := h p
      constructor
      · intro hpa
        rcases List.mem_cons.1 (hp.1 (by simp [hpa])) with e | h2
        · have := ha.1 p hpa
          rw [e, ahead_irrefl] at this
          cases this
        · exact h2
      · intro hpb
        rcases List.mem_cons.1 (hp.2 (by simp [hpb])) with e | h2
        · have := hb.1 p hpb
          rw [e, ahead_irrefl] at this
          cases this
        · exact h2)
    rw [this]

/-- Advance, as a law on the wheel alone -/
def AdvAll (w w' : World) (b : Nat) (S : WSt) (t : Nat) (e : Ending) : Prop :=
  ∃ v l S', e = .returned v ∧ OwnT w.heap.size w' v l ∧ WheelAt w' b S' ∧ Fr (S.foot b) w w' ∧ Good S' ∧ S'.now = t ∧ (∀ k, S'.foot b k ↔ S.foot b k) ∧ Asc l ∧ (keys l).Nodup ∧
    (∀ p, p ∈ l ↔ p ∈ S.all ∧ p.2 ≤ t) ∧ (∀ p, p ∈ S'.all ↔ p ∈ S.all ∧ t < p.2)

theorem advance_all (w : World) (b : Nat) (S : WSt) (t : Nat) (h : WheelAt w b S) (hg : Good S) (ht : S.now ≤ t) (ht2 : t < 18446744073709551616) (hl : S.all.length ≤ 10000) :
    Calls Tryd.prog 28 #[.pointer (some ⟨b, 0, none⟩), .int .u64 t] w fun e w' => AdvAll w w' b S t e := by
  refine (advance_yes w b S t h hg.apart ht ht2 hg.small (fun i hi => by
    have := hg.firstN_len i hi
    have : i * S.all.length ≤ 65 * 10000 := Nat.mul_le_mul hi (by omega)
    omega)).mono ?_
  rintro e w' ⟨v, l, D, E, g1, g2, rfl, hp, ha, ho, p1, p2, hD, hE, hW, hf⟩
  have hG : goneOf S.now t ≤ 65 := by unfold goneOf; split <;> omega
  have nE : (keys E).Nodup := ((hE.map Prod.fst).nodup_iff).2 ((hg.firstN_keys _ hG).sublist ((List.filter_sublist).map _))
  have nD : (keys D).Nodup := ((hD.map Prod.fst).nodup_iff).2 ((hg.firstN_keys _ hG).sublist ((List.filter_sublist).map _))
  obtain ⟨k1, k2, k3⟩ := hg.advance ht2 p1 p2 hD hE nE
  obtain ⟨q1, q2, q3, q4⟩ := placeAll_keep ({ S.upto (goneOf S.now t) with now := t, all := adelAll S.all g1 } : WSt) g2
  refine ⟨v, l, _, rfl, ho, hW, hf, k1, q1, ?_, ha, ((hp.map Prod.fst).nodup_iff).2 nD, fun p => by rw [hp.mem_iff, k3], k2⟩
  intro k
  constructor
  · intro hk
    rcases hk with e | e | ⟨i, hi, e⟩
    · exact .inl e
    · exact .inr (.inl (e.trans q2))
    · exact .inr (.inr ⟨i, hi, e.trans (q3 i)⟩)
  · intro hk
    rcases hk with e | e | ⟨i, hi, e⟩
    · exact .inl e
    · exact .inr (.inl (e.trans q2.symm))
    · exact .inr (.inr ⟨i, hi, e.trans (q3 i).symm⟩)
end Go.Proofs.YtmjbhnkhpgnchaaDoor
