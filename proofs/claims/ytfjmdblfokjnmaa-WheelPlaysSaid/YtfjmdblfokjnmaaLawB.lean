/-
  Advance and Soonest against the list; tick; stands.
-/
import Derived.Test.YtfjmdblfokjnmaaPair
namespace Go.Proofs.Ytfjmdblfokjnmaa
open Go Go.RowKit

theorem Good.firstN_keys {S : WSt} (h : Good S) : ∀ n, n ≤ 65 → (keys (S.firstN n)).Nodup
  | 0, _ => List.nodup_nil
  | n + 1, hn => by
    rw [firstN_succ]
    unfold keys
    rw [List.map_append, List.nodup_append]
    refine ⟨h.firstN_keys n (by omega), h.nodups n (by omega), ?_⟩
    intro a ha b hb e
    obtain ⟨p, hp, e1⟩ := List.mem_map.1 ha
    obtain ⟨i, hi, hpi⟩ := mem_firstN.1 hp
    subst e1
    exact h.apart i n (by omega) (by omega) (by omega) p hpi (e ▸ hb)

/-- what Advance does to the wheel and the list -/
def AdvPair (w w' : World) (b : Nat) (S : WSt) (m : List (ByteArray × Nat)) (t : Nat) (e : Ending) : Prop :=
  ∃ v l S', e = .returned v ∧ OwnT w.heap.size w' v l ∧ WheelAt w' b S' ∧ Fr (S.foot b) w w' ∧ S'.now = t ∧ (∀ k, S'.foot b k → S.foot b k) ∧ ∀ n, DueSays m t n → l = m.take n ∧ Tells S' (m.drop n)

theorem advance_pair (w : World) (b : Nat) (S : WSt) (m : List (ByteArray × Nat)) (t : Nat) (h : WheelAt w b S) (hT : Tells S m) (ht : S.now ≤ t) (ht2 : t < 18446744073709551616) (hl : m.length ≤ 10000) :
    Calls Try.prog 11 #[.pointer (some ⟨b, 0, none⟩), .int .u64 t] w fun e w' => AdvPair w w' b S m t e := by
  have hlen := hT.len
  refine (advance_yes w b S t h hT.good.apart ht ht2 hT.good.small (fun i hi => by
    have := hT.good.firstN_len i hi
    have : i * S.all.length ≤ 65 * 10000 := Nat.mul_le_mul hi (by omega)
    omega)).mono ?_
  rintro e w' ⟨v, l, D, E, g1, g2, rfl, hp, ha, ho, p1, p2, hD, hE, hW, hf⟩
  have hG : goneOf S.now t ≤ 65 := by unfold goneOf; split <;> omega
  have nE : (keys E).Nodup := ((hE.map Prod.fst).nodup_iff).2 ((hT.good.firstN_keys _ hG).sublist ((List.filter_sublist).map _))
  obtain ⟨k1, k2, k3⟩ := hT.good.advance ht2 p1 p2 hD hE nE
  obtain ⟨q1, q2, q3, q4⟩ := placeAll_keep ({ S.upto (goneOf S.now t) with now := t, all := adelAll S.all g1 } : WSt) g2
  refine ⟨v, l, _, rfl, ho, hW, hf, q1, ?_, fun n hn => ?_⟩
  · intro k hk
    rcases hk with e | e | ⟨i, hi, e⟩
    · exact .inl e
    · exact .inr (.inl (e.trans q2))
    · exact .inr (.inr ⟨i, hi, e.trans (q3 i)⟩)
  · obtain ⟨s1, s2⟩ := due_split hT.asc hn
    refine ⟨asc_ext ha (hT.asc.sublist (List.take_sublist _ _)) fun p => ?_, k1, by rw [q1]; exact ht2, hT.asc.sublist (List.drop_sublist _ _), fun p => ?_⟩
    · rw [hp.mem_iff, k3, s1, hT.mem]
    · rw [s2, k2, hT.mem]

set_option maxRecDepth 100000 in
set_option maxHeartbeats 400000 in
theorem advance_no (w : World) (b : Nat) (S : WSt) (t : Nat) (h : WheelAt w b S) (ht : t < S.now) :
    Calls Try.prog 11 #[.pointer (some ⟨b, 0, none⟩), .int .u64 t] w fun e w' => e = .returned (.slice none 0 0) ∧ RowKit.Below w.heap.size w w' := by
  have c0 := h.cnow
  have hlt := h.lt
  clear h
  have hle : decide ((t : Int) < (S.now : Int)) = true := by simpa using ht
  have HB := Lib.hid (show ∀ o n, RowKit.Below w.heap.size w ((w.alloc o).drewN n) from fun o n => below_drewN ((RowKit.Below.refl _ w).alloc (Nat.le_refl _) _) n)
  go_enter Try.func11, Try.ntmps11
  go_wp2
  go_step3
  go_wp2
  go_quiet (fail)
  go_wp2
  try rw [Exit.noGoto_ret]
  go_ret
  exact ⟨rfl, HB.out _ _⟩

/-- what Soonest tells, by the list -/
theorem soon_pair (w : World) (b : Nat) (S : WSt) (m : List (ByteArray × Nat)) (h : WheelAt w b S) (hT : Tells S m) (hl : m.length ≤ 10000) :
    Calls Try.prog 13 #[.pointer (some ⟨b, 0, none⟩)] w fun e w' => e = .returned (.tuple #[.int .u64 (headAt m), .bool (decide (0 < m.length))]) ∧ RowKit.Below w.heap.size w w' := by
  have hlen := hT.len
  by_cases h0 : S.all = []
  · refine (soonest_none w b S h h0).mono ?_
    rintro e w' ⟨rfl, rfl⟩
    have : m = [] := List.eq_nil_of_length_eq_zero (by rw [hlen, h0]; rfl)
    subst this
    exact ⟨rfl, RowKit.Below.refl _ _⟩
  · have hm : m ≠ [] := by
      intro e
      rw [e] at hlen
      exact h0 (List.eq_nil_of_length_eq_zero hlen.symm)
    obtain ⟨p, hp⟩ := List.exists_mem_of_ne_nil _ h0
    refine (soonest_some w b S h h0 ⟨_, plcOf_le _ _, List.ne_nil_of_mem (hT.good.mem hp)⟩ (fun i hi => by have := hT.good.le hi; omega)).mono ?_
    rintro e w' ⟨i, hs, rfl, hB⟩
    rw [hT.soon hm hs, decide_eq_true (List.length_pos_iff.2 hm)]
    exact ⟨rfl, hB⟩

theorem headAt_lt {S : WSt} {m : List (ByteArray × Nat)} (h : Tells S m) : headAt m < 18446744073709551616 := by
  cases m with
  | nil => simp [headAt]
  | cons p l => exact (h.above p (by simp)).2

/-- some tick -/
def TickSays (w w' : World) (e : Ending) : Prop := ∃ t : Nat, t < 18446744073709551616 ∧ e = .returned (.int .u64 t) ∧ RowKit.Below w.heap.size w w'

set_option maxRecDepth 100000 in
set_option maxHeartbeats 1000000 in
theorem tick_any (w : World) (b : Nat) (S : WSt) (m : List (ByteArray × Nat)) (x : ActV) (h : WheelAt w b S) (hT : Tells S m) (hx : x.ok) (hl : m.length ≤ 10000) :
    Calls Try.prog 5 #[.agg #[.int .i64 x.kind, .string x.name, .int .u64 x.at_, .int .u64 x.by_], .pointer (some ⟨b, 0, none⟩)] w fun e w' => TickSays w w' e := by
  have HB := Lib.hid (show ∀ o n, RowKit.Below w.heap.size w ((w.alloc o).drewN n) from fun o n => below_drewN ((RowKit.Below.refl _ w).alloc (Nat.le_refl _) _) n)
  have hnow := hT.now
  have hblt := h.lt
  have HC := Lib.hid (fun o n => clock_any ((w.alloc o).drewN n) b S ((h.alloc o).drewN n))
  have HL := Lib.hid (fun W => later_any W S.now x.by_ hnow hx.2.2.2)
  have hll := laterN_lt (by_ := x.by_) hnow
  have HS := Lib.hid (fun o => soon_pair (w.alloc o) b S m (h.alloc o) hT hl)
  have hhead := headAt_lt hT
  have hat := hx.2.2.1
  have hwh := h
  clear h hT hx
  generalize laterN S.now x.by_ = lt at HL hll
  by_cases h2 : x.kind = 2 ∨ x.kind = 5
  · rcases h2 with h2 | h2
    · rw [h2]
      go_enter Try.func5, Try.ntmps5
      go_wp2
      go_quiet ((first
        | (go_at_call 15; exact Calls.quiet_of_same ((HC.out _ _).mono fun _ _ h => ⟨h.1, h.2.symm⟩))
        | (go_at_call 19; exact Calls.quiet_of_same (HL.out _))))
      go_wp2
      go_ret
      exact ⟨lt, hll, rfl, HB.out _ _⟩
    · rw [h2]
      go_enter Try.func5, Try.ntmps5
      go_wp2
      go_quiet ((first
        | (go_at_call 15; exact Calls.quiet_of_same ((HC.out _ _).mono fun _ _ h => ⟨h.1, h.2.symm⟩))
        | (go_at_call 19; exact Calls.quiet_of_same (HL.out _))))
      go_wp2
      go_ret
      exact ⟨lt, hll, rfl, HB.out _ _⟩
  · have n2 : (x.kind == 2) = false := by rw [beq_eq_false_iff_ne]; omega
    have n5 : (x.kind == 5) = false := by rw [beq_eq_false_iff_ne]; omega
    by_cases h6 : x.kind = 6
    · rw [h6]
      have HC2 := Lib.hid (fun W (hW : RowKit.Below w.heap.size w W) => clock_any W b S (hwh.fr (Fr.of_new (F := fun _ => False) hW) (fun _ _ hc => hc)))
      have HB2 := Lib.hid (show ∀ o W, RowKit.Below (w.alloc o).heap.size (w.alloc o) W → RowKit.Below w.heap.size w W from fun o W hW => ((RowKit.Below.refl _ w).alloc (Nat.le_refl _) o).trans (hW.mono (by simp)))
      clear hwh
      by_cases hm : 0 < m.length
      · rw [decide_eq_true hm] at HS
        go_enter Try.func5, Try.ntmps5
        go_wp2_with fail
        refine (HS.out _).mono ?_
        rintro e w1 ⟨rfl, hB1⟩
        go_wp2
        go_ret
        exact ⟨headAt m, hhead, rfl, HB2.out _ _ hB1⟩
      · rw [decide_eq_false hm] at HS
        go_enter Try.func5, Try.ntmps5
        go_wp2_with fail
        refine (HS.out _).mono ?_
        rintro e w1 ⟨rfl, hB1⟩
        have HBw := Lib.hid (HB2.out _ _ hB1)
        go_wp2_with fail
        refine (HC2.out _ HBw.out).mono ?_
        rintro e w' ⟨rfl, rfl⟩
        go_wp2
        go_ret
        exact ⟨S.now, hnow, rfl, HBw.out⟩
    · have n6 : (x.kind == 6) = false := by rw [beq_eq_false_iff_ne]; omega
      go_enter Try.func5, Try.ntmps5
      go_wp2
      go_ret
      exact ⟨x.at_, hat, rfl, HB.out _ 0⟩
end Go.Proofs.Ytfjmdblfokjnmaa
