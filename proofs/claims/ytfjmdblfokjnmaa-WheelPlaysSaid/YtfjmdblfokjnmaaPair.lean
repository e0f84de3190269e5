/-
  The wheel and the document's list side by side: what each operation does to both, in plain words.
-/
import Derived.Test.YtfjmdblfokjnmaaLawA
namespace Go.Proofs.Ytfjmdblfokjnmaa
open Go Go.RowKit

theorem asc_ext : ∀ {a b : List (ByteArray × Nat)}, Asc a → Asc b → (∀ p, p ∈ a ↔ p ∈ b) → a = b
  | [], [], _, _, _ => rfl
  | [], y :: b, _, _, h => by have := (h y).2 (by simp); cases this
  | x :: a, [], _, _, h => by have := (h x).1 (by simp); cases this
  | x :: a, y :: b, ha, hb, h => by
    unfold Asc at ha hb
    rw [List.pairwise_cons] at ha hb
    have hxy : x = y := by
      rcases List.mem_cons.1 ((h x).1 (by simp)) with e | hx
      · exact e
      · rcases List.mem_cons.1 ((h y).2 (by simp)) with e | hy
        · exact e.symm
        · have h1 := ahead_trans (ha.1 y hy) (hb.1 x hx)
          rw [ahead_irrefl] at h1
          cases h1
    subst hxy
    have := asc_ext (a := a) (b := b) ha.2 hb.2 (fun p => by
      have hp := h p
      constructor
      · intro hpa
        rcases List.mem_cons.1 (hp.1 (by simp [hpa])) with e | h2
        · have := ha.1 p hpa
          rw [e, ahead_irrefl] at this
          cases this
        · exact h2
      · intro hpb
        rcases List.mem_cons.1 (hp.2 (by simp [hpb])) with e | h2
        · have := hb.1 p hpb
          rw [e, ahead_irrefl] at this
          cases this
        · exact h2)
    rw [this]

theorem Asc.nodup {l : List (ByteArray × Nat)} (h : Asc l) : l.Nodup := by
  unfold Asc at h
  refine h.imp ?_
  intro a b hab e
  rw [e, ahead_irrefl] at hab
  cases hab

/-- the list m tells the wheel S -/
structure Tells (S : WSt) (m : List (ByteArray × Nat)) : Prop where
  good : Good S
  now : S.now < 18446744073709551616
  asc : Asc m
  mem : ∀ p, p ∈ m ↔ p ∈ S.all

section
variable {S : WSt} {m : List (ByteArray × Nat)}

theorem Tells.len (h : Tells S m) : m.length = S.all.length :=
  Nat.le_antisymm (len_of_sub h.asc.nodup fun p hp => (h.mem p).1 hp) (len_of_sub (nodup_of_keys h.good.nodup) fun p hp => (h.mem p).2 hp)

theorem Tells.above (h : Tells S m) : ∀ p ∈ m, S.now < p.2 ∧ p.2 < 18446744073709551616 := fun p hp => h.good.above p ((h.mem p).1 hp)

theorem Tells.keys (h : Tells S m) (name : ByteArray) : name ∈ Go.Proofs.Ytfjmdblfokjnmaa.keys m ↔ name ∈ Go.Proofs.Ytfjmdblfokjnmaa.keys S.all := by
  constructor
  · intro hk
    obtain ⟨p, hp, e⟩ := List.mem_map.1 hk
    exact e ▸ mem_keys ((h.mem p).1 hp)
  · intro hk
    obtain ⟨p, hp, e⟩ := List.mem_map.1 hk
    exact e ▸ mem_keys ((h.mem p).2 hp)

/-- a place, sorted, is the document's slot -/
theorem Tells.slot (h : Tells S m) {i : Nat} (hi : i ≤ 64) {l : List (ByteArray × Nat)} (hp : l.Perm (S.get i)) (hl : Asc l) : l = slotL S.now i m := by
  refine asc_ext hl (h.asc.filter _) fun p => ?_
  unfold slotL
  rw [hp.mem_iff, List.mem_filter, h.good.place i hi p, h.mem]
  simp

theorem Tells.put (h : Tells S m) {name : ByteArray} {t : Nat} (h1 : S.now < t) (h2 : t < 18446744073709551616) {l : List (ByteArray × Nat)} (hp : l.Perm (dropL m name ++ [(name, t)])) (hl : Asc l) : Tells (S.put name t) l := by
  obtain ⟨g1, g2, g3⟩ := h.good.put (name := name) h1 h2
  refine ⟨g1, by rw [g2]; exact h.now, hl, fun p => ?_⟩
  rw [hp.mem_iff, g3, List.mem_append]
  unfold dropL
  rw [List.mem_filter, h.mem, List.mem_singleton]
  simp only [decide_eq_true_eq]
  exact or_comm

theorem Tells.drop (h : Tells S m) (name : ByteArray) : Tells (S.drop name) (dropL m name) := by
  obtain ⟨g1, g2, g3⟩ := h.good.drop name
  refine ⟨g1, by rw [g2]; exact h.now, h.asc.filter _, fun p => ?_⟩
  rw [g3]
  unfold dropL
  rw [List.mem_filter, h.mem]
  simp

/-- what is due, by the sorted list -/
theorem due_split (h : Asc m) {t n : Nat} (hd : DueSays m t n) : (∀ p, p ∈ m.take n ↔ p ∈ m ∧ p.2 ≤ t) ∧ (∀ p, p ∈ m.drop n ↔ p ∈ m ∧ t < p.2) := by
  have h1 : ∀ p ∈ m.take n, p.2 ≤ t := by
    intro p hp
    obtain ⟨j, hj, e⟩ := List.mem_iff_getElem.1 hp
    rw [List.length_take] at hj
    refine hd.2.1 j p (by omega) ?_
    rw [← e, List.getElem_take]
    exact List.getElem?_eq_getElem (by omega)
  have h2 : ∀ p ∈ m.drop n, t < p.2 := by
    intro p hp
    obtain ⟨j, hj, e⟩ := List.mem_iff_getElem.1 hp
    rw [List.length_drop] at hj
    rw [List.getElem_drop] at e
    have hq := hd.2.2 _ (List.getElem?_eq_getElem (show n < m.length by omega))
    by_cases e0 : j = 0
    · subst e0
      rw [← e]
      exact hq
    · have hp2 : ahead m[n] m[n + j] = true := List.pairwise_iff_getElem.1 h n (n + j) (by omega) (by omega) (by omega)
      rw [e] at hp2
      unfold ahead at hp2
      simp only [Bool.or_eq_true, decide_eq_true_eq, Bool.and_eq_true] at hp2
      omega
  have h3 : ∀ p, p ∈ m ↔ p ∈ m.take n ∨ p ∈ m.drop n := fun p => by
    conv => lhs; rw [← List.take_append_drop n m]
    exact List.mem_append
  constructor
  · intro p
    constructor
    · intro hp
      exact ⟨(h3 p).2 (.inl hp), h1 p hp⟩
    · rintro ⟨hp, hle⟩
      rcases (h3 p).1 hp with h | h
      · exact h
      · have := h2 p h
        omega
  · intro p
    constructor
    · intro hp
      exact ⟨(h3 p).2 (.inr hp), h2 p hp⟩
    · rintro ⟨hp, hlt⟩
      rcases (h3 p).1 hp with h | h
      · have := h1 p h
        omega
      · exact h

/-- the first one's deadline -/
def headAt : List (ByteArray × Nat) → Nat
  | [] => 0
  | p :: _ => p.2

theorem Tells.soon (h : Tells S m) (hne : m ≠ []) {i : Nat} (hs : soonAt S i) : minL ((S.get i).map (·.2)) = headAt m := by
  cases m with
  | nil => exact absurd rfl hne
  | cons x l =>
    obtain ⟨hi, hlow, hex⟩ := hs
    have hx := (h.mem x).1 (by simp)
    have hxp := h.good.mem hx
    have hle := plcOf_le S.now x.2
    have hpi : i ≤ plcOf S.now x.2 := by
      apply Nat.le_of_not_lt
      intro hlt
      rw [hlow _ hlt] at hxp
      cases hxp
    have hall : ∀ p ∈ S.all, x.2 ≤ p.2 := by
      intro p hp
      rcases List.mem_cons.1 ((h.mem p).2 hp) with e | hpl
      · rw [e]; exact Nat.le_refl _
      · have := (List.pairwise_cons.1 h.asc).1 p hpl
        unfold ahead at this
        simp only [Bool.or_eq_true, decide_eq_true_eq, Bool.and_eq_true] at this
        omega
    have hne2 : S.get i ≠ [] := by
      by_cases h64 : i < 64
      · exact hex h64
      · have : plcOf S.now x.2 = i := by omega
        rw [this] at hxp
        exact List.ne_nil_of_mem hxp
    obtain ⟨q, hq⟩ := List.exists_mem_of_ne_nil _ hne2
    have hq2 := (h.good.place i hi q).1 hq
    have hpe : plcOf S.now x.2 = i := by
      apply Nat.le_antisymm _ hpi
      apply Nat.le_of_not_lt
      intro hlt
      have a1 := h.good.above x hx
      have a2 := h.good.above q hq2.1
      have := plc_lt S.now q.2 x.2 a2.1 a1.1 a2.2 a1.2 (by omega)
      have := hall q hq2.1
      omega
    rw [hpe] at hxp
    have hmn : (S.get i).map (·.2) ≠ [] := by
      intro e
      exact hne2 (List.map_eq_nil_iff.1 e)
    obtain ⟨m1, m2⟩ := minL_spec hmn
    obtain ⟨z, hz, e⟩ := List.mem_map.1 m1
    have h3 := hall z ((h.good.place i hi z).1 hz).1
    have h4 := m2 x.2 (List.mem_map.2 ⟨x, hxp, rfl⟩)
    show _ = x.2
    omega
end
end Go.Proofs.Ytfjmdblfokjnmaa
