/-
  An element of an own slice is written.
-/
import Derived.Test.YtmjbhnkhpgnchaaDoorSlice
import Derived.Deep.MidRow
namespace Go.Proofs.YtmjbhnkhpgnchaaDoor
open Go Go.RowKit

def setMany (c : Array Value) : Nat → List Value → Array Value
  | _, [] => c
  | o, v :: r => setMany (c.setIfInBounds o v) (o + 1) r

theorem setMany_size : ∀ (vs : List Value) (o : Nat) (c : Array Value), (setMany c o vs).size = c.size
  | [], _, _ => rfl
  | v :: r, o, c => by rw [setMany, setMany_size r]; simp

theorem setMany_get : ∀ (vs : List Value) (o : Nat) (c : Array Value) (j : Nat), j < c.size → (setMany c o vs)[j]? = if o ≤ j ∧ j < o + vs.length then vs[j - o]? else c[j]?
  | [], o, c, j, _ => by
    rw [setMany, if_neg (by simp only [List.length_nil]; omega)]
  | v :: r, o, c, j, h => by
    rw [setMany, setMany_get r (o + 1) _ j (by simpa using h)]
    by_cases h1 : o + 1 ≤ j ∧ j < o + 1 + r.length
    · rw [if_pos h1, if_pos (by simp only [List.length_cons]; omega), show j - o = j - (o + 1) + 1 by omega]
      simp
    · rw [if_neg h1]
      by_cases h2 : j = o
      · subst h2
        rw [if_pos (by simp only [List.length_cons]; omega)]
        simp [h]
      · rw [if_neg (by simp only [List.length_cons]; omega)]
        rw [Array.getElem?_setIfInBounds, if_neg (fun e => h2 e.symm)]

theorem heap_setCells (b : Nat) {e : TypeId} {fz : Nat × Nat} : ∀ (vs : List Value) (o : Nat) (w : World) (c : Array Value), w.heap[b]? = some (.cells c e fz) → (w.setCells b o vs).heap[b]? = some (.cells (setMany c o vs) e fz)
  | [], _, _, _, h => h
  | v :: r, o, w, c, h => by
    rw [World.setCells, setMany]
    refine heap_setCells b r (o + 1) _ _ ?_
    simp [World.setCell, Array.getElem?_modify, h]

theorem fr_setCells (b : Nat) : ∀ (vs : List Value) (o : Nat) (w0 w : World), Fr (· = b) w0 w → Fr (· = b) w0 (w.setCells b o vs)
  | [], _, _, _, h => h
  | v :: r, o, w0, _, h => fr_setCells b r (o + 1) w0 _ (h.setCell (a := ⟨b, o, none⟩) (fun _ => rfl) v)

section
variable {α : Type} {enc : α → List Value} {k : Nat} {w : World} {base : Nat} {e : TypeId} {xs : List α} {P : Program}
  {ops : Array Oper} {rest : List Oper} {o : Oper} {a : Act} {Q : Exit → Act → World → Prop}

theorem OwnS.set (hk : ∀ x, (enc x).length = k) {g cap : Nat} (h : OwnS enc k e base w (.slice (some ⟨g, 0, none⟩) xs.length cap) xs) {i : Nat} (hi : i < xs.length) (y : α) :
    w.there g (i * k) k ∧ OwnS enc k e base (w.setCells g (i * k) (enc y)) (.slice (some ⟨g, 0, none⟩) xs.length cap) (xs.set i y) := by
  rcases h.2 with ⟨e0, _⟩ | ⟨g', cap', cur, e0, hb, hg, hn, hm, hs, ht⟩
  · cases e0
  · injection e0 with e1 _ e3
    injection e1 with e1
    injection e1 with e1
    subst e1; subst e3
    have h7 : (i + 1) * k ≤ xs.length * k := Nat.mul_le_mul_right k hi
    have h8 : xs.length * k ≤ cap * k := Nat.mul_le_mul_right k hn
    rw [Nat.succ_mul] at h7
    refine ⟨fun j hj => ?_, length_flatMap hk _, .inr ⟨g, cap, setMany cur (i * k) (enc y), by rw [List.length_set], hb, heap_setCells g _ _ _ _ hg, by rw [List.length_set]; exact hn, hm, by rw [setMany_size]; exact hs, ?_⟩⟩
    · refine ⟨?_, by simp [World.frozen?, hg]⟩
      simp only [World.cell?, hg, Option.isSome_none, Bool.false_eq_true, if_false]
      rw [Array.getElem?_eq_getElem (by rw [hs]; omega)]
      rfl
    · rw [List.length_set]
      apply List.ext_getElem?
      intro t
      rw [List.getElem?_take, Array.getElem?_toList]
      by_cases htl : t < xs.length * k
      · rw [if_pos htl]
        have hk0 : 0 < k := Nat.pos_of_ne_zero fun e => by simp [e] at htl
        have hti : t / k < xs.length := Nat.div_lt_of_lt_mul (by rw [Nat.mul_comm]; exact htl)
        have htj : t % k < k := Nat.mod_lt _ hk0
        have hdm := Nat.div_add_mod' t k
        rw [setMany_get _ _ _ _ (by rw [hs]; omega), hk]
        have h9 := flatMap_get hk (xs.set i y) (t / k) (t % k) (by rw [List.length_set]; exact hti) htj
        rw [hdm] at h9
        rw [h9]
        by_cases hti2 : t / k = i
        · rw [hti2] at hdm
          rw [if_pos (by omega), show t - i * k = t % k by omega]
          subst hti2
          simp
        · rw [if_neg (by
            intro hc
            apply hti2
            have h10 : t < (i + 1) * k := by rw [Nat.succ_mul]; omega
            have h11 := (Nat.div_lt_iff_lt_mul hk0).2 h10
            have h12 := (Nat.le_div_iff_mul_le hk0).2 hc.1
            omega)]
          have h10 := flatMap_get hk xs (t / k) (t % k) hti htj
          rw [hdm, ← ht, List.getElem?_take, if_pos htl, Array.getElem?_toList] at h10
          rw [h10, List.getElem_set_ne (fun e => hti2 e.symm)]
      · rw [if_neg htl, List.getElem?_eq_none (by rw [length_flatMap hk, List.length_set]; omega)]

/-- 's[i] = y', s an own slice. -/
theorem wpl_store_elem (hgd : o.guard = none) (ty : TypeId) (x y : Operand) (hop : o.op = .store ty x y) (hk : ∀ x, (enc x).length = k) {g cap : Nat}
    (h : OwnS enc k e base w (.slice (some ⟨g, 0, none⟩) xs.length cap) xs) {i : Nat} (hi : i < xs.length) (z : α) (hx : a.eval x = .pointer (some ⟨g, i * k, none⟩)) (hy : a.eval y = .agg (enc z).toArray)
    (hsz : (P.info? ty).map (·.size) = some k) (h1 : ∀ v ∈ enc z, v.oneCell' = true)
    (hK : ∀ w', OwnS enc k e base w' (.slice (some ⟨g, 0, none⟩) xs.length cap) (xs.set i z) → Fr (· = g) w w' → wpList P ops Q rest (a.put o.dst undef) w') : wpList P ops Q (o :: rest) a w := by
  obtain ⟨h2, h3⟩ := h.set hk hi z
  refine wpList_store_mid hgd ty x y hop g (i * k) (enc z).toArray hx hy (by simpa [hk] using h2) (by simpa [hk] using hsz) (all_oneCell_toArray h1) ?_
  exact hK _ h3 (fr_setCells g _ _ _ _ (Fr.refl _ w))

theorem wpl_store_stop (hg : o.guard = none) (T : TypeId) (x y : Operand) (_hop : o.op = .store T x y) (h : At (wpList P ops Q (o :: rest) a w)) : wpList P ops Q (o :: rest) a w :=
  have _ := hg; h
end
end Go.Proofs.YtmjbhnkhpgnchaaDoor
