/-
  Advance: what its loops keep.
-/
import Derived.Test.YtmjbhnkhpgnchaaDoorPlc
namespace Go.Proofs.YtmjbhnkhpgnchaaDoor
open Go Go.RowKit

/-- the first n places are emptied -/
def WSt.upto (S : WSt) (n : Nat) : WSt := { S with slot := fun i => if i < n ∧ i < 64 then [] else S.slot i, far := if 64 < n then [] else S.far }
/-- what stood in the first n places -/
def WSt.firstN (S : WSt) (n : Nat) : List (ByteArray × Nat) := (List.range n).flatMap S.get

theorem upto_zero (S : WSt) : S.upto 0 = S := by
  cases S
  unfold WSt.upto
  simp
theorem upto_id (S : WSt) (n i : Nat) : (S.upto n).id i = S.id i := rfl
theorem upto_foot (S : WSt) (n b : Nat) : (S.upto n).foot b = S.foot b := rfl
theorem upto_get (S : WSt) {n i : Nat} (hi : i ≤ 64) : (S.upto n).get i = if i < n then [] else S.get i := by
  unfold WSt.upto WSt.get
  by_cases h : i < 64
  · simp [h]
  · have : i = 64 := by omega
    subst this
    simp
theorem upto_succ (S : WSt) {n : Nat} (h : n ≤ 64) : (S.upto n).set n [] = S.upto (n + 1) := by
  unfold WSt.upto WSt.set
  by_cases h1 : n < 64
  · rw [if_pos h1, if_neg (show ¬ 64 < n by omega), if_neg (show ¬ 64 < n + 1 by omega)]
    congr 1
    funext j
    show (if j = n then [] else if j < n ∧ j < 64 then [] else S.slot j) = (if j < n + 1 ∧ j < 64 then [] else S.slot j)
    by_cases e : j = n
    · rw [if_pos e, if_pos (by omega)]
    · rw [if_neg e]
      by_cases e2 : j < n
      · rw [if_pos (by omega), if_pos (by omega)]
      · rw [if_neg (by omega), if_neg (by omega)]
  · have : n = 64 := by omega
    subst this
    rw [if_neg (by omega), if_pos (show 64 < 64 + 1 by omega)]
    congr 1
    funext j
    show (if j < 64 ∧ j < 64 then [] else S.slot j) = (if j < 64 + 1 ∧ j < 64 then [] else S.slot j)
    by_cases e2 : j < 64
    · rw [if_pos (by omega), if_pos (by omega)]
    · rw [if_neg (by omega), if_neg (by omega)]
theorem firstN_succ (S : WSt) (n : Nat) : S.firstN (n + 1) = S.firstN n ++ S.get n := by
  unfold WSt.firstN
  rw [List.range_succ, List.flatMap_append]
  simp
theorem mem_firstN {S : WSt} {n : Nat} {p : ByteArray × Nat} : p ∈ S.firstN n ↔ ∃ i, i < n ∧ p ∈ S.get i := by
  unfold WSt.firstN
  rw [List.mem_flatMap]
  simp

/-- names of different places are different -/
def WSt.Apart (S : WSt) : Prop := ∀ i j, i ≤ 64 → j ≤ 64 → i ≠ j → ∀ p ∈ S.get i, p.1 ∉ keys (S.get j)

/-- what the emptying keeps -/
structure Sweep (w wr : World) (b : Nat) (S : WSt) (now' n : Nat) (D E : List (ByteArray × Nat)) : Prop where
  wheel : WheelAt wr b (S.upto n)
  due : IsMap Value.string u64v wr (w.heap.size + 1) D
  lft : IsMap Value.string u64v wr (w.heap.size + 3) E
  c1 : wr.cell? ⟨w.heap.size, 0, none⟩ = some (.int .u64 now')
  c2 : wr.cell? ⟨w.heap.size + 2, 0, none⟩ = some (.map (some (w.heap.size + 1)))
  c3 : wr.cell? ⟨w.heap.size + 4, 0, none⟩ = some (.map (some (w.heap.size + 3)))
  dp : D.Perm ((S.firstN n).filter fun p => decide (p.2 ≤ now'))
  ep : E.Perm ((S.firstN n).filter fun p => decide (now' < p.2))
  fr : Fr (S.foot b) w wr
  size : w.heap.size + 5 ≤ wr.heap.size
  old : ∀ k, S.foot b k → k < w.heap.size

theorem sweep_step {w wr : World} {b : Nat} {S : WSt} {now' n : Nat} {D E : List (ByteArray × Nat)} (h : Sweep w wr b S now' n D E) (hn : n ≤ 64) (hS : S.Apart) :
    Calls Tryd.prog 44 #[.map (some (S.id n)), .pointer (some ⟨w.heap.size, 0, none⟩), .pointer (some ⟨w.heap.size + 2, 0, none⟩), .pointer (some ⟨w.heap.size + 4, 0, none⟩)] wr fun e w' =>
      (∃ v, e = .returned v) ∧ ∃ D' E', Sweep w w' b S now' (n + 1) D' E' := by
  have hid : S.id n < w.heap.size := h.old _ (foot_place S b hn)
  have hsz := h.size
  have hm := h.wheel.place n hn
  rw [upto_get S hn, if_neg (by omega), upto_id] at hm
  have hdis : ∀ (X : List (ByteArray × Nat)) (f : ByteArray × Nat → Bool), X.Perm ((S.firstN n).filter f) → ∀ q ∈ S.get n, q.1 ∉ keys X := by
    intro X f hX q hq hk
    rw [keys_perm hX] at hk
    obtain ⟨p, hp, e⟩ := List.mem_map.1 hk
    obtain ⟨i, hi, hpi⟩ := mem_firstN.1 (List.mem_filter.1 hp).1
    exact hS n i hn (by omega) (by omega) q hq (e ▸ List.mem_map.2 ⟨p, hpi, rfl⟩)
  refine (empty_any wr w.heap.size (w.heap.size + 2) (w.heap.size + 4) (S.id n) (w.heap.size + 1) (w.heap.size + 3) now' (S.get n) D E h.c1 h.c2 h.c3
    (by omega) (by omega) (by omega) hm h.due h.lft (by omega) (by omega) (by omega) (hdis _ _ h.dp) (hdis _ _ h.ep)).mono ?_
  rintro e w' ⟨hv, D', E', m1, m2, m3, p1, p2, hf⟩
  have hnot : ∀ k, S.foot b k → k ≠ S.id n → ¬ (k = S.id n ∨ k = w.heap.size + 1 ∨ k = w.heap.size + 3) := by
    intro k hk hne hc
    have := h.old k hk
    omega
  refine ⟨hv, D', E', ?_⟩
  refine ⟨?_, m2, m3, (hf.cell (p := ⟨w.heap.size, 0, none⟩) (by show w.heap.size < _; omega) (show ¬ (w.heap.size = S.id n ∨ w.heap.size = w.heap.size + 1 ∨ w.heap.size = w.heap.size + 3) by omega)).trans h.c1,
    (hf.cell (p := ⟨w.heap.size + 2, 0, none⟩) (by show w.heap.size + 2 < _; omega) (show ¬ (w.heap.size + 2 = S.id n ∨ w.heap.size + 2 = w.heap.size + 1 ∨ w.heap.size + 2 = w.heap.size + 3) by omega)).trans h.c2,
    (hf.cell (p := ⟨w.heap.size + 4, 0, none⟩) (by show w.heap.size + 4 < _; omega) (show ¬ (w.heap.size + 4 = S.id n ∨ w.heap.size + 4 = w.heap.size + 1 ∨ w.heap.size + 4 = w.heap.size + 3) by omega)).trans h.c3, ?_, ?_, ?_, ?_, h.old⟩
  · rw [← upto_succ S hn]
    refine ⟨?_, ?_, ?_, ?_, ?_⟩
    · rw [set_wcells]
      exact (hf.block b h.wheel.lt (hnot b (.inl rfl) (h.wheel.ne_place hn))).trans h.wheel.block
    · rw [set_ra, set_all]
      exact h.wheel.all.fr hf (hnot _ (foot_all S b) (Ne.symm (h.wheel.apart n hn)))
    · intro j hj
      rw [set_id]
      by_cases ej : j = n
      · rw [ej, set_get_same]
        exact m1
      · rw [set_get_other _ hn hj ej]
        exact (h.wheel.place j hj).fr hf (hnot _ (foot_place S b hj) (fun e' => ej (h.wheel.once j n hj hn e')))
    · intro j hj
      rw [set_id, set_ra]
      exact h.wheel.apart j hj
    · intro j k hj hk e'
      rw [set_id, set_id] at e'
      exact h.wheel.once j k hj hk e'
  · rw [firstN_succ, List.filter_append]
    exact p1.trans (h.dp.append_right _)
  · rw [firstN_succ, List.filter_append]
    exact p2.trans (h.ep.append_right _)
  · refine h.fr.then hf (fun k hk hc => ?_)
    have hkk : k = S.id n := by omega
    rw [hkk]
    exact foot_place S b hn
  · have := hf.size
    omega

/-- all of these names are taken away -/
def adelAll (l : List (ByteArray × Nat)) (ns : List (ByteArray × Nat)) : List (ByteArray × Nat) := ns.foldl (fun l p => adel l p.1) l
/-- all of these timers are placed anew -/
def WSt.placeAll (S : WSt) (l : List (ByteArray × Nat)) : WSt := l.foldl (fun S p => S.set (plcOf S.now p.2) (aput (S.get (plcOf S.now p.2)) p.1 p.2)) S

theorem adelAll_snoc (l ns : List (ByteArray × Nat)) (p : ByteArray × Nat) : adelAll l (ns ++ [p]) = adel (adelAll l ns) p.1 := by
  unfold adelAll; rw [List.foldl_append]; rfl
theorem placeAll_snoc (S : WSt) (l : List (ByteArray × Nat)) (p : ByteArray × Nat) :
    S.placeAll (l ++ [p]) = (S.placeAll l).set (plcOf (S.placeAll l).now p.2) (aput ((S.placeAll l).get (plcOf (S.placeAll l).now p.2)) p.1 p.2) := by
  unfold WSt.placeAll; rw [List.foldl_append]; rfl
theorem placeAll_keep (S : WSt) (l : List (ByteArray × Nat)) : (S.placeAll l).now = S.now ∧ (S.placeAll l).ra = S.ra ∧ (∀ i, (S.placeAll l).id i = S.id i) ∧ (S.placeAll l).all = S.all := by
  unfold WSt.placeAll
  induction l generalizing S with
  | nil => exact ⟨rfl, rfl, fun _ => rfl, rfl⟩
  | cons p l ih =>
    rw [List.foldl_cons]
    obtain ⟨h1, h2, h3, h4⟩ := ih (S.set (plcOf S.now p.2) (aput (S.get (plcOf S.now p.2)) p.1 p.2))
    exact ⟨h1.trans (set_now _ _ _), h2.trans (set_ra _ _ _), fun i => (h3 i).trans (set_id _ _ _ _), h4.trans (set_all _ _ _)⟩

/-- what the loop over the due keeps -/
structure Del (w wr : World) (b : Nat) (S2 : WSt) (it : Nat) (n : Nat) (D E got left : List (ByteArray × Nat)) : Prop where
  len : left.length = n
  wheel : WheelAt wr b { S2 with all := adelAll S2.all got }
  iter : IterAt Value.string u64v wr it (w.heap.size + 1) D left
  perm : (got ++ left).Perm D
  lft : IsMap Value.string u64v wr (w.heap.size + 3) E
  c2 : wr.cell? ⟨w.heap.size + 2, 0, none⟩ = some (.map (some (w.heap.size + 1)))
  c3 : wr.cell? ⟨w.heap.size + 4, 0, none⟩ = some (.map (some (w.heap.size + 3)))
  fr : Fr (S2.foot b) w wr
  size : w.heap.size + 5 ≤ it
  old : ∀ k, S2.foot b k → k < w.heap.size

/-- what the loop over the left keeps -/
structure Redo (w wr : World) (b : Nat) (S3 : WSt) (it : Nat) (n : Nat) (D E got left : List (ByteArray × Nat)) : Prop where
  len : left.length = n
  wheel : WheelAt wr b (S3.placeAll got)
  iter : IterAt Value.string u64v wr it (w.heap.size + 3) E left
  perm : (got ++ left).Perm E
  due : IsMap Value.string u64v wr (w.heap.size + 1) D
  c2 : wr.cell? ⟨w.heap.size + 2, 0, none⟩ = some (.map (some (w.heap.size + 1)))
  fr : Fr (S3.foot b) w wr
  size : w.heap.size + 5 ≤ it
  old : ∀ k, S3.foot b k → k < w.heap.size
end Go.Proofs.YtmjbhnkhpgnchaaDoor
