/-
  The wheel's New.
-/
import Derived.Test.YtmjbhnkhpgnchaaDoorWheelA
namespace Go.Proofs.YtmjbhnkhpgnchaaDoor
open Go Go.RowKit

/-- a wheel's cells while it is made -/
def mcells (now ra rf : Nat) (g : Nat → Option Nat) : Array Value :=
  (Value.int .u64 (now : Int) :: Value.map (some ra) :: ((List.range 64).map fun i => Value.map (g i)) ++ [Value.map (some rf)]).toArray

theorem mcells_set (now ra rf : Nat) (g : Nat → Option Nat) (n r : Nat) (h : n < 64) :
    (mcells now ra rf g).setIfInBounds (2 + n) (.map (some r)) = mcells now ra rf (fun i => if i = n then some r else g i) := by
  unfold mcells
  simp only [List.setIfInBounds_toArray, List.cons_append]
  congr 1
  rw [show 2 + n = n + 1 + 1 by omega, List.set_cons_succ, List.set_cons_succ]
  congr 2
  rw [List.set_append, if_pos (by simpa using h)]
  congr 1
  apply List.ext_getElem?
  intro i
  simp only [List.getElem?_set, List.length_map, List.length_range, List.getElem?_map]
  by_cases e : n = i
  · subst e
    simp [h]
  · by_cases hi : i < 64
    · simp [e, hi, Ne.symm e]
    · simp [e, hi]

theorem mcells_get (now ra rf : Nat) (g : Nat → Option Nat) (n : Nat) (h : n < 64) : (mcells now ra rf g)[2 + n]? = some (.map (g n)) := by
  unfold mcells
  rw [show 2 + n = n + 1 + 1 by omega]
  simp [List.getElem?_append, h]

/-- n of the slots have been laid -/
structure Making (w0 w : World) (now n : Nat) : Prop where
  below : Below w0.heap.size w0 w
  ex : ∃ g, w.heap[w0.heap.size + 2]? = some (.cells (mcells now w0.heap.size (w0.heap.size + 1) g) 86 (0, 0)) ∧
    (∀ i, i < n → ∃ r, g i = some r ∧ w0.heap.size + 2 < r ∧ IsMap Value.string u64v w r []) ∧ (∀ i j, i < n → j < n → g i = g j → i = j)
  all : IsMap Value.string u64v w w0.heap.size []
  far : IsMap Value.string u64v w (w0.heap.size + 1) []

theorem Making.next {w0 w : World} {now n : Nat} (h : Making w0 w now n) (hn : n < 64) :
    Making w0 ((w.alloc (.map #[] 0)).setCell ⟨w0.heap.size + 2, 2 + n, none⟩ (.map (some w.heap.size))) now (n + 1) := by
  obtain ⟨g, hg, h1, h2⟩ := h.ex
  have hlt : w0.heap.size + 2 < w.heap.size := (Array.getElem?_eq_some_iff.1 hg).1
  have ha := h.all.alloc (.map #[] 0)
  have hf := h.far.alloc (.map #[] 0)
  have hg' : (w.alloc (.map #[] 0)).heap[w0.heap.size + 2]? = some (.cells (mcells now w0.heap.size (w0.heap.size + 1) g) 86 (0, 0)) :=
    (Below.heap_alloc w _ _ hlt).trans hg
  refine ⟨(h.below.alloc (by omega) _).setCell (show w0.heap.size ≤ w0.heap.size + 2 by omega) _, ⟨fun i => if i = n then some w.heap.size else g i, ?_, ?_, ?_⟩, ?_, ?_⟩
  · unfold World.setCell
    simp only [Array.getElem?_modify, hg', if_true, Option.map_some, Option.isSome_none, Bool.false_eq_true, if_false]
    rw [mcells_set _ _ _ _ _ _ hn]
  · intro i hi
    by_cases e : i = n
    · subst e
      refine ⟨w.heap.size, by simp, hlt, ?_⟩
      exact (isMap_new w).setCell (a := ⟨w0.heap.size + 2, 2 + i, none⟩) (by simp; omega) _
    · obtain ⟨r, hr1, hr2, hr3⟩ := h1 i (by omega)
      refine ⟨r, by simp [e, hr1], hr2, ?_⟩
      exact (hr3.alloc _).setCell (a := ⟨w0.heap.size + 2, 2 + n, none⟩) (by simp; omega) _
  · intro i j hi hj e
    by_cases e1 : i = n
    · by_cases e2 : j = n
      · omega
      · obtain ⟨r, hr1, hr2, hr3⟩ := h1 j (by omega)
        simp only [e1, if_true, if_neg e2, hr1, Option.some.injEq] at e
        have := hr3.lt
        omega
    · by_cases e2 : j = n
      · obtain ⟨r, hr1, hr2, hr3⟩ := h1 i (by omega)
        simp only [e2, if_true, if_neg e1, hr1, Option.some.injEq] at e
        have := hr3.lt
        omega
      · simp only [if_neg e1, if_neg e2] at e
        exact h2 i j (by omega) (by omega) e
  · exact ha.setCell (a := ⟨w0.heap.size + 2, 2 + n, none⟩) (by simp) _
  · exact hf.setCell (a := ⟨w0.heap.size + 2, 2 + n, none⟩) (by simp) _

def zcells : Array Value := mcells 0 0 0 (fun _ => none) |>.setIfInBounds 1 (.map none) |>.setIfInBounds 66 (.map none)

theorem zero_wheel (w : World) : (zeroValue 86).run Tryd.prog w = .ok (.agg zcells) w := by kernel_rfl

theorem zcells_set (now ra rf : Nat) : ((zcells.setIfInBounds 0 (.int .u64 now)).setIfInBounds 1 (.map (some ra))).setIfInBounds 66 (.map (some rf)) = mcells now ra rf (fun _ => none) := rfl

theorem Making.start (w : World) (now : Nat) : Making w (((w.alloc (.map #[] 0)).alloc (.map #[] 0)).alloc (.cells (mcells now w.heap.size (w.heap.size + 1) fun _ => none) 86)) now 0 := by
  have h0 : (w.alloc (.map #[] 0)).heap.size = w.heap.size + 1 := World.size_alloc ..
  have h1 : ((w.alloc (.map #[] 0)).alloc (.map #[] 0)).heap.size = w.heap.size + 2 := by rw [World.size_alloc, h0]
  refine ⟨(((Below.refl _ _).alloc (Nat.le_refl _) _).alloc (by omega) _).alloc (by omega) _, ⟨fun _ => none, ?_, fun i hi => by omega, fun i j hi => by omega⟩, ?_, ?_⟩
  · rw [← h1]
    exact (Go.MapKept.heap_alloc _ _).1
  · exact (((isMap_new w).alloc _).alloc _)
  · have := isMap_new (ek := Value.string) (ev := u64v) (w.alloc (.map #[] 0))
    rw [h0] at this
    exact this.alloc _

theorem Making.cell {w0 w : World} {now n m : Nat} (h : Making w0 w now n) (hm : m < 64) (o : Obj) :
    (∃ v, (w.alloc o).cell? ⟨w0.heap.size + 2, 2 + m, none⟩ = some v) ∧ (w.alloc o).frozen? ⟨w0.heap.size + 2, 2 + m, none⟩ = false := by
  obtain ⟨g, hg, h1, h2⟩ := h.ex
  have hlt : w0.heap.size + 2 < w.heap.size := (Array.getElem?_eq_some_iff.1 hg).1
  have hg' := (Below.heap_alloc w o _ hlt).trans hg
  refine ⟨⟨.map (g m), ?_⟩, ?_⟩
  · simp only [World.cell?, hg', Option.isSome_none, Bool.false_eq_true, if_false]
    exact mcells_get _ _ _ _ _ hm
  · simp [World.frozen?, hg']

theorem Making.done {w0 w : World} {now : Nat} (h : Making w0 w now 64) : ∃ S : WSt, WheelAt w (w0.heap.size + 2) S ∧ S.now = now ∧ S.all = [] ∧ (∀ i, S.get i = []) ∧
    (∀ k, S.foot (w0.heap.size + 2) k → w0.heap.size ≤ k) := by
  obtain ⟨g, hg, h1, h2⟩ := h.ex
  have hid : ∀ i, i ≤ 64 → ∀ S : WSt, S = { now := now, ra := w0.heap.size, rf := w0.heap.size + 1, rs := fun i => (g i).getD 0, all := [], slot := fun _ => [], far := [] } →
      (i < 64 → ∃ r, g i = some r ∧ S.id i = r ∧ w0.heap.size + 2 < r ∧ IsMap Value.string u64v w r []) ∧ (i = 64 → S.id i = w0.heap.size + 1) := by
    rintro i hi S rfl
    constructor
    · intro hlt
      obtain ⟨r, hr1, hr2, hr3⟩ := h1 i hlt
      exact ⟨r, hr1, by simp [WSt.id, hlt, hr1], hr2, hr3⟩
    · rintro rfl; rfl
  refine ⟨{ now := now, ra := w0.heap.size, rf := w0.heap.size + 1, rs := fun i => (g i).getD 0, all := [], slot := fun _ => [], far := [] }, ⟨?_, h.all, ?_, ?_, ?_⟩, rfl, rfl, ?_, ?_⟩
  · rw [hg]
    have : mcells now w0.heap.size (w0.heap.size + 1) g = mcells now w0.heap.size (w0.heap.size + 1) (fun i => some ((g i).getD 0)) := by
      unfold mcells
      congr 4
      apply List.map_congr_left
      intro i hi
      obtain ⟨r, hr1, _⟩ := h1 i (by simpa using hi)
      simp [hr1]
    rw [this]
    rfl
  · intro i hi
    have hg0 : (if i < 64 then ([] : List (ByteArray × Nat)) else []) = [] := by split <;> rfl
    by_cases hlt : i < 64
    · obtain ⟨r, _, hr2, _, hr4⟩ := (hid i hi _ rfl).1 hlt
      rw [hr2]
      simpa [WSt.get] using hr4
    · rw [(hid i hi _ rfl).2 (by omega)]
      simpa [WSt.get] using h.far
  · intro i hi
    by_cases hlt : i < 64
    · obtain ⟨r, _, hr2, hr3, _⟩ := (hid i hi _ rfl).1 hlt
      rw [hr2]
      show r ≠ w0.heap.size
      omega
    · rw [(hid i hi _ rfl).2 (by omega)]
      show w0.heap.size + 1 ≠ w0.heap.size
      omega
  · intro i j hi hj e
    by_cases hlt : i < 64
    · obtain ⟨r, hr1, hr2, hr3, _⟩ := (hid i hi _ rfl).1 hlt
      by_cases hlt2 : j < 64
      · obtain ⟨r', hr1', hr2', _⟩ := (hid j hj _ rfl).1 hlt2
        exact h2 i j hlt hlt2 (by rw [hr1, hr1', ← hr2, ← hr2', e])
      · have := (hid j hj _ rfl).2 (by omega)
        omega
    · have h3 := (hid i hi _ rfl).2 (by omega)
      by_cases hlt2 : j < 64
      · obtain ⟨r', hr1', hr2', _⟩ := (hid j hj _ rfl).1 hlt2
        omega
      · omega
  · intro i
    show (if i < 64 then ([] : List (ByteArray × Nat)) else []) = []
    split <;> rfl
  · rintro k (rfl | rfl | ⟨i, hi, rfl⟩)
    · omega
    · exact Nat.le_refl _
    · by_cases hlt : i < 64
      · obtain ⟨r, _, hr2, hr3, _⟩ := (hid i hi _ rfl).1 hlt
        omega
      · rw [(hid i hi _ rfl).2 (by omega)]
        omega

set_option maxRecDepth 100000 in
set_option maxHeartbeats 400000 in
theorem new_any (w : World) (now : Nat) :
    Calls Tryd.prog 22 #[.int .u64 now] w fun e w' => ∃ S : WSt, e = .returned (.pointer (some ⟨w.heap.size + 2, 0, none⟩)) ∧ WheelAt w' (w.heap.size + 2) S ∧
      S.now = now ∧ S.all = [] ∧ (∀ i, S.get i = []) ∧ Below w.heap.size w w' ∧ (∀ k, S.foot (w.heap.size + 2) k → w.heap.size ≤ k) := by
  have hmm := @run_makeMap Tryd.prog
  have hz := zero_wheel
  have hz1 : (zcells = #[]) = False := by simp [zcells, mcells]
  have hz2 : zcells.size = 67 := rfl
  have hz3 := zcells_set now
  have hst := Making.start w now
  go_enter Tryd.func22, Tryd.ntmps22
  go_wp2_with (first | (at_delete; refine At.stop ?_) | (at_mapUpdate; refine At.stop ?_) | (at_lookup; refine At.stop ?_) | (at_range; refine At.stop ?_) | (at_next; refine At.stop ?_) | (at_builtin; refine At.stop ?_))
  clear hz hz1 hz2 hz3
  generalize ((w.alloc (Obj.map #[] 0)).alloc (Obj.map #[] 0)).alloc (Obj.cells (mcells now w.heap.size (w.heap.size + 1) fun x => none) 86) = w1 at hst ⊢
  rw [show w.heap.size + 1 + 1 = w.heap.size + 2 from rfl]
  generalize mcells now w.heap.size (w.heap.size + 1) (fun x => none) = mc
  go_loopw [11] (fun i wr => ∃ k : Nat, k ≤ 4 ∧ i = .int .i64 k ∧ Making w wr now (16 * k)) (fun i _ => 4 - (intOf i).toNat)
  case atStart => exact ⟨0, by omega, rfl, hst⟩
  case round =>
    obtain ⟨k, hk, rfl, hm⟩ := hrel
    clear hst
    by_cases hlt : k < 4
    · have hd : decide ((k : Int) < 4) = true := by simp; omega
      go_wp2_with (first | (at_delete; refine At.stop ?_) | (at_mapUpdate; refine At.stop ?_) | (at_lookup; refine At.stop ?_) | (at_range; refine At.stop ?_) | (at_next; refine At.stop ?_) | (at_builtin; refine At.stop ?_))
      go_loopw [14] (fun i wr => ∃ j : Nat, j ≤ 16 ∧ i = .int .i64 j ∧ Making w wr now (16 * k + j)) (fun i _ => 16 - (intOf i).toNat)
      case atStart => exact ⟨0, by omega, rfl, hm⟩
      case round =>
        obtain ⟨j, hj, rfl, hm2⟩ := hrel
        clear hm
        by_cases hlt2 : j < 16
        · have hnx := hm2.next (by omega)
          obtain ⟨⟨v, hcl⟩, hfz⟩ := hm2.cell (m := 16 * k + j) (by omega) (.map #[] 0)
          rw [show 2 + (16 * k + j) = 2 + k * 16 + j by omega] at hcl hfz hnx
          have HN := Lib.hid hnx
          clear hnx hm2
          go_wp2_with (first | (at_delete; refine At.stop ?_) | (at_mapUpdate; refine At.stop ?_) | (at_lookup; refine At.stop ?_) | (at_range; refine At.stop ?_) | (at_next; refine At.stop ?_) | (at_builtin; refine At.stop ?_))
          go_roundw
          case rel => exact ⟨j + 1, by omega, by go_num, HN.out⟩
          case measure => simp [intOf]; omega
        · obtain rfl : j = 16 := by omega
          go_wp2_with (first | (at_delete; refine At.stop ?_) | (at_mapUpdate; refine At.stop ?_) | (at_lookup; refine At.stop ?_) | (at_range; refine At.stop ?_) | (at_next; refine At.stop ?_) | (at_builtin; refine At.stop ?_))
          go_roundw
          case rel => exact ⟨k + 1, by omega, by go_num, by rw [show 16 * (k + 1) = 16 * k + 16 by omega]; exact hm2⟩
          case measure => simp [intOf]; omega
    · obtain rfl : k = 4 := by omega
      obtain ⟨S, h1, h2, h3, h4, h5⟩ := hm.done
      have HB := Lib.hid hm.below
      clear hm
      go_wp2_with (first | (at_delete; refine At.stop ?_) | (at_mapUpdate; refine At.stop ?_) | (at_lookup; refine At.stop ?_) | (at_range; refine At.stop ?_) | (at_next; refine At.stop ?_) | (at_builtin; refine At.stop ?_))
      go_ret
      exact ⟨S, rfl, h1, h2, h3, h4, HB.out, h5⟩
end Go.Proofs.YtmjbhnkhpgnchaaDoor
