/-
  Fits.
-/
import Derived.Test.YtmjbhnkhpgnchaaDoorRefTen
namespace Go.Proofs.YtmjbhnkhpgnchaaDoor
open Go Go.RowKit

/-- few steps, short texts -/
def fits (t : Tm) : Prop := t.do_.length ≤ 10 ∧ (∀ s ∈ t.do_, s.key.size ≤ 100 ∧ s.val.size ≤ 100) ∧ t.name.size ≤ 100

def FitsSays (w : World) (t : Tm) (e : Ending) (w' : World) : Prop := ∃ b : Bool, e = .returned (.bool b) ∧ (b = true ↔ fits t) ∧ RowKit.Below w.heap.size w w'

set_option maxRecDepth 100000 in
set_option maxHeartbeats 1000000 in
theorem fits_any (w : World) (t : Tm) (dv : Value) (h : RdSt w dv t.do_) (hl : t.do_.length ≤ 9223372036854775807) :
    Calls Tryd.prog 5 #[tmV t dv] w (FitsSays w t) := by
  have hrd := h.move ((Fr.refl _ w).alloc (Obj.cells #[.string t.name, .int .i64 t.ver, .int .u64 t.at_, .int .u64 t.every, dv] 25))
  have hB := (RowKit.Below.refl w.heap.size w).alloc (Nat.le_refl _) (Obj.cells #[.string t.name, .int .i64 t.ver, .int .u64 t.at_, .int .u64 t.every, dv] 25)
  obtain ⟨sa, sc, rfl, _, hc⟩ := hrd
  have HC := Lib.hid hc
  have HB := Lib.hid hB
  have h5 : (tmV t (.slice sa t.do_.length sc)) = .agg #[.string t.name, .int .i64 t.ver, .int .u64 t.at_, .int .u64 t.every, .slice sa t.do_.length sc] := rfl
  rw [h5]
  clear hc hB h h5
  go_enter Tryd.func5, Tryd.ntmps5
  go_wp2_with fail
  go_loopg [3] t.do_.length (fun n i wr => ∃ k : Nat, k + n = t.do_.length ∧ k ≤ 10 ∧ i = .int .i64 k ∧ (∀ j s, j < k → t.do_[j]? = some s → s.key.size ≤ 100 ∧ s.val.size ≤ 100) ∧ wr = w.alloc (Obj.cells #[.string t.name, .int .i64 t.ver, .int .u64 t.at_, .int .u64 t.every, .slice sa t.do_.length sc] 25))
  case atStart => exact ⟨0, by omega, by omega, rfl, fun j s h => by omega, rfl⟩
  case round =>
    obtain ⟨k, hk, hk10, rfl, hj, rfl⟩ := hrel
    have HJ := Lib.hid hj
    clear hj
    by_cases hlt : k < t.do_.length
    · have hi0 : (k : Int) < (t.do_.length : Int) := by omega
      obtain ⟨p, hp⟩ : ∃ p, t.do_[k]? = some p := ⟨_, List.getElem?_eq_getElem hlt⟩
      obtain ⟨g, off, rfl, _, hc⟩ := HC.out k p hp
      have HP := Lib.hid hp
      clear hp
      by_cases h10 : k = 10
      · have e10 : ((k : Int) == 10) = true := by simp; omega
        go_wp2_with fail
        go_ret
        exact ⟨false, rfl, ⟨(fun h => by cases h), fun h => absurd h.1 (by omega)⟩, HB.out⟩
      · have e10 : ((k : Int) == 10) = false := by simp; omega
        have c1 := hc 1 _ rfl
        have c2 := hc 2 _ rfl
        clear hc
        by_cases hks : p.key.size ≤ 100
        · by_cases hvs : p.val.size ≤ 100
          · have e1 : decide ((p.key.size : Int) > 100) = false := by simp; omega
            have e2 : decide ((p.val.size : Int) > 100) = false := by simp; omega
            go_wp2_with fail
            go_roundg (t.do_.length - (k + 1))
            case measure => omega
            case rel =>
              refine ⟨k + 1, by omega, by omega, by go_num, fun j s hj hs => ?_, rfl⟩
              by_cases hjk : j < k
              · exact HJ.out j s hjk hs
              · obtain rfl : j = k := by omega
                rw [HP.out] at hs
                obtain rfl := Option.some.inj hs
                exact ⟨hks, hvs⟩
          · have e1 : decide ((p.key.size : Int) > 100) = false := by simp; omega
            have e2 : decide ((p.val.size : Int) > 100) = true := by simp; omega
            go_wp2_with fail
            go_ret
            exact ⟨false, rfl, ⟨(fun h => by cases h), fun h => absurd (h.2.1 p (List.mem_of_getElem? HP.out)).2 hvs⟩, HB.out⟩
        · have e1 : decide ((p.key.size : Int) > 100) = true := by simp; omega
          go_wp2_with fail
          go_ret
          exact ⟨false, rfl, ⟨(fun h => by cases h), fun h => absurd (h.2.1 p (List.mem_of_getElem? HP.out)).1 hks⟩, HB.out⟩
    · obtain rfl : k = t.do_.length := by omega
      go_wp2_with fail
      go_ret
      refine ⟨_, rfl, ?_, HB.out⟩
      rw [decide_eq_true_eq]
      constructor
      · intro h
        refine ⟨hk10, fun s hs => ?_, by omega⟩
        obtain ⟨i, hi⟩ := List.getElem?_of_mem hs
        exact HJ.out i s (List.getElem?_eq_some_iff.1 hi).1 hi
      · intro h
        have := h.2.2
        omega
end Go.Proofs.YtmjbhnkhpgnchaaDoor
