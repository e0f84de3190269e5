/-
  timers.Right.
-/
import Derived.Test.YtmjbhnkhpgnchaaDoorEnc
namespace Go.Proofs.YtmjbhnkhpgnchaaDoor
open Go Go.RowKit

def rightT (t : Tm) : Bool :=
  decide (errA t.do_ = 0) && (!t.name.toList.isEmpty && (decide (t.name.size ≤ 16) && (decide (1 ≤ t.ver) && (decide (t.ver ≤ 1099511627776) && (decide (t.at_ ≤ 4611686018427387904) && decide (t.every ≤ 4611686018427387904))))))

/-- a timer as Go can have it -/
structure Tm.wf (t : Tm) : Prop where
  v0 : -9223372036854775808 ≤ t.ver
  v1 : t.ver ≤ 9223372036854775807
  at_ : t.at_ < 18446744073709551616
  every : t.every < 18446744073709551616
  steps : ∀ s ∈ t.do_, s.wf
  small : t.do_.length ≤ 1000000

def TRightSays (w : World) (t : Tm) (e : Ending) (w' : World) : Prop := e = .returned (.bool (rightT t)) ∧ RowKit.Below w.heap.size w w'

theorem tRight_of {w w' : World} {t : Tm} {b : Bool} (h : rightT t = b) (hb : RowKit.Below w.heap.size w w') : TRightSays w t (.returned (.bool b)) w' := ⟨by rw [h], hb⟩

set_option maxRecDepth 100000 in
set_option maxHeartbeats 1000000 in
theorem tright_any (w : World) (t : Tm) (dv : Value) (h : RdSt w dv t.do_) (hwf : t.wf) (htab : Tab w) :
    Calls Tryd.prog 11 #[tmV t dv] w (TRightSays w t) := by
  have hB1 := (RowKit.Below.refl w.heap.size w).alloc (Nat.le_refl _) (Obj.cells #[.string t.name, .int .i64 t.ver, .int .u64 t.at_, .int .u64 t.every, dv] 25)
  have HE := Lib.hid (action_any (w.alloc (Obj.cells #[.string t.name, .int .i64 t.ver, .int .u64 t.at_, .int .u64 t.every, dv] 25)) dv t.do_ (h.move ((Fr.refl _ w).alloc _)) hwf.small hwf.steps (htab.below hB1))
  obtain ⟨sa, sc, hsv, _⟩ : ∃ sa sc, dv = .slice sa t.do_.length sc ∧ True := by
    obtain ⟨sa, sc, h1, _⟩ := h
    exact ⟨sa, sc, h1, trivial⟩
  have h5 : (tmV t dv) = .agg #[.string t.name, .int .i64 t.ver, .int .u64 t.at_, .int .u64 t.every, .slice sa t.do_.length sc] := by rw [hsv]
  rw [h5]
  rw [hsv] at HE hB1
  have HB := Lib.hid hB1
  clear h h5 hsv hB1 htab hwf
  go_enter Tryd.func11, Tryd.ntmps11
  go_wp2_with fail
  refine HE.out.mono ?_
  rintro e w1 ⟨v', rfl, ho, hb⟩
  have hsz : (w.alloc (Obj.cells #[.string t.name, .int .i64 t.ver, .int .u64 t.at_, .int .u64 t.every, .slice sa t.do_.length sc] 25)).heap.size = w.heap.size + 1 := World.size_alloc ..
  have hb0 := (hb.block w.heap.size (by rw [hsz]; omega)).trans (alloc_get w _ rfl)
  have d0 : w1.cell? ⟨w.heap.size, 0, none⟩ = some (.string t.name) := by simp [World.cell?, hb0]
  have d1 : w1.cell? ⟨w.heap.size, 1, none⟩ = some (.int .i64 t.ver) := by simp [World.cell?, hb0]
  have d2 : w1.cell? ⟨w.heap.size, 2, none⟩ = some (.int .u64 t.at_) := by simp [World.cell?, hb0]
  have d3 : w1.cell? ⟨w.heap.size, 3, none⟩ = some (.int .u64 t.every) := by simp [World.cell?, hb0]
  have HK := Lib.hid (HB.out.trans (hb.mono (by rw [hsz]; omega)))
  obtain ⟨ee, hee⟩ : ∃ ee, ee = errA t.do_ := ⟨_, rfl⟩
  rw [← hee]
  have hR : rightT t = (decide (ee = 0) && (!t.name.toList.isEmpty && (decide (t.name.size ≤ 16) && (decide (1 ≤ t.ver) && (decide (t.ver ≤ 1099511627776) && (decide (t.at_ ≤ 4611686018427387904) && decide (t.every ≤ 4611686018427387904))))))) := by rw [hee]; rfl
  have HR := Lib.hid hR
  clear hb hb0 ho hsz HE HB hee hR
  by_cases h0 : ee = 0
  · subst h0
    go_wp2_with fail
    all_goals
      go_ret
      refine tRight_of ?_ HK.out
      rw [HR.out]
      first
        | (simp_all; done)
        | (simp_all; omega)
        | (simp_all; rw [Bool.eq_iff_iff]; simp only [Bool.and_eq_true, decide_eq_true_eq]; exact ⟨fun h => ⟨h.1, by omega⟩, fun h => ⟨h.1, by omega, by omega, by omega⟩⟩)
  · have hne : (ee == 0) = false := by simpa using h0
    go_wp2_with fail
    go_ret
    refine tRight_of ?_ HK.out
    rw [HR.out]
    simp [h0]
end Go.Proofs.YtmjbhnkhpgnchaaDoor
