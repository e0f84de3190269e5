/-
  The table's Clock, Get.
-/
import Derived.Test.YtmjbhnkhpgnchaaDoorTabC
import Derived.Test.YtmjbhnkhpgnchaaDoorClock
namespace Go.Proofs.YtmjbhnkhpgnchaaDoor
open Go Go.RowKit

set_option maxRecDepth 100000 in
set_option maxHeartbeats 400000 in
theorem tclock_any (w : World) (b : Nat) (T : TSt) (h : TabAt w b T) :
    Calls Tryd.prog 30 #[.pointer (some ⟨b, 0, none⟩)] w fun e w' => e = .returned (.int .u64 T.S.now) ∧ w = w' := by
  have c2 := h.c2
  have HC := Lib.hid (clock_any w T.f T.S h.whl)
  clear h
  go_enter Tryd.func30, Tryd.ntmps30
  go_wp2_with fail
  refine HC.out.mono ?_
  rintro e w' ⟨rfl, rfl⟩
  go_wp2_with fail
  go_ret
  exact ⟨rfl, rfl⟩

/-- what Get finds -/
def foundT (T : TSt) (name : ByteArray) : Tm := ((aget T.L name).map (·.1)).getD Tm.zero

def TGetSays (w : World) (T : TSt) (name : ByteArray) (e : Ending) (w' : World) : Prop :=
  ∃ dv', e = .returned (.tuple #[tmV (foundT T name) dv', .bool (aget T.L name).isSome]) ∧ OwnSt w.heap.size w' dv' (foundT T name).do_ ∧ RowKit.Below w.heap.size w w'

set_option maxRecDepth 100000 in
set_option maxHeartbeats 1000000 in
theorem tget_any (w : World) (b : Nat) (T : TSt) (h : TabAt w b T) (name : ByteArray) :
    Calls Tryd.prog 13 #[.pointer (some ⟨b, 0, none⟩), .string name] w (TGetSays w T name) := by
  have hblt := h.lt
  have hz := zero_api
  have c0 : ∀ a, (w.alloc a).cell? ⟨b, 0, none⟩ = some (.map (some T.rm)) := fun a => (World.cell?_of_block (w := w) (Below.heap_alloc w a b hblt)).trans h.c0
  have hM := h.all
  obtain ⟨t, dv, hagg, hrd, hsm, hft⟩ : ∃ t dv, ((aget T.L name).map encTM).getD (.agg #[.string ByteArray.empty, .int .i64 0, .int .u64 0, .int .u64 0, .slice none 0 0]) = tmV t dv ∧ RdSt w dv t.do_ ∧ t.do_.length ≤ 1000000 ∧ foundT T name = t := by
    unfold foundT
    cases hag : aget T.L name with
    | none => exact ⟨Tm.zero, .slice none 0 0, rfl, RdS.nil, by simp [Tm.zero], rfl⟩
    | some p =>
      have hmem := (aget_mem h.all.nodup).1 hag
      exact ⟨p.1, p.2, rfl, (h.steps _ hmem).rd encStp_len, (h.right _ hmem).2.small, rfl⟩
  obtain ⟨sa, sc, hsv, _⟩ : ∃ sa sc, dv = .slice sa t.do_.length sc ∧ True := by
    obtain ⟨sa, sc, h1, _⟩ := hrd
    exact ⟨sa, sc, h1, trivial⟩
  have hz5 : ((aget T.L name).map encTM).getD (.agg #[.string ByteArray.empty, .int .i64 0, .int .u64 0, .int .u64 0, .slice none 0 0]) = .agg #[.string t.name, .int .i64 t.ver, .int .u64 t.at_, .int .u64 t.every, .slice sa t.do_.length sc] := by rw [hagg, hsv]
  have hsay : TGetSays w T name = fun e w' => ∃ dv', e = .returned (.tuple #[tmV t dv', .bool (aget T.L name).isSome]) ∧ OwnSt w.heap.size w' dv' t.do_ ∧ RowKit.Below w.heap.size w w' := by
    funext e w'
    unfold TGetSays
    rw [hft]
  rw [hsay]
  have HC := Lib.hid (fun a b => copied_any ((w.alloc a).alloc b) t dv (hrd.move (((Fr.refl _ w).alloc a).alloc b)) hsm)
  rw [hsv] at HC
  have HZ := Lib.hid hz5
  clear h hz5 hagg hrd hsm hft hsay
  go_enter Tryd.func13, Tryd.ntmps13
  go_wp2_with (first | (at_delete; refine At.stop ?_) | (at_mapUpdate; refine At.stop ?_) | (at_lookup; refine At.stop ?_) | (at_range; refine At.stop ?_) | (at_next; refine At.stop ?_) | (at_builtin; refine At.stop ?_))
  refine At.go (wpl_lookup_ok rfl _ _ rfl Tryd.underlying52 key_tm (hM.alloc _) rfl name rfl _ (zero_api _) ?_)
  rw [HZ.out]
  go_wp2_with (first | (at_delete; refine At.stop ?_) | (at_mapUpdate; refine At.stop ?_) | (at_lookup; refine At.stop ?_) | (at_range; refine At.stop ?_) | (at_next; refine At.stop ?_) | (at_builtin; refine At.stop ?_))
  refine (HC.out _ _).mono ?_
  rintro e w3 ⟨dv', rfl, ho, hb⟩
  obtain ⟨sa', sc', hsv', _⟩ := ho.at.shape
  have hsz : ∀ a b : Obj, ((w.alloc a).alloc b).heap.size = w.heap.size + 2 := fun a b => by rw [World.size_alloc, World.size_alloc]
  have hb4 := (hb.block w.heap.size (by rw [hsz]; omega)).trans ((Below.heap_alloc _ _ _ (by rw [World.size_alloc]; omega)).trans (alloc_get w _ rfl))
  have hB3 : RowKit.Below w.heap.size w w3 := (((RowKit.Below.refl _ w).alloc (Nat.le_refl _) _).alloc (by rw [World.size_alloc]; omega) _).trans (hb.mono (by rw [hsz]; omega))
  have k0 : w3.cell? ⟨w.heap.size, 0, none⟩ = some (.string ByteArray.empty) := by simp [World.cell?, hb4]
  have k1 : w3.cell? ⟨w.heap.size, 1, none⟩ = some (.int .i64 0) := by simp [World.cell?, hb4]
  have k2 : w3.cell? ⟨w.heap.size, 2, none⟩ = some (.int .u64 0) := by simp [World.cell?, hb4]
  have k3 : w3.cell? ⟨w.heap.size, 3, none⟩ = some (.int .u64 0) := by simp [World.cell?, hb4]
  have k4 : w3.cell? ⟨w.heap.size, 4, none⟩ = some (.slice none 0 0) := by simp [World.cell?, hb4]
  have g0 : w3.frozen? ⟨w.heap.size, 0, none⟩ = false := by simp [World.frozen?, hb4]
  have g1 : w3.frozen? ⟨w.heap.size, 1, none⟩ = false := by simp [World.frozen?, hb4]
  have g2 : w3.frozen? ⟨w.heap.size, 2, none⟩ = false := by simp [World.frozen?, hb4]
  have g3 : w3.frozen? ⟨w.heap.size, 3, none⟩ = false := by simp [World.frozen?, hb4]
  have g4 : w3.frozen? ⟨w.heap.size, 4, none⟩ = false := by simp [World.frozen?, hb4]
  rw [hsz] at ho
  have HR := Lib.hid (And.intro ho (And.intro hB3 hb4))
  subst hsv'
  clear ho hb hB3 hb4 hsz HC HZ
  go_wp2_with fail
  obtain ⟨ho, hB3, hb4⟩ := HR.out
  refine bodyPost_ret (res_row_tmp rfl _ _ w.heap.size _ _ _ _ rfl (put5_get hb4 (.string t.name) (.int .i64 t.ver) (.int .u64 t.at_) (.int .u64 t.every) (.slice sa' t.do_.length sc')) Tryd.underlying25 rfl (by kernel_rfl)) rfl ?_
  have hF4 := put5_fr w3 w.heap.size (.string t.name) (.int .i64 t.ver) (.int .u64 t.at_) (.int .u64 t.every) (.slice sa' t.do_.length sc')
  refine ⟨.slice sa' t.do_.length sc', rfl, OwnS.wide (ho.fr hF4 (fun g hg e => by have e' : g = w.heap.size := e; have := (ho.lt g hg).1; omega)) (by omega), hB3.trans (hF4.below (B := w.heap.size) (fun k hk e => by have e' : k = w.heap.size := e; omega) (by have := hB3.size; omega))⟩
end Go.Proofs.YtmjbhnkhpgnchaaDoor
