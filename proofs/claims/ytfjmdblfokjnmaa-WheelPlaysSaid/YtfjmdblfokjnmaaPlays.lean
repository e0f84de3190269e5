/-
  WheelPlays returns true for every clock and every script, and writes nothing that was there (no condition: the given statement as it stands).
-/
import Derived.Test.YtfjmdblfokjnmaaRows
import Derived.Test.YtfjmdblfokjnmaaPlayB
import Derived.WalkKit
import Derived.ProofKit
import Derived.OpenShut
import Derived.ShutString
import Derived.ChangeOld
import Derived.Below
import Derived.Deep.Slices
import Derived.Lib.SmallJoins
namespace Go.Proofs.Ytfjmdblfokjnmaa
open Go Go.ChangeShapes Go.WideShapes Go.ChangeAt Go.RowKit

namespace Plays
theorem own : ownKnob Try.prog.godebug = none := by kernel_rfl
theorem laidOut : laidOutB Try.prog = true := by kernel_rfl

theorem add_off (g o k : Nat) : (⟨g, o, none⟩ : Addr).add k = ⟨g, o + k, none⟩ := by unfold Addr.add; split <;> simp_all

theorem wf_u64 {n : Int} (h : (Lit.int .u64 n).wf = true) : 0 ≤ n ∧ n < 18446744073709551616 := by
  simp [Lit.wf, IntKind.min, IntKind.max, IntKind.signed, IntKind.bits] at h
  omega
theorem wf_i64 {n : Int} (h : (Lit.int .i64 n).wf = true) : -9223372036854775808 ≤ n ∧ n ≤ 9223372036854775807 := by
  simp [Lit.wf, IntKind.min, IntKind.max, IntKind.signed, IntKind.bits] at h
  omega

/-- one act lies there -/
def ActGood (W : World) (ad : Addr) (i : Nat) (y : ActV) : Prop := y.ok ∧ ad.spot = none ∧ ad.block < W.heap.size ∧ W.cell? ⟨ad.block, ad.off + i * 4, none⟩ = some (.int .i64 y.kind) ∧ W.cell? ⟨ad.block, ad.off + i * 4 + 1, none⟩ = some (.string y.name) ∧
  W.cell? ⟨ad.block, ad.off + i * 4 + 2, none⟩ = some (.int .u64 y.at_) ∧ W.cell? ⟨ad.block, ad.off + i * 4 + 3, none⟩ = some (.int .u64 y.by_)

theorem choose_fn {p : Nat → ActV → Prop} {m : Nat} (h : ∀ i, i < m → ∃ y, p i y) : ∃ f : Nat → ActV, ∀ i, i < m → p i (f i) := by
  refine ⟨fun i => if hi : i < m then (h i hi).choose else ⟨0, ⟨#[]⟩, 0, 0⟩, fun i hi => ?_⟩
  show p i (if hi : i < m then (h i hi).choose else _)
  rw [dif_pos hi]
  exact (h i hi).choose_spec

set_option maxRecDepth 100000 in
/-- the script, opened -/
theorem open_acts {H : Type} {enc : TypeId × Value → H} {W : World} {spare : Nat → Bool} {held : Bool} {fuel : Nat} {a : Option Addr} {len cap : Nat} {x : DataW H × List MemPlace}
    (h : DataW.trod enc Try.prog W 0 spare held fuel 23 [.slice a len cap] = some x) : ∃ acts : List ActV, acts.length = len ∧ ActsAt W a acts ∧ (∀ y ∈ acts, y.ok) ∧ len ≤ maxLen := by
  rcases Deep.open_slice Try.underlying23 h with ⟨h0, _⟩ | ⟨ad, l, c, m, n, D, Pl, h0, hb, hl, hm, hmm, hx, hcell⟩
  · simp only [List.cons.injEq, Value.slice.injEq, and_true] at h0
    obtain ⟨rfl, rfl, rfl⟩ := h0
    exact ⟨[], rfl, (fun i y hy => by simp at hy), (fun y hy => by cases hy), by simp⟩
  · simp only [List.cons.injEq, Value.slice.injEq, and_true] at h0
    obtain ⟨rfl, rfl, rfl⟩ := h0
    have hlm : len ≤ m := by rw [hmm]; split <;> omega
    have c4 : Try.prog.cellsOf 31 = 4 := by kernel_rfl
    have k0 : Try.prog.cellsOf 3 = 1 := by kernel_rfl
    have k1 : Try.prog.cellsOf 9 = 1 := by kernel_rfl
    have k2 : Try.prog.cellsOf 22 = 1 := by kernel_rfl
    by_cases hm0 : len = 0
    · exact ⟨[], by simp [hm0], (fun i y hy => by simp at hy), (fun y hy => by cases hy), by rw [hm0]; exact Nat.zero_le _⟩
    have hspot : ad.spot = none := by
      obtain ⟨cs', h1, h2⟩ := hcell 0 (by omega)
      rw [c4] at h1
      obtain ⟨_, hlen, hc⟩ := World.cells?_some h1
      have h3 := hc 0 (by omega)
      rw [List.getElem?_eq_getElem (by omega)] at h3
      exact World.cell?_spot (a := ad) (by simpa [Addr.add] using h3)
    have each : ∀ i, i < m → ∃ y : ActV, ActGood W ad i y := by
      intro i hi
      obtain ⟨cs', h1, h2⟩ := hcell i hi
      rw [c4] at h1
      obtain ⟨_, hlen, hc⟩ := World.cells?_some h1
      obtain ⟨y0, y1, y2, y3, k, _, _, g0, g1, g2, g3⟩ := Joins.trod_struct4 Try.underlying31 h2
      match cs', hlen with
      | [v0, v1, v2, v3], _ =>
        simp only [k0, k1, k2, List.drop_zero, List.drop_succ_cons, List.take_succ_cons, List.take_zero] at g0 g1 g2 g3
        obtain ⟨n0, e0, _, w0⟩ := DataW.trod_int Try.underlying3 g0
        obtain ⟨s1, e1, _, _⟩ := DataW.trod_string Try.underlying9 g1
        obtain ⟨n2, e2, _, w2⟩ := DataW.trod_int Try.underlying22 g2
        obtain ⟨n3, e3, _, w3⟩ := DataW.trod_int Try.underlying22 g3
        simp only [List.cons.injEq, and_true] at e0 e1 e2 e3
        subst e0; subst e1; subst e2; subst e3
        obtain ⟨b, off, spot⟩ := ad
        have hc0 := hc 0 (by omega)
        obtain rfl : spot = none := hspot
        have hc1 := hc 1 (by omega)
        have hc2 := hc 2 (by omega)
        have hc3 := hc 3 (by omega)
        rw [add_off, add_off] at hc0 hc1 hc2 hc3
        have w0 := wf_i64 w0
        have w2 := wf_u64 w2
        have w3 := wf_u64 w3
        have q0 : W.cell? ⟨b, off + i * 4, none⟩ = some (.int .i64 n0) := hc0
        refine ⟨⟨n0, s1, n2.toNat, n3.toNat⟩, ?_, rfl, ?_, hc0, hc1, ?_, ?_⟩
        · exact ⟨by show _ ≤ n0; omega, by show n0 ≤ _; omega, by show n2.toNat < _; omega, by show n3.toNat < _; omega⟩
        · apply Classical.byContradiction
          intro hge
          simp only [World.cell?] at q0
          rw [Array.getElem?_eq_none (by show W.heap.size ≤ b; exact Nat.le_of_not_lt hge)] at q0
          cases q0
        · rw [show (((⟨n0, s1, n2.toNat, n3.toNat⟩ : ActV).at_ : Nat) : Int) = n2 by show ((n2.toNat : Nat) : Int) = n2; omega]
          exact hc2
        · rw [show (((⟨n0, s1, n2.toNat, n3.toNat⟩ : ActV).by_ : Nat) : Int) = n3 by show ((n3.toNat : Nat) : Int) = n3; omega]
          exact hc3
    obtain ⟨f, hf⟩ := choose_fn each
    refine ⟨(List.range len).map f, by simp, ?_, ?_, Nat.le_trans hl hm⟩
    · intro i y hy
      rw [List.getElem?_map] at hy
      obtain ⟨j, hj, e⟩ := Option.map_eq_some_iff.1 hy
      obtain ⟨hjl, hj2⟩ := List.getElem?_eq_some_iff.1 hj
      rw [List.getElem_range] at hj2
      subst hj2
      subst e
      rw [List.length_range] at hjl
      obtain ⟨_, hs, hlt, q0, q1, q2, q3⟩ := hf i (by omega)
      obtain ⟨b, off, spot⟩ := ad
      subst hs
      exact ⟨b, off, rfl, hlt, q0, q1, q2, q3⟩
    · intro y hy
      obtain ⟨i, hi, e⟩ := List.mem_map.1 hy
      subst e
      exact (hf i (by have := List.mem_range.1 hi; omega)).1

/-! THE ROW's STEP -/
set_option maxRecDepth 100000 in
theorem lifted (os : Os) (started : os.Started) (H : Type) (enc : TypeId × Value → H) :
    ReturnsInHanded {} Try.checked os 3 .any (Rows.wheelPlaysSpec.pre6 enc Try.prog Try.f3 Rows.wheelPlaysRow.domain false) (Rows.wheelPlaysSpec.post enc Try.prog Try.f3 false true false false) := by
  refine returnsInHanded_of_change (C := Try.checked) own started (by kernel_rfl) Try.func3
    (ChangeSpec.witness6 (enc := enc) (C := Try.checked) false ⟨#[], #[.int .u64 0, .slice none 0 0], []⟩ 8 (by kernel_rfl) (by kernel_rfl) (by kernel_rfl) (by kernel_rfl)) ?_
  intro W base args ds gs before hval0 hW hcnd _
  have hval : ∀ (j : Nat) t v, Try.f3.params[j]? = some t → args[j]? = some v → Value.okWide Try.prog W .any base t v := hval0
  have hW' := hW
  obtain ⟨p, q, hA0, hV, rfl, hfz, hnd⟩ := hW
  have hA : DataW.TrodAll enc Try.prog W 0 (fun _ => true) true Try.f3.params.toList args.toList ds p := hA0
  rw [Try.params3] at hA hval
  obtain ⟨v0, vs0, d0, ds0, p0, q0, hargs, rfl, rfl, h0, r0⟩ := trodAll_cons hA
  obtain ⟨v1, vs1, d1, ds1, p1, q1, rfl, rfl, rfl, h1, r1⟩ := trodAll_cons r0
  obtain ⟨rfl, rfl, rfl⟩ := trodAll_nil r1
  obtain rfl : args = #[v0, v1] := by cases args; simp_all
  obtain ⟨rfl, rfl⟩ := trodVars_none hV
  obtain ⟨a0, rfl, rfl, rfl, w0⟩ := open_int Try.underlying22 (hval 0 22 v0 rfl rfl) h0
  obtain ⟨a1, len1, cap1, rfl⟩ := okWide_slice Try.underlying23 (hval 1 23 v1 rfl rfl)
  have k1 := h1
  have lt1 : ∀ x ∈ p1, x.block < W.heap.size := by obtain ⟨m, hm⟩ := k1; exact DataW.trod_lt m _ _ _ hm
  obtain ⟨acts, hlen, hacts, hok, hmax⟩ : ∃ acts : List ActV, acts.length = len1 ∧ ActsAt W a1 acts ∧ (∀ y ∈ acts, y.ok) ∧ len1 ≤ maxLen := by
    obtain ⟨fuel, hf⟩ := h1
    exact open_acts hf
  subst hlen
  have ha0 : ((a0.toNat : Nat) : Int) = a0 ∧ a0.toNat < 18446744073709551616 := by
    have := wf_u64 w0
    omega
  clear hA0 hval0
  have hwalk := plays_walk W a0.toNat a1 cap1 acts ha0.2 hacts hok (by unfold maxLen at hmax; omega)
  rw [ha0.1] at hwalk
  refine hwalk.mono fun e W' ⟨he, bel⟩ => ?_
  subst he
  exact ⟨_, rfl, _, _, _, [], _, [], hW', trodAll_mk1 (shut_bool Try.underlying4 _), (trodAll_cons_mk (shut_int Try.underlying22 w0) (trodAll_cons_mk (Below.trod laidOut (by kernel_rfl) (of_decide_eq_true (by kernel_rfl)) k1 bel lt1) trodAll_mk0)), rfl, bel.frame _, fun h => by cases h⟩

theorem over : Rows.wheelPlaysRow.holds Try.pinned (OpenSpec.ofChange Rows.wheelPlaysSpec) :=
  OpenClaim.holds_of_wide 3 Try.f3 rfl rfl rfl rfl rfl rfl rfl ⟨rfl, rfl, rfl, rfl, rfl⟩ rfl rfl rfl rfl rfl (by kernel_rfl) Try.func3 (by kernel_rfl)
    (of_decide_eq_true (by kernel_rfl)) (by unfold Func.isWrapper; first | (rw [if_pos (by decide +kernel)]; kernel_rfl) | (rw [if_neg (by decide +kernel)]; exact ⟨rfl, rfl⟩))
    (fun os started H enc _ => lifted os started H enc)
end Plays

/-- THE STATEMENT -/
theorem wheelPlays_holds : Rows.WheelPlaysSaid := Plays.over
#print axioms wheelPlays_holds
end Go.Proofs.Ytfjmdblfokjnmaa
