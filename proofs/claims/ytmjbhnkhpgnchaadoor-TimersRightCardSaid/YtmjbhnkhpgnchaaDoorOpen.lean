/-
  A timer and a step that come in, opened; the listed tables.
-/
import Derived.Test.YtmjbhnkhpgnchaaDoorRows
import Derived.Test.YtmjbhnkhpgnchaaDoorTRight
import Derived.WalkKit
import Derived.ProofKit
import Derived.OpenShut
import Derived.LaidMore
import Derived.ShutString
import Derived.ChangeOld
import Derived.Below
import Derived.Deep.Slices
import Derived.Lib.SmallJoins
import Derived.Lib.LaidTab
import Derived.Stop.Joined
namespace Go.Proofs.YtmjbhnkhpgnchaaDoor
open Go Go.ChangeShapes Go.WideShapes Go.ChangeAt Go.RowKit

namespace Opn
theorem own : ownKnob Tryd.prog.godebug = none := by kernel_rfl
theorem laidOut : laidOutB Tryd.prog = true := by kernel_rfl
theorem add_off (g o k : Nat) : (⟨g, o, none⟩ : Addr).add k = ⟨g, o + k, none⟩ := by unfold Addr.add; split <;> simp_all
theorem wf_u64 {n : Int} (h : (Lit.int .u64 n).wf = true) : 0 ≤ n ∧ n < 18446744073709551616 := by
  simp [Lit.wf, IntKind.min, IntKind.max, IntKind.signed, IntKind.bits] at h
  omega
theorem wf_i64 {n : Int} (h : (Lit.int .i64 n).wf = true) : -9223372036854775808 ≤ n ∧ n ≤ 9223372036854775807 := by
  simp [Lit.wf, IntKind.min, IntKind.max, IntKind.signed, IntKind.bits] at h
  omega

theorem choose_fn {α : Type} (d : α) {p : Nat → α → Prop} {m : Nat} (h : ∀ i, i < m → ∃ y, p i y) : ∃ f : Nat → α, ∀ i, i < m → p i (f i) := by
  refine ⟨fun i => if hi : i < m then (h i hi).choose else d, fun i hi => ?_⟩
  show p i (if hi : i < m then (h i hi).choose else _)
  rw [dif_pos hi]
  exact (h i hi).choose_spec

/-- one step lies there -/
def StpGood (W : World) (ad : Addr) (i : Nat) (y : Stp) : Prop := y.wf ∧ ad.spot = none ∧ ad.block < W.heap.size ∧ ∀ j u, (encStp y)[j]? = some u → W.cell? ⟨ad.block, ad.off + i * 4 + j, none⟩ = some u

section
variable {H : Type} {enc : TypeId × Value → H} {W : World} {spare : Nat → Bool} {held : Bool} {fuel base : Nat} {P : Program}

theorem c4 : Tryd.prog.cellsOf 36 = 4 := by kernel_rfl
theorem kk : Tryd.prog.cellsOf 34 = 1 := by kernel_rfl
theorem ks : Tryd.prog.cellsOf 9 = 1 := by kernel_rfl
theorem ki : Tryd.prog.cellsOf 2 = 1 := by kernel_rfl
theorem ki2 : Tryd.prog.cellsOf 3 = 1 := by kernel_rfl

set_option maxRecDepth 100000 in
/-- four cells that read as a step -/
theorem step_cells {cs : List Value} {x : DataW H × List MemPlace} (h : DataW.trod enc Tryd.prog W base spare held fuel 36 cs = some x) : ∃ y : Stp, cs = encStp y ∧ y.wf := by
  obtain ⟨y0, y1, y2, y3, k, _, hlen, g0, g1, g2, g3⟩ := Joins.trod_struct4 Tryd.underlying36 h
  rw [c4] at hlen
  match cs, hlen with
  | [v0, v1, v2, v3], _ =>
    simp only [kk, ks, ki, List.drop_zero, List.drop_succ_cons, List.take_succ_cons, List.take_zero] at g0 g1 g2 g3
    obtain ⟨n0, e0, _, w0⟩ := DataW.trod_int Tryd.underlying34 g0
    obtain ⟨s1, e1, _, _⟩ := DataW.trod_string Tryd.underlying9 g1
    obtain ⟨s2, e2, _, _⟩ := DataW.trod_string Tryd.underlying9 g2
    obtain ⟨n3, e3, _, w3⟩ := DataW.trod_int Tryd.underlying2 g3
    simp only [List.cons.injEq, and_true] at e0 e1 e2 e3
    subst e0; subst e1; subst e2; subst e3
    have w0 := wf_i64 w0
    have w3 := wf_i64 w3
    exact ⟨⟨n0, s1, s2, n3⟩, rfl, ⟨w3.1, w3.2, w0.1, w0.2⟩⟩

set_option maxRecDepth 100000 in
/-- the steps, opened -/
theorem open_steps {c : Value} {x : DataW H × List MemPlace}
    (h : DataW.trod enc Tryd.prog W base spare held fuel 23 [c] = some x) : ∃ ss : List Stp, RdSt W c ss ∧ (∀ s ∈ ss, s.wf) ∧ ss.length ≤ maxLen := by
  rcases Deep.open_slice Tryd.underlying23 h with ⟨h0, _⟩ | ⟨ad, l, cap, m, n, D, Pl, h0, hb, hl, hm, hmm, hx, hcell⟩
  · simp only [List.cons.injEq, and_true] at h0
    subst h0
    exact ⟨[], RdS.nil, (fun s hs => by cases hs), by simp⟩
  · simp only [List.cons.injEq, and_true] at h0
    subst h0
    have hlm : l ≤ m := by rw [hmm]; split <;> omega
    have each : ∀ i, i < m → ∃ y : Stp, StpGood W ad i y := by
      intro i hi
      obtain ⟨cs', h1, h2⟩ := hcell i hi
      rw [c4] at h1
      obtain ⟨_, hlen, hc⟩ := World.cells?_some h1
      obtain ⟨y, rfl, hwf⟩ := step_cells h2
      have hspot : ad.spot = none := by
        obtain ⟨cs0, h10, _⟩ := hcell 0 (by omega)
        rw [c4] at h10
        obtain ⟨_, hlen0, hc0⟩ := World.cells?_some h10
        have h3 := hc0 0 (by omega)
        rw [List.getElem?_eq_getElem (by omega)] at h3
        exact World.cell?_spot (a := ad) (by simpa [Addr.add] using h3)
      obtain ⟨b, off, spot⟩ := ad
      obtain rfl : spot = none := hspot
      have hcc : ∀ j u, (encStp y)[j]? = some u → W.cell? ⟨b, off + i * 4 + j, none⟩ = some u := fun j u hu => by
        have hj : j < 4 := (List.getElem?_eq_some_iff.1 hu).1
        have := hc j hj
        rw [add_off, add_off] at this
        rw [this]
        exact hu
      refine ⟨y, hwf, rfl, ?_, hcc⟩
      have q0 := hcc 0 _ rfl
      apply Classical.byContradiction
      intro hge
      simp only [World.cell?] at q0
      rw [Array.getElem?_eq_none (by show W.heap.size ≤ b; exact Nat.le_of_not_lt hge)] at q0
      cases q0
    obtain ⟨f, hf⟩ := choose_fn (⟨0, ⟨#[]⟩, ⟨#[]⟩, 0⟩ : Stp) each
    refine ⟨(List.range l).map f, ⟨some ad, cap, by simp, by simpa using hl, ?_⟩, ?_, by simpa using Nat.le_trans hl hm⟩
    · intro i y hy
      rw [List.getElem?_map] at hy
      obtain ⟨j, hj, e⟩ := Option.map_eq_some_iff.1 hy
      obtain ⟨hjl, hj2⟩ := List.getElem?_eq_some_iff.1 hj
      rw [List.getElem_range] at hj2
      subst hj2
      subst e
      rw [List.length_range] at hjl
      obtain ⟨_, hs, hlt, q⟩ := hf i (by omega)
      obtain ⟨b, off, spot⟩ := ad
      subst hs
      exact ⟨b, off, rfl, hlt, q⟩
    · intro y hy
      obtain ⟨i, hi, e⟩ := List.mem_map.1 hy
      subst e
      exact (hf i (by have := List.mem_range.1 hi; omega)).1

theorem array5 {α : Type} {cs : Array α} (h : cs.size = 5) : ∃ c0 c1 c2 c3 c4, cs = #[c0, c1, c2, c3, c4] := by
  obtain ⟨l⟩ := cs
  match l, h with
  | [c0, c1, c2, c3, c4], _ => exact ⟨c0, c1, c2, c3, c4, rfl⟩

theorem trod_struct5 {t : TypeId} {f0 f1 f2 f3 f4 : Field} {cs : List Value} {x : DataW H × List MemPlace} (ht : P.underlying t = some (.struct #[f0, f1, f2, f3, f4])) (h : DataW.trod enc P W base spare held fuel t cs = some x) :
    ∃ y0 y1 y2 y3 y4 n, DataW.trod enc P W base spare held n f0.type ((cs.drop f0.offset).take (P.cellsOf f0.type)) = some y0 ∧
      DataW.trod enc P W base spare held n f1.type ((cs.drop f1.offset).take (P.cellsOf f1.type)) = some y1 ∧ DataW.trod enc P W base spare held n f2.type ((cs.drop f2.offset).take (P.cellsOf f2.type)) = some y2 ∧
      DataW.trod enc P W base spare held n f3.type ((cs.drop f3.offset).take (P.cellsOf f3.type)) = some y3 ∧ DataW.trod enc P W base spare held n f4.type ((cs.drop f4.offset).take (P.cellsOf f4.type)) = some y4 := by
  obtain ⟨xs, n, _, rfl, hl, hlen, hf⟩ := DataW.trod_struct ht h
  match xs, hlen with
  | [y0, y1, y2, y3, y4], _ => exact ⟨y0, y1, y2, y3, y4, n, by simpa using hf 0 f0 rfl, by simpa using hf 1 f1 rfl, by simpa using hf 2 f2 rfl, by simpa using hf 3 f3 rfl, by simpa using hf 4 f4 rfl⟩

theorem c5 : Tryd.prog.cellsOf 25 = 5 := by kernel_rfl
theorem ku : Tryd.prog.cellsOf 22 = 1 := by kernel_rfl
theorem ksl : Tryd.prog.cellsOf 23 = 1 := by kernel_rfl

set_option maxRecDepth 100000 in
/-- a timer that comes in, opened -/
theorem open_timer {r : Reach} {b0 : Nat} {v : Value} {d : DataW H} {p : List MemPlace} (hv : Value.okWide Tryd.prog W r b0 25 v) (h : DataW.Trod enc Tryd.prog W base spare held 25 v d p) :
    ∃ (t : Tm) (dv : Value), v = tmV t dv ∧ RdSt W dv t.do_ ∧ t.do_.length ≤ maxLen ∧ (t.do_.length ≤ 1000000 → t.wf) := by
  obtain ⟨cs, rfl, hsz⟩ := okWide_struct Tryd.underlying25 hv
  obtain ⟨v0, v1, v2, v3, v4, rfl⟩ := array5 (hsz.trans c5)
  obtain ⟨fuel, hf⟩ := h
  obtain ⟨y0, y1, y2, y3, y4, n, g0, g1, g2, g3, g4⟩ := trod_struct5 Tryd.underlying25 hf
  simp only [Value.cells, ks, ku, ki2, ksl, List.drop_zero, List.drop_succ_cons, List.take_succ_cons, List.take_zero] at g0 g1 g2 g3 g4
  obtain ⟨s0, e0, _, _⟩ := DataW.trod_string Tryd.underlying9 g0
  obtain ⟨n1, e1, _, w1⟩ := DataW.trod_int Tryd.underlying3 g1
  obtain ⟨n2, e2, _, w2⟩ := DataW.trod_int Tryd.underlying22 g2
  obtain ⟨n3, e3, _, w3⟩ := DataW.trod_int Tryd.underlying22 g3
  obtain ⟨ss, hrd, hwf, hmx⟩ := open_steps g4
  simp only [List.cons.injEq, and_true] at e0 e1 e2 e3
  subst e0; subst e1; subst e2; subst e3
  have w1 := wf_i64 w1
  have w2 := wf_u64 w2
  have w3 := wf_u64 w3
  have h2 : ((n2.toNat : Nat) : Int) = n2 := by omega
  have h3 : ((n3.toNat : Nat) : Int) = n3 := by omega
  refine ⟨⟨s0, n1, n2.toNat, n3.toNat, ss⟩, v4, ?_, hrd, hmx, fun hl => ⟨w1.1, w1.2, ?_, ?_, hwf, hl⟩⟩
  · show Value.agg _ = Value.agg #[.string s0, .int .i64 n1, .int .u64 ((n2.toNat : Nat) : Int), .int .u64 ((n3.toNat : Nat) : Int), v4]
    rw [h2, h3]
  · show n2.toNat < _
    omega
  · show n3.toNat < _
    omega

set_option maxRecDepth 100000 in
/-- a step that comes in, opened -/
theorem open_step {r : Reach} {b0 : Nat} {v : Value} {d : DataW H} {p : List MemPlace} (hv : Value.okWide Tryd.prog W r b0 36 v) (h : DataW.Trod enc Tryd.prog W base spare held 36 v d p) :
    ∃ s : Stp, v = stpV s ∧ s.wf := by
  obtain ⟨cs, rfl, hsz⟩ := okWide_struct Tryd.underlying36 hv
  obtain ⟨fuel, hf⟩ := h
  obtain ⟨s, hs, hwf⟩ := step_cells hf
  refine ⟨s, ?_, hwf⟩
  have : cs = #[.int .i64 s.kind, .string s.key, .string s.val, .int .i64 s.n] := by
    apply Array.toList_inj.1
    exact hs
  rw [this]
end

/-! the tables -/
set_option maxRecDepth 1000000 in
theorem door_met (laid : List (String × DataW Unit)) (hl : laid = Rows.timersRightRow.laid) (os : Os) (args : Array Value) : laidMetH Tryd.prog laid ((World.doorLaid Tryd.prog 4000 os).forCall (fun _ _ => 0) ⟨#[], args, []⟩).memory := by
  subst hl
  exact laidMetH_of_parts3 (fuel := 8) (laidMet_of_run' 8 (by kernel_rfl) (by kernel_rfl)) (by kernel_rfl) (by kernel_rfl)

theorem tab_of {W : World} (h : laidMetH Tryd.prog Rows.timersRightRow.laid W) : Tab W := by
  rw [MakeChecks.laidMetH_plain _ _ _ (by kernel_rfl)] at h
  obtain ⟨ps, ⟨_, _, _, _, _, _, _, _, _, _, ⟨_, _, _, _, _, _, _, _, _, _, ⟨g', t', cs, fuel, p, q, hg', ht', hvar, hd, _, _⟩, _⟩, _⟩, _, _⟩ := h
  have hg : Tryd.prog.globalNamed "internal/strconv.uint64pow10" = some 0 := by kernel_rfl
  obtain rfl := Option.some.inj (hg.symm.trans hg')
  have ht : (Tryd.prog.globals[0]?).map (·.type) = some 131 := by kernel_rfl
  obtain rfl := Option.some.inj (ht.symm.trans ht')
  have he : (Rows.laid_internal_strconv_uint64pow10 : DataW Unit) = Lib.tabData .u64 Lib.pow10Tab := by kernel_rfl
  rw [he] at hd
  unfold Tab Lib.TabIs
  rw [hvar, ← Lib.cells_of_tab Tryd.underlying131 Tryd.underlying22 (by kernel_rfl) (by kernel_rfl) hd]
end Opn
end Go.Proofs.YtmjbhnkhpgnchaaDoor
