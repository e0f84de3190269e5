/-
  timers.After.
-/
import Derived.Test.YtmjbhnkhpgnchaaDoorRd
namespace Go.Proofs.YtmjbhnkhpgnchaaDoor
open Go Go.RowKit

def afterOf (t : Tm) (now : Nat) : Option Tm :=
  match nextOf t.at_ t.every now with
  | none => none
  | some a => if a ≤ 4611686018427387904 then some { t with at_ := a } else none

theorem OwnS.wide {α : Type} {enc : α → List Value} {k : Nat} {e : TypeId} {B B' : Nat} {w : World} {v : Value} {l : List α} (h : OwnS enc k e B w v l) (hB : B' ≤ B) : OwnS enc k e B' w v l := by
  rcases h.2 with h3 | ⟨g, cap, cur, h3, h4, h5⟩
  · exact ⟨h.1, .inl h3⟩
  · exact ⟨h.1, .inr ⟨g, cap, cur, h3, by omega, h5⟩⟩


theorem afterOf_none {t : Tm} {now : Nat} (h : ∀ a, nextOf t.at_ t.every now = some a → 4611686018427387904 < a) : afterOf t now = none := by
  unfold afterOf
  cases hn : nextOf t.at_ t.every now with
  | none => rfl
  | some a =>
    have := h a hn
    show (if a ≤ _ then _ else _) = _
    rw [if_neg (by omega)]

set_option maxRecDepth 100000 in
set_option maxHeartbeats 1000000 in
theorem after_none (w : World) (t : Tm) (dv : Value) (now : Nat) (ha : t.at_ < 18446744073709551616) (he : t.every < 18446744073709551616) (ht : now < 18446744073709551616)
    (hdv : ∃ a n c, dv = .slice a n c) (hn : ∀ a, nextOf t.at_ t.every now = some a → 4611686018427387904 < a) :
    Calls Tryd.prog 7 #[tmV t dv, .int .u64 now] w fun e w' => e = .returned (.tuple #[tmV Tm.zero (.slice none 0 0), .bool false]) ∧ RowKit.Below w.heap.size w w' := by
  obtain ⟨sa, sn, sc, rfl⟩ := hdv
  have hz := zero_api
  have HN := Lib.hid (fun a b => next_any ((w.alloc a).alloc b) t.at_ t.every now ha he ht)
  have hb : decide (4611686018427387904 < ((nextOf t.at_ t.every now).getD 0 : Nat)) = (nextOf t.at_ t.every now).isSome := by
    cases hq : nextOf t.at_ t.every now with
    | none => simp
    | some a => simpa using hn a hq
  generalize (nextOf t.at_ t.every now).getD 0 = nx at *
  generalize (nextOf t.at_ t.every now).isSome = nb at *
  go_enter Tryd.func7, Tryd.ntmps7
  go_wp2_with fail
  refine (HN.out _ _).mono ?_
  rintro e w1 ⟨rfl, hf⟩
  obtain ⟨dv, hdv⟩ : ∃ dv : Value, dv = .slice sa sn sc := ⟨_, rfl⟩
  rw [← hdv] at hf
  have hB1 := (((RowKit.Below.refl _ w).alloc (Nat.le_refl _) (Obj.cells #[.string t.name, .int .i64 t.ver, .int .u64 t.at_, .int .u64 t.every, dv] 25)).alloc (by rw [World.size_alloc]; omega) (Obj.cells #[.string ByteArray.empty, .int .i64 0, .int .u64 0, .int .u64 0, .slice none 0 0] 25)).trans ((hf.below (B := w.heap.size) (fun _ _ h => h) (by rw [World.size_alloc, World.size_alloc]; omega)))
  have hsz : ((w.alloc (Obj.cells #[.string t.name, .int .i64 t.ver, .int .u64 t.at_, .int .u64 t.every, dv] 25)).alloc (Obj.cells #[.string ByteArray.empty, .int .i64 0, .int .u64 0, .int .u64 0, .slice none 0 0] 25)).heap.size = w.heap.size + 2 := by rw [World.size_alloc, World.size_alloc]
  have hs1 := hf.size
  rw [hsz] at hs1
  have hb0 := (hf.block w.heap.size (by rw [hsz]; omega) (fun h => h)).trans ((Below.heap_alloc _ _ _ (by rw [World.size_alloc]; omega)).trans (alloc_get w _ rfl))
  have hb1 := (hf.block (w.heap.size + 1) (by rw [hsz]; omega) (fun h => h)).trans (alloc_get _ _ (World.size_alloc ..))
  have d0 : w1.cell? ⟨w.heap.size, 0, none⟩ = some (.string t.name) := by simp [World.cell?, hb0]
  have d1 : w1.cell? ⟨w.heap.size, 1, none⟩ = some (.int .i64 t.ver) := by simp [World.cell?, hb0]
  have d2 : w1.cell? ⟨w.heap.size, 2, none⟩ = some (.int .u64 t.at_) := by simp [World.cell?, hb0]
  have d3 : w1.cell? ⟨w.heap.size, 3, none⟩ = some (.int .u64 t.every) := by simp [World.cell?, hb0]
  have d4 : w1.cell? ⟨w.heap.size, 4, none⟩ = some dv := by simp [World.cell?, hb0]
  have f2 : w1.frozen? ⟨w.heap.size, 2, none⟩ = false := by simp [World.frozen?, hb0]
  have k0 : w1.cell? ⟨w.heap.size + 1, 0, none⟩ = some (.string ByteArray.empty) := by simp [World.cell?, hb1]
  have k1 : w1.cell? ⟨w.heap.size + 1, 1, none⟩ = some (.int .i64 0) := by simp [World.cell?, hb1]
  have k2 : w1.cell? ⟨w.heap.size + 1, 2, none⟩ = some (.int .u64 0) := by simp [World.cell?, hb1]
  have k3 : w1.cell? ⟨w.heap.size + 1, 3, none⟩ = some (.int .u64 0) := by simp [World.cell?, hb1]
  have k4 : w1.cell? ⟨w.heap.size + 1, 4, none⟩ = some (.slice none 0 0) := by simp [World.cell?, hb1]
  have g0 : w1.frozen? ⟨w.heap.size + 1, 0, none⟩ = false := by simp [World.frozen?, hb1]
  have g1 : w1.frozen? ⟨w.heap.size + 1, 1, none⟩ = false := by simp [World.frozen?, hb1]
  have g2 : w1.frozen? ⟨w.heap.size + 1, 2, none⟩ = false := by simp [World.frozen?, hb1]
  have g3 : w1.frozen? ⟨w.heap.size + 1, 3, none⟩ = false := by simp [World.frozen?, hb1]
  have g4 : w1.frozen? ⟨w.heap.size + 1, 4, none⟩ = false := by simp [World.frozen?, hb1]
  have HK := Lib.hid (And.intro hb1 hB1)
  rw [hdv] at d4
  clear hb0 hb1 hB1 hsz hf HN hdv
  cases nb with
  | false =>
    go_wp2_with fail
    obtain ⟨hb1, hB1⟩ := HK.out
    refine bodyPost_ret (res_row_tmp rfl _ _ (w.heap.size + 1) _ _ _ _ rfl (put5_get hb1 (.string ByteArray.empty) (.int .i64 0) (.int .u64 0) (.int .u64 0) (.slice none 0 0)) Tryd.underlying25 rfl (by kernel_rfl)) rfl ?_
    exact ⟨rfl, hB1.trans ((put5_fr w1 (w.heap.size + 1) _ _ _ _ _).below (B := w.heap.size) (fun k hk e => by have e' : k = w.heap.size + 1 := e; omega) (by omega))⟩
  | true =>
    have hlt : 4611686018427387904 < nx := by simpa using hb
    go_wp2_with fail
    obtain ⟨hb1, hB1⟩ := HK.out
    refine bodyPost_ret (res_row_tmp rfl _ _ (w.heap.size + 1) _ _ _ _ rfl (put5_get hb1 (.string ByteArray.empty) (.int .i64 0) (.int .u64 0) (.int .u64 0) (.slice none 0 0)) Tryd.underlying25 rfl (by kernel_rfl)) rfl ?_
    exact ⟨rfl, hB1.trans ((put5_fr w1 (w.heap.size + 1) _ _ _ _ _).below (B := w.heap.size) (fun k hk e => by have e' : k = w.heap.size + 1 := e; omega) (by omega))⟩

set_option maxRecDepth 100000 in
set_option maxHeartbeats 1000000 in
theorem after_some (w : World) (t : Tm) (dv : Value) (now a : Nat) (ha : t.at_ < 18446744073709551616) (he : t.every < 18446744073709551616) (ht : now < 18446744073709551616)
    (hdv : RdSt w dv t.do_) (hl : t.do_.length ≤ 1000000) (hn : nextOf t.at_ t.every now = some a) (hle : a ≤ 4611686018427387904) :
    Calls Tryd.prog 7 #[tmV t dv, .int .u64 now] w fun e w' => ∃ dv', e = .returned (.tuple #[tmV { t with at_ := a } dv', .bool true]) ∧ OwnSt w.heap.size w' dv' t.do_ ∧ RowKit.Below w.heap.size w w' := by
  have hz := zero_api
  have HN := Lib.hid (fun x y => next_any ((w.alloc x).alloc y) t.at_ t.every now ha he ht)
  rw [hn] at HN
  simp only [Option.getD_some, Option.isSome_some] at HN
  have hble : ¬ 4611686018427387904 < a := by omega
  obtain ⟨sa, sc, hsv, _⟩ : ∃ sa sc, dv = .slice sa t.do_.length sc ∧ True := by
    obtain ⟨sa, sc, h1, _⟩ := hdv
    exact ⟨sa, sc, h1, trivial⟩
  have HD := Lib.hid hdv
  clear hdv
  have h5 : (tmV t dv) = .agg #[.string t.name, .int .i64 t.ver, .int .u64 t.at_, .int .u64 t.every, .slice sa t.do_.length sc] := by rw [hsv]
  rw [h5]
  go_enter Tryd.func7, Tryd.ntmps7
  go_wp2_with fail
  refine (HN.out _ _).mono ?_
  rintro e w1 ⟨rfl, hf⟩
  rw [← hsv] at hf
  have hB1 := (((RowKit.Below.refl _ w).alloc (Nat.le_refl _) (Obj.cells #[.string t.name, .int .i64 t.ver, .int .u64 t.at_, .int .u64 t.every, dv] 25)).alloc (by rw [World.size_alloc]; omega) (Obj.cells #[.string ByteArray.empty, .int .i64 0, .int .u64 0, .int .u64 0, .slice none 0 0] 25)).trans ((hf.below (B := w.heap.size) (fun _ _ h => h) (by rw [World.size_alloc, World.size_alloc]; omega)))
  have hsz : ((w.alloc (Obj.cells #[.string t.name, .int .i64 t.ver, .int .u64 t.at_, .int .u64 t.every, dv] 25)).alloc (Obj.cells #[.string ByteArray.empty, .int .i64 0, .int .u64 0, .int .u64 0, .slice none 0 0] 25)).heap.size = w.heap.size + 2 := by rw [World.size_alloc, World.size_alloc]
  have hs1 := hf.size
  rw [hsz] at hs1
  have hb0 := (hf.block w.heap.size (by rw [hsz]; omega) (fun h => h)).trans ((Below.heap_alloc _ _ _ (by rw [World.size_alloc]; omega)).trans (alloc_get w _ rfl))
  have hb1 := (hf.block (w.heap.size + 1) (by rw [hsz]; omega) (fun h => h)).trans (alloc_get _ _ (World.size_alloc ..))
  have d0 : w1.cell? ⟨w.heap.size, 0, none⟩ = some (.string t.name) := by simp [World.cell?, hb0]
  have d1 : w1.cell? ⟨w.heap.size, 1, none⟩ = some (.int .i64 t.ver) := by simp [World.cell?, hb0]
  have d2 : w1.cell? ⟨w.heap.size, 2, none⟩ = some (.int .u64 t.at_) := by simp [World.cell?, hb0]
  have d3 : w1.cell? ⟨w.heap.size, 3, none⟩ = some (.int .u64 t.every) := by simp [World.cell?, hb0]
  have d4 : w1.cell? ⟨w.heap.size, 4, none⟩ = some dv := by simp [World.cell?, hb0]
  have f2 : w1.frozen? ⟨w.heap.size, 2, none⟩ = false := by simp [World.frozen?, hb0]
  have k0 : w1.cell? ⟨w.heap.size + 1, 0, none⟩ = some (.string ByteArray.empty) := by simp [World.cell?, hb1]
  have k1 : w1.cell? ⟨w.heap.size + 1, 1, none⟩ = some (.int .i64 0) := by simp [World.cell?, hb1]
  have k2 : w1.cell? ⟨w.heap.size + 1, 2, none⟩ = some (.int .u64 0) := by simp [World.cell?, hb1]
  have k3 : w1.cell? ⟨w.heap.size + 1, 3, none⟩ = some (.int .u64 0) := by simp [World.cell?, hb1]
  have k4 : w1.cell? ⟨w.heap.size + 1, 4, none⟩ = some (.slice none 0 0) := by simp [World.cell?, hb1]
  have g0 : w1.frozen? ⟨w.heap.size + 1, 0, none⟩ = false := by simp [World.frozen?, hb1]
  have g1 : w1.frozen? ⟨w.heap.size + 1, 1, none⟩ = false := by simp [World.frozen?, hb1]
  have g2 : w1.frozen? ⟨w.heap.size + 1, 2, none⟩ = false := by simp [World.frozen?, hb1]
  have g3 : w1.frozen? ⟨w.heap.size + 1, 3, none⟩ = false := by simp [World.frozen?, hb1]
  have g4 : w1.frozen? ⟨w.heap.size + 1, 4, none⟩ = false := by simp [World.frozen?, hb1]
  have hr1 : RdSt (w1.setCell ⟨w.heap.size, 2, none⟩ (.int .u64 a)) dv t.do_ := by
    have hF : Fr (fun k => w.heap.size ≤ k) w (w1.setCell ⟨w.heap.size, 2, none⟩ (.int .u64 a)) := (Fr.of_below hB1).setCell (a := ⟨w.heap.size, 2, none⟩) (fun h => absurd h (Nat.lt_irrefl _)) _
    exact HD.out.fr hF (fun hne g hg hk => by have := HD.out.lt hne hg; omega)
  have HC := Lib.hid (copied_any (w1.setCell ⟨w.heap.size, 2, none⟩ (.int .u64 a)) { t with at_ := a } dv hr1 hl)
  have hB2 : RowKit.Below w.heap.size w (w1.setCell ⟨w.heap.size, 2, none⟩ (.int .u64 a)) := hB1.setCell (Nat.le_refl _) _
  have hb2 := (Below.heap_setCell w1 ⟨w.heap.size, 2, none⟩ (.int .u64 a) (w.heap.size + 1) (by simp)).trans hb1
  have hs2 : (w1.setCell ⟨w.heap.size, 2, none⟩ (.int .u64 a)).heap.size = w1.heap.size := setCell_size _ _ _
  have HK := Lib.hid (And.intro hb2 (And.intro hB2 hs2))
  rw [hsv] at d4 HC
  clear hb0 hb1 hB1 hsz hf HN hr1 hb2 hB2 hs2 k0 k1 k2 k3 k4 g0 g1 g2 g3 g4 h5
  go_wp2_with fail
  refine HC.out.mono ?_
  rintro e w3 ⟨dv', rfl, ho, hb3⟩
  obtain ⟨hb2, hB2, hs2⟩ := HK.out
  obtain ⟨sa', sc', hsv', _⟩ := ho.at.shape
  have hb4 := (hb3.block (w.heap.size + 1) (by omega)).trans hb2
  have hsz3 := hb3.size
  rw [hs2] at hsz3
  have k0 : w3.cell? ⟨w.heap.size + 1, 0, none⟩ = some (.string ByteArray.empty) := by simp [World.cell?, hb4]
  have k1 : w3.cell? ⟨w.heap.size + 1, 1, none⟩ = some (.int .i64 0) := by simp [World.cell?, hb4]
  have k2 : w3.cell? ⟨w.heap.size + 1, 2, none⟩ = some (.int .u64 0) := by simp [World.cell?, hb4]
  have k3 : w3.cell? ⟨w.heap.size + 1, 3, none⟩ = some (.int .u64 0) := by simp [World.cell?, hb4]
  have k4 : w3.cell? ⟨w.heap.size + 1, 4, none⟩ = some (.slice none 0 0) := by simp [World.cell?, hb4]
  have g0 : w3.frozen? ⟨w.heap.size + 1, 0, none⟩ = false := by simp [World.frozen?, hb4]
  have g1 : w3.frozen? ⟨w.heap.size + 1, 1, none⟩ = false := by simp [World.frozen?, hb4]
  have g2 : w3.frozen? ⟨w.heap.size + 1, 2, none⟩ = false := by simp [World.frozen?, hb4]
  have g3 : w3.frozen? ⟨w.heap.size + 1, 3, none⟩ = false := by simp [World.frozen?, hb4]
  have g4 : w3.frozen? ⟨w.heap.size + 1, 4, none⟩ = false := by simp [World.frozen?, hb4]
  rw [hs2] at ho
  have HR := Lib.hid (And.intro ho (And.intro (hB2.trans (hb3.mono (by omega))) hb4))
  subst hsv'
  clear ho hb3 hb4 hb2 hB2 hs2 HC
  go_wp2_with fail
  obtain ⟨ho, hB3, hb4⟩ := HR.out
  refine bodyPost_ret (res_row_tmp rfl _ _ (w.heap.size + 1) _ _ _ _ rfl (put5_get hb4 (.string t.name) (.int .i64 t.ver) (.int .u64 a) (.int .u64 t.every) (.slice sa' t.do_.length sc')) Tryd.underlying25 rfl (by kernel_rfl)) rfl ?_
  have hF4 := put5_fr w3 (w.heap.size + 1) (.string t.name) (.int .i64 t.ver) (.int .u64 a) (.int .u64 t.every) (.slice sa' t.do_.length sc')
  refine ⟨_, rfl, OwnS.wide (ho.fr hF4 (fun g hg e => by have e' : g = w.heap.size + 1 := e; have := (ho.lt g hg).1; omega)) (by omega), hB3.trans (hF4.below (B := w.heap.size) (fun k hk e => by have e' : k = w.heap.size + 1 := e; omega) (by omega))⟩

/-- After, whatever comes. -/
theorem after_any (w : World) (t : Tm) (dv : Value) (now : Nat) (ha : t.at_ < 18446744073709551616) (he : t.every < 18446744073709551616) (ht : now < 18446744073709551616)
    (hdv : RdSt w dv t.do_) (hl : t.do_.length ≤ 1000000) :
    Calls Tryd.prog 7 #[tmV t dv, .int .u64 now] w fun e w' => ∃ dv', e = .returned (.tuple #[tmV ((afterOf t now).getD Tm.zero) dv', .bool (afterOf t now).isSome]) ∧ OwnSt w.heap.size w' dv' ((afterOf t now).getD Tm.zero).do_ ∧ RowKit.Below w.heap.size w w' := by
  by_cases h : ∃ a, nextOf t.at_ t.every now = some a ∧ a ≤ 4611686018427387904
  · obtain ⟨a, hn, hle⟩ := h
    have hA : afterOf t now = some { t with at_ := a } := by
      unfold afterOf
      rw [hn]
      exact if_pos hle
    rw [hA]
    exact after_some w t dv now a ha he ht hdv hl hn hle
  · have hn : ∀ a, nextOf t.at_ t.every now = some a → 4611686018427387904 < a := fun a e => by
      apply Classical.byContradiction
      intro hc
      exact h ⟨a, e, by omega⟩
    rw [afterOf_none hn]
    refine (after_none w t dv now ha he ht (by obtain ⟨a, c, h1, _⟩ := hdv; exact ⟨a, _, c, h1⟩) hn).mono ?_
    rintro e w' ⟨rfl, hb⟩
    exact ⟨_, rfl, OwnS.nil, hb⟩
end Go.Proofs.YtmjbhnkhpgnchaaDoor
