/-
  TimersRight: the walk.
-/
import Derived.Test.YtmjbhnkhpgnchaaDoorAlive
import Derived.Test.YtmjbhnkhpgnchaaDoorFits
namespace Go.Proofs.YtmjbhnkhpgnchaaDoor
open Go Go.RowKit

theorem box5 {w : World} {x : Nat} {t : Tm} {dv : Value} (h : w.heap[x]? = some (.cells #[.string t.name, .int .i64 t.ver, .int .u64 t.at_, .int .u64 t.every, dv] 25 (0, 0))) :
    w.cell? ⟨x, 0, none⟩ = some (.string t.name) ∧ w.cell? ⟨x, 1, none⟩ = some (.int .i64 t.ver) ∧ w.cell? ⟨x, 2, none⟩ = some (.int .u64 t.at_) ∧ w.cell? ⟨x, 3, none⟩ = some (.int .u64 t.every) ∧ w.cell? ⟨x, 4, none⟩ = some dv := by
  refine ⟨?_, ?_, ?_, ?_, ?_⟩ <;> simp [World.cell?, h]

theorem box4 {w : World} {x : Nat} {s : Stp} (h : w.heap[x]? = some (.cells #[.int .i64 s.kind, .string s.key, .string s.val, .int .i64 s.n] 36 (0, 0))) :
    w.cell? ⟨x, 0, none⟩ = some (.int .i64 s.kind) ∧ w.cell? ⟨x, 1, none⟩ = some (.string s.key) ∧ w.cell? ⟨x, 2, none⟩ = some (.string s.val) ∧ w.cell? ⟨x, 3, none⟩ = some (.int .i64 s.n) := by
  refine ⟨?_, ?_, ?_, ?_⟩ <;> simp [World.cell?, h]

/-- the two boxes, and what came in, in a world -/
structure Boxes (w W : World) (t : Tm) (dv : Value) (s : Stp) : Prop where
  below : RowKit.Below w.heap.size w W
  size : w.heap.size + 2 ≤ W.heap.size
  bt : W.heap[w.heap.size]? = some (.cells #[.string t.name, .int .i64 t.ver, .int .u64 t.at_, .int .u64 t.every, dv] 25 (0, 0))
  bs : W.heap[w.heap.size + 1]? = some (.cells #[.int .i64 s.kind, .string s.key, .string s.val, .int .i64 s.n] 36 (0, 0))
  rd : RdSt W dv t.do_

theorem rd_below {w W : World} {dv : Value} {xs : List Stp} (hr : RdSt w dv xs) (h : RowKit.Below w.heap.size w W) : RdSt W dv xs :=
  hr.fr (Fr.of_below h) (fun hne g hg hk => by have := hr.lt hne hg; omega)

theorem Boxes.start (w : World) (t : Tm) (dv : Value) (s : Stp) (hr : RdSt w dv t.do_) : Boxes w ((w.alloc (Obj.cells #[.string t.name, .int .i64 t.ver, .int .u64 t.at_, .int .u64 t.every, dv] 25)).alloc (Obj.cells #[.int .i64 s.kind, .string s.key, .string s.val, .int .i64 s.n] 36)) t dv s := by
  have hb : RowKit.Below w.heap.size w ((w.alloc (Obj.cells #[.string t.name, .int .i64 t.ver, .int .u64 t.at_, .int .u64 t.every, dv] 25)).alloc (Obj.cells #[.int .i64 s.kind, .string s.key, .string s.val, .int .i64 s.n] 36)) := ((RowKit.Below.refl _ w).alloc (Nat.le_refl _) _).alloc (by rw [World.size_alloc]; omega) _
  exact ⟨hb, by rw [World.size_alloc, World.size_alloc]; omega, (Below.heap_alloc _ _ _ (by rw [World.size_alloc]; omega)).trans (alloc_get w _ rfl), alloc_get _ _ (World.size_alloc ..), rd_below hr hb⟩

theorem Boxes.go {w W W' : World} {t : Tm} {dv : Value} {s : Stp} (h : Boxes w W t dv s) (hB : RowKit.Below (w.heap.size + 2) W W') (hr : RdSt w dv t.do_) : Boxes w W' t dv s := by
  have hb1 : RowKit.Below w.heap.size w W' := h.below.trans (hB.mono (by omega))
  exact ⟨hb1, Nat.le_trans h.size hB.size, (hB.block _ (by omega)).trans h.bt, (hB.block _ (by omega)).trans h.bs, rd_below hr hb1⟩

theorem Boxes.next {w W W' : World} {t : Tm} {dv : Value} {s : Stp} (h : Boxes w W t dv s) (hB : RowKit.Below W.heap.size W W') (hr : RdSt w dv t.do_) : Boxes w W' t dv s := h.go (hB.mono h.size) hr

/-- Set into an empty table, as Get tells it -/
def SetGet (B : Nat) (x : Nat) (t : Tm) (w : World) (e : Ending) (w' : World) : Prop :=
  ∃ T4, e = .returned (.int .i64 (cond (rightT t) 0 101)) ∧ TabAt w' x T4 ∧ foundT T4 t.name = cond (rightT t) t Tm.zero ∧ (aget T4.L t.name).isSome = rightT t ∧ RowKit.Below B w w'

theorem set_get (w : World) (x : Nat) (T : TSt) (h : TabAt w x T) (t : Tm) (dv : Value) (hdv : RdSt w dv t.do_) (hwf : t.wf) (htab : Tab w) (hL : T.L = []) (B : Nat) (hB : B ≤ w.heap.size) (hown : ∀ k, T.foot k → B ≤ k) (hdf : t.do_ ≠ [] → ∀ g, inBlock dv g → ¬ T.foot g) :
    Calls Tryd.prog 12 #[.pointer (some ⟨x, 0, none⟩), tmV t dv] w (SetGet B x t w) := by
  refine (tset_any w x T h t dv hdv hwf htab (by rw [hL]; decide) hdf).mono ?_
  rintro e w' ⟨h0, h1⟩
  cases hr : rightT t with
  | false =>
    obtain ⟨rfl, hb⟩ := h0 hr
    have hf : foundT T t.name = Tm.zero := by unfold foundT; rw [hL]; rfl
    have hs : (aget T.L t.name).isSome = false := by rw [hL]; rfl
    exact ⟨T, by rw [hr]; rfl, h.move (Fr.of_new hb), by rw [hr]; exact hf, by rw [hr]; exact hs, hb.mono hB⟩
  | true =>
    obtain ⟨T', dv', rfl, hT', _, hL', _, hf, _, _⟩ := h1 hr
    rw [hL] at hL'
    have ha : aget T'.L t.name = some (t, dv') := by
      rw [hL']
      simp [adel, aput, aget]
    exact ⟨T', by rw [hr]; rfl, hT', by rw [hr]; unfold foundT; rw [ha]; rfl, by rw [hr, ha]; rfl, hf.below (fun k hk hk2 => by have := hown k hk2; omega) hB⟩

abbrev hexs : ByteArray := { data := #[48, 49, 50, 51, 52, 53, 54, 55, 56, 57, 97, 98, 99, 100, 101, 102] }

theorem right_name {t : Tm} (h : rightT t = true) : 1 ≤ t.name.size ∧ t.name.size ≤ 16 ∧ 1 ≤ t.ver ∧ t.at_ ≤ 4611686018427387904 ∧ errA t.do_ = 0 ∧ t.ver ≤ 1099511627776 ∧ t.every ≤ 4611686018427387904 := by
  unfold rightT at h
  rw [empty_size] at h
  simp only [Bool.and_eq_true, Bool.not_eq_true', decide_eq_true_eq, decide_eq_false_iff_not] at h
  omega

theorem right_facts (t : Tm) (s : Stp) (_ : fits t) : (rightT { t with name := t.name ++ hexs } = true → t.name.size = 0) ∧ rightT { t with at_ := 4611686018427387905 } = false ∧ rightT { t with ver := 0 } = false ∧ (rightT t = true → 1 ≤ t.name.size ∧ rightT { t with do_ := [s] } = rightS s) := by
  refine ⟨fun hr => ?_, ?_, ?_, fun hr => ?_⟩
  · have h1 := (right_name hr).2.1
    have h2 : (t.name ++ hexs).size = t.name.size + 16 := by rw [append_size]; rfl
    have h3 : (t.name ++ hexs).size ≤ 16 := h1
    omega
  · cases hr : rightT { t with at_ := 4611686018427387905 } with
    | false => rfl
    | true =>
      have h1 : (4611686018427387905 : Nat) ≤ 4611686018427387904 := (right_name hr).2.2.2.1
      omega
  · cases hr : rightT { t with ver := 0 } with
    | false => rfl
    | true =>
      have h1 : (1 : Int) ≤ 0 := (right_name hr).2.2.1
      omega
  · refine ⟨(right_name hr).1, ?_⟩
    have h1 := right_name hr
    unfold rightT
    rw [empty_size]
    have h2 : errA [s] = if rightS s then 0 else 91 := by simp [errA]
    show (decide (errA [s] = 0) && _) = _
    rw [h2]
    cases rightS s
    · rfl
    · simp only [if_true, decide_true, Bool.true_and, Bool.and_eq_true, Bool.not_eq_true', decide_eq_true_eq, decide_eq_false_iff_not]
      refine ⟨?_, ?_, ?_, ?_, ?_, ?_⟩
      all_goals
        first
          | (show ¬ t.name.size = 0; omega)
          | (show t.name.size ≤ 16; omega)
          | (show (1 : Int) ≤ t.ver; omega)
          | (show t.ver ≤ 1099511627776; omega)
          | (show t.at_ ≤ 4611686018427387904; omega)
          | (show t.every ≤ 4611686018427387904; omega)

def aObj (t : Tm) (dv : Value) : Obj := Obj.cells #[.string t.name, .int .i64 t.ver, .int .u64 t.at_, .int .u64 t.every, dv] 25
def W7of (W6 : World) (t : Tm) (dv : Value) (s : Stp) : World :=
  (((((W6.alloc (aObj { t with name := t.name ++ hexs } dv)).alloc (aObj { t with at_ := 4611686018427387905 } dv)).alloc (aObj { t with ver := 0 } dv)).alloc (aObj t (.slice (some ⟨W6.heap.size + 1 + 1 + 1 + 1, 0, none⟩) 1 1))).alloc
    (Obj.cells #[.int .i64 s.kind, .string s.key, .string s.val, .int .i64 s.n] 36))

/-- all that TimersRight has laid -/
structure More (w W : World) (n : Nat) (t : Tm) (dv : Value) (s : Stp) : Prop where
  box : Boxes w W t dv s
  lt : n + 5 ≤ W.heap.size
  b : W.heap[n + 1]? = some (aObj { t with at_ := 4611686018427387905 } dv)
  c : W.heap[n + 1 + 1]? = some (aObj { t with ver := 0 } dv)
  d : W.heap[n + 1 + 1 + 1]? = some (aObj t (.slice (some ⟨n + 1 + 1 + 1 + 1, 0, none⟩) 1 1))
  st : W.heap[n + 1 + 1 + 1 + 1]? = some (Obj.cells #[.int .i64 s.kind, .string s.key, .string s.val, .int .i64 s.n] 36 (0, 0))

theorem More.next {w W W' : World} {n : Nat} {t : Tm} {dv : Value} {s : Stp} (h : More w W n t dv s) (hB : RowKit.Below W.heap.size W W') (hr : RdSt w dv t.do_) : More w W' n t dv s := by
  have := h.lt
  exact ⟨h.box.next hB hr, Nat.le_trans h.lt hB.size, (hB.block _ (by omega)).trans h.b, (hB.block _ (by omega)).trans h.c, (hB.block _ (by omega)).trans h.d, (hB.block _ (by omega)).trans h.st⟩

theorem More.start {w W6 : World} {t : Tm} {dv : Value} {s : Stp} (h : Boxes w W6 t dv s) (hr : RdSt w dv t.do_) : More w (W7of W6 t dv s) W6.heap.size t dv s := by
  have hF : Fr (fun _ => False) W6 (W7of W6 t dv s) := (((((Fr.refl _ W6).alloc _).alloc _).alloc _).alloc _).alloc _
  have hB : RowKit.Below W6.heap.size W6 (W7of W6 t dv s) := hF.below (fun _ _ h => h) (Nat.le_refl _)
  refine ⟨h.next hB hr, ?_, ?_, ?_, ?_, ?_⟩
  · unfold W7of
    simp only [World.size_alloc]
    omega
  · unfold W7of
    rw [Below.heap_alloc _ _ _ (by simp only [World.size_alloc]; omega), Below.heap_alloc _ _ _ (by simp only [World.size_alloc]; omega), Below.heap_alloc _ _ _ (by simp only [World.size_alloc]; omega)]
    exact alloc_get _ _ (by simp only [World.size_alloc])
  · unfold W7of
    rw [Below.heap_alloc _ _ _ (by simp only [World.size_alloc]; omega), Below.heap_alloc _ _ _ (by simp only [World.size_alloc]; omega)]
    exact alloc_get _ _ (by simp only [World.size_alloc])
  · unfold W7of
    rw [Below.heap_alloc _ _ _ (by simp only [World.size_alloc]; omega)]
    exact alloc_get _ _ (by simp only [World.size_alloc])
  · unfold W7of
    exact alloc_get _ _ (by simp only [World.size_alloc])

theorem More.rdStep {w W : World} {n : Nat} {t : Tm} {dv : Value} {s : Stp} (h : More w W n t dv s) : RdSt W (.slice (some ⟨n + 1 + 1 + 1 + 1, 0, none⟩) 1 1) [s] := by
  refine ⟨some ⟨n + 1 + 1 + 1 + 1, 0, none⟩, 1, rfl, Nat.le_refl _, fun i x hx => ?_⟩
  have hi : i = 0 := by
    have := (List.getElem?_eq_some_iff.1 hx).1
    simp at this
    exact this
  subst hi
  have hxs : s = x := Option.some.inj hx
  subst hxs
  refine ⟨_, _, rfl, by have := h.lt; omega, fun j u hu => ?_⟩
  have hs := h.st
  simp only [World.cell?, hs]
  simpa [encStp] using hu

theorem wf_name {t : Tm} (h : t.wf) (nm : ByteArray) : ({ t with name := nm } : Tm).wf := ⟨h.v0, h.v1, h.at_, h.every, h.steps, h.small⟩
theorem wf_at {t : Tm} (h : t.wf) (a : Nat) (ha : a < 18446744073709551616) : ({ t with at_ := a } : Tm).wf := ⟨h.v0, h.v1, ha, h.every, h.steps, h.small⟩
theorem wf_ver {t : Tm} (h : t.wf) : ({ t with ver := 0 } : Tm).wf := ⟨(by decide : (-9223372036854775808 : Int) ≤ 0), (by decide : (0 : Int) ≤ 9223372036854775807), h.at_, h.every, h.steps, h.small⟩
theorem wf_do {t : Tm} (h : t.wf) {s : Stp} (hs : s.wf) : ({ t with do_ := [s] } : Tm).wf := ⟨h.v0, h.v1, h.at_, h.every, (fun x hx => by rw [List.mem_singleton] at hx; subst hx; exact hs), by simp⟩


def RightSays (w : World) (e : Ending) (w' : World) : Prop := e = .returned (.bool true) ∧ RowKit.Below w.heap.size w w'

set_option maxRecDepth 100000 in
set_option maxHeartbeats 4000000 in
theorem right_walk (w : World) (t : Tm) (dv : Value) (s : Stp) (hdv : RdSt w dv t.do_) (hl : t.do_.length ≤ 9223372036854775807) (hwf : t.do_.length ≤ 1000000 → t.wf) (hs : s.wf) (htab : Tab w) :
    Calls Tryd.prog 4 #[tmV t dv, stpV s] w (RightSays w) := by
  have hz := zero_api
  have hb0 := Boxes.start w t dv s hdv
  obtain ⟨sa, sc, hsv, _⟩ : ∃ sa sc, dv = .slice sa t.do_.length sc ∧ True := by
    obtain ⟨sa, sc, h1, _⟩ := hdv
    exact ⟨sa, sc, h1, trivial⟩
  subst hsv
  have HF := Lib.hid (fits_any _ t (.slice sa t.do_.length sc) hb0.rd hl)
  have HH := Lib.hid (And.intro hdv (And.intro hwf (And.intro hs htab)))
  have HB0 := Lib.hid hb0
  clear hdv hl hwf hs htab hb0
  go_enter Tryd.func4, Tryd.ntmps4
  go_wp2_with fail
  refine HF.out.mono ?_
  rintro e W1 ⟨bf, rfl, hbf, hB1⟩
  have HB1 := Lib.hid (And.intro hbf (HB0.out.next hB1 HH.out.1))
  have HN := Lib.hid (tnew_any W1 0 (by decide))
  clear hbf hB1 HF HB0
  go_wp2_with fail
  refine HN.out.mono ?_
  rintro e W2 ⟨x, T, rfl, hT, hL, hn, hown, hB2⟩
  have hb2 := HB1.out.2.next hB2 HH.out.1
  have hown' : ∀ k, T.foot k → w.heap.size + 2 ≤ k := fun k hk => Nat.le_trans HB1.out.2.size (hown k (.inr (.inr (.inl hk))))
  obtain ⟨q0, q1, q2, q3, q4⟩ := box5 hb2.bt
  obtain ⟨p0, p1, p2, p3⟩ := box4 hb2.bs
  have HB2 := Lib.hid (And.intro hb2 (And.intro hT (And.intro hL (And.intro hown' HB1.out.1))))
  clear hT hL hn hown hB2 hb2 hown' HN HB1
  cases bf with
  | false =>
    go_wp2_with fail
    go_ret
    exact ⟨rfl, HB2.out.1.below⟩
  | true =>
    by_cases hsk : s.key.size ≤ 100
    · by_cases hsl : s.val.size ≤ 100
      · have e1 : decide ((s.key.size : Int) > 100) = false := by simp; omega
        have e2 : decide ((s.val.size : Int) > 100) = false := by simp; omega
        have hfit := HB2.out.2.2.2.2.1 rfl
        have hwf := HH.out.2.1 (by have := hfit.1; omega)
        have HR := Lib.hid (tright_any W2 t (.slice sa t.do_.length sc) HB2.out.1.rd hwf (HH.out.2.2.2.below HB2.out.1.below))
        have HFI := Lib.hid (And.intro hfit hwf)
        clear hfit hwf
        go_wp2_with fail
        clear e1 e2 p0 p1 p2 p3 q0 q1 q2 q3 q4
        refine HR.out.mono ?_
        rintro e W3 ⟨rfl, hB3⟩
        have hb3 := HB2.out.1.next hB3 HH.out.1
        have HS := Lib.hid (set_get W3 x T (HB2.out.2.1.move (Fr.of_new hB3)) t (.slice sa t.do_.length sc) hb3.rd HFI.out.2 (HH.out.2.2.2.below hb3.below) HB2.out.2.2.1 (w.heap.size + 2) hb3.size HB2.out.2.2.2.1 (fun hne g hg hk => by
          have h1 := HH.out.1.lt hne hg
          have h2 := HB2.out.2.2.2.1 g hk
          omega))
        obtain ⟨q0, q1, q2, q3, q4⟩ := box5 hb3.bt
        have HB3 := Lib.hid hb3
        clear hB3 hb3 HR
        obtain ⟨r, hr⟩ : ∃ r, r = rightT t := ⟨_, rfl⟩
        rw [← hr]
        unfold SetGet at HS
        rw [← hr] at HS
        obtain ⟨gt, hgt⟩ : ∃ gt, gt = cond r t Tm.zero := ⟨_, rfl⟩
        rw [← hgt] at HS
        have hgl : gt.do_.length ≤ 1000000 ∧ (r = true → sameT gt t = true) := by
          rw [hgt]
          cases r
          · exact ⟨by simp [Tm.zero], fun h => by cases h⟩
          · exact ⟨HFI.out.2.small, fun _ => (sameT_iff t t).2 rfl⟩
        have HGL := Lib.hid hgl
        have HRT := Lib.hid hr
        have HRF := Lib.hid (right_facts t s HFI.out.1)
        rw [← hr] at HRF
        clear hr hgl hgt
        cases r
        all_goals
          go_wp2_with fail
          refine HS.out.mono ?_
          rintro e W4 ⟨T4, rfl, hT4, hft, his, hB4⟩
          dsimp only [cond] at hft ⊢
          have hb4 := HB3.out.go hB4 HH.out.1
          have HG := Lib.hid (tget_any W4 x T4 hT4 t.name)
          unfold TGetSays at HG
          rw [hft, his] at HG
          clear q0 q1 q2 q3 q4
          obtain ⟨q0, q1, q2, q3, q4⟩ := box5 hb4.bt
          have HB4 := Lib.hid hb4
          clear hT4 hft his hB4 hb4 HS
          go_wp2_with fail
          refine HG.out.mono ?_
          rintro e W5 ⟨dv5, rfl, ho5, hB5⟩
          obtain ⟨ga, gc, hgv, _⟩ := ho5.at.shape
          have hb5 := HB4.out.next hB5 HH.out.1
          have hb5o : ∀ o, Boxes w (W5.alloc o) t (.slice sa t.do_.length sc) s := fun o => hb5.next ((RowKit.Below.refl _ W5).alloc (Nat.le_refl _) o) HH.out.1
          have HSm := Lib.hid (fun o => sameT_any (W5.alloc o) gt t dv5 (.slice sa t.do_.length sc) ((ho5.rd encStp_len).move ((Fr.refl _ W5).alloc o)) (hb5o o).rd HGL.out.1)
          clear q0 q1 q2 q3 q4
          have q0 := fun o => (box5 (hb5o o).bt).1
          have q1 := fun o => (box5 (hb5o o).bt).2.1
          have q2 := fun o => (box5 (hb5o o).bt).2.2.1
          have q3 := fun o => (box5 (hb5o o).bt).2.2.2.1
          have q4 := fun o => (box5 (hb5o o).bt).2.2.2.2
          have HB5 := Lib.hid hb5o
          obtain ⟨sm, hsm⟩ : ∃ sm, sm = sameT gt t := ⟨_, rfl⟩
          rw [← hsm] at HSm HGL
          subst hgv
          clear ho5 hB5 hb5 hb5o HG hsm
          go_wp2_with fail
          refine (HSm.out _).mono ?_
          rintro e W6 ⟨rfl, hB6⟩
          have hb6 := (HB5.out _).next hB6 HH.out.1
          clear q0 q1 q2 q3 q4
          obtain ⟨q0, q1, q2, q3, q4⟩ := box5 hb6.bt
          obtain ⟨p0, p1, p2, p3⟩ := box4 hb6.bs
          have hcat : ∀ W, (Op.stringOp .add t.name { data := #[48, 49, 50, 51, 52, 53, 54, 55, 56, 57, 97, 98, 99, 100, 101, 102] }).run Tryd.prog W = .ok (.string (t.name ++ { data := #[48, 49, 50, 51, 52, 53, 54, 55, 56, 57, 97, 98, 99, 100, 101, 102] })) W := fun W => run_string_add_sum W _ _ (by
            have h1 := HFI.out.1.2.2
            have h2 : (ByteArray.mk #[48, 49, 50, 51, 52, 53, 54, 55, 56, 57, 97, 98, 99, 100, 101, 102]).size = 16 := rfl
            rw [h2]
            omega)
          have hs6 := hb6.size
          have o1 : ∀ (W : World) (o : Obj) (i : Nat), W6.heap.size ≤ W.heap.size → (W.alloc o).cell? ⟨w.heap.size, i, none⟩ = W.cell? ⟨w.heap.size, i, none⟩ := fun W o i h => World.cell?_alloc_lt W o _ (show w.heap.size < _ by omega)
          have o2 : ∀ (W : World) (o : Obj) (i : Nat), W6.heap.size ≤ W.heap.size → (W.alloc o).cell? ⟨w.heap.size + 1, i, none⟩ = W.cell? ⟨w.heap.size + 1, i, none⟩ := fun W o i h => World.cell?_alloc_lt W o _ (show w.heap.size + 1 < _ by omega)
          have o3 : ∀ (W : World) (o : Obj) (i k : Nat), W6.heap.size + k < W.heap.size → (W.alloc o).cell? ⟨W6.heap.size + k, i, none⟩ = W.cell? ⟨W6.heap.size + k, i, none⟩ := fun W o i k h => World.cell?_alloc_lt W o _ h
          have o4 : ∀ (W : World) (o : Obj) (i : Nat), W6.heap.size < W.heap.size → (W.alloc o).cell? ⟨W6.heap.size, i, none⟩ = W.cell? ⟨W6.heap.size, i, none⟩ := fun W o i h => World.cell?_alloc_lt W o _ h
          have n1 : (W6.heap.size = w.heap.size) = False := by simp; omega
          have n2 : (W6.heap.size = w.heap.size + 1) = False := by simp; omega
          have n3 : ∀ k, (W6.heap.size + k = w.heap.size) = False := fun k => by simp; omega
          have n4 : ∀ k, (W6.heap.size + k = w.heap.size + 1) = False := fun k => by simp; omega
          have n5 : (W6.heap.size + 1 + 1 = w.heap.size) = False := by simp; omega
          have n6 : (W6.heap.size + 1 + 1 = w.heap.size + 1) = False := by simp; omega
          have n7 : (W6.heap.size + 1 + 1 + 1 = w.heap.size) = False := by simp; omega
          have n8 : (W6.heap.size + 1 + 1 + 1 = w.heap.size + 1) = False := by simp; omega
          have m1 : (W6.heap.size ≤ W6.heap.size + 1 + 1) = True := eq_true (by omega)
          have m2 : (W6.heap.size ≤ W6.heap.size + 1 + 1 + 1) = True := eq_true (by omega)
          have m3 : (W6.heap.size ≤ W6.heap.size + 1 + 1 + 1 + 1) = True := eq_true (by omega)
          have m4 : (W6.heap.size < W6.heap.size + 1 + 1) = True := eq_true (by omega)
          have m5 : (W6.heap.size < W6.heap.size + 1 + 1 + 1) = True := eq_true (by omega)
          have m6 : (W6.heap.size < W6.heap.size + 1 + 1 + 1 + 1) = True := eq_true (by omega)
          have m7 : (W6.heap.size + 1 < W6.heap.size + 1 + 1 + 1) = True := eq_true (by omega)
          have m8 : (W6.heap.size + 1 < W6.heap.size + 1 + 1 + 1 + 1) = True := eq_true (by omega)
          have m9 : (W6.heap.size + 1 + 1 < W6.heap.size + 1 + 1 + 1 + 1) = True := eq_true (by omega)
          have o5 : ∀ (W : World) (o : Obj) (i : Nat), W6.heap.size + 1 + 1 < W.heap.size → (W.alloc o).cell? ⟨W6.heap.size + 1 + 1, i, none⟩ = W.cell? ⟨W6.heap.size + 1 + 1, i, none⟩ := fun W o i h => World.cell?_alloc_lt W o _ h
          have o6 : ∀ (W : World) (o : Obj) (i : Nat), W6.heap.size + 1 + 1 + 1 < W.heap.size → (W.alloc o).cell? ⟨W6.heap.size + 1 + 1 + 1, i, none⟩ = W.cell? ⟨W6.heap.size + 1 + 1 + 1, i, none⟩ := fun W o i h => World.cell?_alloc_lt W o _ h
          have HB6 := Lib.hid hb6
          clear hB6 hb6 HSm
          cases sm
          all_goals try (have HGL2 := HGL.out.2; exfalso; simp at HGL2; done)
          all_goals
            go_wp2_with fail
            have hm := More.start HB6.out HH.out.1
            have HRa := Lib.hid (tright_any (W7of W6 t (.slice sa t.do_.length sc) s) { t with name := t.name ++ hexs } (.slice sa t.do_.length sc) hm.box.rd (wf_name HFI.out.2 _) (HH.out.2.2.2.below hm.box.below))
            obtain ⟨ra, hra⟩ : ∃ ra, ra = rightT { t with name := t.name ++ hexs } := ⟨_, rfl⟩
            unfold TRightSays at HRa
            rw [← hra] at HRa HRF
            have HM := Lib.hid hm
            clear hm hra o1 o2 o3 o4 o5 o6 n1 n2 n3 n4 n5 n6 n7 n8 m1 m2 m3 m4 m5 m6 m7 m8 m9 q0 q1 q2 q3 q4 p0 p1 p2 p3 hcat HB6 hs6
            refine HRa.out.mono ?_
            rintro e W8 ⟨rfl, hB8⟩
            generalize W6.heap.size = n6 at *
            have hm8 := HM.out.next hB8 HH.out.1
            obtain ⟨q0, q1, q2, q3, q4⟩ := box5 hm8.box.bt
            obtain ⟨p0, p1, p2, p3⟩ := box4 hm8.box.bs
            obtain ⟨b0, b1, b2, b3, b4⟩ := box5 hm8.b
            have HM8 := Lib.hid hm8
            clear hB8 hm8 HRa HM
            have HRb := Lib.hid (tright_any W8 { t with at_ := 4611686018427387905 } (.slice sa t.do_.length sc) HM8.out.box.rd (wf_at HFI.out.2 _ (by decide)) (HH.out.2.2.2.below HM8.out.box.below))
            unfold TRightSays at HRb
            rw [HRF.out.2.1] at HRb
            have HRs := Lib.hid (rright_any W8 s)
            cases ra
            · go_wp2_with fail
              refine HRb.out.mono ?_
              rintro e W9 ⟨rfl, hB9⟩
              have hm9 := HM8.out.next hB9 HH.out.1
              clear q0 q1 q2 q3 q4 p0 p1 p2 p3 b0 b1 b2 b3 b4
              obtain ⟨c0, c1, c2, c3, c4⟩ := box5 hm9.c
              have HRc := Lib.hid (tright_any W9 { t with ver := 0 } (.slice sa t.do_.length sc) hm9.box.rd (wf_ver HFI.out.2) (HH.out.2.2.2.below hm9.box.below))
              unfold TRightSays at HRc
              rw [HRF.out.2.2.1] at HRc
              have HM9 := Lib.hid hm9
              clear hB9 hm9 HRb HM8 HRs
              go_wp2_with fail
              refine HRc.out.mono ?_
              rintro e W10 ⟨rfl, hB10⟩
              have hm10 := HM9.out.next hB10 HH.out.1
              clear c0 c1 c2 c3 c4
              obtain ⟨q0, q1, q2, q3, q4⟩ := box5 hm10.box.bt
              obtain ⟨p0, p1, p2, p3⟩ := box4 hm10.box.bs
              have HRs := Lib.hid (rright_any W10 s)
              have HM10 := Lib.hid hm10
              clear hB10 hm10 HRc HM9
              go_wp2_with fail
              refine HRs.out.mono ?_
              rintro e W11 ⟨rfl, hf11⟩
              have hm11 := HM10.out.next (hf11.below (fun _ _ h => h) (Nat.le_refl _)) HH.out.1
              have HAL := Lib.hid (alive_any W11 (HH.out.2.2.2.below hm11.box.below))
              have HM11 := Lib.hid hm11
              clear q0 q1 q2 q3 q4 p0 p1 p2 p3 hf11 hm11 HRs HM10
              go_wp2_with fail
              refine HAL.out.mono ?_
              rintro e W12 ⟨rfl, hB12⟩
              have hm12 := HM11.out.next hB12 HH.out.1
              obtain ⟨q0, q1, q2, q3, q4⟩ := box5 hm12.box.bt
              obtain ⟨d0, d1, d2, d3, d4⟩ := box5 hm12.d
              have HM12 := Lib.hid hm12
              clear hB12 hm12 HAL HM11
              first
                | (exfalso; have h1 := (HRF.out.2.2.2 (by trivial)).1; have h2 := HRF.out.1 (by trivial); omega)
                | (have hrd := (HRF.out.2.2.2 (by trivial)).2
                   have HRd := Lib.hid (tright_any W12 { t with do_ := [s] } (.slice (some ⟨n6 + 1 + 1 + 1 + 1, 0, none⟩) 1 1) HM12.out.rdStep (wf_do HFI.out.2 HH.out.2.2.1) (HH.out.2.2.2.below HM12.out.box.below))
                   unfold TRightSays at HRd
                   rw [hrd] at HRd
                   have ee : (rightS s == rightS s) = true := beq_self_eq_true _
                   clear hrd
                   go_wp2_with fail
                   refine HRd.out.mono ?_
                   rintro e W13 ⟨rfl, hB13⟩
                   have HM13 := Lib.hid (HM12.out.next hB13 HH.out.1)
                   clear hB13 HRd HM12 q0 q1 q2 q3 q4 d0 d1 d2 d3 d4
                   go_wp2_with fail
                   go_ret
                   exact ⟨rfl, HM13.out.box.below⟩)
                | (have e0 : t.name.size = 0 := HRF.out.1 (by trivial)
                   go_wp2_with fail
                   go_ret
                   exact ⟨rfl, HM12.out.box.below⟩)
                | (go_wp2_with fail
                   go_ret
                   exact ⟨rfl, HM12.out.box.below⟩)
                | trace_state
            · have hm10 := HM8.out
              obtain ⟨W10, rfl⟩ : ∃ W10, W10 = W8 := ⟨_, rfl⟩
              clear b0 b1 b2 b3 b4 q0 q1 q2 q3 q4 p0 p1 p2 p3
              have hB10 := True
              have HRc := True
              have HM9 := True
              obtain ⟨q0, q1, q2, q3, q4⟩ := box5 hm10.box.bt
              obtain ⟨p0, p1, p2, p3⟩ := box4 hm10.box.bs
              have HRs := Lib.hid (rright_any W10 s)
              have HM10 := Lib.hid hm10
              clear hB10 hm10 HRc HM9
              go_wp2_with fail
              refine HRs.out.mono ?_
              rintro e W11 ⟨rfl, hf11⟩
              have hm11 := HM10.out.next (hf11.below (fun _ _ h => h) (Nat.le_refl _)) HH.out.1
              have HAL := Lib.hid (alive_any W11 (HH.out.2.2.2.below hm11.box.below))
              have HM11 := Lib.hid hm11
              clear q0 q1 q2 q3 q4 p0 p1 p2 p3 hf11 hm11 HRs HM10
              go_wp2_with fail
              refine HAL.out.mono ?_
              rintro e W12 ⟨rfl, hB12⟩
              have hm12 := HM11.out.next hB12 HH.out.1
              obtain ⟨q0, q1, q2, q3, q4⟩ := box5 hm12.box.bt
              obtain ⟨d0, d1, d2, d3, d4⟩ := box5 hm12.d
              have HM12 := Lib.hid hm12
              clear hB12 hm12 HAL HM11
              first
                | (exfalso; have h1 := (HRF.out.2.2.2 (by trivial)).1; have h2 := HRF.out.1 (by trivial); omega)
                | (have hrd := (HRF.out.2.2.2 (by trivial)).2
                   have HRd := Lib.hid (tright_any W12 { t with do_ := [s] } (.slice (some ⟨n6 + 1 + 1 + 1 + 1, 0, none⟩) 1 1) HM12.out.rdStep (wf_do HFI.out.2 HH.out.2.2.1) (HH.out.2.2.2.below HM12.out.box.below))
                   unfold TRightSays at HRd
                   rw [hrd] at HRd
                   have ee : (rightS s == rightS s) = true := beq_self_eq_true _
                   clear hrd
                   go_wp2_with fail
                   refine HRd.out.mono ?_
                   rintro e W13 ⟨rfl, hB13⟩
                   have HM13 := Lib.hid (HM12.out.next hB13 HH.out.1)
                   clear hB13 HRd HM12 q0 q1 q2 q3 q4 d0 d1 d2 d3 d4
                   go_wp2_with fail
                   go_ret
                   exact ⟨rfl, HM13.out.box.below⟩)
                | (have e0 : t.name.size = 0 := HRF.out.1 (by trivial)
                   go_wp2_with fail
                   go_ret
                   exact ⟨rfl, HM12.out.box.below⟩)
                | (go_wp2_with fail
                   go_ret
                   exact ⟨rfl, HM12.out.box.below⟩)
                | trace_state
      · have e1 : decide ((s.key.size : Int) > 100) = false := by simp; omega
        have e2 : decide ((s.val.size : Int) > 100) = true := by simp; omega
        go_wp2_with fail
        go_ret
        exact ⟨rfl, HB2.out.1.below⟩
    · have e1 : decide ((s.key.size : Int) > 100) = true := by simp; omega
      go_wp2_with fail
      go_ret
      exact ⟨rfl, HB2.out.1.below⟩
end Go.Proofs.YtmjbhnkhpgnchaaDoor
