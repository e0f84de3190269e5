/-
  action.Encode.
-/
import Derived.Test.YtmjbhnkhpgnchaaDoorCod
import Derived.Test.YtmjbhnkhpgnchaaDoorAct
import Derived.Test.YtmjbhnkhpgnchaaDoorShelf
import Derived.Test.YtmjbhnkhpgnchaaDoorQueA
import Derived.Laws.Concat
import Derived.Lib.ItoaLen
namespace Go.Proofs.YtmjbhnkhpgnchaaDoor
open Go Go.RowKit

/-- the library's table of powers stands as it is laid. -/
def Tab (w : World) : Prop := Lib.TabIs Tryd.prog w "internal/strconv.uint64pow10" .u64 Lib.pow10Tab

theorem Tab.fr {F : Nat → Prop} {w w' : World} (h : Tab w) (hf : Fr F w w') (hF : ∀ g, Tryd.prog.globalNamed "internal/strconv.uint64pow10" = some g → ¬ F g) : Tab w' := by
  unfold Tab Lib.TabIs at *
  unfold World.var? at *
  cases hg : Tryd.prog.globalNamed "internal/strconv.uint64pow10" with
  | none => rw [hg] at h; simp at h
  | some g =>
    rw [hg] at h
    simp only [Option.bind_some] at h ⊢
    have hlt : g < w.heap.size := by
      cases hb : w.heap[g]? with
      | none => rw [hb] at h; simp at h
      | some o => exact (Array.getElem?_eq_some_iff.1 hb).1
    rw [hf.block g hlt (hF g hg)]
    exact h

theorem Tab.lt {w : World} (h : Tab w) {g : Nat} (hg : Tryd.prog.globalNamed "internal/strconv.uint64pow10" = some g) : g < w.heap.size := by
  unfold Tab Lib.TabIs World.var? at h
  rw [hg] at h
  simp only [Option.bind_some] at h
  cases hb : w.heap[g]? with
  | none => rw [hb] at h; simp at h
  | some o => exact (Array.getElem?_eq_some_iff.1 hb).1

theorem Tab.below {w w' : World} (h : Tab w) (hb : RowKit.Below w.heap.size w w') : Tab w' :=
  h.fr (F := fun k => w.heap.size ≤ k) (Fr.of_below hb) fun g hg hk => by have := h.lt hg; omega

def strB (s : ByteArray) : List Nat := s.data.toList.map fun b => b.toNat
theorem strB_len (s : ByteArray) : (strB s).length = s.size := by unfold strB; rw [List.length_map, Array.length_toList]; rfl
theorem strB_cells (s : ByteArray) : (strB s).flatMap encB = byteCells s := by
  unfold strB byteCells
  rw [List.flatMap_map]
  induction s.data.toList with
  | nil => rfl
  | cons a t ih =>
    rw [List.flatMap_cons, List.map_cons, ih]
    rfl

theorem str_src (s : ByteArray) (w : World) : Src Tryd.prog 1 9 (.string s) (strB s).length ((strB s).flatMap encB) w := by
  rw [strB_cells, strB_len]
  exact Src.ofString w Tryd.underlying9 s

/-- what stands behind a step's key -/
def Stp.rest (s : Stp) : ByteArray := if s.kind = 3 then ⟨(Lib.itoa s.n).toArray⟩ else s.val

def Stp.data (s : Stp) : List Nat := [s.key.size] ++ strB (s.key ++ s.rest)

def errA (l : List Stp) : Int := if 4 < l.length then 93 else if l.all rightS then 0 else 91

theorem rightS_name {s : Stp} (h : rightS s = true) : s.key.size ≤ 16 ∧ 1 ≤ s.kind ∧ s.kind ≤ 4 := by
  unfold rightS at h
  have hn : nameB s.key = true → s.key.size ≤ 16 := by
    unfold nameB
    simp only [Bool.and_eq_true, decide_eq_true_eq]
    exact fun h => h.2
  split at h
  · simp only [Bool.and_eq_true] at h
    exact ⟨hn h.1.1, by omega⟩
  · split at h
    · simp only [Bool.and_eq_true] at h
      exact ⟨hn h.1.1, by omega⟩
    · split at h
      · simp only [Bool.and_eq_true] at h
        exact ⟨hn h.1, by omega⟩
      · cases h

theorem toList_empty {s : ByteArray} (h : s.toList.isEmpty = true) : s.size = 0 := by
  rw [ByteArray.toList_eq] at h
  have h1 : s.data.toList = [] := by simpa using h
  have h2 := congrArg List.length h1
  simpa using h2

/-- a step as Go can have it -/
def Stp.wf (s : Stp) : Prop := -9223372036854775808 ≤ s.n ∧ s.n ≤ 9223372036854775807 ∧ -9223372036854775808 ≤ s.kind ∧ s.kind ≤ 9223372036854775807

theorem append_size (a b : ByteArray) : (a ++ b).size = a.size + b.size := ByteArray.size_append

theorem data_len {s : Stp} (h : rightS s = true) (hw : s.wf) : s.data.length ≤ 100 := by
  have h1 := (rightS_name h).1
  unfold Stp.data
  rw [List.length_append, strB_len, append_size]
  have h2 : s.rest.size ≤ 60 := by
    unfold Stp.rest
    split
    · have := Lib.itoa_length_le s.n hw.1 hw.2.1
      show (Lib.itoa s.n).toArray.size ≤ 60
      rw [List.size_toArray]
      omega
    · unfold rightS at h
      split at h
      · simp only [Bool.and_eq_true, decide_eq_true_eq] at h
        exact h.1.2
      · split at h
        · simp only [Bool.and_eq_true] at h
          have := toList_empty h.1.2
          omega
        · cases h
  simp only [List.length_singleton]
  omega

theorem encFld_cells' (f : Fld) (h : ∃ a n c, f.dv = .slice a n c) : ∀ u ∈ encFld f, u.oneCell' = true := by
  obtain ⟨a, n, c, h⟩ := h
  intro u hu
  simp only [encFld, List.mem_cons, List.not_mem_nil, or_false] at hu
  rcases hu with rfl | rfl
  · rfl
  · rw [h]; rfl

theorem info_field : (Tryd.prog.info? 90).map (fun i => (i.zero, i.size, i.bytes)) = some (some (.agg #[.int .i64 0, .slice none 0 0]), 2, 32) := by kernel_rfl
theorem zero_step (w : World) : (zeroValue 36).run Tryd.prog w = .ok (.agg #[.int .i64 0, .string ByteArray.empty, .string ByteArray.empty, .int .i64 0]) w := by kernel_rfl

theorem OwnS.form {α : Type} {enc : α → List Value} {k : Nat} {e : TypeId} {B : Nat} {w : World} {v : Value} {xs : List α} (h : OwnS enc k e B w v xs) (hne : xs ≠ []) : ∃ g cap, v = .slice (some ⟨g, 0, none⟩) xs.length cap := by
  rcases h.2 with ⟨_, h2⟩ | ⟨g, cap, cur, h1, _⟩
  · exact absurd (List.eq_nil_of_length_eq_zero h2) hne
  · exact ⟨g, cap, h1⟩

theorem ownS_one (w : World) (x B n : Nat) (hn : w.heap.size = n) (hB : B ≤ n) : OwnS encB 1 5 B ((w.alloc (Obj.cells #[.int .u8 x] 5)).drew) (.slice (some ⟨n, 0, none⟩) 1 1) [x] :=
  ⟨rfl, .inr ⟨n, 1, #[.int .u8 x], rfl, hB, alloc_get w _ hn, Nat.le_refl _, by decide, rfl, rfl⟩⟩

theorem fmt_any (w : World) (n : Int) (h0 : -9223372036854775808 ≤ n) (h1 : n ≤ 9223372036854775807) (h : Tab w) :
    Calls Tryd.prog 35 #[.int .i64 n, .int .i64 10] w fun e w' => e = .returned (.string ⟨(Lib.itoa n).toArray⟩) ∧ Fr (fun _ => False) w w' := by
  refine (Any.strconv_FormatInt_10 Tryd.fmtInt n h0 h1 w h).mono ?_
  rintro e w' ⟨rfl, k, os, rfl⟩
  exact ⟨rfl, fr_grow _ _ _⟩

/-- the fields of steps -/
def fldOf (s : Stp) (f : Fld) : Prop := f.tag = s.kind ∧ f.data = s.data

/-- what Encode's loop keeps: the first i steps are right, and their fields lie in f. -/
structure ActL (w wr : World) (l : List Stp) (i : Nat) (vf : Value) (fs : List Fld) : Prop where
  le : i ≤ l.length
  right : ∀ s ∈ l.take i, rightS s = true
  len : fs.length = i
  each : ∀ (k : Nat) (f : Fld) (s : Stp), fs[k]? = some f → l[k]? = some s → fldOf s f
  own : OwnS encFld 2 90 w.heap.size wr vf fs
  data : ∀ f ∈ fs, OwnS encB 1 5 w.heap.size wr f.dv f.data
  below : RowKit.Below w.heap.size w wr

def stepsB (l : List Stp) : List Nat := l.flatMap (fun s => [s.kind.toNat, s.data.length / 256, s.data.length % 256] ++ s.data)

def EncSays (w : World) (l : List Stp) (e : Ending) (w' : World) : Prop :=
  ∃ v', e = .returned (.tuple #[v', .int .i64 (errA l)]) ∧ OwnS encB 1 5 w.heap.size w' v' (if errA l = 0 then stepsB l else []) ∧ RowKit.Below w.heap.size w w'

theorem encSays_err {w w' : World} {l : List Stp} {c : Int} (hc : errA l = c) (h0 : c ≠ 0) (hb : RowKit.Below w.heap.size w w') : EncSays w l (.returned (.tuple #[.slice none 0 0, .int .i64 c])) w' := by
  refine ⟨.slice none 0 0, by rw [hc], ?_, hb⟩
  rw [if_neg (by rw [hc]; exact h0)]
  exact OwnS.nil

theorem errA_91 {l : List Stp} (h4 : ¬ 4 < l.length) {s : Stp} (hs : s ∈ l) (hr : rightS s = false) : errA l = 91 := by
  unfold errA
  rw [if_neg h4]
  have : l.all rightS = false := by
    cases ha : l.all rightS with
    | false => rfl
    | true =>
      have := List.all_eq_true.1 ha s hs
      rw [hr] at this
      cases this
  rw [this]
  rfl

theorem errA_0 {l : List Stp} (h4 : ¬ 4 < l.length) (h : ∀ s ∈ l, rightS s = true) : errA l = 0 := by
  unfold errA
  rw [if_neg h4, List.all_eq_true.2 h]
  rfl

theorem OwnS.form' {α : Type} {enc : α → List Value} {k : Nat} {e : TypeId} {B : Nat} {w : World} {v : Value} {x : α} {xs : List α} (h : OwnS enc k e B w v ([x] ++ xs)) : ∃ g n cap, v = .slice (some ⟨g, 0, none⟩) n cap := by
  obtain ⟨g, cap, h1⟩ := h.form (by simp)
  exact ⟨g, _, cap, h1⟩

theorem sz_alloc_le (w : World) (o : Obj) : w.heap.size ≤ (w.alloc o).heap.size := by rw [World.size_alloc]; exact Nat.le_succ _

theorem own_u4 {fs : List Fld} {B n : Nat} {W X w7 : World} {u4 : Value} (hoF : OwnS encFld 2 90 B W u4 fs) (hXF : Fr (fun _ => False) W X) (hf7 : Fr (fun g => (Value.slice (some ⟨n, 0, none⟩) 1 1).ownBlock = some g) X w7) (hu4 : ∀ g, u4.ownBlock = some g → g < n) : OwnS encFld 2 90 B w7 u4 fs :=
  (hoF.fr hXF (fun _ _ h => h)).fr hf7 (fun g hg e => by
    have h1 := hu4 g hg
    have : n = g := Option.some.inj (show some n = some g from e)
    omega)

theorem own_ne {α β : Type} {enc : α → List Value} {enc' : β → List Value} {k k' : Nat} {e e' : TypeId} {B B' : Nat} {w : World} {v v' : Value} {xs : List α} {ys : List β} (h : OwnS enc k e B w v xs) (h' : OwnS enc' k' e' B' w v' ys) (hne : e ≠ e') {g : Nat} (hg : v.ownBlock = some g) : v'.ownBlock ≠ some g := by
  intro hg'
  rcases h.2 with ⟨h1, _⟩ | ⟨g1, cap, cur, h1, _, h2, _⟩
  · rw [h1] at hg; cases hg
  · rcases h'.2 with ⟨h3, _⟩ | ⟨g2, cap', cur', h3, _, h4, _⟩
    · rw [h3] at hg'; cases hg'
    · rw [h1] at hg
      rw [h3] at hg'
      have e1 : g1 = g := Option.some.inj (show some g1 = some g from hg)
      have e2 : g2 = g := Option.some.inj (show some g2 = some g from hg')
      subst e1
      subst e2
      rw [h2] at h4
      injection h4 with h4
      injection h4 with _ h5 _
      exact hne h5

theorem actL_next {w wr W3 X w7 w8 : World} {l : List Stp} {i n : Nat} {u4 v8 dv : Value} {fs : List Fld} {s : Stp} (hL : ActL w wr l i u4 fs) (hs : l[i]? = some s) (hb : rightS s = true) (hi : i < l.length)
    (hoF : OwnS encFld 2 90 w.heap.size W3 u4 fs) (hoD : ∀ f ∈ fs, OwnS encB 1 5 w.heap.size W3 f.dv f.data) (hXF : Fr (fun _ => False) W3 X) (hn : n = W3.heap.size)
    (hf7 : Fr (fun g => (Value.slice (some ⟨n, 0, none⟩) 1 1).ownBlock = some g) X w7) (ho7 : OwnS encB 1 5 w.heap.size w7 dv s.data) (o : Obj) (hf8 : Fr (fun g => u4.ownBlock = some g) (w7.alloc o) w8)
    (ho8 : OwnS encFld 2 90 w.heap.size w8 v8 (fs ++ [⟨s.kind, dv, s.data⟩])) (hbel : RowKit.Below w.heap.size w w8) : ActL w w8 l (i + 1) v8 (fs ++ [⟨s.kind, dv, s.data⟩]) := by
  have hne : 5 ≠ 90 := by decide
  have hoF7 : OwnS encFld 2 90 w.heap.size (w7.alloc o) u4 fs := OwnS.alloc (own_u4 (n := n) hoF hXF hf7 (fun g hg => by have := (hoF.lt g hg).2; omega)) o
  refine ⟨hi, ?_, by rw [List.length_append, hL.len]; rfl, ?_, ho8, ?_, hbel⟩
  · intro s' hs'
    rw [List.take_add_one, hs] at hs'
    rcases List.mem_append.1 hs' with h | h
    · exact hL.right s' h
    · simp at h
      subst h
      exact hb
  · intro k f s' hf hs'
    by_cases hk : k < fs.length
    · rw [List.getElem?_append_left hk] at hf
      exact hL.each k f s' hf hs'
    · have hk2 := lt_of_get hf
      rw [List.length_append, List.length_singleton] at hk2
      have hki : k = fs.length := by omega
      subst hki
      rw [List.getElem?_append_right (Nat.le_refl _), Nat.sub_self] at hf
      rw [hL.len, hs] at hs'
      simp at hf hs'
      subst hf
      subst hs'
      exact ⟨rfl, rfl⟩
  · intro f hf
    rcases List.mem_append.1 hf with h | h
    · have h1 : OwnS encB 1 5 w.heap.size (w7.alloc o) f.dv f.data := OwnS.alloc (((hoD f h).fr hXF (fun _ _ h => h)).fr hf7 (fun g hg e => by
        have h2 := ((hoD f h).lt g hg).2
        have : n = g := Option.some.inj (show some n = some g from e)
        omega)) o
      exact h1.fr hf8 (fun g hg e => own_ne h1 hoF7 hne hg e)
    · simp at h
      subst h
      have h1 : OwnS encB 1 5 w.heap.size (w7.alloc o) dv s.data := OwnS.alloc ho7 o
      exact h1.fr hf8 (fun g hg e => own_ne h1 hoF7 hne hg e)

theorem flds_steps {l : List Stp} {fs : List Fld} (hl : fs.length = l.length) (he : ∀ (k : Nat) (f : Fld) (s : Stp), fs[k]? = some f → l[k]? = some s → fldOf s f) : fs.flatMap Fld.bytes = stepsB l := by
  unfold stepsB
  induction l generalizing fs with
  | nil =>
    have : fs = [] := List.eq_nil_of_length_eq_zero hl
    subst this
    rfl
  | cons s l ih =>
    cases fs with
    | nil => simp at hl
    | cons f fs =>
      rw [List.flatMap_cons, List.flatMap_cons, ih (by simpa using hl) (fun k f' s' h1 h2 => he (k + 1) f' s' (by simpa using h1) (by simpa using h2))]
      have h0 := he 0 f s rfl rfl
      unfold Fld.bytes
      rw [h0.1, h0.2]

theorem fldSrc (w7 : World) (k : Int) (g n c : Nat) (d : List Nat) : Src Tryd.prog 2 87 (.slice (some ⟨w7.heap.size, 0, none⟩) 1 1) [(⟨k, .slice (some ⟨g, 0, none⟩) n c, d⟩ : Fld)].length ([(⟨k, .slice (some ⟨g, 0, none⟩) n c, d⟩ : Fld)].flatMap encFld) (w7.alloc (Obj.cells #[.int .i64 k, .slice (some ⟨g, 0, none⟩) n c] 90)) :=
  Src.ofSlice _ Tryd.underlying87 ⟨w7.heap.size, 0, none⟩ 1 1 _ rfl (World.news_of_block (alloc_get w7 _ rfl)) (by
    intro u hu
    simp [encFld] at hu
    rcases hu with rfl | rfl <;> rfl)



set_option maxRecDepth 100000 in
set_option maxHeartbeats 1000000 in
theorem action_any (w : World) (v : Value) (l : List Stp) (h : RdSt w v l) (hlt : l.length ≤ 1000000) (hwf : ∀ s ∈ l, s.wf) (htab : Tab w) :
    Calls Tryd.prog 23 #[v] w (EncSays w l) := by
  obtain ⟨a, cap, hv, hcap, hcell⟩ := id h
  have HH := Lib.hid (And.intro h (And.intro hwf htab))
  have hcl := Lib.hid hcell
  have hz := zero_step
  subst hv
  clear h hwf hcell htab
  by_cases hl4 : 4 < l.length
  · have hE : errA l = 93 := if_pos hl4
    have HE := Lib.hid hE
    clear hE
    go_enter Tryd.func23, Tryd.ntmps23
    go_wp2
    go_ret2
    exact encSays_err HE.out (by decide) (RowKit.Below.refl _ _)
  · go_enter Tryd.func23, Tryd.ntmps23
    go_wp2
    go_loopg [4, 13] l.length (fun n vf iv wr => ∃ i fs, iv = .int .i64 (i : Nat) ∧ n = l.length - i ∧ ActL w wr l i vf fs)
    case atStart => exact ⟨0, [], rfl, rfl, ⟨Nat.zero_le _, (fun s hs => by simp at hs), rfl, (fun k f s hf => by simp at hf), OwnS.nil, (fun f hf => by cases hf), RowKit.Below.refl _ _⟩⟩
    case round =>
      obtain ⟨i, fs, rfl, rfl, hL⟩ := hrel
      have hle := hL.le
      by_cases hi : i < l.length
      · obtain ⟨s, hs⟩ : ∃ s, l[i]? = some s := ⟨_, List.getElem?_eq_getElem hi⟩
        obtain ⟨g, off, rfl, hg, hc⟩ := hcl.out i s hs
        have hgb : ∀ j, wr.cell? ⟨g, j, none⟩ = w.cell? ⟨g, j, none⟩ := fun j => World.cell?_of_block (w := w) (hL.below.block g hg)
        have c0 : wr.cell? ⟨g, off + i * 4, none⟩ = some (.int .i64 s.kind) := (hgb _).trans (hc 0 _ rfl)
        have c1 : wr.cell? ⟨g, off + i * 4 + 1, none⟩ = some (.string s.key) := (hgb _).trans (hc 1 _ rfl)
        have c2 : wr.cell? ⟨g, off + i * 4 + 2, none⟩ = some (.string s.val) := (hgb _).trans (hc 2 _ rfl)
        have c3 : wr.cell? ⟨g, off + i * 4 + 3, none⟩ = some (.int .i64 s.n) := (hgb _).trans (hc 3 _ rfl)
        have bi : (i : Int) < (l.length : Int) := by omega
        have hswf := HH.out.2.1 s (List.mem_of_getElem? hs)
        have HL := Lib.hid hL
        have HR := Lib.hid (fun w => right_any w s)
        clear hgb hc hL
        cases hb : rightS s with
        | false =>
          rw [hb] at HR
          go_wp2_with fail
          refine (HR.out _).mono ?_
          rintro e w2 ⟨rfl, hf2⟩
          have HF := Lib.hid hf2
          clear hf2 HR
          go_wp2_with fail
          go_ret2
          exact encSays_err (errA_91 hl4 (List.mem_of_getElem? hs) hb) (by decide) ((HL.out.below.alloc HL.out.below.size _).trans (HF.out.below (fun _ _ h => h) (by rw [World.size_alloc]; have := HL.out.below.size; omega)))
        | true =>
          rw [hb] at HR
          go_wp2_with fail
          refine (HR.out _).mono ?_
          rintro e w2 ⟨rfl, hf2⟩
          have hFW : Fr (fun _ => False) (wr.alloc (Obj.cells #[.int .i64 s.kind, .string s.key, .string s.val, .int .i64 s.n] 36)) w2 := hf2
          have hs2 := hf2.size
          rw [World.size_alloc] at hs2
          have hb2 : w2.heap[wr.heap.size]? = some (.cells #[.int .i64 s.kind, .string s.key, .string s.val, .int .i64 s.n] 36 (0, 0)) := (hf2.block wr.heap.size (by rw [World.size_alloc]; omega) (fun h => h)).trans (alloc_get wr _ rfl)
          have d0 : w2.cell? ⟨wr.heap.size, 0, none⟩ = some (.int .i64 s.kind) := by simp [World.cell?, hb2]
          have d2 : w2.cell? ⟨wr.heap.size, 2, none⟩ = some (.string s.val) := by simp [World.cell?, hb2]
          have d3 : w2.cell? ⟨wr.heap.size, 3, none⟩ = some (.int .i64 s.n) := by simp [World.cell?, hb2]
          by_cases hk3 : s.kind = 3
          · have hd3 : (s.kind == 3) = true := by rw [hk3]; rfl
            have hrest : s.rest = ⟨(Lib.itoa s.n).toArray⟩ := if_pos hk3
            have htab2 : Tab w2 := HH.out.2.2.below (((HL.out.below.alloc HL.out.below.size _).trans (hf2.below (fun _ _ h => h) (by rw [World.size_alloc]; have := HL.out.below.size; omega))))
            have HF := Lib.hid (fmt_any w2 s.n hswf.1 hswf.2.1 htab2)
            rw [← hrest] at HF
            have HFW := Lib.hid hFW
            clear hf2 hFW htab2 HR hb2 hrest c0 c1 c2 c3 hk3
            go_wp2_with fail
            refine HF.out.mono ?_
            rintro e w3 ⟨rfl, hf3⟩
            have hFW := HFW.out.trans hf3
            clear hf3 HF HFW d0 d2 d3
            go_wp2_with fail
            have HRT := Lib.hid (show s.rest = s.rest from rfl)
            have hsW := hFW.size
            rw [World.size_alloc] at hsW
            have hb6 : w3.heap[wr.heap.size]? = some (.cells #[.int .i64 s.kind, .string s.key, .string s.val, .int .i64 s.n] 36 (0, 0)) := (hFW.block wr.heap.size (by rw [World.size_alloc]; omega) (fun h => h)).trans (alloc_get wr _ rfl)
            have hwr := HL.out.below.size
            have hbW : RowKit.Below w.heap.size w w3 := (HL.out.below.alloc hwr _).trans (hFW.below (fun _ _ h => h) (by rw [World.size_alloc]; omega))
            have hS0 : w3.drew.cell? ⟨wr.heap.size, 0, none⟩ = some (.int .i64 s.kind) ∧ w3.drew.cell? ⟨wr.heap.size, 1, none⟩ = some (.string s.key) ∧ RowKit.Below w.heap.size w w3.drew := by
              refine ⟨?_, ?_, hbW.drew⟩
              · show w3.cell? _ = _
                simp [World.cell?, hb6]
              · show w3.cell? _ = _
                simp [World.cell?, hb6]
            have hoF : OwnS encFld 2 90 w.heap.size w3 u4 fs := (OwnS.alloc HL.out.own _).fr hFW (fun _ _ h => h)
            have hoD : ∀ f ∈ fs, OwnS encB 1 5 w.heap.size w3 f.dv f.data := fun f hf => (OwnS.alloc (HL.out.data f hf) _).fr hFW (fun _ _ h => h)
            have hks := (rightS_name hb).1
            have hw1 : IntKind.u8.wrap (s.key.size : Int) = (s.key.size : Int) := by
              unfold IntKind.wrap
              simp [IntKind.bits, IntKind.signed]
              omega
            have hdl := data_len hb hswf
            have hdd : s.data = [s.key.size] ++ strB (s.key ++ s.rest) := rfl
            have hcat : ∀ w, (Op.stringOp .add s.key s.rest).run Tryd.prog w = .ok (.string (s.key ++ s.rest)) w := fun w => (congrArg (fun x => (Op.stringOp .add s.key x).run Tryd.prog w) HRT.out.symm).trans (run_string_add_sum w _ _ (by
              rw [hdd, List.length_append, strB_len, append_size] at hdl
              omega))
            clear HRT
            have hown1 : OwnS encB 1 5 w.heap.size ((w3.alloc (Obj.cells #[.int .u8 s.key.size] 5)).drew) (.slice (some ⟨w3.heap.size, 0, none⟩) 1 1) [s.key.size] := ownS_one w3 s.key.size w.heap.size _ rfl (by omega)
            have hA1 : [s.key.size].length + (strB (s.key ++ s.rest)).length ≤ maxLen := by
              rw [← List.length_append, ← hdd]; unfold maxLen; omega
            have hA2 : ([s.key.size].length + (strB (s.key ++ s.rest)).length) * 1 ≤ 140737488355328 := by
              rw [← List.length_append, ← hdd]; omega
            have hu4 : ∀ g, u4.ownBlock = some g → w.heap.size ≤ g ∧ g ≠ wr.heap.size ∧ g < w3.heap.size := fun g hg => by
              have := HL.out.own.lt g hg
              omega
            have hfl := HL.out.len
            have hX : w.heap.size ≤ ((w3.alloc (Obj.cells #[.int .u8 s.key.size] 5)).drew).heap.size := by
              show _ ≤ (w3.alloc _).heap.size
              rw [World.size_alloc]; omega
            have hX2 : wr.heap.size < ((w3.alloc (Obj.cells #[.int .u8 s.key.size] 5)).drew).heap.size := by
              show _ < (w3.alloc _).heap.size
              rw [World.size_alloc]; omega
            have hbuf : ∀ g, (Value.slice (some ⟨w3.heap.size, 0, none⟩) 1 1).ownBlock = some g → w.heap.size ≤ g ∧ g ≠ wr.heap.size := fun g hg => by
              have : w3.heap.size = g := Option.some.inj (show some w3.heap.size = some g from hg)
              omega
            have hXF : Fr (fun _ => False) w3 ((w3.alloc (Obj.cells #[.int .u8 s.key.size] 5)).drew) := ((Fr.refl _ w3).alloc _).drew
            have HA := Lib.hid (And.intro hA1 (And.intro hA2 (And.intro hX (And.intro hX2 (And.intro hbuf (And.intro hXF (And.intro hoF (And.intro hoD (And.intro hu4 (And.intro hdl (And.intro hdd (And.intro hfl (show 1 ≤ 1 from Nat.le_refl _)))))))))))))
            have hsrc := fun W => str_src (s.key ++ s.rest) W
            have HB := Lib.hid (show fs.length + 1 ≤ maxLen ∧ (fs.length + 1) * 32 ≤ 140737488355328 by unfold maxLen; omega)
            have HW := Lib.hid (show wr.heap.size < w3.heap.size ∧ w.heap.size ≤ w3.heap.size by omega)
            clear hA1 hA2 hX hX2 hbuf hXF hoF hoD hu4 hb6 hFW hbW hdl hdd hfl hks
            go_region_held3 (fun w' => w'.cell? ⟨wr.heap.size, 0, none⟩ = some (.int .i64 s.kind) ∧ w'.cell? ⟨wr.heap.size, 1, none⟩ = some (.string s.key) ∧ RowKit.Below w.heap.size w w')
              (first
                | exact hS0
                | exact codS_alloc hS0 HW.out.1 HW.out.2 _
                | exact codS_fr (by assumption) HA.out.2.2.2.1 HA.out.2.2.1 hf7 HA.out.2.2.2.2.1
                | exact codS_alloc (by assumption) (Nat.lt_of_lt_of_le HA.out.2.2.2.1 hf7.size) (Nat.le_trans HA.out.2.2.1 hf7.size) _
                | exact codS_fr (by assumption) (Nat.lt_of_lt_of_le HA.out.2.2.2.1 (Nat.le_trans hf7.size (sz_alloc_le _ _))) (Nat.le_trans HA.out.2.2.1 (Nat.le_trans hf7.size (sz_alloc_le _ _))) hf8 hz9)
              (first
                | (refine step_appendSrc (xs := strB (s.key ++ s.rest)) rfl _ _ _ _ rfl Tryd.underlying59 info_u8 rfl rfl hown1 rfl (hsrc _) HA.out.1 HA.out.2.1 HA.out.2.2.1 ?_; intro v7 w7 ho7 hf7x hl7; have hf7 : Fr (fun g => (Value.slice (some ⟨w3.heap.size, 0, none⟩) 1 1).ownBlock = some g) ((w3.alloc (Obj.cells #[.int .u8 s.key.size] 5)).drew) w7 := hf7x; clear hf7x; obtain ⟨g7, n7, c7, hv7⟩ := OwnS.form' ho7; subst hv7)
                | (have hoF7 := own_u4 (n := w3.heap.size) HA.out.2.2.2.2.2.2.1 HA.out.2.2.2.2.2.1 hf7 (fun g hg => (HA.out.2.2.2.2.2.2.2.2.1 g hg).2.2); refine step_appendSrc (xs := [(⟨s.kind, .slice (some ⟨g7, 0, none⟩) n7 c7, s.data⟩ : Fld)]) rfl _ _ _ _ rfl Tryd.underlying87 info_field rfl rfl (OwnS.alloc hoF7 _) rfl (fldSrc w7 s.kind g7 n7 c7 s.data) HB.out.1 HB.out.2 (Nat.le_trans (Nat.le_trans HA.out.2.2.1 hf7.size) (sz_alloc_le _ _)) ?_; intro v8 w8 ho8 hf8 hl8; have hz9 : ∀ g, u4.ownBlock = some g → w.heap.size ≤ g ∧ g ≠ wr.heap.size := (fun g hg => And.intro (HA.out.2.2.2.2.2.2.2.2.1 g hg).1 (HA.out.2.2.2.2.2.2.2.2.1 g hg).2.1)))
            all_goals
              rename_i hHeld
              have hdd : s.data = [s.key.size] ++ strB (s.key ++ s.rest) := rfl
              have hfin := actL_next HL.out hs hb hi HA.out.2.2.2.2.2.2.1 HA.out.2.2.2.2.2.2.2.1 HA.out.2.2.2.2.2.1 rfl hf7 (by rw [hdd]; exact ho7) _ hf8 ho8 hHeld.2.2
              have HFI := Lib.hid hfin
              clear hHeld hfin ho8 hf8 hl8 ho7 hf7 hl7 hS0 hown1 hsrc hoF7
              go_wp2
              go_roundg (l.length - (i + 1))
              case rel => exact ⟨i + 1, _, by go_num, rfl, HFI.out⟩
              case measure => omega
          · have hd3 : (s.kind == 3) = false := by simpa using hk3
            have hrest : s.rest = s.val := if_neg hk3
            have HRT := Lib.hid hrest
            have HFW := Lib.hid hFW
            clear hf2 hFW HR hb2 hrest c0 c1 c2 c3 hk3
            go_wp2_with fail
            have hFW := HFW.out
            clear HFW d0 d2 d3
            have hsW := hFW.size
            rw [World.size_alloc] at hsW
            have hb6 : w2.heap[wr.heap.size]? = some (.cells #[.int .i64 s.kind, .string s.key, .string s.val, .int .i64 s.n] 36 (0, 0)) := (hFW.block wr.heap.size (by rw [World.size_alloc]; omega) (fun h => h)).trans (alloc_get wr _ rfl)
            have hwr := HL.out.below.size
            have hbW : RowKit.Below w.heap.size w w2 := (HL.out.below.alloc hwr _).trans (hFW.below (fun _ _ h => h) (by rw [World.size_alloc]; omega))
            have hS0 : w2.drew.cell? ⟨wr.heap.size, 0, none⟩ = some (.int .i64 s.kind) ∧ w2.drew.cell? ⟨wr.heap.size, 1, none⟩ = some (.string s.key) ∧ RowKit.Below w.heap.size w w2.drew := by
              refine ⟨?_, ?_, hbW.drew⟩
              · show w2.cell? _ = _
                simp [World.cell?, hb6]
              · show w2.cell? _ = _
                simp [World.cell?, hb6]
            have hoF : OwnS encFld 2 90 w.heap.size w2 u4 fs := (OwnS.alloc HL.out.own _).fr hFW (fun _ _ h => h)
            have hoD : ∀ f ∈ fs, OwnS encB 1 5 w.heap.size w2 f.dv f.data := fun f hf => (OwnS.alloc (HL.out.data f hf) _).fr hFW (fun _ _ h => h)
            have hks := (rightS_name hb).1
            have hw1 : IntKind.u8.wrap (s.key.size : Int) = (s.key.size : Int) := by
              unfold IntKind.wrap
              simp [IntKind.bits, IntKind.signed]
              omega
            have hdl := data_len hb hswf
            have hdd : s.data = [s.key.size] ++ strB (s.key ++ s.rest) := rfl
            have hcat : ∀ w, (Op.stringOp .add s.key s.val).run Tryd.prog w = .ok (.string (s.key ++ s.rest)) w := fun w => (congrArg (fun x => (Op.stringOp .add s.key x).run Tryd.prog w) HRT.out.symm).trans (run_string_add_sum w _ _ (by
              rw [hdd, List.length_append, strB_len, append_size] at hdl
              omega))
            clear HRT
            have hown1 : OwnS encB 1 5 w.heap.size ((w2.alloc (Obj.cells #[.int .u8 s.key.size] 5)).drew) (.slice (some ⟨w2.heap.size, 0, none⟩) 1 1) [s.key.size] := ownS_one w2 s.key.size w.heap.size _ rfl (by omega)
            have hA1 : [s.key.size].length + (strB (s.key ++ s.rest)).length ≤ maxLen := by
              rw [← List.length_append, ← hdd]; unfold maxLen; omega
            have hA2 : ([s.key.size].length + (strB (s.key ++ s.rest)).length) * 1 ≤ 140737488355328 := by
              rw [← List.length_append, ← hdd]; omega
            have hu4 : ∀ g, u4.ownBlock = some g → w.heap.size ≤ g ∧ g ≠ wr.heap.size ∧ g < w2.heap.size := fun g hg => by
              have := HL.out.own.lt g hg
              omega
            have hfl := HL.out.len
            have hX : w.heap.size ≤ ((w2.alloc (Obj.cells #[.int .u8 s.key.size] 5)).drew).heap.size := by
              show _ ≤ (w2.alloc _).heap.size
              rw [World.size_alloc]; omega
            have hX2 : wr.heap.size < ((w2.alloc (Obj.cells #[.int .u8 s.key.size] 5)).drew).heap.size := by
              show _ < (w2.alloc _).heap.size
              rw [World.size_alloc]; omega
            have hbuf : ∀ g, (Value.slice (some ⟨w2.heap.size, 0, none⟩) 1 1).ownBlock = some g → w.heap.size ≤ g ∧ g ≠ wr.heap.size := fun g hg => by
              have : w2.heap.size = g := Option.some.inj (show some w2.heap.size = some g from hg)
              omega
            have hXF : Fr (fun _ => False) w2 ((w2.alloc (Obj.cells #[.int .u8 s.key.size] 5)).drew) := ((Fr.refl _ w2).alloc _).drew
            have HA := Lib.hid (And.intro hA1 (And.intro hA2 (And.intro hX (And.intro hX2 (And.intro hbuf (And.intro hXF (And.intro hoF (And.intro hoD (And.intro hu4 (And.intro hdl (And.intro hdd (And.intro hfl (show 1 ≤ 1 from Nat.le_refl _)))))))))))))
            have hsrc := fun W => str_src (s.key ++ s.rest) W
            have HB := Lib.hid (show fs.length + 1 ≤ maxLen ∧ (fs.length + 1) * 32 ≤ 140737488355328 by unfold maxLen; omega)
            have HW := Lib.hid (show wr.heap.size < w2.heap.size ∧ w.heap.size ≤ w2.heap.size by omega)
            clear hA1 hA2 hX hX2 hbuf hXF hoF hoD hu4 hb6 hFW hbW hdl hdd hfl hks
            go_region_held3 (fun w' => w'.cell? ⟨wr.heap.size, 0, none⟩ = some (.int .i64 s.kind) ∧ w'.cell? ⟨wr.heap.size, 1, none⟩ = some (.string s.key) ∧ RowKit.Below w.heap.size w w')
              (first
                | exact hS0
                | exact codS_alloc hS0 HW.out.1 HW.out.2 _
                | exact codS_fr (by assumption) HA.out.2.2.2.1 HA.out.2.2.1 hf7 HA.out.2.2.2.2.1
                | exact codS_alloc (by assumption) (Nat.lt_of_lt_of_le HA.out.2.2.2.1 hf7.size) (Nat.le_trans HA.out.2.2.1 hf7.size) _
                | exact codS_fr (by assumption) (Nat.lt_of_lt_of_le HA.out.2.2.2.1 (Nat.le_trans hf7.size (sz_alloc_le _ _))) (Nat.le_trans HA.out.2.2.1 (Nat.le_trans hf7.size (sz_alloc_le _ _))) hf8 hz9)
              (first
                | (refine step_appendSrc (xs := strB (s.key ++ s.rest)) rfl _ _ _ _ rfl Tryd.underlying59 info_u8 rfl rfl hown1 rfl (hsrc _) HA.out.1 HA.out.2.1 HA.out.2.2.1 ?_; intro v7 w7 ho7 hf7x hl7; have hf7 : Fr (fun g => (Value.slice (some ⟨w2.heap.size, 0, none⟩) 1 1).ownBlock = some g) ((w2.alloc (Obj.cells #[.int .u8 s.key.size] 5)).drew) w7 := hf7x; clear hf7x; obtain ⟨g7, n7, c7, hv7⟩ := OwnS.form' ho7; subst hv7)
                | (have hoF7 := own_u4 (n := w2.heap.size) HA.out.2.2.2.2.2.2.1 HA.out.2.2.2.2.2.1 hf7 (fun g hg => (HA.out.2.2.2.2.2.2.2.2.1 g hg).2.2); refine step_appendSrc (xs := [(⟨s.kind, .slice (some ⟨g7, 0, none⟩) n7 c7, s.data⟩ : Fld)]) rfl _ _ _ _ rfl Tryd.underlying87 info_field rfl rfl (OwnS.alloc hoF7 _) rfl (fldSrc w7 s.kind g7 n7 c7 s.data) HB.out.1 HB.out.2 (Nat.le_trans (Nat.le_trans HA.out.2.2.1 hf7.size) (sz_alloc_le _ _)) ?_; intro v8 w8 ho8 hf8 hl8; have hz9 : ∀ g, u4.ownBlock = some g → w.heap.size ≤ g ∧ g ≠ wr.heap.size := (fun g hg => And.intro (HA.out.2.2.2.2.2.2.2.2.1 g hg).1 (HA.out.2.2.2.2.2.2.2.2.1 g hg).2.1)))
            all_goals
              rename_i hHeld
              have hdd : s.data = [s.key.size] ++ strB (s.key ++ s.rest) := rfl
              have hfin := actL_next HL.out hs hb hi HA.out.2.2.2.2.2.2.1 HA.out.2.2.2.2.2.2.2.1 HA.out.2.2.2.2.2.1 rfl hf7 (by rw [hdd]; exact ho7) _ hf8 ho8 hHeld.2.2
              have HFI := Lib.hid hfin
              clear hHeld hfin ho8 hf8 hl8 ho7 hf7 hl7 hS0 hown1 hsrc hoF7
              go_wp2
              go_roundg (l.length - (i + 1))
              case rel => exact ⟨i + 1, _, by go_num, rfl, HFI.out⟩
              case measure => omega
      · have hie : i = l.length := by omega
        have hall : ∀ s ∈ l, rightS s = true := fun s hs => hL.right s (by rw [hie, List.take_length]; exact hs)
        have hE0 := errA_0 hl4 hall
        have hfl : fs.length = l.length := by rw [hL.len, hie]
        have hst := flds_steps hfl hL.each
        have hof : ∀ (f : Fld), f ∈ fs → ∃ s, s ∈ l ∧ fldOf s f := fun f hf => by
          obtain ⟨k, hk⟩ := List.getElem?_of_mem hf
          have hkl : k < l.length := by rw [← hfl]; exact lt_of_get hk
          exact ⟨l[k], List.getElem_mem hkl, hL.each k f _ hk (List.getElem?_eq_getElem hkl)⟩
        have HC := Lib.hid (codec_ok wr u4 fs ⟨hL.own.rd encFld_len, fun f hf => (hL.data f hf).rd encB_len⟩ (by omega) (fun f hf => by
          obtain ⟨s, hs, h1, h2⟩ := hof f hf
          have h3 := rightS_name (hall s hs)
          have h4 := data_len (hall s hs) (HH.out.2.1 s hs)
          exact ⟨by rw [h1]; exact h3.2.1, by rw [h1]; omega, by rw [h2]; omega⟩))
        rw [hst] at HC
        have HL := Lib.hid (And.intro hL.below hE0)
        have hd : decide ((i : Int) < (l.length : Int)) = false := by rw [decide_eq_false_iff_not]; omega
        clear hL hall hE0 hst hof
        go_wp2_with fail
        refine HC.out.mono ?_
        rintro e w2 ⟨v', rfl, ho, hb⟩
        have HR := Lib.hid (And.intro ho hb)
        clear ho hb HC
        go_wp2_with fail
        go_ret2
        refine ⟨v', by rw [HL.out.2]; rfl, ?_, HL.out.1.trans (HR.out.2.mono HL.out.1.size)⟩
        rw [if_pos HL.out.2]
        exact HR.out.1.wide HL.out.1.size
end Go.Proofs.YtmjbhnkhpgnchaaDoor
