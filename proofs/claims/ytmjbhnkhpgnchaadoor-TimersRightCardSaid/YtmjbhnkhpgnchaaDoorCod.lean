/-
  codec.Encode.
-/
import Derived.Test.YtmjbhnkhpgnchaaDoorSrc
import Derived.Deep.RegionHeld3
import Derived.Deep.LoopGhost
namespace Go.Proofs.YtmjbhnkhpgnchaaDoor
open Go Go.RowKit

def encB (b : Nat) : List Value := [.int .u8 b]
theorem encB_len (b : Nat) : (encB b).length = 1 := rfl
theorem all_b_cells (xs : List Nat) : ∀ u ∈ xs.flatMap encB, u.oneCell' = true := by
  intro u hu
  obtain ⟨s, _, hs⟩ := List.mem_flatMap.1 hu
  simp [encB] at hs
  subst hs
  rfl
theorem info_u8 : (Tryd.prog.info? 5).map (fun i => (i.zero, i.size, i.bytes)) = some (some (.int .u8 0), 1, 1) := by kernel_rfl

/-- a field, with the slice that holds its bytes -/
structure Fld where
  tag : Int
  dv : Value
  data : List Nat

def encFld (f : Fld) : List Value := [.int .i64 f.tag, f.dv]
theorem encFld_len (f : Fld) : (encFld f).length = 2 := rfl

def FldsAt (w : World) (v : Value) (fs : List Fld) : Prop := RdS encFld 2 w v fs ∧ ∀ f ∈ fs, RdS encB 1 w f.dv f.data

def Fld.ok (f : Fld) : Prop := 1 ≤ f.tag ∧ f.tag ≤ 255 ∧ f.data.length ≤ 2000

def Fld.bytes (f : Fld) : List Nat := [f.tag.toNat, f.data.length / 256, f.data.length % 256] ++ f.data

theorem flds_len {fs : List Fld} (h : ∀ f ∈ fs, f.ok) : (fs.flatMap Fld.bytes).length ≤ 2003 * fs.length := by
  induction fs with
  | nil => simp
  | cons f fs ih =>
    have h1 := ih fun g hg => h g (List.mem_cons_of_mem _ hg)
    have h2 := (h f (List.mem_cons_self ..)).2.2
    simp only [List.flatMap_cons, List.length_append, List.length_cons, Fld.bytes, List.length_nil]
    omega

/-- what Encode's loop keeps -/
structure CodL (w wr : World) (fs : List Fld) (i : Nat) (vo : Value) : Prop where
  le : i ≤ fs.length
  own : OwnS encB 1 5 w.heap.size wr vo ((fs.take i).flatMap Fld.bytes)
  below : RowKit.Below w.heap.size w wr

theorem codS_alloc {n b6 : Nat} {c d : Value} {w W : World} (h : W.cell? ⟨b6, 0, none⟩ = some c ∧ W.cell? ⟨b6, 1, none⟩ = some d ∧ RowKit.Below n w W) (hb : b6 < W.heap.size) (hn : n ≤ W.heap.size) (o : Obj) :
    (W.alloc o).cell? ⟨b6, 0, none⟩ = some c ∧ (W.alloc o).cell? ⟨b6, 1, none⟩ = some d ∧ RowKit.Below n w (W.alloc o) :=
  ⟨(World.cell?_of_block (w := W) (Below.heap_alloc W o b6 hb)).trans h.1, (World.cell?_of_block (w := W) (Below.heap_alloc W o b6 hb)).trans h.2.1, h.2.2.alloc hn o⟩

theorem codS_fr {n b6 : Nat} {c d v : Value} {w W W' : World} (h : W.cell? ⟨b6, 0, none⟩ = some c ∧ W.cell? ⟨b6, 1, none⟩ = some d ∧ RowKit.Below n w W) (hb : b6 < W.heap.size) (hn : n ≤ W.heap.size)
    (hf : Fr (fun g => v.ownBlock = some g) W W') (hv : ∀ g, v.ownBlock = some g → n ≤ g ∧ g ≠ b6) :
    W'.cell? ⟨b6, 0, none⟩ = some c ∧ W'.cell? ⟨b6, 1, none⟩ = some d ∧ RowKit.Below n w W' :=
  ⟨(hf.cell (p := ⟨b6, 0, none⟩) hb (fun e => (hv b6 e).2 rfl)).trans h.1, (hf.cell (p := ⟨b6, 1, none⟩) hb (fun e => (hv b6 e).2 rfl)).trans h.2.1,
   h.2.2.trans (hf.below (fun k hk e => by have := (hv k e).1; omega) hn)⟩

set_option maxRecDepth 100000 in
set_option maxHeartbeats 1000000 in
theorem codec_ok (w : World) (v : Value) (fs : List Fld) (h : FldsAt w v fs) (hl : fs.length ≤ 200) (hok : ∀ f ∈ fs, f.ok) :
    Calls Tryd.prog 36 #[v] w fun e w' => ∃ v', e = .returned (.tuple #[v', .int .i64 0]) ∧ OwnS encB 1 5 w.heap.size w' v' (fs.flatMap Fld.bytes) ∧ RowKit.Below w.heap.size w w' := by
  obtain ⟨a, cap, hv, hcap, hcell⟩ := id h.1
  have HH := Lib.hid (And.intro h hok)
  have hcl := Lib.hid hcell
  have hz : ∀ w, (zeroValue 90).run Tryd.prog w = .ok (.agg #[.int .i64 0, .slice none 0 0]) w := fun w => by kernel_rfl
  subst hv
  clear h hok hcell
  go_enter Tryd.func36, Tryd.ntmps36
  go_wp2
  go_loopg [4, 13] fs.length (fun n vo iv wr => ∃ i, iv = .int .i64 (i : Nat) ∧ n = fs.length - i ∧ CodL w wr fs i vo)
  case atStart => exact ⟨0, rfl, rfl, ⟨Nat.zero_le _, by simpa using OwnS.nil, RowKit.Below.refl _ _⟩⟩
  case round =>
    obtain ⟨i, rfl, rfl, hL⟩ := hrel
    have hle := hL.le
    by_cases hi : i < fs.length
    · obtain ⟨f, hf⟩ : ∃ f, fs[i]? = some f := ⟨_, List.getElem?_eq_getElem hi⟩
      obtain ⟨g, off, rfl, hg, hc⟩ := hcl.out i f hf
      have hgb : ∀ j, wr.cell? ⟨g, j, none⟩ = w.cell? ⟨g, j, none⟩ := fun j => World.cell?_of_block (w := w) (hL.below.block g hg)
      have c0 : wr.cell? ⟨g, off + i * 2, none⟩ = some (.int .i64 f.tag) := (hgb _).trans (hc 0 _ rfl)
      have c1 : wr.cell? ⟨g, off + i * 2 + 1, none⟩ = some f.dv := (hgb _).trans (hc 1 _ rfl)
      obtain ⟨fa, fcap, hfv, _⟩ : ∃ fa fc, f.dv = .slice fa f.data.length fc ∧ True := by
        obtain ⟨fa, fc, h1, _⟩ := HH.out.1.2 f (List.mem_of_getElem? hf)
        exact ⟨fa, fc, h1, trivial⟩
      have hfok := HH.out.2 f (List.mem_of_getElem? hf)
      have o1 := hfok.1
      have o2 := hfok.2.1
      have o3 := hfok.2.2
      obtain ⟨T, hT⟩ : ∃ T : Nat, f.tag = (T : Int) := ⟨f.tag.toNat, by omega⟩
      have hTn : f.tag.toNat = T := by omega
      have hbytes : f.bytes = [T, f.data.length / 256, f.data.length % 256] ++ f.data := by unfold Fld.bytes; rw [hTn]
      have hlen3 := flds_len (fs := fs.take i) (fun g hg => HH.out.2 g (List.mem_of_mem_take hg))
      rw [List.length_take, Nat.min_eq_left hle] at hlen3
      have hrd0 : ∀ W, RowKit.Below w.heap.size w W → RdS encB 1 W f.dv f.data := fun W hW => by
        have h0 := HH.out.1.2 f (List.mem_of_getElem? hf)
        exact h0.fr (F := fun k => w.heap.size ≤ k) (Fr.of_below hW) (fun hne g hg hk => by have := h0.lt hne hg; omega)
      have hstep : (fs.take (i + 1)).flatMap Fld.bytes = (fs.take i).flatMap Fld.bytes ++ f.bytes := by
        rw [List.take_add_one, hf]
        simp
      have HL := Lib.hid (And.intro hL (And.intro hrd0 (And.intro hstep (And.intro hbytes hlen3))))
      have bi : (i : Int) < (fs.length : Int) := by omega
      rw [hfv] at c1
      rw [hT] at c0 o1 o2
      generalize hdn : f.data.length = dn at *
      obtain ⟨q, hq⟩ : ∃ q, q = dn / 256 := ⟨_, rfl⟩
      obtain ⟨r, hr⟩ : ∃ r, r = dn % 256 := ⟨_, rfl⟩
      have hw1 : IntKind.u8.wrap (T : Int) = T := by
        unfold IntKind.wrap
        simp [IntKind.bits, IntKind.signed]
        omega
      have hw2 : IntKind.u8.wrap ((dn : Int) / 256) = (q : Int) := by
        unfold IntKind.wrap
        simp [IntKind.bits, IntKind.signed]
        omega
      have hw3 : IntKind.u8.wrap (dn : Int) = (r : Int) := by
        unfold IntKind.wrap
        simp [IntKind.bits, IntKind.signed]
        omega
      have hQR := Lib.hid (And.intro hdn (And.intro hq (And.intro hr (And.intro hT hf))))
      clear hgb hc hL hrd0 hstep hbytes hlen3 hq hr hT hTn hdn hf
      go_wp2
      obtain ⟨w6, hw6⟩ : ∃ w6, w6 = wr.alloc (Obj.cells #[.int .i64 T, .slice fa dn fcap] 90) := ⟨_, rfl⟩
      rw [← hw6]
      have hb6 : w6.heap[wr.heap.size]? = some (.cells #[.int .i64 T, .slice fa dn fcap] 90 (0, 0)) := by rw [hw6]; exact alloc_get wr _ rfl
      have hs6 : w6.heap.size = wr.heap.size + 1 := by rw [hw6]; exact World.size_alloc ..
      have hwr := HL.out.1.below.size
      have hS0 : w6.drew.cell? ⟨wr.heap.size, 0, none⟩ = some (.int .i64 T) ∧ w6.drew.cell? ⟨wr.heap.size, 1, none⟩ = some (.slice fa dn fcap) ∧ RowKit.Below w.heap.size w w6.drew := by
        refine ⟨?_, ?_, ?_⟩
        · show w6.cell? _ = _
          simp [World.cell?, hb6]
        · show w6.cell? _ = _
          simp [World.cell?, hb6]
        · rw [hw6]; exact (HL.out.1.below.alloc hwr _).drew
      have hown6 : OwnS encB 1 5 w.heap.size w6 u4 ((fs.take i).flatMap Fld.bytes) := by rw [hw6]; exact OwnS.alloc HL.out.1.own _
      have hu4 : ∀ g, u4.ownBlock = some g → w.heap.size ≤ g ∧ g ≠ wr.heap.size := fun g hg => by
        have := HL.out.1.own.lt g hg
        omega
      have hnb : ((w6.alloc (Obj.cells #[.int .u8 T, .int .u8 q, .int .u8 r] 5)).drew).heap[w6.heap.size]? = some (Obj.cells #[.int .u8 T, .int .u8 q, .int .u8 r] 5 (0, 0)) := alloc_get w6 _ rfl
      have hsrc : Src Tryd.prog 1 59 (.slice (some ⟨w6.heap.size, 0, none⟩) 3 3) [T, q, r].length ([T, q, r].flatMap encB) ((w6.alloc (Obj.cells #[.int .u8 T, .int .u8 q, .int .u8 r] 5)).drew) :=
        Src.ofSlice _ Tryd.underlying59 ⟨w6.heap.size, 0, none⟩ 3 3 _ rfl (World.news_of_block hnb) (all_b_cells _)
      have hlen4 := HL.out.2.2.2.2
      have hdl : f.data.length = dn := hQR.out.1
      have hG := Lib.hid hw6
      have hrd2 : ∀ W, (W.cell? ⟨wr.heap.size, 0, none⟩ = some (.int .i64 T) ∧ W.cell? ⟨wr.heap.size, 1, none⟩ = some (.slice fa dn fcap) ∧ RowKit.Below w.heap.size w W) → Src Tryd.prog 1 59 (.slice fa dn fcap) f.data.length (f.data.flatMap encB) W := fun W hW => by
        have := (HL.out.2.1 W hW.2.2).src (P := Tryd.prog) (t := 59) encB_len Tryd.underlying59 (all_b_cells _)
        rw [hfv] at this
        exact this
      have hsz3 : ((w6.alloc (Obj.cells #[.int .u8 T, .int .u8 q, .int .u8 r] 5)).drew).heap.size = wr.heap.size + 2 := by
        show (w6.alloc _).heap.size = _
        rw [World.size_alloc, hs6]
      rw [hs6] at hsrc
      have hA1 : ((fs.take i).flatMap Fld.bytes).length + [T, q, r].length ≤ maxLen := by
        rw [show [T, q, r].length = 3 from rfl]; unfold maxLen; omega
      have hA2 : (((fs.take i).flatMap Fld.bytes).length + [T, q, r].length) * 1 ≤ 140737488355328 := by
        rw [show [T, q, r].length = 3 from rfl]; omega
      have hA3 : ((fs.take i).flatMap Fld.bytes ++ [T, q, r]).length + f.data.length ≤ maxLen := by
        rw [List.length_append, show [T, q, r].length = 3 from rfl]; unfold maxLen; omega
      have hA4 : (((fs.take i).flatMap Fld.bytes ++ [T, q, r]).length + f.data.length) * 1 ≤ 140737488355328 := by
        rw [List.length_append, show [T, q, r].length = 3 from rfl]; omega
      have hA5 : w.heap.size ≤ ((w6.alloc (Obj.cells #[.int .u8 T, .int .u8 q, .int .u8 r] 5)).drew).heap.size := by omega
      have HZ := Lib.hid (show wr.heap.size < ((w6.alloc (Obj.cells #[.int .u8 T, .int .u8 q, .int .u8 r] 5)).drew).heap.size by omega)
      have HA := Lib.hid (And.intro hA1 (And.intro hA2 (And.intro hA3 (And.intro hA4 hA5))))
      clear hw6 hnb hb6 hA1 hA2 hA3 hA4 hA5
      go_region_held3 (fun w' => w'.cell? ⟨wr.heap.size, 0, none⟩ = some (.int .i64 T) ∧ w'.cell? ⟨wr.heap.size, 1, none⟩ = some (.slice fa dn fcap) ∧ RowKit.Below w.heap.size w w')
        (first
          | exact hS0
          | exact codS_alloc hS0 (show wr.heap.size < w6.heap.size by omega) (show w.heap.size ≤ w6.heap.size by omega) _
          | exact codS_fr (by assumption) HZ.out HA.out.2.2.2.2 hf7 hu4
          | exact codS_fr (by assumption) (Nat.lt_of_lt_of_le HZ.out hf7.size) (Nat.le_trans HA.out.2.2.2.2 hf7.size) hf8 hv7)
        (first
          | (refine step_appendSrc (xs := [T, q, r]) rfl _ _ _ _ rfl Tryd.underlying59 info_u8 rfl rfl (OwnS.drew (OwnS.alloc hown6 _)) rfl hsrc HA.out.1 HA.out.2.1 HA.out.2.2.2.2 ?_; intro v7 w7 ho7 hf7 hl7)
          | (refine step_appendSrc (xs := f.data) rfl _ _ _ _ rfl Tryd.underlying59 info_u8 rfl rfl ho7 rfl (hrd2 _ (by assumption)) HA.out.2.2.1 HA.out.2.2.2.1 (Nat.le_trans HA.out.2.2.2.2 hf7.size) ?_; intro v8 w8 ho8 hf8 hl8; have hv7 : ∀ g, v7.ownBlock = some g → w.heap.size ≤ g ∧ g ≠ wr.heap.size := (fun g hg => ⟨(ho7.lt g hg).1, (hl7 g hg).elim (fun h => (hu4 g h).2) (fun h e => Nat.lt_irrefl _ (Nat.lt_of_lt_of_le HZ.out (e ▸ h)))⟩)))
      all_goals
        rename_i hHeld
        have hfin : CodL w w8 fs (i + 1) v8 := by
          refine ⟨hi, ?_, hHeld.2.2⟩
          rw [HL.out.2.2.1, HL.out.2.2.2.1]
          rw [List.append_assoc] at ho8
          rw [hQR.out.2.1, hQR.out.2.2.1] at ho8
          exact ho8
        have HF := Lib.hid hfin
        clear hHeld hfin ho8 hf8 hl8 ho7 hf7 hl7 hS0 hown6 hrd2 hsrc
        go_wp2
        go_roundg (fs.length - (i + 1))
        case rel => exact ⟨i + 1, by go_num, rfl, HF.out⟩
        case measure => omega
    · have hie : i = fs.length := by omega
      have hown := hL.own
      have hbel := hL.below
      rw [hie, List.take_length] at hown
      have hd : decide ((i : Int) < (fs.length : Int)) = false := by rw [decide_eq_false_iff_not]; omega
      have HR := Lib.hid (And.intro hown hbel)
      clear hL hown hbel
      go_wp2
      go_ret2
      exact ⟨_, rfl, HR.out.1, HR.out.2⟩
end Go.Proofs.YtmjbhnkhpgnchaaDoor
