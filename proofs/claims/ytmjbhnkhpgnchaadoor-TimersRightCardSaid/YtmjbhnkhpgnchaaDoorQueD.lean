/-
  The queue's heap in memory: Push.
-/
import Derived.Test.YtmjbhnkhpgnchaaDoorQueC
import Derived.Test.YtmjbhnkhpgnchaaDoorStep
namespace Go.Proofs.YtmjbhnkhpgnchaaDoor
open Go Go.RowKit

theorem info_entry : (Tryd.prog.info? 71).map (fun i => (i.zero, i.size, i.bytes)) = some (some (.agg #[.string ByteArray.empty, .int .u64 0]), 2, 24) := by kernel_rfl

theorem assert_entry (x : Ent) (w : World) : (Instr.typeAssert (.iface 71 (.agg #[.string x.1, .int .u64 x.2])) 20 71 false).run Tryd.prog w = .ok (.agg #[.string x.1, .int .u64 x.2]) w := by kernel_rfl

theorem field_entry (x : Ent) (w : World) : (Instr.field 71 (.agg #[.string x.1, .int .u64 x.2]) 0).run Tryd.prog w = .ok (.string x.1) w := by kernel_rfl

set_option maxRecDepth 100000 in
set_option maxHeartbeats 400000 in
theorem qpush_any (w : World) (re rm : Nat) (v : Value) (l : List Ent) (h : EntAt w re rm v l) (x : Ent) (hx : x.1 ∉ keys l) (hl : l.length + 1 ≤ 1000000) :
    Calls Tryd.prog 113 #[.pointer (some ⟨re, 0, none⟩), .iface 71 (.agg #[.string x.1, .int .u64 x.2])] w fun e w' => ∃ v', e = .returned (.tuple #[]) ∧ EntAt w' re rm v' (l ++ [x]) ∧ (∀ g, v'.ownBlock = some g → v.ownBlock = some g ∨ w.heap.size ≤ g) ∧ Fr (entFoot re rm v) w w' := by
  have c0 := h.c0
  have c1 := h.c1
  obtain ⟨sa, cap, hv, _⟩ := h.own.at.shape
  have hrerm := h.re_rm
  have hrelt := h.lt
  obtain ⟨W, hM, hSt⟩ := h.map
  have hSt2 := stands_push hM.nodup hSt hx
  have hMd : IsMap Value.string i64v w.drew rm W := hM
  have hgre : ∀ g, v.ownBlock = some g → g ≠ re := fun g hg => h.ne_re hg
  have hgrm : ∀ g, v.ownBlock = some g → g ≠ rm := fun g hg => h.ne_rm hg
  have hown := h.own
  have hblk := h.block
  have HP := Lib.hid (And.intro h (And.intro hM hSt2))
  clear h hM hSt2 hSt
  rw [hv] at c0
  have hta := assert_entry x
  have hfl := field_entry x
  go_enter Tryd.func113, Tryd.ntmps113
  go_wp2
  refine wp_region_still_tail 12 (by kernel_rfl) (by kernel_rfl) ?_
  change wpStill _ _ (World.drew _) (fun a' => wpList _ _ _ _ a' (World.drew _)) _ _
  simp only [List.take_succ_cons, List.take_zero, List.drop_succ_cons, List.drop_zero]
  repeat still_step
  refine wpStill_nil ?_
  refine At.go (wpl_update rfl _ _ _ rfl Tryd.underlying76 key_str hMd rfl x.1 rfl l.length rfl ?_)
  intro w1 hf1 hs1 hm1
  have d0 : w1.cell? ⟨re, 0, none⟩ = some (.slice sa l.length cap) := (hf1.cell (w := w.drew) (p := ⟨re, 0, none⟩) hrelt hrerm).trans c0
  have d1 : w1.frozen? ⟨re, 0, none⟩ = false := (hf1.frozen (w := w.drew) (p := ⟨re, 0, none⟩) hrelt hrerm).trans (HP.out.1.frozen 0)
  have hown1 : OwnE w1 v l := OwnS.fr (w := w.drew) hown hf1 (fun k hk => hgrm k hk)
  have hre1 := (hf1.block re (show re < w.drew.heap.size from hrelt) hrerm).trans hblk
  have HQ := Lib.hid (And.intro hf1 hm1)
  have hrelt1 : re < w1.heap.size := by rw [hs1]; exact hrelt
  have hsz1 : w1.heap.size = w.heap.size := hs1
  clear hf1 hm1 hMd c0 c1 hown
  go_wp2
  have hown2 := OwnS.drew (OwnS.alloc hown1 (Obj.cells #[.string x.1, .int .u64 x.2] 71))
  have hnb : ((w1.alloc (Obj.cells #[.string x.1, .int .u64 x.2] 71)).drew).heap[w.heap.size]? = some (Obj.cells (encT x).toArray 71 (0, 0)) := alloc_get w1 _ hsz1
  have hlt2 : re < ((w1.alloc (Obj.cells #[.string x.1, .int .u64 x.2] 71)).drew).heap.size := by
    show re < (w1.alloc _).heap.size
    rw [World.size_alloc]
    omega
  have hre2 : ((w1.alloc (Obj.cells #[.string x.1, .int .u64 x.2] 71)).drew).heap[re]? = some (.cells #[v, .map (some rm)] 78 (0, 0)) := (Below.heap_alloc w1 _ _ hrelt1).trans hre1
  have HW := Lib.hid (And.intro hlt2 hre2)
  have HG := Lib.hid hgre
  clear hlt2 hre2 hre1 hrelt1 hgre
  go_region_law ((refine step_append2 rfl _ _ _ rfl Tryd.underlying68 info_entry rfl (by omega) hv.symm hown2 _ _ rfl x rfl hnb (encT_cells x) (by unfold maxLen; omega) (by omega) (Nat.zero_le _) ?_); intro g ncap w3 ho3 hf3 hat3 hlt3; have hre3 := (hf3.block re HW.out.1 (fun e => HG.out re e rfl)).trans HW.out.2; have e0 : w3.cell? ⟨re, 0, none⟩ = some v := (by simp [World.cell?, hre3]); have e1 : w3.frozen? ⟨re, 0, none⟩ = false := (by simp [World.frozen?, hre3]))
  all_goals
    go_wp2
    go_end0
    obtain ⟨hE, hM, hSt2⟩ := HP.out
    obtain ⟨hf1, hm1⟩ := HQ.out
    have hgne : g ≠ re := by
      rcases hat3 with h | h
      · exact HG.out g h
      · intro e
        have h5 : ((w1.alloc (Obj.cells #[Value.string x.fst, Value.int IntKind.u64 ↑x.snd] 71)).drew).heap.size = w1.heap.size + 1 := World.size_alloc ..
        have := HW.out.1
        omega
    have hf4 : Fr (· = re) w3 (w3.setCell ⟨re, 0, none⟩ (.slice (some ⟨g, 0, none⟩) (l.length + 1) ncap)) := Fr.setCell (F := (· = re)) (a := ⟨re, 0, none⟩) (Fr.refl _ w3) (fun _ => rfl) _
    have hmd : IsMap Value.string i64v w3 rm (aput W x.1 l.length) := IsMap.fr (w := (w1.alloc (Obj.cells #[Value.string x.fst, Value.int IntKind.u64 ↑x.snd] 71)).drew) (hm1.alloc _) hf3 (fun e => hgrm rm e rfl)
    refine ⟨.slice (some ⟨g, 0, none⟩) (l.length + 1) ncap, rfl, ⟨?_, ?_, ⟨_, hmd.fr hf4 (show ¬ rm = re from fun e => hrerm e.symm), hSt2⟩, ?_, ?_⟩, ?_, ?_⟩
    · simp [World.setCell, Array.getElem?_modify, hre3]
    · exact OwnS.fr ho3 hf4 (fun k hk (e : k = re) => hgne (by
        have : g = k := by simpa [Value.ownBlock] using hk
        omega))
    · show (List.map _ (l ++ [x])).Nodup
      rw [List.map_append, List.nodup_append]
      refine ⟨hE.nodup, by simp, ?_⟩
      intro a ha b hb e
      simp at hb
      exact hx (by rw [← hb, ← e]; exact ha)
    · simp; omega
    · intro k hk
      have : g = k := by simpa [Value.ownBlock] using hk
      subst this
      rcases hat3 with h | h
      · exact .inl h
      · right
        have h5 : ((w1.alloc (Obj.cells #[Value.string x.fst, Value.int IntKind.u64 ↑x.snd] 71)).drew).heap.size = w1.heap.size + 1 := World.size_alloc ..
        omega
    · have g1 : Fr (entFoot re rm v) w ((w1.alloc (Obj.cells #[Value.string x.fst, Value.int IntKind.u64 ↑x.snd] 71)).drew) :=
        (((Fr.refl _ w).drew.trans (hf1.mono (fun k _ e => .inr (.inl e)))).alloc _).drew
      exact (g1.trans (hf3.mono (fun k _ e => .inr (.inr e)))).trans (hf4.mono (fun k _ e => .inl e))
end Go.Proofs.YtmjbhnkhpgnchaaDoor
