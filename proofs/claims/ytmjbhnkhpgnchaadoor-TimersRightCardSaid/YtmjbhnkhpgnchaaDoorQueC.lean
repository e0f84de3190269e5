/-
  The queue's heap in memory: Pop and Push.
-/
import Derived.Test.YtmjbhnkhpgnchaaDoorQueA
import Derived.Test.YtmjbhnkhpgnchaaDoorEntry
import Derived.Test.YtmjbhnkhpgnchaaDoorStore
import Derived.Deep.RegionHeld3
import Derived.Deep.AppendLies
namespace Go.Proofs.YtmjbhnkhpgnchaaDoor
open Go Go.RowKit

theorem nodup_get {l : List Ent} (hl : (keys l).Nodup) {a b : Nat} {p q : Ent} (ha : l[a]? = some p) (hb : l[b]? = some q) (e : p.1 = q.1) : a = b := by
  have h1 : (keys l)[a]? = some p.1 := by show (l.map _)[a]? = _; simp [ha]
  have h2 : (keys l)[b]? = some p.1 := by show (l.map _)[b]? = _; simp [hb, e]
  have hlt := lt_of_get ha
  exact (List.getElem?_inj (by show a < (l.map _).length; simpa using hlt) hl).1 (h1.trans h2.symm)

/-- the last one is gone. -/
theorem stands_pop {l : List Ent} {W : List (ByteArray × Nat)} {n : Nat} (hl : (keys l).Nodup) (hW : (keys W).Nodup) (hs : Stands l W) (hn : l.length = n + 1) {x : Ent} (hx : l[n]? = some x) : Stands (l.take n) (adel W x.1) := by
  intro s k
  rw [aget_mem (nodup_adel hW), mem_adel hW, ← aget_mem hW, hs s k]
  constructor
  · rintro ⟨⟨a, ha, e⟩, h2⟩
    have hk : k < n := by
      have := lt_of_get ha
      apply Classical.byContradiction
      intro h3
      have : k = n := by omega
      subst this
      rw [hx] at ha
      obtain rfl := Option.some.inj ha
      exact h2 e.symm
    exact ⟨a, by rw [List.getElem?_take, if_pos hk]; exact ha, e⟩
  · rintro ⟨a, ha, e⟩
    rw [List.getElem?_take] at ha
    split at ha
    · rename_i hk
      refine ⟨⟨a, ha, e⟩, fun h2 => ?_⟩
      have := nodup_get hl ha hx (e.trans h2)
      omega
    · cases ha

/-- one has come in. -/
theorem stands_push {l : List Ent} {W : List (ByteArray × Nat)} {x : Ent} (hW : (keys W).Nodup) (hs : Stands l W) (hx : x.1 ∉ keys l) : Stands (l ++ [x]) (aput W x.1 l.length) := by
  intro s k
  rw [aget_mem (nodup_aput hW), mem_aput hW, ← aget_mem hW, hs s k]
  constructor
  · rintro (e | ⟨⟨a, ha, e⟩, h2⟩)
    · simp only [Prod.mk.injEq] at e
      rw [e.2]
      exact ⟨x, by simp, e.1.symm⟩
    · exact ⟨a, by rw [List.getElem?_append_left (lt_of_get ha)]; exact ha, e⟩
  · rintro ⟨a, ha, e⟩
    by_cases hk : k < l.length
    · rw [List.getElem?_append_left hk] at ha
      refine .inr ⟨⟨a, ha, e⟩, fun h2 => hx ?_⟩
      have h3 : s = x.1 := h2
      rw [← h3, ← e]
      exact List.mem_map_of_mem (List.mem_of_getElem? ha)
    · have : k = l.length := by
        have := lt_of_get ha
        simp at this
        omega
      subst this
      simp at ha
      subst ha
      exact .inl (by rw [← e])

theorem OwnE.take {w : World} {g cap n m : Nat} {l : List Ent} (h : OwnE w (.slice (some ⟨g, 0, none⟩) m cap) l) (hm : l.length = m) (hn : n ≤ m) : OwnE w (.slice (some ⟨g, 0, none⟩) n cap) (l.take n) := by
  subst hm
  rcases h.2 with ⟨h1, h2⟩ | ⟨g', cap', cur, h1, h2, h3, h4, h5, h6, h7⟩
  · cases h1
  · injection h1 with e1 e2 e3
    injection e1 with e1
    injection e1 with e1
    subst e1; subst e3
    refine ⟨length_flatMap encT_len _, .inr ⟨g, cap, cur, by rw [List.length_take, Nat.min_eq_left hn], h2, h3, by rw [List.length_take]; omega, h5, h6, ?_⟩⟩
    have h8 : (l.take n).length * 2 = n * 2 := by rw [List.length_take, Nat.min_eq_left hn]
    rw [h8]
    have h9 : (l.take n).flatMap encT = (l.flatMap encT).take (n * 2) := by
      have e1 : l.flatMap encT = (l.take n).flatMap encT ++ (l.drop n).flatMap encT := by rw [← List.flatMap_append, List.take_append_drop]
      have e2 : ((l.take n).flatMap encT).length = n * 2 := by rw [length_flatMap encT_len, h8]
      rw [e1, ← e2, List.take_left]
    rw [h9, ← h7, List.take_take, Nat.min_eq_left (Nat.mul_le_mul_right 2 hn)]

theorem setCell_size (w : World) (a : Addr) (u : Value) : (w.setCell a u).heap.size = w.heap.size := by unfold World.setCell; simp

theorem alloc_get (w : World) (o : Obj) {n : Nat} (hn : w.heap.size = n) : (w.alloc o).heap[n]? = some o := by
  subst hn
  exact (Go.MapKept.heap_alloc w o).1

set_option maxRecDepth 100000 in
set_option maxHeartbeats 400000 in
theorem qpop_any (w : World) (re rm : Nat) (v : Value) (l : List Ent) (h : EntAt w re rm v l) (n : Nat) (hn : l.length = n + 1) :
    Calls Tryd.prog 112 #[.pointer (some ⟨re, 0, none⟩)] w fun e w' => ∃ r v', e = .returned (.iface 71 r) ∧ EntAt w' re rm v' (l.take n) ∧ v'.ownBlock = v.ownBlock ∧ Fr (entFoot re rm v) w w' := by
  have c0 := h.c0
  have c1 := h.c1
  have f0 := h.frozen 0
  obtain ⟨g, cap, hv, hcap, a0, a1, hg⟩ := h.cells (show n < l.length by omega)
  obtain ⟨x, hxl⟩ : ∃ x, l[n]? = some x := ⟨_, List.getElem?_eq_getElem (by omega)⟩
  have ex : l[n] = x := by rw [List.getElem?_eq_getElem (by omega)] at hxl; exact Option.some.inj hxl
  rw [ex] at a0 a1
  subst hv
  have hgre := h.ne_re hg
  have hgrm := h.ne_rm hg
  have hrerm := h.re_rm
  have hrelt := h.lt
  have hglt := (h.own.lt g hg).2
  have hs := h.small
  obtain ⟨W, hM, hSt⟩ := h.map
  have hSt2 := stands_pop h.nodup hM.nodup hSt hn hxl
  have hrmlt := hM.lt
  have HP := Lib.hid (And.intro h (And.intro hM hSt2))
  clear h hM hSt2 hSt hxl ex
  rw [hn] at c0 hcap hs
  have hz : Tryd.prog.underlying 71 = Tryd.prog.underlying 71 := rfl
  have bn : (n : Int) < (n : Int) + 1 := by omega
  have bc : (n : Int) ≤ (cap : Int) := by omega
  go_enter Tryd.func112, Tryd.ntmps112
  go_wp2_with (first | (at_delete; refine At.stop ?_) | (at_mapUpdate; refine At.stop ?_) | (at_lookup; refine At.stop ?_) | (at_range; refine At.stop ?_) | (at_next; refine At.stop ?_) | (at_builtin; refine At.stop ?_))
  obtain ⟨w1, hw1⟩ : ∃ w1, w1 = ((w.setCell ⟨re, 0, none⟩ (.slice (some ⟨g, 0, none⟩) n cap)).alloc (Obj.cells #[.string x.fst, .int .u64 x.snd] 71)) := ⟨_, rfl⟩
  have hf1 : Fr (· = re) w w1 := by
    rw [hw1]
    exact (Fr.setCell (F := (· = re)) (a := ⟨re, 0, none⟩) (Fr.refl _ w) (fun _ => rfl) _).alloc _
  have hsz1 : w1.heap.size = w.heap.size + 1 := by rw [hw1, World.size_alloc, setCell_size]
  have hre1 : w1.heap[re]? = some (.cells #[.slice (some ⟨g, 0, none⟩) n cap, .map (some rm)] 78 (0, 0)) := by
    rw [hw1, Below.heap_alloc _ _ _ (by rw [setCell_size]; exact hrelt)]
    simp [World.setCell, Array.getElem?_modify, HP.out.1.block]
  have hnew : w1.heap[w.heap.size]? = some (.cells #[.string x.1, .int .u64 x.2] 71 (0, 0)) := by
    rw [hw1]
    exact alloc_get _ _ (setCell_size _ _ _)
  have d1 : w1.drew.cell? ⟨re, 1, none⟩ = some (.map (some rm)) := by
    show w1.cell? _ = _
    simp [World.cell?, hre1]
  have d2 : w1.drew.cell? ⟨w.heap.size, 0, none⟩ = some (.string x.1) := by
    show w1.cell? _ = _
    simp [World.cell?, hnew]
  have d3 : w1.cell? ⟨w.heap.size, 0, none⟩ = some (.string x.1) ∧ w1.cell? ⟨w.heap.size, 1, none⟩ = some (.int .u64 x.2) := by
    simp [World.cell?, hnew]
  obtain ⟨hE, hM, hSt2⟩ := HP.out
  have hM1 : IsMap Value.string i64v w1.drew rm W := hM.fr hf1.drew (show ¬ rm = re from fun e => hrerm e.symm)
  have hown := (OwnE.take hE.own rfl (show n ≤ l.length by omega)).fr hf1 (fun k hk (e : k = re) => hgre (by
    have : g = k := by simpa [Value.ownBlock] using hk
    omega))
  have HQ := Lib.hid (And.intro hf1 (And.intro hre1 (And.intro hown (And.intro hE (And.intro hSt2 hM)))))
  rw [← hw1]
  have hgr : w1.drew.heap.size = w.heap.size + 1 := hsz1
  clear hw1 hf1 hre1 hnew hown hE hSt2 hM c0 c1 f0 a0 a1 HP
  refine wp_region_still_tail 6 (by kernel_rfl) (by kernel_rfl) ?_
  change wpStill _ _ (World.drew _) (fun a' => wpList _ _ _ _ a' (World.drew _)) _ _
  simp only [List.take_succ_cons, List.take_zero, List.drop_succ_cons, List.drop_zero]
  repeat still_step
  refine wpStill_nil ?_
  refine At.go (wpl_delete rfl _ _ rfl Tryd.underlying76 key_str hM1 rfl x.1 rfl ?_)
  intro w2 hf2 hs2 hm2
  have e3 : w2.cell? ⟨w.heap.size, 0, none⟩ = some (.string x.1) ∧ w2.cell? ⟨w.heap.size, 1, none⟩ = some (.int .u64 x.2) :=
    ⟨(hf2.cell (p := ⟨w.heap.size, 0, none⟩) (show w.heap.size < w1.drew.heap.size by omega) (show ¬ w.heap.size = rm by omega)).trans d3.1,
     (hf2.cell (p := ⟨w.heap.size, 1, none⟩) (show w.heap.size < w1.drew.heap.size by omega) (show ¬ w.heap.size = rm by omega)).trans d3.2⟩
  obtain ⟨e30, e31⟩ := e3
  have HR := Lib.hid (And.intro hf2 hm2)
  clear hf2 hm2 d1 d2 d3 hM1
  go_wp2
  go_ret
  obtain ⟨hf1, hre1, hown, hE, hSt2, hM⟩ := HQ.out
  obtain ⟨hf2, hm2⟩ := HR.out
  refine ⟨_, .slice (some ⟨g, 0, none⟩) n cap, rfl, ⟨?_, ?_, ⟨_, hm2, hSt2⟩, ?_, ?_⟩, rfl, ?_⟩
  · exact (hf2.block re (show re < w1.drew.heap.size by omega) hrerm).trans hre1
  · exact OwnS.fr (w := w1.drew) hown hf2 (fun k hk (e : k = rm) => hgrm (by
      have : g = k := by simpa [Value.ownBlock] using hk
      omega))
  · exact hE.nodup.sublist ((List.take_sublist n l).map _)
  · rw [List.length_take]; omega
  · exact (hf1.mono (fun k _ e => .inl e)).drew.trans (hf2.mono (fun k _ e => .inr (.inl e)))
end Go.Proofs.YtmjbhnkhpgnchaaDoor
