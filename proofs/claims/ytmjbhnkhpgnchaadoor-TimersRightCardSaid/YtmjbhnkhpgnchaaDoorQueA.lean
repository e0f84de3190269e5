/-
  The queue's heap in memory: its methods.
-/
import Derived.Test.YtmjbhnkhpgnchaaDoorHeap
import Derived.Test.YtmjbhnkhpgnchaaDoorStore
import Derived.Test.YtmjbhnkhpgnchaaDoorSorted
import Derived.StillTailTactics
namespace Go.Proofs.YtmjbhnkhpgnchaaDoor
open Go Go.RowKit

open Go.Sort in
set_option maxRecDepth 100000 in
set_option maxHeartbeats 400000 in
theorem qcompare_any (x y : ByteArray × Nat) (W : World) :
    Calls Tryd.prog 110 #[.agg #[.string x.1, .int .u64 x.2], .agg #[.string y.1, .int .u64 y.2]] W fun e w' => e = .returned (.int .i64 (cmpT x y)) ∧ ∃ q os', w' = grow (W.drewN q) os' := by
  have h1 := fun w => (compare_u64 x.2 y.2 w).mono fun _ _ h => And.intro h.1 h.2.symm
  have h2 := fun w => (compare_str x.1 y.1 w).mono fun _ _ h => And.intro h.1 h.2.symm
  unfold cmpT
  generalize cmpN x.2 y.2 = cn at h1 ⊢
  generalize cmpS x.1 y.1 = cs at h2 ⊢
  have H1 := Lib.hid h1
  have H2 := Lib.hid h2
  clear h1 h2
  go_enter Tryd.func110, Tryd.ntmps110
  go_wp2
  have hW : ∃ w2, w2 = ((W.alloc (Obj.cells #[Value.string x.fst, Value.int IntKind.u64 ↑x.snd] 71)).alloc (Obj.cells #[Value.string y.fst, Value.int IntKind.u64 ↑y.snd] 71)).drew := ⟨_, rfl⟩
  obtain ⟨w2, hw2⟩ := hW
  refine wp_region_still_tail 10 (by kernel_rfl) (by kernel_rfl) ?_
  change wpStill _ _ (World.drew _) (fun a' => wpList _ _ _ _ a' (World.drew _)) _ _
  rw [← hw2]
  have c0 : w2.cell? ⟨W.heap.size, 0, none⟩ = some (.string x.1) := by rw [hw2]; simp [World.cell?_drew]
  have c1 : w2.cell? ⟨W.heap.size, 1, none⟩ = some (.int .u64 x.2) := by rw [hw2]; simp
  have c2 : w2.cell? ⟨W.heap.size + 1, 0, none⟩ = some (.string y.1) := by rw [hw2]; simp
  have c3 : w2.cell? ⟨W.heap.size + 1, 1, none⟩ = some (.int .u64 y.2) := by rw [hw2]; simp
  have HW := Lib.hid hw2
  clear hw2
  simp only [List.take_succ_cons, List.take_zero, List.drop_succ_cons, List.drop_zero]
  repeat still_step
  still_call (H1.out _)
  repeat still_step
  still_call (H2.out _)
  refine wpStill_nil ?_
  go_wp2_with fail
  refine (or_two cn cs _ _ _ (by simp) (by simp)).mono ?_
  rintro e w' ⟨rfl, rfl⟩
  go_wp2
  go_ret
  rw [HW.out]
  exact ⟨rfl, 1, three_grow _ _ _ _⟩

open Go.Sort in
theorem fr_grow {F : Nat → Prop} (w : World) (n : Nat) (os : Array Obj) : Fr F w (grow (w.drewN n) os) :=
  ⟨rfl, rfl, rfl, by simp [grow, World.drewN], fun k hk _ => by
    show (w.heap ++ os)[k]? = w.heap[k]?
    rw [Array.getElem?_append_left hk]⟩

abbrev i64v (n : Nat) : Value := .int .i64 n
abbrev OwnE (w : World) (v : Value) (l : List Ent) : Prop := OwnS encT 2 71 0 w v l

/-- The queue's heap lies at re: its entries in the slice v, their places in the map rm. -/
structure EntAt (w : World) (re rm : Nat) (v : Value) (l : List Ent) : Prop where
  block : w.heap[re]? = some (.cells #[v, .map (some rm)] 78 (0, 0))
  own : OwnE w v l
  map : ∃ W, IsMap Value.string i64v w rm W ∧ Stands l W
  nodup : (keys l).Nodup
  small : l.length ≤ 1000000

def entFoot (re rm : Nat) (v : Value) (k : Nat) : Prop := k = re ∨ k = rm ∨ v.ownBlock = some k

section
variable {w w' : World} {re rm : Nat} {v : Value} {l : List Ent}

theorem EntAt.lt (h : EntAt w re rm v l) : re < w.heap.size := (Array.getElem?_eq_some_iff.1 h.block).1
theorem EntAt.c0 (h : EntAt w re rm v l) : w.cell? ⟨re, 0, none⟩ = some v := by simp [World.cell?, h.block]
theorem EntAt.c1 (h : EntAt w re rm v l) : w.cell? ⟨re, 1, none⟩ = some (.map (some rm)) := by simp [World.cell?, h.block]
theorem EntAt.frozen (h : EntAt w re rm v l) (i : Nat) : w.frozen? ⟨re, i, none⟩ = false := by simp [World.frozen?, h.block]

theorem OwnE.block {w : World} {v : Value} {l : List Ent} (h : OwnE w v l) {g : Nat} (hg : v.ownBlock = some g) : ∃ cur, w.heap[g]? = some (.cells cur 71 (0, 0)) := by
  rcases h.2 with ⟨h1, h2⟩ | ⟨g', cap, cur, h1, h2, h3, h4⟩
  · rw [h1] at hg; cases hg
  · rw [h1] at hg
    obtain rfl : g' = g := by simpa [Value.ownBlock] using hg
    exact ⟨cur, h3⟩

theorem EntAt.ne_re (h : EntAt w re rm v l) {g : Nat} (hg : v.ownBlock = some g) : g ≠ re := by
  rintro rfl
  obtain ⟨cur, h1⟩ := OwnE.block h.own hg
  rw [h.block] at h1
  simp at h1

theorem EntAt.ne_rm (h : EntAt w re rm v l) {g : Nat} (hg : v.ownBlock = some g) : g ≠ rm := by
  rintro rfl
  obtain ⟨cur, h1⟩ := OwnE.block h.own hg
  obtain ⟨W, ⟨es, c, h2, _⟩, _⟩ := h.map
  rw [h2] at h1
  simp at h1

theorem EntAt.re_rm (h : EntAt w re rm v l) : re ≠ rm := by
  rintro rfl
  obtain ⟨W, ⟨es, c, h2, _⟩, _⟩ := h.map
  rw [h.block] at h2
  simp at h2

theorem EntAt.fr {F : Nat → Prop} (h : EntAt w re rm v l) (hf : Fr F w w') (hF : ∀ k, entFoot re rm v k → ¬ F k) : EntAt w' re rm v l where
  block := (hf.block re h.lt (hF _ (.inl rfl))).trans h.block
  own := h.own.fr hf fun g hg => hF g (.inr (.inr hg))
  map := by
    obtain ⟨W, h1, h2⟩ := h.map
    exact ⟨W, h1.fr hf (hF _ (.inr (.inl rfl))), h2⟩
  nodup := h.nodup
  small := h.small

theorem EntAt.foot_lt (h : EntAt w re rm v l) {k : Nat} (hk : entFoot re rm v k) : k < w.heap.size := by
  rcases hk with rfl | rfl | hk
  · exact h.lt
  · obtain ⟨W, h1, h2⟩ := h.map; exact h1.lt
  · exact (h.own.lt k hk).2

/-- an entry's cells -/
theorem EntAt.cells (h : EntAt w re rm v l) {i : Nat} (hi : i < l.length) : ∃ g cap, v = .slice (some ⟨g, 0, none⟩) l.length cap ∧ l.length ≤ cap ∧ w.cell? ⟨g, i * 2, none⟩ = some (.string (l[i]).1) ∧ w.cell? ⟨g, i * 2 + 1, none⟩ = some (.int .u64 (l[i]).2) ∧ v.ownBlock = some g := by
  obtain ⟨g, off, cap, hv, hc⟩ := h.own.at.cell encT_len hi
  rcases h.own.2 with ⟨h1, h2⟩ | ⟨g', cap', cur, h1, h2, h3, h4, _⟩
  · rw [h1] at hv; cases hv
  · rw [h1] at hv
    injection hv with e1 e2 e3
    injection e1 with e1
    injection e1 with e1 e4
    subst e1; subst e3; subst e4
    have q0 := hc 0 (by omega)
    have q1 := hc 1 (by omega)
    simp only [Nat.zero_add, Nat.add_zero] at q0 q1
    exact ⟨g', cap', h1, h4, q0, q1, by rw [h1]; rfl⟩
end

set_option maxRecDepth 100000 in
set_option maxHeartbeats 400000 in
theorem qlen_any (w : World) (re rm : Nat) (v : Value) (l : List Ent) (h : EntAt w re rm v l) :
    Calls Tryd.prog 69 #[.pointer (some ⟨re, 0, none⟩)] w fun e w' => e = .returned (.int .i64 l.length) ∧ w = w' := by
  have c0 := h.c0
  obtain ⟨a, cap, hv, _⟩ := h.own.at.shape
  subst hv
  clear h
  go_enter Tryd.func69, Tryd.ntmps69
  go_wp2_with (first | (at_delete; refine At.stop ?_) | (at_mapUpdate; refine At.stop ?_) | (at_lookup; refine At.stop ?_) | (at_range; refine At.stop ?_) | (at_next; refine At.stop ?_) | (at_builtin; refine At.stop ?_))
  go_ret
  exact ⟨rfl, rfl⟩

set_option maxRecDepth 100000 in
set_option maxHeartbeats 400000 in
theorem qless_any (w : World) (re rm : Nat) (v : Value) (l : List Ent) (h : EntAt w re rm v l) (i j : Nat) (hi : i < l.length) (hj : j < l.length) :
    Calls Tryd.prog 111 #[.pointer (some ⟨re, 0, none⟩), .int .i64 i, .int .i64 j] w fun e w' => e = .returned (.bool (ahead l[i] l[j])) ∧ Fr (fun _ => False) w w' := by
  have c0 := h.c0
  obtain ⟨g, cap, hv, hcap, a0, a1, _⟩ := h.cells hi
  obtain ⟨g', cap', hv', _, b0, b1, _⟩ := h.cells hj
  rw [hv] at hv'
  injection hv' with e1 e2 e3
  injection e1 with e1
  injection e1 with e1 e4
  subst e1; subst e3
  subst hv
  have hs := h.small
  have hH := fun w => qcompare_any l[i] l[j] w
  have hlt := lt_cmpT l[i] l[j]
  clear h
  generalize l[i] = x at *
  generalize l[j] = y at *
  have HC := Lib.hid hH
  have HL := Lib.hid hlt
  clear hH hlt
  have bi : (i : Int) < (l.length : Int) := by omega
  have bj : (j : Int) < (l.length : Int) := by omega
  generalize l.length = n at *
  go_enter Tryd.func111, Tryd.ntmps111
  go_wp2_with (first | (at_delete; refine At.stop ?_) | (at_mapUpdate; refine At.stop ?_) | (at_lookup; refine At.stop ?_) | (at_range; refine At.stop ?_) | (at_next; refine At.stop ?_) | (at_builtin; refine At.stop ?_))
  refine wp_region_still_tail 14 (by kernel_rfl) (by kernel_rfl) ?_
  change wpStill _ _ (World.drew _) (fun a' => wpList _ _ _ _ a' (World.drew _)) _ _
  simp only [List.take_succ_cons, List.take_zero, List.drop_succ_cons, List.drop_zero]
  repeat still_step
  refine wpStill_nil ?_
  go_wp2_with fail
  refine (HC.out _).mono ?_
  rintro e w' ⟨rfl, q, os', rfl⟩
  go_wp2
  go_ret
  refine ⟨?_, fr_grow _ _ _⟩
  rw [← HL.out]
  rfl

end Go.Proofs.YtmjbhnkhpgnchaaDoor
