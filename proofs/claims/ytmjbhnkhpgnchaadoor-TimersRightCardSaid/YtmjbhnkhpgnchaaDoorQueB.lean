/-
  The queue's heap in memory: Swap.
-/
import Derived.Test.YtmjbhnkhpgnchaaDoorQueA
import Derived.Test.YtmjbhnkhpgnchaaDoorEntry
import Derived.BigRegion
import Derived.Deep.RegionHeld3
namespace Go.Proofs.YtmjbhnkhpgnchaaDoor
open Go Go.RowKit

section
variable {w w' : World} {re rm g cap : Nat} {l : List Ent}

theorem swap_cells (h : EntAt w re rm (.slice (some ⟨g, 0, none⟩) l.length cap) l) {i j : Nat} {x y : Ent} (hx : l[i]? = some x) (hy : l[j]? = some y) :
    OwnE ((((w.setCell ⟨g, i * 2, none⟩ (.string y.1)).setCell ⟨g, i * 2 + 1, none⟩ (.int .u64 y.2)).setCell ⟨g, j * 2, none⟩ (.string x.1)).setCell ⟨g, j * 2 + 1, none⟩ (.int .u64 x.2)) (.slice (some ⟨g, 0, none⟩) l.length cap) (swp l i j) ∧
    Fr (· = g) w ((((w.setCell ⟨g, i * 2, none⟩ (.string y.1)).setCell ⟨g, i * 2 + 1, none⟩ (.int .u64 y.2)).setCell ⟨g, j * 2, none⟩ (.string x.1)).setCell ⟨g, j * 2 + 1, none⟩ (.int .u64 x.2)) := by
  have hi := lt_of_get hx
  have hj := lt_of_get hy
  have h1 := (OwnS.set encT_len h.own hi y).2
  have h2 : OwnE (w.setCells g (i * 2) (encT y)) (.slice (some ⟨g, 0, none⟩) (l.set i y).length cap) (l.set i y) := by rw [List.length_set]; exact h1
  have h3 := (OwnS.set encT_len h2 (by rw [List.length_set]; exact hj) x).2
  rw [List.length_set] at h3
  refine ⟨by rw [swp_eq hx hy]; exact h3, ?_⟩
  exact (fr_setCells g (encT y) (i * 2) w w (Fr.refl _ w)).trans (fr_setCells g (encT x) (j * 2) _ _ (Fr.refl _ _))

/-- the places of the names behind an exchange -/
theorem stands_swap {W : List (ByteArray × Nat)} (hl : (keys l).Nodup) (hW : (keys W).Nodup) (hs : Stands l W) {i j : Nat} {x y : Ent} (hx : l[i]? = some x) (hy : l[j]? = some y) :
    Stands (swp l i j) (aput (aput W y.1 i) x.1 j) := by
  have hW2 := nodup_aput (k := y.1) (v := i) hW
  have hnd : ∀ {a b : Nat} {p q : Ent}, l[a]? = some p → l[b]? = some q → p.1 = q.1 → a = b := by
    intro a b p q ha hb e
    have h1 : (keys l)[a]? = some p.1 := by show (l.map _)[a]? = _; simp [ha]
    have h2 : (keys l)[b]? = some p.1 := by show (l.map _)[b]? = _; simp [hb, e]
    have hlt := lt_of_get ha
    exact (List.getElem?_inj (by show a < (l.map _).length; simpa using hlt) hl).1 (h1.trans h2.symm)
  intro n k
  rw [aget_mem (nodup_aput hW2), mem_aput hW2, mem_aput hW, ← aget_mem hW, hs n k]
  by_cases hij : i = j
  · subst hij
    rw [swp_self]
    rw [hx] at hy
    obtain rfl := Option.some.inj hy
    constructor
    · rintro (e | ⟨e | ⟨e, _⟩, _⟩)
      · simp only [Prod.mk.injEq] at e
        exact ⟨x, by rw [e.2]; exact hx, e.1.symm⟩
      · simp only [Prod.mk.injEq] at e
        exact ⟨x, by rw [e.2]; exact hx, e.1.symm⟩
      · exact e
    · rintro ⟨a, ha, rfl⟩
      by_cases e : a.1 = x.1
      · have := hnd ha hx e
        exact .inl (by rw [e, this])
      · exact .inr ⟨.inr ⟨⟨a, ha, rfl⟩, e⟩, e⟩
  · have g := swp_get hx hy hij
    have hxy : x.1 ≠ y.1 := fun e => hij (hnd hx hy e)
    rw [g]
    constructor
    · rintro (e | ⟨e | ⟨⟨a, ha, e⟩, e1⟩, e2⟩)
      · simp only [Prod.mk.injEq] at e
        rw [e.2, if_neg (fun h => hij h.symm), if_pos rfl]
        exact ⟨x, rfl, e.1.symm⟩
      · simp only [Prod.mk.injEq] at e
        rw [e.2, if_pos rfl]
        exact ⟨y, rfl, e.1.symm⟩
      · have h1 : k ≠ i := fun e' => e2 (by subst e'; rw [hx] at ha; obtain rfl := Option.some.inj ha; exact e.symm)
        have h2 : k ≠ j := fun e' => e1 (by subst e'; rw [hy] at ha; obtain rfl := Option.some.inj ha; exact e.symm)
        rw [if_neg h1, if_neg h2]
        exact ⟨a, ha, e⟩
    · rintro ⟨a, ha, e⟩
      by_cases h1 : k = i
      · rw [if_pos h1] at ha
        obtain rfl := Option.some.inj ha
        exact .inr ⟨.inl (by rw [h1, e]), by rw [← e]; exact fun h => hxy h.symm⟩
      · rw [if_neg h1] at ha
        by_cases h2 : k = j
        · rw [if_pos h2] at ha
          obtain rfl := Option.some.inj ha
          exact .inl (by rw [h2, e])
        · rw [if_neg h2] at ha
          refine .inr ⟨.inr ⟨⟨a, ha, e⟩, ?_⟩, ?_⟩
          · intro e'
            exact h2 (hnd ha hy (e.trans e'))
          · intro e'
            exact h1 (hnd ha hx (e.trans e'))

theorem Stands.key {W : List (ByteArray × Nat)} (hs : Stands l W) {i : Nat} {x : Ent} (hx : l[i]? = some x) : x.1 ∈ keys W := by
  have h1 := (hs x.1 i).2 ⟨x, hx, rfl⟩
  apply Classical.byContradiction
  intro h2
  rw [aget_none.2 h2] at h1
  cases h1
end

theorem key_aput {κ υ : Type} [DecidableEq κ] {L : List (κ × υ)} {k a : κ} {v : υ} (h : a ∈ keys L) : a ∈ keys (aput L k v) := mem_aput_fst.2 (.inr h)

theorem string_inj : ∀ a b : ByteArray, Value.string a = Value.string b → a = b := fun a b h => by injection h

/-- the two stores into the map of places, one behind the other -/
theorem swap_places {w : World} {rm : Nat} {W : List (ByteArray × Nat)} (hM : IsMap Value.string i64v w rm W) (n1 n2 : ByteArray) (i j : Nat) (h1 : n1 ∈ keys W) (h2 : n2 ∈ keys W) :
    ∃ u1 s1 w1 w2 u2 s2 w3 w4, (Instr.mapEntry 76 (.map (some rm)) (.string n1)).run Tryd.prog w = .ok (.tuple #[u1, .int .i64 (s1 : Nat)]) w1 ∧ (Instr.entryStore 76 (.map (some rm)) (.int .i64 (s1 : Nat)) (.int .i64 i)).run Tryd.prog w1 = .ok () w2 ∧
      (Instr.mapEntry 76 (.map (some rm)) (.string n2)).run Tryd.prog w2 = .ok (.tuple #[u2, .int .i64 (s2 : Nat)]) w3 ∧ (Instr.entryStore 76 (.map (some rm)) (.int .i64 (s2 : Nat)) (.int .i64 j)).run Tryd.prog w3 = .ok () w4 ∧
      Fr (· = rm) w w1 ∧ Fr (· = rm) w w2 ∧ Fr (· = rm) w w3 ∧ Fr (· = rm) w w4 ∧ IsMap Value.string i64v w4 rm (aput (aput W n1 i) n2 j) := by
  have K : KeyTy Tryd.prog 9 Value.string := key_str
  obtain ⟨u1, s1, w1, r1, f1, z1, m1, t1⟩ := run_mapEntry (T := 76) Tryd.underlying76 K hM n1 h1
  obtain ⟨w2, r2, f2, z2, m2⟩ := run_entryStore (P := Tryd.prog) (T := 76) m1 string_inj t1 i
  obtain ⟨u2, s2, w3, r3, f3, z3, m3, t3⟩ := run_mapEntry (T := 76) Tryd.underlying76 K m2 n2 (key_aput h2)
  obtain ⟨w4, r4, f4, z4, m4⟩ := run_entryStore (P := Tryd.prog) (T := 76) m3 string_inj t3 j
  exact ⟨u1, s1, w1, w2, u2, s2, w3, w4, r1, r2, r3, r4, f1, f1.trans f2, (f1.trans f2).trans f3, ((f1.trans f2).trans f3).trans f4, m4⟩

def SwapS (re rm g n cap i j : Nat) (a b : ByteArray) (w : World) : Prop :=
  w.cell? ⟨re, 0, none⟩ = some (.slice (some ⟨g, 0, none⟩) n cap) ∧ w.cell? ⟨re, 1, none⟩ = some (.map (some rm)) ∧ w.cell? ⟨g, i * 2, none⟩ = some (.string a) ∧ w.cell? ⟨g, j * 2, none⟩ = some (.string b)

theorem SwapS.fr {re rm g n cap i j : Nat} {a b : ByteArray} {w w' : World} (h : SwapS re rm g n cap i j a b w) (hf : Fr (· = rm) w w') (h1 : re ≠ rm) (h2 : g ≠ rm) (h3 : re < w.heap.size) (h4 : g < w.heap.size) : SwapS re rm g n cap i j a b w' :=
  ⟨(hf.cell (p := ⟨re, 0, none⟩) h3 h1).trans h.1, (hf.cell (p := ⟨re, 1, none⟩) h3 h1).trans h.2.1, (hf.cell (p := ⟨g, i * 2, none⟩) h4 h2).trans h.2.2.1, (hf.cell (p := ⟨g, j * 2, none⟩) h4 h2).trans h.2.2.2⟩

theorem OwnE.cells {w : World} {g cap : Nat} {n : Nat} {l : List Ent} (h : OwnE w (.slice (some ⟨g, 0, none⟩) n cap) l) (hn : l.length = n) {i : Nat} {x : Ent} (hx : l[i]? = some x) : w.cell? ⟨g, i * 2, none⟩ = some (.string x.1) ∧ w.cell? ⟨g, i * 2 + 1, none⟩ = some (.int .u64 x.2) := by
  subst hn
  have hi := lt_of_get hx
  have ex : l[i] = x := by rw [List.getElem?_eq_getElem hi] at hx; exact Option.some.inj hx
  obtain ⟨g', off, cap', hv, hc⟩ := h.at.cell encT_len hi
  rcases h.2 with ⟨h1, h2⟩ | ⟨g'', cap'', cur, h1, h2, h3, h4, _⟩
  · cases h1
  · injection hv with e1 e2 e3
    injection e1 with e1
    injection e1 with e1 e4
    subst e1; subst e4
    have q0 := hc 0 (by omega)
    have q1 := hc 1 (by omega)
    rw [ex] at q0 q1
    simp only [Nat.zero_add, Nat.add_zero] at q0 q1
    exact ⟨q0, q1⟩


set_option maxRecDepth 100000 in
set_option maxHeartbeats 1000000 in
theorem qswap_ne (w : World) (re rm : Nat) (v : Value) (l : List Ent) (h : EntAt w re rm v l) (i j : Nat) (hi : i < l.length) (hj : j < l.length) (hij : i ≠ j) :
    Calls Tryd.prog 114 #[.pointer (some ⟨re, 0, none⟩), .int .i64 i, .int .i64 j] w fun e w' => e = .returned (.tuple #[]) ∧ EntAt w' re rm v (swp l i j) ∧ Fr (entFoot re rm v) w w' := by
  have c0 := h.c0
  obtain ⟨g, cap, hv, hcap, a0, a1, hg⟩ := h.cells hi
  obtain ⟨g', cap', hv', _, b0, b1, _⟩ := h.cells hj
  rw [hv] at hv'
  injection hv' with e1 e2 e3
  injection e1 with e1
  injection e1 with e1 e4
  subst e1; subst e3
  have hgre := h.ne_re hg
  have hgrm := h.ne_rm hg
  have hrerm := h.re_rm
  have hrelt := h.lt
  have hglt := (h.own.lt g hg).2
  obtain ⟨cur, hgb⟩ := OwnE.block h.own hg
  have fz : ∀ k, w.frozen? ⟨g, k, none⟩ = false := fun k => by simp [World.frozen?, hgb]
  subst hv
  have hs := h.small
  obtain ⟨x, hxl⟩ : ∃ x, l[i]? = some x := ⟨_, List.getElem?_eq_getElem hi⟩
  obtain ⟨y, hyl⟩ : ∃ y, l[j]? = some y := ⟨_, List.getElem?_eq_getElem hj⟩
  have ex : l[i] = x := by rw [List.getElem?_eq_getElem hi] at hxl; exact Option.some.inj hxl
  have ey : l[j] = y := by rw [List.getElem?_eq_getElem hj] at hyl; exact Option.some.inj hyl
  rw [ex] at a0 a1
  rw [ey] at b0 b1
  obtain ⟨hOwn, hFr⟩ := swap_cells h hxl hyl
  obtain ⟨W, hM, hSt⟩ := h.map
  have hSt2 := stands_swap h.nodup hM.nodup hSt hxl hyl
  have k1 := hSt.key hyl
  have k2 := hSt.key hxl
  have hsw : (swp l i j)[i]? = some y ∧ (swp l i j)[j]? = some x := by
    by_cases hij : i = j
    · subst hij
      rw [swp_self]
      rw [hxl] at hyl
      obtain rfl := Option.some.inj hyl
      exact ⟨hxl, hxl⟩
    · rw [swp_get hxl hyl hij, swp_get hxl hyl hij, if_pos rfl, if_neg (fun e => hij e.symm), if_pos rfl]
      exact ⟨rfl, rfl⟩
  have HP := Lib.hid (And.intro h.nodup (And.intro hSt2 (And.intro h.block (And.intro k1 (And.intro k2 hsw)))))
  clear h hSt2 k1 k2 hSt ex ey hsw hgb
  have bi : (i : Int) < (l.length : Int) := by omega
  have bj : (j : Int) < (l.length : Int) := by omega
  generalize hn : l.length = n at *
  have fi0 := fz (i * 2)
  have fi1 := fz (i * 2 + 1)
  have fj0 := fz (j * 2)
  have fj1 := fz (j * 2 + 1)
  have n1 : (i * 2 = j * 2) = False := by simp; omega
  have n2 : (i * 2 + 1 = j * 2) = False := by simp; omega
  have n3 : (i * 2 = j * 2 + 1) = False := by simp; omega
  have n4 : (j * 2 = i * 2) = False := by simp; omega
  have n5 : (j * 2 + 1 = i * 2) = False := by simp; omega
  have n6 : (j * 2 = i * 2 + 1) = False := by simp; omega
  have HH := Lib.hid (And.intro hOwn (And.intro hFr (And.intro hM hn)))
  clear fz hOwn hFr hM hn hxl hyl
  go_enter Tryd.func114, Tryd.ntmps114
  go_wp2
  go_region
  go_wp2
  clear fi0 fi1 fj0 fj1 n1 n2 n3 n4 n5 n6
  obtain ⟨hOwn, hFr, hM, hn⟩ := HH.out
  clear HH
  clear c0 a0 a1 b0 b1
  generalize ((((w.setCell ⟨g, i * 2, none⟩ (.string y.1)).setCell ⟨g, i * 2 + 1, none⟩ (.int .u64 y.2)).setCell ⟨g, j * 2, none⟩ (.string x.1)).setCell ⟨g, j * 2 + 1, none⟩ (.int .u64 x.2)) = wa at hOwn hFr ⊢
  have hwa : wa.drew.heap.size = wa.heap.size := rfl
  have hS0 : SwapS re rm g n cap i j y.1 x.1 wa.drew := by
    have hb := (hFr.block re hrelt (show ¬ re = g from fun e => hgre e.symm)).trans HP.out.2.2.1
    refine ⟨?_, ?_, ?_, ?_⟩
    · show wa.cell? _ = _
      simp [World.cell?, hb]
    · show wa.cell? _ = _
      simp [World.cell?, hb]
    · exact (OwnE.cells hOwn (by rw [swp_length]; exact hn) HP.out.2.2.2.2.2.1).1
    · exact (OwnE.cells hOwn (by rw [swp_length]; exact hn) HP.out.2.2.2.2.2.2).1
  have hS0' : SwapS re rm g n cap i j y.1 x.1 wa.drew.drew := hS0
  have hMa : IsMap Value.string i64v wa.drew.drew rm W := hM.fr hFr.drew.drew (show ¬ rm = g from fun e => hgrm e.symm)
  obtain ⟨u1, s1, w1, w2, u2, s2, w3, w4, r1, r2, r3, r4, f1, f2, f3, f4, hM4⟩ := swap_places hMa y.1 x.1 i j HP.out.2.2.2.1 HP.out.2.2.2.2.1
  have hrel2 : re < wa.drew.drew.heap.size := Nat.lt_of_lt_of_le hrelt hFr.size
  have hgl2 : g < wa.drew.drew.heap.size := Nat.lt_of_lt_of_le hglt hFr.size
  have hS1 := hS0'.fr f1 hrerm hgrm hrel2 hgl2
  have hS2 := hS0'.fr f2 hrerm hgrm hrel2 hgl2
  have hS3 := hS0'.fr f3 hrerm hgrm hrel2 hgl2
  have hS4 := hS0'.fr f4 hrerm hgrm hrel2 hgl2
  have HQ := Lib.hid (And.intro hOwn (And.intro hFr (And.intro hM (And.intro f4 hM4))))
  clear hOwn hFr hM f1 f2 f3 f4 hM4 hMa hwa hS0
  unfold SwapS at hS0' hS1 hS2 hS3 hS4
  go_region_held3 (fun w' => w'.cell? ⟨re, 0, none⟩ = some (.slice (some ⟨g, 0, none⟩) n cap) ∧ w'.cell? ⟨re, 1, none⟩ = some (.map (some rm)) ∧ w'.cell? ⟨g, i * 2, none⟩ = some (.string y.1) ∧ w'.cell? ⟨g, j * 2, none⟩ = some (.string x.1))
    (first | exact hS0' | exact hS1 | exact hS2 | exact hS3 | exact hS4) (fail)
  go_wp2
  go_end0
  obtain ⟨hOwn, hFr, hM, f4, hM4⟩ := HQ.out
  obtain ⟨p1, p2, p3, _, _, _⟩ := HP.out
  refine ⟨rfl, ⟨?_, ?_, ⟨_, hM4, p2⟩, ((swp_perm l i j).map _).symm.nodup p1, by rw [swp_length, hn]; exact hs⟩, ?_⟩
  · exact (f4.block re hrel2 hrerm).trans ((hFr.block re hrelt (show ¬ re = g from fun e => hgre e.symm)).trans p3)
  · exact OwnS.fr (w := wa.drew.drew) hOwn f4 (fun k hk e => by
      have : g = k := by simpa [Value.ownBlock] using hk
      exact hgrm (this.trans e))
  · exact ((hFr.mono (fun k _ e => .inr (.inr (by rw [e]; rfl)))).drew.drew).trans (f4.mono (fun k _ e => .inr (.inl e)))

set_option maxRecDepth 100000 in
set_option maxHeartbeats 1000000 in
theorem qswap_eq (w : World) (re rm : Nat) (v : Value) (l : List Ent) (h : EntAt w re rm v l) (i : Nat) (hi : i < l.length) :
    Calls Tryd.prog 114 #[.pointer (some ⟨re, 0, none⟩), .int .i64 i, .int .i64 i] w fun e w' => e = .returned (.tuple #[]) ∧ EntAt w' re rm v (swp l i i) ∧ Fr (entFoot re rm v) w w' := by
  have hj := hi
  obtain ⟨j, hji⟩ : ∃ j, j = i := ⟨_, rfl⟩
  rw [← hji] at hj
  rw [show (#[.pointer (some ⟨re, 0, none⟩), .int .i64 i, .int .i64 i] : Array Value) = #[.pointer (some ⟨re, 0, none⟩), .int .i64 i, .int .i64 j] by rw [hji], show swp l i i = swp l i j by rw [hji]]
  have c0 := h.c0
  obtain ⟨g, cap, hv, hcap, a0, a1, hg⟩ := h.cells hi
  obtain ⟨g', cap', hv', _, b0, b1, _⟩ := h.cells hj
  rw [hv] at hv'
  injection hv' with e1 e2 e3
  injection e1 with e1
  injection e1 with e1 e4
  subst e1; subst e3
  have hgre := h.ne_re hg
  have hgrm := h.ne_rm hg
  have hrerm := h.re_rm
  have hrelt := h.lt
  have hglt := (h.own.lt g hg).2
  obtain ⟨cur, hgb⟩ := OwnE.block h.own hg
  have fz : ∀ k, w.frozen? ⟨g, k, none⟩ = false := fun k => by simp [World.frozen?, hgb]
  subst hv
  have hs := h.small
  obtain ⟨x, hxl⟩ : ∃ x, l[i]? = some x := ⟨_, List.getElem?_eq_getElem hi⟩
  obtain ⟨y, hyl⟩ : ∃ y, l[j]? = some y := ⟨_, List.getElem?_eq_getElem hj⟩
  have ex : l[i] = x := by rw [List.getElem?_eq_getElem hi] at hxl; exact Option.some.inj hxl
  have ey : l[j] = y := by rw [List.getElem?_eq_getElem hj] at hyl; exact Option.some.inj hyl
  rw [ex] at a0 a1
  rw [ey] at b0 b1
  obtain ⟨hOwn, hFr⟩ := swap_cells h hxl hyl
  obtain ⟨W, hM, hSt⟩ := h.map
  have hSt2 := stands_swap h.nodup hM.nodup hSt hxl hyl
  have k1 := hSt.key hyl
  have k2 := hSt.key hxl
  have hsw : (swp l i j)[i]? = some y ∧ (swp l i j)[j]? = some x := by
    by_cases hij : i = j
    · subst hij
      rw [swp_self]
      rw [hxl] at hyl
      obtain rfl := Option.some.inj hyl
      exact ⟨hxl, hxl⟩
    · rw [swp_get hxl hyl hij, swp_get hxl hyl hij, if_pos rfl, if_neg (fun e => hij e.symm), if_pos rfl]
      exact ⟨rfl, rfl⟩
  have HP := Lib.hid (And.intro h.nodup (And.intro hSt2 (And.intro h.block (And.intro k1 (And.intro k2 hsw)))))
  clear h hSt2 k1 k2 hSt ex ey hsw hgb
  have bi : (i : Int) < (l.length : Int) := by omega
  have bj : (j : Int) < (l.length : Int) := by omega
  generalize hn : l.length = n at *
  have hxy : y = x := by
    subst hji
    rw [hxl] at hyl
    exact (Option.some.inj hyl).symm
  have fi0 := fz (i * 2)
  have fi1 := fz (i * 2 + 1)
  have HH := Lib.hid (And.intro hOwn (And.intro hFr (And.intro hM hn)))
  clear fz hOwn hFr hM hn hxl hyl
  subst hji
  subst hxy
  go_enter Tryd.func114, Tryd.ntmps114
  go_wp2
  go_region
  go_wp2
  clear fi0 fi1
  obtain ⟨hOwn, hFr, hM, hn⟩ := HH.out
  clear HH
  clear c0 a0 a1 b0 b1
  generalize ((((w.setCell ⟨g, j * 2, none⟩ (.string y.1)).setCell ⟨g, j * 2 + 1, none⟩ (.int .u64 y.2)).setCell ⟨g, j * 2, none⟩ (.string y.1)).setCell ⟨g, j * 2 + 1, none⟩ (.int .u64 y.2)) = wa at hOwn hFr ⊢
  have hwa : wa.drew.heap.size = wa.heap.size := rfl
  have hS0 : SwapS re rm g n cap j j y.1 y.1 wa.drew := by
    have hb := (hFr.block re hrelt (show ¬ re = g from fun e => hgre e.symm)).trans HP.out.2.2.1
    refine ⟨?_, ?_, ?_, ?_⟩
    · show wa.cell? _ = _
      simp [World.cell?, hb]
    · show wa.cell? _ = _
      simp [World.cell?, hb]
    · exact (OwnE.cells hOwn (by rw [swp_length]; exact hn) HP.out.2.2.2.2.2.1).1
    · exact (OwnE.cells hOwn (by rw [swp_length]; exact hn) HP.out.2.2.2.2.2.2).1
  have hS0' : SwapS re rm g n cap j j y.1 y.1 wa.drew.drew := hS0
  have hMa : IsMap Value.string i64v wa.drew.drew rm W := hM.fr hFr.drew.drew (show ¬ rm = g from fun e => hgrm e.symm)
  obtain ⟨u1, s1, w1, w2, u2, s2, w3, w4, r1, r2, r3, r4, f1, f2, f3, f4, hM4⟩ := swap_places hMa y.1 y.1 j j HP.out.2.2.2.1 HP.out.2.2.2.2.1
  have hrel2 : re < wa.drew.drew.heap.size := Nat.lt_of_lt_of_le hrelt hFr.size
  have hgl2 : g < wa.drew.drew.heap.size := Nat.lt_of_lt_of_le hglt hFr.size
  have hS1 := hS0'.fr f1 hrerm hgrm hrel2 hgl2
  have hS2 := hS0'.fr f2 hrerm hgrm hrel2 hgl2
  have hS3 := hS0'.fr f3 hrerm hgrm hrel2 hgl2
  have hS4 := hS0'.fr f4 hrerm hgrm hrel2 hgl2
  have HQ := Lib.hid (And.intro hOwn (And.intro hFr (And.intro hM (And.intro f4 hM4))))
  clear hOwn hFr hM f1 f2 f3 f4 hM4 hMa hwa hS0
  unfold SwapS at hS0' hS1 hS2 hS3 hS4
  go_region_held3 (fun w' => w'.cell? ⟨re, 0, none⟩ = some (.slice (some ⟨g, 0, none⟩) n cap) ∧ w'.cell? ⟨re, 1, none⟩ = some (.map (some rm)) ∧ w'.cell? ⟨g, j * 2, none⟩ = some (.string y.1) ∧ w'.cell? ⟨g, j * 2, none⟩ = some (.string y.1))
    (first | exact hS0' | exact hS1 | exact hS2 | exact hS3 | exact hS4) (fail)
  go_wp2
  go_end0
  obtain ⟨hOwn, hFr, hM, f4, hM4⟩ := HQ.out
  obtain ⟨p1, p2, p3, _, _, _⟩ := HP.out
  refine ⟨rfl, ⟨?_, ?_, ⟨_, hM4, p2⟩, ((swp_perm l j j).map _).symm.nodup p1, by rw [swp_length, hn]; exact hs⟩, ?_⟩
  · exact (f4.block re hrel2 hrerm).trans ((hFr.block re hrelt (show ¬ re = g from fun e => hgre e.symm)).trans p3)
  · exact OwnS.fr (w := wa.drew.drew) hOwn f4 (fun k hk e => by
      have : g = k := by simpa [Value.ownBlock] using hk
      exact hgrm (this.trans e))
  · exact ((hFr.mono (fun k _ e => .inr (.inr (by rw [e]; rfl)))).drew.drew).trans (f4.mono (fun k _ e => .inr (.inl e)))

theorem qswap_any (w : World) (re rm : Nat) (v : Value) (l : List Ent) (h : EntAt w re rm v l) (i j : Nat) (hi : i < l.length) (hj : j < l.length) :
    Calls Tryd.prog 114 #[.pointer (some ⟨re, 0, none⟩), .int .i64 i, .int .i64 j] w fun e w' => e = .returned (.tuple #[]) ∧ EntAt w' re rm v (swp l i j) ∧ Fr (entFoot re rm v) w w' := by
  by_cases hij : i = j
  · subst hij
    exact qswap_eq w re rm v l h i hi
  · exact qswap_ne w re rm v l h i j hi hj hij
end Go.Proofs.YtmjbhnkhpgnchaaDoor
