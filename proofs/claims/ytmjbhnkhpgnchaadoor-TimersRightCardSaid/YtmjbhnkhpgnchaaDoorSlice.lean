/-
  Slices whose elements take k cells, read as lists.
-/
import Derived.Test.YtmjbhnkhpgnchaaDoorOps
import Derived.Shelf.SlSortCmp.WholeK
namespace Go.Proofs.YtmjbhnkhpgnchaaDoor
open Go Go.RowKit
section
variable {α : Type} {enc : α → List Value} {k : Nat} {w w' : World} {base : Nat} {e : TypeId} {v : Value} {xs : List α}

/-- the slice v, of elements of type e of k cells each, is the call's own and holds xs. -/
def OwnS (enc : α → List Value) (k : Nat) (e : TypeId) (base : Nat) (w : World) (v : Value) (xs : List α) : Prop :=
  w.ownsRow base e k v xs.length (xs.flatMap enc)

theorem OwnS.nil : OwnS enc k e base w (.slice none 0 0) [] := ⟨by simp, .inl ⟨rfl, rfl⟩⟩
theorem OwnS.fr {F : Nat → Prop} (h : OwnS enc k e base w v xs) (hf : Fr F w w') (hF : ∀ g, v.ownBlock = some g → ¬ F g) : OwnS enc k e base w' v xs := by
  refine ⟨h.1, ?_⟩
  rcases h.2 with h1 | ⟨g, cap, cur, rfl, h2, h3, h4⟩
  · exact .inl h1
  · refine .inr ⟨g, cap, cur, rfl, h2, ?_, h4⟩
    rw [hf.block g (Array.getElem?_eq_some_iff.1 h3).1 (hF g rfl)]
    exact h3
theorem OwnS.alloc (h : OwnS enc k e base w v xs) (o : Obj) : OwnS enc k e base (w.alloc o) v xs := World.ownsRow.alloc h o
theorem OwnS.drew (h : OwnS enc k e base w v xs) : OwnS enc k e base w.drew v xs := h
theorem OwnS.drewN (h : OwnS enc k e base w v xs) (n : Nat) : OwnS enc k e base (w.drewN n) v xs := h
theorem OwnS.lt (h : OwnS enc k e base w v xs) : ∀ g, v.ownBlock = some g → base ≤ g ∧ g < w.heap.size := World.ownsRow.lt h

/-- the slice v, of elements of k cells each, holds xs, wherever it lies. -/
def SlAt (enc : α → List Value) (k : Nat) (e : TypeId) (w : World) (v : Value) (xs : List α) : Prop :=
  (v = .slice none 0 0 ∧ xs = []) ∨
  ∃ g off cap cur, v = .slice (some ⟨g, off, none⟩) xs.length cap ∧ w.heap[g]? = some (.cells cur e (0, 0)) ∧ xs.length ≤ cap ∧ off + cap * k ≤ cur.size ∧
    cap ≤ maxLen ∧ (xs.flatMap enc).length = xs.length * k ∧ (cur.toList.drop off).take (xs.length * k) = xs.flatMap enc

theorem OwnS.at (h : OwnS enc k e base w v xs) : SlAt enc k e w v xs := by
  rcases h.2 with ⟨h1, h2⟩ | ⟨g, cap, cur, h1, h2, h3, h4, h5, h6, h7⟩
  · exact .inl ⟨h1, List.eq_nil_of_length_eq_zero h2⟩
  · exact .inr ⟨g, 0, cap, cur, h1, h3, h4, by omega, h5, h.1, by simpa using h7⟩

/-- the block that a slice lies in -/
def inBlock (v : Value) (g : Nat) : Prop := ∃ off n cap, v = .slice (some ⟨g, off, none⟩) n cap

theorem SlAt.fr {F : Nat → Prop} (h : SlAt enc k e w v xs) (hf : Fr F w w') (hF : ∀ g, inBlock v g → ¬ F g) : SlAt enc k e w' v xs := by
  rcases h with h | ⟨g, off, cap, cur, rfl, h1, h2⟩
  · exact .inl h
  · exact .inr ⟨g, off, cap, cur, rfl, (hf.block g (Array.getElem?_eq_some_iff.1 h1).1 (hF g ⟨_, _, _, rfl⟩)).trans h1, h2⟩

theorem SlAt.lt (h : SlAt enc k e w v xs) {g : Nat} (hg : inBlock v g) : g < w.heap.size := by
  obtain ⟨off, n, cap, rfl⟩ := hg
  rcases h with ⟨h, _⟩ | ⟨g', off', cap', cur, h0, h1, _⟩
  · cases h
  · injection h0 with h0 _ _
    injection h0 with h0
    injection h0 with h0 _
    subst h0
    exact (Array.getElem?_eq_some_iff.1 h1).1

theorem SlAt.shape (h : SlAt enc k e w v xs) : ∃ a cap, v = .slice a xs.length cap ∧ (xs ≠ [] → ∃ g off, a = some ⟨g, off, none⟩) ∧ xs.length ≤ cap := by
  rcases h with ⟨h, rfl⟩ | ⟨g, off, cap, cur, h0, h1, h2, _⟩
  · exact ⟨none, 0, h, fun h => absurd rfl h, by simp⟩
  · exact ⟨_, cap, h0, fun _ => ⟨g, off, rfl⟩, h2⟩

theorem flatMap_get (hk : ∀ x, (enc x).length = k) : ∀ (xs : List α) (i j : Nat) (h : i < xs.length), j < k → (xs.flatMap enc)[i * k + j]? = (enc (xs[i]))[j]?
  | [], i, j, h, _ => by simp at h
  | x :: xs, 0, j, _, hj => by
    simp only [List.flatMap_cons, Nat.zero_mul, Nat.zero_add, List.getElem_cons_zero]
    rw [List.getElem?_append_left (by rw [hk]; exact hj)]
  | x :: xs, i + 1, j, h, hj => by
    simp only [List.flatMap_cons, List.getElem_cons_succ]
    rw [List.getElem?_append_right (by rw [hk, Nat.succ_mul]; omega), hk]
    rw [show (i + 1) * k + j - k = i * k + j by rw [Nat.succ_mul]; omega]
    exact flatMap_get hk xs i j (by simpa using h) hj

theorem length_flatMap (hk : ∀ x, (enc x).length = k) (xs : List α) : (xs.flatMap enc).length = xs.length * k := by
  induction xs with
  | nil => simp
  | cons x xs ih => simp [List.flatMap_cons, ih, hk, Nat.succ_mul]; omega

/-- an element's cells -/
theorem SlAt.cell (h : SlAt enc k e w v xs) (hk : ∀ x, (enc x).length = k) {i : Nat} (hi : i < xs.length) : ∃ g off cap, v = .slice (some ⟨g, off, none⟩) xs.length cap ∧
    ∀ j, j < k → w.cell? ⟨g, off + i * k + j, none⟩ = (enc (xs[i]))[j]? := by
  rcases h with ⟨h, rfl⟩ | ⟨g, off, cap, cur, h0, h1, h2, h3, h4, h5, h6⟩
  · simp at hi
  · refine ⟨g, off, cap, h0, fun j hj => ?_⟩
    rw [← flatMap_get hk xs i j hi hj, ← h6]
    have hb : i * k + j < xs.length * k := by
      have h7 : (i + 1) * k ≤ xs.length * k := Nat.mul_le_mul_right k hi
      rw [Nat.succ_mul] at h7
      omega
    rw [List.getElem?_take, if_pos hb, List.getElem?_drop, Array.getElem?_toList]
    simp only [World.cell?, h1, Option.isSome_none, Bool.false_eq_true, if_false]
    rw [Nat.add_assoc]

open Go.Sort in
theorem OwnS.holds [Inhabited α] (hk : ∀ x, (enc x).length = k) (h : OwnS enc k e base w v xs) (hv : v ≠ .slice none 0 0) :
    ∃ g cap, v = .slice (some ⟨g, 0, none⟩) xs.length cap ∧ base ≤ g ∧ g < w.heap.size ∧ HoldsK enc k w g 0 xs.toArray := by
  rcases h.2 with ⟨h1, h2⟩ | ⟨g, cap, cur, h1, h2, h3, h4, h5, h6, h7⟩
  · exact absurd h1 hv
  · refine ⟨g, cap, h1, h2, (Array.getElem?_eq_some_iff.1 h3).1, ?_⟩
    intro t ht
    rw [size_flatK] at ht
    have ht' : t < xs.length * k := by simpa using ht
    have hk0 : 0 < k := Nat.pos_of_ne_zero fun e => by simp [e] at ht'
    have hi : t / k < xs.length := Nat.div_lt_of_lt_mul (by rw [Nat.mul_comm]; exact ht')
    have hj : t % k < k := Nat.mod_lt _ hk0
    refine ⟨?_, by simp [World.frozen?, h3]⟩
    rw [get_flatK _ _ _ _ ht]
    have h8 := flatMap_get hk xs (t / k) (t % k) hi hj
    rw [Nat.div_add_mod' t k, ← h7, List.getElem?_take, if_pos ht', Array.getElem?_toList] at h8
    simp only [World.cell?, h3, Nat.zero_add, Option.isSome_none, Bool.false_eq_true, if_false]
    rw [h8]
    have e1 : (xs.toArray)[t / k]! = xs[t / k] := by simp [getElem!_pos, hi]
    rw [e1]
    have h9 : t % k < (enc xs[t / k]).length := by rw [hk]; exact hj
    simp [getElem!_pos, h9]

open Go.Sort in
theorem OwnS.sorted [Inhabited α] (hk : ∀ x, (enc x).length = k) {g cap n : Nat} {os : Array Obj} {ys : List α} (h : OwnS enc k e base w (.slice (some ⟨g, 0, none⟩) xs.length cap) xs) (hy : ys.length = xs.length) :
    OwnS enc k e base (sortWorldK enc k w g 0 n ys.toArray os) (.slice (some ⟨g, 0, none⟩) xs.length cap) ys := by
  rcases h.2 with ⟨e0, _⟩ | ⟨g', cap', cur, e0, hb, hg, hn, hm, hs, ht⟩
  · cases e0
  · injection e0 with e1 _ e3
    injection e1 with e1
    injection e1 with e1
    subst e1; subst e3
    have hlt : g < w.heap.size := (Array.getElem?_eq_some_iff.1 hg).1
    refine ⟨length_flatMap hk ys, .inr ⟨g, cap, putCells id 0 (flatK enc k ys.toArray) cur, by rw [hy], hb, ?_, by omega, hm, by simpa [putCells] using hs, ?_⟩⟩
    · unfold sortWorldK
      rw [heap_grow_old _ _ (by simpa [putRowK, putRow, mapBlock, Sort.ahead] using hlt)]
      simp [putRowK, putRow, mapBlock, Sort.ahead, Array.getElem?_modify, hg, onCells]
    · apply List.ext_getElem?
      intro t
      rw [List.getElem?_take, Array.getElem?_toList]
      by_cases htl : t < ys.length * k
      · have hk0 : 0 < k := Nat.pos_of_ne_zero fun e => by simp [e] at htl
        have hi : t / k < ys.length := Nat.div_lt_of_lt_mul (by rw [Nat.mul_comm]; exact htl)
        have hj : t % k < k := Nat.mod_lt _ hk0
        have hts : t < cur.size := by
          rw [hs]
          exact Nat.lt_of_lt_of_le htl (Nat.mul_le_mul_right k (by omega))
        have h8 := flatMap_get hk ys (t / k) (t % k) hi hj
        rw [Nat.div_add_mod' t k] at h8
        rw [h8, if_pos htl]
        simp only [putCells, Array.getElem?_mapIdx, Array.getElem?_eq_getElem hts, Option.map_some]
        rw [if_pos (by simp; exact htl)]
        have h9 : t % k < (enc ys[t / k]).length := by rw [hk]; exact hj
        rw [Nat.sub_zero, get_flatK _ _ _ _ (by simpa using htl)]
        have e1 : (ys.toArray)[t / k]! = ys[t / k] := by simp [getElem!_pos, hi]
        rw [e1, List.getElem?_eq_getElem h9]
        simp [getElem!_pos, h9]
      · rw [if_neg htl, List.getElem?_eq_none (by rw [length_flatMap hk]; omega)]

open Go.Sort in
theorem below_sort [Inhabited α] {B : Nat} {w0 w : World} {g n : Nat} {d : Array α} {os : Array Obj} (h : RowKit.Below B w0 w) (hg : B ≤ g) (hB : B ≤ w.heap.size) : RowKit.Below B w0 (sortWorldK enc k w g 0 n d os) :=
  ⟨h.os, h.tape, h.output, Nat.le_trans h.size (by simp [sortWorldK, putRowK, putRow, mapBlock, Sort.ahead]), fun j hj => by
    rw [← h.block j hj]
    unfold sortWorldK
    rw [heap_grow_old _ _ (by simp [putRowK, putRow, mapBlock, Sort.ahead]; omega)]
    simp [putRowK, putRow, mapBlock, Sort.ahead, Array.getElem?_modify, show g ≠ j by omega]⟩
end

section
variable {α : Type} {enc : α → List Value} {k : Nat} {w : World} {base : Nat} {e : TypeId} {v : Value} {xs : List α} {P : Program}
  {ops : Array Oper} {rest : List Oper} {o : Oper} {a : Act} {Q : Exit → Act → World → Prop}

/-- 'append(s, y)', y laid into a new block of one element. -/
theorem wpl_append1 (hg : o.guard = none) (s x : Operand) (t : TypeId) (hop : o.op = .call { callee := .builtin .append, args := #[s, x], argTypes := #[t, t] })
    (ht : P.underlying t = some (.slice e)) {z : Value} {bytes : Nat} (hinfo : (P.info? e).map (fun i => (i.zero, i.size, i.bytes)) = some (some z, k, bytes)) (hzs : z.cells.size = k) (hk : 0 < k)
    (hv : a.eval s = v) (h : OwnS enc k e base w v xs) (b c : Nat) (hx : a.eval x = .slice (some ⟨b, 0, none⟩) 1 c) (y : α) (hy : (enc y).length = k) (hc : w.heap[b]? = some (.cells (enc y).toArray e (0, 0)))
    (h1 : ∀ u ∈ enc y, u.oneCell' = true) (h63 : xs.length + 1 ≤ maxLen) (hbytes : (xs.length + 1) * bytes ≤ 140737488355328) (hbase : base ≤ w.heap.size)
    (hK : ∀ v' w', OwnS enc k e base w' v' (xs ++ [y]) → Fr (fun g => v.ownBlock = some g) w w' → wpList P ops Q rest (a.put o.dst v') w') : wpList P ops Q (o :: rest) a w := by
  obtain ⟨i0, hi, hz0, hz1, hz2⟩ := info_parts hinfo
  refine wpList_append_own w hg s x t hop base e i0 z k bytes ht hi hz0 hz1 hz2 hzs hk v xs.length (xs.flatMap enc) hv h ⟨b, 0, none⟩ 1 c (enc y) hx (by rw [hy]; omega) ?_ h1 h63 hbytes hbase ?_
  · intro j u hu
    have e1 : ((⟨b, 0, none⟩ : Addr).add j) = ⟨b, j, none⟩ := by
      unfold Addr.add
      by_cases hj : j = 0
      · simp [hj]
      · simp [hj]
    rw [e1]
    simp [World.cell?, hc, hu]
  · intro v' w' ho hgr _
    refine hK v' w' ?_ ?_
    · unfold OwnS
      simpa using ho
    · exact (Fr.of_grown hgr).mono fun k _ e => e

/-- a whole array or struct is read out of memory -/
theorem wpl_load_agg (hg : o.guard = none) (T : TypeId) (x : Operand) (hop : o.op = .load T x) (b off : Nat) (hx : a.eval x = .pointer (some ⟨b, off, none⟩)) (cs : List Value)
    {d : TypeDesc} (hu : P.underlying T = some d) (hd : (match d with | .struct _ | .array _ _ => true | _ => false) = true) (hi : (P.info? T).map (·.size) = some cs.length)
    (hc : ∀ j v, cs[j]? = some v → w.cell? ⟨b, off + j, none⟩ = some v)
    (h : wpList P ops Q rest (a.put o.dst (.agg cs.toArray)) w) : wpList P ops Q (o :: rest) a w := by
  refine wpList_plain hg fun K' hK' => ?_
  have hl : (loadCells ⟨b, off, none⟩ cs.length).run P w = .ok cs.toArray w :=
    run_loadCells_list (P := P) w ⟨b, off, none⟩ cs (fun j v hv => by
      have hadd : (⟨b, off, none⟩ : Addr).add j = ⟨b, off + j, none⟩ := by unfold Addr.add; split <;> simp_all
      rw [hadd]
      exact hc j v hv)
  have hlv : (loadVar T ⟨b, off, none⟩).run P w = .ok (.agg cs.toArray) w := by
    cases hq : P.info? T with
    | none => rw [hq] at hi; cases hi
    | some i =>
      rw [hq] at hi
      have hsz : i.size = cs.length := by simpa using hi
      have ha : (isAgg T).run P w = .ok true w := by
        cases d <;> simp [isAgg, run_underlying hu] at hd ⊢
      simp [loadVar, ha, Go.sizeOf, typeInfo, hq, hsz, hl]
  unfold Oper.wp
  simp only [execOp, hop, hx, Instr.loadAt, Instr.sureAddr, Sem.run_bind, Sem.run_pure, Result.andThen_ok, hlv]
  exact hK' _ _ h

theorem wpl_load_stop (hg : o.guard = none) (T : TypeId) (x : Operand) (_hop : o.op = .load T x) (h : At (wpList P ops Q (o :: rest) a w)) : wpList P ops Q (o :: rest) a w :=
  have _ := hg; h
end
end Go.Proofs.YtmjbhnkhpgnchaaDoor
