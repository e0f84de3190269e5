/-
  The reference's functions on a list of entries: Ahead, Put.
-/
import Derived.Test.YtfjmdblfokjnmaaRefB
import Derived.Test.YtfjmdblfokjnmaaStore
import Derived.Deep.RegionHeld3
import Derived.Maps.AppendAt
namespace Go.Proofs.Ytfjmdblfokjnmaa
open Go Go.RowKit

set_option maxRecDepth 100000 in
set_option maxHeartbeats 400000 in
theorem ref_ahead (w : World) (x y : ByteArray × Nat) :
    Calls Try.prog 33 #[.agg #[.string x.1, .int .u64 x.2], .agg #[.string y.1, .int .u64 y.2]] w fun e w' => e = .returned (.bool (ahead x y)) ∧ RowKit.Below w.heap.size w w' := by
  have HB := Lib.hid (show ∀ o1 o2, RowKit.Below w.heap.size w ((w.alloc o1).alloc o2) from fun o1 o2 => ((RowKit.Below.refl _ w).alloc (Nat.le_refl _) _).alloc (by simp) _)
  have HH := Lib.hid (show ahead x y = (decide (x.2 < y.2) || (decide (x.2 = y.2) && Op.bytesLess x.1.toList y.1.toList)) from rfl)
  generalize ahead x y = res at HH
  by_cases h1 : x.2 < y.2
  · have hd : decide ((x.2 : Int) < (y.2 : Int)) = true := by simpa using h1
    go_enter Try.func33, Try.ntmps33
    go_wp2
    go_ret
    rw [HH.out, decide_eq_true h1]
    exact ⟨rfl, HB.out _ _⟩
  · have hd : decide ((x.2 : Int) < (y.2 : Int)) = false := by simpa using h1
    by_cases h2 : x.2 = y.2
    · have hd2 : ((x.2 : Int) == (y.2 : Int)) = true := by rw [beq_iff_eq]; omega
      go_enter Try.func33, Try.ntmps33
      go_wp2
      go_ret
      rw [HH.out, decide_eq_false h1, decide_eq_true h2]
      exact ⟨rfl, HB.out _ _⟩
    · have hd2 : ((x.2 : Int) == (y.2 : Int)) = false := by rw [beq_eq_false_iff_ne]; omega
      go_enter Try.func33, Try.ntmps33
      go_wp2
      go_ret
      rw [HH.out, decide_eq_false h1, decide_eq_false h2]
      exact ⟨rfl, HB.out _ _⟩

theorem OwnE.base {B B' : Nat} {w : World} {v : Value} {l : List (ByteArray × Nat)} (h : OwnE B w v l) (hB : B' ≤ B) : OwnE B' w v l := by
  unfold OwnE OwnS World.ownsRow at h ⊢
  refine ⟨h.1, ?_⟩
  rcases h.2 with e1 | ⟨g', cap', cur, e1, e2, e3⟩
  · exact .inl e1
  · exact .inr ⟨g', cap', cur, e1, by omega, e3⟩

section
variable {α : Type} {enc : α → List Value} {k : Nat} {w : World} {base : Nat} {e : TypeId} {v : Value} {xs : List α} {P : Program}
  {ops : Array Oper} {o : Oper} {a : Act} {Q : Exit → Act → World → Prop} {K : Act → World → Prop} {E : Prop}

/-- 'append(s, y)' in a region that draws. -/
theorem step_append1 (hg : o.guard = none) (s x : Operand) (t : TypeId) (hop : o.op = .call { callee := .builtin .append, args := #[s, x], argTypes := #[t, t] })
    (ht : P.underlying t = some (.slice e)) {z : Value} {bytes : Nat} (hinfo : (P.info? e).map (fun i => (i.zero, i.size, i.bytes)) = some (some z, k, bytes)) (hzs : z.cells.size = k) (hk : 0 < k)
    (hv : a.eval s = v) (h : OwnS enc k e base w v xs) (b c : Nat) (hx : a.eval x = .slice (some ⟨b, 0, none⟩) 1 c) (y : α) (hy : (enc y).length = k) (hc : w.heap[b]? = some (.cells (enc y).toArray e (0, 0)))
    (h1 : ∀ u ∈ enc y, u.oneCell' = true) (h63 : xs.length + 1 ≤ maxLen) (hbytes : (xs.length + 1) * bytes ≤ 140737488355328) (hbase : base ≤ w.heap.size)
    (hK : ∀ v' w', OwnS enc k e base w' v' (xs ++ [y]) → Fr (fun g => v.ownBlock = some g) w w' → K (a.put o.dst v') w') : if Region.wanted o (yielded ops a.tmps) = true then Oper.wp P o a w K Q else E := by
  obtain ⟨i0, hi, hz0, hz1, hz2⟩ := info_parts hinfo
  have hw : Region.wanted o (yielded ops a.tmps) = true := by simp [Region.wanted, hg]
  rw [if_pos hw]
  obtain ⟨v', w', hr, h2, h3, _, _⟩ := run_append_own_at (P := P) w base t o.type e i0 z k bytes ht hi hz0 hz1 hz2 hzs hk v xs.length (xs.flatMap enc) h ⟨b, 0, none⟩ 1 c (enc y) (by rw [hy]; omega) (by
    intro j u hu
    have e1 : ((⟨b, 0, none⟩ : Addr).add j) = ⟨b, j, none⟩ := by
      unfold Addr.add
      by_cases hj : j = 0
      · simp [hj]
      · simp [hj]
    rw [e1]
    simp [World.cell?, hc, hu]) h1 h63 hbytes hbase
  unfold Oper.wp execOp
  simp only [hop, resolve, invoke, builtin, Sem.run_bind, Sem.run_pure, Result.andThen_ok, List.map_toArray, List.map_cons, List.map_nil, hv, hx, hr]
  refine hK _ _ ?_ ?_
  · unfold OwnS
    simpa using h2
  · exact (Fr.of_grown h3).mono fun k _ e => e
end

theorem putS_draw {n : Nat} {s : ByteArray} {t : Nat} {w1 W : World}
    (h : W.cell? ⟨n, 0, none⟩ = some (.string s) ∧ W.cell? ⟨n, 1, none⟩ = some (.int .u64 t) ∧ RowKit.Below (n + 1) w1 W) :
    W.drew.cell? ⟨n, 0, none⟩ = some (.string s) ∧ W.drew.cell? ⟨n, 1, none⟩ = some (.int .u64 t) ∧ RowKit.Below (n + 1) w1 W.drew :=
  ⟨h.1, h.2.1, h.2.2.drew⟩
theorem putS_below {n : Nat} {s : ByteArray} {t : Nat} {w1 W W' : World}
    (h : W.cell? ⟨n, 0, none⟩ = some (.string s) ∧ W.cell? ⟨n, 1, none⟩ = some (.int .u64 t) ∧ RowKit.Below (n + 1) w1 W) (hn : n + 1 ≤ w1.heap.size) (hb : RowKit.Below W.heap.size W W') :
    W'.cell? ⟨n, 0, none⟩ = some (.string s) ∧ W'.cell? ⟨n, 1, none⟩ = some (.int .u64 t) ∧ RowKit.Below (n + 1) w1 W' := by
  have hsz := h.2.2.size
  exact ⟨((Fr.of_new hb (F := fun _ => False)).cell (show n < _ by omega) (fun x => x)).trans h.1, ((Fr.of_new hb (F := fun _ => False)).cell (show n < _ by omega) (fun x => x)).trans h.2.1, h.2.2.trans (hb.mono (by omega))⟩

theorem putS_fr {n : Nat} {s : ByteArray} {t : Nat} {w1 W W' : World} {F : Nat → Prop}
    (h : W.cell? ⟨n, 0, none⟩ = some (.string s) ∧ W.cell? ⟨n, 1, none⟩ = some (.int .u64 t) ∧ RowKit.Below (n + 1) w1 W) (hn : n + 1 ≤ w1.heap.size) (hf : Fr F W W') (hF : ∀ k, F k → n + 1 ≤ k) :
    W'.cell? ⟨n, 0, none⟩ = some (.string s) ∧ W'.cell? ⟨n, 1, none⟩ = some (.int .u64 t) ∧ RowKit.Below (n + 1) w1 W' := by
  have hsz := h.2.2.size
  exact ⟨(hf.cell (show n < _ by omega) (fun x => by have := hF n x; omega)).trans h.1, (hf.cell (show n < _ by omega) (fun x => by have := hF n x; omega)).trans h.2.1,
    h.2.2.trans (hf.below (fun k hk hc => by have := hF k hc; omega) (by omega))⟩

/-- x has come down to place pos -/
structure Bubble (w wr : World) (g cap : Nat) (D : List (ByteArray × Nat)) (x : ByteArray × Nat) (pos : Nat) : Prop where
  le : pos ≤ D.length
  own : OwnE w.heap.size wr (.slice (some ⟨g, 0, none⟩) (D.length + 1) cap) (D.take pos ++ x :: D.drop pos)
  less : ∀ y ∈ D.drop pos, ahead x y = true
  below : RowKit.Below w.heap.size w wr
  base : w.heap.size ≤ g
  lt : g < wr.heap.size

theorem Bubble.len {w wr : World} {g cap : Nat} {D : List (ByteArray × Nat)} {x : ByteArray × Nat} {pos : Nat} (h : Bubble w wr g cap D x pos) : (D.take pos ++ x :: D.drop pos).length = D.length + 1 := by
  have := h.le
  simp
  omega

/-- x stands ahead of what is behind it, and behind what is ahead of it -/
theorem Bubble.stop {w wr : World} {g cap : Nat} {D : List (ByteArray × Nat)} {x : ByteArray × Nat} {pos : Nat} (h : Bubble w wr g cap D x pos) (hD : Asc D) (hb : ∀ y ∈ D.take pos, ahead y x = true) :
    (D.take pos ++ x :: D.drop pos).Perm (D ++ [x]) ∧ Asc (D.take pos ++ x :: D.drop pos) := by
  constructor
  · refine List.perm_middle.trans ?_
    rw [List.take_append_drop]
    exact (List.perm_append_comm (l₁ := [x]) (l₂ := D))
  · have h1 : Asc (D.take pos ++ D.drop pos) := by rw [List.take_append_drop]; exact hD
    unfold Asc at h1 ⊢
    rw [List.pairwise_append] at h1 ⊢
    rw [List.pairwise_cons]
    refine ⟨h1.1, ⟨h.less, h1.2.1⟩, fun a ha b hb' => ?_⟩
    rcases List.mem_cons.1 hb' with rfl | hb'
    · exact hb a ha
    · exact h1.2.2 a ha b hb'

theorem Bubble.done {w wr : World} {g cap : Nat} {D : List (ByteArray × Nat)} {x : ByteArray × Nat} (h : Bubble w wr g cap D x 0) (hD : Asc D) :
    Asc (x :: D) ∧ OwnE w.heap.size wr (.slice (some ⟨g, 0, none⟩) (D.length + 1) cap) (x :: D) ∧ RowKit.Below w.heap.size w wr :=
  ⟨(h.stop hD (fun y hy => by simp at hy)).2, h.own, h.below⟩

theorem Bubble.cells {w wr : World} {g cap : Nat} {D : List (ByteArray × Nat)} {x p : ByteArray × Nat} {q : Nat} (h : Bubble w wr g cap D x (q + 1)) (hp : D[q]? = some p) :
    wr.cell? ⟨g, (q + 1) * 2, none⟩ = some (.string x.1) ∧ wr.cell? ⟨g, (q + 1) * 2 + 1, none⟩ = some (.int .u64 x.2) ∧ wr.cell? ⟨g, q * 2, none⟩ = some (.string p.1) ∧ wr.cell? ⟨g, q * 2 + 1, none⟩ = some (.int .u64 p.2) := by
  have hle := h.le
  have e1 : (D.take (q + 1) ++ x :: D.drop (q + 1))[q + 1]? = some x := by
    rw [List.getElem?_append_right (by simp; omega)]
    simp [List.length_take, Nat.min_eq_left (show q + 1 ≤ D.length by omega)]
  have e2 : (D.take (q + 1) ++ x :: D.drop (q + 1))[q]? = some p := by
    rw [List.getElem?_append_left (by simp; omega), List.getElem?_take, if_pos (by omega)]
    exact hp
  obtain ⟨a1, cap1, hv1, _, hcell⟩ := (OwnS.at h.own).view
  injection hv1 with hv1 _ _
  obtain ⟨g1, off1, ha1, hx0, hx1⟩ := hcell _ _ e1
  obtain ⟨g2, off2, ha2, hp0, hp1⟩ := hcell _ _ e2
  rw [← hv1] at ha1 ha2
  injection ha1 with ha1
  injection ha1 with ha1 hoff1
  injection ha2 with ha2
  injection ha2 with ha2 hoff2
  subst ha1; subst ha2; subst hoff1; subst hoff2
  rw [Nat.zero_add] at hx0 hx1 hp0 hp1
  exact ⟨hx0, hx1, hp0, hp1⟩

theorem Bubble.move {w wr w5 : World} {g cap : Nat} {D : List (ByteArray × Nat)} {x : ByteArray × Nat} {pos : Nat} (h : Bubble w wr g cap D x pos) (hb : RowKit.Below wr.heap.size wr w5) : Bubble w w5 g cap D x pos :=
  ⟨h.le, OwnS.fr h.own (Fr.of_new (F := fun _ => False) hb) (fun _ _ hc => hc), h.less, h.below.trans (hb.mono h.below.size), h.base, Nat.lt_of_lt_of_le h.lt hb.size⟩

theorem bub_swap {D : List (ByteArray × Nat)} {x p : ByteArray × Nat} {q : Nat} (hp : D[q]? = some p) : ((D.take (q + 1) ++ x :: D.drop (q + 1)).set (q + 1) p).set q x = D.take q ++ x :: D.drop q := by
  obtain ⟨hq, he⟩ := List.getElem?_eq_some_iff.1 hp
  have h1 : D.take (q + 1) = D.take q ++ [p] := by rw [List.take_add_one, hp]; rfl
  have h2 : D.drop q = p :: D.drop (q + 1) := by rw [List.drop_eq_getElem_cons hq, he]
  have h3 : (D.take q).length = q := by simp; omega
  rw [h1, h2]
  generalize D.take q = A at h3 ⊢
  subst h3
  simp

theorem Bubble.front {w wr : World} {g cap : Nat} {D : List (ByteArray × Nat)} {x p : ByteArray × Nat} {q : Nat} (_h : Bubble w wr g cap D x (q + 1)) (hD : Asc D) (hnx : ∀ y ∈ D, y ≠ x)
    (hp : D[q]? = some p) (hab : ahead x p = false) : ∀ y ∈ D.take (q + 1), ahead y x = true := by
  have hpx : ahead p x = true := by
    cases h : ahead p x with
    | true => rfl
    | false => exact absurd (ahead_total h hab) (hnx p (List.mem_of_getElem? hp))
  have h1 : D.take (q + 1) = D.take q ++ [p] := by rw [List.take_add_one, hp]; rfl
  have hA : Asc (D.take (q + 1)) := hD.sublist (List.take_sublist _ _)
  intro y hy
  rw [h1] at hA hy
  unfold Asc at hA
  rw [List.pairwise_append] at hA
  rcases List.mem_append.1 hy with hy | hy
  · exact ahead_trans (hA.2.2 y hy p (by simp)) hpx
  · rw [List.mem_singleton] at hy
    rw [hy]
    exact hpx

theorem OwnS.one {e : TypeId} {base : Nat} {w : World} {b : Nat} {x : ByteArray × Nat} (h : OwnS encT 2 e base w (.slice (some ⟨b, 0, none⟩) 1 1) [x]) :
    w.cell? ⟨b, 0, none⟩ = some (.string x.1) ∧ w.cell? ⟨b, 0 + 1, none⟩ = some (.int .u64 x.2) := by
  obtain ⟨a, cap, hv, _, hc⟩ := (OwnS.at h).view
  obtain ⟨g, off, ha, h0, h1⟩ := hc 0 x rfl
  injection hv with e1 _ _
  rw [← e1] at ha
  injection ha with ha
  injection ha with ha hoff
  subst ha; subst hoff
  exact ⟨h0, h1⟩

theorem bubS_draw {g i j : Nat} {x p : ByteArray × Nat} {wr W : World}
    (h : W.cell? ⟨g, i, none⟩ = some (.string x.1) ∧ W.cell? ⟨g, i + 1, none⟩ = some (.int .u64 x.2) ∧ W.cell? ⟨g, j, none⟩ = some (.string p.1) ∧ W.cell? ⟨g, j + 1, none⟩ = some (.int .u64 p.2) ∧ RowKit.Below wr.heap.size wr W) :
    W.drew.cell? ⟨g, i, none⟩ = some (.string x.1) ∧ W.drew.cell? ⟨g, i + 1, none⟩ = some (.int .u64 x.2) ∧ W.drew.cell? ⟨g, j, none⟩ = some (.string p.1) ∧ W.drew.cell? ⟨g, j + 1, none⟩ = some (.int .u64 p.2) ∧ RowKit.Below wr.heap.size wr W.drew :=
  ⟨h.1, h.2.1, h.2.2.1, h.2.2.2.1, h.2.2.2.2.drew⟩
theorem bubS_below {g i j : Nat} {x p : ByteArray × Nat} {wr W W' : World}
    (h : W.cell? ⟨g, i, none⟩ = some (.string x.1) ∧ W.cell? ⟨g, i + 1, none⟩ = some (.int .u64 x.2) ∧ W.cell? ⟨g, j, none⟩ = some (.string p.1) ∧ W.cell? ⟨g, j + 1, none⟩ = some (.int .u64 p.2) ∧ RowKit.Below wr.heap.size wr W)
    (hg : g < wr.heap.size) (hb : RowKit.Below W.heap.size W W') :
    W'.cell? ⟨g, i, none⟩ = some (.string x.1) ∧ W'.cell? ⟨g, i + 1, none⟩ = some (.int .u64 x.2) ∧ W'.cell? ⟨g, j, none⟩ = some (.string p.1) ∧ W'.cell? ⟨g, j + 1, none⟩ = some (.int .u64 p.2) ∧ RowKit.Below wr.heap.size wr W' := by
  have hsz := h.2.2.2.2.size
  have hc : ∀ i, W'.cell? ⟨g, i, none⟩ = W.cell? ⟨g, i, none⟩ := fun i => (Fr.of_new hb (F := fun _ => False)).cell (show g < _ by omega) (fun x => x)
  exact ⟨(hc _).trans h.1, (hc _).trans h.2.1, (hc _).trans h.2.2.1, (hc _).trans h.2.2.2.1, h.2.2.2.2.trans (hb.mono (by omega))⟩

set_option maxRecDepth 100000 in
set_option maxHeartbeats 1000000 in
theorem ref_putL (w : World) (v : Value) (xs : List (ByteArray × Nat)) (x : ByteArray × Nat) (h : SlAt encT 2 45 w v xs) (hl : xs.length ≤ 1000000) (hasc : Asc xs) :
    Calls Try.prog 21 #[v, .agg #[.string x.1, .int .u64 x.2]] w fun e w' => ∃ v' l, e = .returned v' ∧ l.Perm (dropL xs x.1 ++ [x]) ∧ Asc l ∧ OwnE w.heap.size w' v' l ∧ RowKit.Below w.heap.size w w' := by
  have hb0 : ∀ o, RowKit.Below w.heap.size w (w.alloc o) := fun o => (RowKit.Below.refl _ w).alloc (Nat.le_refl _) _
  go_enter Try.func21, Try.ntmps21
  go_wp2
  obtain ⟨w1, hw1⟩ : ∃ w1, w1 = w.alloc (Obj.cells #[.string x.1, .int .u64 x.2] 45) := ⟨_, rfl⟩
  rw [← hw1]
  have hn1 : w.heap.size + 1 ≤ w1.heap.size := by rw [hw1]; simp
  have hS1 : w1.cell? ⟨w.heap.size, 0, none⟩ = some (.string x.1) ∧ w1.cell? ⟨w.heap.size, 1, none⟩ = some (.int .u64 x.2) ∧ RowKit.Below (w.heap.size + 1) w1 w1 :=
    ⟨by rw [hw1]; simp, by rw [hw1]; simp, RowKit.Below.refl _ _⟩
  have hB01 : RowKit.Below w.heap.size w w1 := by rw [hw1]; exact hb0 _
  have hrd : ∀ W, (W.cell? ⟨w.heap.size, 0, none⟩ = some (.string x.1) ∧ W.cell? ⟨w.heap.size, 1, none⟩ = some (.int .u64 x.2) ∧ RowKit.Below (w.heap.size + 1) w1 W) → SlAt encT 2 45 W v xs := fun W hW =>
    h.fr (F := fun k => w.heap.size ≤ k) (Fr.of_below (hB01.trans (hW.2.2.mono (by omega)))) (fun g hg hc => by have := h.lt hg; omega)
  have hdl : (dropL xs x.1).length ≤ 1000000 := Nat.le_trans (List.length_filter_le _ _) hl
  clear hw1 h hb0
  go_region_held3 (fun w' => w'.cell? ⟨w.heap.size, 0, none⟩ = some (.string x.1) ∧ w'.cell? ⟨w.heap.size, 1, none⟩ = some (.int .u64 x.2) ∧ RowKit.Below (w.heap.size + 1) w1 w')
    (first | exact putS_draw hS1 | exact putS_below (by assumption) hn1 (by assumption) | exact putS_below (by assumption) hn1 ((RowKit.Below.refl _ _).alloc (Nat.le_refl _) _) | exact putS_fr (by assumption) hn1 hf3 (fun k e => Nat.le_trans (by simp; omega) (OwnS.lt ho k e).1))
    (first
      | (go_at_call 23; refine (ref_dropL _ v xs x.1 (hrd _ (by assumption)) hl).mono ?_; rintro e w2 ⟨v', rfl, ho, hB⟩)
      | (refine step_append1 rfl _ _ _ rfl Try.underlying27 info_entry rfl (by omega) rfl (OwnS.alloc ho _) _ _ rfl x rfl (Go.MapKept.heap_alloc _ _).1 (encT_cells x) (by unfold maxLen; omega) (by omega) (by have := hB.size; simp at this ⊢; omega) ?_; intro v3 w3 ho3 hf3)
      | (refine step_append1 rfl _ _ _ rfl Try.underlying27 info_entry rfl (by omega) rfl ho _ _ rfl x rfl ((hB.block _ (by simp)).trans (Go.MapKept.heap_alloc _ _).1) (encT_cells x) (by unfold maxLen; omega) (by omega) hB.size ?_; intro v3 w3 ho3 hf3))
  all_goals
    rename_i hHeld
    have ho4 : OwnE w.heap.size w3 v3 (dropL xs x.1 ++ [x]) := OwnE.base ho3 (by have := hB01.size; simp; omega)
    have hB4 : RowKit.Below w.heap.size w w3 := hB01.trans (hHeld.2.2.mono (by omega))
    have hne4 : v3 ≠ .slice none 0 0 := fun e => by
      have := ho4.2
      rw [e] at this
      rcases this with ⟨_, h2⟩ | ⟨g, cap, cur, e2, _⟩
      · simp at h2
      · cases e2
    obtain ⟨g, cap, rfl, hbg, hgl, -⟩ := OwnS.holds encT_len ho4 hne4
    have hD : Asc (dropL xs x.1) := hasc.filter _
    have hnx : ∀ y ∈ dropL xs x.1, y ≠ x := fun y hy e => by
      have := (List.mem_filter.1 hy).2
      rw [e] at this
      simp at this
    have hll : (dropL xs x.1 ++ [x]).length = (dropL xs x.1).length + 1 := by simp
    rw [hll] at ho4
    rw [hll]
    obtain ⟨D, hDD⟩ : ∃ D, D = dropL xs x.1 := ⟨_, rfl⟩
    rw [← hDD] at ho4 hD hnx hdl
    rw [← hDD]
    have hbub : Bubble w w3 g cap D x D.length := ⟨Nat.le_refl _, by rw [List.take_length, List.drop_length]; exact ho4, (fun y hy => by rw [List.drop_length] at hy; cases hy), hB4, hbg, hgl⟩
    have HD := Lib.hid (And.intro hD (And.intro hnx hDD))
    clear hHeld ho4 hB4 hne4 hbg hgl hD hnx hf3 ho3 ho hB hrd hS1 hn1 hB01 hasc hDD hll
    go_wp2
    go_loopg [6] D.length (fun n u wr => u = .int .i64 n ∧ Bubble w wr g cap D x n)
    case atStart => exact ⟨rfl, hbub⟩
    case round =>
      obtain ⟨rfl, hb⟩ := hrel
      clear hbub
      cases gk with
      | zero =>
        have HF := Lib.hid (hb.done HD.out.1)
        clear hb
        go_wp2
        go_ret
        obtain ⟨h1, h2, h3⟩ := HF.out
        exact ⟨_, x :: D, rfl, by rw [← HD.out.2.2]; exact List.perm_append_comm (l₁ := [x]), h1, h2, h3⟩
      | succ q =>
        have hq : q < D.length := by have := hb.le; omega
        obtain ⟨p, hp⟩ : ∃ p, D[q]? = some p := ⟨_, List.getElem?_eq_getElem hq⟩
        obtain ⟨hx0, hx1, hp0, hp1⟩ := hb.cells hp
        have hgs := hb.lt
        have HE := Lib.hid (And.intro hb hp)
        clear hb hp
        have hS0 : wr.cell? ⟨g, (q + 1) * 2, none⟩ = some (.string x.1) ∧ wr.cell? ⟨g, (q + 1) * 2 + 1, none⟩ = some (.int .u64 x.2) ∧ wr.cell? ⟨g, q * 2, none⟩ = some (.string p.1) ∧ wr.cell? ⟨g, q * 2 + 1, none⟩ = some (.int .u64 p.2) ∧ RowKit.Below wr.heap.size wr wr :=
          ⟨hx0, hx1, hp0, hp1, RowKit.Below.refl _ _⟩
        have hi0 : (q : Int) < (D.length : Int) := by omega
        have hi1 : (0 : Int) ≤ (q : Int) + 1 := by omega
        have hi2 : (q : Int) + 1 < (D.length : Int) + 1 := by omega
        have hi3 : (q : Int) < (D.length : Int) + 1 := by omega
        have hi4 : ((q : Int) + 1).toNat = q + 1 := by omega
        have hi5 : IntKind.i64.wrap (q : Int) = q := by
          unfold IntKind.wrap
          simp [IntKind.bits, IntKind.signed]
          omega
        go_wp2
        go_region_held3 (fun w' => w'.cell? ⟨g, (q + 1) * 2, none⟩ = some (.string x.1) ∧ w'.cell? ⟨g, (q + 1) * 2 + 1, none⟩ = some (.int .u64 x.2) ∧ w'.cell? ⟨g, q * 2, none⟩ = some (.string p.1) ∧ w'.cell? ⟨g, q * 2 + 1, none⟩ = some (.int .u64 p.2) ∧ RowKit.Below wr.heap.size wr w')
          (first | exact bubS_draw hS0 | exact bubS_below (by assumption) hgs hBA)
          (first
            | (go_at_call 33; refine (ref_ahead _ x p).mono ?_; rintro e w5 ⟨rfl, hBA⟩))
        all_goals
          rename_i hHeld
          obtain ⟨hx0, hx1, hp0, hp1, hBw⟩ := hHeld
          have hb5 := HE.out.1.move hBw
          have hown := hb5.own
          rw [← hb5.len] at hown
          have hlen5 := hb5.len
          have HHb := Lib.hid hb5
          have hbase := hb5.base
          have hlt5 := hb5.lt
          clear hS0 hBA hBw hb5 hgs
          by_cases ha : ahead x p = true
          · go_wp2_with (with_reducible refine wpl_load_stop rfl 45 _ rfl ?_)
            refine At.go (wpl_load_agg rfl 45 _ rfl g ((q + 1) * 2) rfl [.string x.1, .int .u64 x.2] Try.underlying45 rfl (by kernel_rfl) (two_cells hx0 hx1) ?_)
            go_wp2_with (with_reducible refine wpl_store_stop rfl 45 _ _ rfl ?_)
            have hbox : OwnS encT 2 45 w5.heap.size (w5.alloc (Obj.cells #[Value.string { data := #[] }, Value.int IntKind.u64 0] 45)) (.slice (some ⟨w5.heap.size, 0, none⟩) [((⟨#[]⟩ : ByteArray), 0)].length 1) [((⟨#[]⟩ : ByteArray), 0)] :=
              ⟨rfl, .inr ⟨w5.heap.size, 1, _, rfl, Nat.le_refl _, (Go.MapKept.heap_alloc w5 _).1, by simp, by unfold maxLen; omega, rfl, rfl⟩⟩
            refine At.go (wpl_store_elem rfl 45 _ _ rfl encT_len hbox (i := 0) (by simp) x rfl rfl (by kernel_rfl) (encT_cells x) ?_)
            intro w6 hbox6 hf6
            have hfa : Fr (· = w5.heap.size) w5 w6 := ((Fr.refl _ w5).alloc _).trans hf6
            have hown6 := OwnS.fr hown hfa (fun g' e => by cases e; exact Nat.ne_of_lt hlt5)
            have hp60 := (hfa.cell (p := ⟨g, q * 2, none⟩) hlt5 (show ¬ g = w5.heap.size by omega)).trans hp0
            have hp61 := (hfa.cell (p := ⟨g, q * 2 + 1, none⟩) hlt5 (show ¬ g = w5.heap.size by omega)).trans hp1
            have hsz6 := hfa.size
            clear hbox hf6 hx0 hx1 hp0 hp1 hown
            go_wp2_with (with_reducible refine wpl_load_stop rfl 45 _ rfl ?_)
            refine At.go (wpl_load_agg rfl 45 _ rfl g (q * 2) rfl [.string p.1, .int .u64 p.2] Try.underlying45 rfl (by kernel_rfl) (two_cells hp60 hp61) ?_)
            go_wp2_with (with_reducible refine wpl_store_stop rfl 45 _ _ rfl ?_)
            refine At.go (wpl_store_elem rfl 45 _ _ rfl encT_len hown6 (i := q + 1) (by omega) p rfl rfl (by kernel_rfl) (encT_cells p) ?_)
            intro w7 hown7 hf7
            obtain ⟨hb70, hb71⟩ := (OwnS.fr hbox6 hf7 (fun g' e => by cases e; exact Nat.ne_of_gt hlt5)).one
            clear hbox6 hp60 hp61 hown6
            go_wp2_with (with_reducible refine wpl_load_stop rfl 45 _ rfl ?_)
            refine At.go (wpl_load_agg rfl 45 _ rfl w5.heap.size 0 rfl [.string x.1, .int .u64 x.2] Try.underlying45 rfl (by kernel_rfl) (two_cells hb70 hb71) ?_)
            go_wp2_with (with_reducible refine wpl_store_stop rfl 45 _ _ rfl ?_)
            have hl7 : (List.set (D.take (q + 1) ++ x :: D.drop (q + 1)) (q + 1) p).length = (D.take (q + 1) ++ x :: D.drop (q + 1)).length := List.length_set
            rw [← hl7] at hown7
            refine At.go (wpl_store_elem rfl 45 _ _ rfl encT_len hown7 (i := q) (by omega) x rfl rfl (by kernel_rfl) (encT_cells x) ?_)
            intro w8 hown8 hf8
            have HN := Lib.hid (show Bubble w w8 g cap D x q by
              rw [bub_swap HE.out.2, hl7, hlen5] at hown8
              have hb5 := HHb.out
              refine ⟨by omega, hown8, ?_, ?_, hbase, ?_⟩
              · intro y hy
                obtain ⟨hq', he⟩ := List.getElem?_eq_some_iff.1 HE.out.2
                rw [List.drop_eq_getElem_cons hq', he] at hy
                rcases List.mem_cons.1 hy with rfl | hy
                · exact ha
                · exact hb5.less y hy
              · have h1 := hb5.below.size
                exact hb5.below.trans (((hfa.below (fun k hk e => by omega) h1).trans (hf7.below (fun k hk e => by omega) (by omega))).trans (hf8.below (fun k hk e => by omega) (by have := hf7.size; omega)))
              · have := hf7.size
                have := hf8.size
                omega)
            clear hown8 hf8 hown7 hf7 hb70 hb71 hl7 hfa
            go_wp2
            go_roundg q
            case measure => omega
            case rel => exact ⟨by go_num, HN.out⟩
          · have hab : ahead x p = false := by simpa using ha
            have HF := Lib.hid (HHb.out.stop HD.out.1 (HHb.out.front HD.out.1 HD.out.2.1 HE.out.2 hab))
            rw [hlen5] at hown
            have HO := Lib.hid (And.intro hown HHb.out.below)
            clear hown hx0 hx1 hp0 hp1
            go_wp2
            go_ret
            exact ⟨_, _, rfl, by rw [← HD.out.2.2]; exact HF.out.1, HF.out.2, HO.out.1, HO.out.2⟩
end Go.Proofs.Ytfjmdblfokjnmaa
