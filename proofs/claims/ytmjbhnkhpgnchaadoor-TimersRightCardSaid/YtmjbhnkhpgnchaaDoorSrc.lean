/-
  'append(s, x...)', s an own slice, x a slice (nil too) or a string.
-/
import Derived.Test.YtmjbhnkhpgnchaaDoorRd
import Derived.Deep.AppendSrc
namespace Go.Proofs.YtmjbhnkhpgnchaaDoor
open Go Go.RowKit
section
variable {P : Program} (w : World)

theorem run_append_src (base : Nat) (t tx ty e : TypeId) (i : TypeInfo) (z : Value) (size bytes : Nat) (ht : P.underlying t = some (.slice e)) (hi : P.info? e = some i) (hz : i.zero = some z)
    (hsize : i.size = size) (hby : i.bytes = bytes) (hzs : z.cells.size = size)
    (v : Value) (n : Nat) (xs : List Value) (hown : w.ownsRow base e size v n xs) (x : Value) (m : Nat) (news : List Value) (hs : Src P size tx x m news w)
    (h63 : n + m ≤ maxLen) (hbytes : (n + m) * bytes ≤ 140737488355328) (hbase : base ≤ w.heap.size) :
    ∃ v' w', (Builtin.append_ #[t, tx] ty #[v, x]).run P w = .ok v' w' ∧ w'.ownsRow base e size v' (n + m) (xs ++ news) ∧ w.grownBy w' v.ownBlock ∧ (v'.ownBlock = v.ownBlock ∨ v'.ownBlock = some w.heap.size) := by
  subst hsize
  subst hby
  have hl := hs.newsLen
  have hsmall : n + m ≤ 9223372036854775807 := by simp only [maxLen] at h63; omega
  have hlen : (xs ++ news).length = (n + m) * i.size := by rw [List.length_append, hown.1, hl, Nat.add_mul]
  have grown : ∀ (old : Nat), old < n + m → ∀ (row : Option Nat),
      (w.drew.alloc (.cells ((xs ++ news).toArray ++ Builtin.zeroCells z.cells (grownCap w (n + m) old e - (n + m))) e)).ownsRow base e i.size
        (.slice (some ⟨w.heap.size, 0, none⟩) (n + m) (grownCap w (n + m) old e)) (n + m) (xs ++ news) ∧
      w.grownBy (w.drew.alloc (.cells ((xs ++ news).toArray ++ Builtin.zeroCells z.cells (grownCap w (n + m) old e - (n + m))) e)) row := by
    intro old ho row
    have hge := grownCap_ge w (n + m) old e
    have hcm : grownCap w (n + m) old e ≤ maxLen := grownCap_le_maxLen w (n + m) old e h63
    refine ⟨⟨hlen, .inr ⟨w.heap.size, _, _, rfl, hbase, heap_alloc_new w.drew _, hge, hcm, ?_, ?_⟩⟩, ⟨rfl, rfl, rfl, by simp, fun k hk _ => Below.heap_alloc w.drew _ k hk⟩⟩
    · simp only [Array.size_append, List.size_toArray, size_zeroCells, hzs, hlen, ← Nat.add_mul]
      congr 1
      omega
    · simp only [Array.toList_append]
      rw [← hlen]
      exact List.take_left
  rcases hown.2 with ⟨rfl, rfl⟩ | ⟨g, cap, cur, rfl, hbg, hg, hnc, hcm, hcs, htake⟩
  · have hx : xs = [] := List.eq_nil_of_length_eq_zero (by simpa using hown.1)
    subst hx
    by_cases hm : m = 0
    · subst hm
      have hn : news = [] := List.eq_nil_of_length_eq_zero (by simpa using hl)
      subst hn
      refine ⟨.slice none 0 0, w, ?_, World.ownsRow_nil w base e i.size, ⟨rfl, rfl, rfl, Nat.le_refl _, fun _ _ _ => rfl⟩, Or.inl rfl⟩
      rcases hs.kind with ⟨e', hk⟩ | hk <;> simp [Builtin.append_, run_underlying ht, run_underlying hk, sizeOf, typeInfo, hi, hs.len, hs.cells]
    · have hr := run_append_grow_src (P := P) w t tx ty e i z ht hi hz none 0 0 [] (run_firstCells_none w.drew i.size 0 0 0) x m news hs (by omega) (by omega) (growslice_fits (by omega) hbytes)
      have hgr := grown 0 (by omega) (Value.ownBlock (.slice none 0 0))
      simp only [Nat.zero_add, List.nil_append] at hgr hr ⊢
      exact ⟨_, _, hr, hgr.1, hgr.2, Or.inr rfl⟩
  · by_cases hroom : n + m ≤ cap
    · have hfit : n * i.size + news.length ≤ cur.size := by rw [hl, hcs, ← Nat.add_mul]; exact Nat.mul_le_mul_right _ hroom
      have hr := run_append_room_src (P := P) w t tx ty e i ht hi g 0 n cap x m news hs hroom (by
        intro j hj
        simp only [World.cell?, hg, Option.isSome_none, Bool.false_eq_true, if_false, Nat.zero_add]
        rw [Array.getElem?_eq_getElem (by omega)]
        rfl) (by intro j hj; simp [World.frozen?, hg])
      rw [Nat.zero_add] at hr
      refine ⟨_, _, hr, ⟨hlen, .inr ⟨g, cap, setMany cur (n * i.size) news, rfl, hbg, heap_setCells g news _ w cur hg, hroom, hcm, by rw [setMany_size]; exact hcs, ?_⟩⟩, ?_, Or.inl rfl⟩
      · apply List.ext_getElem?
        intro t'
        rw [List.getElem?_take, Array.getElem?_toList]
        by_cases htl : t' < (n + m) * i.size
        · rw [if_pos htl, setMany_get _ _ _ _ (by
            rw [hcs]
            exact Nat.lt_of_lt_of_le htl (Nat.mul_le_mul_right _ hroom))]
          by_cases h1 : t' < n * i.size
          · rw [if_neg (by omega), List.getElem?_append_left (by rw [hown.1]; exact h1), ← htake, List.getElem?_take, if_pos h1, Array.getElem?_toList]
          · rw [if_pos (by rw [hl]; rw [Nat.add_mul] at htl; omega), List.getElem?_append_right (by rw [hown.1]; omega), hown.1]
        · rw [if_neg htl, List.getElem?_eq_none (by rw [hlen]; omega)]
      · have hf := fr_setCells g news (n * i.size) w w (Fr.refl _ w)
        exact ⟨hf.os, hf.tape, hf.output, hf.size, fun k hk hne => hf.block k hk (fun e => hne (by rw [e]; rfl))⟩
    · have holds : ∀ j u, xs[j]? = some u → w.drew.cell? ((⟨g, 0, none⟩ : Addr).add j) = some u := fun j u hu => hown.cells (g := g) rfl j u hu
      have hr := run_append_grow_src (P := P) w t tx ty e i z ht hi hz (some ⟨g, 0, none⟩) n cap xs (run_firstCells_some w.drew i.size n ⟨g, 0, none⟩ n cap xs hown.1 holds) x m news hs (by omega) (by omega) (growslice_fits (by omega) hbytes)
      have hgr := grown cap (by omega) (Value.ownBlock (.slice (some ⟨g, 0, none⟩) n cap))
      exact ⟨_, _, hr, hgr.1, hgr.2, Or.inr rfl⟩
end

section
variable {α : Type} {enc : α → List Value} {k : Nat} {w : World} {base : Nat} {e : TypeId} {v u : Value} {xs ys : List α} {P : Program}
  {ops : Array Oper} {rest : List Oper} {o : Oper} {a : Act} {K : Act → World → Prop} {Q : Exit → Act → World → Prop} {E : Prop}

/-- a slice, nil or not, as a source -/
theorem RdS.src {t : TypeId} (hr : RdS enc k w u xs) (hek : ∀ x, (enc x).length = k) (ht : P.underlying t = some (.slice e)) (h1 : ∀ u ∈ xs.flatMap enc, u.oneCell' = true) : Src P k t u xs.length (xs.flatMap enc) w := by
  obtain ⟨a, cap, hv, hc, hcell⟩ := id hr
  cases a with
  | none =>
    have hxs : xs = [] := by
      cases xs with
      | nil => rfl
      | cons x t => obtain ⟨g, off, ha, _⟩ := hcell 0 x rfl; cases ha
    subst hxs
    subst hv
    exact Src.ofNil w ht cap
  | some ad =>
    have hn := hr.news hek hv
    subst hv
    exact Src.ofSlice w ht ad xs.length cap _ (length_flatMap hek xs) hn h1

/-- in a plain region -/
theorem wpl_appendSrc (hg : o.guard = none) (s x : Operand) (t tx : TypeId) (hop : o.op = .call { callee := .builtin .append, args := #[s, x], argTypes := #[t, tx] })
    (ht : P.underlying t = some (.slice e)) {z : Value} {bytes : Nat} (hinfo : (P.info? e).map (fun i => (i.zero, i.size, i.bytes)) = some (some z, k, bytes)) (hzs : z.cells.size = k)
    (hv : a.eval s = v) (h : OwnS enc k e base w v ys) (hx : a.eval x = u) (hr : Src P k tx u xs.length (xs.flatMap enc) w)
    (h63 : ys.length + xs.length ≤ maxLen) (hbytes : (ys.length + xs.length) * bytes ≤ 140737488355328) (hbase : base ≤ w.heap.size)
    (hK : ∀ v' w', OwnS enc k e base w' v' (ys ++ xs) → Fr (fun g => v.ownBlock = some g) w w' → Lies w v v' → wpList P ops Q rest (a.put o.dst v') w') : wpList P ops Q (o :: rest) a w := by
  obtain ⟨i0, hi, hz0, hz1, hz2⟩ := info_parts hinfo
  refine wpList_plain hg fun K' hK' => ?_
  obtain ⟨v', w', hrun, ho, hgr, hat⟩ := run_append_src (P := P) w base t tx o.type e i0 z k bytes ht hi hz0 hz1 hz2 hzs v ys.length (ys.flatMap enc) h u xs.length (xs.flatMap enc) hr h63 hbytes hbase
  unfold Oper.wp execOp
  simp only [hop, resolve, invoke, builtin, Sem.run_bind, Sem.run_pure, Result.andThen_ok, List.map_toArray, List.map_cons, List.map_nil, hv, hx, hrun]
  refine hK' _ _ (hK v' w' ?_ ((Fr.of_grown hgr).mono fun k _ e => e) ?_)
  · unfold OwnS
    rw [List.length_append, List.flatMap_append]
    exact ho
  · intro g hg
    rcases hat with h | h
    · exact .inl (by rw [← h]; exact hg)
    · rw [h] at hg
      exact .inr (by rw [← Option.some.inj hg]; exact Nat.le_refl _)

/-- in a region that draws -/
theorem step_appendSrc (hg : o.guard = none) (s x : Operand) (t tx : TypeId) (hop : o.op = .call { callee := .builtin .append, args := #[s, x], argTypes := #[t, tx] })
    (ht : P.underlying t = some (.slice e)) {z : Value} {bytes : Nat} (hinfo : (P.info? e).map (fun i => (i.zero, i.size, i.bytes)) = some (some z, k, bytes)) (hzs : z.cells.size = k)
    (hv : a.eval s = v) (h : OwnS enc k e base w v ys) (hx : a.eval x = u) (hr : Src P k tx u xs.length (xs.flatMap enc) w)
    (h63 : ys.length + xs.length ≤ maxLen) (hbytes : (ys.length + xs.length) * bytes ≤ 140737488355328) (hbase : base ≤ w.heap.size)
    (hK : ∀ v' w', OwnS enc k e base w' v' (ys ++ xs) → Fr (fun g => v.ownBlock = some g) w w' → Lies w v v' → K (a.put o.dst v') w') : if Region.wanted o (yielded ops a.tmps) = true then Oper.wp P o a w K Q else E := by
  obtain ⟨i0, hi, hz0, hz1, hz2⟩ := info_parts hinfo
  have hw : Region.wanted o (yielded ops a.tmps) = true := by simp [Region.wanted, hg]
  rw [if_pos hw]
  obtain ⟨v', w', hrun, ho, hgr, hat⟩ := run_append_src (P := P) w base t tx o.type e i0 z k bytes ht hi hz0 hz1 hz2 hzs v ys.length (ys.flatMap enc) h u xs.length (xs.flatMap enc) hr h63 hbytes hbase
  unfold Oper.wp execOp
  simp only [hop, resolve, invoke, builtin, Sem.run_bind, Sem.run_pure, Result.andThen_ok, List.map_toArray, List.map_cons, List.map_nil, hv, hx, hrun]
  refine hK v' w' ?_ ((Fr.of_grown hgr).mono fun k _ e => e) ?_
  · unfold OwnS
    rw [List.length_append, List.flatMap_append]
    exact ho
  · intro g hg
    rcases hat with h | h
    · exact .inl (by rw [← h]; exact hg)
    · rw [h] at hg
      exact .inr (by rw [← Option.some.inj hg]; exact Nat.le_refl _)
end
end Go.Proofs.YtmjbhnkhpgnchaaDoor
