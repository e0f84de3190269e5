/-
  The machine's map operations over maps that are read as lists of pairs: as runs, and at the operation, for the walk.
-/
import Derived.Test.YtmjbhnkhpgnchaaDoorBase
import Derived.Maps.RangeRun
namespace Go.Proofs.YtmjbhnkhpgnchaaDoor
open Go Go.RowKit
open Go.ChangeMaps (setBlock)
section
variable {P : Program} {κ υ : Type} [DecidableEq κ] {ek : κ → Value} {ev : υ → Value} {w w' : World} {r : Nat} {L : List (κ × υ)} {T kt et : TypeId}

theorem run_update (ht : P.underlying T = some (.map kt et)) (K : KeyTy P kt ek) (h : IsMap ek ev w r L) (k : κ) (v : υ) :
    ∃ w', (Instr.mapUpdate T (.map (some r)) (ek k) (ev v)).run P w = .ok () w' ∧ Fr (· = r) w w' ∧ w'.heap.size = w.heap.size ∧ IsMap ek ev w' r (aput L k v) := by
  obtain ⟨es, clock, hb, hm, hn, hbn, hbl⟩ := h
  have hlt : r < w.heap.size := (Array.getElem?_eq_some_iff.1 hb).1
  have hfk := run_findKey K hm k w
  have hck := K.check false 9999 w k
  cases hl : lookIdx ev L k 0 with
  | none =>
    refine ⟨setBlock w r (.map (es.push { key := ek k, val := ev v, born := clock }) (clock + 1)), ?_, fr_setBlock _ _ _, setBlock_size _ _ _, ?_⟩
    · simp only [Instr.mapUpdate, Sem.run_bind, run_underlying ht, Result.andThen, getObj, Sem.run, hb, hck, hfk, hl]
      exact run_setObj_map hb _
    · refine ⟨_, _, setBlock_same w hlt _, ?_, nodup_aput hn, ?_, ?_⟩
      · rw [aput_new ((lookIdx_none L 0).1 hl)]
        simp [hm]
      · simp only [Array.toList_push, List.map_append, List.map_cons, List.map_nil, List.nodup_append, List.nodup_cons, List.not_mem_nil, not_false_eq_true, List.nodup_nil, and_self, List.mem_singleton, true_and]
        refine ⟨hbn, ?_⟩
        intro a ha b hb'
        subst hb'
        obtain ⟨e, he, rfl⟩ := List.mem_map.1 ha
        exact Nat.ne_of_lt (hbl e he)
      · intro e he
        simp only [Array.toList_push, List.mem_append, List.mem_singleton] at he
        rcases he with he | rfl
        · exact Nat.lt_succ_of_lt (hbl e he)
        · exact Nat.lt_succ_self _
  | some q =>
    obtain ⟨j, x⟩ := q
    obtain ⟨n, u, hj, hnl, hag, hx, hput, hdel, hkn⟩ := lookIdx_some L 0 j x hl
    have hjn : j = n := by omega
    subst hjn
    have hsz : es.size = L.length := by have := congrArg List.length hm; simpa using this
    have hes : ∃ e, es[j]? = some e ∧ e.key = ek k ∧ e.val = ev u := by
      have h1 : j < es.size := by omega
      refine ⟨es[j], by simp [h1], ?_⟩
      have h2 := congrArg (·[j]?) hm
      simp only [List.getElem?_map, Array.getElem?_toList] at h2
      have h3 : L[j]? = some L[j] := by simp [hnl]
      have h4 : (L[j]).1 = k := by
        have := hkn
        simp only [List.getElem?_map, h3, Option.map_some, Option.some.injEq] at this
        exact this
      rw [h3] at h2
      simp only [Array.getElem?_eq_getElem h1, Option.map_some, Option.some.injEq, Prod.mk.injEq] at h2
      refine ⟨by rw [h2.1, h4], ?_⟩
      have h5 : aget L k = some (L[j]).2 := (aget_mem hn).2 (by rw [← h4]; exact List.getElem_mem hnl)
      rw [hag] at h5
      rw [h2.2, Option.some.inj h5]
    obtain ⟨e0, he0, hek, hev⟩ := hes
    refine ⟨setBlock w r (.map (es.modify j fun e => { e with key := ek k, val := ev v }) clock), ?_, fr_setBlock _ _ _, setBlock_size _ _ _, ?_⟩
    · have hst : (Instr.keyThatStays (((es[j]?).map (·.key)).getD (ek k)) (ek k)).run P w = .ok (ek k) w := by
        simp only [he0, Option.map_some, Option.getD_some, hek, Instr.keyThatStays, K.bits, if_true]
        rfl
      simp only [Instr.mapUpdate, Sem.run_bind, run_underlying ht, Result.andThen, getObj, Sem.run, hb, hck, hfk, hl, hst]
      exact run_setObj_map hb _
    · refine ⟨_, _, setBlock_same w hlt _, ?_, nodup_aput hn, ?_, ?_⟩
      · rw [hput]
        apply List.ext_getElem?
        intro i
        have h2 := congrArg (·[i]?) hm
        simp only [List.getElem?_map, Array.getElem?_toList] at h2
        simp only [List.getElem?_map, Array.getElem?_toList, Array.getElem?_modify, List.getElem?_set]
        by_cases hij : j = i
        · subst hij
          simp [he0, hnl]
        · simp [hij, h2]
      · have : (es.modify j fun e => { e with key := ek k, val := ev v }).toList.map (·.born) = es.toList.map (·.born) := by
          apply List.ext_getElem?
          intro i
          simp only [List.getElem?_map, Array.getElem?_toList, Array.getElem?_modify]
          by_cases hij : j = i
          · subst hij; simp [he0]
          · simp [hij]
        rw [this]; exact hbn
      · intro e he
        have : e.born ∈ (es.modify j fun e => { e with key := ek k, val := ev v }).toList.map (·.born) := List.mem_map_of_mem he
        have h3 : (es.modify j fun e => { e with key := ek k, val := ev v }).toList.map (·.born) = es.toList.map (·.born) := by
          apply List.ext_getElem?
          intro i
          simp only [List.getElem?_map, Array.getElem?_toList, Array.getElem?_modify]
          by_cases hij : j = i
          · subst hij; simp [he0]
          · simp [hij]
        rw [h3] at this
        obtain ⟨e', he', hb'⟩ := List.mem_map.1 this
        rw [← hb']; exact hbl e' he'

theorem run_lookup_ok (ht : P.underlying T = some (.map kt et)) (K : KeyTy P kt ek) (h : IsMap ek ev w r L) (z : Value) (hz : (zeroValue et).run P w = .ok z w) (k : κ) :
    (Instr.lookup T (.map (some r)) (ek k) true).run P w = .ok (.tuple #[((aget L k).map ev).getD z, .bool (aget L k).isSome]) w := by
  obtain ⟨es, clock, hb, hm, hn, hbn, hbl⟩ := h
  have hfk := run_findKey K hm k w
  have hck := K.check es.isEmpty 9999 w k
  cases hl : lookIdx ev L k 0 with
  | none =>
    have := aget_none.2 ((lookIdx_none L 0).1 hl)
    simp [Instr.lookup, run_underlying ht, Result.andThen, getObj, Sem.run, hb, hck, hfk, hl, this, hz]
  | some q =>
    obtain ⟨j, x⟩ := q
    obtain ⟨n, u, hj, hnl, hag, hx, hput, hdel, hkn⟩ := lookIdx_some L 0 j x hl
    simp [Instr.lookup, run_underlying ht, Result.andThen, getObj, Sem.run, hb, hck, hfk, hl, hag, hx]

theorem run_lookup_one (ht : P.underlying T = some (.map kt et)) (K : KeyTy P kt ek) (h : IsMap ek ev w r L) (z : Value) (hz : (zeroValue et).run P w = .ok z w) (k : κ) :
    (Instr.lookup T (.map (some r)) (ek k) false).run P w = .ok (((aget L k).map ev).getD z) w := by
  obtain ⟨es, clock, hb, hm, hn, hbn, hbl⟩ := h
  have hfk := run_findKey K hm k w
  have hck := K.check es.isEmpty 9999 w k
  cases hl : lookIdx ev L k 0 with
  | none =>
    have := aget_none.2 ((lookIdx_none L 0).1 hl)
    simp [Instr.lookup, run_underlying ht, Result.andThen, getObj, Sem.run, hb, hck, hfk, hl, this, hz]
  | some q =>
    obtain ⟨j, x⟩ := q
    obtain ⟨n, u, hj, hnl, hag, hx, hput, hdel, hkn⟩ := lookIdx_some L 0 j x hl
    simp [Instr.lookup, run_underlying ht, Result.andThen, getObj, Sem.run, hb, hck, hfk, hl, hag, hx]

theorem run_delete (ht : P.underlying T = some (.map kt et)) (K : KeyTy P kt ek) (h : IsMap ek ev w r L) (k : κ) (ty : TypeId) :
    ∃ w', (Builtin.delete_ #[T, kt] ty #[.map (some r), ek k]).run P w = .ok (.tuple #[]) w' ∧ Fr (· = r) w w' ∧ w'.heap.size = w.heap.size ∧ IsMap ek ev w' r (adel L k) := by
  obtain ⟨es, clock, hb, hm, hn, hbn, hbl⟩ := h
  have hlt : r < w.heap.size := (Array.getElem?_eq_some_iff.1 hb).1
  have hfk := run_findKey K hm k w
  have hck := K.check es.isEmpty 9999 w k
  cases hl : lookIdx ev L k 0 with
  | none =>
    refine ⟨setBlock w r (.map es clock), ?_, fr_setBlock _ _ _, setBlock_size _ _ _, ?_⟩
    · have hs := run_setObj_map (P := P) hb (.map es clock)
      simp [Builtin.delete_, run_underlying ht, Result.andThen, getObj, Sem.run, hb, hck, hfk, hl, hs]
    · refine ⟨_, _, setBlock_same w hlt _, ?_, nodup_adel hn, hbn, hbl⟩
      rw [adel_none ((lookIdx_none L 0).1 hl)]
      exact hm
  | some q =>
    obtain ⟨j, x⟩ := q
    obtain ⟨n, u, hj, hnl, hag, hx, hput, hdel, hkn⟩ := lookIdx_some L 0 j x hl
    have hjn : j = n := by omega
    subst hjn
    refine ⟨setBlock w r (.map (es.eraseIdxIfInBounds j) clock), ?_, fr_setBlock _ _ _, setBlock_size _ _ _, ?_⟩
    · have hs := run_setObj_map (P := P) hb (.map (es.eraseIdxIfInBounds j) clock)
      simp [Builtin.delete_, run_underlying ht, Result.andThen, getObj, Sem.run, hb, hck, hfk, hl, hs]
    · have hsz : es.size = L.length := by have := congrArg List.length hm; simpa using this
      have hto : (es.eraseIdxIfInBounds j).toList = es.toList.eraseIdx j := by
        simp [Array.eraseIdxIfInBounds, hsz, hnl]
      refine ⟨_, _, setBlock_same w hlt _, ?_, nodup_adel hn, ?_, ?_⟩
      · rw [hto, hdel, map_eraseIdx, hm, map_eraseIdx]
      · rw [hto, map_eraseIdx]
        exact hbn.sublist (List.eraseIdx_sublist _ _)
      · intro e he
        rw [hto] at he
        exact hbl e ((List.eraseIdx_sublist _ _).mem he)

omit [DecidableEq κ] in
theorem run_clear (ht : P.underlying T = some (.map kt et)) (h : IsMap ek ev w r L) (ty : TypeId) :
    ∃ w', (Builtin.clear_ #[T] ty #[.map (some r)]).run P w = .ok (.tuple #[]) w' ∧ Fr (· = r) w w' ∧ w'.heap.size = w.heap.size ∧ IsMap ek ev w' r ([] : List (κ × υ)) := by
  obtain ⟨es, clock, hb, hm, hn, hbn, hbl⟩ := h
  have hlt : r < w.heap.size := (Array.getElem?_eq_some_iff.1 hb).1
  refine ⟨setBlock w r (.map #[] clock), ?_, fr_setBlock _ _ _, setBlock_size _ _ _, ?_⟩
  · have hs := run_setObj_map (P := P) hb (.map #[] clock)
    simp [Builtin.clear_, run_underlying ht, Result.andThen, getObj, Sem.run, hb, hs]
  · exact ⟨#[], clock, setBlock_same w hlt _, by simp, by simp, by simp, by simp⟩

omit [DecidableEq κ] in
theorem run_len_map (ht : P.underlying T = some (.map kt et)) (h : IsMap ek ev w r L) (ty : TypeId) :
    (Builtin.len_ #[T] ty #[.map (some r)]).run P w = .ok (.int .i64 L.length) w := by
  obtain ⟨es, clock, hb, hsz⟩ := h.length
  simp [Builtin.len_, run_underlying ht, Result.andThen, getObj, Sem.run, hb, hsz, goInt]

/-! the range over a map that is not written meanwhile -/

/-- Block it is an iterator over the map in block r, which holds L; left: what is still to come. -/
def IterAt (ek : κ → Value) (ev : υ → Value) (w : World) (it r : Nat) (L left : List (κ × υ)) : Prop :=
  ∃ es clock seen, w.heap[r]? = some (.map es clock) ∧ es.toList.map (fun e => (e.key, e.val)) = L.map (fun p => (ek p.1, ev p.2)) ∧
    (keys L).Nodup ∧ (es.toList.map (·.born)).Nodup ∧ (∀ e ∈ es.toList, e.born < clock) ∧
    w.heap[it]? = some (.mapIter (some r) clock seen clock) ∧
    (es.toList.filter fun e => !seen.contains e.born).map (fun e => (e.key, e.val)) = left.map (fun p => (ek p.1, ev p.2))

omit [DecidableEq κ] in
theorem IterAt.isMap {it : Nat} {left : List (κ × υ)} (h : IterAt ek ev w it r L left) : IsMap ek ev w r L := by
  obtain ⟨es, clock, seen, h1, h2, h3, h4, h5, _⟩ := h
  exact ⟨es, clock, h1, h2, h3, h4, h5⟩

omit [DecidableEq κ] in
theorem IterAt.lt {it : Nat} {left : List (κ × υ)} (h : IterAt ek ev w it r L left) : it < w.heap.size := by
  obtain ⟨es, clock, seen, h1, h2, h3, h4, h5, h6, _⟩ := h
  exact (Array.getElem?_eq_some_iff.1 h6).1

omit [DecidableEq κ] in
theorem IterAt.of_block {it : Nat} {left : List (κ × υ)} (h : IterAt ek ev w it r L left) (hr : w'.heap[r]? = w.heap[r]?) (hi : w'.heap[it]? = w.heap[it]?) : IterAt ek ev w' it r L left := by
  obtain ⟨es, clock, seen, h1, h2, h3, h4, h5, h6, h7⟩ := h
  exact ⟨es, clock, seen, hr.trans h1, h2, h3, h4, h5, hi.trans h6, h7⟩

omit [DecidableEq κ] in
theorem IterAt.fr {F : Nat → Prop} {it : Nat} {left : List (κ × υ)} (h : IterAt ek ev w it r L left) (hf : Fr F w w') (hr : ¬ F r) (hi : ¬ F it) : IterAt ek ev w' it r L left :=
  h.of_block (hf.block r h.isMap.lt hr) (hf.block it h.lt hi)

omit [DecidableEq κ] in
theorem run_range_map (ht : P.underlying T = some (.map kt et)) (h : IsMap ek ev w r L) :
    ∃ o, (Instr.range T (.map (some r))).run P w = .ok (.pointer (some ⟨w.heap.size, 0, none⟩)) (w.alloc o) ∧ IterAt ek ev (w.alloc o) w.heap.size r L L := by
  have hlt := h.lt
  obtain ⟨es, clock, hb, hm, hn, hbn, hbl⟩ := h
  refine ⟨.mapIter (some r) clock #[] clock, ?_, ?_⟩
  · simp [Instr.range, run_underlying ht, Result.andThen, getObj, Sem.run, hb]
  · refine ⟨es, clock, #[], (Below.heap_alloc w _ r hlt).trans hb, hm, hn, hbn, hbl, (Go.MapKept.heap_alloc w _).1, ?_⟩
    have : es.toList.filter (fun e => !(#[] : Array Nat).contains e.born) = es.toList := List.filter_eq_self.2 (fun _ _ => by simp)
    rw [this]
    exact hm

omit [DecidableEq κ] in
/-- the step: nothing is left, or one that is left comes. -/
theorem run_next_map {it : Nat} {left : List (κ × υ)} (h : IterAt ek ev w it r L left) (hne : it ≠ r) (ty : TypeId) :
    (left = [] ∧ (Instr.next (.pointer (some ⟨it, 0, none⟩)) false ty).run P w = .ok (.tuple #[.bool false]) w) ∨
    ∃ p l1 l2 w', left = l1 ++ p :: l2 ∧ (Instr.next (.pointer (some ⟨it, 0, none⟩)) false ty).run P w = .ok (.tuple #[.bool true, ek p.1, ev p.2]) w' ∧
      Fr (· = it) w w' ∧ w'.heap.size = w.heap.size ∧ IterAt ek ev w' it r L (l1 ++ l2) ∧
      (Instr.entry (.pointer (some ⟨it, 0, none⟩))).run P w' = .ok (.tuple #[ek p.1, ev p.2]) w' := by
  have hilt := h.lt
  obtain ⟨es, clock, seen, hb, hm, hn, hbn, hbl, hi, hleft⟩ := h
  rcases run_next_at (P := P) w ty it r clock clock seen es clock hi hb hbl (Nat.le_refl _) with ⟨h0, hrun⟩ | ⟨e, he, w1, hw1, hrun⟩
  · refine .inl ⟨?_, hrun⟩
    have h1 : (es.toList.filter fun e => !seen.contains e.born).length = 0 := by
      have h2 : (leftOf es seen).toList.length = 0 := by simpa using h0
      unfold leftOf at h2
      simpa using h2
    have := congrArg List.length hleft
    simp only [List.length_map] at this
    rw [h1] at this
    exact List.eq_nil_of_length_eq_zero this.symm
  · right
    have hel : e ∈ es.toList.filter fun e => !seen.contains e.born := by
      unfold leftOf at he
      simpa using he
    obtain ⟨a, b, hab⟩ := List.append_of_mem hel
    rw [hab] at hleft
    have hsplit : ∃ p l1 l2, left = l1 ++ p :: l2 ∧ a.map (fun e => (e.key, e.val)) = l1.map (fun p => (ek p.1, ev p.2)) ∧ (e.key, e.val) = (ek p.1, ev p.2) ∧ b.map (fun e => (e.key, e.val)) = l2.map (fun p => (ek p.1, ev p.2)) := by
      simp only [List.map_append, List.map_cons] at hleft
      have h1 := hleft.symm
      rw [List.map_eq_append_iff] at h1
      obtain ⟨l1, l2', e1, e2, e3⟩ := h1
      rw [List.map_eq_cons_iff] at e3
      obtain ⟨p, l2, e4, e5, e6⟩ := e3
      exact ⟨p, l1, l2, by rw [e1, e4], e2.symm, e5.symm, e6.symm⟩
    obtain ⟨p, l1, l2, hl, ha, hp, hb2⟩ := hsplit
    simp only [Prod.mk.injEq] at hp
    have hees : e ∈ es.toList := (List.mem_filter.1 hel).1
    have hw1h : w1.heap = w.heap := by rcases hw1 with rfl | rfl <;> rfl
    have hsame : ∀ o', (setBlock w1 it o').heap = (setBlock w it o').heap := fun o' => by simp [setBlock, hw1h]
    refine ⟨p, l1, l2, _, hl, by rw [← hp.1, ← hp.2]; exact hrun, ?_, ?_, ?_, ?_⟩
    · rcases hw1 with rfl | rfl
      · exact fr_setBlock _ _ _
      · exact Fr.setBlock (F := (· = it)) ((Fr.refl _ w).drew) (fun _ => rfl) _
    · rw [setBlock_size, hw1h]
    · have h6 : (setBlock w1 it (.mapIter (some r) clock (seen.push e.born) clock)).heap[r]? = some (.map es clock) := by
        unfold setBlock
        simp only [hw1h]
        rw [Array.getElem?_setIfInBounds, if_neg hne]
        exact hb
      refine ⟨es, clock, seen.push e.born, h6, hm, hn, hbn, hbl, setBlock_same w1 (by rw [hw1h]; exact hilt) _, ?_⟩
      have hfil : (es.toList.filter fun e' => !(seen.push e.born).contains e'.born) = a ++ b := by
        have h7 : (es.toList.filter fun e' => !(seen.push e.born).contains e'.born) = (es.toList.filter fun e' => !seen.contains e'.born).filter fun e' => !(e'.born == e.born) := by
          rw [List.filter_filter]
          apply List.filter_congr
          intro x _
          rw [Bool.eq_iff_iff]
          simp only [Array.contains_eq_mem, Array.mem_push, Bool.not_eq_true', decide_eq_false_iff_not, not_or, Bool.and_eq_true, beq_eq_false_iff_ne, ne_eq]
          exact ⟨fun h => ⟨h.2, h.1⟩, fun h => ⟨h.2, h.1⟩⟩
        rw [h7, hab]
        have h8 : ((a ++ e :: b).map (·.born)).Nodup := by
          rw [← hab]
          exact hbn.sublist (List.Sublist.map _ (List.filter_sublist))
        simp only [List.map_append, List.map_cons, List.nodup_append, List.nodup_cons, List.mem_map, List.mem_cons] at h8
        obtain ⟨_, ⟨h9, _⟩, h10⟩ := h8
        rw [List.filter_append, List.filter_cons]
        simp only [beq_self_eq_true, Bool.not_true, Bool.false_eq_true, if_false]
        congr 1
        · apply List.filter_eq_self.2
          intro x hx
          have := h10 x.born ⟨x, hx, rfl⟩ e.born (.inl rfl)
          simpa using this
        · apply List.filter_eq_self.2
          intro x hx
          have : x.born ≠ e.born := fun e' => h9 ⟨x, hx, e'⟩
          simpa using this
      rw [hfil, List.map_append, ha, hb2, List.map_append]
    · have := run_entry_at (P := P) (setBlock w1 it (.mapIter (some r) clock (seen.push e.born) clock)) it r clock seen es clock e
        (setBlock_same w1 (by rw [hw1h]; exact hilt) _) (by
          unfold setBlock
          simp only [hw1h]
          rw [Array.getElem?_setIfInBounds, if_neg hne]
          exact hb) hees hbn
      rw [this, hp.1, hp.2]
end

/-- The walk stops here. -/
def At (p : Prop) : Prop := p
theorem At.stop {p : Prop} (h : At p) : p := h
theorem At.go {p : Prop} (h : p) : At p := h

/-! at the operation -/
section
variable {P : Program} {κ υ : Type} [DecidableEq κ] {ek : κ → Value} {ev : υ → Value} {w w' : World} {r : Nat} {L : List (κ × υ)} {T kt et : TypeId}
  {ops : Array Oper} {rest : List Oper} {o : Oper} {a : Act} {Q : Exit → Act → World → Prop}

theorem wpl_update (hg : o.guard = none) (m x v : Operand) (hop : o.op = Op.mapUpdate T m x v) (ht : P.underlying T = some (.map kt et)) (K : KeyTy P kt ek)
    (hM : IsMap ek ev w r L) (hm : a.eval m = .map (some r)) (k : κ) (hx : a.eval x = ek k) (y : υ) (hv : a.eval v = ev y)
    (hK : ∀ w', Fr (· = r) w w' → w'.heap.size = w.heap.size → IsMap ek ev w' r (aput L k y) → wpList P ops Q rest (a.put o.dst undef) w') : wpList P ops Q (o :: rest) a w := by
  refine wpList_plain hg fun K' hK' => ?_
  obtain ⟨w', hrun, r1, r2, r3⟩ := run_update ht K hM k y
  unfold Oper.wp
  simp [execOp, hop, hm, hx, hv, hrun, Result.andThen]
  exact hK' _ _ (hK w' r1 r2 r3)

theorem wpl_delete (hg : o.guard = none) (m x : Operand) (hop : o.op = Op.call { callee := Callee.builtin Builtin.delete, args := #[m, x], argTypes := #[T, kt] }) (ht : P.underlying T = some (.map kt et)) (K : KeyTy P kt ek)
    (hM : IsMap ek ev w r L) (hm : a.eval m = .map (some r)) (k : κ) (hx : a.eval x = ek k)
    (hK : ∀ w', Fr (· = r) w w' → w'.heap.size = w.heap.size → IsMap ek ev w' r (adel L k) → wpList P ops Q rest (a.put o.dst (.tuple #[])) w') : wpList P ops Q (o :: rest) a w := by
  refine wpList_plain hg fun K' hK' => ?_
  obtain ⟨w', hrun, r1, r2, r3⟩ := run_delete ht K hM k o.type
  unfold Oper.wp
  simp [execOp, hop, resolve, invoke, builtin, hm, hx, hrun, Result.andThen]
  exact hK' _ _ (hK w' r1 r2 r3)

theorem wpl_lookup_ok (hg : o.guard = none) (m x : Operand) (hop : o.op = Op.lookup T m x true) (ht : P.underlying T = some (.map kt et)) (K : KeyTy P kt ek)
    (hM : IsMap ek ev w r L) (hm : a.eval m = .map (some r)) (k : κ) (hx : a.eval x = ek k) (z : Value) (hz : (zeroValue et).run P w = .ok z w)
    (hK : wpList P ops Q rest (a.put o.dst (.tuple #[((aget L k).map ev).getD z, .bool (aget L k).isSome])) w) : wpList P ops Q (o :: rest) a w := by
  refine wpList_plain hg fun K' hK' => ?_
  have hrun := run_lookup_ok ht K hM z hz k
  unfold Oper.wp
  simp only [execOp, hop, hm, hx, hrun, Result.andThen, Sem.run_bind, Sem.run_pure]
  exact hK' _ _ hK

theorem wpl_lookup_one (hg : o.guard = none) (m x : Operand) (hop : o.op = Op.lookup T m x false) (ht : P.underlying T = some (.map kt et)) (K : KeyTy P kt ek)
    (hM : IsMap ek ev w r L) (hm : a.eval m = .map (some r)) (k : κ) (hx : a.eval x = ek k) (z : Value) (hz : (zeroValue et).run P w = .ok z w)
    (hK : wpList P ops Q rest (a.put o.dst (((aget L k).map ev).getD z)) w) : wpList P ops Q (o :: rest) a w := by
  refine wpList_plain hg fun K' hK' => ?_
  have hrun := run_lookup_one ht K hM z hz k
  unfold Oper.wp
  simp only [execOp, hop, hm, hx, hrun, Result.andThen, Sem.run_bind, Sem.run_pure]
  exact hK' _ _ hK

omit [DecidableEq κ] in
theorem wpl_clear (hg : o.guard = none) (m : Operand) (hop : o.op = Op.call { callee := Callee.builtin Builtin.clear, args := #[m], argTypes := #[T] }) (ht : P.underlying T = some (.map kt et))
    (hM : IsMap ek ev w r L) (hm : a.eval m = .map (some r))
    (hK : ∀ w', Fr (· = r) w w' → w'.heap.size = w.heap.size → IsMap ek ev w' r ([] : List (κ × υ)) → wpList P ops Q rest (a.put o.dst (.tuple #[])) w') : wpList P ops Q (o :: rest) a w := by
  refine wpList_plain hg fun K' hK' => ?_
  obtain ⟨w', hrun, r1, r2, r3⟩ := run_clear ht hM o.type
  unfold Oper.wp
  simp [execOp, hop, resolve, invoke, builtin, hm, hrun, Result.andThen]
  exact hK' _ _ (hK w' r1 r2 r3)

omit [DecidableEq κ] in
theorem wpl_range (hg : o.guard = none) (m : Operand) (hop : o.op = Op.range T m) (ht : P.underlying T = some (.map kt et))
    (hM : IsMap ek ev w r L) (hm : a.eval m = .map (some r))
    (hK : ∀ w', Fr (fun _ => False) w w' → w'.heap.size = w.heap.size + 1 → IterAt ek ev w' w.heap.size r L L → wpList P ops Q rest (a.put o.dst (.pointer (some ⟨w.heap.size, 0, none⟩))) w') : wpList P ops Q (o :: rest) a w := by
  refine wpList_plain hg fun K' hK' => ?_
  obtain ⟨ob, hrun, r1⟩ := run_range_map (P := P) ht hM
  unfold Oper.wp
  simp [execOp, hop, hm, hrun, Result.andThen]
  exact hK' _ _ (hK (w.alloc ob) ((Fr.refl _ _).alloc _) (World.size_alloc ..) r1)

omit [DecidableEq κ] in
theorem wpl_next (hg : o.guard = none) (i : Operand) (hop : o.op = Op.next i false) {it : Nat} {left : List (κ × υ)} (hit : a.eval i = .pointer (some ⟨it, 0, none⟩))
    (h : IterAt ek ev w it r L left) (hne : it ≠ r)
    (hDone : left = [] → wpList P ops Q rest (a.put o.dst (.tuple #[.bool false])) w)
    (hMore : ∀ p l1 l2 w', left = l1 ++ p :: l2 → Fr (· = it) w w' → w'.heap.size = w.heap.size → IterAt ek ev w' it r L (l1 ++ l2) →
      (Instr.entry (.pointer (some ⟨it, 0, none⟩))).run P w' = .ok (.tuple #[ek p.1, ev p.2]) w' → wpList P ops Q rest (a.put o.dst (.tuple #[.bool true, ek p.1, ev p.2])) w') : wpList P ops Q (o :: rest) a w := by
  refine wpList_plain hg fun K' hK' => ?_
  unfold Oper.wp
  rcases run_next_map (P := P) h hne o.type with ⟨h0, hrun⟩ | ⟨p, l1, l2, w', hl, hrun, hf, hsz, hit', hen⟩
  · simp [execOp, hop, hit, hrun, Result.andThen]
    exact hK' _ _ (hDone h0)
  · simp [execOp, hop, hit, hrun, Result.andThen]
    exact hK' _ _ (hMore p l1 l2 w' hl hf hsz hit' hen)
end
end Go.Proofs.YtmjbhnkhpgnchaaDoor
