/-
  'm[k], .. = ..': a map's entry is taken, then written: over maps that are read as lists of pairs.
-/
import Derived.Test.YtmjbhnkhpgnchaaDoorOps
namespace Go.Proofs.YtmjbhnkhpgnchaaDoor
open Go Go.RowKit
open Go.ChangeMaps (setBlock)
section
variable {P : Program} {κ υ : Type} [DecidableEq κ] {ek : κ → Value} {ev : υ → Value} {w w' : World} {r : Nat} {L : List (κ × υ)} {T kt et : TypeId}

/-- in the map of block r the entry of that key bears the stamp st. -/
def StampAt (w : World) (r : Nat) (key : Value) (st : Nat) : Prop := ∃ (es : Array MapEntry) (clock i : Nat) (e : MapEntry), w.heap[r]? = some (.map es clock) ∧ es[i]? = some e ∧ e.key = key ∧ e.born = st

omit [DecidableEq κ] in
/-- where a key stands, and what stands there -/
theorem entry_at {es : Array MapEntry} (hm : es.toList.map (fun e => (e.key, e.val)) = L.map (fun p => (ek p.1, ev p.2))) {j : Nat} (hj : j < L.length) :
    ∃ e, es[j]? = some e ∧ e.key = ek (L[j]).1 ∧ e.val = ev (L[j]).2 := by
  have hsz : es.size = L.length := by have := congrArg List.length hm; simpa using this
  have h1 : j < es.size := by omega
  refine ⟨es[j], by simp [h1], ?_⟩
  have h2 := congrArg (·[j]?) hm
  simp only [List.getElem?_map, Array.getElem?_toList] at h2
  rw [Array.getElem?_eq_getElem h1, List.getElem?_eq_getElem hj] at h2
  simpa using h2

theorem run_mapEntry (ht : P.underlying T = some (.map kt et)) (K : KeyTy P kt ek) (h : IsMap ek ev w r L) (k : κ) (hk : k ∈ keys L) :
    ∃ u st w', (Instr.mapEntry T (.map (some r)) (ek k)).run P w = .ok (.tuple #[u, .int .i64 (st : Nat)]) w' ∧ Fr (· = r) w w' ∧ w'.heap.size = w.heap.size ∧ IsMap ek ev w' r L ∧ StampAt w' r (ek k) st := by
  obtain ⟨es, clock, hb, hm, hn, hbn, hbl⟩ := h
  have hlt : r < w.heap.size := (Array.getElem?_eq_some_iff.1 hb).1
  have hfk := run_findKey K hm k w
  have hck := K.check false 9999 w k
  cases hl : lookIdx ev L k 0 with
  | none => exact absurd hk ((lookIdx_none L 0).1 hl)
  | some q =>
    obtain ⟨j, x⟩ := q
    obtain ⟨n, u, hj, hnl, hag, hx, hput, hdel, hkn⟩ := lookIdx_some L 0 j x hl
    have hjn : j = n := by omega
    subst hjn
    obtain ⟨e0, he0, hek, hev⟩ := entry_at hm hnl
    have hLk : (L[j]).1 = k := by
      rw [List.getElem?_map, List.getElem?_eq_getElem hnl] at hkn
      simpa using hkn
    rw [hLk] at hek
    have hsame : (es.modify j fun e => { e with key := ek k }).toList.map (fun e => (e.key, e.val)) = es.toList.map (fun e => (e.key, e.val)) := by
      apply List.ext_getElem?
      intro i
      simp only [List.getElem?_map, Array.getElem?_toList, Array.getElem?_modify]
      by_cases hij : j = i
      · subst hij; simp [he0, hek]
      · simp [hij]
    have hborn : (es.modify j fun e => { e with key := ek k }).toList.map (·.born) = es.toList.map (·.born) := by
      apply List.ext_getElem?
      intro i
      simp only [List.getElem?_map, Array.getElem?_toList, Array.getElem?_modify]
      by_cases hij : j = i
      · subst hij; simp [he0]
      · simp [hij]
    refine ⟨x, e0.born, setBlock w r (.map (es.modify j fun e => { e with key := ek k }) clock), ?_, fr_setBlock _ _ _, setBlock_size _ _ _, ?_, ?_⟩
    · have hst : (Instr.keyThatStays e0.key (ek k)).run P w = .ok (ek k) w := by
        simp only [hek, Instr.keyThatStays, K.bits, if_true]
        rfl
      have hso := run_setObj_map (P := P) hb (.map (es.modify j fun e => { e with key := ek k }) clock)
      have hgo := Go.MapKept.run_getObj_map (P := P) hb
      simp only [Instr.mapEntry, Sem.run_bind, run_underlying ht, Result.andThen, hgo, hck, hfk, hl, hst, hso, Sem.run_pure, he0, Option.map_some, Option.getD_some, goInt]
    · refine ⟨_, _, setBlock_same w hlt _, hsame.trans hm, hn, by rw [hborn]; exact hbn, ?_⟩
      intro e he
      have : e.born ∈ es.toList.map (·.born) := by
        rw [← hborn]
        exact List.mem_map_of_mem he
      obtain ⟨e', he', hb'⟩ := List.mem_map.1 this
      rw [← hb']; exact hbl e' he'
    · exact ⟨_, _, j, { e0 with key := ek k }, setBlock_same w hlt _, by rw [Array.getElem?_modify]; simp [he0], rfl, rfl⟩

theorem run_entryStore (h : IsMap ek ev w r L) (hinj : ∀ a b, ek a = ek b → a = b) {k : κ} {st : Nat} (hs : StampAt w r (ek k) st) (v : υ) :
    ∃ w', (Instr.entryStore T (.map (some r)) (.int .i64 st) (ev v)).run P w = .ok () w' ∧ Fr (· = r) w w' ∧ w'.heap.size = w.heap.size ∧ IsMap ek ev w' r (aput L k v) := by
  obtain ⟨es, clock, hb, hm, hn, hbn, hbl⟩ := h
  obtain ⟨es', clock', i, e0, hb', he0, hek, hst⟩ := hs
  rw [hb] at hb'
  injection hb' with hb'
  injection hb' with hb1 hb2
  subst hb1; subst hb2
  have hlt : r < w.heap.size := (Array.getElem?_eq_some_iff.1 hb).1
  have hsz : es.size = L.length := by have := congrArg List.length hm; simpa using this
  have hil : i < es.size := (Array.getElem?_eq_some_iff.1 he0).1
  have hiL : i < L.length := by omega
  obtain ⟨e1, he1, hk1, hv1⟩ := entry_at hm hiL
  rw [he0] at he1
  obtain rfl := Option.some.inj he1
  have hLk : (L[i]).1 = k := hinj _ _ (hk1.symm.trans hek)
  have hfind : es.findIdx? (fun e => (e.born : Int) == (st : Int)) = some i := by
    rw [Array.findIdx?_eq_some_iff_getElem]
    have h0 : es[i] = e0 := by
      have := Array.getElem?_eq_getElem hil
      rw [this] at he0
      exact Option.some.inj he0
    refine ⟨hil, by rw [h0]; simp [hst], fun j hji => ?_⟩
    have hne : (es[j]'(by omega)).born ≠ st := by
      intro e
      have h1 : (es.toList.map (·.born))[j]? = some st := by simp [List.getElem?_map, Array.getElem?_eq_getElem (show j < es.size by omega), e]
      have h2 : (es.toList.map (·.born))[i]? = some st := by simp [List.getElem?_map, he0, hst]
      have := (List.getElem?_inj (by simp; omega) hbn).1 (h1.trans h2.symm)
      omega
    intro hc
    simp at hc
    omega
  have hput : aput L k v = L.set i (k, v) := by
    have hag : k ∈ keys L := by
      rw [← hLk]
      exact List.mem_map_of_mem (List.getElem_mem hiL)
    cases hl : lookIdx ev L k 0 with
    | none => exact absurd hag ((lookIdx_none L 0).1 hl)
    | some q =>
      obtain ⟨j, x⟩ := q
      obtain ⟨n, u, hj, hnl, _, _, hp, _, hkn⟩ := lookIdx_some L 0 j x hl
      have : n = i := by
        have h1 : (keys L)[n]? = some k := hkn
        have h2 : (keys L)[i]? = some k := by
          show (L.map _)[i]? = _
          rw [List.getElem?_map, List.getElem?_eq_getElem hiL]
          simp [hLk]
        exact (List.getElem?_inj (by show n < (L.map _).length; simp; omega) hn).1 (h1.trans h2.symm)
      rw [hp v, this]
  refine ⟨setBlock w r (.map (es.modify i fun e => { e with val := ev v }) clock), ?_, fr_setBlock _ _ _, setBlock_size _ _ _, ?_⟩
  · have hso := run_setObj_map (P := P) hb (.map (es.modify i fun e => { e with val := ev v }) clock)
    have hgo := Go.MapKept.run_getObj_map (P := P) hb
    simp only [Instr.entryStore, Sem.run_bind, Result.andThen, hgo, asInt, asIntOf, Sem.run_pure, hfind]
    exact hso
  · have hborn : (es.modify i fun e => { e with val := ev v }).toList.map (·.born) = es.toList.map (·.born) := by
      apply List.ext_getElem?
      intro t
      simp only [List.getElem?_map, Array.getElem?_toList, Array.getElem?_modify]
      by_cases hij : i = t
      · subst hij; simp [he0]
      · simp [hij]
    refine ⟨_, _, setBlock_same w hlt _, ?_, nodup_aput hn, by rw [hborn]; exact hbn, ?_⟩
    · rw [hput]
      apply List.ext_getElem?
      intro t
      have h2 := congrArg (·[t]?) hm
      simp only [List.getElem?_map, Array.getElem?_toList] at h2
      simp only [List.getElem?_map, Array.getElem?_toList, Array.getElem?_modify, List.getElem?_set]
      by_cases hij : i = t
      · subst hij
        simp [he0, hiL, hek]
      · simp [hij, h2]
    · intro e he
      have : e.born ∈ es.toList.map (·.born) := by
        rw [← hborn]
        exact List.mem_map_of_mem he
      obtain ⟨e', he', hb'⟩ := List.mem_map.1 this
      rw [← hb']; exact hbl e' he'
end
end Go.Proofs.YtmjbhnkhpgnchaaDoor
