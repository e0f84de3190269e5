/-
  Frames, and Go maps that are read as lists of pairs: laws of the machine's map operations, over any program.
-/
import Derived.WalkKit
import Derived.Maps.OwnSet
import Derived.Maps.RangeWalk
import Derived.Lib.Hide
import Derived.KernelRfl
import Derived.Deep.Draws
import Derived.MapKept
namespace Go.Proofs.YtmjbhnkhpgnchaaDoor
open Go Go.RowKit

/-- Only blocks in F, and new ones, have turned. -/
structure Fr (F : Nat → Prop) (w w' : World) : Prop where
  os : w'.os = w.os
  tape : w'.tape = w.tape
  output : w'.output = w.output
  size : w.heap.size ≤ w'.heap.size
  block : ∀ k, k < w.heap.size → ¬ F k → w'.heap[k]? = w.heap[k]?

section
variable {F G : Nat → Prop} {w w' w'' : World}

theorem Fr.refl (F : Nat → Prop) (w : World) : Fr F w w := ⟨rfl, rfl, rfl, Nat.le_refl _, fun _ _ _ => rfl⟩

theorem Fr.trans (h : Fr F w w') (h' : Fr F w' w'') : Fr F w w'' :=
  ⟨h'.os.trans h.os, h'.tape.trans h.tape, h'.output.trans h.output, Nat.le_trans h.size h'.size,
   fun k hk hF => (h'.block k (Nat.lt_of_lt_of_le hk h.size) hF).trans (h.block k hk hF)⟩

theorem Fr.mono (h : Fr F w w') (hFG : ∀ k, k < w.heap.size → F k → G k) : Fr G w w' :=
  ⟨h.os, h.tape, h.output, h.size, fun k hk hG => h.block k hk fun hF => hG (hFG k hk hF)⟩

/-- the frame that follows may also turn what the first one laid anew. -/
theorem Fr.then (h : Fr F w w') (h' : Fr G w' w'') (hG : ∀ k, k < w.heap.size → G k → F k) : Fr F w w'' :=
  ⟨h'.os.trans h.os, h'.tape.trans h.tape, h'.output.trans h.output, Nat.le_trans h.size h'.size,
   fun k hk hF => (h'.block k (Nat.lt_of_lt_of_le hk h.size) fun hg => hF (hG k hk hg)).trans (h.block k hk hF)⟩

theorem Fr.alloc (h : Fr F w w') (o : Obj) : Fr F w (w'.alloc o) :=
  ⟨h.os, h.tape, h.output, Nat.le_trans h.size (by rw [World.size_alloc]; omega), fun k hk hF =>
    (Below.heap_alloc w' o k (Nat.lt_of_lt_of_le hk h.size)).trans (h.block k hk hF)⟩

theorem Fr.drew (h : Fr F w w') : Fr F w w'.drew := ⟨h.os, h.tape, h.output, h.size, h.block⟩
theorem Fr.drewN (h : Fr F w w') (n : Nat) : Fr F w (w'.drewN n) := ⟨h.os, h.tape, h.output, h.size, h.block⟩

theorem Fr.setCell (h : Fr F w w') {a : Addr} (ha : a.block < w.heap.size → F a.block) (u : Value) : Fr F w (w'.setCell a u) :=
  ⟨h.os, h.tape, h.output, Nat.le_trans h.size (by unfold World.setCell; simp), fun k hk hF =>
    (Below.heap_setCell w' a u k (fun e => hF (e ▸ ha (e ▸ hk)))).trans (h.block k hk hF)⟩

theorem Fr.of_below {B : Nat} (h : Below B w w') : Fr (fun k => B ≤ k) w w' :=
  ⟨h.os, h.tape, h.output, h.size, fun k _ hF => h.block k (by omega)⟩

theorem Fr.of_new (h : Below w.heap.size w w') : Fr F w w' :=
  ⟨h.os, h.tape, h.output, h.size, fun k hk _ => h.block k hk⟩

theorem Fr.below {B : Nat} (h : Fr F w w') (hF : ∀ k, k < B → ¬ F k) (hB : B ≤ w.heap.size) : Below B w w' :=
  ⟨h.os, h.tape, h.output, h.size, fun k hk => h.block k (Nat.lt_of_lt_of_le hk hB) (hF k hk)⟩

theorem Fr.of_grown {row : Option Nat} (h : w.grownBy w' row) : Fr (fun k => row = some k) w w' :=
  ⟨h.os, h.tape, h.output, h.size, fun k hk hF => h.block k hk (fun e => hF e.symm)⟩

theorem Fr.cell (h : Fr F w w') {p : Addr} (hp : p.block < w.heap.size) (hF : ¬ F p.block) : w'.cell? p = w.cell? p :=
  World.cell?_of_block (w := w) (h.block p.block hp hF)

theorem Fr.frozen (h : Fr F w w') {p : Addr} (hp : p.block < w.heap.size) (hF : ¬ F p.block) : w'.frozen? p = w.frozen? p :=
  World.frozen?_of_block (w := w) (h.block p.block hp hF)
end

/-! Lists of pairs with distinct keys -/
section
variable {κ υ : Type}

def keys (l : List (κ × υ)) : List κ := l.map (·.1)

@[simp] theorem keys_nil : keys ([] : List (κ × υ)) = [] := rfl
@[simp] theorem keys_cons (p : κ × υ) (l : List (κ × υ)) : keys (p :: l) = p.1 :: keys l := rfl

variable [DecidableEq κ]

def aget : List (κ × υ) → κ → Option υ
  | [], _ => none
  | (a, v) :: l, k => if a = k then some v else aget l k

def aput : List (κ × υ) → κ → υ → List (κ × υ)
  | [], k, v => [(k, v)]
  | (a, u) :: l, k, v => if a = k then (k, v) :: l else (a, u) :: aput l k v

def adel : List (κ × υ) → κ → List (κ × υ)
  | [], _ => []
  | (a, u) :: l, k => if a = k then l else (a, u) :: adel l k

theorem aget_none {l : List (κ × υ)} {k : κ} : aget l k = none ↔ k ∉ keys l := by
  induction l with
  | nil => simp [aget]
  | cons p l ih =>
    obtain ⟨a, v⟩ := p
    simp only [aget, keys_cons, List.mem_cons, not_or]
    by_cases h : a = k
    · simp [h]
    · simp [h, ih, Ne.symm h]

theorem aget_mem {l : List (κ × υ)} {k : κ} {v : υ} (hn : (keys l).Nodup) : aget l k = some v ↔ (k, v) ∈ l := by
  induction l with
  | nil => simp [aget]
  | cons p l ih =>
    obtain ⟨a, u⟩ := p
    simp only [keys_cons, List.nodup_cons] at hn
    simp only [aget, List.mem_cons, Prod.mk.injEq]
    by_cases h : a = k
    · subst h
      simp only [if_true, Option.some.injEq, true_and]
      constructor
      · intro e; exact .inl e.symm
      · rintro (e | e)
        · exact e.symm
        · exact absurd (List.mem_map_of_mem (f := (·.1)) e) hn.1
    · simp only [if_neg h, ih hn.2]
      constructor
      · exact .inr
      · rintro (e | e)
        · exact absurd e.1.symm h
        · exact e

theorem mem_aput_fst {l : List (κ × υ)} {k a : κ} {v : υ} : a ∈ keys (aput l k v) ↔ a = k ∨ a ∈ keys l := by
  induction l with
  | nil => simp [aput]
  | cons p l ih =>
    obtain ⟨b, u⟩ := p
    simp only [aput]
    by_cases h : b = k
    · subst h; simp
    · simp only [if_neg h, keys_cons, List.mem_cons, ih]
      constructor
      · rintro (e | e | e) <;> simp [e]
      · rintro (e | e | e) <;> simp [e]

theorem nodup_aput {l : List (κ × υ)} {k : κ} {v : υ} (hn : (keys l).Nodup) : (keys (aput l k v)).Nodup := by
  induction l with
  | nil => simp [aput]
  | cons p l ih =>
    obtain ⟨b, u⟩ := p
    simp only [keys_cons, List.nodup_cons] at hn
    simp only [aput]
    by_cases h : b = k
    · subst h; simpa using hn
    · simp only [if_neg h, keys_cons, List.nodup_cons, mem_aput_fst, not_or]
      exact ⟨⟨h, hn.1⟩, ih hn.2⟩

theorem mem_adel_fst {l : List (κ × υ)} {k a : κ} (hn : (keys l).Nodup) : a ∈ keys (adel l k) ↔ a ≠ k ∧ a ∈ keys l := by
  induction l with
  | nil => simp [adel]
  | cons p l ih =>
    obtain ⟨b, u⟩ := p
    simp only [keys_cons, List.nodup_cons] at hn
    simp only [adel]
    by_cases h : b = k
    · subst h
      simp only [if_true, keys_cons, List.mem_cons]
      constructor
      · intro e; exact ⟨fun e' => hn.1 (e' ▸ e), .inr e⟩
      · rintro ⟨e1, e2⟩; exact e2.resolve_left e1
    · simp only [if_neg h, keys_cons, List.mem_cons, ih hn.2]
      constructor
      · rintro (e | e)
        · subst e; exact ⟨h, .inl rfl⟩
        · exact ⟨e.1, .inr e.2⟩
      · rintro ⟨e1, e2 | e2⟩
        · exact .inl e2
        · exact .inr ⟨e1, e2⟩

theorem nodup_adel {l : List (κ × υ)} {k : κ} (hn : (keys l).Nodup) : (keys (adel l k)).Nodup := by
  induction l with
  | nil => simp [adel]
  | cons p l ih =>
    obtain ⟨b, u⟩ := p
    have hn' := hn
    simp only [keys_cons, List.nodup_cons] at hn
    simp only [adel]
    by_cases h : b = k
    · subst h; simpa using hn.2
    · simp only [if_neg h, keys_cons, List.nodup_cons]
      exact ⟨fun e => hn.1 ((mem_adel_fst hn.2).1 e).2, ih hn.2⟩

theorem mem_adel {l : List (κ × υ)} {k : κ} (hn : (keys l).Nodup) {p : κ × υ} : p ∈ adel l k ↔ p ∈ l ∧ p.1 ≠ k := by
  induction l with
  | nil => simp [adel]
  | cons q l ih =>
    obtain ⟨b, u⟩ := q
    simp only [keys_cons, List.nodup_cons] at hn
    simp only [adel]
    by_cases h : b = k
    · subst h
      simp only [if_true, List.mem_cons]
      constructor
      · intro e; exact ⟨.inr e, fun e' => hn.1 (e' ▸ List.mem_map_of_mem (f := (·.1)) e)⟩
      · rintro ⟨e1 | e1, e2⟩
        · subst e1; exact absurd rfl e2
        · exact e1
    · simp only [if_neg h, List.mem_cons, ih hn.2]
      constructor
      · rintro (e | e)
        · subst e; exact ⟨.inl rfl, h⟩
        · exact ⟨.inr e.1, e.2⟩
      · rintro ⟨e1 | e1, e2⟩
        · exact .inl e1
        · exact .inr ⟨e1, e2⟩

theorem mem_aput {l : List (κ × υ)} {k : κ} {v : υ} (hn : (keys l).Nodup) {p : κ × υ} : p ∈ aput l k v ↔ p = (k, v) ∨ (p ∈ l ∧ p.1 ≠ k) := by
  induction l with
  | nil => simp [aput]
  | cons q l ih =>
    obtain ⟨b, u⟩ := q
    simp only [keys_cons, List.nodup_cons] at hn
    simp only [aput]
    by_cases h : b = k
    · subst h
      simp only [if_true, List.mem_cons]
      constructor
      · rintro (e | e)
        · exact .inl e
        · exact .inr ⟨.inr e, fun e' => hn.1 (e' ▸ List.mem_map_of_mem (f := (·.1)) e)⟩
      · rintro (e | ⟨e1 | e1, e2⟩)
        · exact .inl e
        · subst e1; exact absurd rfl e2
        · exact .inr e1
    · simp only [if_neg h, List.mem_cons, ih hn.2]
      constructor
      · rintro (e | e | e)
        · subst e; exact .inr ⟨.inl rfl, h⟩
        · exact .inl e
        · exact .inr ⟨.inr e.1, e.2⟩
      · rintro (e | ⟨e1 | e1, e2⟩)
        · exact .inr (.inl e)
        · exact .inl e1
        · exact .inr (.inr ⟨e1, e2⟩)

theorem aput_new {l : List (κ × υ)} {k : κ} {v : υ} (h : k ∉ keys l) : aput l k v = l ++ [(k, v)] := by
  induction l with
  | nil => rfl
  | cons q l ih =>
    obtain ⟨b, u⟩ := q
    simp only [keys_cons, List.mem_cons, not_or] at h
    simp [aput, Ne.symm h.1, ih h.2]

theorem adel_none {l : List (κ × υ)} {k : κ} (h : k ∉ keys l) : adel l k = l := by
  induction l with
  | nil => rfl
  | cons q l ih =>
    obtain ⟨b, u⟩ := q
    simp only [keys_cons, List.mem_cons, not_or] at h
    simp [adel, Ne.symm h.1, ih h.2]

theorem length_adel {l : List (κ × υ)} {k : κ} (h : k ∈ keys l) : (adel l k).length + 1 = l.length := by
  induction l with
  | nil => simp at h
  | cons q l ih =>
    obtain ⟨b, u⟩ := q
    simp only [adel]
    by_cases e : b = k
    · simp [e]
    · simp only [keys_cons, List.mem_cons] at h
      simp [e, ih (h.resolve_left (Ne.symm e))]

theorem length_aput_le (l : List (κ × υ)) (k : κ) (v : υ) : (aput l k v).length ≤ l.length + 1 := by
  induction l with
  | nil => simp [aput]
  | cons q l ih =>
    obtain ⟨b, u⟩ := q
    simp only [aput]
    split <;> simp <;> omega

theorem length_adel_le (l : List (κ × υ)) (k : κ) : (adel l k).length ≤ l.length := by
  induction l with
  | nil => simp [adel]
  | cons q l ih =>
    obtain ⟨b, u⟩ := q
    simp only [adel]
    split <;> simp <;> omega
end

/-! Go maps -/
section
variable {P : Program} {κ υ : Type}

/-- The key type of a map: plain values, compared at once. -/
structure KeyTy [DecidableEq κ] (P : Program) (kt : TypeId) (ek : κ → Value) : Prop where
  check : ∀ e n w k, (Instr.checkKey e (n + 1) kt (ek k)).run P w = .ok () w
  same : ∃ d, P.underlying kt = some d ∧ ∀ a b, Instr.sameNow d (ek a) (ek b) = some (decide (a = b))
  bits : ∀ n a, Instr.sameBits n (ek a) (ek a) = true

theorem keyTy_string {kt : TypeId} (h : P.underlying kt = some .string) : KeyTy P kt Value.string where
  check e n w k := by
    simp only [Instr.checkKey]
    simp [run_underlying h]
  same := ⟨_, h, fun a b => by simp only [Instr.sameNow, Option.some.injEq]; rw [Bool.eq_iff_iff]; simp [Go.MapKept.bytes_beq]⟩
  bits n a := by cases n <;> simp [Instr.sameBits, Go.MapKept.bytes_beq]

theorem keyTy_int {kt : TypeId} {q : IntKind} (h : P.underlying kt = some (.int q)) : KeyTy P kt (Value.int q) where
  check e n w k := by
    simp only [Instr.checkKey]
    simp [run_underlying h]
  same := ⟨_, h, fun a b => by simp [Instr.sameNow]; rw [Bool.eq_iff_iff]; simp⟩
  bits n a := by cases n <;> simp [Instr.sameBits]

/-- Block r is a map that holds the pairs of L. -/
def IsMap (ek : κ → Value) (ev : υ → Value) (w : World) (r : Nat) (L : List (κ × υ)) : Prop :=
  ∃ es clock, w.heap[r]? = some (.map es clock) ∧ es.toList.map (fun e => (e.key, e.val)) = L.map (fun p => (ek p.1, ev p.2)) ∧
    (keys L).Nodup ∧ (es.toList.map (·.born)).Nodup ∧ ∀ e ∈ es.toList, e.born < clock

variable {ek : κ → Value} {ev : υ → Value} {w w' : World} {r : Nat} {L : List (κ × υ)}

theorem IsMap.lt (h : IsMap ek ev w r L) : r < w.heap.size := by
  obtain ⟨es, clock, hb, _⟩ := h
  exact (Array.getElem?_eq_some_iff.1 hb).1

theorem IsMap.nodup (h : IsMap ek ev w r L) : (keys L).Nodup := by
  obtain ⟨_, _, _, _, h, _⟩ := h; exact h

theorem IsMap.of_block (h : IsMap ek ev w r L) (hb : w'.heap[r]? = w.heap[r]?) : IsMap ek ev w' r L := by
  obtain ⟨es, clock, h1, h2⟩ := h
  exact ⟨es, clock, hb.trans h1, h2⟩

theorem IsMap.fr {F : Nat → Prop} (h : IsMap ek ev w r L) (hf : Fr F w w') (hF : ¬ F r) : IsMap ek ev w' r L :=
  h.of_block (hf.block r h.lt hF)

theorem IsMap.alloc (h : IsMap ek ev w r L) (o : Obj) : IsMap ek ev (w.alloc o) r L :=
  h.of_block (Below.heap_alloc w o r h.lt)

theorem IsMap.drew (h : IsMap ek ev w r L) : IsMap ek ev w.drew r L := h
theorem IsMap.drewN (h : IsMap ek ev w r L) (n : Nat) : IsMap ek ev (w.drewN n) r L := h

theorem IsMap.setCell (h : IsMap ek ev w r L) {a : Addr} (ha : r ≠ a.block) (u : Value) : IsMap ek ev (w.setCell a u) r L :=
  h.of_block (Below.heap_setCell w a u r ha)

theorem isMap_new (w : World) : IsMap ek ev (w.alloc (.map #[] 0)) w.heap.size ([] : List (κ × υ)) :=
  ⟨#[], 0, (Go.MapKept.heap_alloc w _).1, by simp, by simp, by simp, by simp⟩

variable [DecidableEq κ]
/-- where a key stands -/
def lookIdx (ev : υ → Value) : List (κ × υ) → κ → Nat → Option (Nat × Value)
  | [], _, _ => none
  | (a, v) :: l, k, i => if a = k then some (i, ev v) else lookIdx ev l k (i + 1)

theorem findNow_lookIdx {d : TypeDesc} (hs : ∀ a b, Instr.sameNow d (ek a) (ek b) = some (decide (a = b))) (k : κ) :
    ∀ (es : List MapEntry) (L : List (κ × υ)), es.map (fun e => (e.key, e.val)) = L.map (fun p => (ek p.1, ev p.2)) → ∀ i,
      Instr.findNow d (ek k) es i = some (lookIdx ev L k i) := by
  intro es
  induction es with
  | nil => intro L h i; cases L with
    | nil => rfl
    | cons p L => simp at h
  | cons e es ih =>
    intro L h i
    cases L with
    | nil => simp at h
    | cons p L =>
      obtain ⟨a, v⟩ := p
      simp only [List.map_cons, List.cons.injEq, Prod.mk.injEq] at h
      simp only [Instr.findNow, lookIdx, h.1.1, hs]
      by_cases e' : a = k
      · simp [e', h.1.2]
      · have : k ≠ a := Ne.symm e'
        simp [e', this, ih L h.2]

theorem lookIdx_none {k : κ} : ∀ (L : List (κ × υ)) (i : Nat), lookIdx ev L k i = none ↔ k ∉ keys L
  | [], i => by simp [lookIdx]
  | (a, v) :: l, i => by
    simp only [lookIdx, keys_cons, List.mem_cons, not_or]
    by_cases h : a = k
    · simp [h]
    · simp [h, lookIdx_none l, Ne.symm h]

theorem lookIdx_some {k : κ} : ∀ (L : List (κ × υ)) (i j : Nat) (x : Value), lookIdx ev L k i = some (j, x) →
    ∃ n v, j = i + n ∧ n < L.length ∧ aget L k = some v ∧ x = ev v ∧ (∀ u, aput L k u = L.set n (k, u)) ∧ adel L k = L.eraseIdx n ∧ (L.map (·.1))[n]? = some k
  | [], i, j, x, h => by simp [lookIdx] at h
  | (a, v) :: l, i, j, x, h => by
    simp only [lookIdx] at h
    by_cases e : a = k
    · subst e
      simp only [if_true, Option.some.injEq, Prod.mk.injEq] at h
      exact ⟨0, v, by omega, by simp, by simp [aget], h.2.symm, by simp [aput], by simp [adel], by simp⟩
    · simp only [if_neg e] at h
      obtain ⟨n, u, h1, h2, h3, h4, h5, h6, h7⟩ := lookIdx_some l _ _ _ h
      exact ⟨n + 1, u, by omega, by simp; omega, by simp [aget, e, h3], h4, by intro z; simp [aput, e, h5], by simp [adel, e, h6], by simpa using h7⟩

theorem run_findKey {kt : TypeId} (K : KeyTy P kt ek) {es : Array MapEntry} (h : es.toList.map (fun e => (e.key, e.val)) = L.map (fun p => (ek p.1, ev p.2))) (k : κ) (w : World) :
    (Instr.findKey kt (ek k) es.toList).run P w = .ok (lookIdx ev L k 0) w := by
  obtain ⟨d, hd, hs⟩ := K.same
  have := findNow_lookIdx (ek := ek) (ev := ev) hs k es.toList L h 0
  simp only [Instr.findKey]
  simp [run_underlying hd, this]

omit [DecidableEq κ] in
theorem IsMap.length (h : IsMap ek ev w r L) : ∃ es clock, w.heap[r]? = some (.map es clock) ∧ es.size = L.length := by
  obtain ⟨es, clock, hb, hm, _⟩ := h
  refine ⟨es, clock, hb, ?_⟩
  have := congrArg List.length hm
  simpa using this

/-- the block of a map, written anew -/
theorem Fr.setBlock {F : Nat → Prop} {w w' : World} (h : Fr F w w') {r : Nat} (hr : r < w.heap.size → F r) (o : Obj) : Fr F w (ChangeMaps.setBlock w' r o) :=
  ⟨h.os, h.tape, h.output, Nat.le_trans h.size (by unfold ChangeMaps.setBlock; simp), fun k hk hF => by
    have hne : k ≠ r := fun e => hF (e ▸ hr (e ▸ hk))
    have : (ChangeMaps.setBlock w' r o).heap[k]? = w'.heap[k]? := by
      unfold ChangeMaps.setBlock
      simp [Ne.symm hne]
    exact this.trans (h.block k hk hF)⟩

theorem map_eraseIdx {α β : Type} (f : α → β) : ∀ (l : List α) (i : Nat), (l.eraseIdx i).map f = (l.map f).eraseIdx i
  | [], _ => rfl
  | _ :: _, 0 => rfl
  | a :: l, i + 1 => by simp [map_eraseIdx f l i]

theorem fr_setBlock (w : World) (r : Nat) (o : Obj) : Fr (· = r) w (ChangeMaps.setBlock w r o) :=
  Fr.setBlock (F := (· = r)) (Fr.refl _ w) (fun _ => rfl) o

theorem setBlock_same (w : World) {r : Nat} (h : r < w.heap.size) (o : Obj) : (ChangeMaps.setBlock w r o).heap[r]? = some o := by
  unfold ChangeMaps.setBlock
  simp [h]

theorem setBlock_size (w : World) (r : Nat) (o : Obj) : (ChangeMaps.setBlock w r o).heap.size = w.heap.size := by
  unfold ChangeMaps.setBlock
  simp

theorem run_setObj_map {w : World} {r : Nat} {es : Array MapEntry} {clock : Nat} (hr : w.heap[r]? = some (.map es clock)) (o : Obj) :
    (setObj r o).run P w = .ok () (ChangeMaps.setBlock w r o) := by
  simp [setObj, Sem.run, hr, ChangeMaps.setBlock]

end
end Go.Proofs.YtmjbhnkhpgnchaaDoor
