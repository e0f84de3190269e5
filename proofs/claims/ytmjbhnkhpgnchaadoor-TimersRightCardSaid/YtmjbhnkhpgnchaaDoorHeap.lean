/-
  Heaps on lists of entries, in the order of the queue: plain laws, no program.
-/
import Derived.Test.YtmjbhnkhpgnchaaDoorCmp
namespace Go.Proofs.YtmjbhnkhpgnchaaDoor
open Go Go.RowKit

abbrev Ent := ByteArray × Nat

theorem ahead_asymm {a b : Ent} (h : ahead a b = true) : ahead b a = false := by
  cases h2 : ahead b a with
  | false => rfl
  | true => exact absurd (ahead_trans h h2) (by simp [ahead_irrefl])

theorem nle_trans {a b c : Ent} (h : ahead a b = false) (h' : ahead b c = false) : ahead a c = false := by
  cases h2 : ahead a c with
  | false => rfl
  | true =>
    cases h3 : ahead c b with
    | true => exact absurd (ahead_trans h2 h3) (by simp [h])
    | false =>
      have := ahead_total h' h3
      subst this
      exact absurd h2 (by simp [h])

/-- what stands at k is not ahead of what stands at p. -/
def okTo (l : List Ent) (k p : Nat) : Prop := ∀ a b, l[k]? = some a → l[p]? = some b → ahead a b = false

abbrev okAt (l : List Ent) (k : Nat) : Prop := okTo l k ((k - 1) / 2)

/-- the first n are a heap. -/
def IsHeap (l : List Ent) (n : Nat) : Prop := ∀ k, 0 < k → k < n → okAt l k

/-- a heap but for j, which may stand too low. -/
def UpI (l : List Ent) (j n : Nat) : Prop :=
  (∀ k, 0 < k → k < n → k ≠ j → okAt l k) ∧ (∀ k, 0 < k → k < n → (k - 1) / 2 = j → 0 < j → okTo l k ((j - 1) / 2))

/-- a heap but for i, which may stand too high or too low. -/
def DnI (l : List Ent) (i n : Nat) : Prop :=
  (∀ k, 0 < k → k < n → k ≠ i → (k - 1) / 2 ≠ i → okAt l k) ∧ (∀ k, 0 < k → k < n → (k - 1) / 2 = i → 0 < i → okTo l k ((i - 1) / 2))

def swp (l : List Ent) (i j : Nat) : List Ent :=
  match l[i]?, l[j]? with
  | some a, some b => (l.set i b).set j a
  | _, _ => l

theorem swp_eq {l : List Ent} {i j : Nat} {a b : Ent} (ha : l[i]? = some a) (hb : l[j]? = some b) : swp l i j = (l.set i b).set j a := by
  unfold swp
  rw [ha, hb]

theorem lt_of_get {α : Type} {l : List α} {i : Nat} {a : α} (h : l[i]? = some a) : i < l.length := (List.getElem?_eq_some_iff.1 h).1

theorem swp_length (l : List Ent) (i j : Nat) : (swp l i j).length = l.length := by
  unfold swp
  split <;> simp

theorem swp_get {l : List Ent} {i j : Nat} {a b : Ent} (ha : l[i]? = some a) (hb : l[j]? = some b) (hij : i ≠ j) (k : Nat) :
    (swp l i j)[k]? = if k = i then some b else if k = j then some a else l[k]? := by
  rw [swp_eq ha hb]
  have h1 := lt_of_get ha
  have h2 := lt_of_get hb
  rw [List.getElem?_set, List.getElem?_set]
  by_cases e1 : k = j
  · subst e1
    have : k ≠ i := fun e => hij e.symm
    simp [h2, this]
  · by_cases e2 : k = i
    · subst e2
      have : ¬ j = k := fun e => e1 e.symm
      simp [h1, this]
    · have h3 : ¬ j = k := fun e => e1 e.symm
      have h4 : ¬ i = k := fun e => e2 e.symm
      simp [e1, e2, h3, h4]

theorem cons_set_perm {α : Type} : ∀ (l : List α) (j : Nat) (b x : α), l[j]? = some b → (b :: l.set j x).Perm (x :: l)
  | [], j, b, x, h => by simp at h
  | y :: l, 0, b, x, h => by
    simp only [List.getElem?_cons_zero, Option.some.injEq] at h
    subst h
    rw [List.set_cons_zero]
    exact List.Perm.swap _ _ _
  | y :: l, j + 1, b, x, h => by
    simp only [List.getElem?_cons_succ] at h
    rw [List.set_cons_succ]
    exact (List.Perm.swap _ _ _).trans (((cons_set_perm l j b x h).cons y).trans (List.Perm.swap _ _ _))

theorem set_set_perm {α : Type} : ∀ (l : List α) (i j : Nat) (a b : α), l[i]? = some a → l[j]? = some b → i ≠ j → ((l.set i b).set j a).Perm l
  | [], i, j, a, b, h, _, _ => by simp at h
  | x :: l, 0, 0, a, b, _, _, h => absurd rfl h
  | x :: l, 0, j + 1, a, b, ha, hb, _ => by
    simp only [List.getElem?_cons_zero, Option.some.injEq] at ha
    subst ha
    simp only [List.getElem?_cons_succ] at hb
    simp only [List.set_cons_zero, List.set_cons_succ]
    exact cons_set_perm l j b x hb
  | x :: l, i + 1, 0, a, b, ha, hb, h => by
    simp only [List.getElem?_cons_zero, Option.some.injEq] at hb
    subst hb
    simp only [List.getElem?_cons_succ] at ha
    simp only [List.set_cons_zero, List.set_cons_succ]
    exact cons_set_perm l i a x ha
  | x :: l, i + 1, j + 1, a, b, ha, hb, h => by
    simp only [List.getElem?_cons_succ] at ha hb
    simp only [List.set_cons_succ]
    exact List.Perm.cons _ (set_set_perm l i j a b ha hb (by omega))

theorem swp_self {l : List Ent} {i : Nat} : swp l i i = l := by
  unfold swp
  cases h : l[i]? with
  | none => rfl
  | some a =>
    simp only
    rw [List.set_set]
    have h1 := lt_of_get h
    have h2 : l[i] = a := by
      have := List.getElem?_eq_getElem h1
      rw [this] at h
      exact Option.some.inj h
    rw [← h2, List.set_getElem_self]

theorem swp_perm (l : List Ent) (i j : Nat) : (swp l i j).Perm l := by
  by_cases hij : i = j
  · subst hij; rw [swp_self]
  · unfold swp
    split
    · rename_i a b ha hb
      exact set_set_perm l i j a b ha hb hij
    · exact List.Perm.refl _

theorem up_step {l : List Ent} {j n : Nat} (h : UpI l j n) (hj : j < n) (h0 : 0 < j) {a b : Ent} (ha : l[(j - 1) / 2]? = some a) (hb : l[j]? = some b) (hlt : ahead b a = true) :
    UpI (swp l ((j - 1) / 2) j) ((j - 1) / 2) n := by
  have hij : (j - 1) / 2 ≠ j := by omega
  have g := swp_get ha hb hij
  refine ⟨?_, ?_⟩
  · intro k hk hkn hki x y hx hy
    rw [g] at hx hy
    rw [if_neg hki] at hx
    by_cases e : k = j
    · subst e
      rw [if_pos rfl] at hx hy
      obtain rfl := Option.some.inj hx
      obtain rfl := Option.some.inj hy
      exact ahead_asymm hlt
    · rw [if_neg e] at hx
      by_cases e1 : (k - 1) / 2 = (j - 1) / 2
      · rw [if_pos e1] at hy
        obtain rfl := Option.some.inj hy
        have h1 := h.1 k hk hkn e x a hx (by rw [e1]; exact ha)
        cases h2 : ahead x b with
        | false => rfl
        | true => exact absurd (ahead_trans h2 hlt) (by simp [h1])
      · rw [if_neg e1] at hy
        by_cases e2 : (k - 1) / 2 = j
        · rw [if_pos e2] at hy
          obtain rfl := Option.some.inj hy
          exact h.2 k hk hkn e2 h0 x a hx ha
        · rw [if_neg e2] at hy
          exact h.1 k hk hkn e x y hx hy
  · intro k hk hkn hkp hi0 x y hx hy
    rw [g] at hx hy
    rw [if_neg (by omega), if_neg (by omega)] at hy
    have hai : ahead a y = false := h.1 ((j - 1) / 2) hi0 (by omega) hij a y ha hy
    rw [if_neg (by omega)] at hx
    by_cases e : k = j
    · rw [if_pos e] at hx
      obtain rfl := Option.some.inj hx
      exact hai
    · rw [if_neg e] at hx
      have h1 := h.1 k hk hkn e x a hx (by rw [hkp]; exact ha)
      exact nle_trans h1 hai

theorem up_done {l : List Ent} {j n : Nat} (h : UpI l j n) (hd : 0 < j → okAt l j) : IsHeap l n := by
  intro k hk hkn
  by_cases e : k = j
  · subst e; exact hd hk
  · exact h.1 k hk hkn e

theorem down_step {l : List Ent} {i j n : Nat} (h : DnI l i n) (hj : j < n) (h0 : 0 < j) (hp : (j - 1) / 2 = i) {a b : Ent} (ha : l[i]? = some a) (hb : l[j]? = some b) (hlt : ahead b a = true)
    (hmin : ∀ k, 0 < k → k < n → (k - 1) / 2 = i → okTo l k j) : DnI (swp l i j) j n ∧ okAt (swp l i j) j := by
  have hij : i ≠ j := by omega
  have g := swp_get ha hb hij
  refine ⟨⟨?_, ?_⟩, ?_⟩
  · intro k hk hkn hkj hkp x y hx hy
    rw [g] at hx hy
    rw [if_neg hkj] at hx
    by_cases e : k = i
    · subst e
      rw [if_pos rfl] at hx
      obtain rfl := Option.some.inj hx
      rw [if_neg (by omega), if_neg (by omega)] at hy
      exact h.2 j h0 hj hp hk _ y hb hy
    · rw [if_neg e] at hx
      by_cases e1 : (k - 1) / 2 = i
      · rw [if_pos e1] at hy
        obtain rfl := Option.some.inj hy
        exact hmin k hk hkn e1 x _ hx hb
      · rw [if_neg e1, if_neg hkp] at hy
        exact h.1 k hk hkn e e1 x y hx hy
  · intro k hk hkn hkp _ x y hx hy
    rw [g] at hx hy
    rw [if_neg (by omega), if_neg (by omega)] at hx
    rw [hp, if_pos rfl] at hy
    obtain rfl := Option.some.inj hy
    exact h.1 k hk hkn (by omega) (by omega) x _ hx (by rw [hkp]; exact hb)
  · intro x y hx hy
    rw [g] at hx hy
    rw [if_neg (by omega), if_pos rfl] at hx
    rw [hp, if_pos rfl] at hy
    obtain rfl := Option.some.inj hx
    obtain rfl := Option.some.inj hy
    exact ahead_asymm hlt

theorem down_done {l : List Ent} {i n : Nat} (h : DnI l i n) (hd : ∀ k, 0 < k → k < n → (k - 1) / 2 = i → okTo l k i) : UpI l i n := by
  refine ⟨fun k hk hkn hki => ?_, h.2⟩
  by_cases e : (k - 1) / 2 = i
  · have := hd k hk hkn e
    rw [← e] at this
    exact this
  · exact h.1 k hk hkn hki e

theorem heap_root {l : List Ent} {n : Nat} (h : IsHeap l n) : ∀ k, k < n → okTo l k 0 := by
  intro k
  induction k using Nat.strongRecOn with
  | ind k ih =>
    intro hk a b ha hb
    by_cases h0 : k = 0
    · subst h0
      rw [ha] at hb
      obtain rfl := Option.some.inj hb
      exact ahead_irrefl _
    · have hlt := lt_of_get ha
      obtain ⟨c, hc⟩ : ∃ c, l[(k - 1) / 2]? = some c := ⟨_, List.getElem?_eq_getElem (by omega)⟩
      exact nle_trans (h k (by omega) hk a c ha hc) (ih ((k - 1) / 2) (by omega) (by omega) c b hc hb)

/-- the last one has come in. -/
theorem up_push {l : List Ent} (e : Ent) (h : IsHeap l l.length) : UpI (l ++ [e]) l.length (l.length + 1) := by
  refine ⟨fun k hk hkn hkj a b ha hb => ?_, fun k hk hkn hkp => by omega⟩
  have hk2 : k < l.length := by omega
  rw [List.getElem?_append_left hk2] at ha
  rw [List.getElem?_append_left (by omega)] at hb
  exact h k hk hk2 a b ha hb

/-- i and the last one have changed places. -/
theorem dn_swap {l : List Ent} {i n : Nat} (h : IsHeap l (n + 1)) (hn : l.length = n + 1) (hi : i < n) : DnI (swp l i n) i n := by
  obtain ⟨a, ha⟩ : ∃ a, l[i]? = some a := ⟨_, List.getElem?_eq_getElem (by omega)⟩
  obtain ⟨b, hb⟩ : ∃ b, l[n]? = some b := ⟨_, List.getElem?_eq_getElem (by omega)⟩
  have g := swp_get ha hb (by omega)
  refine ⟨fun k hk hkn hki hkp x y hx hy => ?_, fun k hk hkn hkp hi0 x y hx hy => ?_⟩
  · rw [g] at hx hy
    rw [if_neg hki, if_neg (by omega)] at hx
    rw [if_neg hkp, if_neg (by omega)] at hy
    exact h k hk (by omega) x y hx hy
  · rw [g] at hx hy
    rw [if_neg (by omega), if_neg (by omega)] at hx
    rw [if_neg (by omega), if_neg (by omega)] at hy
    have h1 := h k hk (by omega) x a hx (by rw [hkp]; exact ha)
    have h2 := h i hi0 (by omega) a y ha hy
    exact nle_trans h1 h2

theorem heap_take {l : List Ent} {n : Nat} (h : IsHeap l n) (m : Nat) (hm : m ≤ n) : IsHeap (l.take m) m := by
  intro k hk hkm a b ha hb
  rw [List.getElem?_take, if_pos hkm] at ha
  rw [List.getElem?_take, if_pos (by omega)] at hb
  exact h k hk (by omega) a b ha hb

theorem heap_nil (n : Nat) : IsHeap [] n := by
  intro k _ _ a b ha
  simp at ha

/-- where each name stands -/
def Stands (l : List Ent) (W : List (ByteArray × Nat)) : Prop := ∀ n i, aget W n = some i ↔ ∃ a, l[i]? = some a ∧ a.1 = n

end Go.Proofs.YtmjbhnkhpgnchaaDoor
