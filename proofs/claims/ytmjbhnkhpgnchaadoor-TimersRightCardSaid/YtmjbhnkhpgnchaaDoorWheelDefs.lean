/-
  The wheel as plain data, and how it lies in memory.
-/
import Derived.Test.YtmjbhnkhpgnchaaDoorOps
import Derived.Test.YtmjbhnkhpgnchaaDoorProg
import Derived.Lib.BitFns
namespace Go.Proofs.YtmjbhnkhpgnchaaDoor
open Go Go.RowKit

abbrev u64v (n : Nat) : Value := .int .u64 n

/-- what the wheel's blocks hold -/
structure WSt where
  now : Nat
  ra : Nat
  rf : Nat
  rs : Nat → Nat
  all : List (ByteArray × Nat)
  slot : Nat → List (ByteArray × Nat)
  far : List (ByteArray × Nat)

/-- the level of a deadline, as the code reckons it -/
def levOf (now at_ : Nat) : Nat := (Lib.bitLen (at_ ^^^ now) - 1) / 4

/-- the place of a deadline: slot number, 64: far -/
def plcOf (now at_ : Nat) : Nat := if levOf now at_ < 4 then 16 * levOf now at_ + (at_ / 2 ^ (4 * levOf now at_)) % 16 else 64

theorem plcOf_le (now at_ : Nat) : plcOf now at_ ≤ 64 := by unfold plcOf; split <;> omega

def WSt.id (S : WSt) (i : Nat) : Nat := if i < 64 then S.rs i else S.rf
def WSt.get (S : WSt) (i : Nat) : List (ByteArray × Nat) := if i < 64 then S.slot i else S.far
def WSt.set (S : WSt) (i : Nat) (l : List (ByteArray × Nat)) : WSt :=
  if i < 64 then { S with slot := fun j => if j = i then l else S.slot j } else { S with far := l }

def wcells (S : WSt) : Array Value :=
  (Value.int .u64 (S.now : Int) :: Value.map (some S.ra) :: ((List.range 64).map fun i => Value.map (some (S.rs i))) ++ [Value.map (some S.rf)]).toArray

/-- The wheel lies at b. -/
structure WheelAt (w : World) (b : Nat) (S : WSt) : Prop where
  block : w.heap[b]? = some (.cells (wcells S) 86 (0, 0))
  all : IsMap Value.string u64v w S.ra S.all
  place : ∀ i, i ≤ 64 → IsMap Value.string u64v w (S.id i) (S.get i)
  apart : ∀ i, i ≤ 64 → S.id i ≠ S.ra
  once : ∀ i j, i ≤ 64 → j ≤ 64 → S.id i = S.id j → i = j

/-- the wheel's blocks -/
def WSt.foot (S : WSt) (b : Nat) (k : Nat) : Prop := k = b ∨ k = S.ra ∨ ∃ i, i ≤ 64 ∧ k = S.id i

section
variable {w w' : World} {b : Nat} {S : WSt}

theorem wcells_now (S : WSt) : (wcells S)[0]? = some (.int .u64 S.now) := rfl
theorem wcells_all (S : WSt) : (wcells S)[1]? = some (.map (some S.ra)) := rfl
theorem wcells_slot (S : WSt) {i : Nat} (h : i < 64) : (wcells S)[2 + i]? = some (.map (some (S.rs i))) := by
  unfold wcells
  rw [show 2 + i = i + 1 + 1 by omega]
  simp [List.getElem?_append, h]
theorem wcells_far (S : WSt) : (wcells S)[66]? = some (.map (some S.rf)) := by
  unfold wcells
  simp

theorem WheelAt.cell (h : WheelAt w b S) (i : Nat) : w.cell? ⟨b, i, none⟩ = (wcells S)[i]? := by
  simp [World.cell?, h.block]
theorem WheelAt.cnow (h : WheelAt w b S) : w.cell? ⟨b, 0, none⟩ = some (.int .u64 S.now) := (h.cell 0).trans (wcells_now S)
theorem WheelAt.call (h : WheelAt w b S) : w.cell? ⟨b, 1, none⟩ = some (.map (some S.ra)) := (h.cell 1).trans (wcells_all S)
theorem WheelAt.cslot (h : WheelAt w b S) {i : Nat} (hi : i < 64) : w.cell? ⟨b, 2 + i, none⟩ = some (.map (some (S.rs i))) := (h.cell _).trans (wcells_slot S hi)
theorem WheelAt.cfar (h : WheelAt w b S) : w.cell? ⟨b, 66, none⟩ = some (.map (some S.rf)) := (h.cell 66).trans (wcells_far S)
theorem WheelAt.frozen (h : WheelAt w b S) (i : Nat) : w.frozen? ⟨b, i, none⟩ = false := by
  simp [World.frozen?, h.block]
theorem WheelAt.lt (h : WheelAt w b S) : b < w.heap.size := (Array.getElem?_eq_some_iff.1 h.block).1

theorem WheelAt.ne_all (h : WheelAt w b S) : b ≠ S.ra := by
  intro e
  obtain ⟨es, c, h1, _⟩ := h.all
  rw [← e, h.block] at h1
  simp at h1
theorem WheelAt.ne_place (h : WheelAt w b S) {i : Nat} (hi : i ≤ 64) : b ≠ S.id i := by
  intro e
  obtain ⟨es, c, h1, _⟩ := h.place i hi
  rw [← e, h.block] at h1
  simp at h1

theorem WheelAt.of_blocks (h : WheelAt w b S) (hb : ∀ k, S.foot b k → w'.heap[k]? = w.heap[k]?) : WheelAt w' b S where
  block := (hb b (.inl rfl)).trans h.block
  all := h.all.of_block (hb _ (.inr (.inl rfl)))
  place i hi := (h.place i hi).of_block (hb _ (.inr (.inr ⟨i, hi, rfl⟩)))
  apart := h.apart
  once := h.once

theorem WheelAt.foot_lt (h : WheelAt w b S) {k : Nat} (hk : S.foot b k) : k < w.heap.size := by
  rcases hk with rfl | rfl | ⟨i, hi, rfl⟩
  · exact h.lt
  · exact h.all.lt
  · exact (h.place i hi).lt

theorem WheelAt.fr {F : Nat → Prop} (h : WheelAt w b S) (hf : Fr F w w') (hF : ∀ k, S.foot b k → ¬ F k) : WheelAt w' b S :=
  h.of_blocks fun k hk => hf.block k (h.foot_lt hk) (hF k hk)

theorem WheelAt.drewN (h : WheelAt w b S) (n : Nat) : WheelAt (w.drewN n) b S := h.of_blocks fun _ _ => rfl
theorem WheelAt.drew (h : WheelAt w b S) : WheelAt w.drew b S := h.of_blocks fun _ _ => rfl
theorem WheelAt.alloc (h : WheelAt w b S) (o : Obj) : WheelAt (w.alloc o) b S :=
  h.of_blocks fun k hk => Below.heap_alloc w o k (h.foot_lt hk)

theorem set_id (S : WSt) (i : Nat) (l : List (ByteArray × Nat)) (j : Nat) : (S.set i l).id j = S.id j := by
  unfold WSt.set; split <;> rfl
theorem set_ra (S : WSt) (i : Nat) (l : List (ByteArray × Nat)) : (S.set i l).ra = S.ra := by
  unfold WSt.set; split <;> rfl
theorem set_all (S : WSt) (i : Nat) (l : List (ByteArray × Nat)) : (S.set i l).all = S.all := by
  unfold WSt.set; split <;> rfl
theorem set_now (S : WSt) (i : Nat) (l : List (ByteArray × Nat)) : (S.set i l).now = S.now := by
  unfold WSt.set; split <;> rfl
theorem set_foot (S : WSt) (i : Nat) (l : List (ByteArray × Nat)) (b : Nat) : (S.set i l).foot b = S.foot b := by
  funext k; simp only [WSt.foot, set_ra, set_id]
theorem set_wcells (S : WSt) (i : Nat) (l : List (ByteArray × Nat)) : wcells (S.set i l) = wcells S := by
  unfold WSt.set wcells; split <;> rfl
theorem set_get_same (S : WSt) (i : Nat) (l : List (ByteArray × Nat)) : (S.set i l).get i = l := by
  unfold WSt.set WSt.get
  by_cases h : i < 64 <;> simp [h]
theorem set_get_other (S : WSt) {i j : Nat} (hi : i ≤ 64) (hj : j ≤ 64) (hne : j ≠ i) (l : List (ByteArray × Nat)) : (S.set i l).get j = S.get j := by
  unfold WSt.set WSt.get
  by_cases h : i < 64
  · by_cases h' : j < 64 <;> simp [h, h', hne]
  · have : j < 64 := by omega
    simp [h, this]

/-- one place's map has been written. -/
theorem WheelAt.set (h : WheelAt w b S) {i : Nat} (hi : i ≤ 64) {l : List (ByteArray × Nat)} (hf : Fr (· = S.id i) w w') (hm : IsMap Value.string u64v w' (S.id i) l) : WheelAt w' b (S.set i l) where
  block := by
    rw [set_wcells]
    exact (hf.block b h.lt (h.ne_place hi)).trans h.block
  all := by
    rw [set_ra, set_all]
    exact h.all.fr hf (Ne.symm (h.apart i hi))
  place j hj := by
    rw [set_id]
    by_cases e : j = i
    · subst e
      rw [set_get_same]
      exact hm
    · rw [set_get_other S hi hj e]
      exact (h.place j hj).fr hf (fun e' => e (h.once j i hj hi e'))
  apart j hj := by rw [set_id, set_ra]; exact h.apart j hj
  once j k hj hk e := by rw [set_id, set_id] at e; exact h.once j k hj hk e

/-- the map of all has been written. -/
theorem WheelAt.setAll (h : WheelAt w b S) {l : List (ByteArray × Nat)} (hf : Fr (· = S.ra) w w') (hm : IsMap Value.string u64v w' S.ra l) : WheelAt w' b { S with all := l } where
  block := (hf.block b h.lt h.ne_all).trans h.block
  all := hm
  place j hj := (h.place j hj).fr hf (h.apart j hj)
  apart := h.apart
  once := h.once

/-- a timer is taken away -/
def WSt.drop (S : WSt) (name : ByteArray) : WSt :=
  match aget S.all name with
  | none => S
  | some t => { S.set (plcOf S.now t) (adel (S.get (plcOf S.now t)) name) with all := adel S.all name }

/-- a timer is put -/
def WSt.put (S : WSt) (name : ByteArray) (t : Nat) : WSt :=
  { S.drop name with all := aput (S.drop name).all name t }.set (plcOf S.now t) (aput ((S.drop name).get (plcOf S.now t)) name t)

theorem drop_now (S : WSt) (name : ByteArray) : (S.drop name).now = S.now := by
  unfold WSt.drop; split
  · rfl
  · exact set_now _ _ _
theorem drop_ra (S : WSt) (name : ByteArray) : (S.drop name).ra = S.ra := by
  unfold WSt.drop; split
  · rfl
  · exact set_ra _ _ _
theorem drop_id (S : WSt) (name : ByteArray) (i : Nat) : (S.drop name).id i = S.id i := by
  unfold WSt.drop; split
  · rfl
  · exact set_id _ _ _ _
theorem drop_all (S : WSt) (name : ByteArray) : (S.drop name).all = adel S.all name := by
  unfold WSt.drop; split
  · rename_i h
    exact (adel_none (aget_none.1 h)).symm
  · rfl
theorem drop_foot (S : WSt) (name : ByteArray) (b : Nat) : (S.drop name).foot b = S.foot b := by
  funext k; simp only [WSt.foot, drop_ra, drop_id]

theorem foot_all (S : WSt) (b : Nat) : S.foot b S.ra := .inr (.inl rfl)
theorem foot_place (S : WSt) (b : Nat) {i : Nat} (hi : i ≤ 64) : S.foot b (S.id i) := .inr (.inr ⟨i, hi, rfl⟩)
end
end Go.Proofs.YtmjbhnkhpgnchaaDoor
