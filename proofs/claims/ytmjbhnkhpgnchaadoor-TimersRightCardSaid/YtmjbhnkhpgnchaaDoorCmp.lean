/-
  cmp.Compare, cmp.Or, and how two timers of the wheel stand.
-/
import Derived.Test.YtmjbhnkhpgnchaaDoorWheelA
import Derived.StillTailTactics
import Derived.Shelf.SlSortCmp.WholeK
namespace Go.Proofs.YtmjbhnkhpgnchaaDoor
open Go Go.RowKit

def cmpN (a b : Nat) : Int := if a < b then -1 else if b < a then 1 else 0

def cmpS (a b : ByteArray) : Int := if Op.bytesLess a.toList b.toList = true then -1 else if (a.toList == b.toList) = true then 0 else 1

def orI (c0 c1 : Int) : Int := if c0 = 0 then c1 else c0

/-- how two timers stand -/
def cmpT (a b : ByteArray × Nat) : Int := orI (cmpN a.2 b.2) (cmpS a.1 b.1)

set_option maxRecDepth 100000 in
set_option maxHeartbeats 400000 in
theorem compare_u64 (a b : Nat) (w : World) :
    Calls Tryd.prog 67 #[.int .u64 a, .int .u64 b] w fun e w' => e = .returned (.int .i64 (cmpN a b)) ∧ w = w' := by
  have ha : ((a : Int) != (a : Int)) = false := by simp
  have hb : ((b : Int) != (b : Int)) = false := by simp
  unfold cmpN
  by_cases h1 : a < b
  · have h1' : decide ((a : Int) < (b : Int)) = true := by simpa using h1
    rw [if_pos h1]
    go_enter Tryd.func67, Tryd.ntmps67
    go_wp2
    go_ret
    exact ⟨rfl, rfl⟩
  · have h1' : decide ((a : Int) < (b : Int)) = false := by simpa using h1
    rw [if_neg h1]
    by_cases h2 : b < a
    · have h2' : decide ((b : Int) < (a : Int)) = true := by simpa using h2
      rw [if_pos h2]
      go_enter Tryd.func67, Tryd.ntmps67
      go_wp2
      go_ret
      exact ⟨rfl, rfl⟩
    · have h2' : decide ((b : Int) < (a : Int)) = false := by simpa using h2
      rw [if_neg h2]
      go_enter Tryd.func67, Tryd.ntmps67
      go_wp2
      go_ret
      exact ⟨rfl, rfl⟩

set_option maxRecDepth 100000 in
set_option maxHeartbeats 400000 in
theorem compare_str (a b : ByteArray) (w : World) :
    Calls Tryd.prog 68 #[.string a, .string b] w fun e w' => e = .returned (.int .i64 (cmpS a b)) ∧ w = w' := by
  have hv : cmpS a b = if Op.bytesLess a.toList b.toList = true then -1 else if (a.toList == b.toList) = true then 0 else 1 := rfl
  have HV := Lib.hid hv
  clear hv
  cases h1 : Op.bytesLess a.toList b.toList with
  | true =>
    go_enter Tryd.func68, Tryd.ntmps68
    go_wp2
    go_ret
    exact ⟨by rw [HV.out, h1]; rfl, rfl⟩
  | false =>
    cases h2 : (a.toList == b.toList) with
    | true =>
      have h3 : (!(a.toList == b.toList)) = false := by rw [h2]; rfl
      have H2 := Lib.hid h2
      clear h2
      go_enter Tryd.func68, Tryd.ntmps68
      go_wp2
      go_ret
      exact ⟨by rw [HV.out, h1, H2.out]; rfl, rfl⟩
    | false =>
      have h3 : (!(a.toList == b.toList)) = true := by rw [h2]; rfl
      have H2 := Lib.hid h2
      clear h2
      go_enter Tryd.func68, Tryd.ntmps68
      go_wp2
      go_ret
      exact ⟨by rw [HV.out, h1, H2.out]; rfl, rfl⟩

set_option maxRecDepth 100000 in
set_option maxHeartbeats 400000 in
theorem or_two (c0 c1 : Int) (blk cap : Nat) (w : World) (h0 : w.cell? ⟨blk, 0, none⟩ = some (.int .i64 c0)) (h1 : w.cell? ⟨blk, 1, none⟩ = some (.int .i64 c1)) :
    Calls Tryd.prog 66 #[.slice (some ⟨blk, 0, none⟩) 2 cap] w fun e w' => e = .returned (.int .i64 (orI c0 c1)) ∧ w = w' := by
  go_enter Tryd.func66, Tryd.ntmps66
  go_wp2
  go_loop [8] (fun i => ∃ k : Nat, k ≤ 2 ∧ i = .int .i64 k ∧ (1 ≤ k → c0 = 0) ∧ (2 ≤ k → c1 = 0)) (fun i => 2 - (intOf i).toNat)
  case atStart => exact ⟨0, by omega, rfl, by omega, by omega⟩
  case round =>
    obtain ⟨k, hk, rfl, g0, g1⟩ := hrel
    obtain rfl | rfl | rfl : k = 0 ∨ k = 1 ∨ k = 2 := by omega
    · by_cases e : c0 = 0
      · have hb : (c0 != 0) = false := by simpa using e
        have HE := Lib.hid e
        clear e g0 g1
        go_wp2
        go_round
        case rel => exact ⟨1, by omega, rfl, fun _ => HE.out, by omega⟩
        case measure => simp [intOf]
      · have hb : (c0 != 0) = true := by simpa using e
        have HE := Lib.hid (show orI c0 c1 = c0 from if_neg e)
        clear e g0 g1
        go_wp2
        go_ret
        exact ⟨by rw [HE.out]; rfl, rfl⟩
    · have e : c0 = 0 := g0 (by omega)
      clear g0 h0
      by_cases e1 : c1 = 0
      · have hb : (c1 != 0) = false := by simpa using e1
        have HE := Lib.hid e1
        have HE0 := Lib.hid e
        clear e1 g1 e
        go_wp2
        go_round
        case rel => exact ⟨2, by omega, rfl, fun _ => HE0.out, fun _ => HE.out⟩
        case measure => simp [intOf]
      · have hb : (c1 != 0) = true := by simpa using e1
        have HE := Lib.hid (show orI c0 c1 = c1 from if_pos e)
        clear e g1 e1
        go_wp2
        go_ret
        exact ⟨by rw [HE.out]; rfl, rfl⟩
    · have e : c0 = 0 := g0 (by omega)
      have e1 : c1 = 0 := g1 (by omega)
      have HE := Lib.hid (show orI c0 c1 = 0 from (if_pos e).trans e1)
      clear g0 g1 h0 h1 e e1
      go_wp2
      go_ret
      exact ⟨by rw [HE.out]; rfl, rfl⟩

def encT (x : ByteArray × Nat) : List Value := [.string x.1, .int .u64 x.2]

open Go.Sort in
theorem three_grow (W : World) (a b c : Obj) : ∃ os, (((W.alloc a).alloc b).drew).alloc c = grow (W.drewN 1) os := by
  refine ⟨#[a] ++ #[b] ++ #[c], ?_⟩
  rw [alloc_eq_grow, alloc_eq_grow, alloc_eq_grow, grow_grow]
  exact grow_grow (W.drewN 1) (#[a] ++ #[b]) #[c]

open Go.Sort in
set_option maxRecDepth 100000 in
set_option maxHeartbeats 400000 in
theorem compare_any (x y : ByteArray × Nat) (W : World) :
    Calls Tryd.prog 57 #[.agg #[.string x.1, .int .u64 x.2], .agg #[.string y.1, .int .u64 y.2]] W fun e w' => e = .returned (.int .i64 (cmpT x y)) ∧ ∃ q os', w' = grow (W.drewN q) os' := by
  have h1 := fun w => (compare_u64 x.2 y.2 w).mono fun _ _ h => And.intro h.1 h.2.symm
  have h2 := fun w => (compare_str x.1 y.1 w).mono fun _ _ h => And.intro h.1 h.2.symm
  unfold cmpT
  generalize cmpN x.2 y.2 = cn at h1 ⊢
  generalize cmpS x.1 y.1 = cs at h2 ⊢
  have H1 := Lib.hid h1
  have H2 := Lib.hid h2
  clear h1 h2
  go_enter Tryd.func57, Tryd.ntmps57
  go_wp2
  have hW : ∃ w2, w2 = ((W.alloc (Obj.cells #[Value.string x.fst, Value.int IntKind.u64 ↑x.snd] 67)).alloc (Obj.cells #[Value.string y.fst, Value.int IntKind.u64 ↑y.snd] 67)).drew := ⟨_, rfl⟩
  obtain ⟨w2, hw2⟩ := hW
  refine wp_region_still_tail 10 (by kernel_rfl) (by kernel_rfl) ?_
  change wpStill _ _ (World.drew _) (fun a' => wpList _ _ _ _ a' (World.drew _)) _ _
  rw [← hw2]
  have c0 : w2.cell? ⟨W.heap.size, 0, none⟩ = some (.string x.1) := by rw [hw2]; simp [World.cell?_drew]
  have c1 : w2.cell? ⟨W.heap.size, 1, none⟩ = some (.int .u64 x.2) := by rw [hw2]; simp
  have c2 : w2.cell? ⟨W.heap.size + 1, 0, none⟩ = some (.string y.1) := by rw [hw2]; simp
  have c3 : w2.cell? ⟨W.heap.size + 1, 1, none⟩ = some (.int .u64 y.2) := by rw [hw2]; simp
  have HW := Lib.hid hw2
  clear hw2
  simp only [List.take_succ_cons, List.take_zero, List.drop_succ_cons, List.drop_zero]
  repeat still_step
  still_call (H1.out _)
  repeat still_step
  still_call (H2.out _)
  refine wpStill_nil ?_
  go_wp2_with fail
  refine (or_two cn cs _ _ _ (by simp) (by simp)).mono ?_
  rintro e w' ⟨rfl, rfl⟩
  go_wp2
  go_ret
  rw [HW.out]
  exact ⟨rfl, 1, three_grow _ _ _ _⟩

open Go.Sort Go.Shelf in
theorem compare_lays (blk off size : Nat) (w : World) : CmpLays Tryd.prog 57 #[] encT 2 cmpT blk off size w :=
  fun _ _ _ _ x y => compare_any x y _

/-! the order -/
theorem bytesLess_irrefl (a : List UInt8) : Op.bytesLess a a = false := by
  induction a with
  | nil => rfl
  | cons x a ih => simp [Op.bytesLess, ih]

theorem bytesLess_trans : ∀ {a b c : List UInt8}, Op.bytesLess a b = true → Op.bytesLess b c = true → Op.bytesLess a c = true
  | [], [], _, h, _ => by simp [Op.bytesLess] at h
  | [], _ :: _, [], _, h => by simp [Op.bytesLess] at h
  | [], _ :: _, _ :: _, _, _ => by simp [Op.bytesLess]
  | _ :: _, [], _, h, _ => by simp [Op.bytesLess] at h
  | _ :: _, _ :: _, [], _, h => by simp [Op.bytesLess] at h
  | x :: a, y :: b, z :: c, h, h' => by
    simp only [Op.bytesLess, Bool.or_eq_true, decide_eq_true_eq, Bool.and_eq_true, beq_iff_eq] at *
    rcases h with h | ⟨h1, h2⟩
    · rcases h' with h' | ⟨h1', h2'⟩
      · exact .inl (UInt8.lt_trans h h')
      · exact .inl (h1' ▸ h)
    · rcases h' with h' | ⟨h1', h2'⟩
      · exact .inl (h1 ▸ h')
      · exact .inr ⟨h1.trans h1', bytesLess_trans h2 h2'⟩

theorem bytesLess_total : ∀ (a b : List UInt8), Op.bytesLess a b = false → Op.bytesLess b a = false → a = b
  | [], [], _, _ => rfl
  | [], _ :: _, h, _ => by simp [Op.bytesLess] at h
  | _ :: _, [], _, h => by simp [Op.bytesLess] at h
  | x :: a, y :: b, h, h' => by
    simp only [Op.bytesLess, Bool.or_eq_false_iff, decide_eq_false_iff_not, Bool.and_eq_false_iff, beq_eq_false_iff_ne, ne_eq] at *
    have e : x = y := by
      apply UInt8.le_antisymm
      · exact UInt8.not_lt.1 h'.1
      · exact UInt8.not_lt.1 h.1
    subst e
    have h2 : Op.bytesLess a b = false := by rcases h.2 with h | h; exact absurd rfl h; exact h
    have h3 : Op.bytesLess b a = false := by rcases h'.2 with h | h; exact absurd rfl h; exact h
    rw [bytesLess_total a b h2 h3]

/-- a stands ahead of b -/
def ahead (a b : ByteArray × Nat) : Bool := decide (a.2 < b.2) || (decide (a.2 = b.2) && Op.bytesLess a.1.toList b.1.toList)

theorem lt_cmpT (a b : ByteArray × Nat) : Go.Proofs.ltOf cmpT a b = ahead a b := by
  unfold Go.Proofs.ltOf cmpT orI cmpN cmpS ahead
  by_cases h1 : a.2 < b.2
  · simp [h1]
  · by_cases h2 : b.2 < a.2
    · have : ¬ a.2 = b.2 := by omega
      simp [h1, h2, this]
    · have : a.2 = b.2 := by omega
      cases h3 : Op.bytesLess a.1.toList b.1.toList with
      | true => simp [this]
      | false =>
        simp only [this, Nat.lt_irrefl, if_false, if_true, Bool.false_eq_true]
        split <;> simp

theorem ahead_irrefl (a : ByteArray × Nat) : ahead a a = false := by
  simp [ahead, bytesLess_irrefl]

theorem ahead_trans {a b c : ByteArray × Nat} (h : ahead a b = true) (h' : ahead b c = true) : ahead a c = true := by
  simp only [ahead, Bool.or_eq_true, decide_eq_true_eq, Bool.and_eq_true] at *
  rcases h with h | ⟨h1, h2⟩
  · rcases h' with h' | ⟨h1', h2'⟩
    · exact .inl (Nat.lt_trans h h')
    · exact .inl (h1' ▸ h)
  · rcases h' with h' | ⟨h1', h2'⟩
    · exact .inl (h1 ▸ h')
    · exact .inr ⟨h1.trans h1', bytesLess_trans h2 h2'⟩

theorem ahead_total {a b : ByteArray × Nat} (h : ahead a b = false) (h' : ahead b a = false) : a = b := by
  simp only [ahead, Bool.or_eq_false_iff, decide_eq_false_iff_not, Bool.and_eq_false_iff] at *
  have e : a.2 = b.2 := by omega
  have h1 : Op.bytesLess a.1.toList b.1.toList = false := h.2.resolve_left (fun x => x e)
  have h2 : Op.bytesLess b.1.toList a.1.toList = false := h'.2.resolve_left (fun x => x e.symm)
  have h3 := bytesLess_total _ _ h1 h2
  rw [ByteArray.toList_eq, ByteArray.toList_eq] at h3
  have h4 : a.1 = b.1 := by
    apply ByteArray.ext
    exact Array.ext' h3
  exact Prod.ext h4 e

theorem swo_cmpT : Go.Sort.SWO (Go.Proofs.ltOf cmpT) where
  irrefl x := by rw [lt_cmpT]; exact ahead_irrefl x
  trans x y z h h' := by rw [lt_cmpT] at *; exact ahead_trans h h'
  ntrans x y z h h' := by
    rw [lt_cmpT] at *
    cases hz : ahead x z with
    | false => rfl
    | true =>
      cases hy : ahead y x with
      | true => rw [ahead_trans hy hz] at h'; cases h'
      | false => rw [ahead_total h hy] at hz; rw [hz] at h'; cases h'

end Go.Proofs.YtmjbhnkhpgnchaaDoor
