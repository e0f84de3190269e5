/-
  The reference's functions on a list of entries: Find, Due, Level, Figure.
-/
import Derived.Test.YtfjmdblfokjnmaaGood
namespace Go.Proofs.Ytfjmdblfokjnmaa
open Go Go.RowKit

theorem str_ne {a b : ByteArray} (h : a ≠ b) : (a.toList == b.toList) = false := by
  rw [Bool.eq_false_iff]
  intro e
  have e2 : a.toList = b.toList := by simpa using e
  rw [ByteArray.toList_eq, ByteArray.toList_eq] at e2
  exact h (ByteArray.ext (Array.ext' e2))

/-- the slice v of entries reads xs -/
theorem SlAt.view {e : TypeId} {w : World} {v : Value} {xs : List (ByteArray × Nat)} (h : SlAt encT 2 e w v xs) :
    ∃ a cap, v = .slice a xs.length cap ∧ xs.length ≤ cap ∧ ∀ i p, xs[i]? = some p → ∃ g off, a = some ⟨g, off, none⟩ ∧
      w.cell? ⟨g, off + i * 2, none⟩ = some (.string p.1) ∧ w.cell? ⟨g, off + i * 2 + 1, none⟩ = some (.int .u64 p.2) := by
  obtain ⟨a, cap, hv, _, hc⟩ := h.shape
  refine ⟨a, cap, hv, hc, fun i p hp => ?_⟩
  obtain ⟨hi, he⟩ := List.getElem?_eq_some_iff.1 hp
  obtain ⟨g, off, cap', hv', hcell⟩ := h.cell encT_len hi
  rw [hv] at hv'
  injection hv' with e1 _ _
  refine ⟨g, off, e1, ?_, ?_⟩
  · have := hcell 0 (by omega)
    rw [he] at this
    exact this
  · have := hcell 1 (by omega)
    rw [he] at this
    exact this

/-- the name is at z, or nowhere -/
def FindSays (xs : List (ByteArray × Nat)) (name : ByteArray) (z : Int) : Prop := (0 ≤ z ↔ name ∈ keys xs) ∧ z ≤ 1000000000

set_option maxRecDepth 100000 in
set_option maxHeartbeats 400000 in
theorem ref_find (w : World) (v : Value) (xs : List (ByteArray × Nat)) (name : ByteArray) (h : SlAt encT 2 45 w v xs) (hl : xs.length ≤ 1000000) :
    Calls Try.prog 22 #[v, .string name] w fun e w' => (∃ z, FindSays xs name z ∧ e = .returned (.int .i64 z)) ∧ w = w' := by
  obtain ⟨a, cap, rfl, _, hcell⟩ := h.view
  clear h
  have HC := Lib.hid hcell
  clear hcell
  go_enter Try.func22, Try.ntmps22
  go_wp2
  go_loop [5] (fun i => ∃ k : Nat, k ≤ xs.length ∧ i = .int .i64 k ∧ ∀ j p, j < k → xs[j]? = some p → p.1 ≠ name) (fun i => xs.length - (intOf i).toNat)
  case atStart => exact ⟨0, by omega, rfl, fun j p hj => by omega⟩
  case round =>
    obtain ⟨k, hk, rfl, hprev⟩ := hrel
    have HP := Lib.hid hprev
    clear hprev
    by_cases hlt : k < xs.length
    · obtain ⟨p, hp⟩ : ∃ p, xs[k]? = some p := ⟨_, List.getElem?_eq_getElem hlt⟩
      obtain ⟨g, off, rfl, hc0, hc1⟩ := HC.out k p hp
      have HX := Lib.hid hp
      clear hp
      by_cases he : p.1 = name
      · have HF := Lib.hid (show FindSays xs name (k : Int) from ⟨⟨fun _ => List.mem_map.2 ⟨p, List.mem_of_getElem? HX.out, he⟩, fun _ => by omega⟩, by omega⟩)
        have hb : (p.1.toList == name.toList) = true := by rw [he]; exact beq_self_eq_true _
        go_wp2
        go_ret
        exact ⟨⟨_, HF.out, rfl⟩, rfl⟩
      · have HS := Lib.hid (show ∀ j q, j < k + 1 → xs[j]? = some q → q.1 ≠ name from fun j q hj hq => by
          by_cases e : j = k
          · subst e
            rw [HX.out] at hq
            cases hq
            exact he
          · exact HP.out j q (by omega) hq)
        have hb : (p.1.toList == name.toList) = false := str_ne he
        go_wp2
        go_round
        case rel => exact ⟨k + 1, by omega, by go_num, HS.out⟩
        case measure => simp [intOf]; omega
    · obtain rfl : k = xs.length := by omega
      have HF := Lib.hid (show FindSays xs name (-1) from ⟨⟨fun h => by omega, fun h => by
        obtain ⟨q, hq, e⟩ := List.mem_map.1 h
        obtain ⟨j, hj, e2⟩ := List.mem_iff_getElem.1 hq
        exact absurd e (HP.out j q hj (by rw [← e2]; exact List.getElem?_eq_getElem hj))⟩, by omega⟩)
      go_wp2
      go_ret
      exact ⟨⟨_, HF.out, rfl⟩, rfl⟩

/-- the first n are due, the next one is not -/
def DueSays (xs : List (ByteArray × Nat)) (now n : Nat) : Prop := n ≤ xs.length ∧ (∀ j p, j < n → xs[j]? = some p → p.2 ≤ now) ∧ ∀ p, xs[n]? = some p → now < p.2

set_option maxRecDepth 100000 in
set_option maxHeartbeats 400000 in
theorem ref_due (w : World) (v : Value) (xs : List (ByteArray × Nat)) (now : Nat) (h : SlAt encT 2 45 w v xs) (hl : xs.length ≤ 1000000) :
    Calls Try.prog 27 #[v, .int .u64 now] w fun e w' => (∃ n : Nat, DueSays xs now n ∧ e = .returned (.int .i64 n)) ∧ w = w' := by
  obtain ⟨a, cap, rfl, _, hcell⟩ := h.view
  clear h
  have HC := Lib.hid hcell
  clear hcell
  go_enter Try.func27, Try.ntmps27
  go_wp2
  go_loop [5] (fun i => ∃ k : Nat, k ≤ xs.length ∧ i = .int .i64 k ∧ ∀ j p, j < k → xs[j]? = some p → p.2 ≤ now) (fun i => xs.length - (intOf i).toNat)
  case atStart => exact ⟨0, by omega, rfl, fun j p hj => by omega⟩
  case round =>
    obtain ⟨k, hk, rfl, hprev⟩ := hrel
    have HP := Lib.hid hprev
    clear hprev
    by_cases hlt : k < xs.length
    · have hd : decide ((k : Int) < (xs.length : Int)) = true := by simp; omega
      obtain ⟨p, hp⟩ : ∃ p, xs[k]? = some p := ⟨_, List.getElem?_eq_getElem hlt⟩
      obtain ⟨g, off, rfl, hc0, hc1⟩ := HC.out k p hp
      have HX := Lib.hid hp
      clear hp
      by_cases he : p.2 ≤ now
      · have hb : decide ((p.2 : Int) ≤ (now : Int)) = true := by simpa using he
        have HS := Lib.hid (show ∀ j q, j < k + 1 → xs[j]? = some q → q.2 ≤ now from fun j q hj hq => by
          by_cases e : j = k
          · subst e
            rw [HX.out] at hq
            cases hq
            exact he
          · exact HP.out j q (by omega) hq)
        go_wp2
        go_round
        case rel => exact ⟨k + 1, by omega, by go_num, HS.out⟩
        case measure => simp [intOf]; omega
      · have hb : decide ((p.2 : Int) ≤ (now : Int)) = false := by simpa using he
        have HF := Lib.hid (show DueSays xs now k from ⟨hk, HP.out, fun q hq => by rw [HX.out] at hq; cases hq; omega⟩)
        go_wp2
        go_ret
        exact ⟨⟨_, HF.out, rfl⟩, rfl⟩
    · obtain rfl : k = xs.length := by omega
      have hd : decide ((xs.length : Int) < (xs.length : Int)) = false := by simp
      have HF := Lib.hid (show DueSays xs now xs.length from ⟨hk, HP.out, fun q hq => by simp at hq⟩)
      go_wp2
      go_ret
      exact ⟨⟨_, HF.out, rfl⟩, rfl⟩

/-- after i rounds: z is the greatest place below i at which the figures are unlike -/
def LevelIs (a b i : Nat) (z : Int) : Prop := -1 ≤ z ∧ z < i ∧ (0 ≤ z → a / 16 ^ z.toNat % 16 ≠ b / 16 ^ z.toNat % 16) ∧ ∀ j : Nat, z < j → j < i → a / 16 ^ j % 16 = b / 16 ^ j % 16

set_option maxRecDepth 100000 in
set_option maxHeartbeats 400000 in
theorem ref_level (w : World) (a b : Nat) (ha : a < 18446744073709551616) (hb : b < 18446744073709551616) :
    Calls Try.prog 38 #[.int .u64 a, .int .u64 b] w fun e w' => (∃ z, LevelIs a b 16 z ∧ e = .returned (.int .i64 z)) ∧ w = w' := by
  go_enter Try.func38, Try.ntmps38
  go_wp2
  go_loop [0, 1, 5, 6] (fun x y z i => ∃ (k : Nat) (zz : Int), k ≤ 16 ∧ i = .int .i64 k ∧ x = .int .u64 (a / 16 ^ k : Nat) ∧ y = .int .u64 (b / 16 ^ k : Nat) ∧ z = .int .i64 zz ∧ LevelIs a b k zz) (fun _ _ _ i => 16 - (intOf i).toNat)
  case atStart => exact ⟨0, -1, by omega, rfl, by simp, by simp, rfl, by omega, by omega, by omega, fun j _ h => by omega⟩
  case round =>
    obtain ⟨k, zz, hk, rfl, rfl, rfl, rfl, hz⟩ := hrel
    have HZ := Lib.hid hz
    have hz1 := hz.1
    have hz2 := hz.2.1
    clear hz
    by_cases hlt : k < 16
    · have hd : decide ((k : Int) < 16) = true := by simp; omega
      have HA := Lib.hid (show a / 16 ^ (k + 1) = a / 16 ^ k / 16 by rw [Nat.pow_succ, Nat.div_div_eq_div_mul])
      have HB := Lib.hid (show b / 16 ^ (k + 1) = b / 16 ^ k / 16 by rw [Nat.pow_succ, Nat.div_div_eq_div_mul])
      have HE := Lib.hid (show (a / 16 ^ k % 16 = a / 16 ^ k % 16) ∧ (b / 16 ^ k % 16 = b / 16 ^ k % 16) from ⟨rfl, rfl⟩)
      have hx64 : a / 16 ^ k < 18446744073709551616 := Nat.lt_of_le_of_lt (Nat.div_le_self _ _) ha
      have hy64 : b / 16 ^ k < 18446744073709551616 := Nat.lt_of_le_of_lt (Nat.div_le_self _ _) hb
      have HL := Lib.hid (show ∀ z', (a / 16 ^ k % 16 ≠ b / 16 ^ k % 16 ∧ z' = (k : Int)) ∨ (a / 16 ^ k % 16 = b / 16 ^ k % 16 ∧ z' = zz) → LevelIs a b (k + 1) z' from fun z' h => by
        rcases h with ⟨h1, rfl⟩ | ⟨h1, rfl⟩
        · exact ⟨by omega, by omega, fun _ => by simpa using h1, fun j h2 h3 => by omega⟩
        · refine ⟨hz1, by omega, HZ.out.2.2.1, fun j h2 h3 => ?_⟩
          by_cases e : j = k
          · subst e; exact h1
          · exact HZ.out.2.2.2 j h2 (by omega))
      generalize a / 16 ^ k = x at HA HL hx64
      generalize b / 16 ^ k = y at HB HL hy64
      by_cases he : x % 16 = y % 16
      · have ht : ((x : Int).tmod 16 == (y : Int).tmod 16) = true := by
          rw [beq_iff_eq, Int.tmod_eq_emod_of_nonneg (by omega), Int.tmod_eq_emod_of_nonneg (by omega)]
          omega
        go_wp2
        go_round
        case rel => exact ⟨k + 1, zz, by omega, by go_num, by rw [HA.out]; go_num, by rw [HB.out]; go_num, rfl, HL.out zz (.inr ⟨he, rfl⟩)⟩
        case measure => simp [intOf]; omega
      · have ht : ((x : Int).tmod 16 == (y : Int).tmod 16) = false := by
          rw [beq_eq_false_iff_ne, Int.tmod_eq_emod_of_nonneg (by omega), Int.tmod_eq_emod_of_nonneg (by omega)]
          omega
        go_wp2
        go_round
        case rel => exact ⟨k + 1, k, by omega, by go_num, by rw [HA.out]; go_num, by rw [HB.out]; go_num, rfl, HL.out k (.inl ⟨he, rfl⟩)⟩
        case measure => simp [intOf]; omega
    · obtain rfl : k = 16 := by omega
      go_wp2
      go_ret
      exact ⟨⟨_, HZ.out, rfl⟩, rfl⟩

def figN (a n : Nat) : Nat := a / 16 ^ n % 16

set_option maxRecDepth 100000 in
set_option maxHeartbeats 400000 in
theorem ref_figure (w : World) (a n : Nat) (ha : a < 18446744073709551616) (hn : n ≤ 16) :
    Calls Try.prog 39 #[.int .u64 a, .int .i64 n] w fun e w' => e = .returned (.int .i64 (figN a n)) ∧ w = w' := by
  go_enter Try.func39, Try.ntmps39
  go_wp2
  go_loop [0, 5] (fun x i => ∃ (k : Nat), k ≤ n ∧ i = .int .i64 k ∧ x = .int .u64 (a / 16 ^ k : Nat)) (fun _ i => n - (intOf i).toNat)
  case atStart => exact ⟨0, by omega, rfl, by simp⟩
  case round =>
    obtain ⟨k, hk, rfl, rfl⟩ := hrel
    have hx64 : a / 16 ^ k < 18446744073709551616 := Nat.lt_of_le_of_lt (Nat.div_le_self _ _) ha
    by_cases hlt : k < n
    · have HA := Lib.hid (show a / 16 ^ (k + 1) = a / 16 ^ k / 16 by rw [Nat.pow_succ, Nat.div_div_eq_div_mul])
      generalize a / 16 ^ k = x at HA hx64
      go_wp2
      go_round
      case rel => exact ⟨k + 1, by omega, by go_num, by rw [HA.out]; go_num⟩
      case measure => simp [intOf]; omega
    · obtain rfl : k = n := by omega
      have HG := Lib.hid (show figN a k = a / 16 ^ k % 16 from rfl)
      generalize a / 16 ^ k = x at hx64 HG
      have tm : Int.tmod (x : Int) 16 = ((x % 16 : Nat) : Int) := by
        rw [Int.tmod_eq_emod_of_nonneg (by omega)]
        omega
      have bd : ((x % 16 : Nat) : Int) < 16 := by omega
      go_wp2
      go_ret
      rw [HG.out]
      exact ⟨rfl, rfl⟩
end Go.Proofs.Ytfjmdblfokjnmaa
