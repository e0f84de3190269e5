/-
  Plain facts on levels and places.
-/
import Derived.Test.YtmjbhnkhpgnchaaDoorAdvA
namespace Go.Proofs.YtmjbhnkhpgnchaaDoor
open Go Go.RowKit

theorem bl_bounds (x : Nat) (h0 : x ≠ 0) (h : x < 18446744073709551616) : 2 ^ (Lib.bitLen x - 1) ≤ x ∧ x < 2 ^ Lib.bitLen x :=
  (Lib.bitLenAux_bounds 64 x h h0).2

theorem bl_le (x k : Nat) (h0 : x ≠ 0) (h : x < 18446744073709551616) : k + 1 ≤ Lib.bitLen x ↔ 2 ^ k ≤ x := by
  obtain ⟨h1, h2⟩ := bl_bounds x h0 h
  constructor
  · intro h3
    exact Nat.le_trans (Nat.pow_le_pow_right (by omega) (by omega)) h1
  · intro h3
    apply Nat.lt_of_not_le
    intro h4
    have := Nat.pow_le_pow_right (n := 2) (by omega) h4
    omega

theorem xor_ge (a b k : Nat) : 2 ^ k ≤ a ^^^ b ↔ a / 2 ^ k ≠ b / 2 ^ k := by
  have hx : (a ^^^ b) / 2 ^ k = (a / 2 ^ k) ^^^ (b / 2 ^ k) := Nat.xor_div_two_pow
  have hp : 0 < 2 ^ k := Nat.pow_pos (by omega)
  constructor
  · intro h e
    rw [e, Nat.xor_self] at hx
    have := Nat.div_pos h hp
    omega
  · intro h
    have h2 := xor_ne _ _ h
    rw [← hx] at h2
    apply Nat.le_of_not_lt
    intro h3
    exact h2 (Nat.div_eq_of_lt h3)

theorem pow16 (k : Nat) : 2 ^ (4 * k) = 16 ^ k := by rw [Nat.pow_mul]

/-- at which levels two ticks are unlike -/
theorem le_levOf (now a k : Nat) (hne : a ≠ now) (ha : a < 18446744073709551616) (hn : now < 18446744073709551616) : k ≤ levOf now a ↔ a / 16 ^ k ≠ now / 16 ^ k := by
  have h0 := xor_ne a now hne
  have hx := xor_lt64 ha hn
  rw [← pow16, ← xor_ge, ← bl_le _ _ h0 hx]
  have := (bitLen_pos _ h0 hx).1
  unfold levOf
  omega

/-- the levels that a clock leaves behind -/
def passOf (now now' : Nat) : Nat := (Lib.bitLen (now' ^^^ now) + 3) / 4

theorem passOf_le (now now' k : Nat) (ha : now' < 18446744073709551616) (hn : now < 18446744073709551616) : passOf now now' ≤ k ↔ now' / 16 ^ k = now / 16 ^ k := by
  by_cases e : now' = now
  · subst e
    unfold passOf
    rw [Nat.xor_self]
    simp [Lib.bitLen, Lib.bitLenAux_zero]
  · have h1 := le_levOf now now' k e ha hn
    have : passOf now now' = levOf now now' + 1 := by
      have := (bitLen_pos _ (xor_ne _ _ e) (xor_lt64 ha hn)).1
      unfold passOf levOf
      omega
    rw [this]
    constructor
    · intro h
      apply Classical.byContradiction
      intro h2
      have := h1.2 h2
      omega
    · intro h
      have := fun h2 => h1.1 h2 h
      omega

theorem div_lt {a b c : Nat} (h : a / c < b / c) : a < b := by
  apply Nat.lt_of_not_le
  intro h2
  have := Nat.div_le_div_right (c := c) h2
  omega

theorem div_lt_of_ne {a b c : Nat} (h : a < b) (hne : b / c ≠ a / c) : a / c < b / c := by
  have := Nat.div_le_div_right (c := c) (Nat.le_of_lt h)
  omega

/-- what stands above the passed levels stays where it is, and is not due -/
theorem stay_lev (now now' a : Nat) (h1 : now < a) (ha : a < 18446744073709551616) (hn : now' < 18446744073709551616) (hp : passOf now now' ≤ levOf now a) : now' < a ∧ levOf now' a = levOf now a := by
  have hn0 : now < 18446744073709551616 := by omega
  have e := (passOf_le now now' (passOf now now') hn hn0).1 (Nat.le_refl _)
  have d := (le_levOf now a _ (by omega) ha hn0).1 hp
  have hlt : now' < a := by
    have := div_lt_of_ne h1 d
    exact div_lt (c := 16 ^ passOf now now') (by omega)
  refine ⟨hlt, ?_⟩
  have key : ∀ k, k ≤ levOf now' a ↔ k ≤ levOf now a := by
    intro k
    by_cases hk : passOf now now' ≤ k
    · have e2 := (passOf_le now now' k hn hn0).1 hk
      rw [le_levOf now' a k (by omega) ha hn, le_levOf now a k (by omega) ha hn0, e2]
    · have : passOf now now' ≤ levOf now' a := (le_levOf now' a _ (by omega) ha hn).2 (by rw [e]; exact d)
      omega
  have h2 := (key (levOf now' a)).1 (Nat.le_refl _)
  have h3 := (key (levOf now a)).2 (Nat.le_refl _)
  omega

theorem stay_plc (now now' a : Nat) (h1 : now < a) (ha : a < 18446744073709551616) (hn : now' < 18446744073709551616) (hp : passOf now now' ≤ levOf now a) : now' < a ∧ plcOf now' a = plcOf now a := by
  obtain ⟨h2, h3⟩ := stay_lev now now' a h1 ha hn hp
  refine ⟨h2, ?_⟩
  unfold plcOf
  rw [h3]

/-- the places that are emptied: as many as come first -/
def goneOf (now now' : Nat) : Nat := if passOf now now' ≤ 4 then 16 * passOf now now' else 65

theorem gone_iff (now now' a : Nat) : plcOf now a < goneOf now now' ↔ levOf now a < passOf now now' ∨ (passOf now now' > 4) := by
  unfold plcOf goneOf
  by_cases h : passOf now now' ≤ 4
  · rw [if_pos h]
    split
    · omega
    · omega
  · rw [if_neg h]
    split
    · omega
    · omega

theorem stay_gone (now now' a : Nat) (h1 : now < a) (ha : a < 18446744073709551616) (hn : now' < 18446744073709551616) (hp : ¬ plcOf now a < goneOf now now') : now' < a ∧ plcOf now' a = plcOf now a :=
  stay_plc now now' a h1 ha hn (by rw [gone_iff] at hp; omega)

/-- places are in order of deadlines -/
theorem plc_lt (now a b : Nat) (h1 : now < a) (h2 : now < b) (ha : a < 18446744073709551616) (hb : b < 18446744073709551616) (h : plcOf now a < plcOf now b) : a < b := by
  have hn : now < 18446744073709551616 := by omega
  have hl : levOf now a < levOf now b ∨ (levOf now a = levOf now b ∧ levOf now a < 4) := by
    unfold plcOf at h
    split at h <;> split at h <;> omega
  rcases hl with hl | ⟨hl, h4⟩
  · have d := (le_levOf now b (levOf now b) (by omega) hb hn).1 (Nat.le_refl _)
    have e : a / 16 ^ levOf now b = now / 16 ^ levOf now b := by
      apply Classical.byContradiction
      intro hc
      have := (le_levOf now a (levOf now b) (by omega) ha hn).2 hc
      omega
    have := div_lt_of_ne h2 d
    exact div_lt (c := 16 ^ levOf now b) (by omega)
  · have top : ∀ x, now < x → x < 18446744073709551616 → levOf now x = levOf now a → x / 16 ^ (levOf now a + 1) = now / 16 ^ (levOf now a + 1) := by
      intro x hx hx2 hxl
      apply Classical.byContradiction
      intro hc
      have := (le_levOf now x (levOf now a + 1) (by omega) hx2 hn).2 hc
      omega
    have ta := top a h1 ha rfl
    have tb := top b h2 hb hl.symm
    unfold plcOf at h
    rw [if_pos h4, if_pos (by omega), ← hl, pow16] at h
    have hd : ∀ x, x / 16 ^ (levOf now a + 1) = x / 16 ^ levOf now a / 16 := fun x => by rw [Nat.pow_succ, Nat.div_div_eq_div_mul]
    rw [hd] at ta tb
    rw [hd now] at ta tb
    exact div_lt (c := 16 ^ levOf now a) (by omega)
end Go.Proofs.YtmjbhnkhpgnchaaDoor
