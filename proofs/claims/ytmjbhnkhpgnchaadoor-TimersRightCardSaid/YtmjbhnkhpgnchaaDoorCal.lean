/-
  The calendar.
-/
import Derived.Test.YtmjbhnkhpgnchaaDoorRes
import Derived.Test.YtmjbhnkhpgnchaaDoorWheelDefs
import Derived.Test.YtmjbhnkhpgnchaaDoorStore
import Derived.WalkLawsBesides
import Derived.WalkSpells
import Derived.Deep.QuietTactic
import Derived.BigQuiet
import Derived.StillTailTactics
import Derived.Laws.Externs
namespace Go.Proofs.YtmjbhnkhpgnchaaDoor
open Go Go.RowKit

def stepsOf (at_ every tick : Nat) : Nat × Nat := if tick < at_ then (0, 0) else if every = 0 then (0, tick - at_) else ((tick - at_) / every, (tick - at_) % every)

theorem zero_two (w : World) : (zeroValue 49).run Tryd.prog w = .ok (.agg #[.int .u64 0, .int .u64 0]) w := by kernel_rfl

set_option maxRecDepth 100000 in
set_option maxHeartbeats 400000 in
theorem steps_any (w : World) (at_ every tick : Nat) (ha : at_ < 18446744073709551616) (he : every < 18446744073709551616) (ht : tick < 18446744073709551616) :
    Calls Tryd.prog 19 #[.int .u64 at_, .int .u64 every, .int .u64 tick] w fun e w' => e = .returned (.agg #[.int .u64 (stepsOf at_ every tick).1, .int .u64 (stepsOf at_ every tick).2]) ∧ Fr (fun _ => False) w w' := by
  have hz := zero_two
  by_cases h1 : tick < at_
  · have hd : decide ((tick : Int) < (at_ : Int)) = true := by simpa using h1
    have hS : stepsOf at_ every tick = (0, 0) := if_pos h1
    rw [hS]
    go_enter Tryd.func19, Tryd.ntmps19
    go_wp2
    refine bodyPost_ret (res_row rfl _ _ w.heap.size _ _ _ _ rfl (alloc_get w _ rfl) Tryd.underlying49 rfl (by kernel_rfl)) rfl ?_
    exact ⟨rfl, (Fr.refl _ w).alloc _⟩
  · have hd : decide ((tick : Int) < (at_ : Int)) = false := by simpa using h1
    obtain ⟨d, hdd⟩ : ∃ d : Nat, d = tick - at_ := ⟨_, rfl⟩
    have hsub : (tick : Int) - (at_ : Int) = (d : Int) := by omega
    have hdb : d < 18446744073709551616 := by omega
    by_cases h2 : every = 0
    · subst h2
      have hS : stepsOf at_ 0 tick = (0, d) := by unfold stepsOf; rw [if_neg h1, if_pos rfl, hdd]
      rw [hS]
      clear hS hdd h1
      go_enter Tryd.func19, Tryd.ntmps19
      go_wp2
      refine bodyPost_ret (res_row rfl _ _ w.heap.size _ _ _ _ rfl (alloc_get w _ rfl) Tryd.underlying49 rfl (by kernel_rfl)) rfl ?_
      exact ⟨rfl, (Fr.refl _ w).alloc _⟩
    · have hS : stepsOf at_ every tick = (d / every, d % every) := by unfold stepsOf; rw [if_neg h1, if_neg h2, hdd]
      rw [hS]
      have hne : ((every : Int) == 0) = false := by rw [beq_eq_false_iff_ne]; omega
      have q1 : (d : Int) / (every : Int) = ((d / every : Nat) : Int) := by omega
      have hne2 : (every : Int) ≠ 0 := by omega
      have q3 : (d : Int) % (every : Int) = ((d % every : Nat) : Int) := by omega
      have b1 : d / every < 18446744073709551616 := Nat.lt_of_le_of_lt (Nat.div_le_self _ _) hdb
      have b2 : d % every < 18446744073709551616 := Nat.lt_of_le_of_lt (Nat.mod_le _ _) hdb
      clear hS hdd h1
      generalize d / every = dq at *
      generalize d % every = dr at *
      have HQ := Lib.hid (And.intro q1 q3)
      clear q1 q3
      go_enter Tryd.func19, Tryd.ntmps19
      go_wp2
      refine wp_region_still_tail 11 (by kernel_rfl) (by kernel_rfl) ?_
      change wpStill _ _ (World.drew _) (fun a' => wpList _ _ _ _ a' (World.drew _)) _ _
      simp only [List.take_succ_cons, List.take_zero, List.drop_succ_cons, List.drop_zero]
      repeat still_step
      refine wpStill_nil ?_
      go_wp2
      refine bodyPost_ret (res_row rfl _ _ w.heap.size _ _ _ _ rfl (show (World.drew _).heap[w.heap.size]? = _ from alloc_get w _ rfl) Tryd.underlying49 rfl (by kernel_rfl)) rfl ?_
      exact ⟨by rw [HQ.out.1, HQ.out.2], ((Fr.refl _ w).alloc _).drew⟩

theorem add64_run (x y : Nat) (w : World) : (callFunc 32 #[.int .u64 x, .int .u64 y, .int .u64 0]).run Tryd.prog w = .ok (.value (.tuple #[.int .u64 ((x + y) % 18446744073709551616 : Nat), .int .u64 ((x + y) / 18446744073709551616 : Nat)])) w := by
  have h := run_add64 (P := Tryd.prog) x y 0 (by omega) (by omega) (by omega) (by omega) w
  rw [run_callFunc_extern Tryd.func32 (by kernel_rfl) (by kernel_rfl) (by kernel_rfl) (e := add64Entry) (by kernel_rfl), h]
  simp only [Result.andThen]
  congr 5 <;> omega

/-- the first occurrence above now -/
def nextOf (at_ every now : Nat) : Option Nat :=
  if now < at_ then some at_ else if every = 0 then none else if now - (stepsOf at_ every now).2 + every < 18446744073709551616 then some (now - (stepsOf at_ every now).2 + every) else none

theorem steps_rest_le (at_ every tick : Nat) : (stepsOf at_ every tick).2 ≤ tick := by
  unfold stepsOf
  split
  · exact Nat.zero_le _
  · split
    · exact Nat.sub_le _ _
    · exact Nat.le_trans (Nat.mod_le _ _) (Nat.sub_le _ _)

set_option maxRecDepth 100000 in
set_option maxHeartbeats 400000 in
theorem last_any (w : World) (at_ every now : Nat) (ha : at_ < 18446744073709551616) (he : every < 18446744073709551616) (ht : now < 18446744073709551616) (hle : ¬ now < at_) :
    Calls Tryd.prog 31 #[.int .u64 at_, .int .u64 every, .int .u64 now] w fun e w' => e = .returned (.tuple #[.int .u64 (now - (stepsOf at_ every now).2 : Nat), .bool true]) ∧ Fr (fun _ => False) w w' := by
  have hd : decide ((now : Int) < (at_ : Int)) = false := by simpa using hle
  have HS := Lib.hid (steps_any w at_ every now ha he ht)
  have hr := steps_rest_le at_ every now
  generalize (stepsOf at_ every now).1 = q at *
  generalize (stepsOf at_ every now).2 = r at *
  obtain ⟨d, hdd⟩ : ∃ d : Nat, d = now - r := ⟨_, rfl⟩
  have hsub : (now : Int) - (r : Int) = (d : Int) := by omega
  rw [← hdd]
  have hx : ∀ w, (Instr.index 49 (.agg #[.int .u64 q, .int .u64 r]) (.int .i64 1)).run Tryd.prog w = .ok (.int .u64 r) w := fun w => by kernel_rfl
  have hdb : d < 18446744073709551616 := by omega
  clear hdd
  go_enter Tryd.func31, Tryd.ntmps31
  go_wp2_with fail
  refine HS.out.mono ?_
  rintro e w1 ⟨rfl, hf⟩
  have HF := Lib.hid hf
  clear hf HS
  go_wp2_with fail
  go_ret2
  exact ⟨rfl, HF.out⟩

set_option maxRecDepth 100000 in
set_option maxHeartbeats 400000 in
theorem next_any (w : World) (at_ every now : Nat) (ha : at_ < 18446744073709551616) (he : every < 18446744073709551616) (ht : now < 18446744073709551616) :
    Calls Tryd.prog 17 #[.int .u64 at_, .int .u64 every, .int .u64 now] w fun e w' => e = .returned (.tuple #[.int .u64 ((nextOf at_ every now).getD 0 : Nat), .bool (nextOf at_ every now).isSome]) ∧ Fr (fun _ => False) w w' := by
  by_cases h1 : now < at_
  · have hd : decide ((now : Int) < (at_ : Int)) = true := by simpa using h1
    have hS : nextOf at_ every now = some at_ := if_pos h1
    rw [hS]
    clear hS
    go_enter Tryd.func17, Tryd.ntmps17
    go_wp2_with fail
    go_ret2
    exact ⟨rfl, Fr.refl _ w⟩
  · have hd : decide ((now : Int) < (at_ : Int)) = false := by simpa using h1
    have HL := Lib.hid (last_any w at_ every now ha he ht h1)
    have hlb : now - (stepsOf at_ every now).2 ≤ now := Nat.sub_le _ _
    have hN : nextOf at_ every now = if every = 0 then none else if now - (stepsOf at_ every now).2 + every < 18446744073709551616 then some (now - (stepsOf at_ every now).2 + every) else none := if_neg h1
    generalize now - (stepsOf at_ every now).2 = t at *
    rw [hN]
    clear hN
    by_cases h2 : every = 0
    · rw [if_pos h2]
      have hne : ((every : Int) == 0) = true := by rw [h2]; rfl
      have hadd := add64_run t every
      clear h2
      go_enter Tryd.func17, Tryd.ntmps17
      go_wp2_with fail
      refine HL.out.mono ?_
      rintro e w1 ⟨rfl, hf⟩
      have HF := Lib.hid hf
      clear hf HL
      go_wp2_with fail
      go_ret2
      exact ⟨rfl, HF.out⟩
    · rw [if_neg h2]
      have hne : ((every : Int) == 0) = false := by rw [beq_eq_false_iff_ne]; omega
      have hadd := add64_run t every
      by_cases h3 : t + every < 18446744073709551616
      · rw [if_pos h3]
        rw [show (t + every) / 18446744073709551616 = 0 by omega, show (t + every) % 18446744073709551616 = t + every by omega] at hadd
        generalize t + every = s at *
        go_enter Tryd.func17, Tryd.ntmps17
        go_wp2_with fail
        refine HL.out.mono ?_
        rintro e w1 ⟨rfl, hf⟩
        have HF := Lib.hid hf
        clear hf HL
        go_wp2_with fail
        go_ret2
        exact ⟨rfl, HF.out⟩
      · rw [if_neg h3]
        rw [show (t + every) / 18446744073709551616 = 1 by omega] at hadd
        generalize (t + every) % 18446744073709551616 = s at *
        go_enter Tryd.func17, Tryd.ntmps17
        go_wp2_with fail
        refine HL.out.mono ?_
        rintro e w1 ⟨rfl, hf⟩
        have HF := Lib.hid hf
        clear hf HL
        go_wp2_with fail
        go_ret2
        exact ⟨rfl, HF.out⟩

def indexOf (at_ every tick : Nat) : Option Nat := if tick < at_ ∨ 0 < (stepsOf at_ every tick).2 then none else some (stepsOf at_ every tick).1

set_option maxRecDepth 100000 in
set_option maxHeartbeats 400000 in
theorem index_any (w : World) (at_ every tick : Nat) (ha : at_ < 18446744073709551616) (he : every < 18446744073709551616) (ht : tick < 18446744073709551616) :
    Calls Tryd.prog 8 #[.int .u64 at_, .int .u64 every, .int .u64 tick] w fun e w' => e = .returned (.tuple #[.int .u64 ((indexOf at_ every tick).getD 0 : Nat), .bool (indexOf at_ every tick).isSome]) ∧ Fr (fun _ => False) w w' := by
  have HS := Lib.hid (steps_any w at_ every tick ha he ht)
  have hI : indexOf at_ every tick = if tick < at_ ∨ 0 < (stepsOf at_ every tick).2 then none else some (stepsOf at_ every tick).1 := rfl
  have hz := zero_two
  generalize (stepsOf at_ every tick).1 = q at *
  generalize (stepsOf at_ every tick).2 = r at *
  rw [hI]
  clear hI
  by_cases h1 : tick < at_
  · rw [if_pos (.inl h1)]
    go_enter Tryd.func8, Tryd.ntmps8
    go_wp2_with fail
    refine HS.out.mono ?_
    rintro e w1 ⟨rfl, hf⟩
    have HF := Lib.hid hf
    clear hf HS
    go_wp2_with fail
    go_ret2
    exact ⟨rfl, HF.out.alloc _⟩
  · by_cases h2 : 0 < r
    · rw [if_pos (.inr h2)]
      go_enter Tryd.func8, Tryd.ntmps8
      go_wp2_with fail
      refine HS.out.mono ?_
      rintro e w1 ⟨rfl, hf⟩
      have HF := Lib.hid hf
      clear hf HS
      go_wp2_with fail
      go_ret2
      exact ⟨rfl, HF.out.alloc _⟩
    · rw [if_neg (by omega)]
      obtain rfl : r = 0 := by omega
      go_enter Tryd.func8, Tryd.ntmps8
      go_wp2_with fail
      refine HS.out.mono ?_
      rintro e w1 ⟨rfl, hf⟩
      have HF := Lib.hid hf
      clear hf HS
      go_wp2_with fail
      go_ret2
      exact ⟨rfl, HF.out.alloc _⟩
end Go.Proofs.YtmjbhnkhpgnchaaDoor
