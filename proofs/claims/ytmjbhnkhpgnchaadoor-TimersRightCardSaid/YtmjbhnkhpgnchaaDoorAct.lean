/-
  Steps that are right.
-/
import Derived.Test.YtmjbhnkhpgnchaaDoorAft
namespace Go.Proofs.YtmjbhnkhpgnchaaDoor
open Go Go.RowKit

def nameB (s : ByteArray) : Bool := !s.toList.isEmpty && decide (s.size ≤ 16)

set_option maxRecDepth 100000 in
set_option maxHeartbeats 400000 in
theorem name_any (w : World) (s : ByteArray) :
    Calls Tryd.prog 51 #[.string s] w fun e w' => e = .returned (.bool (nameB s)) ∧ w = w' := by
  unfold nameB
  cases hs : s.toList.isEmpty with
  | true =>
    go_enter Tryd.func51, Tryd.ntmps51
    go_wp2
    go_ret
    exact ⟨rfl, rfl⟩
  | false =>
    go_enter Tryd.func51, Tryd.ntmps51
    go_wp2
    go_ret
    refine ⟨congrArg (fun b => Ending.returned (Value.bool b)) ?_, rfl⟩
    rw [Bool.eq_iff_iff]
    simp
    omega

def rightS (s : Stp) : Bool :=
  if s.kind = 1 then nameB s.key && decide (s.val.size ≤ 60) && s.n == 0
  else if s.kind = 2 ∨ s.kind = 4 then nameB s.key && s.val.toList.isEmpty && s.n == 0
  else if s.kind = 3 then nameB s.key && s.val.toList.isEmpty
  else false

abbrev stpV (s : Stp) : Value := .agg #[.int .i64 s.kind, .string s.key, .string s.val, .int .i64 s.n]


set_option maxRecDepth 100000 in
set_option maxHeartbeats 400000 in
theorem right_any (w : World) (s : Stp) :
    Calls Tryd.prog 34 #[stpV s] w fun e w' => e = .returned (.bool (rightS s)) ∧ Fr (fun _ => False) w w' := by
  have HN := Lib.hid (fun w => name_any w s.key)
  obtain ⟨kind, key, val, n⟩ := s
  unfold rightS
  simp only at HN ⊢
  generalize nameB key = nb at HN ⊢
  by_cases h1 : kind = 1
  · subst h1
    simp only [if_true]
    go_enter Tryd.func34, Tryd.ntmps34
    go_wp2_with fail
    refine (HN.out _).mono ?_
    rintro e w1 ⟨rfl, rfl⟩
    cases nb <;> go_wp2_with fail
    all_goals
      go_ret
      refine ⟨congrArg (fun b => Ending.returned (Value.bool b)) ?_, (Fr.refl _ w).alloc _⟩
      first
        | rfl
        | (simp; done)
        | (rw [Bool.eq_iff_iff]; simp; omega)
        | (simp_all; done)
        | (simp_all; omega)
  · rw [if_neg h1]
    have e1 : (kind == 1) = false := by simpa using h1
    by_cases h2 : kind = 2
    · subst h2
      rw [if_pos (.inl rfl)]
      clear e1 h1
      go_enter Tryd.func34, Tryd.ntmps34
      go_wp2_with fail
      refine (HN.out _).mono ?_
      rintro e w1 ⟨rfl, rfl⟩
      cases nb <;> go_wp2_with fail
      all_goals
        go_ret
        refine ⟨congrArg (fun b => Ending.returned (Value.bool b)) ?_, (Fr.refl _ w).alloc _⟩
        first
          | rfl
          | (simp; done)
          | (rw [Bool.eq_iff_iff]; simp; omega)
          | (simp_all; done)
          | (simp_all; omega)
    · have e2 : (kind == 2) = false := by simpa using h2
      by_cases h4 : kind = 4
      · subst h4
        rw [if_pos (.inr rfl)]
        clear e1 h1 e2 h2
        go_enter Tryd.func34, Tryd.ntmps34
        go_wp2_with fail
        refine (HN.out _).mono ?_
        rintro e w1 ⟨rfl, rfl⟩
        cases nb <;> go_wp2_with fail
        all_goals
          go_ret
          refine ⟨congrArg (fun b => Ending.returned (Value.bool b)) ?_, (Fr.refl _ w).alloc _⟩
          first
            | rfl
            | (simp; done)
            | (rw [Bool.eq_iff_iff]; simp; omega)
            | (simp_all; done)
            | (simp_all; omega)
      · have e4 : (kind == 4) = false := by simpa using h4
        rw [if_neg (by omega)]
        by_cases h3 : kind = 3
        · subst h3
          rw [if_pos rfl]
          clear e1 h1 e2 h2 e4 h4
          go_enter Tryd.func34, Tryd.ntmps34
          go_wp2_with fail
          refine (HN.out _).mono ?_
          rintro e w1 ⟨rfl, rfl⟩
          cases nb <;> go_wp2_with fail
          all_goals
            go_ret
            refine ⟨congrArg (fun b => Ending.returned (Value.bool b)) ?_, (Fr.refl _ w).alloc _⟩
            first
              | rfl
              | (simp; done)
              | (rw [Bool.eq_iff_iff]; simp; omega)
              | (simp_all; done)
              | (simp_all; omega)
        · have e3 : (kind == 3) = false := by simpa using h3
          rw [if_neg h3]
          go_enter Tryd.func34, Tryd.ntmps34
          go_wp2_with fail
          go_ret
          exact ⟨rfl, (Fr.refl _ w).alloc _⟩
end Go.Proofs.YtmjbhnkhpgnchaaDoor
