/-
  Fits; the documents' Name, Right, Same.
-/
import Derived.Test.YtmjbhnkhpgnchaaDoorTRight
namespace Go.Proofs.YtmjbhnkhpgnchaaDoor
open Go Go.RowKit

theorem empty_size (s : ByteArray) : s.toList.isEmpty = decide (s.size = 0) := by
  rw [ByteArray.toList_eq]
  obtain ⟨⟨l⟩⟩ := s
  cases l <;> simp [ByteArray.size]

theorem bytes_beq (a b : ByteArray) : (a.toList == b.toList) = decide (a = b) := by
  rw [ByteArray.toList_eq, ByteArray.toList_eq]
  obtain ⟨⟨x⟩⟩ := a
  obtain ⟨⟨y⟩⟩ := b
  rw [Bool.eq_iff_iff]
  simp

theorem nameB_eq (s : ByteArray) : nameB s = (decide (1 ≤ (s.size : Int)) && decide ((s.size : Int) ≤ 16)) := by
  unfold nameB
  rw [empty_size, Bool.eq_iff_iff]
  simp only [Bool.and_eq_true, Bool.not_eq_true', decide_eq_true_eq, decide_eq_false_iff_not]
  omega

set_option maxRecDepth 100000 in
set_option maxHeartbeats 400000 in
theorem rname_any (w : World) (s : ByteArray) :
    Calls Tryd.prog 27 #[.string s] w fun e w' => e = .returned (.bool (nameB s)) ∧ w = w' := by
  have HN := Lib.hid (nameB_eq s)
  go_enter Tryd.func27, Tryd.ntmps27
  go_wp2_with fail
  all_goals
    go_ret
    refine ⟨congrArg (fun b => Ending.returned (Value.bool b)) ?_, rfl⟩
    rw [HN.out, Bool.eq_iff_iff]
    simp
    omega


set_option maxRecDepth 100000 in
set_option maxHeartbeats 1000000 in
theorem rright_any (w : World) (s : Stp) :
    Calls Tryd.prog 14 #[stpV s] w fun e w' => e = .returned (.bool (rightS s)) ∧ Fr (fun _ => False) w w' := by
  have HN := Lib.hid (fun w => rname_any w s.key)
  obtain ⟨kind, key, val, n⟩ := s
  unfold rightS
  simp only at HN ⊢
  generalize nameB key = nb at HN ⊢
  by_cases h1 : kind = 1
  · subst h1
    simp only [if_true]
    go_enter Tryd.func14, Tryd.ntmps14
    go_wp2_with fail
    refine (HN.out _).mono ?_
    rintro e w1 ⟨rfl, rfl⟩
    cases nb <;> go_wp2_with fail
    all_goals
      go_ret
      refine ⟨congrArg (fun b => Ending.returned (Value.bool b)) ?_, (Fr.refl _ w).alloc _⟩
      first
        | rfl
        | (simp; done)
        | (rw [Bool.eq_iff_iff]; simp; omega)
        | (simp_all; done)
        | (simp_all; omega)
  · rw [if_neg h1]
    have e1 : (kind == 1) = false := by simpa using h1
    by_cases h2 : kind = 2
    · subst h2
      rw [if_pos (.inl rfl)]
      clear e1 h1
      go_enter Tryd.func14, Tryd.ntmps14
      go_wp2_with fail
      refine (HN.out _).mono ?_
      rintro e w1 ⟨rfl, rfl⟩
      cases nb <;> go_wp2_with fail
      all_goals
        go_ret
        refine ⟨congrArg (fun b => Ending.returned (Value.bool b)) ?_, (Fr.refl _ w).alloc _⟩
        first
          | rfl
          | (simp; done)
          | (rw [Bool.eq_iff_iff]; simp; omega)
          | (simp_all; done)
          | (simp_all; omega)
    · have e2 : (kind == 2) = false := by simpa using h2
      by_cases h4 : kind = 4
      · subst h4
        rw [if_pos (.inr rfl)]
        clear e1 h1 e2 h2
        go_enter Tryd.func14, Tryd.ntmps14
        go_wp2_with fail
        refine (HN.out _).mono ?_
        rintro e w1 ⟨rfl, rfl⟩
        cases nb <;> go_wp2_with fail
        all_goals
          go_ret
          refine ⟨congrArg (fun b => Ending.returned (Value.bool b)) ?_, (Fr.refl _ w).alloc _⟩
          first
            | rfl
            | (simp; done)
            | (rw [Bool.eq_iff_iff]; simp; omega)
            | (simp_all; done)
            | (simp_all; omega)
      · have e4 : (kind == 4) = false := by simpa using h4
        rw [if_neg (by omega)]
        by_cases h3 : kind = 3
        · subst h3
          rw [if_pos rfl]
          clear e1 h1 e2 h2 e4 h4
          go_enter Tryd.func14, Tryd.ntmps14
          go_wp2_with fail
          refine (HN.out _).mono ?_
          rintro e w1 ⟨rfl, rfl⟩
          cases nb <;> go_wp2_with fail
          all_goals
            go_ret
            refine ⟨congrArg (fun b => Ending.returned (Value.bool b)) ?_, (Fr.refl _ w).alloc _⟩
            first
              | rfl
              | (simp; done)
              | (rw [Bool.eq_iff_iff]; simp; omega)
              | (simp_all; done)
              | (simp_all; omega)
        · have e3 : (kind == 3) = false := by simpa using h3
          rw [if_neg h3]
          go_enter Tryd.func14, Tryd.ntmps14
          go_wp2_with fail
          refine (HN.out _).mono ?_
          rintro e w1 ⟨rfl, rfl⟩
          go_wp2_with fail
          go_ret
          exact ⟨rfl, (Fr.refl _ w).alloc _⟩

theorem stp_ne (w : World) (a b : Stp) : (binOp .neq 36 (stpV a) (stpV b)).run Tryd.prog w = .ok (.bool (!decide (a = b))) w := by
  have e : decide (a = b) = ((a.kind == b.kind) && ((a.key.toList == b.key.toList) && ((a.val.toList == b.val.toList) && (a.n == b.n)))) := by
    obtain ⟨k1, n1, v1, c1⟩ := a
    obtain ⟨k2, n2, v2, c2⟩ := b
    rw [bytes_beq, bytes_beq, Bool.eq_iff_iff]
    simp
  rw [e]
  obtain ⟨k1, n1, v1, c1⟩ := a
  obtain ⟨k2, n2, v2, c2⟩ := b
  go_simp
  by_cases h1 : k1 = k2 <;> by_cases h2 : n1.toList = n2.toList <;> by_cases h3 : v1.toList = v2.toList <;> by_cases h4 : c1 = c2 <;> simp [h1, h2, h3, h4]
end Go.Proofs.YtmjbhnkhpgnchaaDoor
