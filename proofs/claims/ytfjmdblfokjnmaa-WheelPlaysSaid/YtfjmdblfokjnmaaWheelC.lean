/-
  The wheel's Clock, Len, Slot, Far.
-/
import Derived.Test.YtfjmdblfokjnmaaSorted
namespace Go.Proofs.Ytfjmdblfokjnmaa
open Go Go.RowKit

set_option maxRecDepth 100000 in
set_option maxHeartbeats 400000 in
theorem clock_any (w : World) (b : Nat) (S : WSt) (h : WheelAt w b S) :
    Calls Try.prog 15 #[.pointer (some ⟨b, 0, none⟩)] w fun e w' => e = .returned (.int .u64 S.now) ∧ w = w' := by
  have c0 := h.cnow
  clear h
  go_enter Try.func15, Try.ntmps15
  go_wp2_with (first | (at_delete; refine At.stop ?_) | (at_mapUpdate; refine At.stop ?_) | (at_lookup; refine At.stop ?_) | (at_range; refine At.stop ?_) | (at_next; refine At.stop ?_) | (at_builtin; refine At.stop ?_))
  go_ret
  exact ⟨rfl, rfl⟩

set_option maxRecDepth 100000 in
set_option maxHeartbeats 400000 in
theorem len_any (w : World) (b : Nat) (S : WSt) (h : WheelAt w b S) :
    Calls Try.prog 16 #[.pointer (some ⟨b, 0, none⟩)] w fun e w' => e = .returned (.int .i64 S.all.length) ∧ w = w' := by
  have c1 := h.call
  have hl := run_len_map (P := Try.prog) (T := 50) Try.underlying50 h.all 3
  clear h
  go_enter Try.func16, Try.ntmps16
  go_wp2_with (first | (at_delete; refine At.stop ?_) | (at_mapUpdate; refine At.stop ?_) | (at_lookup; refine At.stop ?_) | (at_range; refine At.stop ?_) | (at_next; refine At.stop ?_) | (at_builtin; refine At.stop ?_))
  go_ret
  exact ⟨rfl, rfl⟩

set_option maxRecDepth 100000 in
set_option maxHeartbeats 400000 in
theorem far_any (w : World) (b : Nat) (S : WSt) (h : WheelAt w b S) (hl : (S.get 64).length ≤ 1000000) :
    Calls Try.prog 32 #[.pointer (some ⟨b, 0, none⟩)] w fun e w' => ∃ v l, e = .returned v ∧ l.Perm (S.get 64) ∧ Asc l ∧ OwnT w.heap.size w' v l ∧ RowKit.Below w.heap.size w w' := by
  have c66 := h.cfar
  have HS := Lib.hid (sorted_any w S.rf (S.get 64) (h.place 64 (Nat.le_refl _)) hl)
  clear h hl
  go_enter Try.func32, Try.ntmps32
  go_wp2_with (first | (at_delete; refine At.stop ?_) | (at_mapUpdate; refine At.stop ?_) | (at_lookup; refine At.stop ?_) | (at_range; refine At.stop ?_) | (at_next; refine At.stop ?_) | (at_builtin; refine At.stop ?_))
  refine HS.out.mono ?_
  rintro e w' ⟨v, l, rfl, h1, h2, h3, h4⟩
  have HF := Lib.hid (And.intro h1 (And.intro h2 (And.intro h3 h4)))
  clear h1 h2 h3 h4
  go_wp2_with (first | (at_delete; refine At.stop ?_) | (at_mapUpdate; refine At.stop ?_) | (at_lookup; refine At.stop ?_) | (at_range; refine At.stop ?_) | (at_next; refine At.stop ?_) | (at_builtin; refine At.stop ?_))
  go_ret
  obtain ⟨h1, h2, h3, h4⟩ := HF.out
  exact ⟨_, l, rfl, h1, h2, h3, h4⟩

set_option maxRecDepth 100000 in
set_option maxHeartbeats 400000 in
theorem slot_in (w : World) (b : Nat) (S : WSt) (i k : Nat) (h : WheelAt w b S) (hi : i < 4) (hk : k < 16) (hl : (S.get (16 * i + k)).length ≤ 1000000) :
    Calls Try.prog 17 #[.pointer (some ⟨b, 0, none⟩), .int .i64 i, .int .i64 k] w fun e w' => ∃ v l, e = .returned v ∧ l.Perm (S.get (16 * i + k)) ∧ Asc l ∧ OwnT w.heap.size w' v l ∧ RowKit.Below w.heap.size w w' := by
  have c := h.cslot (i := 16 * i + k) (by omega)
  rw [show 2 + (16 * i + k) = 2 + i * 16 + k by omega] at c
  have HS := Lib.hid (sorted_any w _ (S.get (16 * i + k)) (h.place (16 * i + k) (by omega)) hl)
  rw [show S.id (16 * i + k) = S.rs (16 * i + k) from if_pos (by omega)] at HS
  clear h hl
  have b1 : decide ((i : Int) < 0) = false := by simp
  have b2 : decide ((4 : Int) ≤ (i : Int)) = false := by simp; omega
  have b3 : decide ((k : Int) < 0) = false := by simp
  have b4 : decide ((16 : Int) ≤ (k : Int)) = false := by simp; omega
  generalize S.rs (16 * i + k) = r at c HS
  go_enter Try.func17, Try.ntmps17
  go_wp2_with (first | (at_delete; refine At.stop ?_) | (at_mapUpdate; refine At.stop ?_) | (at_lookup; refine At.stop ?_) | (at_range; refine At.stop ?_) | (at_next; refine At.stop ?_) | (at_builtin; refine At.stop ?_))
  refine HS.out.mono ?_
  rintro e w' ⟨v, l, rfl, h1, h2, h3, h4⟩
  have HF := Lib.hid (And.intro h1 (And.intro h2 (And.intro h3 h4)))
  clear h1 h2 h3 h4
  go_wp2_with (first | (at_delete; refine At.stop ?_) | (at_mapUpdate; refine At.stop ?_) | (at_lookup; refine At.stop ?_) | (at_range; refine At.stop ?_) | (at_next; refine At.stop ?_) | (at_builtin; refine At.stop ?_))
  go_ret
  obtain ⟨h1, h2, h3, h4⟩ := HF.out
  exact ⟨_, l, rfl, h1, h2, h3, h4⟩

set_option maxRecDepth 100000 in
set_option maxHeartbeats 400000 in
theorem slot_out (w : World) (b : Nat) (x y : Int) (h : (x = -1 ∧ y = 0) ∨ (x = 4 ∧ y = 0) ∨ (x = 0 ∧ y = 16) ∨ (x = 0 ∧ y = -1)) :
    Calls Try.prog 17 #[.pointer (some ⟨b, 0, none⟩), .int .i64 x, .int .i64 y] w fun e w' => e = .returned (.slice none 0 0) ∧ w = w' := by
  rcases h with ⟨rfl, rfl⟩ | ⟨rfl, rfl⟩ | ⟨rfl, rfl⟩ | ⟨rfl, rfl⟩
  all_goals
    go_enter Try.func17, Try.ntmps17
    go_wp2_with (first | (at_delete; refine At.stop ?_) | (at_mapUpdate; refine At.stop ?_) | (at_lookup; refine At.stop ?_) | (at_range; refine At.stop ?_) | (at_next; refine At.stop ?_) | (at_builtin; refine At.stop ?_))
    go_ret
    exact ⟨rfl, rfl⟩
end Go.Proofs.Ytfjmdblfokjnmaa
