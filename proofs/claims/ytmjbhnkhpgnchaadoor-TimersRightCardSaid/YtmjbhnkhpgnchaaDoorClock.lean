/-
  The wheel's Clock, Len.
-/
import Derived.Test.YtmjbhnkhpgnchaaDoorSorted
namespace Go.Proofs.YtmjbhnkhpgnchaaDoor
open Go Go.RowKit

set_option maxRecDepth 100000 in
set_option maxHeartbeats 400000 in
theorem clock_any (w : World) (b : Nat) (S : WSt) (h : WheelAt w b S) :
    Calls Tryd.prog 50 #[.pointer (some ⟨b, 0, none⟩)] w fun e w' => e = .returned (.int .u64 S.now) ∧ w = w' := by
  have c0 := h.cnow
  clear h
  go_enter Tryd.func50, Tryd.ntmps50
  go_wp2_with (first | (at_delete; refine At.stop ?_) | (at_mapUpdate; refine At.stop ?_) | (at_lookup; refine At.stop ?_) | (at_range; refine At.stop ?_) | (at_next; refine At.stop ?_) | (at_builtin; refine At.stop ?_))
  go_ret
  exact ⟨rfl, rfl⟩

set_option maxRecDepth 100000 in
set_option maxHeartbeats 400000 in
theorem len_any (w : World) (b : Nat) (S : WSt) (h : WheelAt w b S) :
    Calls Tryd.prog 109 #[.pointer (some ⟨b, 0, none⟩)] w fun e w' => e = .returned (.int .i64 S.all.length) ∧ w = w' := by
  have c1 := h.call
  have hl := run_len_map (P := Tryd.prog) (T := 82) Tryd.underlying82 h.all 3
  clear h
  go_enter Tryd.func109, Tryd.ntmps109
  go_wp2_with (first | (at_delete; refine At.stop ?_) | (at_mapUpdate; refine At.stop ?_) | (at_lookup; refine At.stop ?_) | (at_range; refine At.stop ?_) | (at_next; refine At.stop ?_) | (at_builtin; refine At.stop ?_))
  go_ret
  exact ⟨rfl, rfl⟩

end Go.Proofs.YtmjbhnkhpgnchaaDoor
