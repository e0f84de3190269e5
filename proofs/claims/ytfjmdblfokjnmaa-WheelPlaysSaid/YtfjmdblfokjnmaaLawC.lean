/-
  stands.
-/
import Derived.Test.YtfjmdblfokjnmaaLawB
namespace Go.Proofs.Ytfjmdblfokjnmaa
open Go Go.RowKit

theorem slotL_len {now i : Nat} (m : List (ByteArray × Nat)) : (slotL now i m).length ≤ m.length := List.length_filter_le _ _

theorem WheelAt.below {w w' : World} {b : Nat} {S : WSt} (h : WheelAt w b S) (hB : RowKit.Below w.heap.size w w') : WheelAt w' b S := h.fr (Fr.of_new (F := fun _ => False) hB) (fun _ _ hc => hc)
theorem RefAt.below {w w' : World} {rb now : Nat} {m : List (ByteArray × Nat)} {v : Value} (h : RefAt w rb now m v) (hB : RowKit.Below w.heap.size w w') : RefAt w' rb now m v := h.fr (Fr.of_new (F := fun _ => False) hB) (fun _ _ _ hc => hc)

set_option maxRecDepth 100000 in
set_option maxHeartbeats 1000000 in
theorem stands_any (w : World) (b rb : Nat) (S : WSt) (m : List (ByteArray × Nat)) (v : Value) (h : WheelAt w b S) (hr : RefAt w rb S.now m v) (hT : Tells S m) (hl : m.length ≤ 10000) :
    Calls Try.prog 14 #[.pointer (some ⟨b, 0, none⟩), .pointer (some ⟨rb, 0, none⟩)] w fun e w' => e = .returned (.bool true) ∧ RowKit.Below w.heap.size w w' := by
  have hlen := hT.len
  have hget : ∀ i, i ≤ 64 → (S.get i).length ≤ 1000000 := fun i hi => by have := hT.good.le hi; omega
  have HW := Lib.hid (And.intro h (And.intro hr (And.intro hT hget)))
  clear h hr hT hget hlen
  go_enter Try.func14, Try.ntmps14
  go_wp2
  go_loopg [5] 4 (fun n u wr => ∃ i : Nat, i + n = 4 ∧ u = .int .i64 i ∧ RowKit.Below w.heap.size w wr)
  case atStart => exact ⟨0, rfl, rfl, RowKit.Below.refl _ _⟩
  case round =>
    obtain ⟨i, hi, rfl, hB⟩ := hrel
    by_cases hi4 : i < 4
    · have hd : decide ((i : Int) < 4) = true := by simp; omega
      have HB := Lib.hid hB
      clear hB
      go_wp2
      go_loopg [6] 16 (fun n u wr => ∃ k : Nat, k + n = 16 ∧ u = .int .i64 k ∧ RowKit.Below w.heap.size w wr)
      case atStart => exact ⟨0, rfl, rfl, HB.out⟩
      case round =>
        clear HB
        obtain ⟨k, hk, rfl, hB⟩ := hrel
        by_cases hk16 : k < 16
        · have hd2 : decide ((k : Int) < 16) = true := by simp; omega
          have HB := Lib.hid hB
          have HS := Lib.hid (slot_in wr b S i k (HW.out.1.below hB) hi4 hk16 (HW.out.2.2.2 _ (by omega)))
          clear hB
          go_wp2_with fail
          refine HS.out.mono ?_
          rintro e w1 ⟨v1, l, rfl, hp, ha, ho1, hB1⟩
          have hsl := HW.out.2.2.1.slot (i := 16 * i + k) (by omega) hp ha
          subst hsl
          have hB01 := HB.out.trans (hB1.mono HB.out.size)
          have HS2 := Lib.hid (ref_slot w1 rb S.now m v i k (.inl ⟨hi4, hk16⟩) (HW.out.2.1.below hB01) (by omega) HW.out.2.2.1.above)
          have HO := Lib.hid (And.intro ho1 hB01)
          clear hp ha ho1 hB1 hB01 HS
          go_wp2_with fail
          refine HS2.out.mono ?_
          rintro e w2 ⟨v2, rfl, ho2, hB2⟩
          have HS3 := Lib.hid (same_eq w2 v1 v2 _ (OwnS.at (OwnS.fr HO.out.1 (Fr.of_new (F := fun _ => False) hB2) (fun _ _ hc => hc))) (OwnS.at ho2) (Nat.le_trans (slotL_len m) (by omega)))
          have hB02 := HO.out.2.trans (hB2.mono HO.out.2.size)
          have HB2 := Lib.hid hB02
          clear ho2 hB2 hB02 HS2 HO HB
          go_wp2_with fail
          refine HS3.out.mono ?_
          rintro e w3 ⟨rfl, d, rfl⟩
          have HB3 := Lib.hid (below_drewN HB2.out d)
          go_wp2
          go_roundg (16 - (k + 1))
          case measure => omega
          case rel => exact ⟨k + 1, by omega, by go_num, HB3.out⟩
        · obtain rfl : k = 16 := by omega
          have HB := Lib.hid hB
          clear hB
          go_wp2
          go_roundg (4 - (i + 1))
          case measure => omega
          case rel => exact ⟨i + 1, by omega, by go_num, HB.out⟩
    · obtain rfl : i = 4 := by omega
      have HB := Lib.hid hB
      have HS := Lib.hid (far_any wr b S (HW.out.1.below hB) (HW.out.2.2.2 _ (Nat.le_refl _)))
      clear hB
      go_wp2_with fail
      refine HS.out.mono ?_
      rintro e w1 ⟨v1, l, rfl, hp, ha, ho1, hB1⟩
      have hsl := HW.out.2.2.1.slot (i := 64) (by omega) hp ha
      subst hsl
      have hB01 := HB.out.trans (hB1.mono HB.out.size)
      have HS2 := Lib.hid (ref_slot w1 rb S.now m v 4 0 (.inr ⟨rfl, rfl⟩) (HW.out.2.1.below hB01) (by omega) HW.out.2.2.1.above)
      have HO := Lib.hid (And.intro ho1 hB01)
      clear hp ha ho1 hB1 hB01 HS
      go_wp2_with fail
      refine HS2.out.mono ?_
      rintro e w2 ⟨v2, rfl, ho2, hB2⟩
      have HS3 := Lib.hid (same_eq w2 v1 v2 _ (OwnS.at (OwnS.fr HO.out.1 (Fr.of_new (F := fun _ => False) hB2) (fun _ _ hc => hc))) (OwnS.at ho2) (Nat.le_trans (slotL_len m) (by omega)))
      have hB02 := HO.out.2.trans (hB2.mono HO.out.2.size)
      have HB2 := Lib.hid hB02
      clear ho2 hB2 hB02 HS2 HO HB
      go_wp2_with fail
      refine HS3.out.mono ?_
      rintro e w3 ⟨rfl, d, rfl⟩
      have HB3 := Lib.hid (below_drewN HB2.out d)
      go_wp2
      go_ret
      exact ⟨rfl, HB3.out⟩
end Go.Proofs.Ytfjmdblfokjnmaa
