/-
  The wheel's own functions: what each does to the wheel's data.
-/
import Derived.Test.YtmjbhnkhpgnchaaDoorWheelDefs
import Derived.Shelf.Strconv.Itoa0
import Derived.Lib.ItoaNum
import Derived.Laws.Bits64
import Derived.WalkLawsBesides
import Derived.WalkSpells
import Derived.Deep.QuietTactic
import Derived.BigQuiet
import Derived.Deep.DeepFit
namespace Go.Proofs.YtmjbhnkhpgnchaaDoor
open Go Go.RowKit

theorem bitLen_pos (x : Nat) (h0 : x ≠ 0) (h : x < 18446744073709551616) : 1 ≤ Lib.bitLen x ∧ Lib.bitLen x ≤ 64 :=
  ⟨(Lib.bitLenAux_bounds 64 x h h0).1, Lib.bitLen_le x 64 (Nat.le_refl _) h⟩

theorem xor_ne (a b : Nat) (h : a ≠ b) : a ^^^ b ≠ 0 := by
  intro e
  apply h
  have := congrArg (· ^^^ b) e
  simpa [Nat.xor_assoc] using this

theorem xor_lt64 {a b : Nat} (ha : a < 18446744073709551616) (hb : b < 18446744073709551616) : a ^^^ b < 18446744073709551616 :=
  Nat.xor_lt_two_pow (n := 64) ha hb

/-- what Len64 says, as a premise -/
def LenSays : Prop := ∀ (x : Int) (w : World), 0 ≤ x → x ≤ 18446744073709551615 → Calls Tryd.prog 43 #[.int .u64 x] w fun e w' => e = .returned (.int .i64 (Lib.bitLen x.toNat)) ∧ w' = w

set_option maxRecDepth 100000 in
set_option maxHeartbeats 400000 in
theorem place_any (hlen : LenSays) (w : World) (b : Nat) (S : WSt) (at_ : Nat) (h : WheelAt w b S) (hat : at_ < 18446744073709551616) (hlt : S.now < at_) :
    Calls Tryd.prog 39 #[.pointer (some ⟨b, 0, none⟩), .int .u64 at_] w fun e w' => e = .returned (.map (some (S.id (plcOf S.now at_)))) ∧ ∃ n, w' = w.drewN n := by
  have c0 := h.cnow
  have c66 := h.cfar
  have hc : ∀ i, i < 64 → w.cell? ⟨b, 2 + i, none⟩ = some (.map (some (S.rs i))) := fun i hi => h.cslot hi
  clear h
  have hx : bits BinOp.xor IntKind.u64 (at_ : Int) (S.now : Int) = ((at_ ^^^ S.now : Nat) : Int) := bits_xor_u64_nat at_ S.now hat (by omega)
  obtain ⟨hb1, hb2⟩ := bitLen_pos (at_ ^^^ S.now) (xor_ne _ _ (by omega)) (xor_lt64 hat (by omega))
  have hx2 := xor_lt64 hat (show S.now < 18446744073709551616 by omega)
  have hp : plcOf S.now at_ = plcOf S.now at_ := rfl
  conv at hp => rhs; unfold plcOf levOf
  have HP := Lib.hid hp
  clear hp
  generalize at_ ^^^ S.now = x at hx hb1 hb2 HP hx2
  go_enter Tryd.func39, Tryd.ntmps39
  go_wp2_with fail
  refine (hlen _ _ (by omega) (by omega)).mono ?_
  rintro e w' ⟨rfl, rfl⟩
  rw [Int.toNat_natCast]
  generalize Lib.bitLen x = lb at hb1 hb2 HP ⊢
  clear hx
  by_cases hlv : (lb - 1) / 4 < 4
  · go_wp2_with fail
    have hI : ((lb : Int) - 1) / 4 = (((lb - 1) / 4 : Nat) : Int) := by omega
    rw [hI]
    clear hI
    generalize (lb - 1) / 4 = lv at hlv HP ⊢
    clear hb1 hb2
    obtain rfl | rfl | rfl | rfl : lv = 0 ∨ lv = 1 ∨ lv = 2 ∨ lv = 3 := by omega
    · have hI : S.id (plcOf S.now at_) = S.rs (0 + at_ % 16) := by
        rw [HP.out, if_pos (by omega), show 16 * 0 + at_ / 2 ^ (4 * 0) % 16 = 0 + at_ % 16 by simp]
        exact if_pos (by omega)
      have g : w'.cell? ⟨b, 2 + at_ % 16, none⟩ = some (.map (some (S.id (plcOf S.now at_)))) := by
        have := hc (0 + at_ % 16) (by omega)
        rw [show 2 + (0 + at_ % 16) = 2 + at_ % 16 by omega] at this
        rw [hI]
        exact this
      have w0 : IntKind.i64.wrap 0 = 0 := rfl
      have tm : Int.tmod (at_ : Int) 16 = ((at_ % 16 : Nat) : Int) := by
        rw [Int.tmod_eq_emod_of_nonneg (by omega)]
        omega
      have bd : ((at_ % 16 : Nat) : Int) < 16 := by omega
      clear hI HP hc
      generalize at_ % 16 = y at tm bd g
      go_quiet (fail)
      go_wp2
      go_ret
      exact ⟨rfl, nq, rfl⟩
    · have hI : S.id (plcOf S.now at_) = S.rs (16 + at_ / 16 % 16) := by
        rw [HP.out, if_pos (by omega), show 16 * 1 + at_ / 2 ^ (4 * 1) % 16 = 16 + at_ / 16 % 16 by simp]
        exact if_pos (by omega)
      have g : w'.cell? ⟨b, 18 + at_ / 16 % 16, none⟩ = some (.map (some (S.id (plcOf S.now at_)))) := by
        have := hc (16 + at_ / 16 % 16) (by omega)
        rw [show 2 + (16 + at_ / 16 % 16) = 18 + at_ / 16 % 16 by omega] at this
        rw [hI]
        exact this
      have w0 : IntKind.i64.wrap 4 = 4 := rfl
      have tm : Int.tmod ((at_ : Int) / 16) 16 = ((at_ / 16 % 16 : Nat) : Int) := by
        rw [Int.tmod_eq_emod_of_nonneg (by omega)]
        omega
      have bd : ((at_ / 16 % 16 : Nat) : Int) < 16 := by omega
      clear hI HP hc
      generalize at_ / 16 % 16 = y at tm bd g
      go_quiet (fail)
      go_wp2
      go_ret
      exact ⟨rfl, nq, rfl⟩
    · have hI : S.id (plcOf S.now at_) = S.rs (32 + at_ / 256 % 16) := by
        rw [HP.out, if_pos (by omega), show 16 * 2 + at_ / 2 ^ (4 * 2) % 16 = 32 + at_ / 256 % 16 by simp]
        exact if_pos (by omega)
      have g : w'.cell? ⟨b, 34 + at_ / 256 % 16, none⟩ = some (.map (some (S.id (plcOf S.now at_)))) := by
        have := hc (32 + at_ / 256 % 16) (by omega)
        rw [show 2 + (32 + at_ / 256 % 16) = 34 + at_ / 256 % 16 by omega] at this
        rw [hI]
        exact this
      have w0 : IntKind.i64.wrap 8 = 8 := rfl
      have tm : Int.tmod ((at_ : Int) / 256) 16 = ((at_ / 256 % 16 : Nat) : Int) := by
        rw [Int.tmod_eq_emod_of_nonneg (by omega)]
        omega
      have bd : ((at_ / 256 % 16 : Nat) : Int) < 16 := by omega
      clear hI HP hc
      generalize at_ / 256 % 16 = y at tm bd g
      go_quiet (fail)
      go_wp2
      go_ret
      exact ⟨rfl, nq, rfl⟩
    · have hI : S.id (plcOf S.now at_) = S.rs (48 + at_ / 4096 % 16) := by
        rw [HP.out, if_pos (by omega), show 16 * 3 + at_ / 2 ^ (4 * 3) % 16 = 48 + at_ / 4096 % 16 by simp]
        exact if_pos (by omega)
      have g : w'.cell? ⟨b, 50 + at_ / 4096 % 16, none⟩ = some (.map (some (S.id (plcOf S.now at_)))) := by
        have := hc (48 + at_ / 4096 % 16) (by omega)
        rw [show 2 + (48 + at_ / 4096 % 16) = 50 + at_ / 4096 % 16 by omega] at this
        rw [hI]
        exact this
      have w0 : IntKind.i64.wrap 12 = 12 := rfl
      have tm : Int.tmod ((at_ : Int) / 4096) 16 = ((at_ / 4096 % 16 : Nat) : Int) := by
        rw [Int.tmod_eq_emod_of_nonneg (by omega)]
        omega
      have bd : ((at_ / 4096 % 16 : Nat) : Int) < 16 := by omega
      clear hI HP hc
      generalize at_ / 4096 % 16 = y at tm bd g
      go_quiet (fail)
      go_wp2
      go_ret
      exact ⟨rfl, nq, rfl⟩
  · go_wp2_with fail
    have HQ := HP.out
    rw [if_neg hlv] at HQ
    go_ret
    refine ⟨?_, 0, rfl⟩
    rw [HQ]
    rfl

theorem zero_u64 (w : World) : (zeroValue 22).run Tryd.prog w = .ok (.int .u64 0) w := by kernel_rfl
theorem key_str : KeyTy Tryd.prog 9 Value.string := keyTy_string Tryd.underlying9

/-- every timer is above the clock -/
def WSt.Above (S : WSt) : Prop := ∀ p ∈ S.all, S.now < p.2 ∧ p.2 < 18446744073709551616

set_option maxRecDepth 100000 in
set_option maxHeartbeats 400000 in
theorem drop_none (w : World) (b : Nat) (S : WSt) (name : ByteArray) (h : WheelAt w b S) (hn : aget S.all name = none) :
    Calls Tryd.prog 37 #[.pointer (some ⟨b, 0, none⟩), .string name] w fun e w' => e = .returned (.bool false) ∧ w = w' := by
  have c1 := h.call
  have hM := h.all
  have HN := Lib.hid hn
  clear h hn
  go_enter Tryd.func37, Tryd.ntmps37
  go_wp2_with (first | (at_delete; refine At.stop ?_) | (at_mapUpdate; refine At.stop ?_) | (at_lookup; refine At.stop ?_) | (at_range; refine At.stop ?_) | (at_next; refine At.stop ?_) | (at_builtin; refine At.stop ?_))
  refine At.go (wpl_lookup_ok rfl _ _ rfl Tryd.underlying82 key_str hM rfl name rfl _ (zero_u64 _) ?_)
  rw [HN.out]
  simp only [Option.map_none, Option.getD_none, Option.isSome_none]
  go_wp2_with (first | (at_delete; refine At.stop ?_) | (at_mapUpdate; refine At.stop ?_) | (at_lookup; refine At.stop ?_) | (at_range; refine At.stop ?_) | (at_next; refine At.stop ?_) | (at_builtin; refine At.stop ?_))
  go_ret
  exact ⟨rfl, rfl⟩

set_option maxRecDepth 100000 in
set_option maxHeartbeats 400000 in
theorem drop_some (hlen : LenSays) (w : World) (b : Nat) (S : WSt) (name : ByteArray) (t : Nat) (h : WheelAt w b S) (hA : S.Above) (hn : aget S.all name = some t) :
    Calls Tryd.prog 37 #[.pointer (some ⟨b, 0, none⟩), .string name] w fun e w' => e = .returned (.bool true) ∧ WheelAt w' b (S.drop name) ∧ Fr (S.foot b) w w' := by
  have c1 := h.call
  have hM := h.all
  have hb := hA _ ((aget_mem hM.nodup).1 hn)
  have HN := Lib.hid hn
  clear hn
  go_enter Tryd.func37, Tryd.ntmps37
  go_wp2_with (first | (at_delete; refine At.stop ?_) | (at_mapUpdate; refine At.stop ?_) | (at_lookup; refine At.stop ?_) | (at_range; refine At.stop ?_) | (at_next; refine At.stop ?_) | (at_builtin; refine At.stop ?_))
  refine At.go (wpl_lookup_ok rfl _ _ rfl Tryd.underlying82 key_str hM rfl name rfl _ (zero_u64 _) ?_)
  rw [HN.out]
  simp only [Option.map_some, Option.getD_some, Option.isSome_some]
  go_wp2_with (first | (at_delete; refine At.stop ?_) | (at_mapUpdate; refine At.stop ?_) | (at_lookup; refine At.stop ?_) | (at_range; refine At.stop ?_) | (at_next; refine At.stop ?_) | (at_builtin; refine At.stop ?_))
  refine (place_any hlen _ b S t h hb.2 hb.1).mono ?_
  rintro e w' ⟨rfl, n, rfl⟩
  have h1 := h.drewN n
  go_wp2_with (first | (at_delete; refine At.stop ?_) | (at_mapUpdate; refine At.stop ?_) | (at_lookup; refine At.stop ?_) | (at_range; refine At.stop ?_) | (at_next; refine At.stop ?_) | (at_builtin; refine At.stop ?_))
  refine At.go (wpl_delete rfl _ _ rfl Tryd.underlying82 key_str (h1.place _ (plcOf_le _ _)) rfl name rfl ?_)
  intro w1 hf1 hs1 hm1
  have h2 := h1.set (plcOf_le _ _) hf1 hm1
  have c1 := h2.call
  rw [set_ra] at c1
  have hM2 := h2.all
  rw [set_ra, set_all] at hM2
  go_wp2_with (first | (at_delete; refine At.stop ?_) | (at_mapUpdate; refine At.stop ?_) | (at_lookup; refine At.stop ?_) | (at_range; refine At.stop ?_) | (at_next; refine At.stop ?_) | (at_builtin; refine At.stop ?_))
  refine At.go (wpl_delete rfl _ _ rfl Tryd.underlying82 key_str hM2 rfl name rfl ?_)
  intro w2 hf2 hs2 hm2
  have h3 := h2.setAll (by rw [set_ra]; exact hf2) (by rw [set_ra]; exact hm2)
  go_wp2_with (first | (at_delete; refine At.stop ?_) | (at_mapUpdate; refine At.stop ?_) | (at_lookup; refine At.stop ?_) | (at_range; refine At.stop ?_) | (at_next; refine At.stop ?_) | (at_builtin; refine At.stop ?_))
  go_ret
  refine ⟨rfl, ?_, ?_⟩
  · unfold WSt.drop
    rw [HN.out]
    exact h3
  · exact (((Fr.refl _ w).drewN n).then hf1 (fun k _ e => e ▸ foot_place S b (plcOf_le _ _))).then hf2 (fun k _ e => e ▸ foot_all S b)

/-- Drop, at every name. -/
theorem drop_any (hlen : LenSays) (w : World) (b : Nat) (S : WSt) (name : ByteArray) (h : WheelAt w b S) (hA : S.Above) :
    Calls Tryd.prog 37 #[.pointer (some ⟨b, 0, none⟩), .string name] w fun e w' => e = .returned (.bool (aget S.all name).isSome) ∧ WheelAt w' b (S.drop name) ∧ Fr (S.foot b) w w' := by
  cases hn : aget S.all name with
  | none =>
    refine (drop_none w b S name h hn).mono ?_
    rintro e w' ⟨rfl, rfl⟩
    refine ⟨rfl, ?_, Fr.refl _ _⟩
    unfold WSt.drop
    rw [hn]
    exact h
  | some t => exact drop_some hlen w b S name t h hA hn

set_option maxRecDepth 100000 in
set_option maxHeartbeats 400000 in
theorem put_no (w : World) (b : Nat) (S : WSt) (name : ByteArray) (t : Nat) (h : WheelAt w b S) (ht : t ≤ S.now) :
    Calls Tryd.prog 25 #[.pointer (some ⟨b, 0, none⟩), .string name, .int .u64 t] w fun e w' => e = .returned (.bool false) ∧ w = w' := by
  have c0 := h.cnow
  clear h
  have hle : decide ((t : Int) ≤ (S.now : Int)) = true := by simpa using ht
  go_enter Tryd.func25, Tryd.ntmps25
  go_wp2_with (first | (at_delete; refine At.stop ?_) | (at_mapUpdate; refine At.stop ?_) | (at_lookup; refine At.stop ?_) | (at_range; refine At.stop ?_) | (at_next; refine At.stop ?_) | (at_builtin; refine At.stop ?_))
  go_ret
  exact ⟨rfl, rfl⟩

set_option maxRecDepth 100000 in
set_option maxHeartbeats 400000 in
theorem put_yes (hlen : LenSays) (w : World) (b : Nat) (S : WSt) (name : ByteArray) (t : Nat) (h : WheelAt w b S) (hA : S.Above) (ht : S.now < t) (ht2 : t < 18446744073709551616) :
    Calls Tryd.prog 25 #[.pointer (some ⟨b, 0, none⟩), .string name, .int .u64 t] w fun e w' => e = .returned (.bool true) ∧ WheelAt w' b (S.put name t) ∧ Fr (S.foot b) w w' := by
  have c0 := h.cnow
  have hle : decide ((t : Int) ≤ (S.now : Int)) = false := by simpa using ht
  go_enter Tryd.func25, Tryd.ntmps25
  go_wp2_with (first | (at_delete; refine At.stop ?_) | (at_mapUpdate; refine At.stop ?_) | (at_lookup; refine At.stop ?_) | (at_range; refine At.stop ?_) | (at_next; refine At.stop ?_) | (at_builtin; refine At.stop ?_))
  refine (drop_any hlen _ b S name h hA).mono ?_
  rintro e w1 ⟨rfl, h1, hf1⟩
  clear c0 h
  have c1 := h1.call
  go_wp2_with (first | (at_delete; refine At.stop ?_) | (at_mapUpdate; refine At.stop ?_) | (at_lookup; refine At.stop ?_) | (at_range; refine At.stop ?_) | (at_next; refine At.stop ?_) | (at_builtin; refine At.stop ?_))
  refine At.go (wpl_update rfl _ _ _ rfl Tryd.underlying82 key_str h1.all rfl name rfl t rfl ?_)
  intro w2 hf2 hs2 hm2
  have h2 := h1.setAll hf2 hm2
  clear c1 h1
  go_wp2_with (first | (at_delete; refine At.stop ?_) | (at_mapUpdate; refine At.stop ?_) | (at_lookup; refine At.stop ?_) | (at_range; refine At.stop ?_) | (at_next; refine At.stop ?_) | (at_builtin; refine At.stop ?_))
  refine (place_any hlen _ b _ t h2 ht2 (by rw [show ({ S.drop name with all := aput (S.drop name).all name t } : WSt).now = S.now from drop_now S name]; exact ht)).mono ?_
  rintro e w' ⟨rfl, n, rfl⟩
  have h3 := h2.drewN n
  clear h2
  go_wp2_with (first | (at_delete; refine At.stop ?_) | (at_mapUpdate; refine At.stop ?_) | (at_lookup; refine At.stop ?_) | (at_range; refine At.stop ?_) | (at_next; refine At.stop ?_) | (at_builtin; refine At.stop ?_))
  refine At.go (wpl_update rfl _ _ _ rfl Tryd.underlying82 key_str (h3.place _ (plcOf_le _ _)) rfl name rfl t rfl ?_)
  intro w3 hf3 hs3 hm3
  have h4 := h3.set (plcOf_le _ _) hf3 hm3
  go_wp2_with (first | (at_delete; refine At.stop ?_) | (at_mapUpdate; refine At.stop ?_) | (at_lookup; refine At.stop ?_) | (at_range; refine At.stop ?_) | (at_next; refine At.stop ?_) | (at_builtin; refine At.stop ?_))
  go_ret
  refine ⟨rfl, ?_, ?_⟩
  · have e1 : ({ S.drop name with all := aput (S.drop name).all name t } : WSt).now = S.now := drop_now S name
    have e2 : plcOf ({ S.drop name with all := aput (S.drop name).all name t } : WSt).now t = plcOf S.now t := congrArg (plcOf · t) e1
    rw [e2] at h4
    exact h4
  · have g2 : ∀ k, k = (S.drop name).ra → S.foot b k := fun k e => by rw [e, drop_ra]; exact foot_all S b
    have g3 : ∀ i k, i ≤ 64 → k = ({ S.drop name with all := aput (S.drop name).all name t } : WSt).id i → S.foot b k := fun i k hi e => by
      rw [e, show ({ S.drop name with all := aput (S.drop name).all name t } : WSt).id i = S.id i from drop_id S name i]
      exact foot_place S b hi
    exact ((hf1.then hf2 (fun k _ e => g2 k e)).drewN n).then hf3 (fun k _ e => g3 _ k (plcOf_le _ _) e)

end Go.Proofs.YtmjbhnkhpgnchaaDoor
