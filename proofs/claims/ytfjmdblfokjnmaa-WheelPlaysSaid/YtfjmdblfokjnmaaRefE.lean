/-
  The reference's wheel: Slot.
-/
import Derived.Test.YtfjmdblfokjnmaaRefD
namespace Go.Proofs.Ytfjmdblfokjnmaa
open Go Go.RowKit

theorem below_drewN {B : Nat} {w w' : World} (h : RowKit.Below B w w') (n : Nat) : RowKit.Below B w (w'.drewN n) := ⟨h.os, h.tape, h.output, h.size, h.block⟩

theorem div16_step (a j : Nat) : a / 16 ^ j = 16 * (a / 16 ^ (j + 1)) + a / 16 ^ j % 16 := by
  rw [Nat.pow_succ, ← Nat.div_div_eq_div_mul]
  omega

theorem levelIs_top {a b : Nat} {z : Int} (h : LevelIs a b 16 z) (ha : a < 18446744073709551616) (hb : b < 18446744073709551616) : ∀ n j : Nat, j + n = 16 → z < j → a / 16 ^ j = b / 16 ^ j
  | 0, j, hj, _ => by
    obtain rfl : j = 16 := by omega
    rw [Nat.div_eq_of_lt (by omega), Nat.div_eq_of_lt (by omega)]
  | n + 1, j, hj, hz => by
    have ih := levelIs_top h ha hb n (j + 1) (by omega) (by omega)
    have hd := h.2.2.2 j hz (by omega)
    rw [div16_step a j, div16_step b j, ih, hd]

theorem levelIs_lev {a b : Nat} {z : Int} (h : LevelIs a b 16 z) (ha : a < 18446744073709551616) (hb : b < 18446744073709551616) (hne : a ≠ b) : z = (levOf b a : Nat) := by
  have key := fun k => le_levOf b a k hne ha hb
  have hz0 : 0 ≤ z := by
    apply Int.not_lt.1
    intro hlt
    have := levelIs_top h ha hb 16 0 (by omega) (by omega)
    simp at this
    exact hne this
  have h1 : z.toNat ≤ levOf b a := (key _).2 (fun e => h.2.2.1 hz0 (by rw [e]))
  have h2 : ¬ z.toNat + 1 ≤ levOf b a := by
    intro hc
    have h3 := (key _).1 hc
    by_cases h16 : z.toNat + 1 ≤ 16
    · exact h3 (levelIs_top h ha hb (16 - (z.toNat + 1)) (z.toNat + 1) (by omega) (by omega))
    · have := h.2.1
      omega
  omega

def slotL (now i : Nat) (m : List (ByteArray × Nat)) : List (ByteArray × Nat) := m.filter fun p => decide (plcOf now p.2 = i)

theorem slotL_take {now i : Nat} {xs : List (ByteArray × Nat)} {k : Nat} {p : ByteArray × Nat} (h : xs[k]? = some p) :
    slotL now i (xs.take (k + 1)) = if plcOf now p.2 = i then slotL now i (xs.take k) ++ [p] else slotL now i (xs.take k) := by
  unfold slotL
  rw [List.take_add_one, h, List.filter_append]
  split <;> simp [*]

theorem ref_level_lev (a b : Nat) (ha : a < 18446744073709551616) (hab : b < a) (W : World) :
    Calls Try.prog 38 #[.int .u64 a, .int .u64 b] W fun e w' => e = .returned (.int .i64 (levOf b a)) ∧ w' = W := by
  refine (ref_level W a b ha (by omega)).mono ?_
  rintro e w' ⟨⟨z, hz, rfl⟩, rfl⟩
  rw [levelIs_lev hz ha (by omega) (by omega)]
  exact ⟨rfl, rfl⟩

theorem levOf_le (now a : Nat) (hne : a ≠ now) (ha : a < 18446744073709551616) (hn : now < 18446744073709551616) : levOf now a ≤ 15 := by
  unfold levOf
  have := (bitLen_pos _ (xor_ne _ _ hne) (xor_lt64 ha hn)).2
  omega

theorem plc_in {now a L s : Nat} (hL : L < 4) (hs : s < 16) : plcOf now a = 16 * L + s ↔ levOf now a = L ∧ figN a L = s := by
  unfold plcOf figN
  constructor
  · intro h
    split at h
    · rename_i hl
      have : a / 2 ^ (4 * levOf now a) % 16 < 16 := Nat.mod_lt _ (by omega)
      have e : levOf now a = L := by omega
      refine ⟨e, ?_⟩
      rw [← e, ← pow16]
      omega
    · omega
  · rintro ⟨rfl, rfl⟩
    rw [if_pos hL, pow16]
theorem plc_far {now a : Nat} : plcOf now a = 64 ↔ 3 < levOf now a := by
  unfold plcOf
  split
  · have : a / 2 ^ (4 * levOf now a) % 16 < 16 := Nat.mod_lt _ (by omega)
    omega
  · omega

set_option maxRecDepth 100000 in
set_option maxHeartbeats 1000000 in
theorem ref_slot (w : World) (rb now : Nat) (m : List (ByteArray × Nat)) (v : Value) (L s : Nat) (hLs : (L < 4 ∧ s < 16) ∨ (L = 4 ∧ s = 0)) (h : RefAt w rb now m v) (hl : m.length ≤ 1000000)
    (hab : ∀ p ∈ m, now < p.2 ∧ p.2 < 18446744073709551616) :
    Calls Try.prog 31 #[.pointer (some ⟨rb, 0, none⟩), .int .i64 L, .int .i64 s] w fun e w' => ∃ v', e = .returned v' ∧ OwnE w.heap.size w' v' (slotL now (16 * L + s) m) ∧ RowKit.Below w.heap.size w w' := by
  have hrlt := h.lt
  have hr0 := h.c0
  have hr1 := h.c1
  obtain ⟨a, cap, hv, _, hcell⟩ := h.list.view
  have hlt : ∀ g off, a = some ⟨g, off, none⟩ → g < w.heap.size := fun g off e => h.list.lt ⟨off, m.length, cap, by rw [hv, e]⟩
  subst hv
  have HC := Lib.hid (And.intro hcell (And.intro hlt (And.intro hab hLs)))
  have hL4 : L ≤ 4 := by omega
  obtain ⟨idx, hidx⟩ : ∃ idx, idx = 16 * L + s := ⟨_, rfl⟩
  rw [← hidx]
  have HI := Lib.hid hidx
  clear hidx
  clear hcell hlt h hab hLs
  go_enter Try.func31, Try.ntmps31
  go_wp2
  go_loopg [7, 8] m.length (fun n u i wr => ∃ k : Nat, k + n = m.length ∧ i = .int .i64 k ∧ OwnE w.heap.size wr u (slotL now idx (m.take k)) ∧ RowKit.Below w.heap.size w wr)
  case atStart => exact ⟨0, by omega, rfl, OwnS.nil, RowKit.Below.refl _ _⟩
  case round =>
    obtain ⟨k, hk, rfl, ho, hB⟩ := hrel
    have hd0 := ((Fr.of_below hB).cell (p := ⟨rb, 0, none⟩) hrlt (show ¬ w.heap.size ≤ rb by omega)).trans hr0
    have hd1 := ((Fr.of_below hB).cell (p := ⟨rb, 1, none⟩) hrlt (show ¬ w.heap.size ≤ rb by omega)).trans hr1
    by_cases hlt : k < m.length
    · have hi0 : (k : Int) < (m.length : Int) := by omega
      have hi1 : decide ((k : Int) < (m.length : Int)) = true := by simpa using hlt
      obtain ⟨p, hp⟩ : ∃ p, m[k]? = some p := ⟨_, List.getElem?_eq_getElem hlt⟩
      obtain ⟨g, off, rfl, hc0, hc1⟩ := HC.out.1 k p hp
      have hg := HC.out.2.1 g off rfl
      have hpp := HC.out.2.2.1 p (List.mem_of_getElem? hp)
      have he0 := ((Fr.of_below hB).cell (p := ⟨g, off + k * 2, none⟩) hg (show ¬ w.heap.size ≤ g by omega)).trans hc0
      have he1 := ((Fr.of_below hB).cell (p := ⟨g, off + k * 2 + 1, none⟩) hg (show ¬ w.heap.size ≤ g by omega)).trans hc1
      have HD := Lib.hid (slotL_take (now := now) (i := idx) hp)
      have HLv := Lib.hid (fun W => ref_level_lev p.2 now hpp.2 hpp.1 W)
      have hlv := levOf_le now p.2 (by omega) hpp.2 (by omega)
      have HP := Lib.hid (And.intro (@plc_in now p.2 L s) (@plc_far now p.2))
      clear hc0 hc1 hp hr0 hr1
      generalize hlvn : levOf now p.2 = lv at HLv hlv HP
      go_wp2
      go_quiet ((go_at_call 38; exact Calls.quiet_of_same (HLv.out _)))
      have hsl : (slotL now idx (m.take k)).length ≤ 1000000 := by
        unfold slotL
        refine Nat.le_trans (List.length_filter_le _ _) ?_
        rw [List.length_take]
        omega
      rcases HC.out.2.2.2 with ⟨hL, hs⟩ | ⟨rfl, rfl⟩
      · have dL : decide ((L : Int) < 4) = true := by simp; omega
        have dL4 : ((L : Int) == 4) = false := by rw [beq_eq_false_iff_ne]; omega
        by_cases hl1 : lv = L
        · obtain rfl : lv = L := hl1
          have e1 : ((lv : Int) == (lv : Int)) = true := beq_self_eq_true _
          by_cases hf : figN p.2 lv = s
          · have HY := Lib.hid (show plcOf now p.2 = idx by rw [HI.out]; exact (HP.out.1 hL hs).2 ⟨rfl, hf⟩)
            have e2 : ((figN p.2 lv : Int) == (s : Int)) = true := by rw [beq_iff_eq]; omega
            go_wp2_with fail
            refine (ref_figure _ p.2 lv hpp.2 (by omega)).mono ?_
            rintro e w' ⟨rfl, rfl⟩
            have hE := HD.out
            rw [if_pos HY.out] at hE
            have HE := Lib.hid hE
            have hsz := hB.size
            clear hE HD
            go_wp2_with (with_reducible refine wpl_load_stop rfl 45 _ rfl ?_)
            refine At.go (wpl_load_agg rfl 45 _ rfl g (off + k * 2) rfl [.string p.1, .int .u64 p.2] Try.underlying45 rfl (by kernel_rfl) (two_cells (w := wr.drewN nq) he0 he1) ?_)
            go_wp2_with (first | (at_delete; refine At.stop ?_) | (at_mapUpdate; refine At.stop ?_) | (at_lookup; refine At.stop ?_) | (at_range; refine At.stop ?_) | (at_next; refine At.stop ?_) | (at_builtin; refine At.stop ?_))
            refine At.go (wpl_append1 rfl _ _ _ rfl Try.underlying27 info_entry rfl (by omega) rfl (OwnS.alloc (OwnS.drewN ho nq) _) wr.heap.size 1 rfl p rfl ?_ (encT_cells p) (by unfold maxLen; omega) (by omega) (by simp; omega) ?_)
            · exact (Go.MapKept.heap_alloc (wr.drewN nq) _).1
            intro v' w3 ho3 hf3
            have hf3' : Fr (fun g => u7.ownBlock = some g) wr w3 := (((Fr.refl _ wr).drewN nq).alloc _).trans hf3
            have hB3 : RowKit.Below w.heap.size w w3 := hB.trans (hf3'.below (fun k hk e => by have := (OwnS.lt ho _ e).1; omega) (by omega))
            have HS := Lib.hid (show OwnE w.heap.size w3 v' (slotL now idx (m.take (k + 1))) ∧ RowKit.Below w.heap.size w w3 by
              rw [HE.out]; exact ⟨ho3, hB3⟩)
            clear ho3 hf3 hf3' hB3 ho hB
            go_wp2_with (first | (at_delete; refine At.stop ?_) | (at_mapUpdate; refine At.stop ?_) | (at_lookup; refine At.stop ?_) | (at_range; refine At.stop ?_) | (at_next; refine At.stop ?_) | (at_builtin; refine At.stop ?_))
            go_roundg (m.length - (k + 1))
            case measure => omega
            case rel => exact ⟨k + 1, by omega, by go_num, HS.out⟩
          · have HY := Lib.hid (show ¬ plcOf now p.2 = idx by rw [HI.out]; exact fun hc => hf ((HP.out.1 hL hs).1 hc).2)
            have e2 : ((figN p.2 lv : Int) == (s : Int)) = false := by rw [beq_eq_false_iff_ne]; omega
            go_wp2_with fail
            refine (ref_figure _ p.2 lv hpp.2 (by omega)).mono ?_
            rintro e w' ⟨rfl, rfl⟩
            have HS := Lib.hid (show OwnE w.heap.size (wr.drewN nq) u7 (slotL now idx (m.take (k + 1))) ∧ RowKit.Below w.heap.size w (wr.drewN nq) by
              rw [HD.out, if_neg HY.out]; exact ⟨OwnS.drewN ho nq, below_drewN hB nq⟩)
            clear ho hB
            go_wp2
            go_roundg (m.length - (k + 1))
            case measure => omega
            case rel => exact ⟨k + 1, by omega, by go_num, HS.out⟩
        · have HY := Lib.hid (show ¬ plcOf now p.2 = idx by rw [HI.out]; exact fun hc => hl1 ((HP.out.1 hL hs).1 hc).1)
          have e1 : ((lv : Int) == (L : Int)) = false := by rw [beq_eq_false_iff_ne]; omega
          have HS := Lib.hid (show OwnE w.heap.size (wr.drewN nq) u7 (slotL now idx (m.take (k + 1))) ∧ RowKit.Below w.heap.size w (wr.drewN nq) by
            rw [HD.out, if_neg HY.out]; exact ⟨OwnS.drewN ho nq, below_drewN hB nq⟩)
          clear ho hB
          go_wp2
          go_roundg (m.length - (k + 1))
          case measure => omega
          case rel => exact ⟨k + 1, by omega, by go_num, HS.out⟩
      · by_cases h4 : lv = 4
        · obtain rfl : lv = 4 := h4
          have HY := Lib.hid (show plcOf now p.2 = idx by rw [HI.out]; exact HP.out.2.2 (by omega))
          have hE := HD.out
          rw [if_pos HY.out] at hE
          have HE := Lib.hid hE
          have hsz := hB.size
          clear hE HD
          go_wp2_with (with_reducible refine wpl_load_stop rfl 45 _ rfl ?_)
          refine At.go (wpl_load_agg rfl 45 _ rfl g (off + k * 2) rfl [.string p.1, .int .u64 p.2] Try.underlying45 rfl (by kernel_rfl) (two_cells (w := wr.drewN nq) he0 he1) ?_)
          go_wp2_with (first | (at_delete; refine At.stop ?_) | (at_mapUpdate; refine At.stop ?_) | (at_lookup; refine At.stop ?_) | (at_range; refine At.stop ?_) | (at_next; refine At.stop ?_) | (at_builtin; refine At.stop ?_))
          refine At.go (wpl_append1 rfl _ _ _ rfl Try.underlying27 info_entry rfl (by omega) rfl (OwnS.alloc (OwnS.drewN ho nq) _) wr.heap.size 1 rfl p rfl ?_ (encT_cells p) (by unfold maxLen; omega) (by omega) (by simp; omega) ?_)
          · exact (Go.MapKept.heap_alloc (wr.drewN nq) _).1
          intro v' w3 ho3 hf3
          have hf3' : Fr (fun g => u7.ownBlock = some g) wr w3 := (((Fr.refl _ wr).drewN nq).alloc _).trans hf3
          have hB3 : RowKit.Below w.heap.size w w3 := hB.trans (hf3'.below (fun k hk e => by have := (OwnS.lt ho _ e).1; omega) (by omega))
          have HS := Lib.hid (show OwnE w.heap.size w3 v' (slotL now idx (m.take (k + 1))) ∧ RowKit.Below w.heap.size w w3 by
            rw [HE.out]; exact ⟨ho3, hB3⟩)
          clear ho3 hf3 hf3' hB3 ho hB
          go_wp2_with (first | (at_delete; refine At.stop ?_) | (at_mapUpdate; refine At.stop ?_) | (at_lookup; refine At.stop ?_) | (at_range; refine At.stop ?_) | (at_next; refine At.stop ?_) | (at_builtin; refine At.stop ?_))
          go_roundg (m.length - (k + 1))
          case measure => omega
          case rel => exact ⟨k + 1, by omega, by go_num, HS.out⟩
        · have e1 : ((lv : Int) == 4) = false := by rw [beq_eq_false_iff_ne]; omega
          by_cases h3 : 3 < lv
          · have e2 : decide ((3 : Int) < (lv : Int)) = true := by simp; omega
            have HY := Lib.hid (show plcOf now p.2 = idx by rw [HI.out]; exact HP.out.2.2 h3)
            have hE := HD.out
            rw [if_pos HY.out] at hE
            have HE := Lib.hid hE
            have hsz := hB.size
            clear hE HD
            go_wp2_with (with_reducible refine wpl_load_stop rfl 45 _ rfl ?_)
            refine At.go (wpl_load_agg rfl 45 _ rfl g (off + k * 2) rfl [.string p.1, .int .u64 p.2] Try.underlying45 rfl (by kernel_rfl) (two_cells (w := wr.drewN nq) he0 he1) ?_)
            go_wp2_with (first | (at_delete; refine At.stop ?_) | (at_mapUpdate; refine At.stop ?_) | (at_lookup; refine At.stop ?_) | (at_range; refine At.stop ?_) | (at_next; refine At.stop ?_) | (at_builtin; refine At.stop ?_))
            refine At.go (wpl_append1 rfl _ _ _ rfl Try.underlying27 info_entry rfl (by omega) rfl (OwnS.alloc (OwnS.drewN ho nq) _) wr.heap.size 1 rfl p rfl ?_ (encT_cells p) (by unfold maxLen; omega) (by omega) (by simp; omega) ?_)
            · exact (Go.MapKept.heap_alloc (wr.drewN nq) _).1
            intro v' w3 ho3 hf3
            have hf3' : Fr (fun g => u7.ownBlock = some g) wr w3 := (((Fr.refl _ wr).drewN nq).alloc _).trans hf3
            have hB3 : RowKit.Below w.heap.size w w3 := hB.trans (hf3'.below (fun k hk e => by have := (OwnS.lt ho _ e).1; omega) (by omega))
            have HS := Lib.hid (show OwnE w.heap.size w3 v' (slotL now idx (m.take (k + 1))) ∧ RowKit.Below w.heap.size w w3 by
              rw [HE.out]; exact ⟨ho3, hB3⟩)
            clear ho3 hf3 hf3' hB3 ho hB
            go_wp2_with (first | (at_delete; refine At.stop ?_) | (at_mapUpdate; refine At.stop ?_) | (at_lookup; refine At.stop ?_) | (at_range; refine At.stop ?_) | (at_next; refine At.stop ?_) | (at_builtin; refine At.stop ?_))
            go_roundg (m.length - (k + 1))
            case measure => omega
            case rel => exact ⟨k + 1, by omega, by go_num, HS.out⟩
          · have e2 : decide ((3 : Int) < (lv : Int)) = false := by simp; omega
            have HY := Lib.hid (show ¬ plcOf now p.2 = idx by rw [HI.out]; exact fun hc => h3 (HP.out.2.1 hc))
            have HS := Lib.hid (show OwnE w.heap.size (wr.drewN nq) u7 (slotL now idx (m.take (k + 1))) ∧ RowKit.Below w.heap.size w (wr.drewN nq) by
              rw [HD.out, if_neg HY.out]; exact ⟨OwnS.drewN ho nq, below_drewN hB nq⟩)
            clear ho hB
            go_wp2
            go_roundg (m.length - (k + 1))
            case measure => omega
            case rel => exact ⟨k + 1, by omega, by go_num, HS.out⟩
    · obtain rfl : k = m.length := by omega
      rw [List.take_length] at ho
      have HF := Lib.hid (And.intro ho hB)
      clear ho hB
      go_wp2
      go_ret
      exact ⟨_, rfl, HF.out⟩
end Go.Proofs.Ytfjmdblfokjnmaa
