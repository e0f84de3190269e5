/-
  WheelPlays: the walk.
-/
import Derived.Test.YtfjmdblfokjnmaaPlayA
import Derived.Deep.RegionHeld3
import Derived.Deep.CutRange
namespace Go.Proofs.Ytfjmdblfokjnmaa
open Go Go.RowKit

set_option maxRecDepth 100000 in
set_option maxHeartbeats 4000000 in
theorem plays_walk (w : World) (now : Nat) (a : Option Addr) (cap : Nat) (acts : List ActV) (hnow : now < 18446744073709551616) (hA : ActsAt w a acts) (hok : ∀ x ∈ acts, x.ok) (hlen : acts.length < 9223372036854775808) :
    Calls Try.prog 3 #[.int .u64 now, .slice a acts.length cap] w fun e w' => e = .returned (.bool true) ∧ RowKit.Below w.heap.size w w' := by
  have HN := Lib.hid (new_any w now)
  have HA := Lib.hid (And.intro hA hok)
  clear hA hok
  go_enter Try.func3, Try.ntmps3
  go_wp2_with fail
  refine HN.out.mono ?_
  rintro e w1 ⟨S, rfl, hw1, hS0, hall, hget, hB1, hfo⟩
  have hP := play_start hw1 hS0 hall hget hB1 hfo hnow
  have hb1 := hw1.lt
  generalize w.heap.size + 2 = b at hP hb1 ⊢
  clear hw1 hS0 hall hget hB1 hfo HN
  go_wp2
  generalize w1.heap.size = rb at hP hb1 ⊢
  have HP := Lib.hid hP
  clear hP
  go_loopg [7] 100 (fun n u wr => ∃ (i : Nat) (S : WSt) (m : List (ByteArray × Nat)) (v : Value), i + n = 100 ∧ u = .int .i64 i ∧ i ≤ acts.length ∧ Play w wr b rb S m v i)
  case atStart => exact ⟨0, S, [], _, rfl, rfl, by omega, HP.out⟩
  case round =>
    clear HP S
    obtain ⟨i, S, m, v, hi, rfl, hil, hP⟩ := hrel
    by_cases hgo : i < acts.length ∧ i < 100
    · have d1 : decide ((i : Int) < (acts.length : Int)) = true := by simp; omega
      have d2 : decide ((i : Int) < 100) = true := by simp; omega
      have d3 : (i : Int) < (acts.length : Int) := by omega
      obtain ⟨x, hx⟩ : ∃ x, acts[i]? = some x := ⟨_, List.getElem?_eq_getElem hgo.1⟩
      obtain ⟨g, off, rfl, hg, q0, q1, q2, q3⟩ := HA.out.1 i x hx
      have hxo := HA.out.2 x (List.mem_of_getElem? hx)
      have e0 := ((Fr.of_below hP.below).cell (p := ⟨g, off + i * 4, none⟩) hg (show ¬ w.heap.size ≤ g by omega)).trans q0
      have e1 := ((Fr.of_below hP.below).cell (p := ⟨g, off + i * 4 + 1, none⟩) hg (show ¬ w.heap.size ≤ g by omega)).trans q1
      have e2 := ((Fr.of_below hP.below).cell (p := ⟨g, off + i * 4 + 2, none⟩) hg (show ¬ w.heap.size ≤ g by omega)).trans q2
      have e3 := ((Fr.of_below hP.below).cell (p := ⟨g, off + i * 4 + 3, none⟩) hg (show ¬ w.heap.size ≤ g by omega)).trans q3
      have HP := Lib.hid hP
      have hrb := hP.ref.lt
      clear hP q0 q1 q2 q3 hx hg
      go_wp2_with (with_reducible refine wpl_load_stop rfl 31 _ rfl ?_)
      refine At.go (wpl_load_agg rfl 31 _ rfl g (off + i * 4) rfl [.int .i64 x.kind, .string x.name, .int .u64 x.at_, .int .u64 x.by_] Try.underlying31 rfl (by kernel_rfl) (four_cells e0 e1 e2 e3) ?_)
      go_wp2_with (with_reducible refine wpl_store_stop rfl 31 _ _ rfl ?_)
      have hbox : OwnS encAct 4 31 wr.heap.size (wr.alloc (Obj.cells #[Value.int IntKind.i64 0, Value.string { data := #[] }, Value.int IntKind.u64 0, Value.int IntKind.u64 0] 31)) (.slice (some ⟨wr.heap.size, 0, none⟩) [(⟨0, ⟨#[]⟩, 0, 0⟩ : ActV)].length 1) [(⟨0, ⟨#[]⟩, 0, 0⟩ : ActV)] :=
        ⟨rfl, .inr ⟨wr.heap.size, 1, _, rfl, Nat.le_refl _, (Go.MapKept.heap_alloc wr _).1, by simp, by unfold maxLen; omega, rfl, rfl⟩⟩
      refine At.go (wpl_store_elem rfl 31 _ _ rfl encAct_len hbox (i := 0) (by simp) x rfl rfl (by kernel_rfl) (encAct_cells x) ?_)
      intro w2 hbox2 hf2
      have hfa : Fr (· = wr.heap.size) wr w2 := ((Fr.refl _ wr).alloc _).trans hf2
      have hB2 : RowKit.Below wr.heap.size wr w2 := hfa.below (fun k hk e => by omega) (Nat.le_refl _)
      have hbx := box_of hbox2
      have HB := Lib.hid hbx
      have HP2 := Lib.hid (HP.out.move hB2 (Nat.le_refl _))
      have HP1 := Lib.hid (HP.out.move hB2 (Nat.le_succ _))
      clear hbox hbox2 hf2 hfa hB2 HP e0 e1 e2 e3
      obtain ⟨c0, c1, c2, c3, hablt⟩ := hbx
      generalize wr.heap.size = ab at HB c0 c1 c2 c3 hablt hrb ⊢
      by_cases hlong : 40 < x.name.size
      · have dl : decide ((40 : Int) < (x.name.size : Int)) = true := by simp; omega
        go_wp2
        go_roundg (100 - (i + 1))
        case measure => omega
        case rel => exact ⟨i + 1, S, m, v, by omega, by go_num, by omega, HP1.out⟩
      · have dl : decide ((40 : Int) < (x.name.size : Int)) = false := by simp; omega
        go_wp2_with (with_reducible refine wpl_load_stop rfl 31 _ rfl ?_)
        refine At.go (wpl_load_agg rfl 31 _ rfl ab 0 rfl [.int .i64 x.kind, .string x.name, .int .u64 x.at_, .int .u64 x.by_] Try.underlying31 rfl (by kernel_rfl) (four_cells c0 c1 c2 c3) ?_)
        have HT := Lib.hid (tick_any w2 b S m x HP2.out.wheel HP2.out.tells hxo (by have := HP2.out.len; omega))
        go_wp2_with fail
        refine HT.out.mono ?_
        rintro e w3 ⟨t, ht, rfl, hB3⟩
        have hbx := HB.out.below hB3
        have HB3 := Lib.hid hbx
        have hP3 := HP2.out.move hB3 (Nat.le_refl i)
        have HP3 := Lib.hid hP3
        have hlenm := hP3.len
        clear HT hB3 HB HP2 HP1 hP3 c0 c1 c2 c3 hablt
        obtain ⟨c0, c1, c2, c3, hablt⟩ := hbx
        have hPd := HP3.out.move (below_drewN (RowKit.Below.refl _ w3) 1) (Nat.le_refl _)
        have HPd := Lib.hid (show Play w w3.drew b rb S m v i from hPd)
        have HBd := Lib.hid (show BoxAt w3.drew ab x from HB3.out.below (below_drewN (RowKit.Below.refl _ w3) 1))
        clear hPd
        have hS1 : w3.drew.cell? ⟨ab, 1, none⟩ = some (.string x.name) := c1
        go_upto_region 12 with (fail)
        iterate 10 go_step
        go_cut [10] from 22 to 137 (fun good wc => good = .bool true ∧ ∃ (S : WSt) (m : List (ByteArray × Nat)) (v : Value), Play w wc b rb S m v (i + 1))
        case rest =>
          clear HP3 HB3 c0 c1 c2 c3 hablt hlenm HPd HBd hS1
          obtain ⟨rfl, Sq, mq, vq, hQ⟩ := hcut
          have HQ := Lib.hid hQ
          clear hQ
          have hlq := HQ.out.len
          have HS := Lib.hid (soon_pair _ b _ _ HQ.out.wheel HQ.out.tells (by omega))
          go_wp2_with fail
          refine HS.out.mono ?_
          rintro e w5 ⟨rfl, hB5⟩
          have hQ5 := HQ.out.move hB5 (Nat.le_refl _)
          have HQ5 := Lib.hid hQ5
          have HSt := Lib.hid (stands_any w5 b rb _ _ _ hQ5.wheel hQ5.ref hQ5.tells (by omega))
          clear hB5 hQ5 HS HQ
          go_wp2_with fail
          refine HSt.out.mono ?_
          rintro e w6 ⟨rfl, hB6⟩
          have hQ6 := HQ5.out.move hB6 (Nat.le_refl _)
          have r0 := hQ6.ref.c0
          have HC := Lib.hid (fun n => clock_any (w6.drewN n) b _ (hQ6.wheel.drewN n))
          have HL := Lib.hid (fun n => len_any (w6.drewN n) b _ (hQ6.wheel.drewN n))
          rw [← hQ6.tells.len] at HL
          have r1 := hQ6.ref.c1
          have HQ6 := Lib.hid (fun n => hQ6.move (below_drewN (RowKit.Below.refl _ _) n) (Nat.le_refl _))
          obtain ⟨av, cv, rfl, _, hcell⟩ := hQ6.ref.list.view
          have eN : ((Sq.now : Int) == (Sq.now : Int)) = true := beq_self_eq_true _
          clear hQ6 hB6 HQ5 HSt
          cases mq with
          | nil =>
            clear hcell
            rw [show decide (0 < ([] : List (ByteArray × Nat)).length) = false from rfl]
            go_wp2
            go_quiet ((first
              | (go_at_call 15; exact Calls.quiet_of_same ((HC.out _).mono fun _ _ h => ⟨h.1, h.2.symm⟩))
              | (go_at_call 16; exact Calls.quiet_of_same ((HL.out _).mono fun _ _ h => ⟨h.1, h.2.symm⟩))))
            go_wp2
            go_roundg (100 - (i + 1))
            case measure => omega
            case rel => exact ⟨i + 1, Sq, [], _, by omega, by go_num, by omega, HQ6.out _⟩
          | cons pq lq =>
            obtain ⟨gq, oq, rfl, _, hcq⟩ := hcell 0 pq rfl
            rw [show decide (0 < (pq :: lq).length) = true from decide_eq_true (by simp), show headAt (pq :: lq) = pq.2 from rfl]
            have hl0 : (0 : Int) < ((pq :: lq).length : Int) := by simp only [List.length_cons]; omega
            have eL : (((pq :: lq).length : Int) == ((pq :: lq).length : Int)) = true := beq_self_eq_true _
            have eP : ((pq.2 : Int) == (pq.2 : Int)) = true := beq_self_eq_true _
            rw [Nat.zero_mul, Nat.add_zero] at hcq
            have hl1 : decide ((0 : Int) < ((pq :: lq).length : Int)) = true := decide_eq_true hl0
            clear hcell
            have hl2 : 0 < (pq :: lq).length := by simp
            generalize hgl : (pq :: lq).length = ll at hl0 hl1 hl2 eL r1 HL hlq
            have HGL := Lib.hid hgl
            clear hgl
            go_wp2
            go_quiet ((first
              | (go_at_call 15; exact Calls.quiet_of_same ((HC.out _).mono fun _ _ h => ⟨h.1, h.2.symm⟩))
              | (go_at_call 16; exact Calls.quiet_of_same ((HL.out _).mono fun _ _ h => ⟨h.1, h.2.symm⟩))))
            go_wp2
            go_roundg (100 - (i + 1))
            case measure => omega
            case rel => exact ⟨i + 1, Sq, pq :: lq, _, by omega, by go_num, by omega, HQ6.out _⟩
        case first =>
          by_cases hk : x.kind = 1 ∨ x.kind = 2 ∨ x.kind = 3 ∨ x.kind = 4 ∨ x.kind = 5 ∨ x.kind = 6
          · rcases hk with h1 | h2 | h3 | h4 | h5 | h6
            · have k1 : (x.kind == 1) = true := by rw [beq_iff_eq]; omega
              by_cases hlt : S.now < t
              · have HD1 := Lib.hid (put_yes len64_says w3.drew b S x.name t HPd.out.wheel HPd.out.tells.good.above hlt ht)
                have HD2 := Lib.hid (fun w4 hR => ref_put_yes w4 rb S.now m v x.name t hR hlt (by omega) HPd.out.tells.asc)
                go_wp2
                go_region_held3 (fun w' => w'.cell? ⟨ab, 1, none⟩ = some (.string x.name))
                  (first
                    | exact hS1
                    | exact ((HBd.out.fr hf4 (fun hc => by have := HPd.out.foot ab hc; omega)).fr hf5 (show ¬ ab = rb by omega)).c1
                    | exact (HBd.out.fr hf4 (fun hc => by have := HPd.out.foot ab hc; omega)).c1)
                  (first
                    | (go_at_call 6; refine HD1.out.mono ?_; rintro e w4 ⟨rfl, hW4, hf4⟩)
                    | (go_at_call 7; refine (HD2.out w4 (HPd.out.refStays hf4)).mono ?_; rintro e w5 ⟨l, v', rfl, hp5, ha5, hR5, hf5⟩))
                all_goals
                  have HQ := Lib.hid (HPd.out.step (n' := i + 1) hW4 hf4 (by rw [put_foot]; exact fun _ h => h) (by rw [put_now]; exact hR5) hf5 (HPd.out.tells.put hlt ht hp5 ha5) (by
                    have h1 := List.length_filter_le (fun p : ByteArray × Nat => decide (p.1 ≠ x.name)) m
                    have h2 := hp5.length_eq
                    unfold dropL at h2
                    rw [List.length_append, List.length_singleton] at h2
                    omega))
                  go_wp2
                  go_meet
                  case rel => exact ⟨rfl, _, _, _, HQ.out⟩
              · have HD1 := Lib.hid (put_no w3.drew b S x.name t HPd.out.wheel (by omega))
                have HD2 := Lib.hid (ref_put_no w3.drew rb S.now m v x.name t HPd.out.ref (by omega))
                go_wp2
                go_region_held3 (fun w' => w'.cell? ⟨ab, 1, none⟩ = some (.string x.name)) (exact hS1)
                  (first
                    | (go_at_call 6; refine HD1.out.mono ?_; rintro e w4 ⟨rfl, rfl⟩)
                    | (go_at_call 7; refine HD2.out.mono ?_; rintro e w5 ⟨rfl, rfl⟩))
                all_goals
                  go_wp2
                  go_meet
                  case rel => exact ⟨rfl, S, m, v, HPd.out.move (RowKit.Below.refl _ _) (by omega)⟩
            · have k1 : (x.kind == 1) = false := by rw [beq_eq_false_iff_ne]; omega
              have k2 : (x.kind == 2) = true := by rw [beq_iff_eq]; omega
              by_cases hlt : S.now < t
              · have HD1 := Lib.hid (put_yes len64_says w3.drew b S x.name t HPd.out.wheel HPd.out.tells.good.above hlt ht)
                have HD2 := Lib.hid (fun w4 hR => ref_put_yes w4 rb S.now m v x.name t hR hlt (by omega) HPd.out.tells.asc)
                go_wp2
                go_region_held3 (fun w' => w'.cell? ⟨ab, 1, none⟩ = some (.string x.name))
                  (first
                    | exact hS1
                    | exact ((HBd.out.fr hf4 (fun hc => by have := HPd.out.foot ab hc; omega)).fr hf5 (show ¬ ab = rb by omega)).c1
                    | exact (HBd.out.fr hf4 (fun hc => by have := HPd.out.foot ab hc; omega)).c1)
                  (first
                    | (go_at_call 6; refine HD1.out.mono ?_; rintro e w4 ⟨rfl, hW4, hf4⟩)
                    | (go_at_call 7; refine (HD2.out w4 (HPd.out.refStays hf4)).mono ?_; rintro e w5 ⟨l, v', rfl, hp5, ha5, hR5, hf5⟩))
                all_goals
                  have HQ := Lib.hid (HPd.out.step (n' := i + 1) hW4 hf4 (by rw [put_foot]; exact fun _ h => h) (by rw [put_now]; exact hR5) hf5 (HPd.out.tells.put hlt ht hp5 ha5) (by
                    have h1 := List.length_filter_le (fun p : ByteArray × Nat => decide (p.1 ≠ x.name)) m
                    have h2 := hp5.length_eq
                    unfold dropL at h2
                    rw [List.length_append, List.length_singleton] at h2
                    omega))
                  go_wp2
                  go_meet
                  case rel => exact ⟨rfl, _, _, _, HQ.out⟩
              · have HD1 := Lib.hid (put_no w3.drew b S x.name t HPd.out.wheel (by omega))
                have HD2 := Lib.hid (ref_put_no w3.drew rb S.now m v x.name t HPd.out.ref (by omega))
                go_wp2
                go_region_held3 (fun w' => w'.cell? ⟨ab, 1, none⟩ = some (.string x.name)) (exact hS1)
                  (first
                    | (go_at_call 6; refine HD1.out.mono ?_; rintro e w4 ⟨rfl, rfl⟩)
                    | (go_at_call 7; refine HD2.out.mono ?_; rintro e w5 ⟨rfl, rfl⟩))
                all_goals
                  go_wp2
                  go_meet
                  case rel => exact ⟨rfl, S, m, v, HPd.out.move (RowKit.Below.refl _ _) (by omega)⟩
            · have k1 : (x.kind == 1) = false := by rw [beq_eq_false_iff_ne]; omega
              have k2 : (x.kind == 2) = false := by rw [beq_eq_false_iff_ne]; omega
              have k3 : (x.kind == 3) = true := by rw [beq_iff_eq]; omega
              have HD1 := Lib.hid (drop_any len64_says w3.drew b S x.name HPd.out.wheel HPd.out.tells.good.above)
              have HD2 := Lib.hid (fun w4 hR => (ref_drop w4 rb S.now m v x.name hR (by omega)).mono (R' := fun e w' => ∃ v', e = .returned (.bool (aget S.all x.name).isSome) ∧ RefAt w' rb S.now (dropL m x.name) v' ∧ Fr (· = rb) w4 w')
                (fun e w' ⟨v', bb, h1, h2, h3, h4⟩ => ⟨v', by rw [h2, show bb = (aget S.all x.name).isSome from Bool.eq_iff_iff.2 ((h1.trans (HP3.out.tells.keys x.name)).trans (drop_tell S x.name).symm)], h3, h4⟩))
              generalize (aget S.all x.name).isSome = bb at HD1 HD2
              have eB : (bb == bb) = true := beq_self_eq_true _
              go_wp2
              go_region_held3 (fun w' => w'.cell? ⟨ab, 1, none⟩ = some (.string x.name))
                (first
                  | exact hS1
                  | exact ((HBd.out.fr hf4 (fun hc => by have := HPd.out.foot ab hc; omega)).fr hf5 (show ¬ ab = rb by omega)).c1
                  | exact (HBd.out.fr hf4 (fun hc => by have := HPd.out.foot ab hc; omega)).c1)
                (first
                  | (go_at_call 8; refine HD1.out.mono ?_; rintro e w4 ⟨rfl, hW4, hf4⟩)
                  | (go_at_call 9; refine (HD2.out w4 (HPd.out.refStays hf4)).mono ?_; rintro e w5 ⟨v', rfl, hR5, hf5⟩))
              all_goals
                have HQ := Lib.hid (HPd.out.step (n' := i + 1) hW4 hf4 (by rw [drop_foot]; exact fun _ h => h) (by rw [drop_now]; exact hR5) hf5 (HPd.out.tells.drop x.name) (by have := List.length_filter_le (fun p : ByteArray × Nat => decide (p.1 ≠ x.name)) m; unfold dropL; omega))
                go_wp2
                go_meet
                case rel => exact ⟨rfl, _, _, _, HQ.out⟩
            · have k1 : (x.kind == 1) = false := by rw [beq_eq_false_iff_ne]; omega
              have k2 : (x.kind == 2) = false := by rw [beq_eq_false_iff_ne]; omega
              have k3 : (x.kind == 3) = false := by rw [beq_eq_false_iff_ne]; omega
              have k4 : (x.kind == 4) = true := by rw [beq_iff_eq]; omega
              by_cases hlt : t < S.now
              · have HD1 := Lib.hid (advance_no w3 b S t HP3.out.wheel hlt)
                go_wp2_with fail
                refine HD1.out.mono ?_
                rintro e w4 ⟨rfl, hB4⟩
                have hP4 := HP3.out.move hB4 (Nat.le_succ i)
                have HP4 := Lib.hid hP4
                have HD2 := Lib.hid (ref_adv_no w4 rb S.now m v t hP4.ref hlt)
                clear hP4 hB4 HD1
                go_wp2_with fail
                refine HD2.out.mono ?_
                rintro e w' ⟨rfl, rfl⟩
                have HD3 := Lib.hid (same_eq w4 (.slice none 0 0) (.slice none 0 0) [] (.inl ⟨rfl, rfl⟩) (.inl ⟨rfl, rfl⟩) (by simp))
                go_wp2_with fail
                refine HD3.out.mono ?_
                rintro e w6 ⟨rfl, d, rfl⟩
                have HQ := Lib.hid (HP4.out.move (below_drewN (RowKit.Below.refl _ _) d) (Nat.le_refl _))
                go_wp2
                go_meet
                case rel => exact ⟨rfl, S, m, v, HQ.out⟩
              · have HD1 := Lib.hid (advance_pair w3 b S m t HP3.out.wheel HP3.out.tells (by omega) ht (by omega))
                go_wp2_with fail
                refine HD1.out.mono ?_
                rintro e w4 ⟨v1, l, S4, rfl, ho4, hW4, hf4, hn4, hft4, hdue⟩
                have HD2 := Lib.hid (ref_adv_yes w4 rb S.now m v t (HP3.out.refStays hf4) (by omega) (by omega))
                have HX := Lib.hid (And.intro ho4 (And.intro hW4 (And.intro hf4 (And.intro hn4 (And.intro hft4 hdue)))))
                clear ho4 hW4 hf4 hn4 hft4 hdue HD1
                go_wp2_with fail
                refine HD2.out.mono ?_
                rintro e w5 ⟨n, v2, v3, hn, rfl, hs2, hab2, hR5, hf5⟩
                obtain ⟨ho4, hW4, hf4, hn4, hft4, hdue⟩ := HX.out
                obtain ⟨hl, hT5⟩ := hdue n hn
                subst hl
                have hrb3 := HP3.out.ref.lt
                have HD3 := Lib.hid (same_eq w5 v1 v2 (m.take n) (OwnS.at (OwnS.fr ho4 hf5 (fun g hg e => by have := (OwnS.lt ho4 g hg).1; omega))) hs2 (by rw [List.length_take]; omega))
                have HQ5 := Lib.hid (HP3.out.step (n' := i + 1) hW4 hf4 hft4 (by rw [hn4]; exact hR5) hf5 hT5 (by rw [List.length_drop]; omega))
                clear ho4 hW4 hf4 hn4 hft4 hdue hT5 hs2 hab2 hR5 hf5 hn HX HD2
                go_wp2_with fail
                refine HD3.out.mono ?_
                rintro e w6 ⟨rfl, d, rfl⟩
                have HQ := Lib.hid (HQ5.out.move (below_drewN (RowKit.Below.refl _ _) d) (Nat.le_refl _))
                go_wp2
                go_meet
                case rel => exact ⟨rfl, _, _, _, HQ.out⟩
            · have k1 : (x.kind == 1) = false := by rw [beq_eq_false_iff_ne]; omega
              have k2 : (x.kind == 2) = false := by rw [beq_eq_false_iff_ne]; omega
              have k3 : (x.kind == 3) = false := by rw [beq_eq_false_iff_ne]; omega
              have k4 : (x.kind == 4) = false := by rw [beq_eq_false_iff_ne]; omega
              have k5 : (x.kind == 5) = true := by rw [beq_iff_eq]; omega
              by_cases hlt : t < S.now
              · have HD1 := Lib.hid (advance_no w3 b S t HP3.out.wheel hlt)
                go_wp2_with fail
                refine HD1.out.mono ?_
                rintro e w4 ⟨rfl, hB4⟩
                have hP4 := HP3.out.move hB4 (Nat.le_succ i)
                have HP4 := Lib.hid hP4
                have HD2 := Lib.hid (ref_adv_no w4 rb S.now m v t hP4.ref hlt)
                clear hP4 hB4 HD1
                go_wp2_with fail
                refine HD2.out.mono ?_
                rintro e w' ⟨rfl, rfl⟩
                have HD3 := Lib.hid (same_eq w4 (.slice none 0 0) (.slice none 0 0) [] (.inl ⟨rfl, rfl⟩) (.inl ⟨rfl, rfl⟩) (by simp))
                go_wp2_with fail
                refine HD3.out.mono ?_
                rintro e w6 ⟨rfl, d, rfl⟩
                have HQ := Lib.hid (HP4.out.move (below_drewN (RowKit.Below.refl _ _) d) (Nat.le_refl _))
                go_wp2
                go_meet
                case rel => exact ⟨rfl, S, m, v, HQ.out⟩
              · have HD1 := Lib.hid (advance_pair w3 b S m t HP3.out.wheel HP3.out.tells (by omega) ht (by omega))
                go_wp2_with fail
                refine HD1.out.mono ?_
                rintro e w4 ⟨v1, l, S4, rfl, ho4, hW4, hf4, hn4, hft4, hdue⟩
                have HD2 := Lib.hid (ref_adv_yes w4 rb S.now m v t (HP3.out.refStays hf4) (by omega) (by omega))
                have HX := Lib.hid (And.intro ho4 (And.intro hW4 (And.intro hf4 (And.intro hn4 (And.intro hft4 hdue)))))
                clear ho4 hW4 hf4 hn4 hft4 hdue HD1
                go_wp2_with fail
                refine HD2.out.mono ?_
                rintro e w5 ⟨n, v2, v3, hn, rfl, hs2, hab2, hR5, hf5⟩
                obtain ⟨ho4, hW4, hf4, hn4, hft4, hdue⟩ := HX.out
                obtain ⟨hl, hT5⟩ := hdue n hn
                subst hl
                have hrb3 := HP3.out.ref.lt
                have HD3 := Lib.hid (same_eq w5 v1 v2 (m.take n) (OwnS.at (OwnS.fr ho4 hf5 (fun g hg e => by have := (OwnS.lt ho4 g hg).1; omega))) hs2 (by rw [List.length_take]; omega))
                have HQ5 := Lib.hid (HP3.out.step (n' := i + 1) hW4 hf4 hft4 (by rw [hn4]; exact hR5) hf5 hT5 (by rw [List.length_drop]; omega))
                clear ho4 hW4 hf4 hn4 hft4 hdue hT5 hs2 hab2 hR5 hf5 hn HX HD2
                go_wp2_with fail
                refine HD3.out.mono ?_
                rintro e w6 ⟨rfl, d, rfl⟩
                have HQ := Lib.hid (HQ5.out.move (below_drewN (RowKit.Below.refl _ _) d) (Nat.le_refl _))
                go_wp2
                go_meet
                case rel => exact ⟨rfl, _, _, _, HQ.out⟩
            · have k1 : (x.kind == 1) = false := by rw [beq_eq_false_iff_ne]; omega
              have k2 : (x.kind == 2) = false := by rw [beq_eq_false_iff_ne]; omega
              have k3 : (x.kind == 3) = false := by rw [beq_eq_false_iff_ne]; omega
              have k4 : (x.kind == 4) = false := by rw [beq_eq_false_iff_ne]; omega
              have k5 : (x.kind == 5) = false := by rw [beq_eq_false_iff_ne]; omega
              have k6 : (x.kind == 6) = true := by rw [beq_iff_eq]; omega
              by_cases hlt : t < S.now
              · have HD1 := Lib.hid (advance_no w3 b S t HP3.out.wheel hlt)
                go_wp2_with fail
                refine HD1.out.mono ?_
                rintro e w4 ⟨rfl, hB4⟩
                have hP4 := HP3.out.move hB4 (Nat.le_succ i)
                have HP4 := Lib.hid hP4
                have HD2 := Lib.hid (ref_adv_no w4 rb S.now m v t hP4.ref hlt)
                clear hP4 hB4 HD1
                go_wp2_with fail
                refine HD2.out.mono ?_
                rintro e w' ⟨rfl, rfl⟩
                have HD3 := Lib.hid (same_eq w4 (.slice none 0 0) (.slice none 0 0) [] (.inl ⟨rfl, rfl⟩) (.inl ⟨rfl, rfl⟩) (by simp))
                go_wp2_with fail
                refine HD3.out.mono ?_
                rintro e w6 ⟨rfl, d, rfl⟩
                have HQ := Lib.hid (HP4.out.move (below_drewN (RowKit.Below.refl _ _) d) (Nat.le_refl _))
                go_wp2
                go_meet
                case rel => exact ⟨rfl, S, m, v, HQ.out⟩
              · have HD1 := Lib.hid (advance_pair w3 b S m t HP3.out.wheel HP3.out.tells (by omega) ht (by omega))
                go_wp2_with fail
                refine HD1.out.mono ?_
                rintro e w4 ⟨v1, l, S4, rfl, ho4, hW4, hf4, hn4, hft4, hdue⟩
                have HD2 := Lib.hid (ref_adv_yes w4 rb S.now m v t (HP3.out.refStays hf4) (by omega) (by omega))
                have HX := Lib.hid (And.intro ho4 (And.intro hW4 (And.intro hf4 (And.intro hn4 (And.intro hft4 hdue)))))
                clear ho4 hW4 hf4 hn4 hft4 hdue HD1
                go_wp2_with fail
                refine HD2.out.mono ?_
                rintro e w5 ⟨n, v2, v3, hn, rfl, hs2, hab2, hR5, hf5⟩
                obtain ⟨ho4, hW4, hf4, hn4, hft4, hdue⟩ := HX.out
                obtain ⟨hl, hT5⟩ := hdue n hn
                subst hl
                have hrb3 := HP3.out.ref.lt
                have HD3 := Lib.hid (same_eq w5 v1 v2 (m.take n) (OwnS.at (OwnS.fr ho4 hf5 (fun g hg e => by have := (OwnS.lt ho4 g hg).1; omega))) hs2 (by rw [List.length_take]; omega))
                have HQ5 := Lib.hid (HP3.out.step (n' := i + 1) hW4 hf4 hft4 (by rw [hn4]; exact hR5) hf5 hT5 (by rw [List.length_drop]; omega))
                clear ho4 hW4 hf4 hn4 hft4 hdue hT5 hs2 hab2 hR5 hf5 hn HX HD2
                go_wp2_with fail
                refine HD3.out.mono ?_
                rintro e w6 ⟨rfl, d, rfl⟩
                have HQ := Lib.hid (HQ5.out.move (below_drewN (RowKit.Below.refl _ _) d) (Nat.le_refl _))
                go_wp2
                go_meet
                case rel => exact ⟨rfl, _, _, _, HQ.out⟩
          · have k1 : (x.kind == 1) = false := by rw [beq_eq_false_iff_ne]; omega
            have k2 : (x.kind == 2) = false := by rw [beq_eq_false_iff_ne]; omega
            have k3 : (x.kind == 3) = false := by rw [beq_eq_false_iff_ne]; omega
            have k4 : (x.kind == 4) = false := by rw [beq_eq_false_iff_ne]; omega
            have k5 : (x.kind == 5) = false := by rw [beq_eq_false_iff_ne]; omega
            have k6 : (x.kind == 6) = false := by rw [beq_eq_false_iff_ne]; omega
            go_wp2
            go_meet
            case rel => exact ⟨rfl, S, m, v, HP3.out.move (RowKit.Below.refl _ _) (by omega)⟩
    · have HB := Lib.hid hP.below
      have HS1 := Lib.hid (slot_out wr b (-1) 0 (.inl ⟨rfl, rfl⟩))
      have HS2 := Lib.hid (slot_out wr b 4 0 (.inr (.inl ⟨rfl, rfl⟩)))
      have HS3 := Lib.hid (slot_out wr b 0 16 (.inr (.inr (.inl ⟨rfl, rfl⟩))))
      have HS4 := Lib.hid (slot_out wr b 0 (-1) (.inr (.inr (.inr ⟨rfl, rfl⟩))))
      have HAl := Lib.hid (alive_any wr)
      clear hP
      by_cases hlt : i < acts.length
      · have d1 : decide ((i : Int) < (acts.length : Int)) = true := by simp; omega
        have d2 : decide ((i : Int) < 100) = false := by simp; omega
        go_wp2_with fail
        refine HS1.out.mono ?_
        rintro e w' ⟨rfl, rfl⟩
        go_wp2_with fail
        refine HS2.out.mono ?_
        rintro e w' ⟨rfl, rfl⟩
        go_wp2_with fail
        refine HS3.out.mono ?_
        rintro e w' ⟨rfl, rfl⟩
        go_wp2_with fail
        refine HS4.out.mono ?_
        rintro e w' ⟨rfl, rfl⟩
        go_wp2_with fail
        refine HAl.out.mono ?_
        rintro e w9 ⟨rfl, hB9⟩
        have HB9 := Lib.hid (HB.out.trans (hB9.mono HB.out.size))
        clear hB9 HB HAl
        go_wp2
        go_ret
        exact ⟨rfl, HB9.out⟩
      · have d1 : decide ((i : Int) < (acts.length : Int)) = false := by simp; omega
        go_wp2_with fail
        refine HS1.out.mono ?_
        rintro e w' ⟨rfl, rfl⟩
        go_wp2_with fail
        refine HS2.out.mono ?_
        rintro e w' ⟨rfl, rfl⟩
        go_wp2_with fail
        refine HS3.out.mono ?_
        rintro e w' ⟨rfl, rfl⟩
        go_wp2_with fail
        refine HS4.out.mono ?_
        rintro e w' ⟨rfl, rfl⟩
        go_wp2_with fail
        refine HAl.out.mono ?_
        rintro e w9 ⟨rfl, hB9⟩
        have HB9 := Lib.hid (HB.out.trans (hB9.mono HB.out.size))
        clear hB9 HB HAl
        go_wp2
        go_ret
        exact ⟨rfl, HB9.out⟩
end Go.Proofs.Ytfjmdblfokjnmaa
