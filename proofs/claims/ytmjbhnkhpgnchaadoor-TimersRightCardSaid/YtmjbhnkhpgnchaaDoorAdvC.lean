/-
  Advance: the walk.
-/
import Derived.Test.YtmjbhnkhpgnchaaDoorAdvD
namespace Go.Proofs.YtmjbhnkhpgnchaaDoor
open Go Go.RowKit

/-- what Advance does -/
def AdvSays (w w' : World) (b : Nat) (S : WSt) (now' : Nat) (e : Ending) : Prop :=
  ∃ v l D E g1 g2, e = .returned v ∧ l.Perm D ∧ Asc l ∧ OwnT w.heap.size w' v l ∧ g1.Perm D ∧ g2.Perm E ∧
    D.Perm ((S.firstN (goneOf S.now now')).filter fun p => decide (p.2 ≤ now')) ∧ E.Perm ((S.firstN (goneOf S.now now')).filter fun p => decide (now' < p.2)) ∧
    WheelAt w' b (({ S.upto (goneOf S.now now') with now := now', all := adelAll S.all g1 } : WSt).placeAll g2) ∧ Fr (S.foot b) w w'

theorem cell_alloc_old {w : World} (o : Obj) {p : Addr} (h : p.block < w.heap.size) : (w.alloc o).cell? p = w.cell? p :=
  ((Fr.refl (fun _ => False) w).alloc o).cell h (fun x => x)
theorem cell_alloc_new (w : World) (v : Value) (T : TypeId) : (w.alloc (.cells #[v] T)).cell? ⟨w.heap.size, 0, none⟩ = some v := by simp

theorem sweep_start {w w5 : World} {b nq now' : Nat} {S : WSt} (h : WheelAt w b S)
    (hw : w5 = (((((w.alloc (Obj.cells #[Value.int IntKind.u64 ↑now'] 22)).drewN nq).alloc (Obj.map #[] 0)).alloc (Obj.cells #[Value.map (some (w.heap.size + 1))] 82)).alloc
          (Obj.map #[] 0)).alloc (Obj.cells #[Value.map (some (w.heap.size + 3))] 82)) : ∀ n, Sweep w (w5.drewN n) b S now' 0 [] [] := by
  intro n
  have hs1 : ((w.alloc (Obj.cells #[Value.int IntKind.u64 ↑now'] 22)).drewN nq).heap.size = w.heap.size + 1 := by simp
  refine ⟨?_, ?_, ?_, ?_, ?_, ?_, List.Perm.refl _, List.Perm.refl _, ?_, ?_, ?_⟩
  · rw [upto_zero, hw]
    exact (((((h.alloc _).drewN nq).alloc _).alloc _).alloc _).alloc _ |>.drewN n
  · have h1 := isMap_new (ek := Value.string) (ev := u64v) ((w.alloc (Obj.cells #[Value.int IntKind.u64 ↑now'] 22)).drewN nq)
    rw [hs1] at h1
    rw [hw]
    exact (((h1.alloc _).alloc _).alloc _).drewN n
  · have h1 := isMap_new (ek := Value.string) (ev := u64v) ((((w.alloc (Obj.cells #[Value.int IntKind.u64 ↑now'] 22)).drewN nq).alloc (Obj.map #[] 0)).alloc (Obj.cells #[Value.map (some (w.heap.size + 1))] 82))
    rw [World.size_alloc, World.size_alloc, hs1] at h1
    rw [hw]
    exact (h1.alloc _).drewN n
  · rw [hw]
    refine (cell_alloc_old _ (by simp; omega)).trans ((cell_alloc_old _ (by simp; omega)).trans ((cell_alloc_old _ (by simp; omega)).trans ((cell_alloc_old _ (by simp)).trans ?_)))
    exact cell_alloc_new w _ _
  · rw [hw]
    refine (cell_alloc_old _ (by simp)).trans ((cell_alloc_old _ (by simp)).trans ?_)
    have := cell_alloc_new (((w.alloc (Obj.cells #[Value.int IntKind.u64 ↑now'] 22)).drewN nq).alloc (Obj.map #[] 0)) (Value.map (some (w.heap.size + 1))) 82
    rw [World.size_alloc, hs1] at this
    exact this
  · rw [hw]
    have := cell_alloc_new (((((w.alloc (Obj.cells #[Value.int IntKind.u64 ↑now'] 22)).drewN nq).alloc (Obj.map #[] 0)).alloc (Obj.cells #[Value.map (some (w.heap.size + 1))] 82)).alloc
          (Obj.map #[] 0)) (Value.map (some (w.heap.size + 3))) 82
    rw [World.size_alloc, World.size_alloc, World.size_alloc, hs1] at this
    exact this
  · rw [hw]
    exact ((((((Fr.refl _ w).alloc _).drewN nq).alloc _).alloc _).alloc _).alloc _ |>.drewN n
  · rw [hw]; simp
  · intro k hk
    exact h.foot_lt hk

set_option maxRecDepth 100000 in
set_option maxHeartbeats 2000000 in
theorem advance_yes (w : World) (b : Nat) (S : WSt) (now' : Nat) (h : WheelAt w b S) (hA : S.Apart) (hn : S.now ≤ now') (hn2 : now' < 18446744073709551616)
    (hu : ∀ i, i ≤ 64 → ∀ p ∈ S.get i, p.2 < 18446744073709551616) (hl : ∀ i, i ≤ 65 → (S.firstN i).length ≤ 1000000) :
    Calls Tryd.prog 28 #[.pointer (some ⟨b, 0, none⟩), .int .u64 now'] w fun e w' => AdvSays w w' b S now' e := by
  have c0 := h.cnow
  have hlt := h.lt
  have hle : decide ((now' : Int) < (S.now : Int)) = false := by simpa using hn
  have hmm := @run_makeMap Tryd.prog
  have hx : bits BinOp.xor IntKind.u64 (now' : Int) (S.now : Int) = ((now' ^^^ S.now : Nat) : Int) := bits_xor_u64_nat now' S.now hn2 (by omega)
  have hx2 : now' ^^^ S.now < 18446744073709551616 := xor_lt64 hn2 (by omega)
  go_enter Tryd.func28, Tryd.ntmps28
  go_wp2
  go_step3
  go_wp2
  go_quiet (fail)
  go_wp2
  rw [show decide (now' < S.now) = false from decide_eq_false (by omega)]
  rw [show w.heap.size + 1 + 1 = w.heap.size + 2 from rfl, show w.heap.size + 2 + 1 = w.heap.size + 3 from rfl, show w.heap.size + 3 + 1 = w.heap.size + 4 from rfl]
  obtain ⟨w5, hw5⟩ : ∃ w5, w5 = (((((w.alloc (Obj.cells #[Value.int IntKind.u64 ↑now'] 22)).drewN nq).alloc (Obj.map #[] 0)).alloc (Obj.cells #[Value.map (some (w.heap.size + 1))] 82)).alloc
          (Obj.map #[] 0)).alloc (Obj.cells #[Value.map (some (w.heap.size + 3))] 82) := ⟨_, rfl⟩
  rw [← hw5]
  have HS := Lib.hid (sweep_start h hw5)
  clear c0 hmm h
  have c0 : w5.cell? ⟨b, 0, none⟩ = some (.int .u64 S.now) := (HS.out 0).wheel.cnow
  have c1 : w5.cell? ⟨w.heap.size, 0, none⟩ = some (.int .u64 now') := (HS.out 0).c1
  clear hw5
  have hp : passOf S.now now' = (Lib.bitLen (now' ^^^ S.now) + 3) / 4 := rfl
  generalize now' ^^^ S.now = x at hx hx2 hp
  have hL : ∀ W, Calls Tryd.prog 43 #[.int .u64 (x : Int)] W fun e w' => e = .returned (.int .i64 (Lib.bitLen x : Int)) ∧ w' = W :=
    fun W => by
      have := len64_says (x : Int) W (by omega) (by omega)
      rw [Int.toNat_natCast] at this
      exact this
  have hlb : Lib.bitLen x ≤ 64 := Lib.bitLen_le x 64 (Nat.le_refl _) hx2
  generalize Lib.bitLen x = lb at hp hL hlb
  have HP := Lib.hid hp
  clear hp
  go_quiet ((go_at_call 43; exact Calls.quiet_of_same (hL _)))
  obtain ⟨ps, hps⟩ : ∃ ps, ps = passOf S.now now' := ⟨_, rfl⟩
  have hps16 : ps ≤ 16 := by rw [hps, HP.out]; omega
  rw [show ((lb : Int) + 4 - 1) / 4 = ((ps : Nat) : Int) from by rw [hps, HP.out]; omega]
  have HPS := Lib.hid hps
  have HS2 := Lib.hid (HS.out nq)
  have HA := Lib.hid (And.intro hA (And.intro hu hl))
  clear hps HP hL hlb hx hx2 c0 c1 HS hA hu hl hle
  generalize w5.drewN nq = w6 at HS2
  go_wp2
  go_step3
  go_wp2
  go_loopg [37] 4 (fun n v wr => ∃ (k : Nat) (D E : List (ByteArray × Nat)), k + n = 4 ∧ v = .int .i64 k ∧ k ≤ ps ∧ Sweep w wr b S now' (16 * k) D E)
  case atStart => exact ⟨0, [], [], rfl, rfl, by omega, HS2.out⟩
  case round =>
    obtain ⟨k, D, E, hk, rfl, hkp, hsw⟩ := hrel
    clear HS2
    have hsz := hsw.size
    by_cases hlt : k < 4
    · have hd : decide ((k : Int) < 4) = true := by simp; omega
      by_cases hkps : k < ps
      · -- the level is left behind
        have hge : decide ((ps : Int) ≤ (k : Int)) = false := by simp; omega
        have HW := Lib.hid hsw
        clear hsw
        go_wp2
        go_loopg [40] 16 (fun n v wr => ∃ (j : Nat) (D E : List (ByteArray × Nat)), j + n = 16 ∧ v = .int .i64 j ∧ Sweep w wr b S now' (16 * k + j) D E)
        case atStart => exact ⟨0, D, E, rfl, rfl, HW.out⟩
        case round =>
          clear HW hsz D E
          obtain ⟨j, D, E, hj, rfl, hsw⟩ := hrel
          by_cases hj16 : j < 16
          · have hd : decide ((j : Int) < 16) = true := by simp; omega
            have c := hsw.wheel.cslot (i := 16 * k + j) (by omega)
            rw [show 2 + (16 * k + j) = 2 + k * 16 + j by omega, show (S.upto (16 * k + j)).rs (16 * k + j) = S.id (16 * k + j) from (if_pos (by omega)).symm] at c
            have HSt := Lib.hid (sweep_step hsw (by omega) HA.out.1)
            clear hsw
            go_wp2_with fail
            refine HSt.out.mono ?_
            rintro e w' ⟨⟨v, rfl⟩, D', E', hsw'⟩
            have HW := Lib.hid hsw'
            clear hsw' HSt c
            go_wp2
            go_roundg (16 - (j + 1))
            case measure => omega
            case rel => exact ⟨j + 1, D', E', by omega, by go_num, by rw [← Nat.add_assoc]; exact HW.out⟩
          · obtain rfl : j = 16 := by omega
            have HW := Lib.hid hsw
            clear hsw
            go_wp2
            go_roundg (4 - (k + 1))
            case measure => omega
            case rel => exact ⟨k + 1, D, E, by omega, by go_num, by omega, by rw [show 16 * (k + 1) = 16 * k + 16 by omega]; exact HW.out⟩
      · have hge : decide ((ps : Int) ≤ (k : Int)) = true := by simp; omega
        have hG : 16 * k = goneOf S.now now' := by rw [goneOf, ← HPS.out]; rw [if_pos (by omega)]; omega
        have HW := Lib.hid hsw
        clear hsw
        go_wp2
        go_loopg [40] 16 (fun n v wr => ∃ (D E : List (ByteArray × Nat)), v = .int .i64 0 ∧ Sweep w wr b S now' (16 * k) D E)
        case atStart => exact ⟨D, E, rfl, HW.out⟩
        case round =>
          clear HW hsz D E
          obtain ⟨D, E, rfl, hsw⟩ := hrel
          have hsz := hsw.size
          generalize hGk : 16 * k = G at hsw hG
          have hG65 : G ≤ 65 := by omega
          have c0 := hsw.wheel.cnow
          have hfz := hsw.wheel.frozen 0
          have c1 := hsw.c1
          obtain ⟨c2, hD1, hsz1, hN⟩ := sweep_del hsw
          have HN := Lib.hid hN
          have HQ := Lib.hid (And.intro hG (And.intro hsw.dp hsw.ep))
          have hEall : ∀ p ∈ E, now' < p.2 ∧ p.2 < 18446744073709551616 := by
            intro p hp
            obtain ⟨hp1, hp2⟩ := List.mem_filter.1 (hsw.ep.mem_iff.1 hp)
            obtain ⟨i, hi, hpi⟩ := mem_firstN.1 hp1
            exact ⟨by simpa using hp2, HA.out.2.1 i (by omega) p hpi⟩
          have hDlen : D.length ≤ 1000000 := by
            rw [hsw.dp.length_eq]
            exact Nat.le_trans (List.length_filter_le _ _) (HA.out.2.2 _ (by omega))
          have HE := Lib.hid hEall
          clear hsw hN hEall hG hsz
          go_wp2_with (first | (at_delete; refine At.stop ?_) | (at_mapUpdate; refine At.stop ?_) | (at_lookup; refine At.stop ?_) | (at_range; refine At.stop ?_) | (at_next; refine At.stop ?_) | (at_builtin; refine At.stop ?_))
          refine At.go (wpl_range rfl _ rfl Tryd.underlying82 hD1 rfl ?_)
          intro w7 hf7 hs7 hit7
          have hdel := HN.out w7 hf7 hit7
          clear hf7 hs7 hit7 c2 hD1 c0 c1 hfz HN
          generalize (World.setCell _ _ _).heap.size = it at hdel hsz1 ⊢
          go_frame
          go_wp2_with (first | (at_delete; refine At.stop ?_) | (at_mapUpdate; refine At.stop ?_) | (at_lookup; refine At.stop ?_) | (at_range; refine At.stop ?_) | (at_next; refine At.stop ?_) | (at_builtin; refine At.stop ?_))
          go_loopg [11] D.length (fun n v wq => ∃ got left, Del w wq b _ it n D E got left)
          case atStart => exact ⟨[], D, hdel⟩
          case round =>
            obtain ⟨got, left, hg⟩ := hrel
            clear hdel
            have hilt := hg.iter.lt
            go_wp2_with (first | (at_delete; refine At.stop ?_) | (at_mapUpdate; refine At.stop ?_) | (at_lookup; refine At.stop ?_) | (at_range; refine At.stop ?_) | (at_next; refine At.stop ?_) | (at_builtin; refine At.stop ?_))
            refine At.go (wpl_next rfl _ rfl rfl hg.iter (by omega) ?_ ?_)
            · intro hl0
              subst hl0
              have c3 := hg.c3
              have hE1 := hg.lft
              have HR := Lib.hid (del_redo hg)
              have hp := hg.perm
              rw [List.append_nil] at hp
              have HP := Lib.hid hp
              clear hg hp
              go_wp2_with (first | (at_delete; refine At.stop ?_) | (at_mapUpdate; refine At.stop ?_) | (at_lookup; refine At.stop ?_) | (at_range; refine At.stop ?_) | (at_next; refine At.stop ?_) | (at_builtin; refine At.stop ?_))
              refine At.go (wpl_range rfl _ rfl Tryd.underlying82 hE1 rfl ?_)
              intro w8 hf8 hs8 hit8
              have hredo := HR.out w8 hf8 hit8
              clear hf8 hs8 hit8 hE1 c3 HR
              have hsz8 := hredo.size
              generalize wr.heap.size = it2 at hredo hilt hsz8 ⊢
              go_frame
              go_wp2_with (first | (at_delete; refine At.stop ?_) | (at_mapUpdate; refine At.stop ?_) | (at_lookup; refine At.stop ?_) | (at_range; refine At.stop ?_) | (at_next; refine At.stop ?_) | (at_builtin; refine At.stop ?_))
              go_loopg [12] E.length (fun n v wz => ∃ got2 left2, Redo w wz b _ it2 n D E got2 left2)
              case atStart => exact ⟨[], E, hredo⟩
              case round =>
                obtain ⟨got2, left2, hg⟩ := hrel
                clear hredo
                have hilt2 := hg.iter.lt
                go_wp2_with (first | (at_delete; refine At.stop ?_) | (at_mapUpdate; refine At.stop ?_) | (at_lookup; refine At.stop ?_) | (at_range; refine At.stop ?_) | (at_next; refine At.stop ?_) | (at_builtin; refine At.stop ?_))
                refine At.go (wpl_next rfl _ rfl rfl hg.iter (by omega) ?_ ?_)
                · intro hl0
                  subst hl0
                  have c2 := hg.c2
                  have HSo := Lib.hid (sorted_any _ _ D hg.due hDlen)
                  have hp := hg.perm
                  rw [List.append_nil] at hp
                  have HP2 := Lib.hid (And.intro hp (And.intro hg.fr (And.intro hg.wheel (And.intro hg.size hg.iter.lt))))
                  clear hg hp
                  go_wp2_with (first | (at_delete; refine At.stop ?_) | (at_mapUpdate; refine At.stop ?_) | (at_lookup; refine At.stop ?_) | (at_range; refine At.stop ?_) | (at_next; refine At.stop ?_) | (at_builtin; refine At.stop ?_))
                  refine HSo.out.mono ?_
                  rintro e w' ⟨v, l, rfl, h1, h2, h3, h4⟩
                  have HF := Lib.hid (And.intro h1 (And.intro h2 (And.intro h3 h4)))
                  clear h1 h2 h3 h4
                  go_wp2_with (first | (at_delete; refine At.stop ?_) | (at_mapUpdate; refine At.stop ?_) | (at_lookup; refine At.stop ?_) | (at_range; refine At.stop ?_) | (at_next; refine At.stop ?_) | (at_builtin; refine At.stop ?_))
                  try rw [Exit.noGoto_ret]
                  go_ret
                  obtain ⟨h1, h2, h3, h4⟩ := HF.out
                  obtain ⟨p1, p2, p3, p4, p5⟩ := HP2.out
                  obtain ⟨q1, q2, q3⟩ := HQ.out
                  rw [q1] at q2 q3
                  refine ⟨v, l, D, E, got, got2, rfl, h1, h2, h3.base (by omega), HP.out, p1, q2, q3, ?_, p2.trans (Fr.of_new h4)⟩
                  rw [← q1]
                  have hft : ∀ k, (WSt.placeAll { S.upto G with now := now', all := adelAll S.all got } got2).foot b k → k < wr.heap.size := fun k hk => p3.foot_lt hk
                  exact p3.fr (Fr.of_below h4) (fun k hk hc => by have := hft k hk; omega)
                · intro p l1 l2 w2 hl1 hf2 hs2 hit2 hen
                  have hlk : (l1 ++ l2).length < gk := by
                    rw [← hg.len, hl1]
                    simp
                  have hw2 := hg.wheel.fr hf2 (fun k hk e => by
                    obtain ⟨y1, y2, y3, y4⟩ := placeAll_keep { S.upto G with now := now', all := adelAll S.all got } got2
                    have : k < w.heap.size := by
                      rcases hk with e | e | ⟨i, hi, e⟩
                      · exact hg.old k (.inl e)
                      · exact hg.old k (.inr (.inl (e.trans y2)))
                      · exact hg.old k (.inr (.inr ⟨i, hi, e.trans (y3 i)⟩))
                    have := hg.size
                    omega)
                  have hpE := HE.out p (hg.perm.mem_iff.1 (by rw [hl1]; simp))
                  have HRS := Lib.hid (fun m w3 => redo_step (m := m) (w3 := w3) hg hl1 hf2 hit2)
                  clear hg hl1 hf2 hit2
                  go_wp2_with (first | (at_delete; refine At.stop ?_) | (at_mapUpdate; refine At.stop ?_) | (at_lookup; refine At.stop ?_) | (at_range; refine At.stop ?_) | (at_next; refine At.stop ?_) | (at_builtin; refine At.stop ?_))
                  refine (place_any len64_says _ b _ p.2 hw2 hpE.2 (Nat.lt_of_le_of_lt (Nat.le_of_eq (placeAll_keep _ _).1) hpE.1)).mono ?_
                  rintro e w' ⟨rfl, m, rfl⟩
                  have hw3 := hw2.drewN m
                  clear hw2 hen
                  go_wp2_with (first | (at_delete; refine At.stop ?_) | (at_mapUpdate; refine At.stop ?_) | (at_lookup; refine At.stop ?_) | (at_range; refine At.stop ?_) | (at_next; refine At.stop ?_) | (at_builtin; refine At.stop ?_))
                  refine At.go (wpl_update rfl _ _ _ rfl Tryd.underlying82 key_str (hw3.place _ (plcOf_le _ _)) rfl p.1 rfl p.2 rfl ?_)
                  intro w4 hf4 hs4 hm4
                  have HG := Lib.hid (HRS.out m w4 hf4 hm4)
                  clear hf4 hs4 hm4 hw3 HRS
                  go_wp2_with (first | (at_delete; refine At.stop ?_) | (at_mapUpdate; refine At.stop ?_) | (at_lookup; refine At.stop ?_) | (at_range; refine At.stop ?_) | (at_next; refine At.stop ?_) | (at_builtin; refine At.stop ?_))
                  go_roundg (l1 ++ l2).length
                  case measure => exact hlk
                  case rel => exact ⟨_, _, HG.out⟩
            · intro p l1 l2 w2 hl1 hf2 hs2 hit2 hen
              have hlk : (l1 ++ l2).length < gk := by
                rw [← hg.len, hl1]
                simp
              have hw2 := hg.wheel.fr hf2 (fun k hk e => by have := hg.old k hk; have := hg.size; omega)
              have c1 := hw2.call
              have hM := hw2.all
              have HRS := Lib.hid (fun w3 => del_step (w3 := w3) hg hl1 hf2 hit2)
              clear hg hl1 hf2 hit2 hw2
              go_wp2_with (first | (at_delete; refine At.stop ?_) | (at_mapUpdate; refine At.stop ?_) | (at_lookup; refine At.stop ?_) | (at_range; refine At.stop ?_) | (at_next; refine At.stop ?_) | (at_builtin; refine At.stop ?_))
              refine At.go (wpl_delete rfl _ _ rfl Tryd.underlying82 key_str hM rfl p.1 rfl ?_)
              intro w4 hf4 hs4 hm4
              have HG := Lib.hid (HRS.out w4 hf4 hm4)
              clear hf4 hs4 hm4 hM c1 HRS
              go_wp2_with (first | (at_delete; refine At.stop ?_) | (at_mapUpdate; refine At.stop ?_) | (at_lookup; refine At.stop ?_) | (at_range; refine At.stop ?_) | (at_next; refine At.stop ?_) | (at_builtin; refine At.stop ?_))
              go_roundg (l1 ++ l2).length
              case measure => exact hlk
              case rel => exact ⟨_, _, HG.out⟩
    · obtain rfl : k = 4 := by omega
      by_cases h5 : 4 < ps
      · have HG65 := Lib.hid (show 65 = goneOf S.now now' by rw [goneOf, ← HPS.out]; rw [if_neg (by omega)])
        have hd : decide ((4 : Int) < (ps : Int)) = true := by simp; omega
        have c66 := hsw.wheel.cfar
        have HSt := Lib.hid (sweep_step hsw (by omega) HA.out.1)
        clear hsw
        go_wp2_with fail
        refine HSt.out.mono ?_
        clear HSt c66 hsz D E
        rintro e w' ⟨⟨v, rfl⟩, D, E, hsw⟩
        have hsz := hsw.size
        have hG := HG65.out
        obtain ⟨G, hGk⟩ : ∃ G, G = 65 := ⟨_, rfl⟩
        have hsw : Sweep w w' b S now' 65 D E := hsw
        rw [← hGk] at hsw
        rw [← hGk] at hG
        have hG65 : G ≤ 65 := by omega
        clear hGk
        have c0 := hsw.wheel.cnow
        have hfz := hsw.wheel.frozen 0
        have c1 := hsw.c1
        obtain ⟨c2, hD1, hsz1, hN⟩ := sweep_del hsw
        have HN := Lib.hid hN
        have HQ := Lib.hid (And.intro hG (And.intro hsw.dp hsw.ep))
        have hEall : ∀ p ∈ E, now' < p.2 ∧ p.2 < 18446744073709551616 := by
          intro p hp
          obtain ⟨hp1, hp2⟩ := List.mem_filter.1 (hsw.ep.mem_iff.1 hp)
          obtain ⟨i, hi, hpi⟩ := mem_firstN.1 hp1
          exact ⟨by simpa using hp2, HA.out.2.1 i (by omega) p hpi⟩
        have hDlen : D.length ≤ 1000000 := by
          rw [hsw.dp.length_eq]
          exact Nat.le_trans (List.length_filter_le _ _) (HA.out.2.2 _ (by omega))
        have HE := Lib.hid hEall
        clear hsw hN hEall hG hsz
        go_wp2_with (first | (at_delete; refine At.stop ?_) | (at_mapUpdate; refine At.stop ?_) | (at_lookup; refine At.stop ?_) | (at_range; refine At.stop ?_) | (at_next; refine At.stop ?_) | (at_builtin; refine At.stop ?_))
        refine At.go (wpl_range rfl _ rfl Tryd.underlying82 hD1 rfl ?_)
        intro w7 hf7 hs7 hit7
        have hdel := HN.out w7 hf7 hit7
        clear hf7 hs7 hit7 c2 hD1 c0 c1 hfz HN
        generalize (World.setCell _ _ _).heap.size = it at hdel hsz1 ⊢
        go_frame
        go_wp2_with (first | (at_delete; refine At.stop ?_) | (at_mapUpdate; refine At.stop ?_) | (at_lookup; refine At.stop ?_) | (at_range; refine At.stop ?_) | (at_next; refine At.stop ?_) | (at_builtin; refine At.stop ?_))
        go_loopg [11] D.length (fun n v wq => ∃ got left, Del w wq b _ it n D E got left)
        case atStart => exact ⟨[], D, hdel⟩
        case round =>
          obtain ⟨got, left, hg⟩ := hrel
          clear hdel
          have hilt := hg.iter.lt
          go_wp2_with (first | (at_delete; refine At.stop ?_) | (at_mapUpdate; refine At.stop ?_) | (at_lookup; refine At.stop ?_) | (at_range; refine At.stop ?_) | (at_next; refine At.stop ?_) | (at_builtin; refine At.stop ?_))
          refine At.go (wpl_next rfl _ rfl rfl hg.iter (by omega) ?_ ?_)
          · intro hl0
            subst hl0
            have c3 := hg.c3
            have hE1 := hg.lft
            have HR := Lib.hid (del_redo hg)
            have hp := hg.perm
            rw [List.append_nil] at hp
            have HP := Lib.hid hp
            clear hg hp
            go_wp2_with (first | (at_delete; refine At.stop ?_) | (at_mapUpdate; refine At.stop ?_) | (at_lookup; refine At.stop ?_) | (at_range; refine At.stop ?_) | (at_next; refine At.stop ?_) | (at_builtin; refine At.stop ?_))
            refine At.go (wpl_range rfl _ rfl Tryd.underlying82 hE1 rfl ?_)
            intro w8 hf8 hs8 hit8
            have hredo := HR.out w8 hf8 hit8
            clear hf8 hs8 hit8 hE1 c3 HR
            have hsz8 := hredo.size
            generalize wr.heap.size = it2 at hredo hilt hsz8 ⊢
            go_frame
            go_wp2_with (first | (at_delete; refine At.stop ?_) | (at_mapUpdate; refine At.stop ?_) | (at_lookup; refine At.stop ?_) | (at_range; refine At.stop ?_) | (at_next; refine At.stop ?_) | (at_builtin; refine At.stop ?_))
            go_loopg [12] E.length (fun n v wz => ∃ got2 left2, Redo w wz b _ it2 n D E got2 left2)
            case atStart => exact ⟨[], E, hredo⟩
            case round =>
              obtain ⟨got2, left2, hg⟩ := hrel
              clear hredo
              have hilt2 := hg.iter.lt
              go_wp2_with (first | (at_delete; refine At.stop ?_) | (at_mapUpdate; refine At.stop ?_) | (at_lookup; refine At.stop ?_) | (at_range; refine At.stop ?_) | (at_next; refine At.stop ?_) | (at_builtin; refine At.stop ?_))
              refine At.go (wpl_next rfl _ rfl rfl hg.iter (by omega) ?_ ?_)
              · intro hl0
                subst hl0
                have c2 := hg.c2
                have HSo := Lib.hid (sorted_any _ _ D hg.due hDlen)
                have hp := hg.perm
                rw [List.append_nil] at hp
                have HP2 := Lib.hid (And.intro hp (And.intro hg.fr (And.intro hg.wheel (And.intro hg.size hg.iter.lt))))
                clear hg hp
                go_wp2_with (first | (at_delete; refine At.stop ?_) | (at_mapUpdate; refine At.stop ?_) | (at_lookup; refine At.stop ?_) | (at_range; refine At.stop ?_) | (at_next; refine At.stop ?_) | (at_builtin; refine At.stop ?_))
                refine HSo.out.mono ?_
                rintro e w' ⟨v, l, rfl, h1, h2, h3, h4⟩
                have HF := Lib.hid (And.intro h1 (And.intro h2 (And.intro h3 h4)))
                clear h1 h2 h3 h4
                go_wp2_with (first | (at_delete; refine At.stop ?_) | (at_mapUpdate; refine At.stop ?_) | (at_lookup; refine At.stop ?_) | (at_range; refine At.stop ?_) | (at_next; refine At.stop ?_) | (at_builtin; refine At.stop ?_))
                try rw [Exit.noGoto_ret]
                go_ret
                obtain ⟨h1, h2, h3, h4⟩ := HF.out
                obtain ⟨p1, p2, p3, p4, p5⟩ := HP2.out
                obtain ⟨q1, q2, q3⟩ := HQ.out
                rw [q1] at q2 q3
                refine ⟨v, l, D, E, got, got2, rfl, h1, h2, h3.base (by omega), HP.out, p1, q2, q3, ?_, p2.trans (Fr.of_new h4)⟩
                rw [← q1]
                have hft : ∀ k, (WSt.placeAll { S.upto G with now := now', all := adelAll S.all got } got2).foot b k → k < wr.heap.size := fun k hk => p3.foot_lt hk
                exact p3.fr (Fr.of_below h4) (fun k hk hc => by have := hft k hk; omega)
              · intro p l1 l2 w2 hl1 hf2 hs2 hit2 hen
                have hlk : (l1 ++ l2).length < gk := by
                  rw [← hg.len, hl1]
                  simp
                have hw2 := hg.wheel.fr hf2 (fun k hk e => by
                  obtain ⟨y1, y2, y3, y4⟩ := placeAll_keep { S.upto G with now := now', all := adelAll S.all got } got2
                  have : k < w.heap.size := by
                    rcases hk with e | e | ⟨i, hi, e⟩
                    · exact hg.old k (.inl e)
                    · exact hg.old k (.inr (.inl (e.trans y2)))
                    · exact hg.old k (.inr (.inr ⟨i, hi, e.trans (y3 i)⟩))
                  have := hg.size
                  omega)
                have hpE := HE.out p (hg.perm.mem_iff.1 (by rw [hl1]; simp))
                have HRS := Lib.hid (fun m w3 => redo_step (m := m) (w3 := w3) hg hl1 hf2 hit2)
                clear hg hl1 hf2 hit2
                go_wp2_with (first | (at_delete; refine At.stop ?_) | (at_mapUpdate; refine At.stop ?_) | (at_lookup; refine At.stop ?_) | (at_range; refine At.stop ?_) | (at_next; refine At.stop ?_) | (at_builtin; refine At.stop ?_))
                refine (place_any len64_says _ b _ p.2 hw2 hpE.2 (Nat.lt_of_le_of_lt (Nat.le_of_eq (placeAll_keep _ _).1) hpE.1)).mono ?_
                rintro e w' ⟨rfl, m, rfl⟩
                have hw3 := hw2.drewN m
                clear hw2 hen
                go_wp2_with (first | (at_delete; refine At.stop ?_) | (at_mapUpdate; refine At.stop ?_) | (at_lookup; refine At.stop ?_) | (at_range; refine At.stop ?_) | (at_next; refine At.stop ?_) | (at_builtin; refine At.stop ?_))
                refine At.go (wpl_update rfl _ _ _ rfl Tryd.underlying82 key_str (hw3.place _ (plcOf_le _ _)) rfl p.1 rfl p.2 rfl ?_)
                intro w4 hf4 hs4 hm4
                have HG := Lib.hid (HRS.out m w4 hf4 hm4)
                clear hf4 hs4 hm4 hw3 HRS
                go_wp2_with (first | (at_delete; refine At.stop ?_) | (at_mapUpdate; refine At.stop ?_) | (at_lookup; refine At.stop ?_) | (at_range; refine At.stop ?_) | (at_next; refine At.stop ?_) | (at_builtin; refine At.stop ?_))
                go_roundg (l1 ++ l2).length
                case measure => exact hlk
                case rel => exact ⟨_, _, HG.out⟩
          · intro p l1 l2 w2 hl1 hf2 hs2 hit2 hen
            have hlk : (l1 ++ l2).length < gk := by
              rw [← hg.len, hl1]
              simp
            have hw2 := hg.wheel.fr hf2 (fun k hk e => by have := hg.old k hk; have := hg.size; omega)
            have c1 := hw2.call
            have hM := hw2.all
            have HRS := Lib.hid (fun w3 => del_step (w3 := w3) hg hl1 hf2 hit2)
            clear hg hl1 hf2 hit2 hw2
            go_wp2_with (first | (at_delete; refine At.stop ?_) | (at_mapUpdate; refine At.stop ?_) | (at_lookup; refine At.stop ?_) | (at_range; refine At.stop ?_) | (at_next; refine At.stop ?_) | (at_builtin; refine At.stop ?_))
            refine At.go (wpl_delete rfl _ _ rfl Tryd.underlying82 key_str hM rfl p.1 rfl ?_)
            intro w4 hf4 hs4 hm4
            have HG := Lib.hid (HRS.out w4 hf4 hm4)
            clear hf4 hs4 hm4 hM c1 HRS
            go_wp2_with (first | (at_delete; refine At.stop ?_) | (at_mapUpdate; refine At.stop ?_) | (at_lookup; refine At.stop ?_) | (at_range; refine At.stop ?_) | (at_next; refine At.stop ?_) | (at_builtin; refine At.stop ?_))
            go_roundg (l1 ++ l2).length
            case measure => exact hlk
            case rel => exact ⟨_, _, HG.out⟩
      · have hG : 64 = goneOf S.now now' := by rw [goneOf, ← HPS.out]; rw [if_pos (by omega)]; omega
        have hd : decide ((4 : Int) < (ps : Int)) = false := by simp; omega
        obtain ⟨G, hGk⟩ : ∃ G, G = 64 := ⟨_, rfl⟩
        have hsw : Sweep w wr b S now' 64 D E := hsw
        rw [← hGk] at hsw hG
        have hG65 : G ≤ 65 := by omega
        clear hGk
        have c0 := hsw.wheel.cnow
        have hfz := hsw.wheel.frozen 0
        have c1 := hsw.c1
        obtain ⟨c2, hD1, hsz1, hN⟩ := sweep_del hsw
        have HN := Lib.hid hN
        have HQ := Lib.hid (And.intro hG (And.intro hsw.dp hsw.ep))
        have hEall : ∀ p ∈ E, now' < p.2 ∧ p.2 < 18446744073709551616 := by
          intro p hp
          obtain ⟨hp1, hp2⟩ := List.mem_filter.1 (hsw.ep.mem_iff.1 hp)
          obtain ⟨i, hi, hpi⟩ := mem_firstN.1 hp1
          exact ⟨by simpa using hp2, HA.out.2.1 i (by omega) p hpi⟩
        have hDlen : D.length ≤ 1000000 := by
          rw [hsw.dp.length_eq]
          exact Nat.le_trans (List.length_filter_le _ _) (HA.out.2.2 _ (by omega))
        have HE := Lib.hid hEall
        clear hsw hN hEall hG hsz
        go_wp2_with (first | (at_delete; refine At.stop ?_) | (at_mapUpdate; refine At.stop ?_) | (at_lookup; refine At.stop ?_) | (at_range; refine At.stop ?_) | (at_next; refine At.stop ?_) | (at_builtin; refine At.stop ?_))
        refine At.go (wpl_range rfl _ rfl Tryd.underlying82 hD1 rfl ?_)
        intro w7 hf7 hs7 hit7
        have hdel := HN.out w7 hf7 hit7
        clear hf7 hs7 hit7 c2 hD1 c0 c1 hfz HN
        generalize (World.setCell _ _ _).heap.size = it at hdel hsz1 ⊢
        go_frame
        go_wp2_with (first | (at_delete; refine At.stop ?_) | (at_mapUpdate; refine At.stop ?_) | (at_lookup; refine At.stop ?_) | (at_range; refine At.stop ?_) | (at_next; refine At.stop ?_) | (at_builtin; refine At.stop ?_))
        go_loopg [11] D.length (fun n v wq => ∃ got left, Del w wq b _ it n D E got left)
        case atStart => exact ⟨[], D, hdel⟩
        case round =>
          obtain ⟨got, left, hg⟩ := hrel
          clear hdel
          have hilt := hg.iter.lt
          go_wp2_with (first | (at_delete; refine At.stop ?_) | (at_mapUpdate; refine At.stop ?_) | (at_lookup; refine At.stop ?_) | (at_range; refine At.stop ?_) | (at_next; refine At.stop ?_) | (at_builtin; refine At.stop ?_))
          refine At.go (wpl_next rfl _ rfl rfl hg.iter (by omega) ?_ ?_)
          · intro hl0
            subst hl0
            have c3 := hg.c3
            have hE1 := hg.lft
            have HR := Lib.hid (del_redo hg)
            have hp := hg.perm
            rw [List.append_nil] at hp
            have HP := Lib.hid hp
            clear hg hp
            go_wp2_with (first | (at_delete; refine At.stop ?_) | (at_mapUpdate; refine At.stop ?_) | (at_lookup; refine At.stop ?_) | (at_range; refine At.stop ?_) | (at_next; refine At.stop ?_) | (at_builtin; refine At.stop ?_))
            refine At.go (wpl_range rfl _ rfl Tryd.underlying82 hE1 rfl ?_)
            intro w8 hf8 hs8 hit8
            have hredo := HR.out w8 hf8 hit8
            clear hf8 hs8 hit8 hE1 c3 HR
            have hsz8 := hredo.size
            generalize wr.heap.size = it2 at hredo hilt hsz8 ⊢
            go_frame
            go_wp2_with (first | (at_delete; refine At.stop ?_) | (at_mapUpdate; refine At.stop ?_) | (at_lookup; refine At.stop ?_) | (at_range; refine At.stop ?_) | (at_next; refine At.stop ?_) | (at_builtin; refine At.stop ?_))
            go_loopg [12] E.length (fun n v wz => ∃ got2 left2, Redo w wz b _ it2 n D E got2 left2)
            case atStart => exact ⟨[], E, hredo⟩
            case round =>
              obtain ⟨got2, left2, hg⟩ := hrel
              clear hredo
              have hilt2 := hg.iter.lt
              go_wp2_with (first | (at_delete; refine At.stop ?_) | (at_mapUpdate; refine At.stop ?_) | (at_lookup; refine At.stop ?_) | (at_range; refine At.stop ?_) | (at_next; refine At.stop ?_) | (at_builtin; refine At.stop ?_))
              refine At.go (wpl_next rfl _ rfl rfl hg.iter (by omega) ?_ ?_)
              · intro hl0
                subst hl0
                have c2 := hg.c2
                have HSo := Lib.hid (sorted_any _ _ D hg.due hDlen)
                have hp := hg.perm
                rw [List.append_nil] at hp
                have HP2 := Lib.hid (And.intro hp (And.intro hg.fr (And.intro hg.wheel (And.intro hg.size hg.iter.lt))))
                clear hg hp
                go_wp2_with (first | (at_delete; refine At.stop ?_) | (at_mapUpdate; refine At.stop ?_) | (at_lookup; refine At.stop ?_) | (at_range; refine At.stop ?_) | (at_next; refine At.stop ?_) | (at_builtin; refine At.stop ?_))
                refine HSo.out.mono ?_
                rintro e w' ⟨v, l, rfl, h1, h2, h3, h4⟩
                have HF := Lib.hid (And.intro h1 (And.intro h2 (And.intro h3 h4)))
                clear h1 h2 h3 h4
                go_wp2_with (first | (at_delete; refine At.stop ?_) | (at_mapUpdate; refine At.stop ?_) | (at_lookup; refine At.stop ?_) | (at_range; refine At.stop ?_) | (at_next; refine At.stop ?_) | (at_builtin; refine At.stop ?_))
                try rw [Exit.noGoto_ret]
                go_ret
                obtain ⟨h1, h2, h3, h4⟩ := HF.out
                obtain ⟨p1, p2, p3, p4, p5⟩ := HP2.out
                obtain ⟨q1, q2, q3⟩ := HQ.out
                rw [q1] at q2 q3
                refine ⟨v, l, D, E, got, got2, rfl, h1, h2, h3.base (by omega), HP.out, p1, q2, q3, ?_, p2.trans (Fr.of_new h4)⟩
                rw [← q1]
                have hft : ∀ k, (WSt.placeAll { S.upto G with now := now', all := adelAll S.all got } got2).foot b k → k < wr.heap.size := fun k hk => p3.foot_lt hk
                exact p3.fr (Fr.of_below h4) (fun k hk hc => by have := hft k hk; omega)
              · intro p l1 l2 w2 hl1 hf2 hs2 hit2 hen
                have hlk : (l1 ++ l2).length < gk := by
                  rw [← hg.len, hl1]
                  simp
                have hw2 := hg.wheel.fr hf2 (fun k hk e => by
                  obtain ⟨y1, y2, y3, y4⟩ := placeAll_keep { S.upto G with now := now', all := adelAll S.all got } got2
                  have : k < w.heap.size := by
                    rcases hk with e | e | ⟨i, hi, e⟩
                    · exact hg.old k (.inl e)
                    · exact hg.old k (.inr (.inl (e.trans y2)))
                    · exact hg.old k (.inr (.inr ⟨i, hi, e.trans (y3 i)⟩))
                  have := hg.size
                  omega)
                have hpE := HE.out p (hg.perm.mem_iff.1 (by rw [hl1]; simp))
                have HRS := Lib.hid (fun m w3 => redo_step (m := m) (w3 := w3) hg hl1 hf2 hit2)
                clear hg hl1 hf2 hit2
                go_wp2_with (first | (at_delete; refine At.stop ?_) | (at_mapUpdate; refine At.stop ?_) | (at_lookup; refine At.stop ?_) | (at_range; refine At.stop ?_) | (at_next; refine At.stop ?_) | (at_builtin; refine At.stop ?_))
                refine (place_any len64_says _ b _ p.2 hw2 hpE.2 (Nat.lt_of_le_of_lt (Nat.le_of_eq (placeAll_keep _ _).1) hpE.1)).mono ?_
                rintro e w' ⟨rfl, m, rfl⟩
                have hw3 := hw2.drewN m
                clear hw2 hen
                go_wp2_with (first | (at_delete; refine At.stop ?_) | (at_mapUpdate; refine At.stop ?_) | (at_lookup; refine At.stop ?_) | (at_range; refine At.stop ?_) | (at_next; refine At.stop ?_) | (at_builtin; refine At.stop ?_))
                refine At.go (wpl_update rfl _ _ _ rfl Tryd.underlying82 key_str (hw3.place _ (plcOf_le _ _)) rfl p.1 rfl p.2 rfl ?_)
                intro w4 hf4 hs4 hm4
                have HG := Lib.hid (HRS.out m w4 hf4 hm4)
                clear hf4 hs4 hm4 hw3 HRS
                go_wp2_with (first | (at_delete; refine At.stop ?_) | (at_mapUpdate; refine At.stop ?_) | (at_lookup; refine At.stop ?_) | (at_range; refine At.stop ?_) | (at_next; refine At.stop ?_) | (at_builtin; refine At.stop ?_))
                go_roundg (l1 ++ l2).length
                case measure => exact hlk
                case rel => exact ⟨_, _, HG.out⟩
          · intro p l1 l2 w2 hl1 hf2 hs2 hit2 hen
            have hlk : (l1 ++ l2).length < gk := by
              rw [← hg.len, hl1]
              simp
            have hw2 := hg.wheel.fr hf2 (fun k hk e => by have := hg.old k hk; have := hg.size; omega)
            have c1 := hw2.call
            have hM := hw2.all
            have HRS := Lib.hid (fun w3 => del_step (w3 := w3) hg hl1 hf2 hit2)
            clear hg hl1 hf2 hit2 hw2
            go_wp2_with (first | (at_delete; refine At.stop ?_) | (at_mapUpdate; refine At.stop ?_) | (at_lookup; refine At.stop ?_) | (at_range; refine At.stop ?_) | (at_next; refine At.stop ?_) | (at_builtin; refine At.stop ?_))
            refine At.go (wpl_delete rfl _ _ rfl Tryd.underlying82 key_str hM rfl p.1 rfl ?_)
            intro w4 hf4 hs4 hm4
            have HG := Lib.hid (HRS.out w4 hf4 hm4)
            clear hf4 hs4 hm4 hM c1 HRS
            go_wp2_with (first | (at_delete; refine At.stop ?_) | (at_mapUpdate; refine At.stop ?_) | (at_lookup; refine At.stop ?_) | (at_range; refine At.stop ?_) | (at_next; refine At.stop ?_) | (at_builtin; refine At.stop ?_))
            go_roundg (l1 ++ l2).length
            case measure => exact hlk
            case rel => exact ⟨_, _, HG.out⟩
end Go.Proofs.YtmjbhnkhpgnchaaDoor
