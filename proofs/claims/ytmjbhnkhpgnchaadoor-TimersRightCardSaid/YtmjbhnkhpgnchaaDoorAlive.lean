/-
  law10.alive.
-/
import Derived.Test.YtmjbhnkhpgnchaaDoorTabF
import Derived.Test.YtmjbhnkhpgnchaaDoorRefSame
namespace Go.Proofs.YtmjbhnkhpgnchaaDoor
open Go Go.RowKit

abbrev nmA : ByteArray := ⟨#[97]⟩
abbrev nmB : ByteArray := ⟨#[98]⟩
abbrev tmA : Tm := ⟨nmA, 1, 12, 5, []⟩
abbrev tmB : Tm := ⟨nmB, 2, 3, 0, []⟩
abbrev tmA0 : Tm := ⟨nmA, 0, 12, 5, []⟩

theorem nm_ne : nmA ≠ nmB := by decide
theorem tmA_right : rightT tmA = true := by
  unfold rightT
  rw [empty_size]
  decide +kernel
theorem tmB_right : rightT tmB = true := by
  unfold rightT
  rw [empty_size]
  decide +kernel
theorem tmA_wf : tmA.wf := ⟨by decide, by decide, by decide, by decide, (fun s hs => by cases hs), by decide⟩
theorem tmB_wf : tmB.wf := ⟨by decide, by decide, by decide, by decide, (fun s hs => by cases hs), by decide⟩
theorem al_after : nextOf 12 5 20 = some 22 := by decide +kernel

section
variable {w : World} {b : Nat} {T : TSt} {d1 d2 : Value}

theorem al_list : aput (adel ([(nmA, (tmA, d1))] : List (ByteArray × (Tm × Value))) nmB) nmB (tmB, d2) = [(nmA, (tmA, d1)), (nmB, (tmB, d2))] := by
  have h : ¬ nmA = nmB := nm_ne
  simp [adel, aput, h]

theorem al_names (h : TabAt w b T) (hL : T.L = [(nmA, (tmA, d1)), (nmB, (tmB, d2))]) (hn : T.S.now = 10) {l : List Ent} (hnd : (keys l).Nodup) (hl : ∀ p, p ∈ l ↔ p ∈ T.S.all ∧ p.2 ≤ 20) : l = [(nmA, 12)] := by
  have hm : ∀ p, p ∈ l ↔ p = (nmA, 12) := fun p => by
    rw [hl p, h.far p, hL, hn]
    constructor
    · rintro ⟨⟨t, v, h1, h2, h3⟩, h4⟩
      simp only [List.mem_cons, Prod.mk.injEq, List.not_mem_nil, or_false] at h1
      rcases h1 with ⟨e1, e2, _⟩ | ⟨e1, e2, _⟩
      · subst e2
        exact Prod.ext e1 h2.symm
      · subst e2
        exact absurd h3 (by decide)
    · rintro rfl
      exact ⟨⟨tmA, d1, by simp, rfl, by decide⟩, by decide⟩
  have hnod : l.Nodup := nodup_of_keys hnd
  cases l with
  | nil => exact absurd ((hm (nmA, 12)).2 rfl) (by simp)
  | cons x t =>
    have hx := (hm x).1 (by simp)
    subst hx
    cases t with
    | nil => rfl
    | cons y t =>
      have hy := (hm y).1 (by simp)
      subst hy
      rw [List.nodup_cons] at hnod
      exact absurd (by simp) hnod.1

theorem al_due (h : TabAt w b T) (hL : T.L = [(nmA, (tmA, d1)), (nmB, (tmB, d2))]) (hn : T.S.now = 20) {got : List Ent} (ha : Asc got) (hp : got.Perm T.Q.l) : got = [(nmB, 3), (nmA, 12)] := by
  refine asc_ext ha ?_ ?_
  · unfold Asc
    simp [ahead]
  · intro p
    rw [hp.mem_iff, h.due p, hL, hn]
    constructor
    · rintro ⟨t, v, h1, h2, h3⟩
      simp only [List.mem_cons, Prod.mk.injEq, List.not_mem_nil, or_false] at h1
      rcases h1 with ⟨e1, e2, _⟩ | ⟨e1, e2, _⟩
      · subst e2
        have : p = (nmA, 12) := Prod.ext e1 h2.symm
        subst this
        simp
      · subst e2
        have : p = (nmB, 3) := Prod.ext e1 h2.symm
        subst this
        simp
    · intro hp
      simp only [List.mem_cons, List.not_mem_nil, or_false] at hp
      rcases hp with rfl | rfl
      · exact ⟨tmB, d2, by simp, rfl, by decide⟩
      · exact ⟨tmA, d1, by simp, rfl, by decide⟩

theorem al_found (hL : T.L = [(nmA, (tmA, d1)), (nmB, (tmB, d2))]) : foundT T nmB = tmB ∧ foundT T nmA = tmA := by
  have h : ¬ nmA = nmB := nm_ne
  unfold foundT
  rw [hL]
  simp [aget, h]
end

set_option maxRecDepth 100000 in
set_option maxHeartbeats 1000000 in
theorem alive_any (w : World) (htab : Tab w) : Calls Tryd.prog 6 #[] w fun e w' => e = .returned (.bool true) ∧ RowKit.Below w.heap.size w w' := by
  have HN := Lib.hid (tnew_any w 10 (by decide))
  have HT := Lib.hid htab
  have hz := zero_api
  clear htab
  go_enter Tryd.func6, Tryd.ntmps6
  go_wp2_with fail
  refine HN.out.mono ?_
  rintro e w1 ⟨b, T, rfl, hT, hL, hn, hown, hB1⟩
  have hSA := Lib.hid (tset_any w1 b T hT tmA (.slice none 0 0) RdS.nil tmA_wf (HT.out.below hB1) (by rw [hL]; decide) (fun h => absurd rfl h))
  have H1 := Lib.hid (And.intro hT (And.intro hL (And.intro hn (And.intro hown hB1))))
  clear hT hL hn hown hB1 HN
  go_wp2_with fail
  refine hSA.out.mono ?_
  intro e w2 hs
  obtain ⟨T1, d1, rfl, hT1, hn1, hL1, hd1, hf1, hg1, hq1⟩ := hs.2 tmA_right
  clear hs
  obtain ⟨hT, hL, hn, hown, hB1⟩ := H1.out
  have hfo1 : ∀ k, T1.foot k → w.heap.size ≤ k := fun k hk => (hg1 k hk).elim (fun h => hown k (.inr (.inr (.inl h)))) (fun h => Nat.le_trans hB1.size h)
  have hB2 : RowKit.Below w.heap.size w w2 := hB1.trans (hf1.below (fun k hk hk2 => by have := hown k (.inr (.inr (.inl hk2))); omega) hB1.size)
  have hL1' : T1.L = [(nmA, (tmA, d1))] := by rw [hL1, hL]; rfl
  have hn1' : T1.S.now = 10 := hn1.trans hn
  have hSB := Lib.hid (tset_any w2 b T1 hT1 tmB (.slice none 0 0) RdS.nil tmB_wf (HT.out.below hB2) (by rw [hL1']; exact (by decide : 1 + 1 ≤ 10000)) (fun h => absurd rfl h))
  have H2 := Lib.hid (And.intro hT1 (And.intro hL1' (And.intro hn1' (And.intro hfo1 hB2))))
  clear hT hL hn hown hB1 hT1 hn1 hL1 hd1 hf1 hg1 hq1 hfo1 hB2 hL1' hn1' H1 hSA
  go_wp2_with fail
  refine hSB.out.mono ?_
  intro e w3 hs
  obtain ⟨T2, d2, rfl, hT2, hn2, hL2, hd2, hf2, hg2, hq2⟩ := hs.2 tmB_right
  clear hs
  obtain ⟨hT1, hL1, hn1, hfo1, hB2⟩ := H2.out
  have hfo2 : ∀ k, T2.foot k → w.heap.size ≤ k := fun k hk => (hg2 k hk).elim (fun h => hfo1 k h) (fun h => Nat.le_trans hB2.size h)
  have hB3 : RowKit.Below w.heap.size w w3 := hB2.trans (hf2.below (fun k hk hk2 => by have := hfo1 k hk2; omega) hB2.size)
  have hL2' : T2.L = [(nmA, (tmA, d1)), (nmB, (tmB, d2))] := by rw [hL2, hL1]; exact al_list
  have hn2' : T2.S.now = 10 := hn2.trans hn1
  have hAD := Lib.hid (tadv_any w3 b T2 hT2 20 (by decide))
  have H3 := Lib.hid (And.intro hT2 (And.intro hL2' (And.intro hn2' (And.intro hfo2 hB3))))
  clear hT1 hL1 hn1 hfo1 hB2 hT2 hn2 hL2 hd2 hf2 hg2 hq2 hfo2 hB3 hL2' hn2' H2 hSB
  go_wp2_with fail
  refine hAD.out.mono ?_
  intro e w4 hs
  obtain ⟨T3, vo, l, rfl, hT3, hL3, hn3, hvo, _, hnd3, hl3, _, _, hf3, hg3, _⟩ := hs.2 (by rw [H3.out.2.2.1]; decide)
  clear hs
  obtain ⟨hT2, hL2, hn2, hfo2, hB3⟩ := H3.out
  obtain rfl := al_names hT2 hL2 hn2 hnd3 hl3
  have hfo3 : ∀ k, T3.foot k → w.heap.size ≤ k := fun k hk => (hg3 k hk).elim (fun h => hfo2 k h) (fun h => Nat.le_trans hB3.size h)
  have hB4 : RowKit.Below w.heap.size w w4 := hB3.trans (hf3.below (fun k hk hk2 => by have := hfo2 k hk2; omega) hB3.size)
  have hDU := Lib.hid (tdue_any w4 b T3 hT3)
  have H4 := Lib.hid (And.intro hT3 (And.intro (hL3.trans hL2) (And.intro hn3 (And.intro hfo3 (And.intro hB4 hvo)))))
  clear hT2 hL2 hn2 hfo2 hB3 hT3 hL3 hn3 hvo hnd3 hl3 hf3 hg3 hfo3 hB4 H3 hAD
  go_wp2_with fail
  refine hDU.out.mono ?_
  rintro e w5 ⟨v', l', vd, out, got, rfl, hT4, hvd, hst, hasc, hpm, hout, _, hf4, _⟩
  obtain ⟨hT3, hL3, hn3, hfo3, hB4, hvo⟩ := H4.out
  obtain rfl := al_due hT3 hL3 hn3 hasc hpm
  obtain ⟨hfb, hfa⟩ := al_found hL3
  simp only [List.map_cons, List.map_nil, hfb, hfa] at hout
  have hB5 : RowKit.Below w.heap.size w w5 := hB4.trans (hf4.below (fun k hk hk2 => by have := hfo3 k (.inr (.inl hk2)); omega) hB4.size)
  have hvo5 := OwnS.keepQ hvo hT3.que hf4 (by decide)
  obtain ⟨x1, x2, rfl⟩ : ∃ x1 x2, out = [x1, x2] := by
    clear hvd hst
    cases out with
    | nil => simp at hout
    | cons x1 r =>
      cases r with
      | nil => simp at hout
      | cons x2 r =>
        cases r with
        | nil => exact ⟨x1, x2, rfl⟩
        | cons x3 r => simp at hout
  simp only [List.map_cons, List.map_nil, List.cons.injEq, and_true] at hout
  obtain ⟨a1, cap1, hvo1, _, hc1⟩ := hvo5.rd encN_len
  obtain ⟨g1, o1, rfl, hg1, hc1⟩ := hc1 0 nmA rfl
  have k1 := hc1 0 _ rfl
  obtain ⟨a2, cap2, hvd1, _, hc2⟩ := hvd.rd encTm_len
  obtain ⟨g2, o2, rfl, hg2, hc2⟩ := hc2 0 x1 rfl
  have k2 := hc2 0 _ rfl
  rw [hout.1] at k2
  have hAF := Lib.hid (after_some w5 tmA0 (.slice none 0 0) 20 22 (by decide) (by decide) (by decide) RdS.nil (by decide) al_after (by decide))
  have H5 := Lib.hid (And.intro hB5 (And.intro hg1 (And.intro k1 (And.intro hg2 k2))))
  subst hvo1
  subst hvd1
  clear hT3 hL3 hn3 hfo3 hB4 hvo hfb hfa hvo5 hc1 hc2 hB5 hg1 hg2 k1 k2 hout hvd hst hasc hpm hf4 H4 hDU hT4
  go_wp2_with fail
  refine hAF.out.mono ?_
  rintro e w6 ⟨dv, rfl, hdv, hB6⟩
  obtain ⟨sa, sc, hsv, _⟩ := hdv.at.shape
  have hsv' : dv = .slice sa 0 sc := hsv
  clear hsv
  subst hsv'
  have hF6 : Fr (fun _ => False) w5 w6 := Fr.of_new hB6
  have k1 : ∀ o, (w6.alloc o).cell? ⟨g1, o1, none⟩ = some (.string nmA) := fun o => ((hF6.alloc o).cell (p := ⟨g1, o1, none⟩) H5.out.2.1 (fun h => h)).trans H5.out.2.2.1
  have k2 : ∀ o, (w6.alloc o).cell? ⟨g2, o2, none⟩ = some (.string nmB) := fun o => ((hF6.alloc o).cell (p := ⟨g2, o2, none⟩) H5.out.2.2.2.1 (fun h => h)).trans H5.out.2.2.2.2
  have HB := Lib.hid (show ∀ o, RowKit.Below w.heap.size w (w6.alloc o) from fun o => (H5.out.1.trans (hB6.mono H5.out.1.size)).alloc (Nat.le_trans H5.out.1.size hB6.size) o)
  clear hdv hB6 hF6 hAF H5
  go_wp2_with fail
  go_ret
  exact ⟨rfl, HB.out _⟩
end Go.Proofs.YtmjbhnkhpgnchaaDoor
