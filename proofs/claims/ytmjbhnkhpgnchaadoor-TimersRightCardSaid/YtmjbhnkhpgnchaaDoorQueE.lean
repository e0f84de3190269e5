/-
  container/heap over the queue's entries: up, down.
-/
import Derived.Test.YtmjbhnkhpgnchaaDoorQueB
import Derived.Test.YtmjbhnkhpgnchaaDoorQueD
namespace Go.Proofs.YtmjbhnkhpgnchaaDoor
open Go Go.RowKit

/-- the heap as an interface value -/
abbrev hv (re : Nat) : Value := .iface 75 (.pointer (some ⟨re, 0, none⟩))

theorem meth_len (re : Nat) (w : World) : (method 272 75 (.pointer (some ⟨re, 0, none⟩)) "Len").run Tryd.prog w = .ok (69, .pointer (some ⟨re, 0, none⟩)) w := by kernel_rfl
theorem meth_less (re : Nat) (w : World) : (method 272 75 (.pointer (some ⟨re, 0, none⟩)) "Less").run Tryd.prog w = .ok (111, .pointer (some ⟨re, 0, none⟩)) w := by kernel_rfl
theorem meth_swap (re : Nat) (w : World) : (method 272 75 (.pointer (some ⟨re, 0, none⟩)) "Swap").run Tryd.prog w = .ok (114, .pointer (some ⟨re, 0, none⟩)) w := by kernel_rfl
theorem meth_push (re : Nat) (w : World) : (method 272 75 (.pointer (some ⟨re, 0, none⟩)) "Push").run Tryd.prog w = .ok (113, .pointer (some ⟨re, 0, none⟩)) w := by kernel_rfl
theorem meth_pop (re : Nat) (w : World) : (method 272 75 (.pointer (some ⟨re, 0, none⟩)) "Pop").run Tryd.prog w = .ok (112, .pointer (some ⟨re, 0, none⟩)) w := by kernel_rfl

/-- what a sift leaves -/
structure Sift (w wr : World) (re rm : Nat) (v : Value) (l l' : List Ent) (n : Nat) : Prop where
  ent : EntAt wr re rm v l'
  perm : l'.Perm l
  fr : Fr (entFoot re rm v) w wr
  tail : ∀ k, n ≤ k → l'[k]? = l[k]?

theorem Sift.start {w : World} {re rm : Nat} {v : Value} {l : List Ent} (h : EntAt w re rm v l) (n : Nat) : Sift w w re rm v l l n := ⟨h, List.Perm.refl _, Fr.refl _ _, fun _ _ => rfl⟩

theorem Sift.move {w wr w' : World} {re rm : Nat} {v : Value} {l l' : List Ent} {n : Nat} (h : Sift w wr re rm v l l' n) (hf : Fr (fun _ => False) wr w') : Sift w w' re rm v l l' n :=
  ⟨h.ent.fr hf (fun _ _ h => h), h.perm, h.fr.trans (hf.mono fun _ _ h => h.elim), h.tail⟩

theorem Sift.swap {w wr w' : World} {re rm : Nat} {v : Value} {l l' : List Ent} {n i j : Nat} (h : Sift w wr re rm v l l' n) (he : EntAt w' re rm v (swp l' i j)) (hf : Fr (entFoot re rm v) wr w') (hi : i < n) (hj : j < n) : Sift w w' re rm v l (swp l' i j) n := by
  refine ⟨he, (swp_perm l' i j).trans h.perm, h.fr.trans hf, fun k hk => ?_⟩
  rw [← h.tail k hk]
  by_cases hij : i = j
  · subst hij; rw [swp_self]
  · unfold swp
    split
    · rename_i a b ha hb
      have := swp_get ha hb hij k
      rw [swp_eq ha hb] at this
      rw [this, if_neg (by omega), if_neg (by omega)]
    · rfl

set_option maxRecDepth 100000 in
set_option maxHeartbeats 400000 in
theorem hup_any (w : World) (re rm : Nat) (v : Value) (l : List Ent) (h : EntAt w re rm v l) (j n : Nat) (hj : j < n) (hn : n ≤ l.length) (hu : UpI l j n) :
    Calls Tryd.prog 55 #[hv re, .int .i64 j] w fun e w' => e = .returned (.tuple #[]) ∧ ∃ l', Sift w w' re rm v l l' n ∧ IsHeap l' n := by
  have hst := Sift.start h n
  have hs := h.small
  clear h
  have hml := meth_less re
  have hms := meth_swap re
  go_enter Tryd.func55, Tryd.ntmps55
  go_wp2
  go_loopw [1] (fun jv wr => ∃ (i : Nat) (l' : List Ent), jv = .int .i64 i ∧ i < n ∧ Sift w wr re rm v l l' n ∧ UpI l' i n) (fun jv _ => (intOf jv).toNat)
  case atStart => exact ⟨j, l, rfl, hj, hst, hu⟩
  case round =>
    obtain ⟨i, l', rfl, hi, hS, hU⟩ := hrel
    clear hst hu hj
    have hlen : l'.length = l.length := hS.perm.length_eq
    have HS := Lib.hid (And.intro hS hU)
    clear hS hU
    cases i with
    | zero =>
      go_wp2
      go_end0
      obtain ⟨hS, hU⟩ := HS.out
      exact ⟨rfl, l', hS, up_done hU (fun h => absurd h (by omega))⟩
    | succ k =>
      have hne : (((k : Int) / 2) == ((k : Int) + 1)) = false := by
        rw [beq_eq_false_iff_ne]
        omega
      have hpk : (k + 1 - 1) / 2 = k / 2 := by omega
      obtain ⟨a, ha⟩ : ∃ a, l'[k / 2]? = some a := ⟨_, List.getElem?_eq_getElem (by omega)⟩
      obtain ⟨b, hb⟩ : ∃ b, l'[k + 1]? = some b := ⟨_, List.getElem?_eq_getElem (by omega)⟩
      have HL := Lib.hid (qless_any wr re rm v l' HS.out.1.ent (k + 1) (k / 2) (by omega) (by omega))
      have ek : ((k + 1 : Nat) : Int) = (k : Int) + 1 := by omega
      have ek2 : ((k / 2 : Nat) : Int) = (k : Int) / 2 := by omega
      rw [ek, ek2, show l'[k + 1]'(by omega) = b by rw [List.getElem?_eq_getElem (by omega)] at hb; exact Option.some.inj hb, show l'[k / 2]'(by omega) = a by rw [List.getElem?_eq_getElem (by omega)] at ha; exact Option.some.inj ha] at HL
      cases hab : ahead b a with
      | false =>
        rw [hab] at HL
        go_wp2_with fail
        refine HL.out.mono ?_
        rintro e w1 ⟨rfl, hf1⟩
        have hS1 := HS.out.1.move hf1
        have HT := Lib.hid (And.intro hS1 (And.intro HS.out.2 hab))
        clear hf1 hS1 hab HS HL
        go_wp2_with fail
        go_end0
        obtain ⟨hS, hU, hab⟩ := HT.out
        refine ⟨rfl, l', hS, up_done hU (fun _ x y hx hy => ?_)⟩
        rw [hb] at hx
        rw [hpk, ha] at hy
        obtain rfl := Option.some.inj hx
        obtain rfl := Option.some.inj hy
        exact hab
      | true =>
        rw [hab] at HL
        go_wp2_with fail
        refine HL.out.mono ?_
        rintro e w1 ⟨rfl, hf1⟩
        have hS1 := HS.out.1.move hf1
        have HD := Lib.hid (qswap_any w1 re rm v l' hS1.ent (k / 2) (k + 1) (by omega) (by omega))
        have HT := Lib.hid (And.intro hS1 HS.out.2)
        rw [ek, ek2] at HD
        clear hf1 hS1 HS HL
        go_wp2_with fail
        refine HD.out.mono ?_
        rintro e w2 ⟨rfl, hE2, hf2⟩
        have hS2 := HT.out.1.swap hE2 hf2 (by omega) (by omega)
        have hU2 := up_step HT.out.2 (by omega) (by omega) (by rw [hpk]; exact ha) hb hab
        rw [hpk] at hU2
        have HV := Lib.hid (And.intro hS2 hU2)
        clear hE2 hf2 hS2 hU2 HT HD hab
        go_wp2_with fail
        go_roundw
        case rel => exact ⟨k / 2, swp l' (k / 2) (k + 1), by go_num, by omega, HV.out.1, HV.out.2⟩
        case measure => simp [intOf]; omega


set_option maxRecDepth 100000 in
set_option maxHeartbeats 1000000 in
theorem hdown_any (w : World) (re rm : Nat) (v : Value) (l : List Ent) (h : EntAt w re rm v l) (i n : Nat) (hi : i < l.length) (hn : n ≤ l.length) (hin : i < n ∨ n = 0) (hd : DnI l i n) :
    Calls Tryd.prog 54 #[hv re, .int .i64 i, .int .i64 n] w fun e w' => ∃ m l', e = .returned (.bool m) ∧ Sift w w' re rm v l l' n ∧ (m = true → IsHeap l' n) ∧ (m = false → UpI l' i n) := by
  have hst := Sift.start h n
  have hs := h.small
  clear h
  have hml := meth_less re
  have hms := meth_swap re
  go_enter Tryd.func54, Tryd.ntmps54
  go_wp2
  go_loopw [7] (fun jv wr => ∃ (k : Nat) (l' : List Ent), jv = .int .i64 k ∧ i ≤ k ∧ (k < n ∨ (k = i ∧ n = 0)) ∧ Sift w wr re rm v l l' n ∧ DnI l' k n ∧ (k ≠ i → i < k ∧ okAt l' k)) (fun jv _ => l.length - (intOf jv).toNat)
  case atStart => exact ⟨i, l, rfl, Nat.le_refl _, by omega, hst, hd, fun h => absurd rfl h⟩
  case round =>
    obtain ⟨k, l', rfl, hik, hkn, hS, hD, hok⟩ := hrel
    clear hst hd
    have hlen : l'.length = l.length := hS.perm.length_eq
    have HS := Lib.hid (And.intro hS (And.intro hD hok))
    clear hS hD hok
    by_cases hA : n ≤ 2 * k + 1
    · have hd1 : decide ((n : Int) ≤ 2 * (k : Int) + 1) = true := by rw [decide_eq_true_eq]; omega
      go_wp2_with fail
      go_ret
      obtain ⟨hS, hD, hok⟩ := HS.out
      have hU := down_done hD (fun c hc hcn hp => by omega)
      by_cases hki : k = i
      · subst hki
        exact ⟨false, l', by simp, hS, (fun h => by cases h), fun _ => hU⟩
      · have := (hok hki).1
        exact ⟨true, l', by simp [this], hS, (fun _ => up_done hU (fun _ => (hok hki).2)), fun h => by cases h⟩
    · have hd1 : decide ((n : Int) ≤ 2 * (k : Int) + 1) = false := by rw [decide_eq_false_iff_not]; omega
      have hd2 : decide (2 * (k : Int) + 1 < 0) = false := by rw [decide_eq_false_iff_not]; omega
      have hkl : k < l'.length := by omega
      obtain ⟨a, ha⟩ : ∃ a, l'[k]? = some a := ⟨_, List.getElem?_eq_getElem hkl⟩
      have hag := Lib.hid (show l'[k] = a by rw [List.getElem?_eq_getElem hkl] at ha; exact Option.some.inj ha)
      have h1l : 2 * k + 1 < l'.length := by omega
      obtain ⟨b1, hb1⟩ : ∃ b, l'[2 * k + 1]? = some b := ⟨_, List.getElem?_eq_getElem h1l⟩
      have hb1g := Lib.hid (show l'[2 * k + 1] = b1 by rw [List.getElem?_eq_getElem h1l] at hb1; exact Option.some.inj hb1)
      have e1 : ((2 * k + 1 : Nat) : Int) = 2 * (k : Int) + 1 := by omega
      by_cases hB : 2 * k + 2 < n
      · have hd3 : decide (2 * (k : Int) + 2 < (n : Int)) = true := by rw [decide_eq_true_eq]; omega
        have hd4 : 2 * (k : Int) + 2 < (n : Int) := by omega
        have h2l : 2 * k + 2 < l'.length := by omega
        obtain ⟨b2, hb2⟩ : ∃ b, l'[2 * k + 2]? = some b := ⟨_, List.getElem?_eq_getElem h2l⟩
        have hb2g := Lib.hid (show l'[2 * k + 2] = b2 by rw [List.getElem?_eq_getElem h2l] at hb2; exact Option.some.inj hb2)
        have e2 : ((2 * k + 2 : Nat) : Int) = 2 * (k : Int) + 2 := by omega
        have HL := Lib.hid (qless_any wr re rm v l' HS.out.1.ent (2 * k + 2) (2 * k + 1) h2l h1l)
        rw [e1, e2, hb1g.out, hb2g.out] at HL
        cases h21 : ahead b2 b1 with
        | true =>
          rw [h21] at HL
          have hmin : ∀ c, 0 < c → c < n → (c - 1) / 2 = k → okTo l' c (2 * k + 2) := by
            intro c h0 hc hp x y hx hy
            rw [hb2] at hy
            obtain rfl := Option.some.inj hy
            by_cases e : c = 2 * k + 2
            · subst e
              rw [hb2] at hx
              obtain rfl := Option.some.inj hx
              exact ahead_irrefl _
            · have : c = 2 * k + 1 := by omega
              subst this
              rw [hb1] at hx
              obtain rfl := Option.some.inj hx
              exact ahead_asymm h21
          go_wp2_with fail
          refine HL.out.mono ?_
          rintro e w1 ⟨rfl, hf1⟩
          have HS1 := Lib.hid (And.intro (HS.out.1.move hf1) HS.out.2)
          clear hf1 HL HS hb1 hb1g e1
          have HM := Lib.hid hmin
          clear hmin
          have HL2 := Lib.hid (qless_any w1 re rm v l' HS1.out.1.ent (2 * k + 2) k h2l hkl)
          rw [e2, hb2g.out, hag.out] at HL2
          cases hab : ahead b2 a with
          | false =>
            rw [hab] at HL2
            go_wp2_with fail
            refine HL2.out.mono ?_
            rintro e w2 ⟨rfl, hf2⟩
            have HT := Lib.hid (And.intro (HS1.out.1.move hf2) (And.intro HS1.out.2 hab))
            clear hf2 hab HL2 HS1
            go_wp2_with fail
            go_ret
            obtain ⟨hS, ⟨hD, hok⟩, hab⟩ := HT.out
            have hU := down_done hD (fun c hc hcn hp x y hx hy => by
              rw [ha] at hy
              obtain rfl := Option.some.inj hy
              exact nle_trans (HM.out c hc hcn hp x b2 hx hb2) hab)
            by_cases hki : k = i
            · subst hki
              exact ⟨false, l', by simp, hS, (fun h => by cases h), fun _ => hU⟩
            · have := (hok hki).1
              exact ⟨true, l', by simp [this], hS, (fun _ => up_done hU (fun _ => (hok hki).2)), fun h => by cases h⟩
          | true =>
            rw [hab] at HL2
            go_wp2_with fail
            refine HL2.out.mono ?_
            rintro e w2 ⟨rfl, hf2⟩
            have hS2 := HS1.out.1.move hf2
            have HD := Lib.hid (qswap_any w2 re rm v l' hS2.ent k (2 * k + 2) hkl h2l)
            rw [e2] at HD
            have HT := Lib.hid (And.intro hS2 (And.intro HS1.out.2.1 hab))
            clear hf2 hS2 hab HL2 HS1
            go_wp2_with fail
            refine HD.out.mono ?_
            rintro e w3 ⟨rfl, hE3, hf3⟩
            have hS3 := HT.out.1.swap hE3 hf3 (show k < n by omega) (show 2 * k + 2 < n by omega)
            have hst := down_step HT.out.2.1 (show 2 * k + 2 < n by omega) (by omega) (by omega) ha hb2 HT.out.2.2 HM.out
            have HV := Lib.hid (And.intro hS3 hst)
            clear hE3 hf3 hS3 hst HT HD
            go_wp2_with fail
            go_roundw
            case rel => exact ⟨2 * k + 2, swp l' k (2 * k + 2), by go_num, by omega, by omega, HV.out.1, HV.out.2.1, fun _ => ⟨by omega, HV.out.2.2⟩⟩
            case measure => simp [intOf]; omega
        | false =>
          rw [h21] at HL
          have hmin : ∀ c, 0 < c → c < n → (c - 1) / 2 = k → okTo l' c (2 * k + 1) := by
            intro c h0 hc hp x y hx hy
            rw [hb1] at hy
            obtain rfl := Option.some.inj hy
            by_cases e : c = 2 * k + 1
            · subst e
              rw [hb1] at hx
              obtain rfl := Option.some.inj hx
              exact ahead_irrefl _
            · have : c = 2 * k + 2 := by omega
              subst this
              rw [hb2] at hx
              obtain rfl := Option.some.inj hx
              exact h21
          go_wp2_with fail
          refine HL.out.mono ?_
          rintro e w1 ⟨rfl, hf1⟩
          have HS1 := Lib.hid (And.intro (HS.out.1.move hf1) HS.out.2)
          clear hf1 HL HS hb2 hb2g e2
          have HM := Lib.hid hmin
          clear hmin
          have HL2 := Lib.hid (qless_any w1 re rm v l' HS1.out.1.ent (2 * k + 1) k h1l hkl)
          rw [e1, hb1g.out, hag.out] at HL2
          cases hab : ahead b1 a with
          | false =>
            rw [hab] at HL2
            go_wp2_with fail
            refine HL2.out.mono ?_
            rintro e w2 ⟨rfl, hf2⟩
            have HT := Lib.hid (And.intro (HS1.out.1.move hf2) (And.intro HS1.out.2 hab))
            clear hf2 hab HL2 HS1
            go_wp2_with fail
            go_ret
            obtain ⟨hS, ⟨hD, hok⟩, hab⟩ := HT.out
            have hU := down_done hD (fun c hc hcn hp x y hx hy => by
              rw [ha] at hy
              obtain rfl := Option.some.inj hy
              exact nle_trans (HM.out c hc hcn hp x b1 hx hb1) hab)
            by_cases hki : k = i
            · subst hki
              exact ⟨false, l', by simp, hS, (fun h => by cases h), fun _ => hU⟩
            · have := (hok hki).1
              exact ⟨true, l', by simp [this], hS, (fun _ => up_done hU (fun _ => (hok hki).2)), fun h => by cases h⟩
          | true =>
            rw [hab] at HL2
            go_wp2_with fail
            refine HL2.out.mono ?_
            rintro e w2 ⟨rfl, hf2⟩
            have hS2 := HS1.out.1.move hf2
            have HD := Lib.hid (qswap_any w2 re rm v l' hS2.ent k (2 * k + 1) hkl h1l)
            rw [e1] at HD
            have HT := Lib.hid (And.intro hS2 (And.intro HS1.out.2.1 hab))
            clear hf2 hS2 hab HL2 HS1
            go_wp2_with fail
            refine HD.out.mono ?_
            rintro e w3 ⟨rfl, hE3, hf3⟩
            have hS3 := HT.out.1.swap hE3 hf3 (show k < n by omega) (show 2 * k + 1 < n by omega)
            have hst := down_step HT.out.2.1 (show 2 * k + 1 < n by omega) (by omega) (by omega) ha hb1 HT.out.2.2 HM.out
            have HV := Lib.hid (And.intro hS3 hst)
            clear hE3 hf3 hS3 hst HT HD
            go_wp2_with fail
            go_roundw
            case rel => exact ⟨2 * k + 1, swp l' k (2 * k + 1), by go_num, by omega, by omega, HV.out.1, HV.out.2.1, fun _ => ⟨by omega, HV.out.2.2⟩⟩
            case measure => simp [intOf]; omega
      · have hd3 : decide (2 * (k : Int) + 2 < (n : Int)) = false := by rw [decide_eq_false_iff_not]; omega
        have hmin : ∀ c, 0 < c → c < n → (c - 1) / 2 = k → okTo l' c (2 * k + 1) := by
          intro c h0 hc hp x y hx hy
          have : c = 2 * k + 1 := by omega
          subst this
          rw [hx] at hy
          obtain rfl := Option.some.inj hy
          exact ahead_irrefl _
        have HM := Lib.hid hmin
        clear hmin
        have HL2 := Lib.hid (qless_any wr re rm v l' HS.out.1.ent (2 * k + 1) k h1l hkl)
        rw [e1, hb1g.out, hag.out] at HL2
        cases hab : ahead b1 a with
        | false =>
          rw [hab] at HL2
          go_wp2_with fail
          refine HL2.out.mono ?_
          rintro e w2 ⟨rfl, hf2⟩
          have HT := Lib.hid (And.intro (HS.out.1.move hf2) (And.intro HS.out.2 hab))
          clear hf2 hab HL2 HS
          go_wp2_with fail
          go_ret
          obtain ⟨hS, ⟨hD, hok⟩, hab⟩ := HT.out
          have hU := down_done hD (fun c hc hcn hp x y hx hy => by
            rw [ha] at hy
            obtain rfl := Option.some.inj hy
            exact nle_trans (HM.out c hc hcn hp x b1 hx hb1) hab)
          by_cases hki : k = i
          · subst hki
            exact ⟨false, l', by simp, hS, (fun h => by cases h), fun _ => hU⟩
          · have := (hok hki).1
            exact ⟨true, l', by simp [this], hS, (fun _ => up_done hU (fun _ => (hok hki).2)), fun h => by cases h⟩
        | true =>
          rw [hab] at HL2
          go_wp2_with fail
          refine HL2.out.mono ?_
          rintro e w2 ⟨rfl, hf2⟩
          have hS2 := HS.out.1.move hf2
          have HD := Lib.hid (qswap_any w2 re rm v l' hS2.ent k (2 * k + 1) hkl h1l)
          rw [e1] at HD
          have HT := Lib.hid (And.intro hS2 (And.intro HS.out.2.1 hab))
          clear hf2 hS2 hab HL2 HS
          go_wp2_with fail
          refine HD.out.mono ?_
          rintro e w3 ⟨rfl, hE3, hf3⟩
          have hS3 := HT.out.1.swap hE3 hf3 (show k < n by omega) (show 2 * k + 1 < n by omega)
          have hst := down_step HT.out.2.1 (show 2 * k + 1 < n by omega) (by omega) (by omega) ha hb1 HT.out.2.2 HM.out
          have HV := Lib.hid (And.intro hS3 hst)
          clear hE3 hf3 hS3 hst HT HD
          go_wp2_with fail
          go_roundw
          case rel => exact ⟨2 * k + 1, swp l' k (2 * k + 1), by go_num, by omega, by omega, HV.out.1, HV.out.2.1, fun _ => ⟨by omega, HV.out.2.2⟩⟩
          case measure => simp [intOf]; omega
end Go.Proofs.YtmjbhnkhpgnchaaDoor
