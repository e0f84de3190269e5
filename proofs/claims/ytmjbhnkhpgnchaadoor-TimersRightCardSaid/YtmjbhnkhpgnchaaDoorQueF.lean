/-
  container/heap over the queue's entries: Push, Pop, Remove.
-/
import Derived.Test.YtmjbhnkhpgnchaaDoorQueE
namespace Go.Proofs.YtmjbhnkhpgnchaaDoor
open Go Go.RowKit

theorem EntAt.in_foot {re rm : Nat} {v v' : Value} {w : World} (hl : Lies w v v') {k : Nat} (hk : k < w.heap.size) (h : entFoot re rm v' k) : entFoot re rm v k := by
  rcases h with h | h | h
  · exact .inl h
  · exact .inr (.inl h)
  · rcases hl k h with h | h
    · exact .inr (.inr h)
    · omega

/-- Push's first step, with where the new slice lies -/
theorem qpush_lies (w : World) (re rm : Nat) (v : Value) (l : List Ent) (h : EntAt w re rm v l) (x : Ent) (hx : x.1 ∉ keys l) (hl : l.length + 1 ≤ 1000000) :
    Calls Tryd.prog 113 #[.pointer (some ⟨re, 0, none⟩), .iface 71 (.agg #[.string x.1, .int .u64 x.2])] w fun e w' => ∃ v', e = .returned (.tuple #[]) ∧ EntAt w' re rm v' (l ++ [x]) ∧ Lies w v v' ∧ Fr (entFoot re rm v) w w' := qpush_any w re rm v l h x hx hl

set_option maxRecDepth 100000 in
set_option maxHeartbeats 400000 in
theorem hpush_any (w : World) (re rm : Nat) (v : Value) (l : List Ent) (h : EntAt w re rm v l) (hh : IsHeap l l.length) (x : Ent) (hx : x.1 ∉ keys l) (hl : l.length + 1 ≤ 1000000) :
    Calls Tryd.prog 42 #[hv re, .iface 71 (.agg #[.string x.1, .int .u64 x.2])] w fun e w' => ∃ v' l', e = .returned (.tuple #[]) ∧ EntAt w' re rm v' l' ∧ IsHeap l' l'.length ∧ l'.Perm (l ++ [x]) ∧ Lies w v v' ∧ Fr (entFoot re rm v) w w' := by
  have hmp := meth_push re
  have hml := meth_len re
  have HA := Lib.hid (qpush_lies w re rm v l h x hx hl)
  have HH := Lib.hid hh
  clear h hh hx
  go_enter Tryd.func42, Tryd.ntmps42
  go_wp2_with fail
  refine HA.out.mono ?_
  rintro e w1 ⟨v', rfl, hE, hL, hf⟩
  have HL := Lib.hid (qlen_any w1 re rm v' (l ++ [x]) hE)
  have hll : (l ++ [x]).length = l.length + 1 := by simp
  have ell : ((l.length + 1 : Nat) : Int) = (l.length : Int) + 1 := by omega
  rw [hll, ell] at HL
  have HB := Lib.hid (hup_any w1 re rm v' (l ++ [x]) hE l.length (l.length + 1) (by omega) (by rw [hll]; exact Nat.le_refl _) (up_push x HH.out))
  have HE := Lib.hid (And.intro hE (And.intro hL hf))
  clear hE hL hf HA
  go_wp2_with fail
  refine HL.out.mono ?_
  rintro e w1' ⟨rfl, rfl⟩
  go_wp2_with fail
  refine HB.out.mono ?_
  rintro e w2 ⟨rfl, l', hS, hhp⟩
  have HC := Lib.hid (And.intro hS hhp)
  clear hS hhp HL HB
  go_wp2_with fail
  go_end0
  obtain ⟨hS, hhp⟩ := HC.out
  obtain ⟨hE, hL, hf⟩ := HE.out
  refine ⟨v', l', rfl, hS.ent, by rw [hS.perm.length_eq, hll]; exact hhp, hS.perm, hL, ?_⟩
  exact hf.then hS.fr (fun k hk h => EntAt.in_foot hL hk h)

/-- the last one taken off -/
theorem perm_last {l : List Ent} {n : Nat} (hn : l.length = n + 1) {x : Ent} (hx : l[n]? = some x) : l.Perm (l.take n ++ [x]) := by
  have h1 : l = l.take n ++ l.drop n := (List.take_append_drop n l).symm
  have h2 : l.drop n = [x] := by
    rw [List.drop_eq_getElem_cons (by omega), List.drop_eq_nil_of_le (by omega)]
    rw [List.getElem?_eq_getElem (by omega)] at hx
    rw [Option.some.inj hx]
  conv => lhs; rw [h1, h2]

set_option maxRecDepth 100000 in
set_option maxHeartbeats 400000 in
theorem hpop_any (w : World) (re rm : Nat) (v : Value) (l : List Ent) (h : EntAt w re rm v l) (hh : IsHeap l l.length) (n : Nat) (hn : l.length = n + 1) (x : Ent) (hx : l[0]? = some x) :
    Calls Tryd.prog 59 #[hv re] w fun e w' => ∃ r v' l', e = .returned r ∧ EntAt w' re rm v' l' ∧ IsHeap l' l'.length ∧ l.Perm (l' ++ [x]) ∧ v'.ownBlock = v.ownBlock ∧ Fr (entFoot re rm v) w w' := by
  have hms := meth_swap re
  have hml := meth_len re
  have hmp := meth_pop re
  have HL := Lib.hid (qlen_any w re rm v l h)
  have ell : ((n + 1 : Nat) : Int) = (n : Int) + 1 := by omega
  rw [hn, ell] at HL
  have hs := h.small
  rw [hn] at hs
  have HA := Lib.hid (qswap_any w re rm v l h 0 n (by omega) (by omega))
  have hsl : (swp l 0 n).length = n + 1 := by rw [swp_length, hn]
  have hd : DnI (swp l 0 n) 0 n := by
    by_cases h0 : 0 < n
    · exact dn_swap (by rw [← hn]; exact hh) hn h0
    · exact ⟨fun k _ hk => by omega, fun k _ hk => by omega⟩
  have hlast : (swp l 0 n)[n]? = some x := by
    by_cases h0 : 0 = n
    · subst h0
      rw [swp_self]
      exact hx
    · obtain ⟨y, hy⟩ : ∃ y, l[n]? = some y := ⟨_, List.getElem?_eq_getElem (by omega)⟩
      rw [swp_get hx hy h0, if_neg (fun e => h0 e.symm), if_pos rfl]
  have HH := Lib.hid (And.intro hd hlast)
  clear h hh hd hlast hx
  go_enter Tryd.func59, Tryd.ntmps59
  go_wp2_with fail
  refine HL.out.mono ?_
  rintro e w1' ⟨rfl, rfl⟩
  have e0 : ((0 : Nat) : Int) = 0 := rfl
  rw [e0] at HA
  go_wp2_with fail
  refine HA.out.mono ?_
  rintro e w1 ⟨rfl, hE, hf⟩
  have HB := Lib.hid (hdown_any w1 re rm v (swp l 0 n) hE 0 n (by omega) (by omega) (by omega) HH.out.1)
  rw [e0] at HB
  have HE := Lib.hid hf
  clear hE hf HA HL
  go_wp2_with fail
  refine HB.out.mono ?_
  rintro e w2 ⟨m, l2, rfl, hS, hm1, hm2⟩
  have hh2 : IsHeap l2 n := by
    cases m with
    | true => exact hm1 rfl
    | false => exact up_done (hm2 rfl) (fun h => absurd h (by omega))
  have hl2 : l2.length = n + 1 := hS.perm.length_eq.trans hsl
  have HC := Lib.hid (qpop_any w2 re rm v l2 hS.ent n hl2)
  have HD := Lib.hid (And.intro hS hh2)
  clear hS hm1 hm2 hh2 HB
  go_wp2_with fail
  refine HC.out.mono ?_
  rintro e w3 ⟨r, v', rfl, hE3, hv3, hf3⟩
  have HF := Lib.hid (And.intro hE3 (And.intro hv3 hf3))
  clear hE3 hv3 hf3 HC
  go_wp2_with fail
  go_ret
  obtain ⟨hE3, hv3, hf3⟩ := HF.out
  obtain ⟨hS, hh2⟩ := HD.out
  have hlt : (l2.take n).length = n := by rw [List.length_take]; omega
  refine ⟨_, v', l2.take n, rfl, hE3, by rw [hlt]; exact heap_take hh2 n (Nat.le_refl _), ?_, hv3, (HE.out.trans hS.fr).trans hf3⟩
  exact ((swp_perm l 0 n).symm.trans hS.perm.symm).trans (perm_last hl2 ((hS.tail n (Nat.le_refl _)).trans HH.out.2))

set_option maxRecDepth 100000 in
set_option maxHeartbeats 400000 in
theorem hremove_any (w : World) (re rm : Nat) (v : Value) (l : List Ent) (h : EntAt w re rm v l) (hh : IsHeap l l.length) (n i : Nat) (hn : l.length = n + 1) (hi : i ≤ n) (x : Ent) (hx : l[i]? = some x) :
    Calls Tryd.prog 53 #[hv re, .int .i64 i] w fun e w' => ∃ r v' l', e = .returned r ∧ EntAt w' re rm v' l' ∧ IsHeap l' l'.length ∧ l.Perm (l' ++ [x]) ∧ v'.ownBlock = v.ownBlock ∧ Fr (entFoot re rm v) w w' := by
  have hms := meth_swap re
  have hml := meth_len re
  have hmp := meth_pop re
  have HL := Lib.hid (qlen_any w re rm v l h)
  have ell : ((n + 1 : Nat) : Int) = (n : Int) + 1 := by omega
  rw [hn, ell] at HL
  have hs := h.small
  rw [hn] at hs
  by_cases hin : n = i
  · have hne : (((n : Int) == (i : Int))) = true := by rw [beq_iff_eq]; omega
    have HC := Lib.hid (qpop_any w re rm v l h n hn)
    have HH := Lib.hid (And.intro hh hx)
    clear h hh hx
    go_enter Tryd.func53, Tryd.ntmps53
    go_wp2_with fail
    refine HL.out.mono ?_
    rintro e w1' ⟨rfl, rfl⟩
    go_wp2_with fail
    refine HC.out.mono ?_
    rintro e w3 ⟨r, v', rfl, hE3, hv3, hf3⟩
    have HF := Lib.hid (And.intro hE3 (And.intro hv3 hf3))
    clear hE3 hv3 hf3 HC
    go_wp2_with fail
    go_ret
    obtain ⟨hE3, hv3, hf3⟩ := HF.out
    have hlt : (l.take n).length = n := by rw [List.length_take]; omega
    refine ⟨_, v', l.take n, rfl, hE3, by rw [hlt]; exact heap_take (n := l.length) HH.out.1 n (by omega), ?_, hv3, hf3⟩
    exact perm_last hn (by rw [hin]; exact HH.out.2)
  · have hne : (((n : Int) == (i : Int))) = false := by rw [beq_eq_false_iff_ne]; omega
    have HA := Lib.hid (qswap_any w re rm v l h i n (by omega) (by omega))
    have hsl : (swp l i n).length = n + 1 := by rw [swp_length, hn]
    have hd : DnI (swp l i n) i n := dn_swap (by rw [← hn]; exact hh) hn (by omega)
    have hlast : (swp l i n)[n]? = some x := by
      obtain ⟨y, hy⟩ : ∃ y, l[n]? = some y := ⟨_, List.getElem?_eq_getElem (by omega)⟩
      rw [swp_get hx hy (fun e => hin e.symm), if_neg hin, if_pos rfl]
    have HH := Lib.hid (And.intro hd hlast)
    clear h hh hd hlast hx
    go_enter Tryd.func53, Tryd.ntmps53
    go_wp2_with fail
    refine HL.out.mono ?_
    rintro e w1' ⟨rfl, rfl⟩
    go_wp2_with fail
    refine HA.out.mono ?_
    rintro e w1 ⟨rfl, hE, hf⟩
    have HB := Lib.hid (hdown_any w1 re rm v (swp l i n) hE i n (by omega) (by omega) (by omega) HH.out.1)
    have HE := Lib.hid hf
    clear hE hf HA HL
    go_wp2_with fail
    refine HB.out.mono ?_
    rintro e w2 ⟨m, l2, rfl, hS, hm1, hm2⟩
    have hl2 : l2.length = n + 1 := hS.perm.length_eq.trans hsl
    cases m with
    | true =>
      have hh2 := hm1 rfl
      have HC := Lib.hid (qpop_any w2 re rm v l2 hS.ent n hl2)
      have HD := Lib.hid (And.intro hS hh2)
      clear hS hm1 hm2 hh2 HB
      go_wp2_with fail
      refine HC.out.mono ?_
      rintro e w3 ⟨r, v', rfl, hE3, hv3, hf3⟩
      have HF := Lib.hid (And.intro hE3 (And.intro hv3 hf3))
      clear hE3 hv3 hf3 HC
      go_wp2_with fail
      go_ret
      obtain ⟨hE3, hv3, hf3⟩ := HF.out
      obtain ⟨hS, hh2⟩ := HD.out
      have hlt : (l2.take n).length = n := by rw [List.length_take]; omega
      refine ⟨_, v', l2.take n, rfl, hE3, by rw [hlt]; exact heap_take hh2 n (Nat.le_refl _), ?_, hv3, (HE.out.trans hS.fr).trans hf3⟩
      exact ((swp_perm l i n).symm.trans hS.perm.symm).trans (perm_last hl2 ((hS.tail n (Nat.le_refl _)).trans HH.out.2))
    | false =>
      have HU := Lib.hid (hup_any w2 re rm v l2 hS.ent i n (by omega) (by omega) (hm2 rfl))
      have HD := Lib.hid hS
      clear hS hm1 hm2 HB
      go_wp2_with fail
      refine HU.out.mono ?_
      rintro e w3 ⟨rfl, l3, hS3, hh3⟩
      have hl3 : l3.length = n + 1 := hS3.perm.length_eq.trans hl2
      have HC := Lib.hid (qpop_any w3 re rm v l3 hS3.ent n hl3)
      have HV := Lib.hid (And.intro hS3 hh3)
      clear hS3 hh3 HU
      go_wp2_with fail
      refine HC.out.mono ?_
      rintro e w4 ⟨r, v', rfl, hE3, hv3, hf3⟩
      have HF := Lib.hid (And.intro hE3 (And.intro hv3 hf3))
      clear hE3 hv3 hf3 HC
      go_wp2_with fail
      go_ret
      obtain ⟨hE3, hv3, hf3⟩ := HF.out
      obtain ⟨hS3, hh3⟩ := HV.out
      have hS := HD.out
      have hlt : (l3.take n).length = n := by rw [List.length_take]; omega
      refine ⟨_, v', l3.take n, rfl, hE3, by rw [hlt]; exact heap_take hh3 n (Nat.le_refl _), ?_, hv3, ((HE.out.trans hS.fr).trans hS3.fr).trans hf3⟩
      exact (((swp_perm l i n).symm.trans hS.perm.symm).trans hS3.perm.symm).trans (perm_last hl3 ((hS3.tail n (Nat.le_refl _)).trans ((hS.tail n (Nat.le_refl _)).trans HH.out.2)))
end Go.Proofs.YtmjbhnkhpgnchaaDoor
