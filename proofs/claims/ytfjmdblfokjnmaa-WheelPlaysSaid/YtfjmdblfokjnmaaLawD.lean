/-
  alive.
-/
import Derived.Test.YtfjmdblfokjnmaaLawC
import Derived.Test.YtfjmdblfokjnmaaWheelB
namespace Go.Proofs.Ytfjmdblfokjnmaa
open Go Go.RowKit

abbrev nmA : ByteArray := ⟨#[97]⟩
abbrev nmB : ByteArray := ⟨#[98]⟩
abbrev nmC : ByteArray := ⟨#[99]⟩

theorem tells_new {S : WSt} (h0 : S.all = []) (h1 : ∀ i, S.get i = []) (hn : S.now < 18446744073709551616) : Tells S [] where
  good := ⟨(fun p hp => by rw [h0] at hp; cases hp), by rw [h0]; exact List.nodup_nil, fun i _ => by rw [h1]; exact List.nodup_nil, fun i _ p => by rw [h1, h0]; simp⟩
  now := hn
  asc := List.Pairwise.nil
  mem p := by rw [h0]

theorem put_foot (S : WSt) (name : ByteArray) (t b : Nat) : (S.put name t).foot b = S.foot b := by
  unfold WSt.put
  rw [set_foot]
  exact drop_foot S name b
theorem put_now (S : WSt) (name : ByteArray) (t : Nat) : (S.put name t).now = S.now := by
  unfold WSt.put
  rw [set_now]
  exact drop_now S name

theorem al_slot : slotL 5 33 [(nmA, 7), (nmB, 300)] = [(nmB, 300)] := by decide +kernel
theorem al_due : DueSays [(nmA, 7), (nmB, 300)] 7 1 := by
  refine ⟨by simp, ?_, ?_⟩
  · intro j p hj hp
    obtain rfl : j = 0 := by omega
    simp at hp
    subst hp
    simp
  · intro p hp
    simp at hp
    subst hp
    simp

set_option maxRecDepth 100000 in
set_option maxHeartbeats 1000000 in
theorem alive_any (w : World) : Calls Try.prog 18 #[] w fun e w' => e = .returned (.bool true) ∧ RowKit.Below w.heap.size w w' := by
  have HN := Lib.hid (new_any w 5)
  go_enter Try.func18, Try.ntmps18
  go_wp2_with fail
  refine HN.out.mono ?_
  rintro e w1 ⟨S, rfl, hw1, hnow, hall, hget, hB1, hfo⟩
  have hT0 := tells_new hall hget (by omega)
  generalize w.heap.size + 2 = b at hw1 hfo ⊢
  clear HN
  -- Put a 7
  have HP := Lib.hid (put_yes len64_says w1 b S nmA 7 hw1 hT0.good.above (by omega) (by omega))
  go_wp2_with fail
  refine HP.out.mono ?_
  rintro e w2 ⟨rfl, hw2, hf2⟩
  have hT1 : Tells (S.put nmA 7) [(nmA, 7)] := hT0.put (by omega) (by omega) (by simp [dropL]) (by simp [Asc])
  have hn1 : (S.put nmA 7).now = 5 := (put_now S nmA 7).trans hnow
  have hfo1 : ∀ k, (S.put nmA 7).foot b k → w.heap.size ≤ k := by rw [put_foot]; exact hfo
  have hB2 : RowKit.Below w.heap.size w w2 := hB1.trans (hf2.below (fun k hk hc => by have := hfo k hc; omega) hB1.size)
  generalize S.put nmA 7 = S1 at hT1 hn1 hfo1 hw2
  clear HP hw1 hf2 hT0 hfo hB1 hall hget hnow
  -- Put b 300
  have HP := Lib.hid (put_yes len64_says w2 b S1 nmB 300 hw2 hT1.good.above (by omega) (by omega))
  go_wp2_with fail
  refine HP.out.mono ?_
  rintro e w3 ⟨rfl, hw3, hf3⟩
  have hT2 : Tells (S1.put nmB 300) [(nmA, 7), (nmB, 300)] := hT1.put (by omega) (by omega) (by decide +kernel) (by unfold Asc; decide +kernel)
  have hn2 : (S1.put nmB 300).now = 5 := (put_now S1 nmB 300).trans hn1
  have hfo2 : ∀ k, (S1.put nmB 300).foot b k → w.heap.size ≤ k := by rw [put_foot]; exact hfo1
  have hB3 : RowKit.Below w.heap.size w w3 := hB2.trans (hf3.below (fun k hk hc => by have := hfo1 k hc; omega) hB2.size)
  generalize S1.put nmB 300 = S2 at hT2 hn2 hfo2 hw3
  clear HP hw2 hf3 hT1 hfo1 hB2 hn1
  -- Put c 5
  have HP := Lib.hid (put_no w3 b S2 nmC 5 hw3 (by omega))
  go_wp2_with fail
  refine HP.out.mono ?_
  rintro e w' ⟨rfl, rfl⟩
  clear HP
  -- Slot(2, 1)
  have hgl : (S2.get 33).length ≤ 1000000 := by
    have := hT2.good.le (i := 33) (by omega)
    have := hT2.len
    simp at this
    omega
  have HP := Lib.hid (slot_in w3 b S2 2 1 hw3 (by omega) (by omega) hgl)
  go_wp2_with fail
  refine HP.out.mono ?_
  rintro e w4 ⟨v1, l, rfl, hp, ha, ho1, hB4⟩
  have hl1 := hT2.slot (i := 33) (by omega) hp ha
  rw [hn2, al_slot] at hl1
  subst hl1
  have hB5 := hB3.trans (hB4.mono hB3.size)
  have hw4 := hw3.below hB4
  have hft : ∀ k, S2.foot b k → k < w3.heap.size := fun k hk => hw3.foot_lt hk
  clear HP hp ha hB4 hB3 hw3 hgl
  -- Advance(7)
  have HP := Lib.hid (advance_pair w4 b S2 _ 7 hw4 hT2 (by omega) (by omega) (by simp))
  go_wp2_with fail
  refine HP.out.mono ?_
  rintro e w5 ⟨v2, l2, S3, rfl, ho2, hw5, hf5, hn3, hfo3, hdue⟩
  obtain ⟨hl2, hT3⟩ := hdue 1 al_due
  have hl2' : l2 = [(nmA, 7)] := hl2
  subst hl2'
  have hlen3 : S3.all.length = 1 := by
    have := hT3.len
    simpa using this.symm
  have hB6 : RowKit.Below w.heap.size w w5 := hB5.trans (hf5.below (fun k hk hc => by have := hfo2 k hc; omega) hB5.size)
  have ho3 := OwnS.fr ho1 hf5 (fun g hg hc => by
    have h1 := (OwnS.lt ho1 g hg).1
    have h2 := hft g hc
    omega)
  obtain ⟨a1, c1, rfl, _, hc1⟩ := (OwnS.at ho3).view
  obtain ⟨g1, o1, rfl, hs1, _⟩ := hc1 0 _ rfl
  obtain ⟨a2, c2, rfl, _, hc2⟩ := (OwnS.at ho2).view
  obtain ⟨g2, o2, rfl, hs2, _⟩ := hc2 0 _ rfl
  have HC := Lib.hid (clock_any w5 b S3 hw5)
  have HL := Lib.hid (len_any w5 b S3 hw5)
  rw [hlen3] at HL
  rw [hn3] at HC
  have HB := Lib.hid hB6
  rw [Nat.zero_mul, Nat.add_zero] at hs1 hs2
  clear hB6 hB5 hw5 hw4 hf5 hfo3 hdue hT3 hT2 hl2 hc1 hc2 ho1 ho2 ho3 hft hfo2 HP hlen3
  go_wp2_with fail
  refine HC.out.mono ?_
  rintro e w' ⟨rfl, rfl⟩
  go_wp2_with fail
  refine HL.out.mono ?_
  rintro e w' ⟨rfl, rfl⟩
  go_wp2
  go_ret
  exact ⟨rfl, HB.out⟩
end Go.Proofs.Ytfjmdblfokjnmaa
