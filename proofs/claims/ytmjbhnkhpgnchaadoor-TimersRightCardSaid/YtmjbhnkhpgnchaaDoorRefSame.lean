/-
  The documents' Same.
-/
import Derived.Test.YtmjbhnkhpgnchaaDoorRefTen
import Derived.Deep.RegionHeld3
namespace Go.Proofs.YtmjbhnkhpgnchaaDoor
open Go Go.RowKit

theorem drewN_add (w : World) (d n : Nat) : (w.drewN d).drewN n = w.drewN (d + n) := World.drewN_drewN ..

set_option maxRecDepth 100000 in
set_option maxHeartbeats 1000000 in
theorem sameS_any (w : World) (va vb : Value) (xs ys : List Stp) (ha : RdSt w va xs) (hb : RdSt w vb ys) (hl : xs.length ≤ 1000000) :
    Calls Tryd.prog 20 #[va, vb] w fun e w' => e = .returned (.bool (decide (xs = ys))) ∧ ∃ n, w' = w.drewN n := by
  obtain ⟨aa, ca, rfl, _, hca⟩ := ha
  obtain ⟨ab, cb, rfl, _, hcb⟩ := hb
  have HC := Lib.hid (And.intro hca hcb)
  clear hca hcb
  by_cases hlen : xs.length = ys.length
  · rw [← hlen]
    have HL := Lib.hid hlen
    clear hlen
    go_enter Tryd.func20, Tryd.ntmps20
    go_wp2_with fail
    go_loopg [5] xs.length (fun n i wr => ∃ k : Nat, k + n = xs.length ∧ i = .int .i64 k ∧ (∀ j, j < k → xs[j]? = ys[j]?) ∧ ∃ d, wr = w.drewN d)
    case atStart => exact ⟨0, by omega, rfl, fun j h => by omega, 0, rfl⟩
    case round =>
      obtain ⟨k, hk, rfl, hj, d, rfl⟩ := hrel
      have HJ := Lib.hid hj
      clear hj
      by_cases hlt : k < xs.length
      · have hi0 : (k : Int) < (xs.length : Int) := by omega
        obtain ⟨p, hp⟩ : ∃ p, xs[k]? = some p := ⟨_, List.getElem?_eq_getElem hlt⟩
        obtain ⟨q, hq⟩ : ∃ p, ys[k]? = some p := ⟨_, List.getElem?_eq_getElem (by have := HL.out; omega)⟩
        obtain ⟨g, off, rfl, _, hc⟩ := HC.out.1 k p hp
        obtain ⟨g2, off2, rfl, _, hd⟩ := HC.out.2 k q hq
        have c0 := hc 0 _ rfl
        have c1 := hc 1 _ rfl
        have c2 := hc 2 _ rfl
        have c3 := hc 3 _ rfl
        have d0 := hd 0 _ rfl
        have d1 := hd 1 _ rfl
        have d2 := hd 2 _ rfl
        have d3 := hd 3 _ rfl
        rw [Nat.add_zero] at c0 d0
        have HP := Lib.hid (And.intro hp hq)
        clear hp hq hc hd
        have hne := fun w => stp_ne w p q
        unfold stpV at hne
        obtain ⟨db, hdb⟩ : ∃ db, db = decide (p = q) := ⟨_, rfl⟩
        rw [← hdb] at hne
        have HDB := Lib.hid hdb
        clear hdb
        go_wp2
        go_quiet (fail)
        cases db with
        | true =>
          have hpq : p = q := of_decide_eq_true HDB.out.symm
          have HPQ := Lib.hid hpq
          clear hpq
          go_wp2
          go_roundg (xs.length - (k + 1))
          case measure => omega
          case rel =>
            refine ⟨k + 1, by omega, by go_num, fun j hj => ?_, d + nq, rfl⟩
            by_cases hjk : j < k
            · exact HJ.out j hjk
            · obtain rfl : j = k := by omega
              rw [HP.out.1, HP.out.2, HPQ.out]
        | false =>
          have hpq : ¬ p = q := of_decide_eq_false HDB.out.symm
          have HPQ := Lib.hid hpq
          clear hpq
          go_wp2
          go_ret
          refine ⟨?_, d + nq, drewN_add w d nq⟩
          have hx : ¬ xs = ys := fun e => HPQ.out (by
            have h1 := HP.out.1
            rw [e, HP.out.2] at h1
            exact (Option.some.inj h1).symm)
          rw [decide_eq_false hx]
          rfl
      · obtain rfl : k = xs.length := by omega
        go_wp2_with fail
        go_ret
        refine ⟨?_, d, rfl⟩
        have : xs = ys := List.ext_getElem? fun j => by
          by_cases h : j < xs.length
          · exact HJ.out j h
          · rw [List.getElem?_eq_none (by omega), List.getElem?_eq_none (by have := HL.out; omega)]
        rw [decide_eq_true this]
        rfl
  · have hne : ((xs.length : Int) == (ys.length : Int)) = false := by simp; omega
    have hd : decide (xs = ys) = false := by simp; intro e; exact hlen (by rw [e])
    rw [hd]
    go_enter Tryd.func20, Tryd.ntmps20
    go_wp2_with fail
    go_ret
    exact ⟨rfl, 0, rfl⟩

def sameT (a b : Tm) : Bool := decide (a.do_ = b.do_) && (decide (a.name = b.name) && (decide (a.ver = b.ver) && (decide (a.at_ = b.at_) && decide (a.every = b.every))))

theorem sameT_iff (a b : Tm) : sameT a b = true ↔ a = b := by
  unfold sameT
  obtain ⟨a1, a2, a3, a4, a5⟩ := a
  obtain ⟨b1, b2, b3, b4, b5⟩ := b
  simp
  constructor
  · rintro ⟨h1, h2, h3, h4, h5⟩; exact ⟨h2, h3, h4, h5, h1⟩
  · rintro ⟨h1, h2, h3, h4, h5⟩; exact ⟨h5, h1, h2, h3, h4⟩

set_option maxRecDepth 100000 in
set_option maxHeartbeats 1000000 in
theorem sameT_any (w : World) (a b : Tm) (da db : Value) (ha : RdSt w da a.do_) (hb : RdSt w db b.do_) (hl : a.do_.length ≤ 1000000) :
    Calls Tryd.prog 9 #[tmV a da, tmV b db] w fun e w' => e = .returned (.bool (sameT a b)) ∧ RowKit.Below w.heap.size w w' := by
  obtain ⟨sa, sc, hsv, _⟩ : ∃ sa sc, da = .slice sa a.do_.length sc ∧ True := by
    obtain ⟨sa, sc, h1, _⟩ := ha
    exact ⟨sa, sc, h1, trivial⟩
  obtain ⟨ta, tc, htv, _⟩ : ∃ sa sc, db = .slice sa b.do_.length sc ∧ True := by
    obtain ⟨sa, sc, h1, _⟩ := hb
    exact ⟨sa, sc, h1, trivial⟩
  have HC := Lib.hid (fun x y => sameS_any ((w.alloc x).alloc y) da db a.do_ b.do_ (ha.move (((Fr.refl _ w).alloc x).alloc y)) (hb.move (((Fr.refl _ w).alloc x).alloc y)) hl)
  have HB := Lib.hid (show ∀ x y n, RowKit.Below w.heap.size w (((w.alloc x).alloc y).drewN n) from fun x y n => below_drewN (((RowKit.Below.refl _ w).alloc (Nat.le_refl _) x).alloc (by rw [World.size_alloc]; omega) y) n)
  have h5 : (tmV a da) = .agg #[.string a.name, .int .i64 a.ver, .int .u64 a.at_, .int .u64 a.every, .slice sa a.do_.length sc] := by rw [hsv]
  have h6 : (tmV b db) = .agg #[.string b.name, .int .i64 b.ver, .int .u64 b.at_, .int .u64 b.every, .slice ta b.do_.length tc] := by rw [htv]
  rw [h5, h6]
  rw [hsv, htv] at HC
  clear ha hb hl h5 h6 hsv htv
  have HS := Lib.hid (show sameT a b = (decide (a.do_ = b.do_) && ((a.name.toList == b.name.toList) && ((a.ver == b.ver) && (((a.at_ : Int) == (b.at_ : Int)) && ((a.every : Int) == (b.every : Int)))))) by
    unfold sameT
    rw [bytes_beq, Bool.eq_iff_iff]
    simp
    intros
    omega)
  generalize decide (a.do_ = b.do_) = nb at HC HS
  generalize sameT a b = st at HS ⊢
  go_enter Tryd.func9, Tryd.ntmps9
  go_wp2_with fail
  refine (HC.out _ _).mono ?_
  rintro e w3 ⟨rfl, n, rfl⟩
  cases nb <;> go_wp2_with fail
  all_goals
    go_ret
    refine ⟨congrArg (fun b => Ending.returned (Value.bool b)) ?_, HB.out _ _ n⟩
    rw [HS.out]
    first
      | rfl
      | (simp; done)
      | (simp_all; done)
      | (simp_all; omega)
      | (rw [Bool.eq_iff_iff]; simp_all; omega)
end Go.Proofs.YtmjbhnkhpgnchaaDoor
