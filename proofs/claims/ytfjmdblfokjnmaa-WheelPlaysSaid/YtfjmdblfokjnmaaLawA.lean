/-
  The law's own functions: same, later, tick.
-/
import Derived.Test.YtfjmdblfokjnmaaRefE
namespace Go.Proofs.Ytfjmdblfokjnmaa
open Go Go.RowKit

set_option maxRecDepth 100000 in
set_option maxHeartbeats 400000 in
theorem same_eq (w : World) (va vb : Value) (l : List (ByteArray × Nat)) (ha : SlAt encT 2 60 w va l) (hb : SlAt encT 2 45 w vb l) (hl : l.length ≤ 1000000) :
    Calls Try.prog 10 #[va, vb] w fun e w' => e = .returned (.bool true) ∧ ∃ n, w' = w.drewN n := by
  obtain ⟨aa, ca, rfl, _, hca⟩ := ha.view
  obtain ⟨ab, cb, rfl, _, hcb⟩ := hb.view
  have HC := Lib.hid (And.intro hca hcb)
  clear hca hcb ha hb
  go_enter Try.func10, Try.ntmps10
  go_wp2
  go_loopg [5] l.length (fun n i wr => ∃ k : Nat, k + n = l.length ∧ i = .int .i64 k ∧ ∃ d, wr = w.drewN d)
  case atStart => exact ⟨0, by omega, rfl, 0, rfl⟩
  case round =>
    obtain ⟨k, hk, rfl, d, rfl⟩ := hrel
    by_cases hlt : k < l.length
    · have hi0 : (k : Int) < (l.length : Int) := by omega
      obtain ⟨p, hp⟩ : ∃ p, l[k]? = some p := ⟨_, List.getElem?_eq_getElem hlt⟩
      obtain ⟨g, off, rfl, hc0, hc1⟩ := HC.out.1 k p hp
      obtain ⟨g2, off2, rfl, hd0, hd1⟩ := HC.out.2 k p hp
      have e1 : (p.1.toList == p.1.toList) = true := beq_self_eq_true _
      have e2 : ((p.2 : Int) == (p.2 : Int)) = true := beq_self_eq_true _
      clear hp
      go_wp2
      go_quiet (fail)
      go_wp2
      go_roundg (l.length - (k + 1))
      case measure => omega
      case rel => exact ⟨k + 1, by omega, by go_num, d + nq, rfl⟩
    · obtain rfl : k = l.length := by omega
      go_wp2
      go_ret
      exact ⟨rfl, d, rfl⟩

/-- so many ticks behind one, as far as there are ticks -/
def laterN (now by_ : Nat) : Nat := if 18446744073709551615 - now < by_ then 18446744073709551615 else now + by_
theorem laterN_lt {now by_ : Nat} (h1 : now < 18446744073709551616) : laterN now by_ < 18446744073709551616 := by
  unfold laterN; split <;> omega

set_option maxRecDepth 100000 in
set_option maxHeartbeats 400000 in
theorem later_any (w : World) (now by_ : Nat) (h1 : now < 18446744073709551616) (h2 : by_ < 18446744073709551616) :
    Calls Try.prog 19 #[.int .u64 now, .int .u64 by_] w fun e w' => e = .returned (.int .u64 (laterN now by_)) ∧ w' = w := by
  have HL := Lib.hid (show laterN now by_ = if 18446744073709551615 - now < by_ then 18446744073709551615 else now + by_ from rfl)
  generalize laterN now by_ = res at HL ⊢
  by_cases h : 18446744073709551615 - now < by_
  · have hd : decide ((18446744073709551615 : Int) - (now : Int) < (by_ : Int)) = true := by simp; omega
    go_enter Try.func19, Try.ntmps19
    go_wp2
    go_ret
    rw [HL.out, if_pos h]
    exact ⟨rfl, rfl⟩
  · have hd : decide ((18446744073709551615 : Int) - (now : Int) < (by_ : Int)) = false := by simp; omega
    go_enter Try.func19, Try.ntmps19
    go_wp2
    go_ret
    rw [HL.out, if_neg h]
    exact ⟨by simp, rfl⟩

/-- an act of the script, as it lies in memory -/
structure ActV where
  kind : Int
  name : ByteArray
  at_ : Nat
  by_ : Nat
def encAct (x : ActV) : List Value := [.int .i64 x.kind, .string x.name, .int .u64 x.at_, .int .u64 x.by_]
def ActV.ok (x : ActV) : Prop := -9223372036854775808 ≤ x.kind ∧ x.kind ≤ 9223372036854775807 ∧ x.at_ < 18446744073709551616 ∧ x.by_ < 18446744073709551616

end Go.Proofs.Ytfjmdblfokjnmaa
