/-
  The reference's functions on a list of entries: Drop.
-/
import Derived.Test.YtfjmdblfokjnmaaRefA
namespace Go.Proofs.Ytfjmdblfokjnmaa
open Go Go.RowKit

/-- an own slice of entries -/
def OwnE (base : Nat) (w : World) (v : Value) (l : List (ByteArray × Nat)) : Prop := OwnS encT 2 45 base w v l

theorem info_entry : (Try.prog.info? 45).map (fun i => (i.zero, i.size, i.bytes)) = some (some (.agg #[.string ByteArray.empty, .int .u64 0]), 2, 24) := by kernel_rfl

def dropL (xs : List (ByteArray × Nat)) (name : ByteArray) : List (ByteArray × Nat) := xs.filter fun p => decide (p.1 ≠ name)

theorem dropL_take {xs : List (ByteArray × Nat)} {k : Nat} {p : ByteArray × Nat} (h : xs[k]? = some p) (name : ByteArray) :
    dropL (xs.take (k + 1)) name = if p.1 = name then dropL (xs.take k) name else dropL (xs.take k) name ++ [p] := by
  unfold dropL
  rw [List.take_add_one, h, List.filter_append]
  split <;> simp [*]

/-- two cells read as one struct -/
theorem two_cells {w : World} {g o : Nat} {p : ByteArray × Nat} (h0 : w.cell? ⟨g, o, none⟩ = some (.string p.1)) (h1 : w.cell? ⟨g, o + 1, none⟩ = some (.int .u64 p.2)) :
    ∀ j v, ([.string p.1, .int .u64 p.2] : List Value)[j]? = some v → w.cell? ⟨g, o + j, none⟩ = some v := by
  intro j v hj
  match j with
  | 0 => simpa using h0.trans (by simpa using hj)
  | 1 => simpa using h1.trans (by simpa using hj)
  | n + 2 => simp at hj

set_option maxRecDepth 100000 in
set_option maxHeartbeats 400000 in
theorem ref_dropL (w : World) (v : Value) (xs : List (ByteArray × Nat)) (name : ByteArray) (h : SlAt encT 2 45 w v xs) (hl : xs.length ≤ 1000000) :
    Calls Try.prog 23 #[v, .string name] w fun e w' => ∃ v', e = .returned v' ∧ OwnE w.heap.size w' v' (dropL xs name) ∧ RowKit.Below w.heap.size w w' := by
  obtain ⟨a, cap, hv, _, hcell⟩ := h.view
  have hlt : ∀ g off, a = some ⟨g, off, none⟩ → g < w.heap.size := fun g off e => h.lt ⟨off, xs.length, cap, by rw [hv, e]⟩
  subst hv
  have HC := Lib.hid (And.intro hcell hlt)
  clear hcell hlt h
  go_enter Try.func23, Try.ntmps23
  go_wp2
  go_loopg [5, 6] xs.length (fun n u i wr => ∃ k : Nat, k + n = xs.length ∧ i = .int .i64 k ∧ OwnE w.heap.size wr u (dropL (xs.take k) name) ∧ RowKit.Below w.heap.size w wr)
  case atStart => exact ⟨0, by omega, rfl, OwnS.nil, RowKit.Below.refl _ _⟩
  case round =>
    obtain ⟨k, hk, rfl, ho, hB⟩ := hrel
    by_cases hlt : k < xs.length
    · obtain ⟨p, hp⟩ : ∃ p, xs[k]? = some p := ⟨_, List.getElem?_eq_getElem hlt⟩
      obtain ⟨g, off, rfl, hc0, hc1⟩ := HC.out.1 k p hp
      have hg := HC.out.2 g off rfl
      have hd0 := ((Fr.of_below hB).cell (p := ⟨g, off + k * 2, none⟩) hg (show ¬ w.heap.size ≤ g by omega)).trans hc0
      have hd1 := ((Fr.of_below hB).cell (p := ⟨g, off + k * 2 + 1, none⟩) hg (show ¬ w.heap.size ≤ g by omega)).trans hc1
      have HD := Lib.hid (dropL_take hp name)
      clear hc0 hc1 hp
      by_cases he : p.1 = name
      · have hb : (p.1.toList == name.toList) = true := by rw [he]; exact beq_self_eq_true _
        have HS := Lib.hid (show OwnE w.heap.size wr u5 (dropL (xs.take (k + 1)) name) ∧ RowKit.Below w.heap.size w wr by
          rw [HD.out, if_pos he]; exact ⟨ho, hB⟩)
        clear ho hB HD
        go_wp2
        go_roundg (xs.length - (k + 1))
        case measure => omega
        case rel => exact ⟨k + 1, by omega, by go_num, HS.out⟩
      · have hb : (p.1.toList == name.toList) = false := str_ne he
        have hE := HD.out
        rw [if_neg he] at hE
        have HE := Lib.hid hE
        have hsz := hB.size
        have hlen : (dropL (xs.take k) name).length ≤ 1000000 := by
          unfold dropL
          refine Nat.le_trans (List.length_filter_le _ _) ?_
          rw [List.length_take]
          omega
        clear HD hE
        go_wp2_with (with_reducible refine wpl_load_stop rfl 45 _ rfl ?_)
        refine At.go (wpl_load_agg rfl 45 _ rfl g (off + k * 2) rfl [.string p.1, .int .u64 p.2] Try.underlying45 rfl (by kernel_rfl) (two_cells hd0 hd1) ?_)
        go_wp2_with (first | (at_delete; refine At.stop ?_) | (at_mapUpdate; refine At.stop ?_) | (at_lookup; refine At.stop ?_) | (at_range; refine At.stop ?_) | (at_next; refine At.stop ?_) | (at_builtin; refine At.stop ?_))
        refine At.go (wpl_append1 rfl _ _ _ rfl Try.underlying27 info_entry rfl (by omega) rfl (OwnS.alloc ho _) wr.heap.size 1 rfl p rfl ?_ (encT_cells p) (by unfold maxLen; omega) (by omega) (by simp; omega) ?_)
        · exact (Go.MapKept.heap_alloc wr _).1
        intro v' w3 ho3 hf3
        have hf3' : Fr (fun g => u5.ownBlock = some g) wr w3 := ((Fr.refl _ wr).alloc _).trans hf3
        have hB3 : RowKit.Below w.heap.size w w3 := hB.trans (hf3'.below (fun k hk e => by have := (OwnS.lt ho _ e).1; omega) (by omega))
        have HS := Lib.hid (show OwnE w.heap.size w3 v' (dropL (xs.take (k + 1)) name) ∧ RowKit.Below w.heap.size w w3 by
          rw [HE.out]; exact ⟨ho3, hB3⟩)
        clear ho3 hf3 hf3' hB3 ho hB
        go_wp2_with (first | (at_delete; refine At.stop ?_) | (at_mapUpdate; refine At.stop ?_) | (at_lookup; refine At.stop ?_) | (at_range; refine At.stop ?_) | (at_next; refine At.stop ?_) | (at_builtin; refine At.stop ?_))
        go_roundg (xs.length - (k + 1))
        case measure => omega
        case rel => exact ⟨k + 1, by omega, by go_num, HS.out⟩
    · obtain rfl : k = xs.length := by omega
      rw [List.take_length] at ho
      have HF := Lib.hid (And.intro ho hB)
      clear ho hB
      go_wp2
      go_ret
      exact ⟨_, rfl, HF.out⟩
end Go.Proofs.Ytfjmdblfokjnmaa
