/-
  maps.Values and slices.Collect over a set's deadlines.
-/
import Derived.Test.YtfjmdblfokjnmaaSorted
import Derived.RangeFuncBox
import Derived.RangeFuncNested
import Derived.RangeFuncBound
import Derived.RangeFuncCalls
import Derived.RangeFuncLeaves
import Derived.Shelf.Abstract
import Derived.OwnWalkIn
import Derived.TacticsInMore
import Derived.LoopNIn
import Derived.LoopIn
import Derived.Maps.AppendAt
import Derived.Sort.MapsRangeIn
namespace Go.Proofs.Ytfjmdblfokjnmaa
open Go Go.RowKit Go.Shelf

attribute [local go_sem] Oper.semAt_some

/-! the range over a map, inside a fence -/
section
variable {F : Fence} {nf : Nat} {P : Program} {κ υ : Type} {ek : κ → Value} {ev : υ → Value} {w w' : World} {r : Nat} {L : List (κ × υ)} {T kt et : TypeId}
  {ops : Array Oper} {rest : List Oper} {o : Oper} {a : Act} {Q : Exit → Act → World → Prop}

theorem wplIn_range (hg : o.guard = none) (m : Operand) (hop : o.op = Op.range T m) (ht : P.underlying T = some (.map kt et))
    (hM : IsMap ek ev w r L) (hm : a.eval m = .map (some r))
    (hK : ∀ w', w.grownBy w' none → w'.heap.size = w.heap.size + 1 → IterAt ek ev w' w.heap.size r L L → wpListIn F nf P ops Q rest (a.put o.dst (.pointer (some ⟨w.heap.size, 0, none⟩))) w') : wpListIn F nf P ops Q (o :: rest) a w := by
  refine wpListIn_plain hg fun K' hK' => ?_
  obtain ⟨ob, hrun, r1⟩ := run_range_map (P := P) ht hM
  unfold Oper.wpIn
  refine ⟨by simp [Oper.about, hop], ?_⟩
  rw [Oper.semAt_plain F _ _ (by rw [hop]; intro c hc'; cases hc')]
  simp [execOp, hop, hm, hrun, Result.andThen]
  exact hK' _ _ (hK (w.alloc ob) (World.grownBy_alloc w ob none) (World.size_alloc ..) r1)

theorem wplIn_next (hg : o.guard = none) (i : Operand) (hop : o.op = Op.next i false) {it : Nat} {left : List (κ × υ)} (hit : a.eval i = .pointer (some ⟨it, 0, none⟩))
    (h : IterAt ek ev w it r L left) (hne : it ≠ r)
    (hDone : left = [] → wpListIn F nf P ops Q rest (a.put o.dst (.tuple #[.bool false])) w)
    (hMore : ∀ p l1 l2 w', left = l1 ++ p :: l2 → w.grownBy w' (some it) → w'.heap.size = w.heap.size → IterAt ek ev w' it r L (l1 ++ l2) →
      (Instr.entry (.pointer (some ⟨it, 0, none⟩))).run P w' = .ok (.tuple #[ek p.1, ev p.2]) w' → wpListIn F nf P ops Q rest (a.put o.dst (.tuple #[.bool true, ek p.1, ev p.2])) w') : wpListIn F nf P ops Q (o :: rest) a w := by
  refine wpListIn_plain hg fun K' hK' => ?_
  unfold Oper.wpIn
  refine ⟨by simp [Oper.about, hop], ?_⟩
  rw [Oper.semAt_plain F _ _ (by rw [hop]; intro c hc'; cases hc')]
  rcases run_next_map (P := P) h hne o.type with ⟨h0, hrun⟩ | ⟨p, l1, l2, w', hl, hrun, hf, hsz, hit', hen⟩
  · simp [execOp, hop, hit, hrun, Result.andThen]
    exact hK' _ _ (hDone h0)
  · simp [execOp, hop, hit, hrun, Result.andThen]
    exact hK' _ _ (hMore p l1 l2 w' hl ⟨hf.os, hf.tape, hf.output, hf.size, fun k hk hne => hf.block k hk (fun e => hne (by rw [e]))⟩ hsz hit' hen)

/-- how many are still to come, read off the world -/
def iterLeft (w : World) (it r : Nat) : Nat :=
  match w.heap[r]?, w.heap[it]? with
  | some (.map es _), some (.mapIter _ _ seen _) => (es.toList.filter fun e => !seen.contains e.born).length
  | _, _ => 0

theorem IterAt.left_eq {it : Nat} {left : List (κ × υ)} (h : IterAt ek ev w it r L left) : iterLeft w it r = left.length := by
  obtain ⟨es, clock, seen, h1, h2, h3, h4, h5, h6, h7⟩ := h
  have := congrArg List.length h7
  simp only [List.length_map] at this
  unfold iterLeft
  rw [h1, h6]
  exact this

theorem IterAt.of_walks {it : Nat} {left : List (κ × υ)} (h : IterAt ek ev w it r L left) (hk : KeepsWalks w w') : IterAt ek ev w' it r L left := by
  obtain ⟨es, clock, seen, h1, h2, h3, h4, h5, h6, h7⟩ := h
  exact ⟨es, clock, seen, hk.same r _ h1 rfl, h2, h3, h4, h5, hk.same it _ h6 rfl, h7⟩

theorem IterAt.iter_walk {it : Nat} {left : List (κ × υ)} (h : IterAt ek ev w it r L left) : ∃ o : Obj, w.heap[it]? = some o ∧ o.isWalk = true := by
  obtain ⟨es, clock, seen, h1, h2, h3, h4, h5, h6, h7⟩ := h
  exact ⟨_, h6, rfl⟩
end

set_option maxRecDepth 100000 in
set_option maxHeartbeats 1000000 in
/-- maps.Values' iterator, for every loop body. -/
theorem values1_in (F : Fence) (n : Nat) (h8 : F.fn 37) (hro : F.round = none) (hn : 1 ≤ n) (l Bm b : Nat) (L : List (ByteArray × Nat)) (J Jx : List Nat → World → Prop)
    (hY : ∀ pre x W, J pre W → pre.length < L.length → YieldAt F (n - 1) Try.prog l #[u64v x] W fun e W' =>
      (e = .returned (.bool true) ∧ J (pre ++ [x]) W' ∧ KeepsWalks W W') ∨ (e = .returned (.bool false) ∧ Jx (pre ++ [x]) W'))
    (W : World) (hJ : AbidesFrom W.heap.size J) (hm : W.cell? ⟨Bm, 0, none⟩ = some (.map (some b))) (hown : IsMap Value.string u64v W b L) (h0 : J [] W) :
    CallsIn F n Try.prog 37 #[.func (.yield l) #[] #[], .pointer (some ⟨Bm, 0, none⟩)] W fun e W' => (∃ v, e = .returned v) ∧
      ((∃ xs, xs.Perm (L.map (·.2)) ∧ J xs W') ∨ (∃ pre, True ∧ Jx pre W')) := by
  have hblt := hown.lt
  refine callsIn_of_wp Try.func37 rfl h8 ?_ hro
  simp only [Try.ntmps37, List.size_toArray, List.length_cons, List.length_nil, Nat.reduceAdd, Nat.reduceSub, Array.replicate_succ, Array.replicate_zero, List.push_toArray, List.append_toArray, List.nil_append, List.cons_append]
  gi_wp2_with (first
    | (gi_at_range; refine wplIn_range rfl _ rfl Try.underlying50 hown rfl ?_; intro w0 hg0 hs0 hit0)
    | gi_in)
  go_frame
  gi_loopw [4] (fun _ wr => ∃ (got left : List (ByteArray × Nat)), IterAt Value.string u64v wr W.heap.size b L left ∧ (got ++ left).Perm L ∧ J (got.map (·.2)) wr)
    (fun _ wr => iterLeft wr W.heap.size b)
  case atStart =>
    exact ⟨[], L, hit0, List.Perm.refl _, hJ [] W w0 none h0 hg0 (fun r e => by cases e)⟩
  case round =>
    obtain ⟨got, left, hrg, hperm, hJs⟩ := hrel
    gi_wp2_with (first
      | (gi_at_next; refine At.stop ?_)
      | gi_in)
    refine At.go (wplIn_next rfl _ rfl rfl hrg (by omega) ?_ ?_)
    · -- nothing is left
      intro hl0
      subst hl0
      rw [List.append_nil] at hperm
      gi_wp2
      go_end0
      exact ⟨⟨_, rfl⟩, .inl ⟨_, hperm.map _, hJs⟩⟩
    · -- one has come
      intro p l1 l2 w2 hl1 hg2 hs2 hrg2 hen
      have hJ2 : J (got.map (·.2)) w2 := hJ _ wr w2 (some W.heap.size) hJs hg2 (fun r e => by cases e; exact ⟨Nat.le_refl _, hrg.iter_walk⟩)
      have hlen := hperm.length_eq
      have hlt : (got.map (·.2)).length < L.length := by
        rw [hl1] at hlen
        simp at hlen ⊢
        omega
      have hmeas : (l1 ++ l2).length < left.length := by rw [hl1]; simp
      have HP := Lib.hid (show (got ++ [p] ++ (l1 ++ l2)).Perm L from by
        refine List.Perm.trans ?_ hperm
        rw [hl1, List.append_assoc]
        refine List.Perm.append_left _ ?_
        simp only [List.singleton_append]
        exact List.perm_middle.symm)
      obtain ⟨fn, tmps, assign, body, hy, hR⟩ := hY (got.map (·.2)) p.2 w2 hJ2 hlt
      clear hs2 hlen hl1 hperm
      gi_wp2
      refine hR.mono ?_
      rintro e W3 (⟨rfl, hJ3, hk3⟩ | ⟨rfl, hJx3⟩)
      · gi_wp2
        have hrg3 := hrg2.of_walks hk3
        go_roundw
        case rel => exact ⟨got ++ [p], l1 ++ l2, hrg3, HP.out, by simpa using hJ3⟩
        case measure => rw [hrg3.left_eq, hrg.left_eq]; exact hmeas
      · gi_wp2
        refine bodyPost_ret (results_none rfl _ _ _) rfl ?_
        exact ⟨⟨_, rfl⟩, .inr ⟨_, trivial, hJx3⟩⟩
end Go.Proofs.Ytfjmdblfokjnmaa
