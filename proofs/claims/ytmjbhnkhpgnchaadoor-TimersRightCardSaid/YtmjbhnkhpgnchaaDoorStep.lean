/-
  'append(s, y)' where the order is drawn, and where the new slice lies.
-/
import Derived.Test.YtmjbhnkhpgnchaaDoorSlice
import Derived.Deep.AppendLies
import Derived.Deep.RegionLaw
namespace Go.Proofs.YtmjbhnkhpgnchaaDoor
open Go Go.RowKit
section
variable {α : Type} {enc : α → List Value} {k : Nat} {w : World} {base : Nat} {e : TypeId} {v : Value} {xs : List α} {P : Program}
  {ops : Array Oper} {o : Oper} {a : Act} {K : Act → World → Prop} {Q : Exit → Act → World → Prop} {E : Prop}

theorem news_at {b : Nat} {enc : α → List Value} {y : α} {w : World} {e : TypeId} (hc : w.heap[b]? = some (.cells (enc y).toArray e (0, 0))) : ∀ j u, (enc y)[j]? = some u → w.cell? ((⟨b, 0, none⟩ : Addr).add j) = some u := by
  intro j u hu
  have e1 : ((⟨b, 0, none⟩ : Addr).add j) = ⟨b, j, none⟩ := by
    unfold Addr.add
    by_cases hj : j = 0
    · simp [hj]
    · simp [hj]
  rw [e1]
  simp [World.cell?, hc, hu]

/-- where the slice lies that append hands back -/
def Lies (w : World) (v v' : Value) : Prop := ∀ g, v'.ownBlock = some g → v.ownBlock = some g ∨ w.heap.size ≤ g

theorem lies_of {w : World} {v : Value} {g n cap : Nat} (h : v.ownBlock = some g ∨ g = w.heap.size) : Lies w v (.slice (some ⟨g, 0, none⟩) n cap) := by
  intro g' hg'
  have : g = g' := by simpa [Value.ownBlock] using hg'
  subst this
  rcases h with h | h
  · exact .inl h
  · exact .inr (by omega)

/-- in a region that draws. -/
theorem step_append2 (hg : o.guard = none) (s x : Operand) (t : TypeId) (hop : o.op = .call { callee := .builtin .append, args := #[s, x], argTypes := #[t, t] })
    (ht : P.underlying t = some (.slice e)) {z : Value} {bytes : Nat} (hinfo : (P.info? e).map (fun i => (i.zero, i.size, i.bytes)) = some (some z, k, bytes)) (hzs : z.cells.size = k) (hk : 0 < k)
    (hv : a.eval s = v) (h : OwnS enc k e base w v xs) (b c : Nat) (hx : a.eval x = .slice (some ⟨b, 0, none⟩) 1 c) (y : α) (hy : (enc y).length = k) (hc : w.heap[b]? = some (.cells (enc y).toArray e (0, 0)))
    (h1 : ∀ u ∈ enc y, u.oneCell' = true) (h63 : xs.length + 1 ≤ maxLen) (hbytes : (xs.length + 1) * bytes ≤ 140737488355328) (hbase : base ≤ w.heap.size)
    (hK : ∀ g cap w', OwnS enc k e base w' (.slice (some ⟨g, 0, none⟩) (xs.length + 1) cap) (xs ++ [y]) → Fr (fun g => v.ownBlock = some g) w w' → (v.ownBlock = some g ∨ g = w.heap.size) → g < w'.heap.size → K (a.put o.dst (.slice (some ⟨g, 0, none⟩) (xs.length + 1) cap)) w') : if Region.wanted o (yielded ops a.tmps) = true then Oper.wp P o a w K Q else E := by
  obtain ⟨i0, hi, hz0, hz1, hz2⟩ := info_parts hinfo
  refine step_append_lies w hg s x t hop base e i0 z k bytes ht hi hz0 hz1 hz2 hzs hk v xs.length (xs.flatMap enc) hv h ⟨b, 0, none⟩ 1 c (enc y) hx (by rw [hy]; omega) (news_at hc) h1 (by omega) h63 hbytes hbase w.heap.size rfl ?_
  intro g cap w' ho hgr hat hlt
  refine hK g cap w' ?_ ((Fr.of_grown hgr).mono fun k _ e => e) hat hlt
  unfold OwnS
  simpa using ho

/-- in a plain region. -/
theorem wpl_append2 {rest : List Oper} (hg : o.guard = none) (s x : Operand) (t : TypeId) (hop : o.op = .call { callee := .builtin .append, args := #[s, x], argTypes := #[t, t] })
    (ht : P.underlying t = some (.slice e)) {z : Value} {bytes : Nat} (hinfo : (P.info? e).map (fun i => (i.zero, i.size, i.bytes)) = some (some z, k, bytes)) (hzs : z.cells.size = k) (hk : 0 < k)
    (hv : a.eval s = v) (h : OwnS enc k e base w v xs) (b c : Nat) (hx : a.eval x = .slice (some ⟨b, 0, none⟩) 1 c) (y : α) (hy : (enc y).length = k) (hc : w.heap[b]? = some (.cells (enc y).toArray e (0, 0)))
    (h1 : ∀ u ∈ enc y, u.oneCell' = true) (h63 : xs.length + 1 ≤ maxLen) (hbytes : (xs.length + 1) * bytes ≤ 140737488355328) (hbase : base ≤ w.heap.size)
    (hK : ∀ g cap w', OwnS enc k e base w' (.slice (some ⟨g, 0, none⟩) (xs.length + 1) cap) (xs ++ [y]) → Fr (fun g => v.ownBlock = some g) w w' → (v.ownBlock = some g ∨ g = w.heap.size) → g < w'.heap.size → wpList P ops Q rest (a.put o.dst (.slice (some ⟨g, 0, none⟩) (xs.length + 1) cap)) w') : wpList P ops Q (o :: rest) a w := by
  obtain ⟨i0, hi, hz0, hz1, hz2⟩ := info_parts hinfo
  refine wpList_append_lies w hg s x t hop base e i0 z k bytes ht hi hz0 hz1 hz2 hzs hk v xs.length (xs.flatMap enc) hv h ⟨b, 0, none⟩ 1 c (enc y) hx (by rw [hy]; omega) (news_at hc) h1 (by omega) h63 hbytes hbase w.heap.size rfl ?_
  intro g cap w' ho hgr hat hlt
  refine hK g cap w' ?_ ((Fr.of_grown hgr).mono fun k _ e => e) hat hlt
  unfold OwnS
  simpa using ho
end
end Go.Proofs.YtmjbhnkhpgnchaaDoor
