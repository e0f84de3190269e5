/-
  WheelPlays: what its loop keeps.
-/
import Derived.Test.YtfjmdblfokjnmaaLawD
namespace Go.Proofs.Ytfjmdblfokjnmaa
open Go Go.RowKit

/-- the script, as it lies in memory -/
def ActsAt (w : World) (a : Option Addr) (acts : List ActV) : Prop := ∀ i x, acts[i]? = some x → ∃ g off, a = some ⟨g, off, none⟩ ∧ g < w.heap.size ∧
  w.cell? ⟨g, off + i * 4, none⟩ = some (.int .i64 x.kind) ∧ w.cell? ⟨g, off + i * 4 + 1, none⟩ = some (.string x.name) ∧
  w.cell? ⟨g, off + i * 4 + 2, none⟩ = some (.int .u64 x.at_) ∧ w.cell? ⟨g, off + i * 4 + 3, none⟩ = some (.int .u64 x.by_)

theorem encAct_len (x : ActV) : (encAct x).length = 4 := rfl
theorem encAct_cells (x : ActV) : ∀ v ∈ encAct x, v.oneCell' = true := by
  intro v hv
  unfold encAct at hv
  simp only [List.mem_cons, List.not_mem_nil, or_false] at hv
  rcases hv with rfl | rfl | rfl | rfl <;> rfl

theorem four_cells {w : World} {g o : Nat} {x : ActV} (h0 : w.cell? ⟨g, o, none⟩ = some (.int .i64 x.kind)) (h1 : w.cell? ⟨g, o + 1, none⟩ = some (.string x.name))
    (h2 : w.cell? ⟨g, o + 2, none⟩ = some (.int .u64 x.at_)) (h3 : w.cell? ⟨g, o + 3, none⟩ = some (.int .u64 x.by_)) :
    ∀ j v, ([.int .i64 x.kind, .string x.name, .int .u64 x.at_, .int .u64 x.by_] : List Value)[j]? = some v → w.cell? ⟨g, o + j, none⟩ = some v := by
  intro j v hj
  match j with
  | 0 => simpa using h0.trans (by simpa using hj)
  | 1 => simpa using h1.trans (by simpa using hj)
  | 2 => simpa using h2.trans (by simpa using hj)
  | 3 => simpa using h3.trans (by simpa using hj)
  | n + 4 => simp at hj

/-- the act's own copy -/
structure BoxAt (w : World) (ab : Nat) (x : ActV) : Prop where
  c0 : w.cell? ⟨ab, 0, none⟩ = some (.int .i64 x.kind)
  c1 : w.cell? ⟨ab, 1, none⟩ = some (.string x.name)
  c2 : w.cell? ⟨ab, 2, none⟩ = some (.int .u64 x.at_)
  c3 : w.cell? ⟨ab, 3, none⟩ = some (.int .u64 x.by_)
  lt : ab < w.heap.size

theorem BoxAt.fr {F : Nat → Prop} {w w' : World} {ab : Nat} {x : ActV} (h : BoxAt w ab x) (hf : Fr F w w') (hF : ¬ F ab) : BoxAt w' ab x :=
  ⟨(hf.cell h.lt hF).trans h.c0, (hf.cell h.lt hF).trans h.c1, (hf.cell h.lt hF).trans h.c2, (hf.cell h.lt hF).trans h.c3, Nat.lt_of_lt_of_le h.lt hf.size⟩
theorem BoxAt.below {w w' : World} {ab : Nat} {x : ActV} (h : BoxAt w ab x) (hB : RowKit.Below w.heap.size w w') : BoxAt w' ab x := h.fr (Fr.of_new (F := fun _ => False) hB) (fun hc => hc)

theorem box_of {e : TypeId} {base : Nat} {w : World} {b : Nat} {x : ActV} (h : OwnS encAct 4 e base w (.slice (some ⟨b, 0, none⟩) 1 1) [x]) : BoxAt w b x := by
  obtain ⟨g, off, cap, hv, hc⟩ := (OwnS.at h).cell encAct_len (i := 0) (by simp)
  injection hv with e1 _ _
  injection e1 with e1
  injection e1 with e1 e2
  subst e1; subst e2
  have hlt := (OwnS.lt h b rfl).2
  exact ⟨hc 0 (by omega), hc 1 (by omega), hc 2 (by omega), hc 3 (by omega), hlt⟩

/-- both wheels, side by side -/
structure Play (w wr : World) (b rb : Nat) (S : WSt) (m : List (ByteArray × Nat)) (v : Value) (n : Nat) : Prop where
  wheel : WheelAt wr b S
  ref : RefAt wr rb S.now m v
  tells : Tells S m
  low : ∀ k, S.foot b k → w.heap.size ≤ k
  foot : ∀ k, S.foot b k → k < rb
  rlow : w.heap.size ≤ rb
  below : RowKit.Below w.heap.size w wr
  len : m.length ≤ n

section
variable {w wr w' : World} {b rb : Nat} {S S' : WSt} {m m' : List (ByteArray × Nat)} {v v' : Value} {n n' : Nat}

theorem Play.move (h : Play w wr b rb S m v n) (hB : RowKit.Below wr.heap.size wr w') (hn : n ≤ n') : Play w w' b rb S m v n' :=
  ⟨h.wheel.below hB, h.ref.below hB, h.tells, h.low, h.foot, h.rlow, h.below.trans (hB.mono h.below.size), Nat.le_trans h.len hn⟩

/-- the wheel has changed: the list still lies as it did -/
theorem Play.refStays (h : Play w wr b rb S m v n) (hf : Fr (S.foot b) wr w') : RefAt w' rb S.now m v :=
  h.ref.fr hf (fun k hk _ hc => by have := h.foot k hc; omega)
theorem Play.step (h : Play w wr b rb S m v n) {w2 : World} (hW : WheelAt w' b S') (hf : Fr (S.foot b) wr w') (hft : ∀ k, S'.foot b k → S.foot b k) (hR : RefAt w2 rb S'.now m' v') (hf2 : Fr (· = rb) w' w2)
    (hT : Tells S' m') (hn : m'.length ≤ n') : Play w w2 b rb S' m' v' n' where
  wheel := hW.fr hf2 (fun k hk e => by have := h.foot k (hft k hk); omega)
  ref := hR
  tells := hT
  low k hk := h.low k (hft k hk)
  foot k hk := h.foot k (hft k hk)
  rlow := h.rlow
  below := (h.below.trans (hf.below (fun k hk hc => by have := h.low k hc; omega) h.below.size)).trans (hf2.below (fun k hk e => by have := h.rlow; omega) (by have := hf.size; have := h.below.size; omega))
  len := hn
theorem Play.box (h : Play w wr b rb S m v n) {w2 : World} {ab : Nat} {x : ActV} (hb : BoxAt wr ab x) (ha : rb < ab) (hf : Fr (S.foot b) wr w') (hf2 : Fr (· = rb) w' w2) : BoxAt w2 ab x :=
  (hb.fr hf (fun hc => by have := h.foot ab hc; omega)).fr hf2 (by omega)
end

theorem play_start {w w1 : World} {b now : Nat} {S : WSt} (hW : WheelAt w1 b S) (hnow : S.now = now) (h0 : S.all = []) (h1 : ∀ i, S.get i = []) (hB : RowKit.Below w.heap.size w w1)
    (hf : ∀ k, S.foot b k → w.heap.size ≤ k) (hn : now < 18446744073709551616) :
    Play w (w1.alloc (.cells #[.int .u64 now, .slice none 0 0] 29)) b w1.heap.size S [] (.slice none 0 0) 0 where
  wheel := hW.alloc _
  ref := ⟨by rw [hnow]; exact (Go.MapKept.heap_alloc w1 _).1, .inl ⟨rfl, rfl⟩, fun g hg => by obtain ⟨_, _, _, e⟩ := hg; cases e⟩
  tells := tells_new h0 h1 (by omega)
  low := hf
  foot k hk := hW.foot_lt hk
  rlow := hB.size
  below := hB.alloc hB.size _
  len := Nat.le_refl _

theorem drop_tell (S : WSt) (name : ByteArray) : ((aget S.all name).isSome = true) ↔ name ∈ keys S.all := by
  cases h : aget S.all name with
  | none => simpa using aget_none.1 h
  | some t =>
    simp only [Option.isSome_some, true_iff]
    apply Classical.byContradiction
    intro hc
    rw [aget_none.2 hc] at h
    cases h
end Go.Proofs.Ytfjmdblfokjnmaa
