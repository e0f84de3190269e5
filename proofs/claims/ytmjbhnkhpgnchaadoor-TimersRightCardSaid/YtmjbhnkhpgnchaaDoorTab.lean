/-
  The table of timers: how it lies, and what its blocks are.
-/
import Derived.Test.YtmjbhnkhpgnchaaDoorQueH
import Derived.Test.YtmjbhnkhpgnchaaDoorGood
import Derived.Test.YtmjbhnkhpgnchaaDoorTRight
import Derived.Test.YtmjbhnkhpgnchaaDoorWheelB
namespace Go.Proofs.YtmjbhnkhpgnchaaDoor
open Go Go.RowKit

def encTM (p : Tm × Value) : Value := tmV p.1 p.2

/-- what a table's blocks hold -/
structure TSt where
  rm : Nat
  q : Nat
  Q : QSt
  f : Nat
  S : WSt
  L : List (ByteArray × (Tm × Value))

/-- the blocks that are written -/
def TSt.foot (T : TSt) (k : Nat) : Prop := k = T.rm ∨ T.Q.foot k ∨ T.S.foot T.f k

/-- the blocks that are the table's -/
def TSt.own (T : TSt) (b : Nat) (k : Nat) : Prop := k = b ∨ k = T.q ∨ T.foot k ∨ ∃ p ∈ T.L, p.2.2.ownBlock = some k

/-- The table lies at b. -/
structure TabAt (w : World) (b : Nat) (T : TSt) : Prop where
  block : w.heap[b]? = some (.cells #[.map (some T.rm), .pointer (some ⟨T.q, 0, none⟩), .pointer (some ⟨T.f, 0, none⟩)] 58 (0, 0))
  all : IsMap Value.string encTM w T.rm T.L
  que : QueAt w T.q T.Q
  whl : WheelAt w T.f T.S
  good : Good T.S
  now : T.S.now < 18446744073709551616
  steps : ∀ p ∈ T.L, OwnSt 0 w p.2.2 p.2.1.do_
  names : ∀ p ∈ T.L, p.2.1.name = p.1
  right : ∀ p ∈ T.L, rightT p.2.1 = true ∧ p.2.1.wf
  due : ∀ e : Ent, e ∈ T.Q.l ↔ ∃ t v, (e.1, (t, v)) ∈ T.L ∧ t.at_ = e.2 ∧ t.at_ ≤ T.S.now
  far : ∀ e : Ent, e ∈ T.S.all ↔ ∃ t v, (e.1, (t, v)) ∈ T.L ∧ t.at_ = e.2 ∧ T.S.now < t.at_
  sepQ : ∀ k, T.Q.foot k → ¬ T.S.foot T.f k
  sepR : ¬ T.Q.foot T.rm ∧ ¬ T.S.foot T.f T.rm
  small : T.L.length ≤ 10000

/-- the kinds of blocks that a table writes -/
def mutTy (e : TypeId) : Prop := e = 86 ∨ e = 78 ∨ e = 71

section
variable {w w' : World} {b : Nat} {T : TSt}

theorem TabAt.lt (h : TabAt w b T) : b < w.heap.size := (Array.getElem?_eq_some_iff.1 h.block).1
theorem TabAt.c0 (h : TabAt w b T) : w.cell? ⟨b, 0, none⟩ = some (.map (some T.rm)) := by simp [World.cell?, h.block]
theorem TabAt.c1 (h : TabAt w b T) : w.cell? ⟨b, 1, none⟩ = some (.pointer (some ⟨T.q, 0, none⟩)) := by simp [World.cell?, h.block]
theorem TabAt.c2 (h : TabAt w b T) : w.cell? ⟨b, 2, none⟩ = some (.pointer (some ⟨T.f, 0, none⟩)) := by simp [World.cell?, h.block]

/-- what a written block is -/
theorem whl_ty {f : Nat} {S : WSt} (h : WheelAt w f S) {k : Nat} (hk : S.foot f k) : (∃ es c, w.heap[k]? = some (.map es c)) ∨ ∃ cs fz, w.heap[k]? = some (.cells cs 86 fz) := by
  rcases hk with rfl | rfl | ⟨i, hi, rfl⟩
  · exact .inr ⟨_, _, h.block⟩
  · obtain ⟨es, c, h1, _⟩ := h.all
    exact .inl ⟨es, c, h1⟩
  · obtain ⟨es, c, h1, _⟩ := h.place i hi
    exact .inl ⟨es, c, h1⟩

theorem que_ty {q : Nat} {Q : QSt} (h : QueAt w q Q) {k : Nat} (hk : Q.foot k) : (∃ es c, w.heap[k]? = some (.map es c)) ∨ ∃ cs e fz, w.heap[k]? = some (.cells cs e fz) ∧ (e = 78 ∨ e = 71) := by
  rcases hk with rfl | rfl | hk
  · exact .inr ⟨_, _, _, h.ent.block, .inl rfl⟩
  · obtain ⟨W, ⟨es, c, h1, _⟩, _⟩ := h.ent.map
    exact .inl ⟨es, c, h1⟩
  · obtain ⟨cur, h1⟩ := OwnE.block h.ent.own hk
    exact .inr ⟨_, _, _, h1, .inr rfl⟩

theorem TabAt.foot_ty (h : TabAt w b T) {k : Nat} (hk : T.foot k) : (∃ es c, w.heap[k]? = some (.map es c)) ∨ ∃ cs e fz, w.heap[k]? = some (.cells cs e fz) ∧ mutTy e := by
  rcases hk with rfl | hk | hk
  · obtain ⟨es, c, h1, _⟩ := h.all
    exact .inl ⟨es, c, h1⟩
  · rcases que_ty h.que hk with h1 | ⟨cs, e, fz, h1, h2⟩
    · exact .inl h1
    · exact .inr ⟨cs, e, fz, h1, .inr h2⟩
  · rcases whl_ty h.whl hk with h1 | ⟨cs, fz, h1⟩
    · exact .inl h1
    · exact .inr ⟨cs, _, fz, h1, .inl rfl⟩

/-- a block of cells of another kind is not written. -/
theorem TabAt.not_foot (h : TabAt w b T) {k : Nat} {cs : Array Value} {e : TypeId} {fz : Nat × Nat} (hk : w.heap[k]? = some (.cells cs e fz)) (he : ¬ mutTy e) : ¬ T.foot k := by
  intro hf
  rcases h.foot_ty hf with ⟨es, c, h1⟩ | ⟨cs', e', fz', h1, h2⟩
  · rw [hk] at h1; simp at h1
  · rw [hk] at h1
    injection h1 with h1
    injection h1 with _ h3 _
    subst h3
    exact he h2

theorem not_mut_step : ¬ mutTy 36 := by unfold mutTy; decide
theorem not_mut_timer : ¬ mutTy 25 := by unfold mutTy; decide
theorem not_mut_table : ¬ mutTy 58 := by unfold mutTy; decide
theorem not_mut_queue : ¬ mutTy 80 := by unfold mutTy; decide

theorem TabAt.foot_lt (h : TabAt w b T) {k : Nat} (hk : T.foot k) : k < w.heap.size := by
  rcases h.foot_ty hk with ⟨es, c, h1⟩ | ⟨cs, e, fz, h1, _⟩
  · exact (Array.getElem?_eq_some_iff.1 h1).1
  · exact (Array.getElem?_eq_some_iff.1 h1).1

theorem own_block_ty {α : Type} {enc : α → List Value} {k : Nat} {e : TypeId} {B : Nat} {v : Value} {xs : List α} (h : OwnS enc k e B w v xs) {g : Nat} (hg : v.ownBlock = some g) : ∃ cs, w.heap[g]? = some (.cells cs e (0, 0)) := by
  rcases h.2 with ⟨h1, _⟩ | ⟨g1, cap, cur, h1, _, h2, _⟩
  · rw [h1] at hg; cases hg
  · rw [h1] at hg
    have e1 : g1 = g := Option.some.inj (show some g1 = some g from hg)
    subst e1
    exact ⟨cur, h2⟩

/-- steps of a slice that is somebody's own stand, whatever a table writes. -/
theorem OwnSt.keep {B : Nat} {v : Value} {xs : List Stp} (hs : OwnSt B w v xs) (h : TabAt w b T) (hf : Fr T.foot w w') : OwnSt B w' v xs :=
  OwnS.fr hs hf fun g hg hk => by
    obtain ⟨cs, h1⟩ := own_block_ty hs hg
    exact h.not_foot h1 not_mut_step hk

theorem TabAt.fr {F : Nat → Prop} (h : TabAt w b T) (hf : Fr F w w') (hF : ∀ k, T.own b k → ¬ F k) : TabAt w' b T where
  block := (hf.block b h.lt (hF b (.inl rfl))).trans h.block
  all := h.all.fr hf (hF _ (.inr (.inr (.inl (.inl rfl)))))
  que := h.que.fr hf (hF _ (.inr (.inl rfl))) (fun k hk => hF k (.inr (.inr (.inl (.inr (.inl hk))))))
  whl := h.whl.fr hf (fun k hk => hF k (.inr (.inr (.inl (.inr (.inr hk))))))
  good := h.good
  now := h.now
  steps p hp := OwnS.fr (h.steps p hp) hf (fun g hg => hF g (.inr (.inr (.inr ⟨p, hp, hg⟩))))
  names := h.names
  right := h.right
  due := h.due
  far := h.far
  sepQ := h.sepQ
  sepR := h.sepR
  small := h.small

theorem TabAt.move (h : TabAt w b T) (hf : Fr (fun _ => False) w w') : TabAt w' b T := h.fr hf fun _ _ h => h

theorem TabAt.own_lt (h : TabAt w b T) {k : Nat} (hk : T.own b k) : k < w.heap.size := by
  rcases hk with rfl | rfl | hk | ⟨p, hp, hk⟩
  · exact h.lt
  · exact h.que.lt
  · exact h.foot_lt hk
  · exact ((h.steps p hp).lt k hk).2
end

set_option maxRecDepth 100000 in
set_option maxHeartbeats 400000 in
theorem tnew_any (w : World) (now : Nat) (hn : now < 18446744073709551616) :
    Calls Tryd.prog 10 #[.int .u64 now] w fun e w' => ∃ b T, e = .returned (.pointer (some ⟨b, 0, none⟩)) ∧ TabAt w' b T ∧ T.L = [] ∧ T.S.now = now ∧ (∀ k, T.own b k → w.heap.size ≤ k) ∧ RowKit.Below w.heap.size w w' := by
  have hmm := @run_makeMap Tryd.prog
  have HQ := Lib.hid (qnew_any (w.alloc (.map #[] 0)))
  go_enter Tryd.func10, Tryd.ntmps10
  go_wp2_with fail
  refine HQ.out.mono ?_
  rintro e w1 ⟨q, Q, rfl, hQ, hQl, hq, hQf, hB1⟩
  have HN := Lib.hid (new_any w1 now)
  have HK := Lib.hid (And.intro hQ (And.intro hQl (And.intro hq (And.intro hQf hB1))))
  clear hQ hQl hq hQf hB1 HQ
  go_wp2_with fail
  refine HN.out.mono ?_
  rintro e w2 ⟨S, rfl, hW, hSn, hSa, hSg, hB2, hSf⟩
  have HR := Lib.hid (And.intro hW (And.intro hSn (And.intro hSa (And.intro hSg (And.intro hB2 hSf)))))
  clear hW hSn hSa hSg hB2 hSf HN
  go_wp2_with fail
  go_ret
  obtain ⟨hQ, hQl, hq, hQf, hB1⟩ := HK.out
  obtain ⟨hW, hSn, hSa, hSg, hB2, hSf⟩ := HR.out
  have hs0 : (w.alloc (.map #[] 0)).heap.size = w.heap.size + 1 := World.size_alloc ..
  rw [hs0] at hq hQf hB1
  have hs1 := hB1.size
  rw [hs0] at hs1
  have hs2 := hB2.size
  have hmap0 : IsMap Value.string encTM (w.alloc (.map #[] 0)) w.heap.size ([] : List (ByteArray × (Tm × Value))) := isMap_new w
  have hF1 : Fr (fun k => w.heap.size + 1 ≤ k) (w.alloc (.map #[] 0)) w1 := Fr.of_below hB1
  have hF2 : Fr (fun k => w1.heap.size ≤ k) w1 w2 := Fr.of_below hB2
  have hal : Fr (fun _ => False) w2 (w2.alloc (Obj.cells #[.map (some w.heap.size), .pointer (some ⟨q, 0, none⟩), .pointer (some ⟨w1.heap.size + 2, 0, none⟩)] 58)) := (Fr.refl _ w2).alloc _
  have hmap : IsMap Value.string encTM (w2.alloc (Obj.cells #[.map (some w.heap.size), .pointer (some ⟨q, 0, none⟩), .pointer (some ⟨w1.heap.size + 2, 0, none⟩)] 58)) w.heap.size ([] : List (ByteArray × (Tm × Value))) :=
    ((hmap0.fr hF1 (show ¬ w.heap.size + 1 ≤ w.heap.size by omega)).fr hF2 (show ¬ w1.heap.size ≤ w.heap.size by omega)).fr hal (fun h => h)
  have hq2 : QueAt w2 q Q := hQ.fr hF2 (show ¬ w1.heap.size ≤ q by have := hQ.lt; omega) (fun k hk (e : w1.heap.size ≤ k) => by have := hQ.foot_lt hk; omega)
  have hgood : Good S := by
    have hp : ∀ p : ByteArray × Nat, p ∉ S.all := fun p hp => by rw [hSa] at hp; cases hp
    refine ⟨fun p hp' => absurd hp' (hp p), by rw [hSa]; simp, fun i _ => by rw [hSg]; simp, fun i _ p => ?_⟩
    rw [hSg]
    constructor
    · intro h; cases h
    · intro h; exact absurd h.1 (hp p)
  refine ⟨w2.heap.size, ⟨w.heap.size, q, Q, w1.heap.size + 2, S, []⟩, rfl, ⟨alloc_get w2 _ rfl, hmap, hq2.move hal, hW.fr hal (fun _ _ h => h), hgood, by show S.now < _; rw [hSn]; exact hn, (fun p hp => by cases hp), (fun p hp => by cases hp), (fun p hp => by cases hp), ?_, ?_, ?_, ⟨?_, ?_⟩, by simp⟩, rfl, hSn, ?_, ?_⟩
  · intro e
    show e ∈ Q.l ↔ _
    rw [hQl]
    simp
  · intro e
    show e ∈ S.all ↔ _
    rw [hSa]
    simp
  · intro k hk hk2
    have h1 := hQ.foot_lt hk
    have h2 := hSf k hk2
    omega
  · intro hk
    have h1 : w.heap.size + 1 ≤ w.heap.size := hQf _ hk
    omega
  · intro hk
    have h1 : w1.heap.size ≤ w.heap.size := hSf _ hk
    omega
  · rintro k (e | e | (e | hk | hk) | ⟨p, hp, _⟩)
    · omega
    · have e' : k = q := e
      omega
    · have e' : k = w.heap.size := e
      omega
    · have h1 := hQf _ hk; omega
    · have h1 := hSf _ hk; omega
    · cases hp
  · exact ((((RowKit.Below.refl _ w).alloc (Nat.le_refl _) _).trans (hB1.mono (by omega))).trans (hB2.mono (by omega))).alloc (by omega) _
end Go.Proofs.YtmjbhnkhpgnchaaDoor
