/-
  The queue: New, at, Put, Drop, Front, Pop.
-/
import Derived.Test.YtmjbhnkhpgnchaaDoorQueF
import Derived.Test.YtmjbhnkhpgnchaaDoorRes
namespace Go.Proofs.YtmjbhnkhpgnchaaDoor
open Go Go.RowKit

theorem zero_int (w : World) : (zeroValue 3).run Tryd.prog w = .ok (.int .i64 0) w := by kernel_rfl
theorem zero_entry (w : World) : (zeroValue 71).run Tryd.prog w = .ok (.agg #[.string ByteArray.empty, .int .u64 0]) w := by kernel_rfl

/-- what the queue's blocks hold -/
structure QSt where
  re : Nat
  rm : Nat
  v : Value
  l : List Ent

/-- The queue lies at q. -/
structure QueAt (w : World) (q : Nat) (Q : QSt) : Prop where
  block : w.heap[q]? = some (.cells #[.pointer (some ⟨Q.re, 0, none⟩)] 80 (0, 0))
  ent : EntAt w Q.re Q.rm Q.v Q.l
  heap : IsHeap Q.l Q.l.length

def QSt.foot (Q : QSt) (k : Nat) : Prop := entFoot Q.re Q.rm Q.v k

section
variable {w w' : World} {q : Nat} {Q Q' : QSt}

theorem QueAt.lt (h : QueAt w q Q) : q < w.heap.size := (Array.getElem?_eq_some_iff.1 h.block).1
theorem QueAt.cell (h : QueAt w q Q) : w.cell? ⟨q, 0, none⟩ = some (.pointer (some ⟨Q.re, 0, none⟩)) := by simp [World.cell?, h.block]

theorem QueAt.not_foot (h : QueAt w q Q) : ¬ Q.foot q := by
  rintro (e | e | e)
  · have := h.block
    rw [e, h.ent.block] at this
    simp at this
  · obtain ⟨W, ⟨es, c, h1, _⟩, _⟩ := h.ent.map
    have := h.block
    rw [e, h1] at this
    simp at this
  · obtain ⟨cur, h1⟩ := OwnE.block h.ent.own e
    have := h.block
    rw [h1] at this
    simp at this

theorem QueAt.foot_lt (h : QueAt w q Q) {k : Nat} (hk : Q.foot k) : k < w.heap.size := h.ent.foot_lt hk

theorem QueAt.fr {F : Nat → Prop} (h : QueAt w q Q) (hf : Fr F w w') (hq : ¬ F q) (hF : ∀ k, Q.foot k → ¬ F k) : QueAt w' q Q :=
  ⟨(hf.block q h.lt hq).trans h.block, h.ent.fr hf hF, h.heap⟩

theorem QueAt.move (h : QueAt w q Q) (hf : Fr (fun _ => False) w w') : QueAt w' q Q := h.fr hf (fun h => h) (fun _ _ h => h)

/-- the queue's heap has been turned. -/
theorem QueAt.turn (h : QueAt w q Q) (hf : Fr Q.foot w w') {v : Value} {l : List Ent} (he : EntAt w' Q.re Q.rm v l) (hh : IsHeap l l.length) : QueAt w' q ⟨Q.re, Q.rm, v, l⟩ :=
  ⟨(hf.block q h.lt h.not_foot).trans h.block, he, hh⟩
end

set_option maxRecDepth 100000 in
set_option maxHeartbeats 400000 in
theorem qnew_any (w : World) :
    Calls Tryd.prog 21 #[] w fun e w' => ∃ q Q, e = .returned (.pointer (some ⟨q, 0, none⟩)) ∧ QueAt w' q Q ∧ Q.l = [] ∧ w.heap.size ≤ q ∧ (∀ k, Q.foot k → w.heap.size ≤ k) ∧ RowKit.Below w.heap.size w w' := by
  have hmm := @run_makeMap Tryd.prog
  go_enter Tryd.func21, Tryd.ntmps21
  go_wp2
  go_ret
  refine ⟨w.heap.size + 1 + 1, ⟨w.heap.size + 1, w.heap.size, .slice none 0 0, []⟩, rfl, ⟨?_, ⟨?_, OwnS.nil, ⟨[], ?_, ?_⟩, by simp, by simp⟩, heap_nil _⟩, rfl, by omega, ?_, ?_⟩
  · exact alloc_get _ _ (by rw [World.size_alloc, World.size_alloc])
  · exact (Below.heap_alloc _ _ _ (by rw [World.size_alloc, World.size_alloc]; show w.heap.size + 1 < _; omega)).trans (alloc_get _ _ (World.size_alloc ..))
  · exact ((isMap_new w).alloc _).alloc _
  · intro n i
    simp [aget]
  · rintro k (rfl | rfl | hk)
    · show _ ≤ w.heap.size + 1; omega
    · exact Nat.le_refl _
    · cases hk
  · exact (((RowKit.Below.refl _ w).alloc (Nat.le_refl _) _).alloc (by rw [World.size_alloc]; omega) _).alloc (by rw [World.size_alloc, World.size_alloc]; omega) _

/-- where a name stands, as the code asks -/
def findE (l : List Ent) (name : ByteArray) : Option Nat := l.findIdx? fun p => p.1 = name

set_option maxRecDepth 100000 in
set_option maxHeartbeats 400000 in
theorem qat_some (w : World) (q : Nat) (Q : QSt) (h : QueAt w q Q) (i : Nat) (x : Ent) (hx : Q.l[i]? = some x) :
    Calls Tryd.prog 40 #[.pointer (some ⟨q, 0, none⟩), .string x.1] w fun e w' => e = .returned (.tuple #[.int .i64 i, .bool true]) ∧ w = w' := by
  have c0 := h.cell
  have c1 := h.ent.c1
  obtain ⟨W, hM, hSt⟩ := h.ent.map
  have hag := Lib.hid ((hSt x.1 i).2 ⟨x, hx, rfl⟩)
  clear h hSt
  go_enter Tryd.func40, Tryd.ntmps40
  go_wp2_with (first | (at_delete; refine At.stop ?_) | (at_mapUpdate; refine At.stop ?_) | (at_lookup; refine At.stop ?_) | (at_range; refine At.stop ?_) | (at_next; refine At.stop ?_) | (at_builtin; refine At.stop ?_))
  refine At.go (wpl_lookup_ok rfl _ _ rfl Tryd.underlying76 key_str hM rfl x.1 rfl _ (zero_int _) ?_)
  rw [hag.out]
  simp only [Option.map_some, Option.getD_some, Option.isSome_some]
  go_wp2_with (first | (at_delete; refine At.stop ?_) | (at_mapUpdate; refine At.stop ?_) | (at_lookup; refine At.stop ?_) | (at_range; refine At.stop ?_) | (at_next; refine At.stop ?_) | (at_builtin; refine At.stop ?_))
  go_ret2
  exact ⟨rfl, rfl⟩

set_option maxRecDepth 100000 in
set_option maxHeartbeats 400000 in
theorem qat_none (w : World) (q : Nat) (Q : QSt) (h : QueAt w q Q) (name : ByteArray) (hx : name ∉ keys Q.l) :
    Calls Tryd.prog 40 #[.pointer (some ⟨q, 0, none⟩), .string name] w fun e w' => e = .returned (.tuple #[.int .i64 0, .bool false]) ∧ w = w' := by
  have c0 := h.cell
  have c1 := h.ent.c1
  obtain ⟨W, hM, hSt⟩ := h.ent.map
  have hag := Lib.hid (show aget W name = none by
    cases he : aget W name with
    | none => rfl
    | some i =>
      obtain ⟨a, ha, e⟩ := (hSt name i).1 he
      exact absurd (List.mem_map_of_mem (f := (·.1)) (List.mem_of_getElem? ha)) (by rw [e]; exact hx))
  clear h hSt hx
  go_enter Tryd.func40, Tryd.ntmps40
  go_wp2_with (first | (at_delete; refine At.stop ?_) | (at_mapUpdate; refine At.stop ?_) | (at_lookup; refine At.stop ?_) | (at_range; refine At.stop ?_) | (at_next; refine At.stop ?_) | (at_builtin; refine At.stop ?_))
  refine At.go (wpl_lookup_ok rfl _ _ rfl Tryd.underlying76 key_str hM rfl name rfl _ (zero_int _) ?_)
  rw [hag.out]
  simp only [Option.map_none, Option.getD_none, Option.isSome_none]
  go_wp2_with (first | (at_delete; refine At.stop ?_) | (at_mapUpdate; refine At.stop ?_) | (at_lookup; refine At.stop ?_) | (at_range; refine At.stop ?_) | (at_next; refine At.stop ?_) | (at_builtin; refine At.stop ?_))
  go_ret2
  exact ⟨rfl, rfl⟩

set_option maxRecDepth 100000 in
set_option maxHeartbeats 400000 in
theorem qput_any (w : World) (q : Nat) (Q : QSt) (h : QueAt w q Q) (name : ByteArray) (t : Nat) (hx : name ∉ keys Q.l) (hl : Q.l.length + 1 ≤ 1000000) :
    Calls Tryd.prog 26 #[.pointer (some ⟨q, 0, none⟩), .string name, .int .u64 t] w fun e w' => ∃ v' l', e = .returned (.bool false) ∧ QueAt w' q ⟨Q.re, Q.rm, v', l'⟩ ∧ l'.Perm (Q.l ++ [(name, t)]) ∧ Lies w Q.v v' ∧ Fr Q.foot w w' := by
  have c0 := h.cell
  have HA := Lib.hid (qat_none w q Q h name hx)
  have HP := Lib.hid (hpush_any w Q.re Q.rm Q.v Q.l h.ent h.heap (name, t) hx hl)
  have HH := Lib.hid h
  clear h hx
  go_enter Tryd.func26, Tryd.ntmps26
  go_wp2_with fail
  refine HA.out.mono ?_
  rintro e w' ⟨rfl, rfl⟩
  go_wp2_with fail
  refine HP.out.mono ?_
  rintro e w1 ⟨v', l', rfl, hE, hh, hp, hL, hf⟩
  have HE := Lib.hid (And.intro hE (And.intro hh (And.intro hp (And.intro hL hf))))
  clear hE hh hp hL hf HP HA
  go_wp2_with fail
  go_ret
  obtain ⟨hE, hh, hp, hL, hf⟩ := HE.out
  exact ⟨v', l', rfl, HH.out.turn hf hE hh, hp, hL, hf⟩

set_option maxRecDepth 100000 in
set_option maxHeartbeats 400000 in
theorem qdrop_none (w : World) (q : Nat) (Q : QSt) (h : QueAt w q Q) (name : ByteArray) (hx : name ∉ keys Q.l) :
    Calls Tryd.prog 38 #[.pointer (some ⟨q, 0, none⟩), .string name] w fun e w' => e = .returned (.bool false) ∧ w = w' := by
  have HA := Lib.hid (qat_none w q Q h name hx)
  clear h hx
  go_enter Tryd.func38, Tryd.ntmps38
  go_wp2_with fail
  refine HA.out.mono ?_
  rintro e w' ⟨rfl, rfl⟩
  go_wp2_with fail
  go_ret
  exact ⟨rfl, rfl⟩

set_option maxRecDepth 100000 in
set_option maxHeartbeats 400000 in
theorem qdrop_some (w : World) (q : Nat) (Q : QSt) (h : QueAt w q Q) (i : Nat) (x : Ent) (hx : Q.l[i]? = some x) :
    Calls Tryd.prog 38 #[.pointer (some ⟨q, 0, none⟩), .string x.1] w fun e w' => ∃ v' l', e = .returned (.bool true) ∧ QueAt w' q ⟨Q.re, Q.rm, v', l'⟩ ∧ Q.l.Perm (l' ++ [x]) ∧ v'.ownBlock = Q.v.ownBlock ∧ Fr Q.foot w w' := by
  have c0 := h.cell
  have hi := lt_of_get hx
  have HA := Lib.hid (qat_some w q Q h i x hx)
  have HP := Lib.hid (hremove_any w Q.re Q.rm Q.v Q.l h.ent h.heap (Q.l.length - 1) i (by omega) (by omega) x hx)
  have HH := Lib.hid h
  clear h hx
  go_enter Tryd.func38, Tryd.ntmps38
  go_wp2_with fail
  refine HA.out.mono ?_
  rintro e w' ⟨rfl, rfl⟩
  go_wp2_with fail
  refine HP.out.mono ?_
  rintro e w1 ⟨r, v', l', rfl, hE, hh, hp, hL, hf⟩
  have HE := Lib.hid (And.intro hE (And.intro hh (And.intro hp (And.intro hL hf))))
  clear hE hh hp hL hf HP HA
  go_wp2_with fail
  go_ret
  obtain ⟨hE, hh, hp, hL, hf⟩ := HE.out
  exact ⟨v', l', rfl, HH.out.turn hf hE hh, hp, hL, hf⟩

set_option maxRecDepth 100000 in
set_option maxHeartbeats 400000 in
theorem qlenQ_any (w : World) (q : Nat) (Q : QSt) (h : QueAt w q Q) :
    Calls Tryd.prog 58 #[.pointer (some ⟨q, 0, none⟩)] w fun e w' => e = .returned (.int .i64 Q.l.length) ∧ w = w' := by
  have c0 := h.cell
  have HL := Lib.hid (qlen_any w Q.re Q.rm Q.v Q.l h.ent)
  clear h
  go_enter Tryd.func58, Tryd.ntmps58
  go_wp2_with fail
  refine HL.out.mono ?_
  rintro e w' ⟨rfl, rfl⟩
  go_wp2_with fail
  go_ret
  exact ⟨rfl, rfl⟩

abbrev entV (x : Ent) : Value := .agg #[.string x.1, .int .u64 x.2]
abbrev entV0 : Value := .agg #[.string ByteArray.empty, .int .u64 0]

set_option maxRecDepth 100000 in
set_option maxHeartbeats 400000 in
theorem qfront_any (w : World) (q : Nat) (Q : QSt) (h : QueAt w q Q) :
    Calls Tryd.prog 47 #[.pointer (some ⟨q, 0, none⟩)] w fun e w' => (∃ y : Ent, e = .returned (.tuple #[entV y, .bool (!Q.l.isEmpty)]) ∧ (∀ x, Q.l[0]? = some x → y = x)) ∧ Fr (fun _ => False) w w' := by
  have c0 := h.cell
  have c1 := h.ent.c0
  have hz := zero_entry
  have hlt := h.ent.lt
  have hqlt := h.lt
  have hql : ∀ o, Calls Tryd.prog 58 #[.pointer (some ⟨q, 0, none⟩)] (w.alloc o) fun e w' => e = .returned (.int .i64 Q.l.length) ∧ w.alloc o = w' := fun o => qlenQ_any _ q Q (h.move ((Fr.refl _ w).alloc o))
  have HL := Lib.hid hql
  clear hql
  cases hl : Q.l with
  | nil =>
    rw [hl] at HL
    clear h
    go_enter Tryd.func47, Tryd.ntmps47
    go_wp2_with fail
    refine (HL.out _).mono ?_
    rintro e w' ⟨rfl, rfl⟩
    go_wp2_with fail
    refine bodyPost_ret (res_row_tmp rfl _ _ w.heap.size _ _ _ _ rfl (alloc_get w _ rfl) Tryd.underlying71 rfl (by kernel_rfl)) rfl ?_
    exact ⟨⟨(ByteArray.empty, 0), rfl, fun x hx => by simp at hx⟩, (Fr.refl _ w).alloc _⟩
  | cons x t =>
    have hs := h.ent.small
    obtain ⟨g, cap, hv, hcap, a0, a1, hg⟩ := h.ent.cells (i := 0) (by rw [hl]; simp)
    have hglt := (h.ent.own.lt g hg).2
    have hx : Q.l[0]'(by rw [hl]; simp) = x := by simp [hl]
    rw [hx, Nat.zero_mul] at a0 a1
    rw [hv] at c1
    have hll : Q.l.length = t.length + 1 := by rw [hl]; rfl
    have ell : ((t.length + 1 : Nat) : Int) = (t.length : Int) + 1 := by omega
    rw [hll] at c1 hs hcap HL
    rw [ell] at HL
    clear h hv hg hl hx hll
    go_enter Tryd.func47, Tryd.ntmps47
    go_wp2_with fail
    refine (HL.out _).mono ?_
    rintro e w' ⟨rfl, rfl⟩
    go_wp2_with fail
    refine bodyPost_ret (res_row_tmp rfl _ _ w.heap.size _ _ _ _ rfl (alloc_get w _ rfl) Tryd.underlying71 rfl (by kernel_rfl)) rfl ?_
    exact ⟨⟨x, rfl, fun y hy => by simpa using hy⟩, (Fr.refl _ w).alloc _⟩

set_option maxRecDepth 100000 in
set_option maxHeartbeats 400000 in
theorem qpopQ_any (w : World) (q : Nat) (Q : QSt) (h : QueAt w q Q) (x : Ent) (hx : Q.l[0]? = some x) :
    Calls Tryd.prog 48 #[.pointer (some ⟨q, 0, none⟩)] w fun e w' => ∃ v' l', e = .returned (.tuple #[entV x, .bool true]) ∧ QueAt w' q ⟨Q.re, Q.rm, v', l'⟩ ∧ Q.l.Perm (l' ++ [x]) ∧ v'.ownBlock = Q.v.ownBlock ∧ Fr Q.foot w w' := by
  have hz := zero_entry
  have hne : Q.l.isEmpty = false := by
    cases hl : Q.l with
    | nil => rw [hl] at hx; simp at hx
    | cons a b => rfl
  have hlt0 := lt_of_get hx
  have HF := Lib.hid (fun o => qfront_any _ q Q (h.move ((Fr.refl _ w).alloc o)))
  have HH := Lib.hid (And.intro h hx)
  clear h
  go_enter Tryd.func48, Tryd.ntmps48
  go_wp2_with fail
  refine (HF.out _).mono ?_
  rintro e w1 ⟨⟨y, rfl, hy⟩, hf1⟩
  obtain rfl := hy x hx
  rw [hne]
  simp only [Bool.not_false]
  have hq1 := HH.out.1.move (((Fr.refl _ w).alloc _).trans hf1)
  have hw1 : w.heap.size < w1.heap.size := by
    have := hf1.size
    rw [World.size_alloc] at this
    omega
  have hr1 : w1.heap[w.heap.size]? = some (.cells #[.string ByteArray.empty, .int .u64 0] 71 (0, 0)) :=
    (hf1.block w.heap.size (by rw [World.size_alloc]; omega) (fun h => h)).trans (alloc_get w _ rfl)
  have c1 := hq1.cell
  have hqlt := hq1.lt
  have hq2 := fun o => hq1.move ((Fr.refl (fun _ => False) w1).alloc o)
  have HP := Lib.hid (fun o => hpop_any (w1.alloc o) Q.re Q.rm Q.v Q.l (hq2 o).ent (hq2 o).heap (Q.l.length - 1) (by omega) y HH.out.2)
  have HK := Lib.hid (And.intro hf1 (And.intro hq1 (And.intro hr1 hq2)))
  clear hf1 HF hx hy hq1 hr1 hq2
  go_wp2_with fail
  refine (HP.out _).mono ?_
  rintro e w3 ⟨r, v', l', rfl, hE, hh, hp, hv, hf3⟩
  obtain ⟨hf1, hq1, hr1, hq2⟩ := HK.out
  have hsz3 := hf3.size
  rw [World.size_alloc] at hsz3
  have hb1 : w3.heap[w1.heap.size]? = some (.cells #[.string y.1, .int .u64 y.2] 71 (0, 0)) :=
    (hf3.block w1.heap.size (by rw [World.size_alloc]; omega) (fun hk => by have := hq1.foot_lt hk; omega)).trans (alloc_get w1 _ rfl)
  have hb0 : w3.heap[w.heap.size]? = some (.cells #[.string ByteArray.empty, .int .u64 0] 71 (0, 0)) :=
    (hf3.block w.heap.size (by rw [World.size_alloc]; omega) (fun hk => by have := HH.out.1.foot_lt hk; omega)).trans ((Below.heap_alloc w1 _ _ hw1).trans hr1)
  have d0 : w3.cell? ⟨w1.heap.size, 0, none⟩ = some (.string y.1) := by simp [World.cell?, hb1]
  have d1 : w3.cell? ⟨w1.heap.size, 1, none⟩ = some (.int .u64 y.2) := by simp [World.cell?, hb1]
  have d2 : w3.cell? ⟨w.heap.size, 0, none⟩ = some (.string ByteArray.empty) := by simp [World.cell?, hb0]
  have d3 : w3.cell? ⟨w.heap.size, 1, none⟩ = some (.int .u64 0) := by simp [World.cell?, hb0]
  have d4 : w3.frozen? ⟨w.heap.size, 0, none⟩ = false := by simp [World.frozen?, hb0]
  have d5 : w3.frozen? ⟨w.heap.size, 1, none⟩ = false := by simp [World.frozen?, hb0]
  have HR := Lib.hid (And.intro hE (And.intro hh (And.intro hp (And.intro hv (And.intro hf3 hb0)))))
  clear hE hh hp hv hf3 hf1 hq1 hr1 hq2 hb0 hb1 HP c1
  go_wp2_with fail
  obtain ⟨hE, hh, hp, hv, hf3, hb0⟩ := HR.out
  obtain ⟨hf1, hq1, hr1, hq2⟩ := HK.out
  refine bodyPost_ret (res_row_tmp rfl _ _ w.heap.size _ _ _ _ rfl (setCell_get _ _ 1 _ (setCell_get _ _ 0 _ hb0)) Tryd.underlying71 rfl (by kernel_rfl)) rfl ?_
  have hF1 : Fr Q.foot w w3 := ((((Fr.refl _ w).alloc _).trans (hf1.mono fun _ _ h => h.elim)).alloc _).trans hf3
  have hF2 : Fr Q.foot w ((w3.setCell ⟨w.heap.size, 0, none⟩ (.string y.1)).setCell ⟨w.heap.size, 1, none⟩ (.int .u64 y.2)) :=
    (hF1.setCell (a := ⟨w.heap.size, 0, none⟩) (fun h => absurd h (Nat.lt_irrefl _)) _).setCell (a := ⟨w.heap.size, 1, none⟩) (fun h => absurd h (Nat.lt_irrefl _)) _
  have hF3 : Fr (· = w.heap.size) w3 ((w3.setCell ⟨w.heap.size, 0, none⟩ (.string y.1)).setCell ⟨w.heap.size, 1, none⟩ (.int .u64 y.2)) :=
    (Fr.setCell (F := (· = w.heap.size)) (a := ⟨w.heap.size, 0, none⟩) (Fr.refl _ w3) (fun _ => rfl) _).setCell (a := ⟨w.heap.size, 1, none⟩) (fun _ => rfl) _
  refine ⟨v', l', rfl, HH.out.1.turn hF2 (hE.fr hF3 fun k hk (e : k = w.heap.size) => ?_) hh, hp, hv, hF2⟩
  have : k < w.heap.size := by
    refine HH.out.1.foot_lt ?_
    rcases hk with h | h | h
    · exact .inl h
    · exact .inr (.inl h)
    · exact .inr (.inr (by rw [← hv]; exact h))
  omega
end Go.Proofs.YtmjbhnkhpgnchaaDoor
