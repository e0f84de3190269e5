/-
  The reference's wheel: Put, Drop, Advance.
-/
import Derived.Test.YtfjmdblfokjnmaaRefC
namespace Go.Proofs.Ytfjmdblfokjnmaa
open Go Go.RowKit

/-- The reference's wheel lies at rb. -/
structure RefAt (w : World) (rb now : Nat) (m : List (ByteArray × Nat)) (v : Value) : Prop where
  block : w.heap[rb]? = some (.cells #[.int .u64 now, v] 29 (0, 0))
  list : SlAt encT 2 45 w v m
  above : ∀ g, inBlock v g → rb < g

section
variable {w w' : World} {rb now : Nat} {m : List (ByteArray × Nat)} {v : Value}
theorem RefAt.lt (h : RefAt w rb now m v) : rb < w.heap.size := (Array.getElem?_eq_some_iff.1 h.block).1
theorem RefAt.fr {F : Nat → Prop} (h : RefAt w rb now m v) (hf : Fr F w w') (hF : ∀ k, rb ≤ k → k < w.heap.size → ¬ F k) : RefAt w' rb now m v :=
  ⟨(hf.block rb h.lt (hF rb (Nat.le_refl _) h.lt)).trans h.block, h.list.fr hf (fun g hg => hF g (Nat.le_of_lt (h.above g hg)) (h.list.lt hg)), h.above⟩
theorem RefAt.c0 (h : RefAt w rb now m v) : w.cell? ⟨rb, 0, none⟩ = some (.int .u64 now) := by simp [World.cell?, h.block]
theorem RefAt.c1 (h : RefAt w rb now m v) : w.cell? ⟨rb, 1, none⟩ = some v := by simp [World.cell?, h.block]
theorem RefAt.frozen (h : RefAt w rb now m v) (i : Nat) : w.frozen? ⟨rb, i, none⟩ = false := by simp [World.frozen?, h.block]
theorem RefAt.setL (h : RefAt w rb now m v) {m' : List (ByteArray × Nat)} {v' : Value} (hl : SlAt encT 2 45 w v' m') (ha : ∀ g, inBlock v' g → rb < g) :
    RefAt (w.setCell ⟨rb, 1, none⟩ v') rb now m' v' :=
  ⟨by simp [World.setCell, Array.getElem?_modify, h.block], hl.fr (F := (· = rb)) ((Fr.refl (· = rb) w).setCell (a := ⟨rb, 1, none⟩) (fun _ => rfl) v') (fun g hg => Nat.ne_of_gt (ha g hg)), ha⟩
theorem RefAt.setNow (h : RefAt w rb now m v) (n : Nat) : RefAt (w.setCell ⟨rb, 0, none⟩ (.int .u64 n)) rb n m v :=
  ⟨by simp [World.setCell, Array.getElem?_modify, h.block], h.list.fr (F := (· = rb)) ((Fr.refl (· = rb) w).setCell (a := ⟨rb, 0, none⟩) (fun _ => rfl) _) (fun g hg => Nat.ne_of_gt (h.above g hg)), h.above⟩
theorem OwnE.above {B : Nat} {l : List (ByteArray × Nat)} (h : OwnE B w v l) : ∀ g, inBlock v g → B ≤ g := by
  rintro g ⟨off, n, cap, rfl⟩
  rcases h.2 with ⟨e, _⟩ | ⟨g', cap', cur, e, hb, _⟩
  · cases e
  · injection e with e _ _
    injection e with e
    injection e with e
    omega
end

section
variable {α : Type} {enc : α → List Value} {k : Nat} {w : World} {e : TypeId} {xs : List α} {av : Option Addr} {cv n : Nat}
theorem flatMap_take (hk : ∀ x, (enc x).length = k) : ∀ (xs : List α) (n : Nat), (xs.take n).flatMap enc = (xs.flatMap enc).take (n * k) ∧ (xs.drop n).flatMap enc = (xs.flatMap enc).drop (n * k)
  | [], n => by simp
  | x :: xs, 0 => by simp
  | x :: xs, n + 1 => by
    obtain ⟨h1, h2⟩ := flatMap_take hk xs n
    have h3 : (n + 1) * k = (enc x).length + n * k := by rw [hk, Nat.succ_mul]; omega
    rw [h3, List.flatMap_cons, List.take_succ_cons, List.flatMap_cons, List.drop_succ_cons, List.take_length_add_append, List.drop_length_add_append, h1, h2]
    exact ⟨rfl, rfl⟩

theorem SlAt.take (hk : ∀ x, (enc x).length = k) (h : SlAt enc k e w (.slice av xs.length cv) xs) (hn : n ≤ xs.length) : SlAt enc k e w (.slice av n cv) (xs.take n) := by
  have hl : (xs.take n).length = n := by simp; omega
  rcases h with ⟨h1, rfl⟩ | ⟨g, off, cap, cur, h0, h1, h2, h3, h4, h5, h6⟩
  · injection h1 with e1 _ e3
    have : n = 0 := by simpa using hn
    subst this; subst e1; subst e3
    exact .inl ⟨rfl, rfl⟩
  · injection h0 with e1 _ e3
    subst e1; subst e3
    refine .inr ⟨g, off, cv, cur, by rw [hl], h1, by omega, h3, h4, length_flatMap hk _, ?_⟩
    rw [hl, (flatMap_take hk xs n).1, ← h6, List.take_take]
    congr 1
    have := Nat.mul_le_mul_right k hn
    omega

theorem SlAt.drop (hk : ∀ x, (enc x).length = k) (h : SlAt enc k e w (.slice av xs.length cv) xs) (hn : n ≤ xs.length) : SlAt enc k e w (.slice (av.map (·.add (n * k))) (xs.length - n) (cv - n)) (xs.drop n) := by
  have hl : (xs.drop n).length = xs.length - n := by simp
  rcases h with ⟨h1, rfl⟩ | ⟨g, off, cap, cur, h0, h1, h2, h3, h4, h5, h6⟩
  · injection h1 with e1 _ e3
    have : n = 0 := by simpa using hn
    subst this; subst e1; subst e3
    exact .inl ⟨rfl, rfl⟩
  · injection h0 with e1 _ e3
    subst e1; subst e3
    have hadd : (⟨g, off, none⟩ : Addr).add (n * k) = ⟨g, off + n * k, none⟩ := by unfold Addr.add; split <;> simp_all
    have hm := Nat.mul_le_mul_right k (Nat.le_trans hn h2)
    refine .inr ⟨g, off + n * k, cv - n, cur, by rw [hl, Option.map_some, hadd], h1, by omega, by rw [Nat.sub_mul]; omega, by omega, length_flatMap hk _, ?_⟩
    rw [hl, (flatMap_take hk xs n).2, ← h6, List.drop_take, List.drop_drop, Nat.sub_mul]

theorem SlAt.rest (h : SlAt enc k e w (.slice av xs.length cv) xs) (hn : xs.length ≤ n) : SlAt enc k e w (.slice av (xs.length - n) 0) (xs.drop n) := by
  have hl : xs.drop n = [] := List.drop_eq_nil_of_le hn
  rw [hl, show xs.length - n = 0 by omega]
  rcases h with ⟨h1, rfl⟩ | ⟨g, off, cap, cur, h0, h1, h2, h3, h4, h5, h6⟩
  · injection h1 with e1 _ e3
    subst e1
    exact .inl ⟨rfl, rfl⟩
  · injection h0 with e1 _ e3
    subst e1; subst e3
    exact .inr ⟨g, off, 0, cur, rfl, h1, by simp, by omega, by omega, by simp, by simp⟩
end

theorem SlAt.addr {α : Type} {enc : α → List Value} {k : Nat} {w : World} {e : TypeId} {xs : List α} {av : Option Addr} {n cv : Nat} (h : SlAt enc k e w (.slice av n cv) xs) : av = none ∨ ∃ g off, av = some ⟨g, off, none⟩ := by
  rcases h with ⟨h1, _⟩ | ⟨g, off, cap, cur, h0, _⟩
  · injection h1 with e1 _ _
    exact .inl e1
  · injection h0 with e1 _ _
    exact .inr ⟨g, off, e1⟩
theorem inBlock_map {av : Option Addr} {n c n' c' k : Nat} {g : Nat} (ha : av = none ∨ ∃ g off, av = some ⟨g, off, none⟩) (h : inBlock (.slice (av.map (·.add k)) n c) g) : inBlock (.slice av n' c') g := by
  obtain ⟨off, x, y, e⟩ := h
  injection e with e _ _
  rcases ha with rfl | ⟨g1, o1, rfl⟩
  · cases e
  · have hadd : (⟨g1, o1, none⟩ : Addr).add k = ⟨g1, o1 + k, none⟩ := by unfold Addr.add; split <;> simp_all
    rw [Option.map_some, hadd] at e
    injection e with e
    injection e with e1 _
    subst e1
    exact ⟨_, _, _, rfl⟩
/-- what the reference's Advance does -/
def AdvRSays (w w' : World) (rb t : Nat) (m : List (ByteArray × Nat)) (e : Ending) : Prop :=
  ∃ n v1 v2, DueSays m t n ∧ e = .returned v1 ∧ SlAt encT 2 45 w' v1 (m.take n) ∧ (∀ g, inBlock v1 g → rb < g) ∧ RefAt w' rb t (m.drop n) v2 ∧ Fr (· = rb) w w'
theorem inBlock_len {av : Option Addr} {n c n' c' : Nat} {g : Nat} (h : inBlock (.slice av n c) g) : inBlock (.slice av n' c') g := by
  obtain ⟨off, x, y, e⟩ := h
  injection e with e _ _
  subst e
  exact ⟨_, _, _, rfl⟩

set_option maxRecDepth 100000 in
set_option maxHeartbeats 400000 in
theorem ref_put_no (w : World) (rb now : Nat) (m : List (ByteArray × Nat)) (v : Value) (name : ByteArray) (t : Nat) (h : RefAt w rb now m v) (ht : t ≤ now) :
    Calls Try.prog 7 #[.pointer (some ⟨rb, 0, none⟩), .string name, .int .u64 t] w fun e w' => e = .returned (.bool false) ∧ w = w' := by
  have c0 := h.c0
  clear h
  have hle : decide ((t : Int) ≤ (now : Int)) = true := by simpa using ht
  go_enter Try.func7, Try.ntmps7
  go_wp2_with (first | (at_delete; refine At.stop ?_) | (at_mapUpdate; refine At.stop ?_) | (at_lookup; refine At.stop ?_) | (at_range; refine At.stop ?_) | (at_next; refine At.stop ?_) | (at_builtin; refine At.stop ?_))
  go_ret
  exact ⟨rfl, rfl⟩

set_option maxRecDepth 100000 in
set_option maxHeartbeats 400000 in
theorem ref_put_yes (w : World) (rb now : Nat) (m : List (ByteArray × Nat)) (v : Value) (name : ByteArray) (t : Nat) (h : RefAt w rb now m v) (ht : now < t) (hl : m.length ≤ 1000000) (hasc : Asc m) :
    Calls Try.prog 7 #[.pointer (some ⟨rb, 0, none⟩), .string name, .int .u64 t] w fun e w' => ∃ l v', e = .returned (.bool true) ∧ l.Perm (dropL m name ++ [(name, t)]) ∧ Asc l ∧ RefAt w' rb now l v' ∧ Fr (· = rb) w w' := by
  have c0 := h.c0
  have c1 := h.c1
  have hlt := h.lt
  have hle : decide ((t : Int) ≤ (now : Int)) = false := by simpa using ht
  have HP := Lib.hid (ref_putL w v m (name, t) h.list hl hasc)
  have HH := Lib.hid h
  clear h hl hasc
  go_enter Try.func7, Try.ntmps7
  go_wp2_with (first | (at_delete; refine At.stop ?_) | (at_mapUpdate; refine At.stop ?_) | (at_lookup; refine At.stop ?_) | (at_range; refine At.stop ?_) | (at_next; refine At.stop ?_) | (at_builtin; refine At.stop ?_))
  refine HP.out.mono ?_
  rintro e w1 ⟨v', l, rfl, hp, ha, ho, hB⟩
  obtain ⟨av, cv, rfl, _⟩ := (OwnS.at ho).shape
  have h1 := HH.out.fr (Fr.of_new (F := fun _ => False) hB) (fun _ _ _ hc => hc)
  have c1' := h1.c1
  have hfz := h1.frozen 1
  have HR := Lib.hid (And.intro hp (And.intro ha (And.intro (h1.setL (OwnS.at ho) (fun g hg => Nat.lt_of_lt_of_le hlt (OwnE.above ho g hg))) ((Fr.of_new (F := (· = rb)) hB).setCell (a := ⟨rb, 1, none⟩) (fun _ => rfl) (.slice av l.length cv)))))
  clear h1 hp ha ho hB c0 c1
  go_wp2_with (first | (at_delete; refine At.stop ?_) | (at_mapUpdate; refine At.stop ?_) | (at_lookup; refine At.stop ?_) | (at_range; refine At.stop ?_) | (at_next; refine At.stop ?_) | (at_builtin; refine At.stop ?_))
  go_ret
  obtain ⟨h1, h2, h3, h4⟩ := HR.out
  exact ⟨l, _, rfl, h1, h2, h3, h4⟩

set_option maxRecDepth 100000 in
set_option maxHeartbeats 400000 in
theorem ref_drop (w : World) (rb now : Nat) (m : List (ByteArray × Nat)) (v : Value) (name : ByteArray) (h : RefAt w rb now m v) (hl : m.length ≤ 1000000) :
    Calls Try.prog 9 #[.pointer (some ⟨rb, 0, none⟩), .string name] w fun e w' => ∃ v' bb, (bb = true ↔ name ∈ keys m) ∧ e = .returned (.bool bb) ∧ RefAt w' rb now (dropL m name) v' ∧ Fr (· = rb) w w' := by
  have c1 := h.c1
  have hlt := h.lt
  have HF := Lib.hid (ref_find w v m name h.list hl)
  have HP := Lib.hid (ref_dropL w v m name h.list hl)
  have HH := Lib.hid h
  clear h hl
  go_enter Try.func9, Try.ntmps9
  go_wp2_with (first | (at_delete; refine At.stop ?_) | (at_mapUpdate; refine At.stop ?_) | (at_lookup; refine At.stop ?_) | (at_range; refine At.stop ?_) | (at_next; refine At.stop ?_) | (at_builtin; refine At.stop ?_))
  refine HF.out.mono ?_
  rintro e w' ⟨⟨z, hz, rfl⟩, rfl⟩
  have HZ := Lib.hid (show decide ((0 : Int) ≤ z) = true ↔ name ∈ keys m from decide_eq_true_iff.trans hz.1)
  clear hz
  generalize hzb : decide ((0 : Int) ≤ z) = bb at HZ
  go_wp2_with (first | (at_delete; refine At.stop ?_) | (at_mapUpdate; refine At.stop ?_) | (at_lookup; refine At.stop ?_) | (at_range; refine At.stop ?_) | (at_next; refine At.stop ?_) | (at_builtin; refine At.stop ?_))
  refine HP.out.mono ?_
  rintro e w1 ⟨v', rfl, ho, hB⟩
  obtain ⟨av, cv, rfl, _⟩ := (OwnS.at ho).shape
  have h1 := HH.out.fr (Fr.of_new (F := fun _ => False) hB) (fun _ _ _ hc => hc)
  have c1' := h1.c1
  have hfz := h1.frozen 1
  have HR := Lib.hid (And.intro (h1.setL (OwnS.at ho) (fun g hg => Nat.lt_of_lt_of_le hlt (OwnE.above ho g hg))) ((Fr.of_new (F := (· = rb)) hB).setCell (a := ⟨rb, 1, none⟩) (fun _ => rfl) (.slice av (dropL m name).length cv)))
  clear h1 ho hB c1
  go_wp2_with (first | (at_delete; refine At.stop ?_) | (at_mapUpdate; refine At.stop ?_) | (at_lookup; refine At.stop ?_) | (at_range; refine At.stop ?_) | (at_next; refine At.stop ?_) | (at_builtin; refine At.stop ?_))
  go_ret
  obtain ⟨h3, h4⟩ := HR.out
  exact ⟨_, bb, HZ.out, rfl, h3, h4⟩
set_option maxRecDepth 100000 in
set_option maxHeartbeats 400000 in
theorem ref_adv_no (w : World) (rb now : Nat) (m : List (ByteArray × Nat)) (v : Value) (t : Nat) (h : RefAt w rb now m v) (ht : t < now) :
    Calls Try.prog 12 #[.pointer (some ⟨rb, 0, none⟩), .int .u64 t] w fun e w' => e = .returned (.slice none 0 0) ∧ w = w' := by
  have c0 := h.c0
  clear h
  have hle : decide ((t : Int) < (now : Int)) = true := by simpa using ht
  go_enter Try.func12, Try.ntmps12
  go_wp2_with (first | (at_delete; refine At.stop ?_) | (at_mapUpdate; refine At.stop ?_) | (at_lookup; refine At.stop ?_) | (at_range; refine At.stop ?_) | (at_next; refine At.stop ?_) | (at_builtin; refine At.stop ?_))
  go_ret
  exact ⟨rfl, rfl⟩

set_option maxRecDepth 100000 in
set_option maxHeartbeats 400000 in
theorem ref_adv_yes (w : World) (rb now : Nat) (m : List (ByteArray × Nat)) (v : Value) (t : Nat) (h : RefAt w rb now m v) (ht : now ≤ t) (hl : m.length ≤ 1000000) :
    Calls Try.prog 12 #[.pointer (some ⟨rb, 0, none⟩), .int .u64 t] w fun e w' => AdvRSays w w' rb t m e := by
  have c0 := h.c0
  have c1 := h.c1
  have hlt := h.lt
  have hle : decide ((t : Int) < (now : Int)) = false := by simpa using ht
  have HP := Lib.hid (ref_due w v m t h.list hl)
  have HH := Lib.hid h
  have hfz0 := h.frozen 0
  have hfz1 := h.frozen 1
  obtain ⟨av, cv, rfl, _, hcv⟩ := h.list.shape
  clear h hl
  go_enter Try.func12, Try.ntmps12
  go_wp2_with (first | (at_delete; refine At.stop ?_) | (at_mapUpdate; refine At.stop ?_) | (at_lookup; refine At.stop ?_) | (at_range; refine At.stop ?_) | (at_next; refine At.stop ?_) | (at_builtin; refine At.stop ?_))
  refine HP.out.mono ?_
  rintro e w1 ⟨⟨n, hn, rfl⟩, rfl⟩
  have hn1 := hn.1
  have HN := Lib.hid hn
  clear hn
  go_wp2_with (first | (at_delete; refine At.stop ?_) | (at_mapUpdate; refine At.stop ?_) | (at_lookup; refine At.stop ?_) | (at_range; refine At.stop ?_) | (at_next; refine At.stop ?_) | (at_builtin; refine At.stop ?_))
  · obtain rfl : cv = n := by omega
    have h0 := HH.out
    have hmn : m.length ≤ cv := by omega
    go_ret
    refine ⟨_, _, _, HN.out, rfl, ?_, ?_, (h0.setL (h0.list.rest hmn) (fun g hg => h0.above g (inBlock_len hg))).setNow t, ?_⟩
    · exact ((h0.list.take encT_len hn1).fr (F := (· = rb)) (((Fr.refl (· = rb) w).setCell (a := ⟨rb, 1, none⟩) (fun _ => rfl) _).setCell (a := ⟨rb, 0, none⟩) (fun _ => rfl) _) (fun g hg => Nat.ne_of_gt (h0.above g (inBlock_len hg))))
    · exact fun g hg => h0.above g (inBlock_len hg)
    · exact ((Fr.refl (· = rb) w).setCell (a := ⟨rb, 1, none⟩) (fun _ => rfl) _).setCell (a := ⟨rb, 0, none⟩) (fun _ => rfl) _
  · have h0 := HH.out
    go_ret
    refine ⟨n, _, _, HN.out, rfl, ?_, ?_, (h0.setL (h0.list.drop encT_len hn1) (fun g hg => h0.above g (inBlock_map h0.list.addr hg))).setNow t, ?_⟩
    · exact ((h0.list.take encT_len hn1).fr (F := (· = rb)) (((Fr.refl (· = rb) w).setCell (a := ⟨rb, 1, none⟩) (fun _ => rfl) _).setCell (a := ⟨rb, 0, none⟩) (fun _ => rfl) _) (fun g hg => Nat.ne_of_gt (h0.above g (inBlock_len hg))))
    · exact fun g hg => h0.above g (inBlock_len hg)
    · exact ((Fr.refl (· = rb) w).setCell (a := ⟨rb, 1, none⟩) (fun _ => rfl) _).setCell (a := ⟨rb, 0, none⟩) (fun _ => rfl) _
end Go.Proofs.Ytfjmdblfokjnmaa
