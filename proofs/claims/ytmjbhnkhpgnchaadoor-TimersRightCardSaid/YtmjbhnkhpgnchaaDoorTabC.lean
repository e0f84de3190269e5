/-
  The table's Set.
-/
import Derived.Test.YtmjbhnkhpgnchaaDoorTabB
namespace Go.Proofs.YtmjbhnkhpgnchaaDoor
open Go Go.RowKit

theorem put_foot' (S : WSt) (name : ByteArray) (t b : Nat) : (S.put name t).foot b = S.foot b := by
  unfold WSt.put
  rw [set_foot]
  have e1 : ∀ (S' : WSt) (l : List (ByteArray × Nat)), ({ S' with all := l } : WSt).foot b = S'.foot b := fun S' l => by
    funext k
    simp only [WSt.foot]
    rfl
  rw [e1, drop_foot]

/-- a timer comes in: what the table is then -/
def setT (T : TSt) (t : Tm) (dv : Value) (v' : Value) (l' : List Ent) (S' : WSt) : TSt := ⟨T.rm, T.q, ⟨T.Q.re, T.Q.rm, v', l'⟩, T.f, S', aput T.L t.name (t, dv)⟩

section
variable {w w5 w6 : World} {b : Nat} {T : TSt} {t : Tm} {dv v' : Value} {l' : List Ent} {S' : WSt}

/-- the last step of Set: the timer stands in the map; it has come into the queue, or into the wheel. -/
theorem tset_done (h : TabAt w b T) (hn : aget T.L t.name = none) (hr : rightT t = true) (hwf : t.wf) (hsm : T.L.length + 1 ≤ 10000)
    (hF : Fr T.foot w w6) (hM : IsMap Value.string encTM w6 T.rm (aput T.L t.name (t, dv))) (ho : OwnSt 0 w6 dv t.do_) (hQ : QueAt w6 T.q ⟨T.Q.re, T.Q.rm, v', l'⟩) (hW : WheelAt w6 T.f S')
    (hS : (∀ k, S'.foot T.f k ↔ T.S.foot T.f k) ∧ Good S' ∧ S'.now = T.S.now) (hlies : Lies w5 T.Q.v v') (hw5 : ∀ k, T.foot k → k < w5.heap.size)
    (hl : ∀ e : Ent, e ∈ l' ↔ (e = (t.name, t.at_) ∧ t.at_ ≤ T.S.now) ∨ e ∈ T.Q.l) (hall : ∀ e : Ent, e ∈ S'.all ↔ (e = (t.name, t.at_) ∧ T.S.now < t.at_) ∨ e ∈ T.S.all) :
    TabAt w6 b (setT T t dv v' l' S') ∧ ∀ k, (setT T t dv v' l' S').foot k → T.foot k ∨ w5.heap.size ≤ k := by
  have hnd := h.all.nodup
  have hnk := aget_none.1 hn
  have hfootQ : ∀ k, QSt.foot ⟨T.Q.re, T.Q.rm, v', l'⟩ k → T.Q.foot k ∨ w5.heap.size ≤ k := fun k hk => by
    rcases hk with e | e | e
    · exact .inl (.inl e)
    · exact .inl (.inr (.inl e))
    · rcases hlies k e with h1 | h1
      · exact .inl (.inr (.inr h1))
      · exact .inr h1
  have hmem : ∀ (nm : ByteArray) (s : Tm) (v : Value), (nm, (s, v)) ∈ aput T.L t.name (t, dv) ↔ (nm, (s, v)) = (t.name, (t, dv)) ∨ (nm, (s, v)) ∈ T.L := fun nm s v => by
    rw [mem_aput hnd]
    constructor
    · rintro (e | ⟨e, _⟩)
      · exact .inl e
      · exact .inr e
    · rintro (e | e)
      · exact .inl e
      · exact .inr ⟨e, fun e1 => hnk (by rw [← e1]; exact List.mem_map_of_mem (f := (·.1)) e)⟩
  refine ⟨?_, ?_⟩
  · unfold setT
    refine h.turn hF hM hQ hW hS.2.1 (by rw [hS.2.2]; exact h.now) ?_ ?_ ?_ ?_ ?_ ?_ ?_ ?_
    · intro p hp
      rcases (hmem p.1 p.2.1 p.2.2).1 hp with e | e
      · have : p = (t.name, (t, dv)) := e
        subst this
        exact ho
      · exact (h.steps p e).keep h hF
    · intro p hp
      rcases (hmem p.1 p.2.1 p.2.2).1 hp with e | e
      · have : p = (t.name, (t, dv)) := e
        subst this
        rfl
      · exact h.names p e
    · intro p hp
      rcases (hmem p.1 p.2.1 p.2.2).1 hp with e | e
      · have : p = (t.name, (t, dv)) := e
        subst this
        exact ⟨hr, hwf⟩
      · exact h.right p e
    · intro e
      rw [hl e, h.due e, hS.2.2]
      constructor
      · rintro (⟨rfl, h1⟩ | ⟨s, v, h1, h2, h3⟩)
        · exact ⟨t, dv, (hmem _ _ _).2 (.inl rfl), rfl, h1⟩
        · exact ⟨s, v, (hmem _ _ _).2 (.inr h1), h2, h3⟩
      · rintro ⟨s, v, h1, h2, h3⟩
        rcases (hmem _ _ _).1 h1 with e1 | e1
        · simp only [Prod.mk.injEq] at e1
          obtain ⟨e1, e2, e3⟩ := e1
          subst e2
          exact .inl ⟨by rw [← e1, h2], h3⟩
        · exact .inr ⟨s, v, e1, h2, h3⟩
    · intro e
      rw [hall e, h.far e, hS.2.2]
      constructor
      · rintro (⟨rfl, h1⟩ | ⟨s, v, h1, h2, h3⟩)
        · exact ⟨t, dv, (hmem _ _ _).2 (.inl rfl), rfl, h1⟩
        · exact ⟨s, v, (hmem _ _ _).2 (.inr h1), h2, h3⟩
      · rintro ⟨s, v, h1, h2, h3⟩
        rcases (hmem _ _ _).1 h1 with e1 | e1
        · simp only [Prod.mk.injEq] at e1
          obtain ⟨e1, e2, e3⟩ := e1
          subst e2
          exact .inl ⟨by rw [← e1, h2], h3⟩
        · exact .inr ⟨s, v, e1, h2, h3⟩
    · intro k hk hk2
      rw [hS.1] at hk2
      rcases hfootQ k hk with h1 | h1
      · exact h.sepQ k h1 hk2
      · have := hw5 k (.inr (.inr hk2)); omega
    · rw [hS.1]
      refine ⟨fun hk => ?_, h.sepR.2⟩
      rcases hfootQ _ hk with h1 | h1
      · exact h.sepR.1 h1
      · have := hw5 _ (.inl rfl); omega
    · have := length_aput_le T.L t.name (t, dv)
      omega
  · rintro k (e | hk | hk)
    · exact .inl (.inl e)
    · rcases hfootQ k hk with h1 | h1
      · exact .inl (.inr (.inl h1))
      · exact .inr h1
    · exact .inl (.inr (.inr ((hS.1 k).1 hk)))
end

/-- the cells that Set reads, while it writes -/
def SetS (b : Nat) (T : TSt) (x : Nat) (t : Tm) (sa : Option Addr) (sc : Nat) (w : World) : Prop :=
  w.cell? ⟨b, 0, none⟩ = some (.map (some T.rm)) ∧ w.cell? ⟨b, 1, none⟩ = some (.pointer (some ⟨T.q, 0, none⟩)) ∧ w.cell? ⟨b, 2, none⟩ = some (.pointer (some ⟨T.f, 0, none⟩)) ∧
  w.cell? ⟨x, 0, none⟩ = some (.string t.name) ∧ w.cell? ⟨x, 1, none⟩ = some (.int .i64 t.ver) ∧ w.cell? ⟨x, 2, none⟩ = some (.int .u64 t.at_) ∧ w.cell? ⟨x, 3, none⟩ = some (.int .u64 t.every) ∧ w.cell? ⟨x, 4, none⟩ = some (.slice sa t.do_.length sc)

theorem SetS.of {w : World} {b x : Nat} {T : TSt} {t : Tm} {sa : Option Addr} {sc : Nat} (h : TabAt w b T) (hx : w.heap[x]? = some (.cells #[.string t.name, .int .i64 t.ver, .int .u64 t.at_, .int .u64 t.every, .slice sa t.do_.length sc] 25 (0, 0))) :
    SetS b T x t sa sc w := by
  refine ⟨h.c0, h.c1, h.c2, ?_, ?_, ?_, ?_, ?_⟩ <;> simp [World.cell?, hx]

theorem SetS.fr {w w' : World} {b x : Nat} {T : TSt} {t : Tm} {sa : Option Addr} {sc : Nat} {F : Nat → Prop} (h : SetS b T x t sa sc w) (hf : Fr F w w') (hb : b < w.heap.size) (hx : x < w.heap.size) (h1 : ¬ F b) (h2 : ¬ F x) : SetS b T x t sa sc w' := by
  obtain ⟨a0, a1, a2, a3, a4, a5, a6, a7⟩ := h
  exact ⟨(hf.cell (p := ⟨b, 0, none⟩) hb h1).trans a0, (hf.cell (p := ⟨b, 1, none⟩) hb h1).trans a1, (hf.cell (p := ⟨b, 2, none⟩) hb h1).trans a2, (hf.cell (p := ⟨x, 0, none⟩) hx h2).trans a3,
    (hf.cell (p := ⟨x, 1, none⟩) hx h2).trans a4, (hf.cell (p := ⟨x, 2, none⟩) hx h2).trans a5, (hf.cell (p := ⟨x, 3, none⟩) hx h2).trans a6, (hf.cell (p := ⟨x, 4, none⟩) hx h2).trans a7⟩

theorem dropT_foot {T : TSt} {name : ByteArray} {v' : Value} {l' : List Ent} (hv : v'.ownBlock = T.Q.v.ownBlock) {k : Nat} (hk : (dropT T name v' l').foot k) : T.foot k := by
  rcases hk with e | (e | e | e) | e
  · exact .inl e
  · exact .inr (.inl (.inl e))
  · exact .inr (.inl (.inr (.inl e)))
  · exact .inr (.inl (.inr (.inr (by rw [← hv]; exact e))))
  · refine .inr (.inr ?_)
    have e' : (T.S.drop name).foot T.f k := e
    rw [drop_foot] at e'
    exact e'

/-- behind Set's Drop: the copy, and the map's entry -/
theorem tset_map {w2 w3 : World} {b x : Nat} {T : TSt} {t : Tm} {sa : Option Addr} {sc : Nat} {dv3 : Value} (h : TabAt w2 b T) (hx : w2.heap[x]? = some (.cells #[.string t.name, .int .i64 t.ver, .int .u64 t.at_, .int .u64 t.every, .slice sa t.do_.length sc] 25 (0, 0)))
    (hb3 : RowKit.Below w2.drew.heap.size w2.drew w3) :
    ∃ w5, (Instr.mapUpdate 52 (.map (some T.rm)) (.string t.name) (tmV t dv3)).run Tryd.prog w3 = .ok () w5 ∧ SetS b T x t sa sc w3 ∧ SetS b T x t sa sc w5 ∧ Fr (· = T.rm) w3 w5 ∧ IsMap Value.string encTM w5 T.rm (aput T.L t.name (t, dv3)) := by
  have hf3 : Fr (fun _ => False) w2 w3 := ((Fr.refl (fun _ => False) w2).drew).trans (Fr.of_new hb3)
  obtain ⟨w5, hr5, hf5, _, hm5⟩ := run_update (P := Tryd.prog) Tryd.underlying52 key_tm (h.all.fr hf3 (fun h => h)) t.name (t, dv3)
  have hxlt := (Array.getElem?_eq_some_iff.1 hx).1
  have hS3 := (SetS.of h hx).fr hf3 h.lt hxlt (fun h => h) (fun h => h)
  refine ⟨w5, hr5, hS3, hS3.fr hf5 (Nat.lt_of_lt_of_le h.lt hf3.size) (Nat.lt_of_lt_of_le hxlt hf3.size) (fun e => h.not_foot h.block not_mut_table (.inl e)) (fun e => h.not_foot hx not_mut_timer (.inl e)), hf5, hm5⟩

def TSetSays (w : World) (b : Nat) (T : TSt) (t : Tm) (e : Ending) (w' : World) : Prop :=
  (rightT t = false → e = .returned (.int .i64 101) ∧ RowKit.Below w.heap.size w w') ∧
  (rightT t = true → ∃ T' dv, e = .returned (.int .i64 0) ∧ TabAt w' b T' ∧ T'.S.now = T.S.now ∧ T'.L = aput (adel T.L t.name) t.name (t, dv) ∧ OwnSt w.heap.size w' dv t.do_ ∧ Fr T.foot w w' ∧ (∀ k, T'.foot k → T.foot k ∨ w.heap.size ≤ k) ∧ T'.q = T.q)


/-- the world and the table ahead of the last two steps of Set: w5 -/
structure TPre (w w2 w5 : World) (b : Nat) (T : TSt) (t : Tm) (sa : Option Addr) (sc : Nat) (v1 : Value) (l1 : List Ent) (dv3 : Value) : Prop where
  old : TabAt w b T
  tab : TabAt w2 b (dropT T t.name v1 l1)
  own : v1.ownBlock = T.Q.v.ownBlock
  x2 : w2.heap[w.heap.size]? = some (.cells #[.string t.name, .int .i64 t.ver, .int .u64 t.at_, .int .u64 t.every, .slice sa t.do_.length sc] 25 (0, 0))
  fr2 : Fr T.foot w w2
  fr5 : Fr (dropT T t.name v1 l1).foot w2 w5
  map : IsMap Value.string encTM w5 T.rm (aput (adel T.L t.name) t.name (t, dv3))
  stp : OwnSt w2.heap.size w5 dv3 t.do_
  whl : WheelAt w5 T.f (T.S.drop t.name)
  que : QueAt w5 T.q ⟨T.Q.re, T.Q.rm, v1, l1⟩
  set : SetS b (dropT T t.name v1 l1) w.heap.size t sa sc w5

theorem tset_pre {w w1 w2 w3 w5 : World} {b : Nat} {T : TSt} {t : Tm} {sa : Option Addr} {sc : Nat} {v1 : Value} {l1 : List Ent} {dv3 : Value} (h : TabAt w b T) (hB : RowKit.Below w.heap.size w w1) (h2 : TabAt w2 b (dropT T t.name v1 l1)) (hv : v1.ownBlock = T.Q.v.ownBlock) (hf2 : Fr T.foot w1 w2)
    (hx : w2.heap[w.heap.size]? = some (.cells #[.string t.name, .int .i64 t.ver, .int .u64 t.at_, .int .u64 t.every, .slice sa t.do_.length sc] 25 (0, 0)))
    (ho3 : OwnSt w2.drew.heap.size w3 dv3 t.do_) (hb3 : RowKit.Below w2.drew.heap.size w2.drew w3) (hf5 : Fr (· = (dropT T t.name v1 l1).rm) w3 w5) (hm5 : IsMap Value.string encTM w5 (dropT T t.name v1 l1).rm (aput (dropT T t.name v1 l1).L t.name (t, dv3))) :
    TPre w w2 w5 b T t sa sc v1 l1 dv3 := by
  have hf3 : Fr (fun _ => False) w2 w3 := ((Fr.refl (fun _ => False) w2).drew).trans (Fr.of_new hb3)
  have hf : Fr (dropT T t.name v1 l1).foot w2 w5 := (hf3.mono fun _ _ h => h.elim).trans (hf5.mono fun k _ e => .inl e)
  have hxlt := (Array.getElem?_eq_some_iff.1 hx).1
  refine ⟨h, h2, hv, hx, (Fr.of_new hB).trans hf2, hf, hm5, ?_, ?_, ?_, ?_⟩
  · exact OwnS.fr ho3 hf5 (fun g hg e => by
      have h1 := (ho3.lt g hg).1
      have h3 := h2.foot_lt (k := g) (.inl e)
      have h4 : w2.heap.size ≤ g := h1
      omega)
  · exact (h2.whl.fr hf3 (fun _ _ h => h)).fr hf5 (fun k hk e => h2.sepR.2 (by rw [← e]; exact hk))
  · exact (h2.que.move hf3).fr hf5 (fun e => h2.not_foot h2.que.block not_mut_queue (.inl e)) (fun k hk e => h2.sepR.1 (by rw [← e]; exact hk))
  · exact (SetS.of h2 hx).fr hf h2.lt hxlt (h2.not_foot h2.block not_mut_table) (h2.not_foot hx not_mut_timer)

section
variable {w w2 w5 w6 : World} {b : Nat} {T : TSt} {t : Tm} {sa : Option Addr} {sc : Nat} {v1 : Value} {l1 : List Ent} {dv3 : Value}

theorem TPre.step (h : TPre w w2 w5 b T t sa sc v1 l1 dv3) {F : Nat → Prop} (hf : Fr F w5 w6) (hF : ∀ k, F k → (dropT T t.name v1 l1).foot k) : SetS b (dropT T t.name v1 l1) w.heap.size t sa sc w6 :=
  h.set.fr hf (Nat.lt_of_lt_of_le h.tab.lt h.fr5.size) (Nat.lt_of_lt_of_le (Array.getElem?_eq_some_iff.1 h.x2).1 h.fr5.size) (fun e => h.tab.not_foot h.tab.block not_mut_table (hF _ e)) (fun e => h.tab.not_foot h.x2 not_mut_timer (hF _ e))

theorem TPre.drew (h : TPre w w2 w5 b T t sa sc v1 l1 dv3) : TPre w w2 w5.drew b T t sa sc v1 l1 dv3 :=
  ⟨h.old, h.tab, h.own, h.x2, h.fr2, h.fr5.drew, h.map.fr ((Fr.refl (fun _ => False) w5).drew) (fun h => h), h.stp, h.whl.fr ((Fr.refl (fun _ => False) w5).drew) (fun _ _ h => h), h.que.move ((Fr.refl _ w5).drew), h.set.fr ((Fr.refl (fun _ => False) w5).drew) (Nat.lt_of_lt_of_le h.tab.lt h.fr5.size) (Nat.lt_of_lt_of_le (Array.getElem?_eq_some_iff.1 h.x2).1 h.fr5.size) (fun h => h) (fun h => h)⟩

theorem TPre.fresh (h : TPre w w2 w5 b T t sa sc v1 l1 dv3) : t.name ∉ keys l1 := by
  intro hk
  obtain ⟨e, he, e1⟩ := List.mem_map.1 hk
  obtain ⟨s, v, h1, _⟩ := (h.tab.due e).1 he
  have h2 : (e.1, (s, v)) ∈ adel T.L t.name := h1
  exact ((mem_adel h.old.all.nodup).1 h2).2 e1

theorem TPre.room (h : TPre w w2 w5 b T t sa sc v1 l1 dv3) : l1.length + 1 ≤ 1000000 := by
  have h1 : (keys l1).Nodup := h.tab.que.ent.nodup
  have h2 : (keys l1).length ≤ (keys T.L).length := len_of_sub h1 fun k hk => by
    obtain ⟨e, he, e1⟩ := List.mem_map.1 hk
    obtain ⟨s, v, h1, _⟩ := (h.tab.due e).1 he
    have h2 : (e.1, (s, v)) ∈ adel T.L t.name := h1
    have h3 := ((mem_adel h.old.all.nodup).1 h2).1
    rw [← e1]
    exact List.mem_map_of_mem (f := (·.1)) h3
  have h3 : l1.length ≤ T.L.length := by
    have e1 : (keys l1).length = l1.length := List.length_map ..
    have e2 : (keys T.L).length = T.L.length := List.length_map ..
    omega
  have := h.old.small
  omega

theorem TPre.done (h : TPre w w2 w5 b T t sa sc v1 l1 dv3) (hr : rightT t = true) (hwf : t.wf) (hsm : T.L.length + 1 ≤ 10000) {v' : Value} {l' : List Ent} {S' : WSt} (hF : Fr (dropT T t.name v1 l1).foot w5 w6)
    (hQ : QueAt w6 T.q ⟨T.Q.re, T.Q.rm, v', l'⟩) (hW : WheelAt w6 T.f S') (hS : (∀ k, S'.foot T.f k ↔ (T.S.drop t.name).foot T.f k) ∧ Good S' ∧ S'.now = (T.S.drop t.name).now) (hlies : Lies w5 v1 v') (hsep : ¬ (dropT T t.name v1 l1).Q.foot T.rm ∧ ¬ (dropT T t.name v1 l1).S.foot T.f T.rm → IsMap Value.string encTM w6 T.rm (aput (adel T.L t.name) t.name (t, dv3)))
    (hl : ∀ e : Ent, e ∈ l' ↔ (e = (t.name, t.at_) ∧ t.at_ ≤ (T.S.drop t.name).now) ∨ e ∈ l1) (hall : ∀ e : Ent, e ∈ S'.all ↔ (e = (t.name, t.at_) ∧ (T.S.drop t.name).now < t.at_) ∨ e ∈ (T.S.drop t.name).all) :
    TSetSays w b T t (.returned (.int .i64 0)) w6 := by
  refine ⟨(fun e => by rw [hr] at e; cases e), fun _ => ?_⟩
  have hn : aget (adel T.L t.name) t.name = none := aget_none.2 fun hk => by
    exact ((mem_adel_fst h.old.all.nodup).1 hk).1 rfl
  have ho6 : OwnSt w2.heap.size w6 dv3 t.do_ := OwnS.fr h.stp hF fun g hg hk => by
    have h1 := (h.stp.lt g hg).1
    have h2 := h.tab.foot_lt hk
    omega
  have hw2 : w.heap.size ≤ w2.heap.size := h.fr2.size
  have hM := hsep h.tab.sepR
  obtain ⟨h1, h2⟩ := tset_done (w5 := w5) h.tab hn hr hwf (by
    have h1 := length_adel_le T.L t.name
    show (adel T.L t.name).length + 1 ≤ _
    omega) (h.fr5.trans hF) hM (OwnS.wide ho6 (Nat.zero_le _)) hQ hW hS hlies (fun k hk => Nat.lt_of_lt_of_le (h.tab.foot_lt hk) h.fr5.size) hl hall
  refine ⟨_, dv3, rfl, h1, ?_, rfl, OwnS.wide ho6 hw2, ?_, ?_, rfl⟩
  · show S'.now = T.S.now
    rw [hS.2.2, drop_now]
  · exact h.fr2.trans ((h.fr5.trans hF).mono fun k _ hk => dropT_foot h.own hk)
  · intro k hk
    rcases h2 k hk with h3 | h3
    · exact .inl (dropT_foot h.own h3)
    · exact .inr (Nat.le_trans (Nat.le_trans hw2 h.fr5.size) h3)

theorem TPre.far (h : TPre w w2 w5 b T t sa sc v1 l1 dv3) (hr : rightT t = true) (hwf : t.wf) (hsm : T.L.length + 1 ≤ 10000) (hlt : T.S.now < t.at_) (hf6 : Fr ((T.S.drop t.name).foot T.f) w5 w6)
    (hW : WheelAt w6 T.f ((T.S.drop t.name).put t.name t.at_)) : TSetSays w b T t (.returned (.int .i64 0)) w6 := by
  obtain ⟨g1, g2, g3⟩ := h.old.good.drop t.name
  obtain ⟨p1, p2, p3⟩ := g1.put (name := t.name) (t := t.at_) (by rw [drop_now]; exact hlt) hwf.at_
  have hq := h.que.fr hf6 (fun e => h.tab.not_foot h.tab.que.block not_mut_queue (.inr (.inr e))) (fun k hk hk2 => h.tab.sepQ k hk hk2)
  refine h.done hr hwf hsm (hf6.mono fun k _ e => .inr (.inr e)) hq hW ⟨fun k => by rw [put_foot'], p1, p2⟩ (fun g hg => .inl hg) (fun hs => h.map.fr hf6 hs.2) ?_ ?_
  · intro e
    constructor
    · exact fun h => .inr h
    · rintro (⟨_, h1⟩ | h1)
      · rw [drop_now] at h1; omega
      · exact h1
  · intro e
    rw [p3 e, drop_now]
    constructor
    · rintro (h1 | h1)
      · exact .inl ⟨h1, hlt⟩
      · exact .inr h1.1
    · rintro (h1 | h1)
      · exact .inl h1.1
      · exact .inr ⟨h1, ((g3 e).1 h1).2⟩

theorem TPre.near (h : TPre w w2 w5 b T t sa sc v1 l1 dv3) (hr : rightT t = true) (hwf : t.wf) (hsm : T.L.length + 1 ≤ 10000) (hlt : ¬ T.S.now < t.at_) {v' : Value} {l' : List Ent} (hf6 : Fr (QSt.foot ⟨T.Q.re, T.Q.rm, v1, l1⟩) w5 w6)
    (hQ : QueAt w6 T.q ⟨T.Q.re, T.Q.rm, v', l'⟩) (hp : l'.Perm (l1 ++ [(t.name, t.at_)])) (hl : Lies w5 v1 v') : TSetSays w b T t (.returned (.int .i64 0)) w6 := by
  obtain ⟨g1, g2, g3⟩ := h.old.good.drop t.name
  have hW := h.whl.fr hf6 (fun k hk hk2 => h.tab.sepQ k hk2 hk)
  refine h.done hr hwf hsm (hf6.mono fun k _ e => .inr (.inl e)) hQ hW ⟨fun k => Iff.rfl, g1, rfl⟩ hl (fun hs => h.map.fr hf6 hs.1) ?_ ?_
  · intro e
    rw [hp.mem_iff, List.mem_append, List.mem_singleton, drop_now]
    constructor
    · rintro (h1 | h1)
      · exact .inr h1
      · exact .inl ⟨h1, by omega⟩
    · rintro (h1 | h1)
      · exact .inr h1.1
      · exact .inl h1
  · intro e
    rw [drop_now]
    constructor
    · exact fun h => .inr h
    · rintro (⟨_, h1⟩ | h1)
      · omega
      · exact h1
end

set_option maxRecDepth 100000 in
set_option maxHeartbeats 1000000 in
theorem tset_any (w : World) (b : Nat) (T : TSt) (h : TabAt w b T) (t : Tm) (dv : Value) (hdv : RdSt w dv t.do_) (hwf : t.wf) (htab : Tab w) (hsm : T.L.length + 1 ≤ 10000)
    (hdf : t.do_ ≠ [] → ∀ g, inBlock dv g → ¬ T.foot g) :
    Calls Tryd.prog 12 #[.pointer (some ⟨b, 0, none⟩), tmV t dv] w (TSetSays w b T t) := by
  have hB1 := (RowKit.Below.refl w.heap.size w).alloc (Nat.le_refl _) (Obj.cells #[.string t.name, .int .i64 t.ver, .int .u64 t.at_, .int .u64 t.every, dv] 25)
  have hA : Fr (fun _ => False) w (w.alloc (Obj.cells #[.string t.name, .int .i64 t.ver, .int .u64 t.at_, .int .u64 t.every, dv] 25)) := (Fr.refl _ w).alloc _
  have HRt := Lib.hid (tright_any (w.alloc (Obj.cells #[.string t.name, .int .i64 t.ver, .int .u64 t.at_, .int .u64 t.every, dv] 25)) t dv (hdv.move hA) hwf (htab.below hB1))
  obtain ⟨sa, sc, hsv, _⟩ : ∃ sa sc, dv = .slice sa t.do_.length sc ∧ True := by
    obtain ⟨sa, sc, h1, _⟩ := hdv
    exact ⟨sa, sc, h1, trivial⟩
  have h5 : (tmV t dv) = .agg #[.string t.name, .int .i64 t.ver, .int .u64 t.at_, .int .u64 t.every, .slice sa t.do_.length sc] := by rw [hsv]
  have HH := Lib.hid (And.intro h (And.intro hdv (And.intro hwf (And.intro hdf (And.intro hsm hsv)))))
  have hblt := h.lt
  rw [h5]
  rw [hsv] at HRt hB1 hA
  have HA := Lib.hid (And.intro hA hB1)
  clear h hdv hwf htab hdf h5 hsv hA hB1
  go_enter Tryd.func12, Tryd.ntmps12
  go_wp2_with fail
  refine HRt.out.mono ?_
  rintro e w1 ⟨rfl, hb1⟩
  have hsz : (w.alloc (Obj.cells #[.string t.name, .int .i64 t.ver, .int .u64 t.at_, .int .u64 t.every, .slice sa t.do_.length sc] 25)).heap.size = w.heap.size + 1 := World.size_alloc ..
  have hbt1 := (hb1.block w.heap.size (by rw [hsz]; omega)).trans (alloc_get w _ rfl)
  have hB : RowKit.Below w.heap.size w w1 := HA.out.2.trans (hb1.mono (by rw [hsz]; omega))
  cases hrt : rightT t with
  | false =>
    have HB := Lib.hid (And.intro hB hrt)
    clear hB hrt hb1 hbt1 HRt hsz
    go_wp2_with fail
    go_ret
    exact ⟨fun _ => ⟨rfl, HB.out.1⟩, fun h => by rw [HB.out.2] at h; cases h⟩
  | true =>
    have hsz1 : w.heap.size + 1 ≤ w1.heap.size := by have := hb1.size; rw [hsz] at this; exact this
    have hT1 : TabAt w1 b T := HH.out.1.move (Fr.of_new hB)
    have hxf : ¬ T.foot w.heap.size := fun hk => by have := HH.out.1.foot_lt hk; omega
    have HD := Lib.hid (tdrop_any w1 b T hT1 t.name)
    have hd1 : w1.cell? ⟨w.heap.size, 0, none⟩ = some (.string t.name) := by simp [World.cell?, hbt1]
    have HB := Lib.hid (And.intro hB (And.intro hrt (And.intro hbt1 (And.intro hsz1 (And.intro hxf hT1)))))
    clear hB hrt hb1 hbt1 HRt hsz hsz1 hT1 hxf
    go_wp2_with fail
    refine HD.out.mono ?_
    rintro e w2 ⟨v1, l1, rfl, hT2, hv1, hf2⟩
    have hx2 := (hf2.block w.heap.size (Nat.lt_of_lt_of_le (Nat.lt_succ_self _) HB.out.2.2.2.1) HB.out.2.2.2.2.1).trans HB.out.2.2.1
    have HR := Lib.hid (And.intro hT2 (And.intro hv1 (And.intro hf2 hx2)))
    have hS0' : SetS b (dropT T t.name v1 l1) w.heap.size t sa sc w2 := SetS.of hT2 hx2
    have hS0 : SetS b (dropT T t.name v1 l1) w.heap.size t sa sc w2.drew := hS0'
    have HC := Lib.hid (copied_any w2.drew t (.slice sa t.do_.length sc) (by
      obtain ⟨h, hdv, hwf, hdf, hsm, hsv⟩ := HH.out
      rw [← hsv]
      exact ((hdv.move (Fr.of_new HB.out.1)).fr hf2 hdf).move ((Fr.refl _ w2).drew)) HH.out.2.2.1.small)
    have HU := Lib.hid (fun w3 dv3 hb3 => tset_map (w3 := w3) (dv3 := dv3) hT2 hx2 hb3)
    clear hT2 hv1 hf2 hx2 HD hd1 hS0'
    unfold SetS at hS0
    go_wp2_with fail
    go_region_held3 (fun w' => w'.cell? ⟨b, 0, none⟩ = some (.map (some (dropT T t.name v1 l1).rm)) ∧ w'.cell? ⟨b, 1, none⟩ = some (.pointer (some ⟨(dropT T t.name v1 l1).q, 0, none⟩)) ∧ w'.cell? ⟨b, 2, none⟩ = some (.pointer (some ⟨(dropT T t.name v1 l1).f, 0, none⟩)) ∧
      w'.cell? ⟨w.heap.size, 0, none⟩ = some (.string t.name) ∧ w'.cell? ⟨w.heap.size, 1, none⟩ = some (.int .i64 t.ver) ∧ w'.cell? ⟨w.heap.size, 2, none⟩ = some (.int .u64 t.at_) ∧ w'.cell? ⟨w.heap.size, 3, none⟩ = some (.int .u64 t.every) ∧ w'.cell? ⟨w.heap.size, 4, none⟩ = some (.slice sa t.do_.length sc))
      (first | exact hS0 | exact hS3 | exact hS5)
      (first
        | (go_at_call 18; refine HC.out.mono ?_; rintro e w3 ⟨dv3, rfl, ho3, hb3⟩; obtain ⟨w5, hr5, hS3, hS5, hf5, hm5⟩ := HU.out w3 dv3 hb3))
    all_goals
      rename_i hHeld
      clear hHeld
      have HP := Lib.hid (tset_pre HH.out.1 HB.out.1 HR.out.1 HR.out.2.1 HR.out.2.2.1 HR.out.2.2.2 ho3 hb3 hf5 hm5)
      have hS5' : SetS b (dropT T t.name v1 l1) w.heap.size t sa sc w5.drew := HP.out.drew.set
      have hS55 : SetS b (dropT T t.name v1 l1) w.heap.size t sa sc w5.drew.drew := HP.out.drew.drew.set
      unfold SetS at hS5' hS55
      clear hS0 hS3 hr5 ho3 hb3 hf5 hm5 HC HU
      by_cases hlt : T.S.now < t.at_
      · have HW := Lib.hid (put_yes len64_says w5.drew T.f (T.S.drop t.name) t.name t.at_ HP.out.drew.whl HP.out.tab.good.above (by rw [drop_now]; exact hlt) HH.out.2.2.1.at_)
        have HS := Lib.hid (fun w6 (hf6 : Fr ((T.S.drop t.name).foot T.f) w5.drew w6) => HP.out.drew.step hf6 (fun k hk => .inr (.inr hk)))
        go_wp2_with fail
        go_region_held3 (fun w' => w'.cell? ⟨b, 0, none⟩ = some (.map (some (dropT T t.name v1 l1).rm)) ∧ w'.cell? ⟨b, 1, none⟩ = some (.pointer (some ⟨(dropT T t.name v1 l1).q, 0, none⟩)) ∧ w'.cell? ⟨b, 2, none⟩ = some (.pointer (some ⟨(dropT T t.name v1 l1).f, 0, none⟩)) ∧
      w'.cell? ⟨w.heap.size, 0, none⟩ = some (.string t.name) ∧ w'.cell? ⟨w.heap.size, 1, none⟩ = some (.int .i64 t.ver) ∧ w'.cell? ⟨w.heap.size, 2, none⟩ = some (.int .u64 t.at_) ∧ w'.cell? ⟨w.heap.size, 3, none⟩ = some (.int .u64 t.every) ∧ w'.cell? ⟨w.heap.size, 4, none⟩ = some (.slice sa t.do_.length sc))
          (first | exact hS5 | exact hS5' | exact hS55 | exact hS6)
          (first
            | (go_at_call 25; refine HW.out.mono ?_; rintro e w6 ⟨rfl, hW6, hf6⟩; obtain hS6 := HS.out w6 hf6))
        all_goals
          rename_i hHeld
          clear hHeld
          go_wp2_with fail
          go_ret
          exact HP.out.drew.far HB.out.2.1 HH.out.2.2.1 hsm hlt hf6 hW6
      · have HW := Lib.hid (put_no w5.drew T.f (T.S.drop t.name) t.name t.at_ HP.out.drew.whl (by rw [drop_now]; omega))
        go_wp2_with fail
        go_region_held3 (fun w' => w'.cell? ⟨b, 0, none⟩ = some (.map (some (dropT T t.name v1 l1).rm)) ∧ w'.cell? ⟨b, 1, none⟩ = some (.pointer (some ⟨(dropT T t.name v1 l1).q, 0, none⟩)) ∧ w'.cell? ⟨b, 2, none⟩ = some (.pointer (some ⟨(dropT T t.name v1 l1).f, 0, none⟩)) ∧
      w'.cell? ⟨w.heap.size, 0, none⟩ = some (.string t.name) ∧ w'.cell? ⟨w.heap.size, 1, none⟩ = some (.int .i64 t.ver) ∧ w'.cell? ⟨w.heap.size, 2, none⟩ = some (.int .u64 t.at_) ∧ w'.cell? ⟨w.heap.size, 3, none⟩ = some (.int .u64 t.every) ∧ w'.cell? ⟨w.heap.size, 4, none⟩ = some (.slice sa t.do_.length sc))
          (first | exact hS5 | exact hS5' | exact hS55)
          (first
            | (go_at_call 25; refine HW.out.mono ?_; rintro e w6 ⟨rfl, rfl⟩))
        all_goals
          rename_i hHeld
          clear hHeld
          have HQ := Lib.hid (qput_any w5.drew.drew T.q ⟨T.Q.re, T.Q.rm, v1, l1⟩ HP.out.drew.drew.que t.name t.at_ HP.out.fresh HP.out.room)
          have HS := Lib.hid (fun w6 (hf6 : Fr (QSt.foot ⟨T.Q.re, T.Q.rm, v1, l1⟩) w5.drew.drew w6) => HP.out.drew.drew.step hf6 (fun k hk => .inr (.inl hk)))
          go_wp2_with fail
          go_region_held3 (fun w' => w'.cell? ⟨b, 0, none⟩ = some (.map (some (dropT T t.name v1 l1).rm)) ∧ w'.cell? ⟨b, 1, none⟩ = some (.pointer (some ⟨(dropT T t.name v1 l1).q, 0, none⟩)) ∧ w'.cell? ⟨b, 2, none⟩ = some (.pointer (some ⟨(dropT T t.name v1 l1).f, 0, none⟩)) ∧
      w'.cell? ⟨w.heap.size, 0, none⟩ = some (.string t.name) ∧ w'.cell? ⟨w.heap.size, 1, none⟩ = some (.int .i64 t.ver) ∧ w'.cell? ⟨w.heap.size, 2, none⟩ = some (.int .u64 t.at_) ∧ w'.cell? ⟨w.heap.size, 3, none⟩ = some (.int .u64 t.every) ∧ w'.cell? ⟨w.heap.size, 4, none⟩ = some (.slice sa t.do_.length sc))
            (first | exact hS5 | exact hS5' | exact hS55 | exact hS6)
            (first
              | (go_at_call 26; refine HQ.out.mono ?_; rintro e w6 ⟨v', l', rfl, hQ6, hp6, hl6, hf6⟩; obtain hS6 := HS.out w6 hf6))
          all_goals
            rename_i hHeld
            clear hHeld
            go_wp2_with fail
            go_ret
            exact HP.out.drew.drew.near HB.out.2.1 HH.out.2.2.1 hsm hlt hf6 hQ6 hp6 hl6
end Go.Proofs.YtmjbhnkhpgnchaaDoor
