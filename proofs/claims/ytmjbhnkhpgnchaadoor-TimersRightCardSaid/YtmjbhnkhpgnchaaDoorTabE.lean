/-
  The table's Advance.
-/
import Derived.Test.YtmjbhnkhpgnchaaDoorTabD
import Derived.Test.YtmjbhnkhpgnchaaDoorAdvE
namespace Go.Proofs.YtmjbhnkhpgnchaaDoor
open Go Go.RowKit

def encN (s : ByteArray) : List Value := [.string s]
theorem encN_len (s : ByteArray) : (encN s).length = 1 := rfl
theorem encN_cells (s : ByteArray) : ∀ v ∈ encN s, v.oneCell' = true := by
  intro v hv
  simp [encN] at hv
  subst hv
  rfl
theorem info_str : (Tryd.prog.info? 9).map (fun i => (i.zero, i.size, i.bytes)) = some (some (.string ByteArray.empty), 1, 16) := by kernel_rfl

section
variable {α β : Type} {enc : α → List Value} {enc2 : β → List Value} {k k2 : Nat} {e e2 : TypeId} {B B2 : Nat} {w w' : World} {v v2 : Value} {xs : List α} {ys : List β}

theorem OwnS.keepQ (hs : OwnS enc k e B w v xs) {q : Nat} {Q : QSt} (hq : QueAt w q Q) (hf : Fr Q.foot w w') (he : e ≠ 78 ∧ e ≠ 71) : OwnS enc k e B w' v xs :=
  OwnS.fr hs hf fun g hg hk => by
    obtain ⟨cs, h1⟩ := own_block_ty hs hg
    rcases que_ty hq hk with ⟨es, c, h2⟩ | ⟨cs', e', fz', h2, h3⟩
    · rw [h1] at h2; simp at h2
    · rw [h1] at h2
      injection h2 with h2
      injection h2 with _ h4 _
      subst h4
      rcases h3 with h3 | h3
      · exact he.1 h3
      · exact he.2 h3

theorem OwnS.keepO (hs : OwnS enc k e B w v xs) (ho : OwnS enc2 k2 e2 B2 w v2 ys) (hf : Fr (fun g => v2.ownBlock = some g) w w') (he : e ≠ e2) : OwnS enc k e B w' v xs :=
  OwnS.fr hs hf fun g hg hk => by
    obtain ⟨cs, h1⟩ := own_block_ty hs hg
    obtain ⟨cs', h2⟩ := own_block_ty ho hk
    rw [h1] at h2
    injection h2 with h2
    injection h2 with _ h4 _
    exact he h4

theorem QueAt.keepO {q : Nat} {Q : QSt} (hq : QueAt w q Q) (ho : OwnS enc2 k2 e2 B2 w v2 ys) (hf : Fr (fun g => v2.ownBlock = some g) w w') (he : e2 ≠ 78 ∧ e2 ≠ 71 ∧ e2 ≠ 80) : QueAt w' q Q := by
  refine hq.fr hf (fun e => ?_) (fun g hg hk => ?_)
  · obtain ⟨cs', h2⟩ := own_block_ty ho e
    rw [hq.block] at h2
    injection h2 with h2
    injection h2 with _ h4 _
    exact he.2.2 h4.symm
  · obtain ⟨cs, h1⟩ := own_block_ty ho hk
    rcases que_ty hq hg with ⟨es, c, h2⟩ | ⟨cs', e', fz', h2, h3⟩
    · rw [h1] at h2; simp at h2
    · rw [h1] at h2
      injection h2 with h2
      injection h2 with _ h4 _
      subst h4
      rcases h3 with h3 | h3
      · exact he.1 h3
      · exact he.2.1 h3

theorem WheelAt.keepO {f : Nat} {S : WSt} (hw : WheelAt w f S) (ho : OwnS enc2 k2 e2 B2 w v2 ys) (hf : Fr (fun g => v2.ownBlock = some g) w w') (he : e2 ≠ 86) : WheelAt w' f S := by
  refine hw.fr hf (fun g hg hk => ?_)
  obtain ⟨cs, h1⟩ := own_block_ty ho hk
  rcases whl_ty hw hg with ⟨es, c, h2⟩ | ⟨cs', fz', h2⟩
  · rw [h1] at h2; simp at h2
  · rw [h1] at h2
    injection h2 with h2
    injection h2 with _ h4 _
    exact he h4

theorem IsMap.keepO {κ υ : Type} [DecidableEq κ] {ek : κ → Value} {ev : υ → Value} {r : Nat} {L : List (κ × υ)} (hm : IsMap ek ev w r L) (ho : OwnS enc2 k2 e2 B2 w v2 ys) (hf : Fr (fun g => v2.ownBlock = some g) w w') : IsMap ek ev w' r L := by
  refine hm.fr hf (fun hk => ?_)
  obtain ⟨cs, h1⟩ := own_block_ty ho hk
  obtain ⟨es, c, h2, _⟩ := hm
  rw [h1] at h2; simp at h2
end

/-- amid Advance: k of the timers stand in the queue -/
structure AdvL (w w1 wr : World) (T : TSt) (S' : WSt) (vs : Value) (l : List Ent) (k : Nat) (v' : Value) (l' : List Ent) (vo : Value) : Prop where
  fr : Fr (fun g => T.Q.foot g ∨ T.S.foot T.f g) w wr
  que : QueAt wr T.q ⟨T.Q.re, T.Q.rm, v', l'⟩
  perm : l'.Perm (T.Q.l ++ l.take k)
  lies : Lies w T.Q.v v'
  whl : WheelAt wr T.f S'
  foot : ∀ g, S'.foot T.f g ↔ T.S.foot T.f g
  src : OwnT w.heap.size wr vs l
  out : OwnS encN 1 9 w.heap.size wr vo ((l.take k).map (·.1))

section
variable {w w1 wr w2 : World} {b : Nat} {T : TSt} {S' : WSt} {vs v' vo v2 : Value} {l l' : List Ent} {k : Nat}

theorem QSt.foot_lies {l2 : List Ent} (hl : Lies w T.Q.v v') {g : Nat} (hg : QSt.foot ⟨T.Q.re, T.Q.rm, v', l2⟩ g) : T.Q.foot g ∨ w.heap.size ≤ g := by
  rcases hg with e | e | e
  · exact .inl (.inl e)
  · exact .inl (.inr (.inl e))
  · rcases hl g e with h1 | h1
    · exact .inl (.inr (.inr h1))
    · exact .inr h1

theorem AdvL.qfr (h : AdvL w w1 wr T S' vs l k v' l' vo) (hf : Fr (QSt.foot ⟨T.Q.re, T.Q.rm, v', l'⟩) wr w2) : Fr (fun g => T.Q.foot g ∨ T.S.foot T.f g) w w2 :=
  h.fr.then hf fun g hg hk => by
    rcases QSt.foot_lies h.lies hk with h1 | h1
    · exact .inl h1
    · omega

/-- one more stands in the queue -/
theorem AdvL.put (h : AdvL w w1 wr T S' vs l k v' l' vo) (ht : TabAt w b T) {p : Ent} (hp : l[k]? = some p) {v3 : Value} {l3 : List Ent} (_ : QueAt w2 T.q ⟨T.Q.re, T.Q.rm, v3, l3⟩) (hpm : l3.Perm (l' ++ [p])) (hl : Lies wr v' v3)
    (hf : Fr (QSt.foot ⟨T.Q.re, T.Q.rm, v', l'⟩) wr w2) :
    WheelAt w2 T.f S' ∧ OwnT w.heap.size w2 vs l ∧ OwnS encN 1 9 w.heap.size w2 vo ((l.take k).map (·.1)) ∧ l3.Perm (T.Q.l ++ l.take (k + 1)) ∧ Lies w T.Q.v v3 := by
  refine ⟨h.whl.fr hf (fun g hg hk => ?_), h.src.keepQ h.que hf (by decide), h.out.keepQ h.que hf (by decide), ?_, ?_⟩
  · rcases QSt.foot_lies h.lies hk with h1 | h1
    · exact ht.sepQ g h1 ((h.foot g).1 hg)
    · have := ht.foot_lt (.inr (.inr ((h.foot g).1 hg)))
      omega
  · have e : l.take (k + 1) = l.take k ++ [p] := by rw [List.take_add_one, hp]; rfl
    rw [e, ← List.append_assoc]
    exact hpm.trans (h.perm.append_right _)
  · intro g hg
    rcases hl g hg with h1 | h1
    · exact h.lies g h1
    · exact .inr (Nat.le_trans h.fr.size h1)

theorem AdvL.move (h : AdvL w w1 wr T S' vs l k v' l' vo) (hf : Fr (fun _ => False) wr w2) : AdvL w w1 w2 T S' vs l k v' l' vo :=
  ⟨h.fr.then hf (fun _ _ e => e.elim), h.que.move hf, h.perm, h.lies, h.whl.fr hf (fun _ _ e => e), h.foot, h.src.fr hf (fun _ _ e => e), h.out.fr hf (fun _ _ e => e)⟩

theorem AdvL.next (h : AdvL w w1 wr T S' vs l k v' l' vo) (ht : TabAt w b T) {p : Ent} (hp : l[k]? = some p) {v3 : Value} {l3 : List Ent} (hQ : QueAt w2 T.q ⟨T.Q.re, T.Q.rm, v3, l3⟩) (hpm : l3.Perm (l' ++ [p])) (hl : Lies wr v' v3)
    (hf : Fr (QSt.foot ⟨T.Q.re, T.Q.rm, v', l'⟩) wr w2) {w3 w4 : World} {vo' : Value} (ha : Fr (fun _ => False) w2 w3) (ho : OwnS encN 1 9 w.heap.size w4 vo' ((l.take k).map (·.1) ++ [p.1])) (hf4 : Fr (fun g => vo.ownBlock = some g) w3 w4) :
    AdvL w w1 w4 T S' vs l (k + 1) v3 l3 vo' := by
  obtain ⟨a1, a2, a3, a4, a5⟩ := h.put ht hp hQ hpm hl hf
  have ho3 := a3.fr ha (fun _ _ e => e)
  refine ⟨((h.qfr hf).then ha (fun _ _ e => e.elim)).then hf4 (fun g hg e => ?_), (hQ.move ha).keepO ho3 hf4 (by decide), a4, a5, (a1.fr ha (fun _ _ e => e)).keepO ho3 hf4 (by decide), h.foot, (a2.fr ha (fun _ _ e => e)).keepO ho3 hf4 (by decide), ?_⟩
  · have := (ho3.lt g e).1
    omega
  · have e : l.take (k + 1) = l.take k ++ [p] := by rw [List.take_add_one, hp]; rfl
    rw [e, List.map_append]
    exact ho

theorem AdvL.fresh (h : AdvL w w1 wr T S' vs l k v' l' vo) (hkn : (keys (T.Q.l ++ l)).Nodup) {p : Ent} (hp : l[k]? = some p) : p.1 ∉ keys l' := by
  intro hk
  have h1 : p.1 ∈ keys (T.Q.l ++ l.take k) := (keys_perm h.perm).1 hk
  have e1 : T.Q.l ++ l = (T.Q.l ++ l.take k) ++ l.drop k := by rw [List.append_assoc, List.take_append_drop]
  have h2 : p.1 ∈ keys (l.drop k) := by
    have : p ∈ l.drop k := by
      apply List.mem_of_getElem? (i := 0)
      rw [List.getElem?_drop]
      exact hp
    exact mem_keys this
  rw [e1] at hkn
  unfold Go.Proofs.YtmjbhnkhpgnchaaDoor.keys at hkn h1 h2
  rw [List.map_append, List.nodup_append] at hkn
  exact hkn.2.2 _ h1 _ h2 rfl

theorem AdvL.len (h : AdvL w w1 wr T S' vs l k v' l' vo) : l'.length ≤ T.Q.l.length + l.length := by
  rw [h.perm.length_eq, List.length_append, List.length_take]
  omega
end

def TAdvSays (w : World) (b : Nat) (T : TSt) (now : Nat) (e : Ending) (w' : World) : Prop :=
  (now < T.S.now → e = .returned (.slice none 0 0) ∧ RowKit.Below w.heap.size w w') ∧
  (T.S.now ≤ now → ∃ T' vo l, e = .returned vo ∧ TabAt w' b T' ∧ T'.L = T.L ∧ T'.S.now = now ∧ OwnS encN 1 9 w.heap.size w' vo (keys l) ∧ Asc l ∧ (keys l).Nodup ∧ (∀ p, p ∈ l ↔ p ∈ T.S.all ∧ p.2 ≤ now) ∧ (∀ p, p ∈ T'.S.all ↔ p ∈ T.S.all ∧ now < p.2) ∧
    (∀ p, p ∈ T'.Q.l ↔ p ∈ T.Q.l ∨ p ∈ l) ∧ Fr T.foot w w' ∧ (∀ k, T'.foot k → T.foot k ∨ w.heap.size ≤ k) ∧ T'.q = T.q)

theorem TabAt.far_len {w : World} {b : Nat} {T : TSt} (h : TabAt w b T) : T.S.all.length ≤ T.L.length := by
  have h1 : (keys T.S.all).Nodup := h.whl.all.nodup
  have h2 : (keys T.S.all).length ≤ (keys T.L).length := len_of_sub h1 fun k hk => by
    obtain ⟨e, he, e1⟩ := List.mem_map.1 hk
    obtain ⟨s, v, h1, _⟩ := (h.far e).1 he
    rw [← e1]
    exact List.mem_map_of_mem (f := (·.1)) h1
  have e1 : (keys T.S.all).length = T.S.all.length := List.length_map ..
  have e2 : (keys T.L).length = T.L.length := List.length_map ..
  omega

/-- names of what comes in are new in the queue -/
theorem TabAt.adv_names {w : World} {b : Nat} {T : TSt} (h : TabAt w b T) {l : List Ent} {now : Nat} (hl : ∀ p, p ∈ l ↔ p ∈ T.S.all ∧ p.2 ≤ now) (hn : (keys l).Nodup) : (keys (T.Q.l ++ l)).Nodup ∧ T.Q.l.length + l.length ≤ 10000 := by
  have hsub : ∀ k ∈ keys (T.Q.l ++ l), k ∈ keys T.L := fun k hk => by
    obtain ⟨e, he, e1⟩ := List.mem_map.1 hk
    rw [← e1]
    rcases List.mem_append.1 he with h1 | h1
    · obtain ⟨s, v, h2, _⟩ := (h.due e).1 h1
      exact List.mem_map_of_mem (f := (·.1)) h2
    · obtain ⟨s, v, h2, _⟩ := (h.far e).1 ((hl e).1 h1).1
      exact List.mem_map_of_mem (f := (·.1)) h2
  have hnd : (keys (T.Q.l ++ l)).Nodup := by
    unfold keys
    rw [List.map_append, List.nodup_append]
    refine ⟨h.que.ent.nodup, hn, ?_⟩
    intro a ha c hc e
    obtain ⟨p, hp, e1⟩ := List.mem_map.1 ha
    obtain ⟨p2, hp2, e2⟩ := List.mem_map.1 hc
    obtain ⟨s, v, h1, h2, h3⟩ := (h.due p).1 hp
    obtain ⟨s2, v2, h4, h5, h6⟩ := (h.far p2).1 ((hl p2).1 hp2).1
    have e3 : p.1 = p2.1 := by rw [e1, e2]; exact e
    have := key_inj h.all.nodup h1 h4 e3
    simp only [Prod.mk.injEq] at this
    rw [this.2.1] at h3
    omega
  refine ⟨hnd, ?_⟩
  have h2 : (keys (T.Q.l ++ l)).length ≤ (keys T.L).length := len_of_sub hnd hsub
  have e1 : (keys (T.Q.l ++ l)).length = T.Q.l.length + l.length := by unfold keys; rw [List.length_map, List.length_append]
  have e2 : (keys T.L).length = T.L.length := List.length_map ..
  have := h.small
  omega

theorem AdvL.done {w w1 wr : World} {b : Nat} {T : TSt} {S' : WSt} {vs v' vo : Value} {l l' : List Ent} {now : Nat} (h : AdvL w w1 wr T S' vs l l.length v' l' vo) (ht : TabAt w b T) (hn : now < 18446744073709551616) (hle : T.S.now ≤ now)
    (hk : Good S' ∧ S'.now = now ∧ (∀ k, S'.foot T.f k ↔ T.S.foot T.f k) ∧ Asc l ∧ (keys l).Nodup ∧ (∀ p, p ∈ l ↔ p ∈ T.S.all ∧ p.2 ≤ now) ∧ (∀ p, p ∈ S'.all ↔ p ∈ T.S.all ∧ now < p.2) ∧ (keys (T.Q.l ++ l)).Nodup ∧ T.Q.l.length + l.length ≤ 10000) :
    TAdvSays w b T now (.returned vo) wr := by
  obtain ⟨hg, hnow, hfoot, hasc, hnd, hl, hall, _, _⟩ := hk
  have hp := h.perm
  rw [List.take_length] at hp
  have ho := h.out
  rw [List.take_length] at ho
  have hF : Fr T.foot w wr := h.fr.mono fun k _ e => .inr e
  refine ⟨fun e => by omega, fun _ => ⟨⟨T.rm, T.q, ⟨T.Q.re, T.Q.rm, v', l'⟩, T.f, S', T.L⟩, vo, l, rfl, ?_, rfl, hnow, ho, hasc, hnd, hl, hall, fun p => by rw [hp.mem_iff, List.mem_append], hF, ?_, rfl⟩⟩
  · refine ht.turn hF (ht.all.fr h.fr (fun e => e.elim ht.sepR.1 ht.sepR.2)) h.que h.whl hg (by rw [hnow]; exact hn) (fun p hp => (ht.steps p hp).keep ht hF) ht.names ht.right ?_ ?_ ?_ ?_ ht.small
    · intro e
      rw [hp.mem_iff, List.mem_append, ht.due e, hl e, ht.far e, hnow]
      constructor
      · rintro (⟨s, v, h1, h2, h3⟩ | ⟨⟨s, v, h1, h2, h3⟩, h4⟩)
        · exact ⟨s, v, h1, h2, by omega⟩
        · exact ⟨s, v, h1, h2, by omega⟩
      · rintro ⟨s, v, h1, h2, h3⟩
        by_cases hc : s.at_ ≤ T.S.now
        · exact .inl ⟨s, v, h1, h2, hc⟩
        · exact .inr ⟨⟨s, v, h1, h2, by omega⟩, by omega⟩
    · intro e
      rw [hall e, ht.far e, hnow]
      constructor
      · rintro ⟨⟨s, v, h1, h2, h3⟩, h4⟩
        exact ⟨s, v, h1, h2, by omega⟩
      · rintro ⟨s, v, h1, h2, h3⟩
        exact ⟨⟨s, v, h1, h2, by omega⟩, by omega⟩
    · intro k hk hk2
      rw [hfoot] at hk2
      rcases QSt.foot_lies h.lies hk with h1 | h1
      · exact ht.sepQ k h1 hk2
      · have := ht.foot_lt (.inr (.inr hk2)); omega
    · refine ⟨fun hk => ?_, fun hk => ht.sepR.2 ((hfoot _).1 hk)⟩
      rcases QSt.foot_lies h.lies hk with h1 | h1
      · exact ht.sepR.1 h1
      · have := ht.foot_lt (.inl rfl); omega
  · rintro k (e | hk | hk)
    · exact .inl (.inl e)
    · rcases QSt.foot_lies h.lies hk with h1 | h1
      · exact .inl (.inr (.inl h1))
      · exact .inr h1
    · exact .inl (.inr (.inr ((hfoot _).1 hk)))

set_option maxRecDepth 100000 in
set_option maxHeartbeats 1000000 in
theorem tadv_any (w : World) (b : Nat) (T : TSt) (h : TabAt w b T) (now : Nat) (hn : now < 18446744073709551616) :
    Calls Tryd.prog 15 #[.pointer (some ⟨b, 0, none⟩), .int .u64 now] w (TAdvSays w b T now) := by
  have c2 := h.c2
  by_cases hlt : now < T.S.now
  · have HA := Lib.hid (advance_no w T.f T.S now h.whl hlt)
    have HL := Lib.hid hlt
    clear h hlt
    go_enter Tryd.func15, Tryd.ntmps15
    go_wp2_with fail
    refine HA.out.mono ?_
    rintro e w1 ⟨rfl, hb⟩
    go_wp2_with fail
    go_loopg [5, 17] 0 (fun n vo iv wr => n = 0 ∧ vo = .slice none 0 0 ∧ iv = .int .i64 0 ∧ wr = w1)
    case atStart => exact ⟨rfl, rfl, rfl, rfl⟩
    case round =>
      obtain ⟨rfl, rfl, rfl, rfl⟩ := hrel
      go_wp2_with fail
      go_ret
      exact ⟨fun _ => ⟨rfl, hb⟩, fun h => absurd HL.out (by omega)⟩
  · have hsm := h.small
    have hfl := h.far_len
    have HA := Lib.hid (advance_all w T.f T.S now h.whl h.good (by omega) hn (by omega))
    have HH := Lib.hid (And.intro h hlt)
    clear h hlt hsm hfl
    go_enter Tryd.func15, Tryd.ntmps15
    go_wp2_with fail
    refine HA.out.mono ?_
    rintro e w1 ⟨vs, l, S', rfl, ho, hW, hf1, hg', hnow', hfoot, hasc, hnd, hl, hall⟩
    obtain ⟨hkn, hlen⟩ := HH.out.1.adv_names hl hnd
    obtain ⟨sa, sc, hsv, _⟩ := ho.at.shape
    have hl1 : l.length ≤ 10000 := by omega
    have hst : AdvL w w1 w1 T S' vs l 0 T.Q.v T.Q.l (.slice none 0 0) := by
      have hF : Fr (fun g => T.Q.foot g ∨ T.S.foot T.f g) w w1 := hf1.mono fun _ _ e => .inr e
      exact ⟨hF, HH.out.1.que.fr hf1 (fun e => HH.out.1.not_foot HH.out.1.que.block not_mut_queue (.inr (.inr e))) (fun k hk hk2 => HH.out.1.sepQ k hk hk2), by simp, fun g hg => .inl hg, hW, hfoot, ho, OwnS.nil⟩
    subst hsv
    have HS := Lib.hid hst
    have HK := Lib.hid (And.intro hg' (And.intro hnow' (And.intro hfoot (And.intro hasc (And.intro hnd (And.intro hl (And.intro hall (And.intro hkn hlen))))))))
    clear ho hW hf1 hg' hnow' hfoot hasc hnd hl hall hkn hlen hst HA c2
    go_wp2_with fail
    go_loopg [5, 17] l.length (fun n vo iv wr => ∃ k v' l', k + n = l.length ∧ iv = .int .i64 (k : Nat) ∧ AdvL w w1 wr T S' (.slice sa l.length sc) l k v' l' vo)
    case atStart => exact ⟨0, T.Q.v, T.Q.l, by omega, rfl, HS.out⟩
    case round =>
      obtain ⟨k, v', l', hk, rfl, hL⟩ := hrel
      by_cases hlt : k < l.length
      · have hi0 : (k : Int) < (l.length : Int) := by omega
        obtain ⟨p, hp⟩ : ∃ p, l[k]? = some p := ⟨_, List.getElem?_eq_getElem hlt⟩
        obtain ⟨a', cap', hv', _, hc⟩ := hL.src.rd encT_len
        injection hv' with e1 e2 e3
        clear e2 e3
        obtain ⟨g, off, ha, _, hc2⟩ := hc k p hp
        have hsa : sa = some ⟨g, off, none⟩ := e1.trans ha
        subst hsa
        have c0 := hc2 0 _ rfl
        have c1 := hc2 1 _ rfl
        rw [Nat.add_zero] at c0
        have hbk := (hL.fr.block b HH.out.1.lt (fun h => HH.out.1.not_foot HH.out.1.block not_mut_table (.inr h))).trans HH.out.1.block
        have hblt : b < wr.heap.size := (Array.getElem?_eq_some_iff.1 hbk).1
        obtain ⟨W1, hW1⟩ : ∃ W1, W1 = wr.alloc (Obj.cells #[.string p.1, .int .u64 p.2] 67) := ⟨_, rfl⟩
        have hW2f : Fr (fun _ => False) wr W1.drew := by rw [hW1]; exact ((Fr.refl _ wr).alloc _).drew
        have hsz2 : W1.drew.heap.size = wr.heap.size + 1 := by rw [hW1]; exact World.size_alloc ..
        have hbx : W1.heap[wr.heap.size]? = some (Obj.cells #[.string p.1, .int .u64 p.2] 67 (0, 0)) := by rw [hW1]; exact alloc_get wr _ rfl
        have hbk2 : W1.heap[b]? = _ := (hW2f.block b hblt (fun h => h)).trans hbk
        have hL2 := hL.move hW2f
        have hS0 : W1.drew.cell? ⟨b, 1, none⟩ = some (.pointer (some ⟨T.q, 0, none⟩)) ∧ W1.drew.cell? ⟨wr.heap.size, 0, none⟩ = some (.string p.1) ∧ W1.drew.cell? ⟨wr.heap.size, 1, none⟩ = some (.int .u64 p.2) := by
          refine ⟨?_, ?_, ?_⟩
          · show W1.cell? _ = _; simp [World.cell?, hbk2]
          · show W1.cell? _ = _; simp [World.cell?, hbx]
          · show W1.cell? _ = _; simp [World.cell?, hbx]
        have HQ := Lib.hid (qput_any W1.drew T.q ⟨T.Q.re, T.Q.rm, v', l'⟩ hL2.que p.1 p.2 (hL2.fresh HK.out.2.2.2.2.2.2.2.1 hp) (by
          have h1 := hL2.len
          have h2 := HK.out.2.2.2.2.2.2.2.2
          show l'.length + 1 ≤ _
          omega))
        have HU := Lib.hid (fun (w2 : World) (hf2 : Fr (QSt.foot ⟨T.Q.re, T.Q.rm, v', l'⟩) W1.drew w2) => show w2.cell? ⟨b, 1, none⟩ = some (.pointer (some ⟨T.q, 0, none⟩)) ∧ w2.cell? ⟨wr.heap.size, 0, none⟩ = some (.string p.1) ∧ w2.cell? ⟨wr.heap.size, 1, none⟩ = some (.int .u64 p.2) from by
          have n1 : ¬ QSt.foot ⟨T.Q.re, T.Q.rm, v', l'⟩ b := fun hk => by
            rcases QSt.foot_lies hL2.lies hk with h1 | h1
            · exact HH.out.1.not_foot HH.out.1.block not_mut_table (.inr (.inl h1))
            · have := HH.out.1.lt; omega
          have n2 : ¬ QSt.foot ⟨T.Q.re, T.Q.rm, v', l'⟩ wr.heap.size := fun hk => by
            have := hL.que.foot_lt hk
            omega
          exact ⟨(hf2.cell (p := ⟨b, 1, none⟩) (by rw [hsz2]; exact Nat.lt_succ_of_lt hblt) n1).trans hS0.1, (hf2.cell (p := ⟨wr.heap.size, 0, none⟩) (by rw [hsz2]; exact Nat.lt_succ_self _) n2).trans hS0.2.1, (hf2.cell (p := ⟨wr.heap.size, 1, none⟩) (by rw [hsz2]; exact Nat.lt_succ_self _) n2).trans hS0.2.2⟩)
        have HL := Lib.hid (And.intro hL2 (And.intro hp hlt))
        have HD := Lib.hid hW1
        clear hL hL2 hp hc hc2 hbk hbk2 hbx hW2f hsz2 e1 hW1
        go_wp2_with fail
        rw [← HD.out]
        go_region_held3 (fun w' => w'.cell? ⟨b, 1, none⟩ = some (.pointer (some ⟨T.q, 0, none⟩)) ∧ w'.cell? ⟨wr.heap.size, 0, none⟩ = some (.string p.1) ∧ w'.cell? ⟨wr.heap.size, 1, none⟩ = some (.int .u64 p.2))
          (first | exact hS0 | exact hS1)
          (first
            | (go_at_call 26; refine HQ.out.mono ?_; rintro e w2 ⟨v3, l3, rfl, hQ3, hp3, hl3, hf3⟩; obtain hS1 := HU.out w2 hf3))
        all_goals
          rename_i hHeld
          obtain ⟨_, hd0, _⟩ := hHeld
          have HR := Lib.hid (And.intro hQ3 (And.intro hp3 (And.intro hl3 hf3)))
          have ho2 := (HL.out.1.put HH.out.1 HL.out.2.1 hQ3 hp3 hl3 hf3).2.2.1
          have hwsz : w.heap.size ≤ w2.heap.size := Nat.le_trans HL.out.1.fr.size hf3.size
          have htk : ((l.take k).map (·.1)).length = k := by rw [List.length_map, List.length_take]; omega
          clear hQ3 hp3 hl3 hf3 hS0 hS1 HQ HU
          go_wp2_with (first | (at_delete; refine At.stop ?_) | (at_mapUpdate; refine At.stop ?_) | (at_lookup; refine At.stop ?_) | (at_range; refine At.stop ?_) | (at_next; refine At.stop ?_) | (at_builtin; refine At.stop ?_))
          refine At.go (wpl_append1 rfl _ _ _ rfl Tryd.underlying44 info_str rfl (by omega) rfl (OwnS.alloc ho2 _) w2.heap.size 1 rfl p.1 rfl (alloc_get w2 _ rfl) (encN_cells p.1) (by rw [htk]; unfold maxLen; omega) (by rw [htk]; omega) (by rw [World.size_alloc]; omega) ?_)
          intro vo' w4 ho4 hf4
          have HN := Lib.hid (HL.out.1.next HH.out.1 HL.out.2.1 HR.out.1 HR.out.2.1 HR.out.2.2.1 HR.out.2.2.2 ((Fr.refl _ w2).alloc _) ho4 hf4)
          clear ho4 hf4 ho2
          go_wp2_with (first | (at_delete; refine At.stop ?_) | (at_mapUpdate; refine At.stop ?_) | (at_lookup; refine At.stop ?_) | (at_range; refine At.stop ?_) | (at_next; refine At.stop ?_) | (at_builtin; refine At.stop ?_))
          go_roundg (l.length - (k + 1))
          case measure => omega
          case rel => exact ⟨k + 1, _, _, by omega, by go_num, HN.out⟩
      · obtain rfl : k = l.length := by omega
        have HN := Lib.hid hL
        clear hL
        go_wp2_with fail
        go_ret
        exact HN.out.done HH.out.1 hn (by have := HH.out.2; omega) HK.out
end Go.Proofs.YtmjbhnkhpgnchaaDoor
