/-
  The table's Drop.
-/
import Derived.Test.YtmjbhnkhpgnchaaDoorTab
import Derived.Handy
import Derived.Deep.RegionHeld3
namespace Go.Proofs.YtmjbhnkhpgnchaaDoor
open Go Go.RowKit

theorem TabAt.turn {w w' : World} {b : Nat} {T : TSt} (h : TabAt w b T) (hf : Fr T.foot w w') {Q' : QSt} {S' : WSt} {L' : List (ByteArray × (Tm × Value))} (hM : IsMap Value.string encTM w' T.rm L') (hQ : QueAt w' T.q Q') (hW : WheelAt w' T.f S')
    (hg : Good S') (hn : S'.now < 18446744073709551616) (hst : ∀ p ∈ L', OwnSt 0 w' p.2.2 p.2.1.do_) (hnm : ∀ p ∈ L', p.2.1.name = p.1) (hr : ∀ p ∈ L', rightT p.2.1 = true ∧ p.2.1.wf)
    (hd : ∀ e : Ent, e ∈ Q'.l ↔ ∃ t v, (e.1, (t, v)) ∈ L' ∧ t.at_ = e.2 ∧ t.at_ ≤ S'.now) (hfar : ∀ e : Ent, e ∈ S'.all ↔ ∃ t v, (e.1, (t, v)) ∈ L' ∧ t.at_ = e.2 ∧ S'.now < t.at_)
    (h1 : ∀ k, Q'.foot k → ¬ S'.foot T.f k) (h2 : ¬ Q'.foot T.rm ∧ ¬ S'.foot T.f T.rm) (hs : L'.length ≤ 10000) : TabAt w' b ⟨T.rm, T.q, Q', T.f, S', L'⟩ :=
  ⟨(hf.block b h.lt (h.not_foot h.block not_mut_table)).trans h.block, hM, hQ, hW, hg, hn, hst, hnm, hr, hd, hfar, h1, h2, hs⟩

theorem key_tm : KeyTy Tryd.prog 9 Value.string := key_str

/-- what Drop leaves of a queue's entries -/
def dropE (l : List Ent) (name : ByteArray) (l' : List Ent) : Prop := ∀ e, e ∈ l' ↔ e ∈ l ∧ e.1 ≠ name

/-- the queue's Drop, whatever the name -/
theorem qdrop_any (w : World) (q : Nat) (Q : QSt) (h : QueAt w q Q) (name : ByteArray) :
    Calls Tryd.prog 38 #[.pointer (some ⟨q, 0, none⟩), .string name] w fun e w' => ∃ bb v' l', e = .returned (.bool bb) ∧ QueAt w' q ⟨Q.re, Q.rm, v', l'⟩ ∧ dropE Q.l name l' ∧ v'.ownBlock = Q.v.ownBlock ∧ Fr Q.foot w w' := by
  by_cases hx : name ∈ keys Q.l
  · obtain ⟨x, hxm, hxn⟩ := List.mem_map.1 hx
    obtain ⟨i, hi⟩ := List.getElem?_of_mem hxm
    have hxn' : x.1 = name := hxn
    have hd := qdrop_some w q Q h i x hi
    rw [hxn'] at hd
    refine hd.mono ?_
    rintro e w' ⟨v', l', rfl, hQ, hp, hv, hf⟩
    refine ⟨true, v', l', rfl, hQ, ?_, hv, hf⟩
    have hn : (keys (l' ++ [x])).Nodup := (hp.map _).nodup h.ent.nodup
    have hn2 : (keys l' ++ [x.1]).Nodup := by
      have : keys (l' ++ [x]) = keys l' ++ [x.1] := by simp [Go.Proofs.YtmjbhnkhpgnchaaDoor.keys]
      rw [← this]; exact hn
    intro e
    rw [hp.mem_iff, List.mem_append, List.mem_singleton]
    constructor
    · intro he
      refine ⟨.inl he, fun e1 => ?_⟩
      have h3 : e.1 ∈ keys l' := List.mem_map_of_mem (f := (·.1)) he
      exact (List.nodup_append.1 hn2).2.2 e.1 h3 x.1 (by simp) (e1.trans hxn'.symm)
    · rintro ⟨he | he, h2⟩
      · exact he
      · exact absurd (by rw [he]; exact hxn') h2
  · refine (qdrop_none w q Q h name hx).mono ?_
    rintro e w' ⟨rfl, rfl⟩
    refine ⟨false, Q.v, Q.l, rfl, h, ?_, rfl, Fr.refl _ _⟩
    intro e
    constructor
    · intro he
      exact ⟨he, fun e1 => hx (by rw [← e1]; exact List.mem_map_of_mem (f := (·.1)) he)⟩
    · exact fun h => h.1

theorem encTM_val (t : Tm) (dv : Value) : encTM (t, dv) = .agg #[.string t.name, .int .i64 t.ver, .int .u64 t.at_, .int .u64 t.every, dv] := rfl

def dropT (T : TSt) (name : ByteArray) (v' : Value) (l' : List Ent) : TSt := ⟨T.rm, T.q, ⟨T.Q.re, T.Q.rm, v', l'⟩, T.f, T.S.drop name, adel T.L name⟩

def TDropSays (w : World) (b : Nat) (T : TSt) (name : ByteArray) (e : Ending) (w' : World) : Prop :=
  ∃ v' l', e = .returned (.bool (aget T.L name).isSome) ∧ TabAt w' b (dropT T name v' l') ∧ v'.ownBlock = T.Q.v.ownBlock ∧ Fr T.foot w w'

/-- the three writes of Drop, put together -/
theorem tdrop_done {w w1 w2 w3 : World} {b : Nat} {T : TSt} {name : ByteArray} (h : TabAt w b T) (hf1 : Fr (· = T.rm) w w1) (hM : IsMap Value.string encTM w1 T.rm (adel T.L name))
    (hf2 : Fr (T.S.foot T.f) w1 w2) (hW : WheelAt w2 T.f (T.S.drop name)) {v' : Value} {l' : List Ent} (hf3 : Fr T.Q.foot w2 w3) (hQ : QueAt w3 T.q ⟨T.Q.re, T.Q.rm, v', l'⟩) (hd : dropE T.Q.l name l') (hv : v'.ownBlock = T.Q.v.ownBlock) :
    TabAt w3 b (dropT T name v' l') ∧ Fr T.foot w w3 := by
  have hF : Fr T.foot w w3 := ((hf1.mono fun k _ e => .inl e).trans (hf2.mono fun k _ e => .inr (.inr e))).trans (hf3.mono fun k _ e => .inr (.inl e))
  obtain ⟨hg, hn, hm⟩ := h.good.drop name
  have hnd := h.all.nodup
  have hfoot : ∀ k, QSt.foot ⟨T.Q.re, T.Q.rm, v', l'⟩ k → T.Q.foot k := fun k hk => by
    rcases hk with e | e | e
    · exact .inl e
    · exact .inr (.inl e)
    · exact .inr (.inr (by rw [← hv]; exact e))
  refine ⟨?_, hF⟩
  unfold dropT
  refine h.turn hF ((hM.fr hf2 h.sepR.2).fr hf3 h.sepR.1) hQ (hW.fr hf3 (fun k hk hq => h.sepQ k hq (by rw [drop_foot] at hk; exact hk))) hg (by rw [hn]; exact h.now) ?_ ?_ ?_ ?_ ?_ ?_ ?_ ?_
  · intro p hp
    exact (h.steps p ((mem_adel hnd).1 hp).1).keep h hF
  · intro p hp
    exact h.names p ((mem_adel hnd).1 hp).1
  · intro p hp
    exact h.right p ((mem_adel hnd).1 hp).1
  · intro e
    rw [hd e, h.due e, hn]
    constructor
    · rintro ⟨⟨t, v, h1, h2, h3⟩, h4⟩
      exact ⟨t, v, (mem_adel hnd).2 ⟨h1, h4⟩, h2, h3⟩
    · rintro ⟨t, v, h1, h2, h3⟩
      exact ⟨⟨t, v, ((mem_adel hnd).1 h1).1, h2, h3⟩, ((mem_adel hnd).1 h1).2⟩
  · intro e
    rw [hm e, h.far e, hn]
    constructor
    · rintro ⟨⟨t, v, h1, h2, h3⟩, h4⟩
      exact ⟨t, v, (mem_adel hnd).2 ⟨h1, h4⟩, h2, h3⟩
    · rintro ⟨t, v, h1, h2, h3⟩
      exact ⟨⟨t, v, ((mem_adel hnd).1 h1).1, h2, h3⟩, ((mem_adel hnd).1 h1).2⟩
  · intro k hk
    rw [drop_foot]
    exact h.sepQ k (hfoot k hk)
  · rw [drop_foot]
    exact ⟨fun hk => h.sepR.1 (hfoot _ hk), h.sepR.2⟩
  · have := length_adel_le T.L name
    have := h.small
    omega

set_option maxRecDepth 100000 in
set_option maxHeartbeats 1000000 in
theorem tdrop_any (w : World) (b : Nat) (T : TSt) (h : TabAt w b T) (name : ByteArray) :
    Calls Tryd.prog 24 #[.pointer (some ⟨b, 0, none⟩), .string name] w (TDropSays w b T name) := by
  have c0 := h.c0
  have c1 := h.c1
  have c2 := h.c2
  have hz := zero_api
  have hM := h.all
  have hblt := h.lt
  have HH := Lib.hid h
  obtain ⟨z, hzv, sa, sn, sc, hz5⟩ : ∃ tz : Tm, ∃ v0 : Value, ∃ sa sn sc, (((aget T.L name).map encTM).getD (.agg #[.string ByteArray.empty, .int .i64 0, .int .u64 0, .int .u64 0, .slice none 0 0]) = .agg #[.string tz.name, .int .i64 tz.ver, .int .u64 tz.at_, .int .u64 tz.every, .slice sa sn sc]) := by
    cases hag : aget T.L name with
    | none => exact ⟨Tm.zero, .slice none 0 0, none, 0, 0, rfl⟩
    | some p =>
      obtain ⟨t, dv⟩ := p
      have hmem := (aget_mem h.all.nodup).1 hag
      obtain ⟨sa, sc, hs, _⟩ := (h.steps _ hmem).at.shape
      have hs' : dv = .slice sa t.do_.length sc := hs
      exact ⟨t, dv, sa, t.do_.length, sc, by rw [hs']; rfl⟩
  have HZ := Lib.hid hz5
  clear h hz5
  go_enter Tryd.func24, Tryd.ntmps24
  go_wp2_with (first | (at_delete; refine At.stop ?_) | (at_mapUpdate; refine At.stop ?_) | (at_lookup; refine At.stop ?_) | (at_range; refine At.stop ?_) | (at_next; refine At.stop ?_) | (at_builtin; refine At.stop ?_))
  refine At.go (wpl_lookup_ok rfl _ _ rfl Tryd.underlying52 key_tm hM rfl name rfl _ (zero_api _) ?_)
  rw [HZ.out]
  go_wp2_with (first | (at_delete; refine At.stop ?_) | (at_mapUpdate; refine At.stop ?_) | (at_lookup; refine At.stop ?_) | (at_range; refine At.stop ?_) | (at_next; refine At.stop ?_) | (at_builtin; refine At.stop ?_))
  refine At.go (wpl_delete rfl _ _ rfl Tryd.underlying52 key_tm (hM.alloc _) rfl name rfl ?_)
  intro w1 hf1x hs1 hm1
  have hf1 : Fr (· = T.rm) w w1 := ((Fr.refl _ w).alloc _).trans hf1x
  have hbrm : b ≠ T.rm := fun e => HH.out.not_foot HH.out.block not_mut_table (.inl e)
  have hbk1 := (hf1.block b hblt hbrm).trans HH.out.block
  have hlt1 : b < w1.heap.size := Nat.lt_of_lt_of_le hblt hf1.size
  have hS0 : w1.drew.cell? ⟨b, 1, none⟩ = some (.pointer (some ⟨T.q, 0, none⟩)) ∧ w1.drew.cell? ⟨b, 2, none⟩ = some (.pointer (some ⟨T.f, 0, none⟩)) := by
    constructor
    · show w1.cell? _ = _
      simp [World.cell?, hbk1]
    · show w1.cell? _ = _
      simp [World.cell?, hbk1]
  have hq1 := HH.out.que.fr hf1 (show ¬ T.q = T.rm from fun e => HH.out.not_foot HH.out.que.block not_mut_queue (.inl e)) (fun k hk (e : k = T.rm) => HH.out.sepR.1 (e ▸ hk))
  have hw1 := HH.out.whl.fr hf1 (fun k hk (e : k = T.rm) => HH.out.sepR.2 (e ▸ hk))
  have HK := Lib.hid (And.intro hf1 (And.intro hm1 (And.intro hbk1 (And.intro hq1 hw1))))
  clear hf1x hf1 hm1 hbk1 hq1 hw1 hM c0 c1 c2
  go_wp2_with (first | (at_delete; refine At.stop ?_) | (at_mapUpdate; refine At.stop ?_) | (at_lookup; refine At.stop ?_) | (at_range; refine At.stop ?_) | (at_next; refine At.stop ?_) | (at_builtin; refine At.stop ?_))
  go_region_held3 (fun w' => w'.cell? ⟨b, 1, none⟩ = some (.pointer (some ⟨T.q, 0, none⟩)) ∧ w'.cell? ⟨b, 2, none⟩ = some (.pointer (some ⟨T.f, 0, none⟩)))
    (first | exact hS0 | exact ⟨(World.cell?_of_block (w := w1) (Below.heap_alloc w1 _ b hlt1)).trans hS0.1, (World.cell?_of_block (w := w1) (Below.heap_alloc w1 _ b hlt1)).trans hS0.2⟩)
    (fail)
  all_goals
    rename_i hHeld
    clear hHeld
    obtain ⟨w2, hw2⟩ : ∃ w2, w2 = (w1.alloc (Obj.cells #[.func (.func 37) #[.pointer (some ⟨T.f, 0, none⟩)] #[], .func (.func 38) #[.pointer (some ⟨T.q, 0, none⟩)] #[]] 62)).drew := ⟨_, rfl⟩
    rw [← hw2]
    have hs1' : w1.heap.size = w.heap.size + 1 := hs1.trans (World.size_alloc ..)
    have hf12 : Fr (fun _ => False) w1 w2 := by rw [hw2]; exact ((Fr.refl _ w1).alloc _).drew
    have hnb : w2.heap[w.heap.size + 1]? = some (Obj.cells #[.func (.func 37) #[.pointer (some ⟨T.f, 0, none⟩)] #[], .func (.func 38) #[.pointer (some ⟨T.q, 0, none⟩)] #[]] 62 (0, 0)) := by
      rw [hw2]
      exact alloc_get w1 _ hs1'
    obtain ⟨hf1, hm1, hbk1, hq1, hwh1⟩ := HK.out
    have hq2 := hq1.move hf12
    have hwh2 := hwh1.fr hf12 (fun _ _ h => h)
    have hfoot2 : ∀ k, T.S.foot T.f k ∨ T.Q.foot k → k < w.heap.size := fun k hk => HH.out.foot_lt (by
      rcases hk with h | h
      · exact .inr (.inr h)
      · exact .inr (.inl h))
    have HR := Lib.hid (And.intro hf12 (And.intro hnb (And.intro hq2 (And.intro hwh2 hfoot2))))
    clear hw2 hf12 hnb hf1 hm1 hbk1 hq1 hwh1 hq2 hwh2 hfoot2 hs1 hs1' hS0 hlt1
    go_wp2
    go_loopg [37] 2 (fun n iv wr => (n = 2 ∧ iv = .int .i64 0 ∧ wr = w2) ∨ (n = 1 ∧ iv = .int .i64 1 ∧ Fr (T.S.foot T.f) w2 wr ∧ WheelAt wr T.f (T.S.drop name)) ∨
      (n = 0 ∧ iv = .int .i64 2 ∧ ∃ v' l' wm, Fr (T.S.foot T.f) w2 wm ∧ WheelAt wm T.f (T.S.drop name) ∧ Fr T.Q.foot wm wr ∧ QueAt wr T.q ⟨T.Q.re, T.Q.rm, v', l'⟩ ∧ dropE T.Q.l name l' ∧ v'.ownBlock = T.Q.v.ownBlock))
    case atStart => exact .inl ⟨rfl, rfl, rfl⟩
    case round =>
      rcases hrel with ⟨rfl, rfl, rfl⟩ | ⟨rfl, rfl, hfa, hwa⟩ | ⟨rfl, rfl, v', l', wm, hfa, hwa, hfb, hqb, hdb, hvb⟩
      · have k0 : wr.cell? ⟨w.heap.size + 1, 0, none⟩ = some (.func (.func 37) #[.pointer (some ⟨T.f, 0, none⟩)] #[]) := by simp [World.cell?, HR.out.2.1]
        have HD := Lib.hid (drop_any len64_says wr T.f T.S name HR.out.2.2.2.1 HH.out.good.above)
        go_wp2_with fail
        refine HD.out.mono ?_
        rintro e w3 ⟨rfl, hW3, hf3⟩
        have HE := Lib.hid (And.intro hf3 hW3)
        clear hW3 hf3 HD k0
        go_wp2_with fail
        go_roundg 1
        case rel => exact .inr (.inl ⟨rfl, by go_num, HE.out.1, HE.out.2⟩)
        case measure => omega
      · have k1 : wr.cell? ⟨w.heap.size + 1, 1, none⟩ = some (.func (.func 38) #[.pointer (some ⟨T.q, 0, none⟩)] #[]) := by
          have := (hfa.block (w.heap.size + 1) (Array.getElem?_eq_some_iff.1 HR.out.2.1).1 (fun hk => by have := HR.out.2.2.2.2 _ (.inl hk); omega)).trans HR.out.2.1
          simp [World.cell?, this]
        have hqa : QueAt wr T.q T.Q := HR.out.2.2.1.fr hfa (fun hk => by
          rcases whl_ty HR.out.2.2.2.1 hk with ⟨es, c, h1⟩ | ⟨cs, fz, h1⟩
          · rw [HR.out.2.2.1.block] at h1; simp at h1
          · rw [HR.out.2.2.1.block] at h1
            injection h1 with h1
            injection h1 with _ h3 _
            exact absurd h3 (by decide)) (fun k hk hk2 => HH.out.sepQ k hk hk2)
        have HD := Lib.hid (qdrop_any wr T.q T.Q hqa name)
        have HA := Lib.hid (And.intro hfa hwa)
        clear hfa hwa hqa
        go_wp2_with fail
        refine HD.out.mono ?_
        rintro e w3 ⟨bb, v', l', rfl, hQ3, hd3, hv3, hf3⟩
        have HE := Lib.hid (And.intro hQ3 (And.intro hd3 (And.intro hv3 hf3)))
        clear hQ3 hd3 hv3 hf3 HD k1
        go_wp2_with fail
        go_roundg 0
        case rel => exact .inr (.inr ⟨rfl, by go_num, v', l', wr, HA.out.1, HA.out.2, HE.out.2.2.2, HE.out.1, HE.out.2.1, HE.out.2.2.1⟩)
        case measure => omega
      · have HA := Lib.hid (And.intro hfa (And.intro hwa (And.intro hfb (And.intro hqb (And.intro hdb hvb)))))
        clear hfa hwa hfb hqb hdb hvb
        go_wp2_with fail
        go_ret
        obtain ⟨hfa, hwa, hfb, hqb, hdb, hvb⟩ := HA.out
        obtain ⟨hf1, hm1, hbk1, hq1, hwh1⟩ := HK.out
        obtain ⟨h1, h2⟩ := tdrop_done HH.out (hf1.trans (HR.out.1.mono fun _ _ h => h.elim)) (hm1.fr HR.out.1 (fun h => h)) hfa hwa hfb hqb hdb hvb
        exact ⟨v', l', rfl, h1, hvb, h2⟩
end Go.Proofs.YtmjbhnkhpgnchaaDoor
