/-
  The table's Due.
-/
import Derived.Test.YtmjbhnkhpgnchaaDoorTabE
namespace Go.Proofs.YtmjbhnkhpgnchaaDoor
open Go Go.RowKit

def encTm (p : Tm × Value) : List Value := [.string p.1.name, .int .i64 p.1.ver, .int .u64 p.1.at_, .int .u64 p.1.every, p.2]
theorem encTm_len (p : Tm × Value) : (encTm p).length = 5 := rfl
theorem encTm_cells (t : Tm) (a : Option Addr) (n c : Nat) : ∀ v ∈ encTm (t, .slice a n c), v.oneCell' = true := by
  intro v hv
  simp [encTm] at hv
  rcases hv with rfl | rfl | rfl | rfl | rfl <;> rfl
theorem info_tm : (Tryd.prog.info? 25).map (fun i => (i.zero, i.size, i.bytes)) = some (some (.agg #[.string ByteArray.empty, .int .i64 0, .int .u64 0, .int .u64 0, .slice none 0 0]), 5, 64) := by kernel_rfl

/-- amid Due: k of the timers stand in the queue again -/
structure DueT (w w1 wr : World) (T : TSt) (vs : Value) (got : List Ent) (k : Nat) (v' : Value) (l' : List Ent) (vo : Value) (out : List (Tm × Value)) : Prop where
  fr : Fr T.Q.foot w wr
  size : w1.heap.size ≤ wr.heap.size
  base : w.heap.size ≤ w1.heap.size
  que : QueAt wr T.q ⟨T.Q.re, T.Q.rm, v', l'⟩
  perm : l'.Perm (got.take k)
  lies : Lies w1 T.Q.v v'
  src : OwnS encT 2 71 w.heap.size wr vs got
  old : ∀ g, vs.ownBlock = some g → g < w1.heap.size
  outs : OwnS encTm 5 25 w.heap.size wr vo out
  stp : ∀ p ∈ out, OwnSt w.heap.size wr p.2 p.1.do_
  val : out.map (·.1) = (got.take k).map fun e => foundT T e.1

/-- the cells that Due reads, while it writes -/
def SDue (b : Nat) (T : TSt) (x : Nat) (p : Ent) (w : World) : Prop :=
  w.cell? ⟨b, 0, none⟩ = some (.map (some T.rm)) ∧ w.cell? ⟨b, 1, none⟩ = some (.pointer (some ⟨T.q, 0, none⟩)) ∧ w.cell? ⟨x, 0, none⟩ = some (.string p.1) ∧ w.cell? ⟨x, 1, none⟩ = some (.int .u64 p.2)

theorem SDue.fr {w w' : World} {b x : Nat} {T : TSt} {p : Ent} {F : Nat → Prop} (h : SDue b T x p w) (hf : Fr F w w') (hb : b < w.heap.size) (hx : x < w.heap.size) (h1 : ¬ F b) (h2 : ¬ F x) : SDue b T x p w' := by
  obtain ⟨a0, a1, a2, a3⟩ := h
  exact ⟨(hf.cell (p := ⟨b, 0, none⟩) hb h1).trans a0, (hf.cell (p := ⟨b, 1, none⟩) hb h1).trans a1, (hf.cell (p := ⟨x, 0, none⟩) hx h2).trans a2, (hf.cell (p := ⟨x, 1, none⟩) hx h2).trans a3⟩

theorem SDue.alloc {w : World} {b x : Nat} {T : TSt} {p : Ent} (h : SDue b T x p w) (hb : b < w.heap.size) (hx : x < w.heap.size) (o : Obj) : SDue b T x p (w.alloc o) :=
  h.fr ((Fr.refl (fun _ => False) w).alloc o) hb hx (fun h => h) (fun h => h)

section
variable {w w1 wr w2 : World} {b : Nat} {T : TSt} {vs v' vo v2 : Value} {got l' : List Ent} {k : Nat} {out : List (Tm × Value)}

theorem DueT.move (h : DueT w w1 wr T vs got k v' l' vo out) (hf : Fr (fun _ => False) wr w2) : DueT w w1 w2 T vs got k v' l' vo out :=
  ⟨h.fr.then hf (fun _ _ e => e.elim), Nat.le_trans h.size hf.size, h.base, h.que.move hf, h.perm, h.lies, h.src.fr hf (fun _ _ e => e), h.old, h.outs.fr hf (fun _ _ e => e), fun p hp => (h.stp p hp).fr hf (fun _ _ e => e), h.val⟩

/-- what copied hands back, beside all else -/
theorem DueT.copied (h : DueT w w1 wr T vs got k v' l' vo out) {W : World} {dv2 : Value} {t : Tm} {x : Nat} {p : Ent} (hW : Fr (fun _ => False) wr W) (hb : b < wr.heap.size) (hx : x < W.heap.size) (hS : SDue b T x p W) (ho : OwnSt W.heap.size w2 dv2 t.do_) (hB : RowKit.Below W.heap.size W w2) :
    ∃ sa sc, dv2 = .slice sa t.do_.length sc ∧ SDue b T x p w2 ∧ b < w2.heap.size ∧ x < w2.heap.size ∧ OwnS encTm 5 25 w.heap.size w2 vo out ∧ w.heap.size ≤ w2.heap.size ∧ Fr (fun _ => False) wr w2 ∧ OwnSt w.heap.size w2 dv2 t.do_ := by
  obtain ⟨sa, sc, hsv, _⟩ := ho.at.shape
  have hF : Fr (fun _ => False) W w2 := Fr.of_new hB
  have hw : w.heap.size ≤ wr.heap.size := Nat.le_trans h.base h.size
  exact ⟨sa, sc, hsv, hS.fr hF (Nat.lt_of_lt_of_le hb hW.size) hx (fun h => h) (fun h => h), Nat.lt_of_lt_of_le hb (Nat.le_trans hW.size hF.size), Nat.lt_of_lt_of_le hx hF.size,
    (h.outs.fr hW (fun _ _ e => e)).fr hF (fun _ _ e => e), Nat.le_trans hw (Nat.le_trans hW.size hF.size), hW.trans hF, OwnS.wide ho (Nat.le_trans hw hW.size)⟩

/-- the copy stands in the answer -/
theorem DueT.app (h : DueT w w1 wr T vs got k v' l' vo out) {w3 w4 : World} {dv2 : Value} {t : Tm} (hb : Fr (fun _ => False) wr w2) (ho : OwnSt w.heap.size w2 dv2 t.do_) (ha : Fr (fun _ => False) w2 w3)
    (_ : OwnS encTm 5 25 w.heap.size w4 v2 (out ++ [(t, dv2)])) (hf4 : Fr (fun g => vo.ownBlock = some g) w3 w4) :
    Fr T.Q.foot w w4 ∧ QueAt w4 T.q ⟨T.Q.re, T.Q.rm, v', l'⟩ ∧ OwnS encT 2 71 w.heap.size w4 vs got ∧ (∀ p ∈ out ++ [(t, dv2)], OwnSt w.heap.size w4 p.2 p.1.do_) := by
  have h3 := (h.move hb).move ha
  refine ⟨h3.fr.then hf4 (fun g hg e => ?_), h3.que.keepO h3.outs hf4 (by decide), h3.src.keepO h3.outs hf4 (by decide), ?_⟩
  · have := (h3.outs.lt g e).1
    omega
  · intro p hp
    rcases List.mem_append.1 hp with hp | hp
    · exact (h3.stp p hp).keepO h3.outs hf4 (by decide)
    · rw [List.mem_singleton] at hp
      subst hp
      exact OwnS.keepO (ho.fr ha (fun _ _ e => e)) h3.outs hf4 (by decide)

/-- the timer stands in the queue again -/
theorem DueT.next (h : DueT w w1 wr T vs got k v' l' vo out) {p : Ent} (hp : got[k]? = some p) {w4 w5 w6 : World} {dv2 : Value} {t : Tm} (hw4 : wr.heap.size ≤ w4.heap.size)
    (hF : Fr T.Q.foot w w4) (hQ4 : QueAt w4 T.q ⟨T.Q.re, T.Q.rm, v', l'⟩) (hsrc : OwnS encT 2 71 w.heap.size w4 vs got) (hstp : ∀ p ∈ out ++ [(t, dv2)], OwnSt w.heap.size w4 p.2 p.1.do_) (ho4 : OwnS encTm 5 25 w.heap.size w4 v2 (out ++ [(t, dv2)]))
    (hd : Fr (fun _ => False) w4 w5) (ht : foundT T p.1 = t) {v3 : Value} {l3 : List Ent} (hQ : QueAt w6 T.q ⟨T.Q.re, T.Q.rm, v3, l3⟩) (hpm : l3.Perm (l' ++ [p])) (hl : Lies w5 v' v3) (hf : Fr (QSt.foot ⟨T.Q.re, T.Q.rm, v', l'⟩) w5 w6) (hre : T.Q.re < w.heap.size ∧ T.Q.rm < w.heap.size ∧ ∀ g, T.Q.v.ownBlock = some g → g < w.heap.size) :
    DueT w w1 w6 T vs got (k + 1) v3 l3 v2 (out ++ [(t, dv2)]) := by
  have hQ5 := hQ4.move hd
  have e : got.take (k + 1) = got.take k ++ [p] := by rw [List.take_add_one, hp]; rfl
  refine ⟨(hF.then hd (fun _ _ e => e.elim)).then hf (fun g hg e => ?_), Nat.le_trans h.size (Nat.le_trans hw4 (Nat.le_trans hd.size hf.size)), h.base, hQ, ?_, ?_, ?_, h.old, (ho4.fr hd (fun _ _ e => e)).keepQ hQ5 hf (by decide), fun p hp => OwnS.keepQ ((hstp p hp).fr hd (fun _ _ e => e)) hQ5 hf (by decide), ?_⟩
  · rcases e with e | e | e
    · exact .inl e
    · exact .inr (.inl e)
    · rcases h.lies g e with h1 | h1
      · exact .inr (.inr h1)
      · have := h.base; omega
  · rw [e]
    exact hpm.trans (h.perm.append_right _)
  · intro g hg
    rcases hl g hg with h1 | h1
    · exact h.lies g h1
    · exact .inr (Nat.le_trans h.size (Nat.le_trans (Nat.le_trans hw4 hd.size) h1))
  · refine OwnS.fr (hsrc.fr hd (fun _ _ e => e)) hf (fun g hg e => ?_)
    have h1 := (hsrc.lt g hg).1
    have h2 := h.old g hg
    rcases e with e | e | e
    · have e' : g = T.Q.re := e
      omega
    · have e' : g = T.Q.rm := e
      omega
    · rcases h.lies g e with h3 | h3
      · have := hre.2.2 g h3; omega
      · omega
  · rw [e, List.map_append, List.map_append, h.val, List.map_singleton, List.map_singleton, ht]
end

theorem TabAt.que_len {w : World} {b : Nat} {T : TSt} (h : TabAt w b T) : T.Q.l.length ≤ 10000 := by
  have h1 : (keys T.Q.l).Nodup := h.que.ent.nodup
  have h2 : (keys T.Q.l).length ≤ (keys T.L).length := len_of_sub h1 fun k hk => by
    obtain ⟨e, he, e1⟩ := List.mem_map.1 hk
    obtain ⟨s, v, h1, _⟩ := (h.due e).1 he
    rw [← e1]
    exact List.mem_map_of_mem (f := (·.1)) h1
  have e1 : (keys T.Q.l).length = T.Q.l.length := List.length_map ..
  have e2 : (keys T.L).length = T.L.length := List.length_map ..
  have := h.small
  omega

theorem DueT.fresh {w w1 wr : World} {b : Nat} {T : TSt} {vs v' vo : Value} {got l' : List Ent} {k : Nat} {out : List (Tm × Value)} (h : DueT w w1 wr T vs got k v' l' vo out) (ht : TabAt w b T) (hp : T.Q.l.Perm got) {p : Ent} (hk : got[k]? = some p) : p.1 ∉ keys l' := by
  intro hm
  have h1 : p.1 ∈ keys (got.take k) := (keys_perm h.perm).1 hm
  have hn : (keys got).Nodup := ((hp.map Prod.fst).nodup_iff).1 ht.que.ent.nodup
  have e1 : got = got.take k ++ got.drop k := (List.take_append_drop k got).symm
  have h2 : p.1 ∈ keys (got.drop k) := by
    have : p ∈ got.drop k := by
      apply List.mem_of_getElem? (i := 0)
      rw [List.getElem?_drop]
      exact hk
    exact mem_keys this
  rw [e1] at hn
  unfold Go.Proofs.YtmjbhnkhpgnchaaDoor.keys at hn h1 h2
  rw [List.map_append, List.nodup_append] at hn
  exact hn.2.2 _ h1 _ h2 rfl

theorem DueT.room {w w1 wr : World} {b : Nat} {T : TSt} {vs v' vo : Value} {got l' : List Ent} {k : Nat} {out : List (Tm × Value)} (h : DueT w w1 wr T vs got k v' l' vo out) (ht : TabAt w b T) (hp : T.Q.l.Perm got) : l'.length + 1 ≤ 1000000 := by
  have h1 := ht.que_len
  rw [hp.length_eq] at h1
  rw [h.perm.length_eq, List.length_take]
  omega

theorem DueT.notb {w w1 wr : World} {b : Nat} {T : TSt} {vs v' vo : Value} {got l' l2 : List Ent} {k : Nat} {out : List (Tm × Value)} (h : DueT w w1 wr T vs got k v' l' vo out) (ht : TabAt w b T) : ¬ QSt.foot ⟨T.Q.re, T.Q.rm, v', l2⟩ b := fun hk => by
  rcases QSt.foot_lies h.lies hk with h1 | h1
  · exact ht.not_foot ht.block not_mut_table (.inr (.inl h1))
  · have := ht.lt
    have := h.base
    omega

def TDueSays (w : World) (b : Nat) (T : TSt) (e : Ending) (w' : World) : Prop :=
  ∃ v' l' vo out got, e = .returned vo ∧ TabAt w' b ⟨T.rm, T.q, ⟨T.Q.re, T.Q.rm, v', l'⟩, T.f, T.S, T.L⟩ ∧ OwnS encTm 5 25 w.heap.size w' vo out ∧ (∀ p ∈ out, OwnSt w.heap.size w' p.2 p.1.do_) ∧
    Asc got ∧ got.Perm T.Q.l ∧ out.map (·.1) = got.map (fun e => foundT T e.1) ∧ l'.Perm T.Q.l ∧ Fr T.Q.foot w w' ∧ Lies w T.Q.v v'

theorem DueT.done {w w1 wr : World} {b : Nat} {T : TSt} {vs v' vo : Value} {got l' : List Ent} {out : List (Tm × Value)} (h : DueT w w1 wr T vs got got.length v' l' vo out) (ht : TabAt w b T) (hp : T.Q.l.Perm got) (ha : Asc got) : TDueSays w b T (.returned vo) wr := by
  have hq := h.perm
  rw [List.take_length] at hq
  have hv := h.val
  rw [List.take_length] at hv
  have hF : Fr T.foot w wr := h.fr.mono fun k _ e => .inr (.inl e)
  have hl : Lies w T.Q.v v' := fun g hg => (h.lies g hg).imp id fun h1 => Nat.le_trans h.base h1
  refine ⟨v', l', vo, out, got, rfl, ?_, h.outs, h.stp, ha, hp.symm, hv, hq.trans hp.symm, h.fr, hl⟩
  refine ht.turn hF (ht.all.fr h.fr ht.sepR.1) h.que (ht.whl.fr h.fr (fun k hk hk2 => ht.sepQ k hk2 hk)) ht.good ht.now (fun p hp => (ht.steps p hp).keep ht hF) ht.names ht.right ?_ ht.far ?_ ?_ ht.small
  · intro e
    rw [(hq.trans hp.symm).mem_iff]
    exact ht.due e
  · intro k hk hk2
    rcases QSt.foot_lies hl hk with h1 | h1
    · exact ht.sepQ k h1 hk2
    · have := ht.foot_lt (.inr (.inr hk2)); omega
  · refine ⟨fun hk => ?_, ht.sepR.2⟩
    rcases QSt.foot_lies hl hk with h1 | h1
    · exact ht.sepR.1 h1
    · have := ht.foot_lt (.inl rfl); omega

set_option maxRecDepth 100000 in
set_option maxHeartbeats 1000000 in
theorem tdue_any (w : World) (b : Nat) (T : TSt) (h : TabAt w b T) :
    Calls Tryd.prog 16 #[.pointer (some ⟨b, 0, none⟩)] w (TDueSays w b T) := by
  have c1 := h.c1
  have hS0 : w.drew.cell? ⟨b, 1, none⟩ = some (.pointer (some ⟨T.q, 0, none⟩)) := h.c1
  have HC := Lib.hid (tclock_any w.drew b T (h.move (Fr.refl _ w).drew))
  have HQ := Lib.hid (qdue_any w.drew T.q T.Q (h.que.move (Fr.refl _ w).drew) T.S.now)
  have HH := Lib.hid h
  clear h
  go_enter Tryd.func16, Tryd.ntmps16
  go_wp2_with fail
  have HU := Lib.hid (fun (w1 : World) (hf1 : Fr T.Q.foot w.drew w1) => show w1.cell? ⟨b, 1, none⟩ = some (.pointer (some ⟨T.q, 0, none⟩)) from
    (hf1.cell (p := ⟨b, 1, none⟩) HH.out.lt (fun hk => HH.out.not_foot HH.out.block not_mut_table (.inr (.inl hk)))).trans hS0)
  go_region_held3 (fun w' => w'.cell? ⟨b, 1, none⟩ = some (.pointer (some ⟨T.q, 0, none⟩)))
    (first | exact hS0 | exact hS1)
    (first
      | (go_at_call 30; refine HC.out.mono ?_; rintro e w1 ⟨rfl, rfl⟩)
      | (go_at_call 29; refine HQ.out.mono ?_; rintro e w1 ⟨vs, got, v1, l1, rfl, ho1, hQ1, hv1, hi1, hr1, hf1⟩; obtain hS1 := HU.out w1 hf1))
  all_goals
    rename_i hHeld
    clear hHeld
    have hl1 : l1 = [] := by
      cases l1 with
      | nil => rfl
      | cons x t =>
        have h1 := hr1 x (by simp)
        have h2 : x ∈ T.Q.l := hi1.perm.symm.subset (by simp)
        obtain ⟨s, v, _, h4, h5⟩ := (HH.out.due x).1 h2
        omega
    subst hl1
    have hperm : T.Q.l.Perm got := by have := hi1.perm; rwa [List.append_nil] at this
    have hasc := hi1.asc
    obtain ⟨sa, sc, hsv, _⟩ := ho1.at.shape
    have hlen : got.length ≤ 10000 := by rw [← hperm.length_eq]; exact HH.out.que_len
    have hst : DueT w w1 w1 T vs got 0 v1 [] (.slice none 0 0) [] := by
      have hfw : Fr T.Q.foot w w1 := ((Fr.refl (fun _ => False) w).drew.mono (fun _ _ e => e.elim)).trans hf1
      refine ⟨hfw, Nat.le_refl _, hfw.size, hQ1, by simp, fun g hg => .inl (by rw [← hv1]; exact hg), ho1, fun g hg => (ho1.lt g hg).2, OwnS.nil, (fun p hp => by cases hp), by simp⟩
    subst hsv
    have HS := Lib.hid hst
    have HK := Lib.hid (And.intro hperm hasc)
    have hre : T.Q.re < w.heap.size ∧ T.Q.rm < w.heap.size ∧ ∀ g, T.Q.v.ownBlock = some g → g < w.heap.size :=
      ⟨HH.out.que.foot_lt (.inl rfl), HH.out.que.foot_lt (.inr (.inl rfl)), fun g hg => HH.out.que.foot_lt (.inr (.inr hg))⟩
    have HRE := Lib.hid hre
    clear hre hst hperm hasc hi1 hr1 ho1 hQ1 hv1 hf1 hS0 hS1 c1 HC HQ HU
    go_wp2_with fail
    go_loopg [3, 18] got.length (fun n vo iv wr => ∃ k v' l' out, k + n = got.length ∧ iv = .int .i64 (k : Nat) ∧ DueT w w1 wr T (.slice sa got.length sc) got k v' l' vo out)
    case atStart => exact ⟨0, v1, [], [], by omega, rfl, HS.out⟩
    case round =>
      obtain ⟨k, v', l', out, hk, rfl, hL⟩ := hrel
      by_cases hlt : k < got.length
      · have hi0 : (k : Int) < (got.length : Int) := by omega
        obtain ⟨p, hp⟩ : ∃ p, got[k]? = some p := ⟨_, List.getElem?_eq_getElem hlt⟩
        obtain ⟨a', cap', hv', _, hc⟩ := hL.src.rd encT_len
        injection hv' with e1 e2 e3
        clear e2 e3
        obtain ⟨g, off, ha, _, hc2⟩ := hc k p hp
        have hsa : sa = some ⟨g, off, none⟩ := e1.trans ha
        subst hsa
        have c0 := hc2 0 _ rfl
        have c1 := hc2 1 _ rfl
        rw [Nat.add_zero] at c0
        have hF : Fr T.foot w wr := hL.fr.mono fun _ _ e => .inr (.inl e)
        have hT : TabAt wr b T ∨ True := .inr trivial
        have hbk := (hF.block b HH.out.lt (HH.out.not_foot HH.out.block not_mut_table)).trans HH.out.block
        have hblt : b < wr.heap.size := (Array.getElem?_eq_some_iff.1 hbk).1
        obtain ⟨W1, hW1⟩ : ∃ W1, W1 = wr.alloc (Obj.cells #[.string p.1, .int .u64 p.2] 71) := ⟨_, rfl⟩
        have hW2f : Fr (fun _ => False) wr W1.drew := by rw [hW1]; exact ((Fr.refl _ wr).alloc _).drew
        have hsz2 : W1.drew.heap.size = wr.heap.size + 1 := by rw [hW1]; exact World.size_alloc ..
        have hbx : W1.heap[wr.heap.size]? = some (Obj.cells #[.string p.1, .int .u64 p.2] 71 (0, 0)) := by rw [hW1]; exact alloc_get wr _ rfl
        have hbk2 : W1.heap[b]? = _ := (hW2f.block b hblt (fun h => h)).trans hbk
        have hS0 : SDue b T wr.heap.size p W1.drew := by
          refine ⟨?_, ?_, ?_, ?_⟩
          · show W1.cell? _ = _; simp [World.cell?, hbk2]
          · show W1.cell? _ = _; simp [World.cell?, hbk2]
          · show W1.cell? _ = _; simp [World.cell?, hbx]
          · show W1.cell? _ = _; simp [World.cell?, hbx]
        obtain ⟨t, dv, hmem, hat, hle⟩ := (HH.out.due p).1 (HK.out.1.symm.subset (List.mem_of_getElem? hp))
        have hag : aget T.L p.1 = some (t, dv) := (aget_mem HH.out.all.nodup).2 hmem
        have hft : foundT T p.1 = t := by unfold foundT; rw [hag]; rfl
        have hrd : RdSt W1.drew dv t.do_ := (((HH.out.steps _ hmem).keep HH.out hF).rd encStp_len).move hW2f
        have hmm : IsMap Value.string encTM W1.drew T.rm T.L := (HH.out.all.fr hL.fr HH.out.sepR.1).fr hW2f (fun h => h)
        obtain ⟨ta, tc, htv, _⟩ : ∃ sa sc, dv = .slice sa t.do_.length sc ∧ True := by
          obtain ⟨sa, sc, h1, _⟩ := hrd
          exact ⟨sa, sc, h1, trivial⟩
        have hlk : (Instr.lookup 52 (.map (some T.rm)) (.string p.1) false).run Tryd.prog W1.drew = .ok (.agg #[.string t.name, .int .i64 t.ver, .int .u64 t.at_, .int .u64 t.every, .slice ta t.do_.length tc]) W1.drew := by
          have h1 := run_lookup_one (P := Tryd.prog) Tryd.underlying52 key_tm hmm _ (zero_api _) p.1
          rw [hag, htv] at h1
          exact h1
        have HC := Lib.hid (copied_any W1.drew t dv hrd (HH.out.right _ hmem).2.small)
        rw [htv] at HC
        have HL := Lib.hid (And.intro hL (And.intro hp (And.intro hlt (And.intro hft (And.intro hW2f (And.intro hsz2 hblt))))))
        have HD := Lib.hid hW1
        clear hL hp hc hc2 hbk hbk2 hbx hW2f hsz2 e1 hW1 hft hag hmem hrd hmm hF hT hblt hat hle
        have hS0' := hS0
        unfold SDue at hS0'
        have HU := Lib.hid (fun w2 dv2 ho2 hb2 => HL.out.1.copied (w2 := w2) (dv2 := dv2) (t := t) HL.out.2.2.2.2.1 HL.out.2.2.2.2.2.2 (show wr.heap.size < W1.drew.heap.size by rw [HL.out.2.2.2.2.2.1]; omega) hS0 ho2 hb2)
        have HV := Lib.hid (show (¬ u3.ownBlock = some b) ∧ (¬ u3.ownBlock = some wr.heap.size) ∧ out.length + 1 ≤ maxLen ∧ (out.length + 1) * 64 ≤ 140737488355328 from by
          have h1 : out.length = k := by
            have := congrArg List.length HL.out.1.val
            rw [List.length_map, List.length_map, List.length_take] at this
            omega
          refine ⟨fun e => ?_, fun e => ?_, by unfold maxLen; omega, by omega⟩
          · have := (HL.out.1.outs.lt b e).1
            have := HH.out.lt
            omega
          · have := (HL.out.1.outs.lt _ e).2
            omega)
        clear hS0
        go_wp2_with fail
        rw [← HD.out]
        go_region_held3 (fun w' => w'.cell? ⟨b, 0, none⟩ = some (.map (some T.rm)) ∧ w'.cell? ⟨b, 1, none⟩ = some (.pointer (some ⟨T.q, 0, none⟩)) ∧ w'.cell? ⟨wr.heap.size, 0, none⟩ = some (.string p.1) ∧ w'.cell? ⟨wr.heap.size, 1, none⟩ = some (.int .u64 p.2))
          (first | exact hS0' | exact hS2 | exact SDue.alloc hS2 hb2 hx2 _ | exact hS3)
          (first
            | (go_at_call 18; refine HC.out.mono ?_; rintro e w2 ⟨dv2, rfl, ho2, hbb2⟩; obtain ⟨sa2, sc2, hsv2, hS2, hb2, hx2, hown2, hbase2, hfr2, hos2⟩ := HU.out w2 dv2 ho2 hbb2; subst hsv2)
            | (refine step_append2 rfl _ _ _ rfl Tryd.underlying46 info_tm rfl (Nat.zero_lt_succ 4) rfl (OwnS.alloc hown2 _) w2.heap.size 1 rfl (t, .slice sa2 t.do_.length sc2) rfl (alloc_get w2 _ rfl) (encTm_cells t sa2 t.do_.length sc2) HV.out.2.2.1 HV.out.2.2.2 (Nat.le_trans hbase2 (sz_alloc_le _ _)) ?_; intro g3 c3 w3 ho3 hf3 hat3 hlt3; have hS3 := SDue.fr (SDue.alloc hS2 hb2 hx2 _) hf3 (Nat.lt_of_lt_of_le hb2 (sz_alloc_le _ _)) (Nat.lt_of_lt_of_le hx2 (sz_alloc_le _ _)) HV.out.1 HV.out.2.1))
        all_goals
          rename_i hHeld
          clear hHeld
          obtain ⟨hF3, hQ3, hsrc3, hstp3⟩ := HL.out.1.app hfr2 hos2 ((Fr.refl _ w2).alloc _) ho3 hf3
          have hsz3 : wr.heap.size ≤ w3.heap.size := Nat.le_trans hfr2.size (Nat.le_trans (sz_alloc_le _ _) hf3.size)
          have hb3 : b < w3.heap.size := Nat.lt_of_lt_of_le hb2 (Nat.le_trans (sz_alloc_le _ _) hf3.size)
          have hx3 : wr.heap.size < w3.heap.size := Nat.lt_of_lt_of_le hx2 (Nat.le_trans (sz_alloc_le _ _) hf3.size)
          have hS3d : SDue b T wr.heap.size p w3.drew := SDue.fr hS3 (Fr.refl (fun _ => False) w3).drew hb3 hx3 (fun h => h) (fun h => h)
          have HQ := Lib.hid (qput_any w3.drew T.q ⟨T.Q.re, T.Q.rm, v', l'⟩ (hQ3.move (Fr.refl _ w3).drew) p.1 p.2 (HL.out.1.fresh HH.out HK.out.1 HL.out.2.1) (HL.out.1.room HH.out HK.out.1))
          have HU2 := Lib.hid (fun (w4 : World) (hf4 : Fr (QSt.foot ⟨T.Q.re, T.Q.rm, v', l'⟩) w3.drew w4) => show SDue b T wr.heap.size p w4 from
            hS3d.fr hf4 hb3 hx3 (HL.out.1.notb HH.out) (fun hk => absurd (HL.out.1.que.foot_lt hk) (Nat.lt_irrefl _)))
          have HR := Lib.hid (And.intro hsz3 (And.intro hF3 (And.intro hQ3 (And.intro hsrc3 (And.intro hstp3 ho3)))))
          unfold SDue at hS3d
          clear hF3 hQ3 hsrc3 hstp3 ho3 hf3 hS3 hS2 hb2 hx2 hown2 hbase2 hfr2 hos2 hsz3 hb3 hx3 hat3 hlt3 ho2 hbb2 HC HU HV hS0' hlk
          go_wp2_with fail
          go_region_held3 (fun w' => w'.cell? ⟨b, 0, none⟩ = some (.map (some T.rm)) ∧ w'.cell? ⟨b, 1, none⟩ = some (.pointer (some ⟨T.q, 0, none⟩)) ∧ w'.cell? ⟨wr.heap.size, 0, none⟩ = some (.string p.1) ∧ w'.cell? ⟨wr.heap.size, 1, none⟩ = some (.int .u64 p.2))
            (first | exact hS3d | exact hS4)
            (first
              | (go_at_call 26; refine HQ.out.mono ?_; rintro e w4 ⟨v3, l3, rfl, hQ4, hp4, hl4, hf4⟩; obtain hS4 := HU2.out w4 hf4))
          all_goals
            rename_i hHeld
            clear hHeld
            have HN := Lib.hid (HL.out.1.next HL.out.2.1 HR.out.1 HR.out.2.1 HR.out.2.2.1 HR.out.2.2.2.1 HR.out.2.2.2.2.1 HR.out.2.2.2.2.2 (Fr.refl _ w3).drew HL.out.2.2.2.1 hQ4 hp4 hl4 hf4 HRE.out)
            clear hQ4 hp4 hl4 hf4 hS4 HQ HU2 hS3d
            go_wp2_with fail
            go_roundg (got.length - (k + 1))
            case measure => omega
            case rel => exact ⟨k + 1, _, _, _, by omega, by go_num, HN.out⟩
      · obtain rfl : k = got.length := by omega
        have HN := Lib.hid hL
        clear hL
        go_wp2_with fail
        go_ret
        exact HN.out.done HH.out HK.out.1 HK.out.2
end Go.Proofs.YtmjbhnkhpgnchaaDoor
