/-
  The queue's Due.
-/
import Derived.Test.YtmjbhnkhpgnchaaDoorQueG
import Derived.Deep.LoopGhost
namespace Go.Proofs.YtmjbhnkhpgnchaaDoor
open Go Go.RowKit

/-- what Due's loop keeps: what is out, what is left -/
structure DueI (l got l' : List Ent) (now : Nat) : Prop where
  perm : l.Perm (got ++ l')
  asc : Asc got
  le : ∀ p ∈ got, p.2 ≤ now
  before : ∀ p ∈ got, ∀ x ∈ l', ahead p x = true

theorem DueI.start (l : List Ent) (now : Nat) : DueI l [] l now :=
  ⟨List.Perm.refl _, List.Pairwise.nil, (fun p hp => by cases hp), (fun p hp => by cases hp)⟩

theorem DueI.next {l got l' l'' : List Ent} {now : Nat} (h : DueI l got l' now) (hh : IsHeap l' l'.length) (hn : (keys l').Nodup) {y : Ent} (hy : l'[0]? = some y) (hle : y.2 ≤ now) (hp : l'.Perm (l'' ++ [y])) : DueI l (got ++ [y]) l'' now := by
  have hym : y ∈ l' := List.mem_of_getElem? hy
  have hsub : ∀ x ∈ l'', x ∈ l' := fun x hx => hp.symm.subset (List.mem_append_left _ hx)
  have hn2 : (keys (l'' ++ [y])).Nodup := (hp.map _).nodup hn
  refine ⟨?_, ?_, ?_, ?_⟩
  · refine h.perm.trans ?_
    rw [List.append_assoc]
    exact List.Perm.append_left _ (hp.trans List.perm_append_comm)
  · refine List.pairwise_append.2 ⟨h.asc, by simp, fun a ha b hb => ?_⟩
    simp at hb
    subst hb
    exact h.before a ha _ hym
  · intro p hp
    rcases List.mem_append.1 hp with hp | hp
    · exact h.le p hp
    · simp at hp; subst hp; exact hle
  · intro p hp x hx
    rcases List.mem_append.1 hp with hp | hp
    · exact h.before p hp x (hsub x hx)
    · simp at hp
      subst hp
      obtain ⟨k, hk⟩ := List.getElem?_of_mem (hsub x hx)
      have h1 : ahead x p = false := heap_root hh k (lt_of_get hk) x p hk hy
      cases h2 : ahead p x with
      | true => rfl
      | false =>
        have : p = x := ahead_total h2 h1
        subst this
        have h3 : p.1 ∈ keys l'' := List.mem_map_of_mem (f := (·.1)) hx
        have h4 : (keys l'' ++ [p.1]).Nodup := by
          have : keys (l'' ++ [p]) = keys l'' ++ [p.1] := by simp [Go.Proofs.YtmjbhnkhpgnchaaDoor.keys]
          rw [← this]; exact hn2
        have := (List.nodup_append.1 h4).2.2 p.1 h3 p.1 (by simp)
        exact absurd rfl this

theorem due_rest {l' : List Ent} {now : Nat} (hh : IsHeap l' l'.length) (hy : ∀ y, l'[0]? = some y → now < y.2) : ∀ x ∈ l', now < x.2 := by
  intro x hx
  obtain ⟨k, hk⟩ := List.getElem?_of_mem hx
  obtain ⟨y, hy0⟩ : ∃ y, l'[0]? = some y := ⟨_, List.getElem?_eq_getElem (by have := lt_of_get hk; omega)⟩
  have h1 := heap_root hh k (lt_of_get hk) x y hk hy0
  have h2 := hy y hy0
  unfold ahead at h1
  simp only [Bool.or_eq_false_iff, decide_eq_false_iff_not] at h1
  omega

set_option maxRecDepth 100000 in
set_option maxHeartbeats 400000 in
theorem qdue1_any (w : World) (y : Ent) (nb now : Nat) (hnb : w.cell? ⟨nb, 0, none⟩ = some (.int .u64 now)) (hlt : nb < w.heap.size) :
    Calls Tryd.prog 49 #[entV y, .pointer (some ⟨nb, 0, none⟩)] w fun e w' => e = .returned (.bool (decide (y.2 ≤ now))) ∧ Fr (fun _ => False) w w' := by
  go_enter Tryd.func49, Tryd.ntmps49
  go_wp2
  go_ret
  exact ⟨by simp, (Fr.refl _ w).alloc _⟩

/-- between two rounds of Due's loop -/
structure DueL (w wr : World) (q : Nat) (Q : QSt) (now nb n : Nat) (vo ve vi : Value) (got l' : List Ent) (b8 : Nat) (y : Ent) (v' : Value) : Prop where
  len : l'.length = n
  own : OwnS encT 2 71 w.heap.size wr vo got
  eb : wr.heap[b8]? = some (.cells #[.string y.1, .int .u64 y.2] 71 (0, 0))
  base : w.heap.size ≤ b8
  apart : vo.ownBlock ≠ some b8
  eve : ve = .pointer (some ⟨b8, 0, none⟩)
  evi : vi = .bool (!l'.isEmpty)
  top : ∀ x, l'[0]? = some x → y = x
  que : QueAt wr q ⟨Q.re, Q.rm, v', l'⟩
  vown : v'.ownBlock = Q.v.ownBlock
  inv : DueI Q.l got l' now
  fr : Fr Q.foot w wr
  now : wr.cell? ⟨nb, 0, none⟩ = some (.int .u64 now)

set_option maxRecDepth 100000 in
set_option maxHeartbeats 1000000 in
theorem qwhile_any (w : World) (q : Nat) (Q : QSt) (h : QueAt w q Q) (now nb : Nat) (hnb : w.cell? ⟨nb, 0, none⟩ = some (.int .u64 now)) (hlt : nb < w.heap.size) (hnf : ¬ Q.foot nb) :
    Calls Tryd.prog 46 #[.func (.func 47) #[.pointer (some ⟨q, 0, none⟩)] #[], .func (.func 48) #[.pointer (some ⟨q, 0, none⟩)] #[], .func (.func 49) #[] #[.pointer (some ⟨nb, 0, none⟩)]] w
      fun e w' => ∃ vo got v' l', e = .returned vo ∧ OwnS encT 2 71 w.heap.size w' vo got ∧ QueAt w' q ⟨Q.re, Q.rm, v', l'⟩ ∧ v'.ownBlock = Q.v.ownBlock ∧ DueI Q.l got l' now ∧ (∀ p ∈ l', now < p.2) ∧ Fr Q.foot w w' := by
  have hz := zero_entry
  have HF := Lib.hid (qfront_any w q Q h)
  have HH := Lib.hid (And.intro h (And.intro hnb hnf))
  clear h hnf
  go_enter Tryd.func46, Tryd.ntmps46
  go_wp2_with fail
  refine HF.out.mono ?_
  rintro e w1 ⟨⟨y, rfl, hy⟩, hf1⟩
  have hst : DueL w (w1.alloc (.cells #[.string y.1, .int .u64 y.2] 71)) q Q now nb Q.l.length (.slice none 0 0) (.pointer (some ⟨w1.heap.size, 0, none⟩)) (.bool (!Q.l.isEmpty)) [] Q.l w1.heap.size y Q.v := by
    have hf2 := hf1.alloc (.cells #[.string y.1, .int .u64 y.2] 71)
    refine ⟨rfl, OwnS.nil, alloc_get w1 _ rfl, hf1.size, (fun h => by cases h), rfl, rfl, hy, ?_, rfl, DueI.start _ _, hf2.mono (fun _ _ h => h.elim), (hf2.cell (p := ⟨nb, 0, none⟩) hlt (fun h => h)).trans hnb⟩
    exact HH.out.1.move hf2
  clear hf1 HF hy hnb
  go_wp2_with fail
  generalize (w1.alloc (.cells #[.string y.1, .int .u64 y.2] 71)) = w2 at hst ⊢
  go_loopg [7, 8, 9] Q.l.length (fun n vo ve vi wr => ∃ got l' b8 y v', DueL w wr q Q now nb n vo ve vi got l' b8 y v')
  case atStart => exact ⟨[], Q.l, _, y, Q.v, hst⟩
  case round =>
    obtain ⟨got, l', b8, y, v', hL⟩ := hrel
    clear hst
    obtain rfl := hL.eve
    obtain rfl := hL.evi
    have hb8 := (Array.getElem?_eq_some_iff.1 hL.eb).1
    have d0 : wr.cell? ⟨b8, 0, none⟩ = some (.string y.1) := by simp [World.cell?, hL.eb]
    have d1 : wr.cell? ⟨b8, 1, none⟩ = some (.int .u64 y.2) := by simp [World.cell?, hL.eb]
    have HL := Lib.hid hL
    cases hl : l' with
    | nil =>
      subst hl
      clear hL
      go_wp2_with fail
      go_ret
      have hL := HL.out
      exact ⟨_, got, v', [], rfl, hL.own, hL.que, hL.vown, hL.inv, (fun p hp => by cases hp), hL.fr⟩
    | cons z t =>
      have hyz : y = z := hL.top z (by rw [hl]; rfl)
      subst hyz
      have HD := Lib.hid (qdue1_any wr y nb now hL.now (by have := hL.fr.size; omega))
      have hne : (!(y :: t).isEmpty) = true := rfl
      rw [hne]
      by_cases hle : y.2 ≤ now
      · have hd : decide (y.2 ≤ now) = true := by simpa using hle
        rw [hd] at HD
        clear hL
        go_wp2_with fail
        refine HD.out.mono ?_
        rintro e w3 ⟨rfl, hf3⟩
        have hL := HL.out
        rw [hl] at hL
        have hq3 := hL.que.move hf3
        have hfoot : ∀ k, Q.foot k → k < w.heap.size := fun k hk => HH.out.1.foot_lt hk
        have hfoot' : ∀ k, QSt.foot ⟨Q.re, Q.rm, v', y :: t⟩ k → k < w.heap.size := fun k hk => hfoot k (by
          rcases hk with h | h | h
          · exact .inl h
          · exact .inr (.inl h)
          · exact .inr (.inr (by rw [← hL.vown]; exact h)))
        have hgl : got.length + 1 ≤ 1000000 := by
          have h1 := hL.inv.perm.length_eq
          have h2 := HH.out.1.ent.small
          simp at h1
          omega
        have HP := Lib.hid (qpopQ_any w3 q ⟨Q.re, Q.rm, v', y :: t⟩ hq3 y rfl)
        have HK := Lib.hid (And.intro hL (And.intro hf3 (And.intro hfoot hfoot')))
        clear hL hq3 hf3 hfoot hfoot' HD d0 d1
        go_wp2_with fail
        refine HP.out.mono ?_
        rintro e w4 ⟨v4, l4, rfl, hq4, hp4, hv4, hf4⟩
        obtain ⟨hL, hf3, hfoot, hfoot'⟩ := HK.out
        have hsz3 := hf3.size
        have hsz4 := hf4.size
        have hbase := hL.base
        have hb4 : w4.heap[b8]? = some (.cells #[.string y.1, .int .u64 y.2] 71 (0, 0)) :=
          (hf4.block b8 (by omega) (fun hk => by have := hfoot' b8 hk; omega)).trans ((hf3.block b8 hb8 (fun h => h)).trans hL.eb)
        have e0 : w4.cell? ⟨b8, 0, none⟩ = some (.string y.1) := by simp [World.cell?, hb4]
        have e1 : w4.cell? ⟨b8, 1, none⟩ = some (.int .u64 y.2) := by simp [World.cell?, hb4]
        have hown4 : OwnS encT 2 71 w.heap.size w4 u7 got :=
          (hL.own.fr hf3 (fun _ _ h => h)).fr hf4 (fun g hg hk => by
            have h1 := hfoot' g hk
            have h2 := (hL.own.lt g hg).1
            omega)
        have hown5 := OwnS.alloc hown4 (Obj.cells #[.string y.1, .int .u64 y.2] 71)
        have hszw : w.heap.size ≤ w4.heap.size := by have := hL.fr.size; omega
        have hnb5 := (Go.MapKept.heap_alloc w4 (Obj.cells #[.string y.1, .int .u64 y.2] 71)).1
        have HR := Lib.hid (And.intro hq4 (And.intro hp4 (And.intro hv4 (And.intro hf4 hb4))))
        have hb84 : b8 < w4.heap.size := by omega
        clear hq4 hp4 hv4 hf4 hL hf3 hfoot hfoot' hb4 HP hown4
        go_wp2_with (first | (at_builtin; refine At.stop ?_) | fail)
        refine At.go (wpl_append2 rfl _ _ _ rfl Tryd.underlying68 info_entry rfl (by omega) rfl hown5 _ _ rfl y rfl hnb5 (encT_cells y) (by unfold maxLen; omega) (by omega) (by rw [World.size_alloc]; omega) ?_)
        intro g cap w5 ho5 hf5 hat5 hlt5
        obtain ⟨hL, hf3, hfoot, hfoot'⟩ := HK.out
        obtain ⟨hq4, hp4, hv4, hf4, hb4⟩ := HR.out
        have hsz5 := hf5.size
        rw [World.size_alloc] at hsz5
        have hgb : g ≠ b8 := by
          rcases hat5 with h | h
          · rintro rfl; exact hL.apart h
          · rw [World.size_alloc] at h; omega
        have hb5 : w5.heap[b8]? = some (.cells #[.string y.1, .int .u64 y.2] 71 (0, 0)) :=
          (hf5.block b8 (by rw [World.size_alloc]; omega) (fun h => hL.apart h)).trans ((Below.heap_alloc w4 _ _ hb84).trans hb4)
        have g0 : w5.cell? ⟨b8, 0, none⟩ = some (.string y.1) := by simp [World.cell?, hb5]
        have g1 : w5.cell? ⟨b8, 1, none⟩ = some (.int .u64 y.2) := by simp [World.cell?, hb5]
        have hf45 : Fr (fun g => u7.ownBlock = some g) w4 w5 := ((Fr.refl _ w4).alloc _).trans hf5
        have hq5 : QueAt w5 q ⟨Q.re, Q.rm, v4, l4⟩ := hq4.fr hf45 (fun h => by
            have h1 := (hL.own.lt q h).1
            have h2 := HH.out.1.lt
            omega) (fun k hk h => by
            have h1 := (hL.own.lt k h).1
            have h2 := hfoot' k (by
              rcases hk with e | e | e
              · exact .inl e
              · exact .inr (.inl e)
              · exact .inr (.inr (by rw [← hv4]; exact e)))
            omega)
        have hq6 := hq5.move ((Fr.refl (fun _ => False) w5).alloc (.cells #[.string y.1, .int .u64 y.2] 71))
        have HF6 := Lib.hid (qfront_any _ q ⟨Q.re, Q.rm, v4, l4⟩ hq6)
        have HS := Lib.hid (And.intro ho5 (And.intro hf5 (And.intro hat5 (And.intro hq6 hf45))))
        clear hb5 hf45 hq5 hq6 ho5 hf5 hat5 hq4 hp4 hv4 hf4 hb4 hL hf3 hfoot hfoot' hown5 hnb5 e0 e1
        go_wp2_with fail
        refine HF6.out.mono ?_
        rintro e w7 ⟨⟨y2, rfl, hy2⟩, hf7⟩
        have hsz7 := hf7.size
        rw [World.size_alloc] at hsz7
        have hb7 : w7.heap[w5.heap.size]? = some (.cells #[.string y.1, .int .u64 y.2] 71 (0, 0)) :=
          (hf7.block w5.heap.size (by rw [World.size_alloc]; omega) (fun h => h)).trans (alloc_get w5 _ rfl)
        have k0 : w7.cell? ⟨w5.heap.size, 0, none⟩ = some (.string y.1) := by simp [World.cell?, hb7]
        have k1 : w7.cell? ⟨w5.heap.size, 1, none⟩ = some (.int .u64 y.2) := by simp [World.cell?, hb7]
        have k2 : w7.frozen? ⟨w5.heap.size, 0, none⟩ = false := by simp [World.frozen?, hb7]
        have k3 : w7.frozen? ⟨w5.heap.size, 1, none⟩ = false := by simp [World.frozen?, hb7]
        have HT := Lib.hid (And.intro hb7 (And.intro hf7 hy2))
        clear hb7 hf7 hy2 HF6 g0 g1
        go_wp2_with fail
        obtain ⟨hL, hf3, hfoot, hfoot'⟩ := HK.out
        obtain ⟨hq4, hp4, hv4, hf4, hb4⟩ := HR.out
        obtain ⟨ho5, hf5, hat5, hq6, hf45⟩ := HS.out
        obtain ⟨hb7, hf7, hy2⟩ := HT.out
        have hlen4 := hp4.length_eq
        simp only [List.length_append, List.length_cons] at hlen4
        have hgk := hL.len
        simp only [List.length_cons] at hgk
        have hf78 : Fr (· = w5.heap.size) w7 ((w7.setCell ⟨w5.heap.size, 0, none⟩ (.string y2.1)).setCell ⟨w5.heap.size, 1, none⟩ (.int .u64 y2.2)) :=
          (Fr.setCell (F := (· = w5.heap.size)) (a := ⟨w5.heap.size, 0, none⟩) (Fr.refl _ w7) (fun _ => rfl) _).setCell (a := ⟨w5.heap.size, 1, none⟩) (fun _ => rfl) _
        have hq7 : QueAt w7 q ⟨Q.re, Q.rm, v4, l4⟩ := hq6.move hf7
        have hfoot4 : ∀ k, QSt.foot ⟨Q.re, Q.rm, v4, l4⟩ k → k < w.heap.size := fun k hk => hfoot' k (by
          rcases hk with e | e | e
          · exact .inl e
          · exact .inr (.inl e)
          · exact .inr (.inr (by rw [← hv4]; exact e)))
        have hfQ : ∀ k, QSt.foot ⟨Q.re, Q.rm, v', y :: t⟩ k → Q.foot k := fun k hk => by
          rcases hk with e | e | e
          · exact .inl e
          · exact .inr (.inl e)
          · exact .inr (.inr (by rw [← hL.vown]; exact e))
        have hF4 : Fr Q.foot w w4 := (hL.fr.trans (hf3.mono fun _ _ h => h.elim)).then hf4 (fun k _ hk => hfQ k hk)
        have hF5 : Fr Q.foot w w5 := hF4.then hf45 (fun k hk h => by have := (hL.own.lt k h).1; omega)
        have hF7 : Fr Q.foot w w7 := (hF5.alloc _).trans (hf7.mono fun _ _ h => h.elim)
        have hF8 := hF7.then hf78 (fun k hk (e : k = w5.heap.size) => by omega)
        have hDL : DueL w ((w7.setCell ⟨w5.heap.size, 0, none⟩ (.string y2.1)).setCell ⟨w5.heap.size, 1, none⟩ (.int .u64 y2.2)) q Q now nb l4.length (.slice (some ⟨g, 0, none⟩) (got.length + 1) cap) (.pointer (some ⟨w5.heap.size, 0, none⟩)) (.bool (!l4.isEmpty)) (got ++ [y]) l4 w5.heap.size y2 v4 := by
          refine ⟨rfl, ?_, setCell_get _ _ 1 _ (setCell_get _ _ 0 _ hb7), by omega, ?_, rfl, rfl, hy2, ?_, hv4.trans hL.vown, hL.inv.next hL.que.heap hL.que.ent.nodup rfl hle hp4, hF8, (hF8.cell (p := ⟨nb, 0, none⟩) hlt HH.out.2.2).trans HH.out.2.1⟩
          · exact ((OwnS.alloc ho5 _).fr hf7 (fun _ _ h => h)).fr hf78 (fun k hk (e : k = w5.heap.size) => by
              have : g = k := by simpa [Value.ownBlock] using hk
              omega)
          · intro e
            have : g = w5.heap.size := by simpa [Value.ownBlock] using e
            omega
          · exact hq7.fr hf78 (show ¬ q = w5.heap.size by have := HH.out.1.lt; omega) (fun k hk (e : k = w5.heap.size) => by have := hfoot4 k hk; omega)
        go_roundg l4.length
        case rel => exact ⟨got ++ [y], l4, _, y2, v4, hDL⟩
        case measure => omega
      · have hd : decide (y.2 ≤ now) = false := by simpa using hle
        rw [hd] at HD
        clear hL
        go_wp2_with fail
        refine HD.out.mono ?_
        rintro e w3 ⟨rfl, hf3⟩
        have HR := Lib.hid hf3
        clear hf3 HD
        go_wp2_with fail
        go_ret
        have hL := HL.out
        rw [hl] at hL
        have hf3 := HR.out
        exact ⟨_, got, v', y :: t, rfl, hL.own.fr hf3 (fun _ _ h => h), hL.que.move hf3, hL.vown, hL.inv, due_rest hL.que.heap (fun x hx => by simp at hx; subst hx; omega), hL.fr.trans (hf3.mono fun _ _ h => h.elim)⟩

set_option maxRecDepth 100000 in
set_option maxHeartbeats 400000 in
theorem qdue_any (w : World) (q : Nat) (Q : QSt) (h : QueAt w q Q) (now : Nat) :
    Calls Tryd.prog 29 #[.pointer (some ⟨q, 0, none⟩), .int .u64 now] w
      fun e w' => ∃ vo got v' l', e = .returned vo ∧ OwnS encT 2 71 w.heap.size w' vo got ∧ QueAt w' q ⟨Q.re, Q.rm, v', l'⟩ ∧ v'.ownBlock = Q.v.ownBlock ∧ DueI Q.l got l' now ∧ (∀ p ∈ l', now < p.2) ∧ Fr Q.foot w w' := by
  have hq1 : QueAt (w.alloc (.cells #[.int .u64 now] 22)) q Q := h.move ((Fr.refl _ w).alloc _)
  have HW := Lib.hid (qwhile_any _ q Q hq1 now w.heap.size (by simp) (by simp) (fun hk => by have := h.foot_lt hk; omega))
  clear h hq1
  go_enter Tryd.func29, Tryd.ntmps29
  go_wp2_with fail
  refine HW.out.mono ?_
  rintro e w1 ⟨vo, got, v', l', rfl, ho, hq, hv, hi, hr, hf⟩
  have HR := Lib.hid (And.intro ho (And.intro hq (And.intro hv (And.intro hi (And.intro hr hf)))))
  clear ho hq hv hi hr hf HW
  go_wp2_with fail
  go_ret
  obtain ⟨ho, hq, hv, hi, hr, hf⟩ := HR.out
  refine ⟨_, got, v', l', rfl, ?_, hq, hv, hi, hr, ((Fr.refl _ w).alloc _).trans hf⟩
  rcases ho.2 with h1 | ⟨g, cap, cur, h1, h2, h3⟩
  · exact ⟨ho.1, .inl h1⟩
  · exact ⟨ho.1, .inr ⟨g, cap, cur, h1, by rw [World.size_alloc] at h2; omega, h3⟩⟩
end Go.Proofs.YtmjbhnkhpgnchaaDoor
