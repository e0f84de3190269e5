/-
  Advance's inner function: a place is emptied into what is due and what is left.
-/
import Derived.Test.YtmjbhnkhpgnchaaDoorClock
namespace Go.Proofs.YtmjbhnkhpgnchaaDoor
open Go Go.RowKit

/-- what the emptying loop keeps -/
structure Pour (w wr : World) (it r rd rl now : Nat) (L D E : List (ByteArray × Nat)) (n : Nat) (got left D' E' : List (ByteArray × Nat)) : Prop where
  len : left.length = n
  iter : IterAt Value.string u64v wr it r L left
  perm : (got ++ left).Perm L
  due : IsMap Value.string u64v wr rd D'
  lft : IsMap Value.string u64v wr rl E'
  dp : D'.Perm (D ++ got.filter fun p => decide (p.2 ≤ now))
  ep : E'.Perm (E ++ got.filter fun p => decide (now < p.2))
  fr : Fr (fun k => k = r ∨ k = rd ∨ k = rl) w wr

theorem keys_perm {κ υ : Type} {l l' : List (κ × υ)} (h : l.Perm l') {k : κ} : k ∈ keys l ↔ k ∈ keys l' := (h.map _).mem_iff

theorem pour_new {κ υ : Type} {L D D' got rest : List (κ × υ)} {p : κ × υ} {f : κ × υ → Bool} (hn : (keys L).Nodup) (hp : (got ++ p :: rest).Perm L)
    (hd : ∀ q ∈ L, q.1 ∉ keys D) (hD : D'.Perm (D ++ got.filter f)) : p.1 ∉ keys D' := by
  rw [keys_perm hD]
  unfold keys at *
  rw [List.map_append, List.mem_append, not_or]
  refine ⟨hd p (hp.mem_iff.1 (by simp)), ?_⟩
  have h1 : ((got ++ p :: rest).map (·.1)).Nodup := (hp.map (·.1)).nodup_iff.2 hn
  rw [List.map_append, List.map_cons, List.nodup_append] at h1
  intro h2
  obtain ⟨q, hq, e⟩ := List.mem_map.1 h2
  exact h1.2.2 q.1 (List.mem_map.2 ⟨q, (List.mem_filter.1 hq).1, rfl⟩) p.1 (by simp) e

theorem pour_perm {α : Type} {got l1 l2 left L : List α} {p : α} (hl : left = l1 ++ p :: l2) (h : (got ++ left).Perm L) : (got ++ [p] ++ (l1 ++ l2)).Perm L := by
  refine List.Perm.trans ?_ h
  rw [hl, List.append_assoc]
  refine List.Perm.append_left _ ?_
  simp only [List.singleton_append]
  exact List.perm_middle.symm

set_option maxRecDepth 100000 in
set_option maxHeartbeats 400000 in
theorem empty_any (w : World) (B1 B2 B3 r rd rl now : Nat) (L D E : List (ByteArray × Nat))
    (c1 : w.cell? ⟨B1, 0, none⟩ = some (.int .u64 now)) (c2 : w.cell? ⟨B2, 0, none⟩ = some (.map (some rd))) (c3 : w.cell? ⟨B3, 0, none⟩ = some (.map (some rl)))
    (hB1 : B1 < w.heap.size ∧ B1 ≠ r ∧ B1 ≠ rd ∧ B1 ≠ rl) (hB2 : B2 < w.heap.size ∧ B2 ≠ r ∧ B2 ≠ rd ∧ B2 ≠ rl) (hB3 : B3 < w.heap.size ∧ B3 ≠ r ∧ B3 ≠ rd ∧ B3 ≠ rl)
    (hL : IsMap Value.string u64v w r L) (hD : IsMap Value.string u64v w rd D) (hE : IsMap Value.string u64v w rl E)
    (h1 : r ≠ rd) (h2 : r ≠ rl) (h3 : rd ≠ rl) (hdD : ∀ q ∈ L, q.1 ∉ keys D) (hdE : ∀ q ∈ L, q.1 ∉ keys E) :
    Calls Tryd.prog 44 #[.map (some r), .pointer (some ⟨B1, 0, none⟩), .pointer (some ⟨B2, 0, none⟩), .pointer (some ⟨B3, 0, none⟩)] w fun e w' =>
      (∃ v, e = .returned v) ∧ ∃ D' E', IsMap Value.string u64v w' r ([] : List (ByteArray × Nat)) ∧ IsMap Value.string u64v w' rd D' ∧ IsMap Value.string u64v w' rl E' ∧
        D'.Perm (D ++ L.filter fun p => decide (p.2 ≤ now)) ∧ E'.Perm (E ++ L.filter fun p => decide (now < p.2)) ∧ Fr (fun k => k = r ∨ k = rd ∨ k = rl) w w' := by
  have hLlt := hL.lt
  have hDlt := hD.lt
  have hElt := hE.lt
  have hn := hL.nodup
  have HD := Lib.hid (And.intro hdD hdE)
  clear hdD hdE
  go_enter Tryd.func44, Tryd.ntmps44
  go_wp2_with (first | (at_delete; refine At.stop ?_) | (at_mapUpdate; refine At.stop ?_) | (at_lookup; refine At.stop ?_) | (at_range; refine At.stop ?_) | (at_next; refine At.stop ?_) | (at_builtin; refine At.stop ?_))
  refine At.go (wpl_range rfl _ rfl Tryd.underlying82 hL rfl ?_)
  intro w1 hf1 hs1 hit
  have hst : Pour w w1 w.heap.size r rd rl now L D E L.length [] L D E :=
    ⟨rfl, hit, List.Perm.refl _, hD.fr hf1 (fun h => h), hE.fr hf1 (fun h => h), by simp, by simp, (Fr.refl _ w).then hf1 (fun _ _ h => h.elim)⟩
  clear hf1 hs1 hit hD hE hL
  go_frame
  go_wp2_with (first | (at_delete; refine At.stop ?_) | (at_mapUpdate; refine At.stop ?_) | (at_lookup; refine At.stop ?_) | (at_range; refine At.stop ?_) | (at_next; refine At.stop ?_) | (at_builtin; refine At.stop ?_))
  go_loopg [5] L.length (fun n v wr => ∃ got left D' E', Pour w wr w.heap.size r rd rl now L D E n got left D' E')
  case atStart => exact ⟨[], L, D, E, hst⟩
  case round =>
    obtain ⟨got, left, D', E', hg⟩ := hrel
    clear hst
    have hcn := (hg.fr.cell (p := ⟨B1, 0, none⟩) hB1.1 (by simp; omega)).trans c1
    have hcd := (hg.fr.cell (p := ⟨B2, 0, none⟩) hB2.1 (by simp; omega)).trans c2
    have hcl := (hg.fr.cell (p := ⟨B3, 0, none⟩) hB3.1 (by simp; omega)).trans c3
    go_wp2_with (first | (at_delete; refine At.stop ?_) | (at_mapUpdate; refine At.stop ?_) | (at_lookup; refine At.stop ?_) | (at_range; refine At.stop ?_) | (at_next; refine At.stop ?_) | (at_builtin; refine At.stop ?_))
    refine At.go (wpl_next rfl _ rfl rfl hg.iter (by omega) ?_ ?_)
    · intro hl0
      subst hl0
      have hR := hg.iter.isMap
      have HG := Lib.hid hg
      clear hg
      obtain ⟨w3, hrun, hf3, hs3, hm3⟩ := run_clear (P := Tryd.prog) (T := 82) Tryd.underlying82 hR 0
      have HM := Lib.hid (And.intro hf3 hm3)
      clear hf3 hs3 hm3
      go_wp2_with (first | (at_delete; refine At.stop ?_) | (at_mapUpdate; refine At.stop ?_) | (at_lookup; refine At.stop ?_) | (at_range; refine At.stop ?_) | (at_next; refine At.stop ?_) | (at_builtin; refine At.stop ?_))
      obtain ⟨hf3, hm3⟩ := HM.out
      have hg := HG.out
      have hp := hg.perm
      rw [List.append_nil] at hp
      go_end0
      exact ⟨⟨_, rfl⟩, D', E', hm3, hg.due.fr hf3 h1.symm, hg.lft.fr hf3 h2.symm,
        hg.dp.trans (List.Perm.append_left _ (hp.filter _)), hg.ep.trans (List.Perm.append_left _ (hp.filter _)), hg.fr.then hf3 (fun k _ e => .inl e)⟩
    · intro p l1 l2 w2 hl1 hf2 hs2 hit2 hen
      have hlk : (l1 ++ l2).length < gk := by
        rw [← hg.len, hl1]
        simp
      have hcn2 := (hf2.cell (p := ⟨B1, 0, none⟩) (Nat.lt_of_lt_of_le hB1.1 hg.fr.size) (Nat.ne_of_lt hB1.1)).trans hcn
      have hcd2 := (hf2.cell (p := ⟨B2, 0, none⟩) (Nat.lt_of_lt_of_le hB2.1 hg.fr.size) (Nat.ne_of_lt hB2.1)).trans hcd
      have hcl2 := (hf2.cell (p := ⟨B3, 0, none⟩) (Nat.lt_of_lt_of_le hB3.1 hg.fr.size) (Nat.ne_of_lt hB3.1)).trans hcl
      have hdue := hg.due.fr hf2 (by omega)
      have hlft := hg.lft.fr hf2 (by omega)
      have hfr := hg.fr.then hf2 (fun k hk e => by omega)
      have hnd := pour_new hn ((List.Perm.append_left _ List.perm_middle.symm).trans (hl1 ▸ hg.perm)) HD.out.1 hg.dp
      have hne := pour_new hn ((List.Perm.append_left _ List.perm_middle.symm).trans (hl1 ▸ hg.perm)) HD.out.2 hg.ep
      have HP := Lib.hid (pour_perm hl1 hg.perm)
      have HDp := Lib.hid hg.dp
      have HEp := Lib.hid hg.ep
      clear hg hl1 hf2 hs2
      by_cases hle : p.2 ≤ now
      · have hd : decide ((p.2 : Int) ≤ (now : Int)) = true := by simpa using hle
        go_wp2_with (first | (at_delete; refine At.stop ?_) | (at_mapUpdate; refine At.stop ?_) | (at_lookup; refine At.stop ?_) | (at_range; refine At.stop ?_) | (at_next; refine At.stop ?_) | (at_builtin; refine At.stop ?_))
        refine At.go (wpl_update rfl _ _ _ rfl Tryd.underlying82 key_str hdue rfl p.1 rfl p.2 rfl ?_)
        intro w3 hf3 hs3 hm3
        rw [aput_new hnd] at hm3
        have HG := Lib.hid (show Pour w w3 w.heap.size r rd rl now L D E (l1 ++ l2).length (got ++ [p]) (l1 ++ l2) (D' ++ [p]) E' from
          ⟨rfl, hit2.fr hf3 h1 (by omega), HP.out, hm3, hlft.fr hf3 h3.symm, by
            rw [List.filter_append, List.filter_cons, if_pos (by simpa using hle), List.filter_nil, ← List.append_assoc]
            exact HDp.out.append_right _, by
            rw [List.filter_append, List.filter_cons, if_neg (by simp; omega), List.filter_nil, List.append_nil]
            exact HEp.out, hfr.then hf3 (fun k _ e => .inr (.inl e))⟩)
        clear hf3 hs3 hm3 hit2 hdue hlft hfr hen
        go_wp2_with (first | (at_delete; refine At.stop ?_) | (at_mapUpdate; refine At.stop ?_) | (at_lookup; refine At.stop ?_) | (at_range; refine At.stop ?_) | (at_next; refine At.stop ?_) | (at_builtin; refine At.stop ?_))
        go_roundg (l1 ++ l2).length
        case measure => exact hlk
        case rel => exact ⟨_, _, _, _, HG.out⟩
      · have hd : decide ((p.2 : Int) ≤ (now : Int)) = false := by simpa using hle
        go_wp2_with (first | (at_delete; refine At.stop ?_) | (at_mapUpdate; refine At.stop ?_) | (at_lookup; refine At.stop ?_) | (at_range; refine At.stop ?_) | (at_next; refine At.stop ?_) | (at_builtin; refine At.stop ?_))
        refine At.go (wpl_update rfl _ _ _ rfl Tryd.underlying82 key_str hlft rfl p.1 rfl p.2 rfl ?_)
        intro w3 hf3 hs3 hm3
        rw [aput_new hne] at hm3
        have HG := Lib.hid (show Pour w w3 w.heap.size r rd rl now L D E (l1 ++ l2).length (got ++ [p]) (l1 ++ l2) D' (E' ++ [p]) from
          ⟨rfl, hit2.fr hf3 h2 (by omega), HP.out, hdue.fr hf3 h3, hm3, by
            rw [List.filter_append, List.filter_cons, if_neg (by simpa using hle), List.filter_nil, List.append_nil]
            exact HDp.out, by
            rw [List.filter_append, List.filter_cons, if_pos (by simp; omega), List.filter_nil, ← List.append_assoc]
            exact HEp.out.append_right _, hfr.then hf3 (fun k _ e => .inr (.inr e))⟩)
        clear hf3 hs3 hm3 hit2 hdue hlft hfr hen
        go_wp2_with (first | (at_delete; refine At.stop ?_) | (at_mapUpdate; refine At.stop ?_) | (at_lookup; refine At.stop ?_) | (at_range; refine At.stop ?_) | (at_next; refine At.stop ?_) | (at_builtin; refine At.stop ?_))
        go_roundg (l1 ++ l2).length
        case measure => exact hlk
        case rel => exact ⟨_, _, _, _, HG.out⟩
end Go.Proofs.YtmjbhnkhpgnchaaDoor
