/-
  The wheel's invariant on its data, and that Put, Drop, Advance keep it. No program.
-/
import Derived.Test.YtmjbhnkhpgnchaaDoorAdvC
namespace Go.Proofs.YtmjbhnkhpgnchaaDoor
open Go Go.RowKit

/-- each timer stands in its place, and nowhere else -/
structure Good (S : WSt) : Prop where
  above : S.Above
  nodup : (keys S.all).Nodup
  nodups : ∀ i, i ≤ 64 → (keys (S.get i)).Nodup
  place : ∀ i, i ≤ 64 → ∀ p, p ∈ S.get i ↔ p ∈ S.all ∧ plcOf S.now p.2 = i

theorem key_inj {κ υ : Type} {l : List (κ × υ)} (hn : (keys l).Nodup) {p q : κ × υ} (hp : p ∈ l) (hq : q ∈ l) (e : p.1 = q.1) : p = q := by
  induction l with
  | nil => cases hp
  | cons a l ih =>
    rw [keys_cons, List.nodup_cons] at hn
    rcases List.mem_cons.1 hp with e1 | hp'
    · rcases List.mem_cons.1 hq with e2 | hq'
      · rw [e1, e2]
      · exact absurd (show a.1 ∈ keys l from List.mem_map.2 ⟨q, hq', by rw [← e, e1]⟩) hn.1
    · rcases List.mem_cons.1 hq with e2 | hq'
      · exact absurd (show a.1 ∈ keys l from List.mem_map.2 ⟨p, hp', by rw [e, e2]⟩) hn.1
      · exact ih hn.2 hp' hq'

theorem mem_keys {κ υ : Type} {l : List (κ × υ)} {p : κ × υ} (h : p ∈ l) : p.1 ∈ keys l := List.mem_map.2 ⟨p, h, rfl⟩

theorem len_of_sub {α : Type} [DecidableEq α] : ∀ {l m : List α}, l.Nodup → (∀ x ∈ l, x ∈ m) → l.length ≤ m.length
  | [], _, _, _ => by simp
  | a :: l, m, hn, hs => by
    rw [List.nodup_cons] at hn
    have ha := hs a (by simp)
    have := len_of_sub (m := m.erase a) hn.2 (fun x hx => (List.mem_erase_of_ne (fun (e : x = a) => hn.1 (e ▸ hx))).2 (hs x (by simp [hx])))
    rw [List.length_erase_of_mem ha] at this
    have := List.length_pos_of_mem ha
    simp only [List.length_cons]
    omega

section
variable {S : WSt}

theorem Good.mem (h : Good S) {p : ByteArray × Nat} (hp : p ∈ S.all) : p ∈ S.get (plcOf S.now p.2) := (h.place _ (plcOf_le _ _) p).2 ⟨hp, rfl⟩
theorem Good.le (h : Good S) {i : Nat} (hi : i ≤ 64) : (S.get i).length ≤ S.all.length := len_of_sub (nodup_of_keys (h.nodups i hi)) fun p hp => ((h.place i hi p).1 hp).1
theorem Good.apart (h : Good S) : S.Apart := by
  intro i j hi hj hne p hp hk
  obtain ⟨q, hq, e⟩ := List.mem_map.1 hk
  have h1 := (h.place i hi p).1 hp
  have h2 := (h.place j hj q).1 hq
  have := key_inj h.nodup h2.1 h1.1 e
  subst this
  exact hne (h1.2.symm.trans h2.2)
theorem Good.small (h : Good S) : ∀ i, i ≤ 64 → ∀ p ∈ S.get i, p.2 < 18446744073709551616 := fun i hi p hp => (h.above p ((h.place i hi p).1 hp).1).2

theorem Good.firstN_len (h : Good S) (n : Nat) (hn : n ≤ 65) : (S.firstN n).length ≤ n * S.all.length := by
  induction n with
  | zero => simp [WSt.firstN]
  | succ n ih =>
    rw [firstN_succ, List.length_append, Nat.succ_mul]
    have := ih (by omega)
    have := h.le (i := n) (by omega)
    omega

theorem Good.drop (h : Good S) (name : ByteArray) : Good (S.drop name) ∧ (S.drop name).now = S.now ∧ ∀ p, p ∈ (S.drop name).all ↔ p ∈ S.all ∧ p.1 ≠ name := by
  have hall : ∀ p, p ∈ (S.drop name).all ↔ p ∈ S.all ∧ p.1 ≠ name := fun p => by rw [drop_all]; exact mem_adel h.nodup
  refine ⟨⟨?_, ?_, ?_, ?_⟩, drop_now _ _, hall⟩
  · intro p hp
    rw [drop_now]
    exact h.above p ((hall p).1 hp).1
  · rw [drop_all]; exact nodup_adel h.nodup
  · intro i hi
    unfold WSt.drop
    cases e : aget S.all name with
    | none => exact h.nodups i hi
    | some t =>
      show (keys ((S.set (plcOf S.now t) (adel (S.get (plcOf S.now t)) name)).get i)).Nodup
      by_cases ei : i = plcOf S.now t
      · subst ei
        rw [set_get_same]
        exact nodup_adel (h.nodups _ hi)
      · rw [set_get_other S (plcOf_le _ _) hi ei]
        exact h.nodups i hi
  · intro i hi p
    rw [hall, drop_now]
    unfold WSt.drop
    cases e : aget S.all name with
    | none =>
      show p ∈ S.get i ↔ _
      rw [h.place i hi p]
      have hn := aget_none.1 e
      constructor
      · rintro ⟨h1, h2⟩
        exact ⟨⟨h1, fun e' => hn (e' ▸ mem_keys h1)⟩, h2⟩
      · rintro ⟨⟨h1, _⟩, h2⟩
        exact ⟨h1, h2⟩
    | some t =>
      have hm := (aget_mem h.nodup).1 e
      show p ∈ (S.set (plcOf S.now t) (adel (S.get (plcOf S.now t)) name)).get i ↔ _
      by_cases ei : i = plcOf S.now t
      · subst ei
        rw [set_get_same, mem_adel (h.nodups _ hi), h.place _ hi p]
        constructor
        · rintro ⟨⟨h1, h2⟩, h3⟩; exact ⟨⟨h1, h3⟩, h2⟩
        · rintro ⟨⟨h1, h3⟩, h2⟩; exact ⟨⟨h1, h2⟩, h3⟩
      · rw [set_get_other S (plcOf_le _ _) hi ei, h.place i hi p]
        constructor
        · rintro ⟨h1, h2⟩
          refine ⟨⟨h1, fun e' => ?_⟩, h2⟩
          have := key_inj h.nodup h1 hm e'
          subst this
          exact ei h2.symm
        · rintro ⟨⟨h1, _⟩, h2⟩
          exact ⟨h1, h2⟩

/-- a new timer is laid in its place -/
theorem Good.add (h : Good S) {name : ByteArray} {t : Nat} (hn : name ∉ keys S.all) (h1 : S.now < t) (h2 : t < 18446744073709551616) :
    Good ({ S with all := aput S.all name t }.set (plcOf S.now t) (aput (S.get (plcOf S.now t)) name t)) := by
  have hnk : ∀ i, i ≤ 64 → name ∉ keys (S.get i) := by
    intro i hi hk
    obtain ⟨q, hq, e⟩ := List.mem_map.1 hk
    exact hn (e ▸ mem_keys ((h.place i hi q).1 hq).1)
  have hall : ∀ p, p ∈ aput S.all name t ↔ p = (name, t) ∨ p ∈ S.all := by
    intro p
    rw [mem_aput h.nodup]
    constructor
    · rintro (h | ⟨h, _⟩)
      · exact .inl h
      · exact .inr h
    · rintro (h | h)
      · exact .inl h
      · exact .inr ⟨h, fun e => hn (e ▸ mem_keys h)⟩
  have hget : ∀ i, i ≤ 64 → ∀ p, p ∈ ({ S with all := aput S.all name t }.set (plcOf S.now t) (aput (S.get (plcOf S.now t)) name t) : WSt).get i ↔ p ∈ S.get i ∨ (p = (name, t) ∧ plcOf S.now t = i) := by
    intro i hi p
    by_cases ei : i = plcOf S.now t
    · subst ei
      rw [set_get_same, mem_aput (h.nodups _ hi)]
      constructor
      · rintro (h | ⟨h, _⟩)
        · exact .inr ⟨h, rfl⟩
        · exact .inl h
      · rintro (h | ⟨h, _⟩)
        · exact .inr ⟨h, fun e => hnk _ hi (e ▸ mem_keys h)⟩
        · exact .inl h
    · rw [set_get_other _ (plcOf_le _ _) hi ei]
      constructor
      · exact fun h => .inl h
      · rintro (h | ⟨_, h⟩)
        · exact h
        · exact absurd h.symm ei
  refine ⟨?_, ?_, ?_, ?_⟩
  · intro p hp
    rw [set_all] at hp
    rw [set_now]
    rcases (hall p).1 hp with rfl | hp
    · exact ⟨h1, h2⟩
    · exact h.above p hp
  · rw [set_all]; exact nodup_aput h.nodup
  · intro i hi
    by_cases ei : i = plcOf S.now t
    · subst ei
      rw [set_get_same]
      exact nodup_aput (h.nodups _ hi)
    · rw [set_get_other _ (plcOf_le _ _) hi ei]
      exact h.nodups i hi
  · intro i hi p
    rw [hget i hi, set_all, set_now, h.place i hi p]
    show _ ↔ p ∈ aput S.all name t ∧ plcOf S.now p.2 = i
    rw [hall]
    constructor
    · rintro (⟨h1, h2⟩ | ⟨rfl, h2⟩)
      · exact ⟨.inr h1, h2⟩
      · exact ⟨.inl rfl, h2⟩
    · rintro ⟨rfl | h1, h2⟩
      · exact .inr ⟨rfl, h2⟩
      · exact .inl ⟨h1, h2⟩

theorem Good.put (h : Good S) {name : ByteArray} {t : Nat} (h1 : S.now < t) (h2 : t < 18446744073709551616) :
    Good (S.put name t) ∧ (S.put name t).now = S.now ∧ ∀ p, p ∈ (S.put name t).all ↔ p = (name, t) ∨ (p ∈ S.all ∧ p.1 ≠ name) := by
  obtain ⟨hg, hnow, hall⟩ := h.drop name
  have hnk : name ∉ keys (S.drop name).all := by
    intro hk
    obtain ⟨q, hq, e⟩ := List.mem_map.1 hk
    exact ((hall q).1 hq).2 e
  have := hg.add hnk (t := t) (by rw [hnow]; exact h1) h2
  have e : plcOf (S.drop name).now t = plcOf S.now t := by rw [hnow]
  rw [e] at this
  refine ⟨this, ?_, ?_⟩
  · unfold WSt.put
    rw [set_now]
    exact hnow
  · intro p
    unfold WSt.put
    rw [set_all]
    show p ∈ aput (S.drop name).all name t ↔ _
    rw [mem_aput hg.nodup, hall]
    constructor
    · rintro (h | ⟨⟨h1, h2⟩, _⟩)
      · exact .inl h
      · exact .inr ⟨h1, h2⟩
    · rintro (h | ⟨h1, h2⟩)
      · exact .inl h
      · exact .inr ⟨⟨h1, h2⟩, h2⟩

/-- placing many anew -/
theorem placeAll_spec : ∀ (l : List (ByteArray × Nat)) (S : WSt), (∀ i, i ≤ 64 → (keys (S.get i)).Nodup) → (keys l).Nodup → (∀ i, i ≤ 64 → ∀ p ∈ l, p.1 ∉ keys (S.get i)) →
    (∀ i, i ≤ 64 → (keys ((S.placeAll l).get i)).Nodup) ∧ ∀ i, i ≤ 64 → ∀ p, p ∈ (S.placeAll l).get i ↔ p ∈ S.get i ∨ (p ∈ l ∧ plcOf S.now p.2 = i)
  | [], S, h1, _, _ => ⟨h1, fun i hi p => by simp [WSt.placeAll]⟩
  | q :: l, S, h1, h2, h3 => by
    rw [keys_cons, List.nodup_cons] at h2
    have hget : ∀ i, i ≤ 64 → ∀ p, p ∈ (S.set (plcOf S.now q.2) (aput (S.get (plcOf S.now q.2)) q.1 q.2)).get i ↔ p ∈ S.get i ∨ (p = q ∧ plcOf S.now q.2 = i) := by
      intro i hi p
      by_cases ei : i = plcOf S.now q.2
      · subst ei
        rw [set_get_same, mem_aput (h1 _ hi)]
        constructor
        · rintro (h | ⟨h, _⟩)
          · exact .inr ⟨h, rfl⟩
          · exact .inl h
        · rintro (h | ⟨h, _⟩)
          · exact .inr ⟨h, fun e => h3 _ hi q (by simp) (e ▸ mem_keys h)⟩
          · exact .inl h
      · rw [set_get_other _ (plcOf_le _ _) hi ei]
        constructor
        · exact fun h => .inl h
        · rintro (h | ⟨_, h⟩)
          · exact h
          · exact absurd h.symm ei
    have hn' : ∀ i, i ≤ 64 → (keys ((S.set (plcOf S.now q.2) (aput (S.get (plcOf S.now q.2)) q.1 q.2)).get i)).Nodup := by
      intro i hi
      by_cases ei : i = plcOf S.now q.2
      · subst ei
        rw [set_get_same]
        exact nodup_aput (h1 _ hi)
      · rw [set_get_other _ (plcOf_le _ _) hi ei]
        exact h1 i hi
    have hd' : ∀ i, i ≤ 64 → ∀ p ∈ l, p.1 ∉ keys ((S.set (plcOf S.now q.2) (aput (S.get (plcOf S.now q.2)) q.1 q.2)).get i) := by
      intro i hi p hp hk
      obtain ⟨x, hx, e⟩ := List.mem_map.1 hk
      rcases (hget i hi x).1 hx with hx | ⟨rfl, _⟩
      · exact h3 i hi p (by simp [hp]) (e ▸ mem_keys hx)
      · exact h2.1 (e ▸ mem_keys hp)
    obtain ⟨r1, r2⟩ := placeAll_spec l _ hn' h2.2 hd'
    refine ⟨r1, fun i hi p => ?_⟩
    have := r2 i hi p
    show p ∈ (WSt.placeAll _ l).get i ↔ _
    rw [this, hget i hi, set_now]
    constructor
    · rintro ((h | ⟨rfl, h⟩) | ⟨h, h'⟩)
      · exact .inl h
      · exact .inr ⟨by simp, h⟩
      · exact .inr ⟨by simp [h], h'⟩
    · rintro (h | ⟨h, h'⟩)
      · exact .inl (.inl h)
      · rcases List.mem_cons.1 h with rfl | h
        · exact .inl (.inr ⟨rfl, h'⟩)
        · exact .inr ⟨h, h'⟩

theorem adelAll_spec : ∀ (ns l : List (ByteArray × Nat)), (keys l).Nodup → (keys (adelAll l ns)).Nodup ∧ ∀ p, p ∈ adelAll l ns ↔ p ∈ l ∧ p.1 ∉ keys ns
  | [], l, h => ⟨h, fun p => by simp [adelAll]⟩
  | q :: ns, l, h => by
    obtain ⟨r1, r2⟩ := adelAll_spec ns (adel l q.1) (nodup_adel h)
    refine ⟨r1, fun p => ?_⟩
    show p ∈ adelAll (adel l q.1) ns ↔ _
    rw [r2, mem_adel h, keys_cons, List.mem_cons, not_or]
    constructor
    · rintro ⟨⟨h1, h2⟩, h3⟩; exact ⟨h1, h2, h3⟩
    · rintro ⟨h1, h2, h3⟩; exact ⟨⟨h1, h2⟩, h3⟩

theorem Good.advance (h : Good S) {now' : Nat} (hn2 : now' < 18446744073709551616) {D E g1 g2 : List (ByteArray × Nat)} (p1 : g1.Perm D) (p2 : g2.Perm E)
    (hD : D.Perm ((S.firstN (goneOf S.now now')).filter fun p => decide (p.2 ≤ now'))) (hE : E.Perm ((S.firstN (goneOf S.now now')).filter fun p => decide (now' < p.2)))
    (nE : (keys E).Nodup) :
    Good (({ S.upto (goneOf S.now now') with now := now', all := adelAll S.all g1 } : WSt).placeAll g2) ∧
    (∀ p, p ∈ (({ S.upto (goneOf S.now now') with now := now', all := adelAll S.all g1 } : WSt).placeAll g2).all ↔ p ∈ S.all ∧ now' < p.2) ∧
    (∀ p, p ∈ D ↔ p ∈ S.all ∧ p.2 ≤ now') := by
  have hG : goneOf S.now now' ≤ 65 := by unfold goneOf; split <;> omega
  have mfirst : ∀ p, p ∈ S.firstN (goneOf S.now now') ↔ p ∈ S.all ∧ plcOf S.now p.2 < goneOf S.now now' := by
    intro p
    rw [mem_firstN]
    constructor
    · rintro ⟨i, hi, hp⟩
      have := (h.place i (by omega) p).1 hp
      exact ⟨this.1, by omega⟩
    · rintro ⟨h1, h2⟩
      exact ⟨_, h2, h.mem h1⟩
  have hstay : ∀ p ∈ S.all, ¬ plcOf S.now p.2 < goneOf S.now now' → now' < p.2 ∧ plcOf now' p.2 = plcOf S.now p.2 := by
    intro p hp hq
    have := h.above p hp
    exact stay_gone S.now now' p.2 this.1 this.2 hn2 hq
  have mD : ∀ p, p ∈ D ↔ p ∈ S.all ∧ p.2 ≤ now' := by
    intro p
    rw [hD.mem_iff, List.mem_filter, mfirst]
    simp only [decide_eq_true_eq]
    constructor
    · rintro ⟨⟨h1, _⟩, h2⟩; exact ⟨h1, h2⟩
    · rintro ⟨h1, h2⟩
      refine ⟨⟨h1, ?_⟩, h2⟩
      apply Classical.byContradiction
      intro h3
      have := (hstay p h1 h3).1
      omega
  have mE : ∀ p, p ∈ g2 ↔ p ∈ S.all ∧ plcOf S.now p.2 < goneOf S.now now' ∧ now' < p.2 := by
    intro p
    rw [p2.mem_iff, hE.mem_iff, List.mem_filter, mfirst]
    simp only [decide_eq_true_eq, and_assoc]
  have n2 : (keys g2).Nodup := ((p2.map Prod.fst).nodup_iff).2 nE
  obtain ⟨a1, a2⟩ := adelAll_spec g1 S.all h.nodup
  have mall : ∀ p, p ∈ adelAll S.all g1 ↔ p ∈ S.all ∧ now' < p.2 := by
    intro p
    rw [a2]
    constructor
    · rintro ⟨h1, h2⟩
      refine ⟨h1, ?_⟩
      apply Nat.lt_of_not_le
      intro h3
      exact h2 (mem_keys (p1.mem_iff.2 ((mD p).2 ⟨h1, h3⟩)))
    · rintro ⟨h1, h2⟩
      refine ⟨h1, fun hk => ?_⟩
      obtain ⟨q, hq, e⟩ := List.mem_map.1 hk
      have hq2 := (mD q).1 (p1.mem_iff.1 hq)
      have := key_inj h.nodup hq2.1 h1 e
      subst this
      omega
  obtain ⟨k1, k2, k3, k4⟩ := placeAll_keep ({ S.upto (goneOf S.now now') with now := now', all := adelAll S.all g1 } : WSt) g2
  have hget : ∀ i, i ≤ 64 → ({ S.upto (goneOf S.now now') with now := now', all := adelAll S.all g1 } : WSt).get i = if i < goneOf S.now now' then [] else S.get i := fun i hi => upto_get S hi
  obtain ⟨q1, q2⟩ := placeAll_spec g2 ({ S.upto (goneOf S.now now') with now := now', all := adelAll S.all g1 } : WSt)
    (by
      intro i hi
      rw [hget i hi]
      split
      · exact List.nodup_nil
      · exact h.nodups i hi) n2
    (by
      intro i hi p hp
      rw [hget i hi]
      split
      · simp
      · rename_i hge
        intro hk
        obtain ⟨q, hq, e⟩ := List.mem_map.1 hk
        have h1 := (h.place i hi q).1 hq
        have h2 := (mE p).1 hp
        have := key_inj h.nodup h1.1 h2.1 e
        subst this
        omega)
  refine ⟨⟨?_, ?_, q1, ?_⟩, ?_, mD⟩
  · intro p hp
    rw [k4] at hp
    rw [k1]
    have := (mall p).1 hp
    exact ⟨this.2, (h.above p this.1).2⟩
  · rw [k4]; exact a1
  · intro i hi p
    rw [q2 i hi, k1, k4, hget i hi]
    show _ ∨ p ∈ g2 ∧ plcOf now' p.2 = i ↔ p ∈ adelAll S.all g1 ∧ plcOf now' p.2 = i
    rw [mall, mE]
    constructor
    · rintro (h1 | ⟨⟨h1, h2, h3⟩, h4⟩)
      · by_cases hlt : i < goneOf S.now now'
        · rw [if_pos hlt] at h1; cases h1
        · rw [if_neg hlt] at h1
          have h2 := (h.place i hi p).1 h1
          have h3 := hstay p h2.1 (by omega)
          exact ⟨⟨h2.1, h3.1⟩, by omega⟩
      · exact ⟨⟨h1, h3⟩, h4⟩
    · rintro ⟨⟨h1, h2⟩, h3⟩
      by_cases hlt : plcOf S.now p.2 < goneOf S.now now'
      · exact .inr ⟨⟨h1, hlt, h2⟩, h3⟩
      · have h4 := hstay p h1 hlt
        left
        rw [if_neg (by omega)]
        exact (h.place i hi p).2 ⟨h1, by omega⟩
  · intro p
    rw [k4]
    exact mall p
end
end Go.Proofs.YtmjbhnkhpgnchaaDoor
