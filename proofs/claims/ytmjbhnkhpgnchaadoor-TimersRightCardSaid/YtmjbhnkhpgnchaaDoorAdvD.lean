/-
  Advance: from one loop to the next.
-/
import Derived.Test.YtmjbhnkhpgnchaaDoorAdvB
namespace Go.Proofs.YtmjbhnkhpgnchaaDoor
open Go Go.RowKit

theorem OwnT.base {B B' : Nat} {w : World} {v : Value} {l : List (ByteArray × Nat)} (h : OwnT B w v l) (hB : B' ≤ B) : OwnT B' w v l := by
  unfold OwnT OwnS World.ownsRow at h ⊢
  refine ⟨h.1, ?_⟩
  rcases h.2 with e1 | ⟨g', cap', cur, e1, e2, e3⟩
  · exact .inl e1
  · exact .inr ⟨g', cap', cur, e1, by omega, e3⟩

theorem wcells_setNow (S : WSt) (n : Nat) : (wcells S).setIfInBounds 0 (.int .u64 n) = wcells { S with now := n } := by
  unfold wcells
  simp

theorem WheelAt.setNow {w : World} {b : Nat} {S : WSt} (h : WheelAt w b S) (n : Nat) : WheelAt (w.setCell ⟨b, 0, none⟩ (.int .u64 n)) b { S with now := n } where
  block := by
    have hb := h.block
    have hlt := h.lt
    rw [← wcells_setNow]
    simp [World.setCell, Array.getElem?_modify, hb]
  all := h.all.setCell (by have := h.ne_all; exact fun e => this e.symm) _
  place i hi := (h.place i hi).setCell (by have := h.ne_place hi; exact fun e => this e.symm) _
  apart := h.apart
  once := h.once

theorem sweep_del {w wr : World} {b : Nat} {S : WSt} {now' G : Nat} {D E : List (ByteArray × Nat)} (h : Sweep w wr b S now' G D E) :
    (wr.setCell ⟨b, 0, none⟩ (.int .u64 now')).cell? ⟨w.heap.size + 2, 0, none⟩ = some (.map (some (w.heap.size + 1))) ∧
    IsMap Value.string u64v (wr.setCell ⟨b, 0, none⟩ (.int .u64 now')) (w.heap.size + 1) D ∧
    w.heap.size + 5 ≤ (wr.setCell ⟨b, 0, none⟩ (.int .u64 now')).heap.size ∧
    (∀ w7, Fr (fun _ => False) (wr.setCell ⟨b, 0, none⟩ (.int .u64 now')) w7 → IterAt Value.string u64v w7 (wr.setCell ⟨b, 0, none⟩ (.int .u64 now')).heap.size (w.heap.size + 1) D D →
      Del w w7 b { S.upto G with now := now' } (wr.setCell ⟨b, 0, none⟩ (.int .u64 now')).heap.size D.length D E [] D) := by
  have hb : b < w.heap.size := h.old b (.inl rfl)
  have hsz := h.size
  have hs : (wr.setCell ⟨b, 0, none⟩ (.int .u64 now')).heap.size = wr.heap.size := by simp [World.setCell]
  have hf : Fr (· = b) wr (wr.setCell ⟨b, 0, none⟩ (.int .u64 now')) := (Fr.refl (· = b) wr).setCell (a := ⟨b, 0, none⟩) (fun _ => rfl) _
  have hW := h.wheel.setNow now'
  have c2 := (hf.cell (p := ⟨w.heap.size + 2, 0, none⟩) (show w.heap.size + 2 < _ by omega) (show ¬ w.heap.size + 2 = b by omega)).trans h.c2
  have c3 := (hf.cell (p := ⟨w.heap.size + 4, 0, none⟩) (show w.heap.size + 4 < _ by omega) (show ¬ w.heap.size + 4 = b by omega)).trans h.c3
  refine ⟨c2, h.due.fr hf (by omega), by omega, ?_⟩
  intro w7 hf7 hit
  refine ⟨rfl, hW.fr hf7 (fun _ _ hc => hc), hit, List.Perm.refl _, (h.lft.fr hf (by omega)).fr hf7 (fun hc => hc),
    (hf7.cell (p := ⟨w.heap.size + 2, 0, none⟩) (show w.heap.size + 2 < _ by omega) (fun hc => hc)).trans c2,
    (hf7.cell (p := ⟨w.heap.size + 4, 0, none⟩) (show w.heap.size + 4 < _ by omega) (fun hc => hc)).trans c3,
    (h.fr.then hf (fun k _ e => .inl e)).then hf7 (fun _ _ hc => hc.elim), by omega, h.old⟩

theorem del_step {w wr w2 w3 : World} {b it n : Nat} {S2 : WSt} {D E got left l1 l2 : List (ByteArray × Nat)} {p : ByteArray × Nat} (h : Del w wr b S2 it n D E got left)
    (hl : left = l1 ++ p :: l2) (hf2 : Fr (· = it) wr w2) (hit : IterAt Value.string u64v w2 it (w.heap.size + 1) D (l1 ++ l2))
    (hf3 : Fr (· = S2.ra) w2 w3) (hm : IsMap Value.string u64v w3 S2.ra (adel (adelAll S2.all got) p.1)) : Del w w3 b S2 it (l1 ++ l2).length D E (got ++ [p]) (l1 ++ l2) := by
  have hra : S2.ra < w.heap.size := h.old _ (foot_all S2 b)
  have hsz := h.size
  have hilt := h.iter.lt
  have hs2 := hf2.size
  have hW2 := h.wheel.fr hf2 (fun k hk e => by have := h.old k hk; omega)
  refine ⟨rfl, ?_, hit.fr hf3 (by omega) (by omega), pour_perm hl h.perm, (h.lft.fr hf2 (by omega)).fr hf3 (by omega), ?_, ?_, ?_, h.size, h.old⟩
  · have := hW2.setAll hf3 hm
    rw [adelAll_snoc]
    exact this
  · exact (hf3.cell (p := ⟨w.heap.size + 2, 0, none⟩) (show w.heap.size + 2 < _ by omega) (show ¬ w.heap.size + 2 = _ by omega)).trans
      ((hf2.cell (p := ⟨w.heap.size + 2, 0, none⟩) (show w.heap.size + 2 < _ by omega) (show ¬ w.heap.size + 2 = _ by omega)).trans h.c2)
  · exact (hf3.cell (p := ⟨w.heap.size + 4, 0, none⟩) (show w.heap.size + 4 < _ by omega) (show ¬ w.heap.size + 4 = _ by omega)).trans
      ((hf2.cell (p := ⟨w.heap.size + 4, 0, none⟩) (show w.heap.size + 4 < _ by omega) (show ¬ w.heap.size + 4 = _ by omega)).trans h.c3)
  · exact (h.fr.then hf2 (fun k hk e => by omega)).then hf3 (fun k _ e => e ▸ foot_all S2 b)

theorem del_redo {w wr : World} {b it n : Nat} {S2 : WSt} {D E got : List (ByteArray × Nat)} (h : Del w wr b S2 it n D E got []) :
    ∀ w8, Fr (fun _ => False) wr w8 → IterAt Value.string u64v w8 wr.heap.size (w.heap.size + 3) E E →
      Redo w w8 b { S2 with all := adelAll S2.all got } wr.heap.size E.length D E [] E := by
  intro w8 hf hit
  have hsz := h.size
  have hilt := h.iter.lt
  refine ⟨rfl, h.wheel.fr hf (fun _ _ hc => hc), hit, List.Perm.refl _, h.iter.isMap.fr hf (fun hc => hc),
    (hf.cell (p := ⟨w.heap.size + 2, 0, none⟩) (show w.heap.size + 2 < _ by omega) (fun hc => hc)).trans h.c2,
    h.fr.then hf (fun _ _ hc => hc.elim), by omega, h.old⟩

theorem redo_step {w wr w2 w3 : World} {b it n m : Nat} {S3 : WSt} {D E got left l1 l2 : List (ByteArray × Nat)} {p : ByteArray × Nat} (h : Redo w wr b S3 it n D E got left)
    (hl : left = l1 ++ p :: l2) (hf2 : Fr (· = it) wr w2) (hit : IterAt Value.string u64v w2 it (w.heap.size + 3) E (l1 ++ l2))
    (hf3 : Fr (· = (S3.placeAll got).id (plcOf (S3.placeAll got).now p.2)) (w2.drewN m) w3)
    (hm : IsMap Value.string u64v w3 ((S3.placeAll got).id (plcOf (S3.placeAll got).now p.2)) (aput ((S3.placeAll got).get (plcOf (S3.placeAll got).now p.2)) p.1 p.2)) :
    Redo w w3 b S3 it (l1 ++ l2).length D E (got ++ [p]) (l1 ++ l2) := by
  have hra : (S3.placeAll got).id (plcOf (S3.placeAll got).now p.2) < w.heap.size := by
    rw [(placeAll_keep S3 got).2.2.1]
    exact h.old _ (foot_place S3 b (plcOf_le _ _))
  have hsz := h.size
  have hilt := h.iter.lt
  have hs2 : wr.heap.size ≤ (w2.drewN m).heap.size := hf2.size
  have hft : ∀ k, (S3.placeAll got).foot b k → k < w.heap.size := by
    intro k hk
    obtain ⟨h1, h2, h3, h4⟩ := placeAll_keep S3 got
    rcases hk with e | e | ⟨i, hi, e⟩
    · exact h.old k (.inl e)
    · exact h.old k (.inr (.inl (e.trans h2)))
    · exact h.old k (.inr (.inr ⟨i, hi, e.trans (h3 i)⟩))
  have hW2 := (h.wheel.fr hf2 (fun k hk e => by have := hft k hk; omega)).drewN m
  have hf2' : Fr (· = it) wr (w2.drewN m) := hf2.drewN m
  have hit' : IterAt Value.string u64v (w2.drewN m) it (w.heap.size + 3) E (l1 ++ l2) := hit
  refine ⟨rfl, ?_, hit'.fr hf3 (by omega) (by omega), pour_perm hl h.perm, (h.due.fr hf2' (by omega)).fr hf3 (by omega), ?_, ?_, h.size, h.old⟩
  · rw [placeAll_snoc]
    exact hW2.set (plcOf_le _ _) hf3 hm
  · exact (hf3.cell (p := ⟨w.heap.size + 2, 0, none⟩) (show w.heap.size + 2 < _ by omega) (show ¬ w.heap.size + 2 = _ by omega)).trans
      ((hf2'.cell (p := ⟨w.heap.size + 2, 0, none⟩) (show w.heap.size + 2 < _ by omega) (show ¬ w.heap.size + 2 = _ by omega)).trans h.c2)
  · refine (h.fr.then hf2' (fun k hk e => by omega)).then hf3 (fun k _ e => ?_)
    rw [(placeAll_keep S3 got).2.2.1] at e
    rw [e]
    exact foot_place S3 b (plcOf_le _ _)
end Go.Proofs.YtmjbhnkhpgnchaaDoor
