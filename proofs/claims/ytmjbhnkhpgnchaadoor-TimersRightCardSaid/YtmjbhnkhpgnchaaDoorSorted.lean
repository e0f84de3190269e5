/-
  sorted: a set's timers in order.
-/
import Derived.Test.YtmjbhnkhpgnchaaDoorCmp
import Derived.Test.YtmjbhnkhpgnchaaDoorSlice
import Derived.Test.YtmjbhnkhpgnchaaDoorShelf
import Derived.Deep.LoopGhost
namespace Go.Proofs.YtmjbhnkhpgnchaaDoor
open Go Go.RowKit

theorem len64_says : LenSays := fun x w h0 h1 => Any.bits_Len64 Tryd.len64 x w h0 h1

theorem info_timer : (Tryd.prog.info? 67).map (fun i => (i.zero, i.size, i.bytes)) = some (some (.agg #[.string ByteArray.empty, .int .u64 0]), 2, 24) := by kernel_rfl
theorem zero_timer (w : World) : (zeroValue 67).run Tryd.prog w = .ok (.agg #[.string ByteArray.empty, .int .u64 0]) w := by kernel_rfl

/-- in strict order -/
def Asc (l : List (ByteArray × Nat)) : Prop := l.Pairwise fun a b => ahead a b = true

theorem encT_len (x : ByteArray × Nat) : (encT x).length = 2 := rfl
theorem encT_cells (x : ByteArray × Nat) : ∀ v ∈ encT x, v.oneCell' = true := by
  intro v hv
  simp [encT] at hv
  rcases hv with rfl | rfl <;> rfl

/-- a slice of the wheel's timers -/
abbrev OwnT (base : Nat) (w : World) (v : Value) (l : List (ByteArray × Nat)) : Prop := OwnS encT 2 67 base w v l

open Go.Sort Go.Shelf in
theorem sort_timers (base g cap : Nat) (l : List (ByteArray × Nat)) (w : World) (h : OwnT base w (.slice (some ⟨g, 0, none⟩) l.length cap) l) (hl : l.length < 4611686018427387904) (hn : l.Nodup) :
    Calls Tryd.prog 56 #[.slice (some ⟨g, 0, none⟩) l.length cap, .func (.func 57) #[] #[]] w fun e w' => e = .returned (.tuple #[]) ∧
      ∃ l', l'.Perm l ∧ Asc l' ∧ OwnT base w' (.slice (some ⟨g, 0, none⟩) l.length cap) l' ∧ (∀ B w0, RowKit.Below B w0 w → B ≤ g → B ≤ w.heap.size → RowKit.Below B w0 w') := by
  obtain ⟨g', cap', he, hb, hlt, hH⟩ := h.holds encT_len (by simp)
  injection he with he _ hc
  injection he with he
  injection he with he
  subst he; subst hc
  have eg : ∀ args w, (callFunc 57 args).run Tryd.prog w = .ok (.enter 57 args) w := enters_of Tryd.func57 (by kernel_rfl) rfl
  have hcon := AnyQ.slices_SortFunc Tryd.sortT 2 Tryd.isAgg67 Tryd.sizeOf67 encT encT_len encT_cells cmpT swo_cmpT 57 #[] g 0 cap l.toArray w eg (compare_lays g 0 _ w) hH hlt (by simpa using hl)
  refine hcon.mono ?_
  rintro e w' ⟨rfl, d', n, os, hp, hs, rfl⟩
  have hsz : d'.size = l.length := by have := hp.1; simpa using this
  have hpm : d'.toList.Perm l := by
    have := hp.2.2
    rw [show l.toArray.size = d'.size by simp [hsz]] at this
    simp only [Array.extract_size] at this
    have e2 : l.toArray.extract 0 d'.size = l.toArray := by rw [hsz]; simp
    rw [e2] at this
    simpa using this
  refine ⟨rfl, d'.toList, hpm, ?_, ?_, fun B w0 h1 h2 h3 => below_sort h1 h2 h3⟩
  · unfold Asc
    rw [List.pairwise_iff_getElem]
    intro i j hi hj hij
    have hi' : i < d'.size := by simpa using hi
    have hj' : j < d'.size := by simpa using hj
    have h1 := hs i j (Nat.zero_le _) hij (by simpa [hsz] using hj')
    rw [lt_cmpT, getElem!_pos d' i hi', getElem!_pos d' j hj'] at h1
    have hne : d'[i] ≠ d'[j] := by
      have hnd : d'.toList.Nodup := hpm.symm.nodup hn
      intro e
      have := (List.getElem_inj (h₀ := hi) (h₁ := hj) hnd).1 (by simpa using e)
      omega
    cases h2 : ahead d'.toList[i] d'.toList[j] with
    | true => rfl
    | false =>
      exfalso
      apply hne
      simp only [Array.getElem_toList] at h2
      exact ahead_total h2 h1
  · have := h.sorted encT_len (ys := d'.toList) (n := n) (os := os) (by simpa using hsz)
    simpa using this

open Go.Sort Go.Shelf in
theorem sort_none (w : World) :
    Calls Tryd.prog 56 #[.slice none 0 0, .func (.func 57) #[] #[]] w fun e w' => e = .returned (.tuple #[]) ∧ w = w' := by
  refine (AnyF.slices_SortFunc_none Tryd.sortT none 0 _ w).mono ?_
  rintro e w' ⟨rfl, rfl⟩
  exact ⟨rfl, rfl⟩

theorem nodup_of_keys {κ υ : Type} {l : List (κ × υ)} (h : (keys l).Nodup) : l.Nodup := by
  induction l with
  | nil => simp
  | cons a l ih =>
    simp only [keys_cons, List.nodup_cons] at *
    exact ⟨fun hm => h.1 (List.mem_map_of_mem (f := (·.1)) hm), ih h.2⟩

/-- the round of sorted's loop: what is gathered, what is still to come -/
structure Gather (w wr : World) (r : Nat) (L : List (ByteArray × Nat)) (n : Nat) (v : Value) (got left : List (ByteArray × Nat)) : Prop where
  len : left.length = n
  iter : IterAt Value.string u64v wr w.heap.size r L left
  perm : (got ++ left).Perm L
  own : OwnT (w.heap.size + 1) wr v got
  below : RowKit.Below w.heap.size w wr
  size : w.heap.size + 1 ≤ wr.heap.size

set_option maxRecDepth 100000 in
set_option maxHeartbeats 400000 in
theorem sorted_any (w : World) (r : Nat) (L : List (ByteArray × Nat)) (hM : IsMap Value.string u64v w r L) (hl : L.length ≤ 1000000) :
    Calls Tryd.prog 45 #[.map (some r)] w fun e w' => ∃ v l, e = .returned v ∧ l.Perm L ∧ Asc l ∧ OwnT w.heap.size w' v l ∧ RowKit.Below w.heap.size w w' := by
  have hrl := hM.lt
  have hLn : L.Nodup := by
    exact nodup_of_keys hM.nodup
  have HL := Lib.hid hLn
  clear hLn
  obtain ⟨i0, hi, hz0, hz1, hz2⟩ := info_parts info_timer
  have hz := zero_timer
  go_enter Tryd.func45, Tryd.ntmps45
  go_wp2_with (first | (at_delete; refine At.stop ?_) | (at_mapUpdate; refine At.stop ?_) | (at_lookup; refine At.stop ?_) | (at_range; refine At.stop ?_) | (at_next; refine At.stop ?_) | (at_builtin; refine At.stop ?_))
  refine At.go (wpl_range rfl _ rfl Tryd.underlying82 hM rfl ?_)
  intro w1 hf1 hs1 hit
  have hb1 := hf1.below (B := w.heap.size) (fun _ _ h => h) (Nat.le_refl _)
  have hst : Gather w w1 r L L.length (.slice none 0 0) [] L := ⟨rfl, hit, List.Perm.refl _, OwnS.nil, hb1, by omega⟩
  clear hf1 hs1 hit hb1 hM
  go_frame
  go_wp2_with (first | (at_delete; refine At.stop ?_) | (at_mapUpdate; refine At.stop ?_) | (at_lookup; refine At.stop ?_) | (at_range; refine At.stop ?_) | (at_next; refine At.stop ?_) | (at_builtin; refine At.stop ?_))
  go_loopg [3] L.length (fun n v wr => ∃ got left, Gather w wr r L n v got left)
  case atStart => exact ⟨[], L, hst⟩
  case round =>
    obtain ⟨got, left, hg⟩ := hrel
    clear hst
    go_wp2_with (first | (at_delete; refine At.stop ?_) | (at_mapUpdate; refine At.stop ?_) | (at_lookup; refine At.stop ?_) | (at_range; refine At.stop ?_) | (at_next; refine At.stop ?_) | (at_builtin; refine At.stop ?_))
    refine At.go (wpl_next rfl _ rfl rfl hg.iter (by omega) ?_ ?_)
    · intro hl0
      subst hl0
      have hperm := hg.perm
      rw [List.append_nil] at hperm
      have hown := hg.own
      have hB := hg.below
      have hsz := hg.size
      clear hg
      have hlen : got.length ≤ 1000000 := by rw [hperm.length_eq]; exact hl
      have HP := Lib.hid hperm
      clear hperm
      by_cases hv : u3 = .slice none 0 0
      · have hg0 : got = [] := by
          rcases hown.2 with ⟨_, h2⟩ | ⟨g, cap, cur, h1, _⟩
          · exact List.eq_nil_of_length_eq_zero h2
          · rw [hv] at h1; cases h1
        subst hg0
        subst hv
        have HB := Lib.hid hB
        clear hB hown
        go_wp2_with (first | (at_delete; refine At.stop ?_) | (at_mapUpdate; refine At.stop ?_) | (at_lookup; refine At.stop ?_) | (at_range; refine At.stop ?_) | (at_next; refine At.stop ?_) | (at_builtin; refine At.stop ?_))
        refine (sort_none _).mono ?_
        rintro e w' ⟨rfl, rfl⟩
        go_wp2_with (first | (at_delete; refine At.stop ?_) | (at_mapUpdate; refine At.stop ?_) | (at_lookup; refine At.stop ?_) | (at_range; refine At.stop ?_) | (at_next; refine At.stop ?_) | (at_builtin; refine At.stop ?_))
        go_ret
        exact ⟨_, [], rfl, HP.out, List.Pairwise.nil, OwnS.nil, HB.out⟩
      · obtain ⟨g, cap, rfl, hbg, hlt, _⟩ := hown.holds encT_len hv
        have HS := Lib.hid (sort_timers (w.heap.size + 1) g cap got wr hown (by omega) (HP.out.symm.nodup HL.out))
        have HB := Lib.hid hB
        clear hB hown hv
        go_wp2_with (first | (at_delete; refine At.stop ?_) | (at_mapUpdate; refine At.stop ?_) | (at_lookup; refine At.stop ?_) | (at_range; refine At.stop ?_) | (at_next; refine At.stop ?_) | (at_builtin; refine At.stop ?_))
        refine HS.out.mono ?_
        rintro e w' ⟨rfl, l', hp', ha', ho', hb'⟩
        have hq := hp'.trans HP.out
        have hbl := hb' _ _ HB.out (by omega) (by omega)
        have hll := hp'.length_eq
        have HF := Lib.hid (And.intro hq (And.intro ha' (And.intro ho' (And.intro hbl hll))))
        clear hp' ha' ho' hb' hq hbl hll
        go_wp2_with (first | (at_delete; refine At.stop ?_) | (at_mapUpdate; refine At.stop ?_) | (at_lookup; refine At.stop ?_) | (at_range; refine At.stop ?_) | (at_next; refine At.stop ?_) | (at_builtin; refine At.stop ?_))
        go_ret
        obtain ⟨h1, h2, h3, h4, h5⟩ := HF.out
        refine ⟨_, l', rfl, h1, h2, ?_, h4⟩
        unfold OwnT OwnS World.ownsRow at h3 ⊢
        refine ⟨h3.1, ?_⟩
        rcases h3.2 with ⟨e1, _⟩ | ⟨g', cap', cur, e1, e2, e3⟩
        · cases e1
        · exact .inr ⟨g', cap', cur, e1, by omega, e3⟩
    · intro p l1 l2 w2 hl1 hf2 hs2 hit2 hen
      have hsz := hg.size
      have hown : OwnT (w.heap.size + 1) w2 u3 got := hg.own.fr hf2 (fun g hb e => by have := (hg.own.lt g hb).1; omega)
      have hB2 : RowKit.Below w.heap.size w w2 := hg.below.trans (hf2.below (fun k hk e => by omega) (by omega))
      have hperm := hg.perm
      have hlenL := hperm.length_eq
      have hlen : got.length + 1 ≤ 1000000 := by
        rw [hl1] at hlenL
        simp only [List.length_append, List.length_cons] at hlenL
        omega
      have hgk := hg.len
      have hlk : (l1 ++ l2).length < gk := by
        rw [← hgk, hl1]
        simp
      have HP := Lib.hid (And.intro hperm hl1)
      clear hg hperm hl1 hlenL hgk
      go_wp2_with (first | (at_delete; refine At.stop ?_) | (at_mapUpdate; refine At.stop ?_) | (at_lookup; refine At.stop ?_) | (at_range; refine At.stop ?_) | (at_next; refine At.stop ?_) | (at_builtin; refine At.stop ?_))
      refine At.go (wpl_append1 rfl _ _ _ rfl Tryd.underlying64 info_timer rfl (by omega) rfl (hown.alloc _) wr.heap.size 1 rfl p rfl ?_ (encT_cells p) (by unfold maxLen; omega) (by omega) (by simp; omega) ?_)
      · rw [← hs2]
        exact (Go.MapKept.heap_alloc w2 _).1
      intro v' w3 ho3 hf3
      have hf3' : Fr (fun g => u3.ownBlock = some g) w2 w3 := ((Fr.refl _ w2).alloc _).trans hf3
      have hit3 := hit2.fr hf3' (fun e => by have := (hown.lt _ e).1; omega) (fun e => by have := (hown.lt _ e).1; omega)
      have hB3 : RowKit.Below w.heap.size w w3 := hB2.trans (hf3'.below (fun k hk e => by have := (hown.lt _ e).1; omega) (by omega))
      have hsz3 := hf3'.size
      have HG := Lib.hid (show Gather w w3 r L (l1 ++ l2).length v' (got ++ [p]) (l1 ++ l2) from
        ⟨rfl, hit3, by
          obtain ⟨h1, h2⟩ := HP.out
          refine List.Perm.trans ?_ h1
          rw [h2, List.append_assoc]
          refine List.Perm.append_left _ ?_
          simp only [List.singleton_append]
          exact List.perm_middle.symm, ho3, hB3, by omega⟩)
      clear hf3 hf3' hit3 hB3 ho3 hit2 hf2 hB2 hown hen
      go_wp2_with (first | (at_delete; refine At.stop ?_) | (at_mapUpdate; refine At.stop ?_) | (at_lookup; refine At.stop ?_) | (at_range; refine At.stop ?_) | (at_next; refine At.stop ?_) | (at_builtin; refine At.stop ?_))
      go_roundg (l1 ++ l2).length
      case measure => exact hlk
      case rel => exact ⟨_, _, HG.out⟩
end Go.Proofs.YtmjbhnkhpgnchaaDoor
