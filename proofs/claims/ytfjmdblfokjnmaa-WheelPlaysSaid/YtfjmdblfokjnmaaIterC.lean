/-
  maps.Values, slices.Collect, slices.Min as plain calls; the wheel's Soonest.
-/
import Derived.Test.YtfjmdblfokjnmaaIterB
import Derived.Test.YtfjmdblfokjnmaaWheelC
namespace Go.Proofs.Ytfjmdblfokjnmaa
open Go Go.RowKit Go.Shelf

set_option maxRecDepth 100000 in
set_option maxHeartbeats 400000 in
theorem values_any (w : World) (b : Nat) :
    Calls Try.prog 30 #[.map (some b)] w fun e w' => e = .returned (.func (.func 37) #[] #[.pointer (some ⟨w.heap.size, 0, none⟩)]) ∧ w.alloc (.cells #[.map (some b)] 50) = w' := by
  go_enter Try.func30, Try.ntmps30
  go_wp2
  go_ret
  exact ⟨rfl, rfl⟩

theorem values_stops (F : Fence) (n : Nat) (h7 : F.fn 37) (hro : F.round = none) (hn : 1 ≤ n) (Bm b : Nat) (L : List (ByteArray × Nat)) (w : World) (hBm : Bm < w.heap.size)
    (hm : w.cell? ⟨Bm, 0, none⟩ = some (.map (some b))) (hown : IsMap Value.string u64v w b L) :
    SeqStopsK F n Try.prog 37 #[.pointer (some ⟨Bm, 0, none⟩)] (fun x : Nat => #[u64v x]) KeepsWalks (fun xs => xs.Perm (L.map (·.2))) (fun _ => True) L.length w := fun l J Jx W hW hJ _ hY h0 =>
  values1_in F n h7 hro hn l Bm b L J Jx hY W hJ ((hW.cell (p := ⟨Bm, 0, none⟩) hBm).trans hm) (hown.of_block (hW.block b hown.lt)) h0

set_option maxRecDepth 100000 in
set_option maxHeartbeats 400000 in
theorem collect_any (w : World) (Bm b : Nat) (L : List (ByteArray × Nat)) (hBm : Bm < w.heap.size) (hm : w.cell? ⟨Bm, 0, none⟩ = some (.map (some b))) (hown : IsMap Value.string u64v w b L) (hl : L.length ≤ 1000000) :
    Calls Try.prog 29 #[.func (.func 37) #[] #[.pointer (some ⟨Bm, 0, none⟩)]] w fun e w' => ∃ v xs, e = .returned v ∧ xs.Perm (L.map (·.2)) ∧ OwnS enc1 1 22 w.heap.size w' v xs ∧ Below w.heap.size w w' := by
  have HA := Lib.hid ((callsIn_wide (n := 3)).1 (appendSeq_in Fence.wide 3 trivial rfl (by omega) 37 #[.pointer (some ⟨Bm, 0, none⟩)] trivial (enters_of Try.func37 (by kernel_rfl) rfl) _ _ L.length hl w
    (values_stops Fence.wide (3 - 1) trivial rfl (by omega) Bm b L w hBm hm hown)))
  clear hm hown
  go_enter Try.func29, Try.ntmps29
  go_wp2_with fail
  refine HA.out.mono ?_
  rintro e w' ⟨v, xs, rfl, h1, h2, h3⟩
  have HF := Lib.hid (And.intro h1 (And.intro h2 h3))
  clear h1 h2 h3
  go_wp2
  go_ret
  obtain ⟨h1, h2, h3⟩ := HF.out
  exact ⟨_, xs, rfl, h1, h2, h3⟩

def minL : List Nat → Nat
  | [] => 0
  | x :: xs => xs.foldl min x

theorem minL_snoc (x : Nat) (l : List Nat) (h : l ≠ []) : minL (l ++ [x]) = min (minL l) x := by
  cases l with
  | nil => exact absurd rfl h
  | cons a l => simp [minL, List.foldl_append]

theorem foldl_min_le : ∀ (l : List Nat) (a : Nat), l.foldl min a ≤ a ∧ (∀ x ∈ l, l.foldl min a ≤ x) ∧ (l.foldl min a = a ∨ l.foldl min a ∈ l)
  | [], a => ⟨Nat.le_refl _, by simp, .inl rfl⟩
  | b :: l, a => by
    obtain ⟨h1, h2, h3⟩ := foldl_min_le l (min a b)
    simp only [List.foldl_cons, List.mem_cons]
    refine ⟨by omega, ?_, ?_⟩
    · rintro x (rfl | hx)
      · omega
      · exact h2 x hx
    · rcases h3 with h3 | h3
      · by_cases hab : a ≤ b
        · left; rw [h3]; omega
        · right; left; rw [h3]; omega
      · right; right; exact h3

theorem minL_spec {l : List Nat} (h : l ≠ []) : minL l ∈ l ∧ ∀ x ∈ l, minL l ≤ x := by
  cases l with
  | nil => exact absurd rfl h
  | cons a l =>
    obtain ⟨h1, h2, h3⟩ := foldl_min_le l a
    simp only [minL, List.mem_cons]
    refine ⟨h3, ?_⟩
    rintro x (rfl | hx)
    · exact h1
    · exact h2 x hx

theorem minL_perm {l l' : List Nat} (hp : l.Perm l') : minL l = minL l' := by
  by_cases h : l = []
  · subst h; rw [List.nil_perm.1 hp]
  · have h' : l' ≠ [] := fun e => h (by subst e; exact List.perm_nil.1 hp)
    have h1 := minL_spec h
    have h2 := minL_spec h'
    exact Nat.le_antisymm (h1.2 _ (hp.symm.subset h2.1)) (h2.2 _ (hp.subset h1.1))

def nth (xs : List Nat) (i : Nat) : Nat := xs[i]?.getD 0

theorem minL_take (xs : List Nat) (k : Nat) (h1 : 1 ≤ k) (h : k < xs.length) : minL (xs.take (k + 1)) = min (minL (xs.take k)) (nth xs k) := by
  rw [List.take_succ_eq_append_getElem h, minL_snoc _ _ (by intro e; have := congrArg List.length e; rw [List.length_take, List.length_nil] at this; omega)]
  simp [nth, h]

set_option maxRecDepth 100000 in
set_option maxHeartbeats 400000 in
theorem min_any (w : World) (base : Nat) (v : Value) (xs : List Nat) (h : OwnS enc1 1 22 base w v xs) (hne : xs ≠ []) (hl : xs.length ≤ 1000000) :
    Calls Try.prog 28 #[v] w fun e w' => e = .returned (.int .u64 (minL xs)) ∧ w = w' := by
  have hpos : 0 < xs.length := List.length_pos_iff.2 hne
  obtain ⟨g, off, cap, hv, _⟩ := h.at.cell (fun _ => rfl) hpos
  have hcell : ∀ i, i < xs.length → w.cell? ⟨g, off + i, none⟩ = some (.int .u64 (nth xs i)) := by
    intro i hi
    obtain ⟨g', off', cap', hv', hc⟩ := h.at.cell (fun _ => rfl) hi
    rw [hv] at hv'
    injection hv' with e1 _ _
    injection e1 with e1
    injection e1 with e1 e2
    subst e1; subst e2
    have := hc 0 (by omega)
    simpa [hi, nth] using this
  subst hv
  clear h
  have b1 : decide ((xs.length : Int) < 1) = false := by simp; omega
  have c0 := hcell 0 hpos
  rw [Nat.add_zero] at c0
  have hm1 : minL (xs.take 1) = nth xs 0 := by
    cases xs with
    | nil => exact absurd rfl hne
    | cons a l => rfl
  have HM := Lib.hid hm1
  have HT := Lib.hid (minL_take xs)
  have HX := Lib.hid (show minL (xs.take xs.length) = minL xs by rw [List.take_length])
  clear hm1 hne
  have hpos' : (0 : Int) < xs.length := by omega
  go_enter Try.func28, Try.ntmps28
  go_wp2
  go_loop [3, 4] (fun m i => ∃ k : Nat, 1 ≤ k ∧ k ≤ xs.length ∧ i = .int .i64 k ∧ m = .int .u64 (minL (xs.take k) : Nat)) (fun _ i => xs.length - (intOf i).toNat)
  case atStart => exact ⟨1, by omega, by omega, rfl, by rw [HM.out]⟩
  case round =>
    obtain ⟨k, hk1, hk2, rfl, rfl⟩ := hrel
    by_cases hlt : k < xs.length
    · have hc := hcell k hlt
      have HT2 := Lib.hid (HT.out k hk1 hlt)
      generalize minL (xs.take k) = m at HT2
      generalize nth xs k = y at hc HT2
      clear c0 hcell
      go_wp2
      go_round
      case rel => exact ⟨k + 1, by omega, by omega, by go_num, by rw [HT2.out]; exact congrArg (Value.int .u64) (by omega)⟩
      case measure => simp [intOf]; omega
    · obtain rfl : k = xs.length := by omega
      have HX2 := HX.out
      rw [HX2]
      clear hcell c0
      go_wp2
      go_ret
      exact ⟨rfl, rfl⟩
theorem idx16 (f : Nat → Nat) (j : Nat) (hj : j < 16) (w : World) : (Instr.index 51 (.agg ((List.range 16).map fun j => Value.map (some (f j))).toArray) (.int .i64 j)).run Try.prog w = .ok (.map (some (f j))) w := by
  obtain rfl | rfl | rfl | rfl | rfl | rfl | rfl | rfl | rfl | rfl | rfl | rfl | rfl | rfl | rfl | rfl : j = 0 ∨ j = 1 ∨ j = 2 ∨ j = 3 ∨ j = 4 ∨ j = 5 ∨ j = 6 ∨ j = 7 ∨ j = 8 ∨ j = 9 ∨ j = 10 ∨ j = 11 ∨ j = 12 ∨ j = 13 ∨ j = 14 ∨ j = 15 := by omega
  all_goals kernel_rfl

/-- the least deadline, as the wheel finds it -/
def soonAt (S : WSt) (i : Nat) : Prop := i ≤ 64 ∧ (∀ j, j < i → S.get j = []) ∧ (i < 64 → S.get i ≠ [])

set_option maxRecDepth 100000 in
set_option maxHeartbeats 400000 in
theorem soonest_none (w : World) (b : Nat) (S : WSt) (h : WheelAt w b S) (h0 : S.all = []) :
    Calls Try.prog 13 #[.pointer (some ⟨b, 0, none⟩)] w fun e w' => e = .returned (.tuple #[.int .u64 0, .bool false]) ∧ w = w' := by
  have HL := Lib.hid (len_any w b S h)
  rw [h0] at HL
  clear h h0
  go_enter Try.func13, Try.ntmps13
  go_wp2_with fail
  refine HL.out.mono ?_
  rintro e w' ⟨rfl, rfl⟩
  go_wp2
  go_ret2
  exact ⟨rfl, rfl⟩

set_option maxRecDepth 100000 in
set_option maxHeartbeats 400000 in
theorem soonest_some (w : World) (b : Nat) (S : WSt) (h : WheelAt w b S) (h0 : S.all ≠ []) (hex : ∃ i, i ≤ 64 ∧ S.get i ≠ []) (hl : ∀ i, i ≤ 64 → (S.get i).length ≤ 1000000) :
    Calls Try.prog 13 #[.pointer (some ⟨b, 0, none⟩)] w fun e w' => ∃ i, soonAt S i ∧ e = .returned (.tuple #[.int .u64 (minL ((S.get i).map (·.2)) : Nat), .bool true]) ∧ RowKit.Below w.heap.size w w' := by
  have HL := Lib.hid (len_any w b S h)
  have hb : ((S.all.length : Int) == 0) = false := by
    have : S.all.length ≠ 0 := fun e => h0 (List.eq_nil_of_length_eq_zero e)
    rw [beq_eq_false_iff_ne]
    omega
  clear h0
  go_enter Try.func13, Try.ntmps13
  go_wp2_with fail
  refine HL.out.mono ?_
  rintro e w' ⟨rfl, rfl⟩
  go_wp2
  go_loop [10] (fun i => ∃ k : Nat, k ≤ 4 ∧ i = .int .i64 k ∧ ∀ j, j < 16 * k → S.get j = []) (fun i => 4 - (intOf i).toNat)
  case atStart => exact ⟨0, by omega, rfl, fun j hj => by omega⟩
  case round =>
    obtain ⟨k, hk, rfl, hprev⟩ := hrel
    have HP := Lib.hid hprev
    clear hprev
    by_cases hlt : k < 4
    · have hd : decide ((k : Int) < 4) = true := by simp; omega
      go_wp2_with (with_reducible refine wpl_load_stop rfl 51 _ rfl ?_)
      refine At.go (wpl_load_agg rfl 51 _ rfl b (2 + k * 16) rfl ((List.range 16).map fun j => Value.map (some (S.rs (16 * k + j)))) Try.underlying51 rfl (by kernel_rfl) ?_ ?_)
      · intro j v hj
        have hj16 : j < 16 := by
          have := (List.getElem?_eq_some_iff.1 hj).1
          simpa using this
        have := h.cslot (i := 16 * k + j) (by omega)
        rw [show 2 + (16 * k + j) = 2 + k * 16 + j by omega] at this
        rw [this]
        simpa [hj16] using hj
      have hidx : ∀ j : Nat, j < 16 → ∀ w, (Instr.index 51 (.agg ((List.range 16).map fun j => Value.map (some (S.rs (16 * k + j)))).toArray) (.int .i64 j)).run Try.prog w = .ok (.map (some (S.rs (16 * k + j)))) w := idx16 fun j => S.rs (16 * k + j)
      have HI := Lib.hid hidx
      clear hidx
      generalize ((List.range 16).map fun j => Value.map (some (S.rs (16 * k + j)))).toArray = arr at HI
      go_wp2
      go_loop [19] (fun i => ∃ j : Nat, j ≤ 16 ∧ i = .int .i64 j ∧ ∀ t, t < 16 * k + j → S.get t = []) (fun i => 16 - (intOf i).toNat)
      case atStart => exact ⟨0, by omega, rfl, HP.out⟩
      case round =>
        obtain ⟨j, hj, rfl, hprev⟩ := hrel
        have HQ := Lib.hid hprev
        clear hprev
        by_cases hlt2 : j < 16
        · have hi := HI.out j hlt2
          have hM := h.place (16 * k + j) (by omega)
          rw [show S.id (16 * k + j) = S.rs (16 * k + j) from if_pos (by omega)] at hM
          have hln := run_len_map (P := Try.prog) (T := 50) Try.underlying50 hM 3
          have hlen := hl (16 * k + j) (by omega)
          by_cases hne : S.get (16 * k + j) = []
          · have hb0 : ¬ 0 < (S.get (16 * k + j)).length := by rw [hne]; simp
            have HN := Lib.hid hne
            clear hne hlen hM
            go_wp2
            go_round
            case rel =>
              refine ⟨j + 1, by omega, by go_num, fun t ht => ?_⟩
              by_cases e : t = 16 * k + j
              · rw [e]; exact HN.out
              · exact HQ.out t (by omega)
            case measure => simp [intOf]; omega
          · have hb0 : 0 < (S.get (16 * k + j)).length := List.length_pos_iff.2 hne
            have HS := Lib.hid (show soonAt S (16 * k + j) from ⟨by omega, HQ.out, fun _ => hne⟩)
            go_wp2_with fail
            refine (values_any w (S.rs (16 * k + j))).mono ?_
            rintro e w' ⟨rfl, rfl⟩
            have hM1 := hM.alloc (.cells #[.map (some (S.rs (16 * k + j)))] 50)
            have HC := Lib.hid (collect_any (w.alloc (.cells #[.map (some (S.rs (16 * k + j)))] 50)) w.heap.size (S.rs (16 * k + j)) _ (by simp) (by simp) hM1 hlen)
            have HB1 := Lib.hid (show RowKit.Below w.heap.size w (w.alloc (.cells #[.map (some (S.rs (16 * k + j)))] 50)) from (RowKit.Below.refl _ w).alloc (Nat.le_refl _) _)
            clear hM1 hM
            go_wp2_with fail
            refine HC.out.mono ?_
            rintro e w2 ⟨v, xs, rfl, hp, ho, hb2⟩
            have hxne : xs ≠ [] := fun e => hne (by rw [e] at hp; exact List.map_eq_nil_iff.1 (List.nil_perm.1 hp))
            have hxl : xs.length ≤ 1000000 := by rw [hp.length_eq, List.length_map]; exact hlen
            have HM := Lib.hid (min_any w2 _ v xs ho hxne hxl)
            have HF := Lib.hid (And.intro (minL_perm hp) (HB1.out.trans (hb2.mono (by simp))))
            clear hp ho hb2 hxne hxl
            go_wp2_with fail
            refine HM.out.mono ?_
            rintro e w' ⟨rfl, rfl⟩
            go_wp2
            go_ret2
            obtain ⟨hm, hB⟩ := HF.out
            rw [hm]
            exact ⟨_, HS.out, rfl, hB⟩
        · obtain rfl : j = 16 := by omega
          go_wp2
          go_round
          case rel => exact ⟨k + 1, by omega, by go_num, fun t ht => HQ.out t (by omega)⟩
          case measure => simp [intOf]; omega
    · obtain rfl : k = 4 := by omega
      have c66 := h.cfar
      have hM := h.place 64 (by omega)
      rw [show S.id 64 = S.rf from rfl] at hM
      have hlen := hl 64 (by omega)
      have hne : S.get 64 ≠ [] := by
        obtain ⟨i, hi, hn⟩ := hex
        by_cases e : i < 64
        · exact absurd (HP.out i (by omega)) hn
        · obtain rfl : i = 64 := by omega
          exact hn
      have HS := Lib.hid (show soonAt S 64 from ⟨by omega, fun j hj => HP.out j (by omega), fun e => by omega⟩)
      clear hl hex
      go_wp2_with fail
      refine (values_any w S.rf).mono ?_
      rintro e w' ⟨rfl, rfl⟩
      have hM1 := hM.alloc (.cells #[.map (some S.rf)] 50)
      have HC := Lib.hid (collect_any (w.alloc (.cells #[.map (some S.rf)] 50)) w.heap.size S.rf _ (by simp) (by simp) hM1 hlen)
      have HB1 := Lib.hid (show RowKit.Below w.heap.size w (w.alloc (.cells #[.map (some S.rf)] 50)) from (RowKit.Below.refl _ w).alloc (Nat.le_refl _) _)
      clear hM1 hM
      go_wp2_with fail
      refine HC.out.mono ?_
      rintro e w2 ⟨v, xs, rfl, hp, ho, hb2⟩
      have hxne : xs ≠ [] := fun e => hne (by rw [e] at hp; exact List.map_eq_nil_iff.1 (List.nil_perm.1 hp))
      have hxl : xs.length ≤ 1000000 := by rw [hp.length_eq, List.length_map]; exact hlen
      have HM := Lib.hid (min_any w2 _ v xs ho hxne hxl)
      have HF := Lib.hid (And.intro (minL_perm hp) (HB1.out.trans (hb2.mono (by simp))))
      clear hp ho hb2 hxne hxl
      go_wp2_with fail
      refine HM.out.mono ?_
      rintro e w' ⟨rfl, rfl⟩
      go_wp2
      go_ret2
      obtain ⟨hm, hB⟩ := HF.out
      rw [hm]
      exact ⟨_, HS.out, rfl, hB⟩
end Go.Proofs.Ytfjmdblfokjnmaa
