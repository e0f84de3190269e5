/-
  Slices that are read, wherever they lie; timers and steps; Clone.
-/
import Derived.Test.YtmjbhnkhpgnchaaDoorStep
import Derived.Test.YtmjbhnkhpgnchaaDoorRes
import Derived.Test.YtmjbhnkhpgnchaaDoorCal
namespace Go.Proofs.YtmjbhnkhpgnchaaDoor
open Go Go.RowKit
section
variable {α : Type} {enc : α → List Value} {k : Nat} {w w' : World} {base : Nat} {e : TypeId} {v : Value} {xs : List α}

/-- the slice v, of elements of k cells each, reads as xs. -/
def RdS (enc : α → List Value) (k : Nat) (w : World) (v : Value) (xs : List α) : Prop :=
  ∃ a cap, v = .slice a xs.length cap ∧ xs.length ≤ cap ∧ ∀ i x, xs[i]? = some x → ∃ g off, a = some ⟨g, off, none⟩ ∧ g < w.heap.size ∧ ∀ j u, (enc x)[j]? = some u → w.cell? ⟨g, off + i * k + j, none⟩ = some u

theorem RdS.nil : RdS enc k w (.slice none 0 0) ([] : List α) := ⟨none, 0, rfl, Nat.le_refl _, fun i x h => by simp at h⟩

theorem SlAt.rd (h : SlAt enc k e w v xs) (hk : ∀ x, (enc x).length = k) : RdS enc k w v xs := by
  obtain ⟨a, cap, hv, ha, hc⟩ := h.shape
  refine ⟨a, cap, hv, hc, fun i x hx => ?_⟩
  have hi := lt_of_getElem? hx
  obtain ⟨g, off, cap', hv', hcell⟩ := h.cell hk hi
  rw [hv] at hv'
  injection hv' with e1 e2 e3
  subst e1
  refine ⟨g, off, rfl, ?_, fun j u hu => ?_⟩
  · exact h.lt (g := g) ⟨off, xs.length, cap, hv⟩
  · have hxi : xs[i] = x := by rw [List.getElem?_eq_getElem hi] at hx; exact Option.some.inj hx
    have hj : j < k := by rw [← hk x]; exact lt_of_getElem? hu
    rw [hcell j hj, hxi, hu]
where
  lt_of_getElem? {β : Type} {l : List β} {i : Nat} {a : β} (h : l[i]? = some a) : i < l.length := (List.getElem?_eq_some_iff.1 h).1

theorem OwnS.rd (h : OwnS enc k e base w v xs) (hk : ∀ x, (enc x).length = k) : RdS enc k w v xs := h.at.rd hk

theorem RdS.fr {F : Nat → Prop} (h : RdS enc k w v xs) (hf : Fr F w w') (hF : xs ≠ [] → ∀ g, inBlock v g → ¬ F g) : RdS enc k w' v xs := by
  obtain ⟨a, cap, hv, hc, hr⟩ := h
  refine ⟨a, cap, hv, hc, fun i x hx => ?_⟩
  obtain ⟨g, off, ha, hg, hcell⟩ := hr i x hx
  refine ⟨g, off, ha, Nat.lt_of_lt_of_le hg hf.size, fun j u hu => ?_⟩
  rw [hf.cell (p := ⟨g, off + i * k + j, none⟩) hg (hF (fun e => by rw [e] at hx; simp at hx) g ⟨off, xs.length, cap, by rw [hv, ha]⟩)]
  exact hcell j u hu

theorem RdS.move (h : RdS enc k w v xs) (hf : Fr (fun _ => False) w w') : RdS enc k w' v xs := h.fr hf fun _ _ _ h => h

/-- where it lies -/
theorem RdS.lt (h : RdS enc k w v xs) (hne : xs ≠ []) {g : Nat} (hg : inBlock v g) : g < w.heap.size := by
  obtain ⟨a, cap, hv, hc, hr⟩ := h
  cases xs with
  | nil => exact absurd rfl hne
  | cons x t =>
    obtain ⟨g', off, ha, hg', _⟩ := hr 0 x rfl
    obtain ⟨off', n, cap', hv'⟩ := hg
    rw [hv, ha] at hv'
    injection hv' with e1 e2 e3
    injection e1 with e1
    injection e1 with e1
    omega

theorem RdS.news (h : RdS enc k w v xs) (hk : ∀ x, (enc x).length = k) {ad : Addr} {n cap : Nat} (hv : v = .slice (some ad) n cap) : ∀ j u, (xs.flatMap enc)[j]? = some u → w.cell? (ad.add j) = some u := by
  obtain ⟨a, cap', hv', hc, hr⟩ := h
  rw [hv'] at hv
  injection hv with e1 e2 e3
  intro j u hu
  have hjl : j < xs.length * k := by rw [← length_flatMap hk]; exact (List.getElem?_eq_some_iff.1 hu).1
  have hk0 : 0 < k := Nat.pos_of_ne_zero fun e => by simp [e] at hjl
  have hi : j / k < xs.length := Nat.div_lt_of_lt_mul (by rw [Nat.mul_comm]; exact hjl)
  have hj : j % k < k := Nat.mod_lt _ hk0
  have h8 := flatMap_get hk xs (j / k) (j % k) hi hj
  rw [Nat.div_add_mod' j k, hu] at h8
  obtain ⟨g, off, ha, hg, hcell⟩ := hr (j / k) (xs[j / k]) (List.getElem?_eq_getElem hi)
  have hc2 := hcell (j % k) u h8.symm
  rw [e1] at ha
  obtain rfl := Option.some.inj ha
  have hadd : (⟨g, off, none⟩ : Addr).add j = ⟨g, off + j, none⟩ := by unfold Addr.add; split <;> simp_all
  rw [hadd]
  rw [Nat.add_assoc, Nat.div_add_mod' j k] at hc2
  exact hc2
end

theorem ownS_empty {α : Type} (enc : α → List Value) (k : Nat) (e : TypeId) (w : World) : OwnS enc k e w.heap.size (w.alloc (Obj.cells #[] e)) (.slice (some ⟨w.heap.size, 0, none⟩) 0 0) ([] : List α) :=
  ⟨by simp, .inr ⟨w.heap.size, 0, #[], rfl, Nat.le_refl _, alloc_get w _ rfl, Nat.le_refl _, Nat.zero_le _, by simp, by simp⟩⟩

section
variable {α : Type} {enc : α → List Value} {k : Nat} {w : World} {base : Nat} {e : TypeId} {v u : Value} {xs ys : List α} {P : Program}
  {ops : Array Oper} {rest : List Oper} {o : Oper} {a : Act} {Q : Exit → Act → World → Prop}

/-- 'append(s, x...)', s an own slice, x one that is not nil. -/
theorem wpl_appendAll (hg : o.guard = none) (s x : Operand) (t : TypeId) (hop : o.op = .call { callee := .builtin .append, args := #[s, x], argTypes := #[t, t] })
    (ht : P.underlying t = some (.slice e)) {z : Value} {bytes : Nat} (hinfo : (P.info? e).map (fun i => (i.zero, i.size, i.bytes)) = some (some z, k, bytes)) (hzs : z.cells.size = k) (hk : 0 < k) (hek : ∀ x, (enc x).length = k)
    (hv : a.eval s = v) (h : OwnS enc k e base w v ys) {ad : Addr} {n c : Nat} (hx : a.eval x = .slice (some ad) n c) (hr : RdS enc k w (.slice (some ad) n c) xs)
    (h1 : ∀ u ∈ xs.flatMap enc, u.oneCell' = true) (h63 : ys.length + xs.length ≤ maxLen) (hbytes : (ys.length + xs.length) * bytes ≤ 140737488355328) (hbase : base ≤ w.heap.size)
    (hK : ∀ v' w', OwnS enc k e base w' v' (ys ++ xs) → Fr (fun g => v.ownBlock = some g) w w' → wpList P ops Q rest (a.put o.dst v') w') : wpList P ops Q (o :: rest) a w := by
  obtain ⟨i0, hi, hz0, hz1, hz2⟩ := info_parts hinfo
  have hn : n = xs.length := by
    obtain ⟨a', cap', hv', _⟩ := hr
    injection hv' with _ e2 _
  subst hn
  refine wpList_append_own w hg s x t hop base e i0 z k bytes ht hi hz0 hz1 hz2 hzs hk v ys.length (ys.flatMap enc) hv h ad xs.length c (xs.flatMap enc) hx (length_flatMap hek xs) (hr.news hek rfl) h1 h63 hbytes hbase ?_
  intro v' w' ho hgr _
  refine hK v' w' ?_ ((Fr.of_grown hgr).mono fun k _ e => e)
  unfold OwnS
  rw [List.length_append, List.flatMap_append]
  exact ho
end

/-- a step -/
structure Stp where
  kind : Int
  key : ByteArray
  val : ByteArray
  n : Int
deriving DecidableEq

def encStp (s : Stp) : List Value := [.int .i64 s.kind, .string s.key, .string s.val, .int .i64 s.n]
theorem encStp_len (s : Stp) : (encStp s).length = 4 := rfl
theorem encStp_cells (s : Stp) : ∀ v ∈ encStp s, v.oneCell' = true := by
  intro v hv
  simp [encStp] at hv
  rcases hv with rfl | rfl | rfl | rfl <;> rfl

theorem all_stp_cells (xs : List Stp) : ∀ u ∈ xs.flatMap encStp, u.oneCell' = true := by
  intro u hu
  obtain ⟨s, _, hs⟩ := List.mem_flatMap.1 hu
  exact encStp_cells s u hs

theorem info_step : (Tryd.prog.info? 36).map (fun i => (i.zero, i.size, i.bytes)) = some (some (.agg #[.int .i64 0, .string ByteArray.empty, .string ByteArray.empty, .int .i64 0]), 4, 48) := by kernel_rfl

set_option maxRecDepth 100000 in
set_option maxHeartbeats 400000 in
theorem clone_any (w : World) (v : Value) (xs : List Stp) (h : RdS encStp 4 w v xs) (hl : xs.length ≤ 1000000) :
    Calls Tryd.prog 33 #[v] w fun e w' => ∃ v', e = .returned v' ∧ OwnS encStp 4 36 w.heap.size w' v' xs ∧ RowKit.Below w.heap.size w w' := by
  obtain ⟨a, cap, hv, hc, hr⟩ := id h
  cases a with
  | none =>
    have hxs : xs = [] := by
      cases xs with
      | nil => rfl
      | cons x t => obtain ⟨g, off, ha, _⟩ := hr 0 x rfl; cases ha
    subst hxs
    subst hv
    have hnil := fun w a n c => Lib.run_eql_slice_nil (P := Tryd.prog) w 23 36 a n c 0 0 Tryd.underlying23
    go_enter Tryd.func33, Tryd.ntmps33
    go_wp2
    go_ret
    exact ⟨_, rfl, OwnS.nil, RowKit.Below.refl _ _⟩
  | some ad =>
    have HN := Lib.hid (h.news encStp_len hv)
    subst hv
    have hnil := fun w a n c => Lib.run_eql_slice_nil (P := Tryd.prog) w 23 36 a n c 0 0 Tryd.underlying23
    obtain ⟨i0, hi, hz0, hz1, hz2⟩ := info_parts info_step
    have hR := h
    clear h hr
    go_enter Tryd.func33, Tryd.ntmps33
    go_wp2_with (first | (at_builtin; refine At.stop ?_) | go_in)
    have hown : OwnS encStp 4 36 w.heap.size (w.alloc (Obj.cells #[] 36)) (.slice (some ⟨w.heap.size, 0, none⟩) 0 0) [] := ownS_empty _ _ _ _
    have hR1 := hR.move ((Fr.refl (fun _ => False) w).alloc (Obj.cells #[] 36))
    refine At.go (wpl_appendAll rfl _ _ _ rfl Tryd.underlying23 info_step rfl (by omega) encStp_len rfl hown rfl hR1 (all_stp_cells xs) (by simp; unfold maxLen; omega) (by simp; omega) (by rw [World.size_alloc]; omega) ?_)
    intro v' w1 ho hf
    have HO := Lib.hid (And.intro ho hf)
    clear ho hf hown hR1 hR
    go_wp2
    go_ret
    obtain ⟨ho, hf⟩ := HO.out
    refine ⟨_, rfl, ho, ?_⟩
    exact ((RowKit.Below.refl _ w).alloc (Nat.le_refl _) _).trans (hf.below (fun k hk e => by
      have : w.heap.size = k := Option.some.inj (show some w.heap.size = some k from e)
      omega) (by rw [World.size_alloc]; omega))

/-- a timer -/
structure Tm where
  name : ByteArray
  ver : Int
  at_ : Nat
  every : Nat
  do_ : List Stp
deriving DecidableEq

abbrev tmV (t : Tm) (dv : Value) : Value := .agg #[.string t.name, .int .i64 t.ver, .int .u64 t.at_, .int .u64 t.every, dv]

theorem zero_api (w : World) : (zeroValue 25).run Tryd.prog w = .ok (.agg #[.string ByteArray.empty, .int .i64 0, .int .u64 0, .int .u64 0, .slice none 0 0]) w := by kernel_rfl

def Tm.zero : Tm := ⟨ByteArray.empty, 0, 0, 0, []⟩

abbrev OwnSt (base : Nat) (w : World) (v : Value) (xs : List Stp) : Prop := OwnS encStp 4 36 base w v xs
abbrev RdSt (w : World) (v : Value) (xs : List Stp) : Prop := RdS encStp 4 w v xs

/-- five cells, written one behind the other -/
abbrev put5 (w : World) (b : Nat) (v0 v1 v2 v3 v4 : Value) : World :=
  ((((w.setCell ⟨b, 0, none⟩ v0).setCell ⟨b, 1, none⟩ v1).setCell ⟨b, 2, none⟩ v2).setCell ⟨b, 3, none⟩ v3).setCell ⟨b, 4, none⟩ v4

theorem put5_get {w : World} {b : Nat} {u0 u1 u2 u3 u4 : Value} {T : TypeId} {fz : Nat × Nat} (h : w.heap[b]? = some (.cells #[u0, u1, u2, u3, u4] T fz)) (v0 v1 v2 v3 v4 : Value) :
    (put5 w b v0 v1 v2 v3 v4).heap[b]? = some (.cells #[v0, v1, v2, v3, v4] T fz) :=
  setCell_get _ _ 4 _ (setCell_get _ _ 3 _ (setCell_get _ _ 2 _ (setCell_get _ _ 1 _ (setCell_get _ _ 0 _ h))))

theorem put5_fr (w : World) (b : Nat) (v0 v1 v2 v3 v4 : Value) : Fr (· = b) w (put5 w b v0 v1 v2 v3 v4) :=
  fr_setCells b [v0, v1, v2, v3, v4] 0 w w (Fr.refl _ w)

set_option maxRecDepth 100000 in
set_option maxHeartbeats 400000 in
theorem copied_any (w : World) (t : Tm) (dv : Value) (h : RdSt w dv t.do_) (hl : t.do_.length ≤ 1000000) :
    Calls Tryd.prog 18 #[tmV t dv] w fun e w' => ∃ dv', e = .returned (tmV t dv') ∧ OwnSt w.heap.size w' dv' t.do_ ∧ RowKit.Below w.heap.size w w' := by
  have hz := zero_api
  have hB0 : ∀ a b, RowKit.Below w.heap.size w ((w.alloc a).alloc b) := fun a b => ((RowKit.Below.refl _ w).alloc (Nat.le_refl _) _).alloc (by rw [World.size_alloc]; omega) _
  have HC := Lib.hid (fun a b => clone_any ((w.alloc a).alloc b) dv t.do_ (h.move (((Fr.refl _ w).alloc a).alloc b)) hl)
  have HB := Lib.hid hB0
  clear h hB0
  go_enter Tryd.func18, Tryd.ntmps18
  go_wp2_with fail
  refine (HC.out _ _).mono ?_
  rintro e w1 ⟨dv', rfl, ho, hb⟩
  obtain ⟨sa, scap, hsv, _⟩ := ho.at.shape
  have hsz : ∀ a b : Obj, ((w.alloc a).alloc b).heap.size = w.heap.size + 2 := fun a b => by rw [World.size_alloc, World.size_alloc]
  have hb0 := (hb.block w.heap.size (by rw [hsz]; omega)).trans ((Below.heap_alloc _ _ _ (by rw [World.size_alloc]; omega)).trans (alloc_get w _ rfl))
  have hb1 := (hb.block (w.heap.size + 1) (by rw [hsz]; omega)).trans (alloc_get _ _ (World.size_alloc ..))
  have hs1 := hb.size
  rw [hsz] at hs1
  have d0 : w1.cell? ⟨w.heap.size, 0, none⟩ = some (.string t.name) := by simp [World.cell?, hb0]
  have d1 : w1.cell? ⟨w.heap.size, 1, none⟩ = some (.int .i64 t.ver) := by simp [World.cell?, hb0]
  have d2 : w1.cell? ⟨w.heap.size, 2, none⟩ = some (.int .u64 t.at_) := by simp [World.cell?, hb0]
  have d3 : w1.cell? ⟨w.heap.size, 3, none⟩ = some (.int .u64 t.every) := by simp [World.cell?, hb0]
  have d4 : w1.cell? ⟨w.heap.size, 4, none⟩ = some dv := by simp [World.cell?, hb0]
  have f4 : w1.frozen? ⟨w.heap.size, 4, none⟩ = false := by simp [World.frozen?, hb0]
  have k0 : w1.cell? ⟨w.heap.size + 1, 0, none⟩ = some (.string ByteArray.empty) := by simp [World.cell?, hb1]
  have k1 : w1.cell? ⟨w.heap.size + 1, 1, none⟩ = some (.int .i64 0) := by simp [World.cell?, hb1]
  have k2 : w1.cell? ⟨w.heap.size + 1, 2, none⟩ = some (.int .u64 0) := by simp [World.cell?, hb1]
  have k3 : w1.cell? ⟨w.heap.size + 1, 3, none⟩ = some (.int .u64 0) := by simp [World.cell?, hb1]
  have k4 : w1.cell? ⟨w.heap.size + 1, 4, none⟩ = some (.slice none 0 0) := by simp [World.cell?, hb1]
  have g0 : w1.frozen? ⟨w.heap.size + 1, 0, none⟩ = false := by simp [World.frozen?, hb1]
  have g1 : w1.frozen? ⟨w.heap.size + 1, 1, none⟩ = false := by simp [World.frozen?, hb1]
  have g2 : w1.frozen? ⟨w.heap.size + 1, 2, none⟩ = false := by simp [World.frozen?, hb1]
  have g3 : w1.frozen? ⟨w.heap.size + 1, 3, none⟩ = false := by simp [World.frozen?, hb1]
  have g4 : w1.frozen? ⟨w.heap.size + 1, 4, none⟩ = false := by simp [World.frozen?, hb1]
  have hB1 := (HB.out _ _).trans (hb.mono (by rw [hsz]; omega))
  have ho' : OwnSt (w.heap.size + 2) w1 dv' t.do_ := by
    have := ho
    rw [hsz] at this
    exact this
  have HK := Lib.hid (And.intro hb1 (And.intro hB1 ho'))
  subst hsv
  clear ho hb hb0 hb1 hB1 ho' HC hsz
  go_wp2_with fail
  obtain ⟨hb1, hB1, ho⟩ := HK.out
  have hb2 := (Below.heap_setCell w1 ⟨w.heap.size, 4, none⟩ (.slice sa t.do_.length scap) (w.heap.size + 1) (by simp)).trans hb1
  refine bodyPost_ret (res_row rfl _ _ (w.heap.size + 1) _ _ _ _ rfl (heap_setCells (w.heap.size + 1) [.string t.name, .int .i64 t.ver, .int .u64 t.at_, .int .u64 t.every, .slice sa t.do_.length scap] 0 _ _ hb2) Tryd.underlying25 rfl (by kernel_rfl)) rfl ?_
  have hF : Fr (fun k => k = w.heap.size ∨ k = w.heap.size + 1) w1 ((w1.setCell ⟨w.heap.size, 4, none⟩ (.slice sa t.do_.length scap)).setCells (w.heap.size + 1) 0 [.string t.name, .int .i64 t.ver, .int .u64 t.at_, .int .u64 t.every, .slice sa t.do_.length scap]) :=
    (Fr.setCell (F := fun k => k = w.heap.size ∨ k = w.heap.size + 1) (a := ⟨w.heap.size, 4, none⟩) (Fr.refl _ w1) (fun _ => .inl rfl) _).trans ((fr_setCells (w.heap.size + 1) _ 0 _ _ (Fr.refl _ _)).mono fun k _ e => .inr e)
  refine ⟨_, rfl, ?_, hB1.trans (hF.below (fun k hk e => by rcases e with e | e <;> omega) (by omega))⟩
  have h2 : OwnSt (w.heap.size + 2) _ _ _ := ho.fr hF (fun g hg e => by
    have := (ho.lt g hg).1
    rcases e with e | e <;> omega)
  rcases h2.2 with h3 | ⟨g, cap, cur, h3, h4, h5⟩
  · exact ⟨h2.1, .inl h3⟩
  · exact ⟨h2.1, .inr ⟨g, cap, cur, h3, by omega, h5⟩⟩
end Go.Proofs.YtmjbhnkhpgnchaaDoor
