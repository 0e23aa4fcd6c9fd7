/-
Part 4 of 8 of the proof of the law FnCut: it returns true for all codes. No condition.
-/
import Derived.Test.YtndnfhhdflmfcaaGreatLawCutM3
import Derived.Shelf.SlSortCmp.InsertionK
import Derived.Deep.RegionHeld
import Derived.BigRegion

/-
impl.StrikeShape: all three shapes.
-/
namespace Go.Proofs.YtndnfhhdflmfcaaGreat
open Go Go.RowKit Ieee

theorem cN_fin {v : Nat} (h : fin .f32 v) : cN .f32 v .f64 = 0 := by
  unfold cN
  rw [widen_some (fin_num h)]
/-- A shape, word by word. -/
def ShapeL (kind n : Nat) (ts : List Nat) : Prop := ts.length = n ∧ ∀ j, j < n → ts.getD j 0 = shapeW kind n j
theorem shaped_list {kind n : Nat} {ts : List Nat} (hk : kind < 3) (h1 : 1 ≤ n) (h2 : n ≤ 64) (h : Shaped kind n n ts) : ShapeL kind n ts :=
  ⟨h.1, fun j hj => by
    have := (h.2 j hj).1
    rw [if_pos hj] at this
    have f := (shape_in hk h1 h2 hj).1
    rw [nrm_fin f] at this
    exact nrm_fin_eq this f⟩
theorem shape_any (kind n : Nat) (w : World) (hk : kind < 3) (hn : 1 ≤ n ∧ n ≤ 64) :
    Calls Tryz.prog 83 #[.int .i64 kind, .int .i64 n] w fun e w' => ∃ ts, e = .returned (.tuple #[.slice (some ⟨w.heap.size, 0, none⟩) n n, .bool true]) ∧ w'.rowIs w.heap.size 23 n (fun j => .float .f32 (ts.getD j 0)) ∧ ShapeL kind n ts ∧ Below w.heap.size w w' := by
  match kind, hk with
  | 0, _ => exact (shape_any0 n w hn).mono fun e w' ⟨ts, h1, h2, h3, h4⟩ => ⟨ts, h1, h2, shaped_list (by omega) hn.1 hn.2 h3, h4⟩
  | 1, _ => exact (shape_any1 n w hn).mono fun e w' ⟨ts, h1, h2, h3, h4⟩ => ⟨ts, h1, h2, shaped_list (by omega) hn.1 hn.2 h3, h4⟩
  | 2, _ => exact (shape_any2 n w hn).mono fun e w' ⟨ts, h1, h2, h3, h4⟩ => ⟨ts, h1, h2, shaped_list (by omega) hn.1 hn.2 h3, h4⟩
theorem shapeW_lt (kind n i : Nat) : wfk .f32 (shapeW kind n i) := by
  unfold shapeW
  split
  · split
    · rw [wfk_32]; omega
    · rw [wfk_32]; omega
  · exact fo_lt _ _ _ _
  · exact fo_lt _ _ _ _
theorem ShapeL.low {kind n : Nat} {ts : List Nat} (hk : kind < 3) (h1 : 1 ≤ n) (h2 : n ≤ 64) (h : ShapeL kind n ts) : Low ts ∧ ∀ i, i < ts.length → fin .f32 (ts.getD i 0) ∧ wfk .f32 (ts.getD i 0) := by
  obtain ⟨hl, h⟩ := h
  have key : ∀ i, i < ts.length → fin .f32 (ts.getD i 0) ∧ ab (fv .f32 (ts.getD i 0)) ≤ 8 ∧ wfk .f32 (ts.getD i 0) := fun i hi => by
    rw [hl] at hi
    obtain ⟨f, a, b⟩ := shape_in hk h1 h2 hi
    rw [h i hi]
    have a' := (fge_iff f (zero_fin .f32).1).1 a
    have b' := (fle_iff f one32.1).1 b
    rw [(zero_fin .f32).2] at a'
    rw [one32.2] at b'
    exact ⟨f, by rw [ab_of_nonneg a']; exact Rat.le_trans b' (by grind), shapeW_lt _ _ _⟩
  exact ⟨fun i hi => ⟨(key i hi).1, (key i hi).2.1⟩, fun i hi => ⟨(key i hi).1, (key i hi).2.2⟩⟩
theorem shape_unit {kind n i : Nat} (hk : kind < 3) (h1 : 1 ≤ n) (h2 : n ≤ 64) (hi : i < n) : fin .f32 (shapeW kind n i) ∧ 0 ≤ fv .f32 (shapeW kind n i) ∧ fv .f32 (shapeW kind n i) ≤ 1 := by
  obtain ⟨f, a, b⟩ := shape_in hk h1 h2 hi
  have a' := (fge_iff f (zero_fin .f32).1).1 a
  have b' := (fle_iff f one32.1).1 b
  rw [(zero_fin .f32).2] at a'
  rw [one32.2] at b'
  exact ⟨f, a', b'⟩
theorem sub00 : fin .f64 (fo .sub .f64 0 0) := numB_fin (by decide +kernel)
theorem diff_small {v u p r : Nat} (hv : fin .f32 v ∧ 0 ≤ fv .f32 v ∧ fv .f32 v ≤ 1) (hu : fin .f32 u ∧ 0 ≤ fv .f32 u ∧ fv .f32 u ≤ 1) (h : fle .f64 (diffW v u) p20 = true) (hp : fin .f64 p) (hpv : fv .f64 p = pw (-20))
    (hr : nrm .f64 r = diffW v u) : fle .f64 r p = true := by
  obtain ⟨v1, v2⟩ := wid_fin hv.1
  obtain ⟨u1, u2⟩ := wid_fin hu.1
  obtain ⟨k1, k2, _⟩ := consts64
  have ht := top210
  have hd : ab (fv .f64 (wid v) - fv .f64 (wid u)) ≤ 1 := by rw [v2, u2]; exact ab_le (by grind) (by grind)
  have sd := sub_spec v1 u1 (by grind)
  have e := sd.2.1
  rw [k1] at e
  have t := ab_tri (fv .f64 (fo .sub .f64 (wid v) (wid u))) (fv .f64 (wid v) - fv .f64 (wid u))
  obtain ⟨z1, z2⟩ := zero_fin .f64
  have s0 := sub_spec z1 z1 (by rw [z2]; have : (0 : Rat) - 0 = 0 := by grind
                                rw [this, ab_of_nonneg Rat.le_refl]; exact top_pos _)
  have s1 : fv .f64 (fo .sub .f64 0 0) = 0 := round_zero s0 (by rw [z2]; grind)
  obtain ⟨a1, a2⟩ := absB_fin sd.1
  obtain ⟨b1, b2⟩ := absB_fin s0.1
  rw [s1, ab_of_nonneg Rat.le_refl] at b2
  have n1 := ab_nonneg (fv .f64 (fo .sub .f64 (wid v) (wid u)))
  have ad := add_spec a1 b1 (by rw [a2, b2, ab_of_nonneg (by grind)]; grind)
  have hf : fin .f64 (diffW v u) := ad.1
  have hx := (fle_iff hf p20_val.1).1 h
  rw [nrm_fin_eq hr hf]
  refine (fle_iff hf hp).2 ?_
  rw [hpv, ← p20_val.2]
  exact hx
/-- All that the walk asks of two places of an arch, their words without a body. -/
theorem arch_pack {n k : Nat} (h1 : 1 ≤ n) (h2 : n ≤ 64) (hk : k < n) : ∃ v u V U : Nat, shapeW 2 n k = v ∧ shapeW 2 n (n - 1 - k) = u ∧ fge .f32 v 0 = true ∧ fle .f32 v 1065353216 = true ∧ (∀ W, cR .f32 v .f64 W = V) ∧ (∀ W, cR .f32 u .f64 W = U) ∧
    cN .f32 v .f64 = 0 ∧ cN .f32 u .f64 = 0 ∧ Hid (fin .f64 (fo .sub .f64 V U)) ∧ Hid (∀ p r, fin .f64 p → fv .f64 p = pw (-20) → nrm .f64 r = fo .add .f64 (absB (fo .sub .f64 V U)) (absB (fo .sub .f64 0 0)) → fle .f64 r p = true) := by
  obtain ⟨f, a, b⟩ := shape_in (kind := 2) (by omega) h1 h2 hk
  obtain ⟨g, _, _⟩ := shape_in (kind := 2) (i := n - 1 - k) (by omega) h1 h2 (by omega)
  have he := arch_ends h1 h2 hk
  have hv := shape_unit (kind := 2) (by omega) h1 h2 hk
  have hu := shape_unit (kind := 2) (i := n - 1 - k) (by omega) h1 h2 (by omega)
  exact ⟨_, _, _, _, rfl, rfl, a, b, cR_wid_fin f, cR_wid_fin g, cN_fin f, cN_fin g, he.1, fun p r hp hpv hr => diff_small hv hu he.2 hp hpv hr⟩
end Go.Proofs.YtndnfhhdflmfcaaGreat

/-
impl.isEvent, impl.IsScore at valid scores.
-/
namespace Go.Proofs.YtndnfhhdflmfcaaGreat
open Go Go.RowKit Ieee

set_option maxRecDepth 100000 in
set_option maxHeartbeats 800000 in
theorem isEvent_any (e : Ev) (L : Int) (nb : Nat) (w : World) (h : EvOk L nb e) (hL : L ≤ 2000) (hb : nb ≤ 8) :
    Calls Tryz.prog 49 #[.agg #[.int .i64 e.1, .int .i64 e.2.1, .int .i64 e.2.2.1, .int .i64 e.2.2.2.1, .int .i64 e.2.2.2.2.1, .float .f32 e.2.2.2.2.2], .int .i64 nb] w fun r w' => r = .returned (.bool true) ∧ Below w.heap.size w w' := by
  obtain ⟨at', kd, bo, sh, co, fo'⟩ := e
  obtain ⟨a0, a1, b0, b1, hf, hw, _, hk⟩ := h
  simp only at a0 a1 b0 b1 hf hw hk ⊢
  have Hw := Lib.hid (fun w => cR_lt (s := .f32) (k := .f64) hw w)
  have Hf := Lib.hid (cR_wid_fin hf)
  have Hfin : Hid (finB (wid fo') = true) := (finB_iff _).2 (wid_fin hf).1
  have hin : (decide ((0 : Int) ≤ at') && decide (at' ≤ 2000)) = true := by simp; omega
  have g1 : (decide (bo < 0)) = false := by simp; omega
  have g2 : (decide ((nb : Int) ≤ bo)) = false := by simp; omega
  have HB : Hid (Below w.heap.size w (w.alloc (.cells #[.int .i64 at', .int .i64 kd, .int .i64 bo, .int .i64 sh, .int .i64 co, .float .f32 fo'] 71))) := (Below.refl w.heap.size w).alloc (Nat.le_refl _) _
  have HN := Lib.hid (heap_alloc_new w (.cells #[.int .i64 at', .int .i64 kd, .int .i64 bo, .int .i64 sh, .int .i64 co, .float .f32 fo'] 71))
  have HZ : Hid (w.heap.size < (w.alloc (.cells #[.int .i64 at', .int .i64 kd, .int .i64 bo, .int .i64 sh, .int .i64 co, .float .f32 fo'] 71)).heap.size) := by show _ < (w.alloc _).heap.size; simp
  clear hf hw
  go_enter Tryz.func49, Tryz.ntmps49
  go_wp2_with fail
  generalize w.alloc (.cells #[.int .i64 at', .int .i64 kd, .int .i64 bo, .int .i64 sh, .int .i64 co, .float .f32 fo'] 71) = W at *
  obtain ⟨c0, c1, c2, c3, c4, c5⟩ := sc_cells HN.out
  refine (count_any at' _).mono ?_
  rintro r w' ⟨rfl, rfl⟩
  rw [hin]
  rcases hk with ⟨rfl, ⟨hs0, hs1⟩, hc0, hc1⟩ | ⟨rfl, ⟨rfl, rfl⟩, hu0, hu1, _⟩ | ⟨rfl, ⟨rfl, rfl⟩, rfl⟩
  · obtain ⟨k, rfl⟩ : ∃ k : Nat, sh = k := ⟨sh.toNat, by omega⟩
    obtain ⟨n, rfl⟩ : ∃ n : Nat, co = n := ⟨co.toNat, by omega⟩
    have z4 : ((n : Int) == 0) = false := by simp; omega
    cases z3 : ((k : Int) == 0)
    all_goals
      go_wp2_with fail
      refine (shape_any k n _ (by omega) (by omega)).mono ?_
      rintro r W2 ⟨ts, rfl, _, _, hb2⟩
      have HB2 := Lib.hid (HB.out.trans (hb2.mono HB.out.size))
      have c5' := (World.cell?_of_block (w := W) (w' := W2) (hb2.block w.heap.size HZ.out)).trans c5
      clear hb2 c0 c1 c2 c3 c4 c5 z3 z4
      go_wp2_with fail
      refine (finite_any _ _ (Hw.out _)).mono ?_
      rintro r w' ⟨rfl, rfl⟩
      rw [Hf.out, Hfin.out]
      go_wp2_with fail
      go_ret
      exact ⟨rfl, below_drewN HB2.out _⟩
  · go_wp2_with fail
    refine (unit_any _ _ hu0 hu1).mono ?_
    rintro r w' ⟨rfl, rfl⟩
    go_wp2_with fail
    go_ret
    exact ⟨rfl, HB.out⟩
  · go_wp2_with fail
    refine (signbit_any _ _ (Hw.out _)).mono ?_
    rintro r w' ⟨rfl, rfl⟩
    rw [Hf.out, show signB (wid 0) = false by decide +kernel]
    go_wp2_with fail
    go_ret
    exact ⟨rfl, below_drewN HB.out _⟩

section
variable {W : World} {w : World}
set_option maxRecDepth 100000 in
set_option maxHeartbeats 400000 in
theorem notEvent_any (e : Ev) (L : Int) (nb G : Nat) (B : Option Addr) (cb : Nat) (x0 x1 x2 x3 x5 : Value) (w : World) (h : EvOk L nb e) (hL : L ≤ 2000) (hb : nb ≤ 8) (hg : w.heap[G]? = some (.cells #[x0, x1, x2, x3, .slice B nb cb, x5] 27 (0, 0))) :
    Calls Tryz.prog 48 #[.agg #[.int .i64 e.1, .int .i64 e.2.1, .int .i64 e.2.2.1, .int .i64 e.2.2.2.1, .int .i64 e.2.2.2.2.1, .float .f32 e.2.2.2.2.2], .pointer (some ⟨G, 0, none⟩)] w fun r w' => r = .returned (.bool false) ∧ Below w.heap.size w w' := by
  have HB : Hid (Below w.heap.size w (w.alloc (.cells #[.int .i64 e.1, .int .i64 e.2.1, .int .i64 e.2.2.1, .int .i64 e.2.2.2.1, .int .i64 e.2.2.2.2.1, .float .f32 e.2.2.2.2.2] 71))) := (Below.refl w.heap.size w).alloc (Nat.le_refl _) _
  have HN := Lib.hid (heap_alloc_new w (.cells #[.int .i64 e.1, .int .i64 e.2.1, .int .i64 e.2.2.1, .int .i64 e.2.2.2.1, .int .i64 e.2.2.2.2.1, .float .f32 e.2.2.2.2.2] 71))
  have hgl := lt_of_some hg
  have g4 := (sc_cells hg).2.2.2.2.1
  have HK := Lib.hid h
  clear h hg
  go_enter Tryz.func48, Tryz.ntmps48
  go_wp2_with fail
  generalize w.alloc (.cells #[.int .i64 e.1, .int .i64 e.2.1, .int .i64 e.2.2.1, .int .i64 e.2.2.2.1, .int .i64 e.2.2.2.2.1, .float .f32 e.2.2.2.2.2] 71) = W at *
  refine (isEvent_any e L nb _ HK.out hL hb).mono ?_
  rintro r w' ⟨rfl, hb2⟩
  have HB2 := Lib.hid (HB.out.trans (hb2.mono HB.out.size))
  clear hb2 g4
  go_wp2_with fail
  go_ret
  exact ⟨rfl, HB2.out⟩
end

theorem EvsOk.at_ {L : Int} {nb n : Nat} {evs : List Ev} (h : EvsOk L nb evs n) {i : Nat} (hi : i < evs.length) : EvOk L nb (eAt evs i) := by
  have : eAt evs i ∈ evs := by
    unfold eAt
    simp only [List.getD, List.getElem?_eq_getElem hi, Option.getD_some]
    exact List.getElem_mem hi
  exact h.2 _ this

set_option maxRecDepth 100000 in
set_option maxHeartbeats 800000 in
theorem indexEv_any (E : Option Addr) (ce lo hi : Nat) (evs : List Ev) (L : Int) (nb G n : Nat) (B : Option Addr) (cb : Nat) (x0 x1 x2 x3 x5 : Value) (w : World) (h : OwnE w lo hi E ce evs) (hh : hi ≤ w.heap.size) (hok : EvsOk L nb evs n) (hL : L ≤ 2000) (hb : nb ≤ 8) (hn : n ≤ 60)
    (hg : w.heap[G]? = some (.cells #[x0, x1, x2, x3, .slice B nb cb, x5] 27 (0, 0))) :
    Calls Tryz.prog 82 #[.slice E evs.length ce, .func (.func 48) #[] #[.pointer (some ⟨G, 0, none⟩)]] w fun r w' => r = .returned (.int .i64 (-1)) ∧ Below w.heap.size w w' := by
  have H := Lib.hid h
  have HK := Lib.hid hok
  have HG := Lib.hid hg
  have hle : evs.length ≤ 60 := Nat.le_trans hok.1 hn
  clear h hok hg
  go_enter Tryz.func82, Tryz.ntmps82
  go_wp2_with fail
  go_loopw [8] (fun i wr => ∃ k : Nat, i = .int .i64 (k : Int) ∧ k ≤ evs.length ∧ Hid (Below w.heap.size w wr)) (fun i _ => evs.length - (intOf i).toNat)
  case atStart => exact ⟨0, rfl, by omega, Below.refl _ _⟩
  case round =>
    obtain ⟨k, rfl, hk, hb'⟩ := hrel
    by_cases hlt : k < evs.length
    · obtain ⟨b, rfl, _, _, hbl, hlc, _, hcell⟩ := (H.out.below hb'.out hh).cells (by omega)
      obtain ⟨e0, e1, e2, e3, e4, e5⟩ := hcell k hlt
      have HM := Lib.hid (HK.out.at_ hlt)
      have HGw := Lib.hid ((hb'.out.block G (lt_of_some HG.out)).trans HG.out)
      clear hcell
      generalize eAt evs k = v at *
      go_wp2_with fail
      refine (notEvent_any v L nb G B cb x0 x1 x2 x3 x5 _ HM.out hL hb HGw.out).mono ?_
      rintro r w' ⟨rfl, hb2⟩
      have HB : Hid (Below w.heap.size w w') := hb'.out.trans (hb2.mono hb'.out.size)
      clear hb2 e0 e1 e2 e3 e4 e5
      go_wp2_with fail
      go_roundw
      case rel => exact ⟨k + 1, by go_num, by omega, HB⟩
      case measure => simp [intOf]; omega
    · go_wp2_with fail
      go_ret
      exact ⟨rfl, hb'.out⟩

set_option maxRecDepth 100000 in
set_option maxHeartbeats 400000 in
theorem containsEv_any (E : Option Addr) (ce lo hi : Nat) (evs : List Ev) (L : Int) (nb G n : Nat) (B : Option Addr) (cb : Nat) (x0 x1 x2 x3 x5 : Value) (w : World) (h : OwnE w lo hi E ce evs) (hh : hi ≤ w.heap.size) (hok : EvsOk L nb evs n) (hL : L ≤ 2000) (hb : nb ≤ 8) (hn : n ≤ 60)
    (hg : w.heap[G]? = some (.cells #[x0, x1, x2, x3, .slice B nb cb, x5] 27 (0, 0))) :
    Calls Tryz.prog 47 #[.slice E evs.length ce, .func (.func 48) #[] #[.pointer (some ⟨G, 0, none⟩)]] w fun r w' => r = .returned (.bool false) ∧ Below w.heap.size w w' := by
  have H := Lib.hid h
  have HK := Lib.hid hok
  have HG := Lib.hid hg
  clear h hok hg
  go_enter Tryz.func47, Tryz.ntmps47
  go_wp2_with fail
  refine (indexEv_any E ce lo hi evs L nb G n B cb x0 x1 x2 x3 x5 _ H.out hh HK.out hL hb hn HG.out).mono ?_
  rintro r w' ⟨rfl, hb⟩
  have HB := Lib.hid hb
  clear hb
  go_wp2_with fail
  go_ret
  exact ⟨rfl, HB.out⟩

set_option maxRecDepth 100000 in
set_option maxHeartbeats 400000 in
theorem notBody_any (b : Bd) (lo hi : Nat) (w : World) (h : OwnM w lo hi b.1 b.2.1 b.2.2) (hh : hi ≤ w.heap.size) (hok : ModesOk b.2.2) (hl : b.2.2.length ≤ 16) :
    Calls Tryz.prog 45 #[.agg #[.slice b.1 b.2.2.length b.2.1]] w fun r w' => r = .returned (.bool false) ∧ Below w.heap.size w w' := by
  have HB : Hid (Below w.heap.size w (w.alloc (.cells #[.slice b.1 b.2.2.length b.2.1] 68))) := (Below.refl w.heap.size w).alloc (Nat.le_refl _) _
  have H : Hid (OwnM (w.alloc (.cells #[.slice b.1 b.2.2.length b.2.1] 68)) lo hi b.1 b.2.1 b.2.2) := h.below HB.out hh
  have HK := Lib.hid hok
  have hz := HB.out.size
  clear h hok
  go_enter Tryz.func45, Tryz.ntmps45
  go_wp2_with fail
  generalize w.alloc (.cells #[.slice b.1 b.2.2.length b.2.1] 68) = W at *
  refine (isBody_any b.1 b.2.1 lo hi b.2.2 _ H.out (by omega) HK.out hl).mono ?_
  rintro r w' ⟨rfl, hb⟩
  have HB2 := Lib.hid (HB.out.trans (hb.mono HB.out.size))
  clear hb
  go_wp2_with fail
  go_ret
  exact ⟨rfl, HB2.out⟩

set_option maxRecDepth 100000 in
set_option maxHeartbeats 400000 in
theorem indexBd_any (A : Option Addr) (c lo hi m n : Nat) (bs : List Bd) (w : World) (h : BodsIn w lo hi A bs) (hok : BodsOk bs m n) (hm : m ≤ 16) (hn : n ≤ 8) :
    Calls Tryz.prog 78 #[.slice A bs.length c, .func (.func 45) #[] #[]] w fun r w' => r = .returned (.int .i64 (-1)) ∧ Below w.heap.size w w' := by
  have H := Lib.hid h
  have HK := Lib.hid hok.2
  have hle : bs.length ≤ 8 := Nat.le_trans hok.1 hn
  clear h hok
  go_enter Tryz.func78, Tryz.ntmps78
  go_wp2_with fail
  go_loopw [8] (fun i wr => ∃ k : Nat, i = .int .i64 (k : Int) ∧ k ≤ bs.length ∧ Hid (Below w.heap.size w wr)) (fun i _ => bs.length - (intOf i).toNat)
  case atStart => exact ⟨0, rfl, by omega, Below.refl _ _⟩
  case round =>
    obtain ⟨k, rfl, hk, hb'⟩ := hrel
    by_cases hlt : k < bs.length
    · have H1 := Lib.hid (H.out.below hb'.out)
      obtain ⟨b, off, rfl, hbl, hc⟩ := H1.out.rd (by simp; omega)
      have e1 := hc k (bodV (bodAt bs k)) (by simp [bodAt, List.getD, List.getElem?_eq_getElem hlt])
      have HM := Lib.hid (H1.out.row k hlt)
      have HK1 := Lib.hid (HK.out k hlt)
      have HH := Lib.hid H1.out.hh
      clear hc H1
      unfold bodV at e1
      generalize bodAt bs k = v at *
      go_wp2_with fail
      refine (notBody_any v lo hi _ HM.out HH.out HK1.out.1 (Nat.le_trans HK1.out.2 hm)).mono ?_
      rintro r w' ⟨rfl, hb2⟩
      have HB : Hid (Below w.heap.size w w') := hb'.out.trans (hb2.mono hb'.out.size)
      clear hb2 e1
      go_wp2_with fail
      go_roundw
      case rel => exact ⟨k + 1, by go_num, by omega, HB⟩
      case measure => simp [intOf]; omega
    · go_wp2_with fail
      go_ret
      exact ⟨rfl, hb'.out⟩

set_option maxRecDepth 100000 in
set_option maxHeartbeats 400000 in
theorem containsBd_any (A : Option Addr) (c lo hi m n : Nat) (bs : List Bd) (w : World) (h : BodsIn w lo hi A bs) (hok : BodsOk bs m n) (hm : m ≤ 16) (hn : n ≤ 8) :
    Calls Tryz.prog 44 #[.slice A bs.length c, .func (.func 45) #[] #[]] w fun r w' => r = .returned (.bool false) ∧ Below w.heap.size w w' := by
  have H := Lib.hid h
  have HK := Lib.hid hok
  clear h hok
  go_enter Tryz.func44, Tryz.ntmps44
  go_wp2_with fail
  refine (indexBd_any A c lo hi m n bs _ H.out HK.out hm hn).mono ?_
  rintro r w' ⟨rfl, hb⟩
  have HB := Lib.hid hb
  clear hb
  go_wp2_with fail
  go_ret
  exact ⟨rfl, HB.out⟩

/-- A score that impl.IsScore takes. -/
structure ScAsk (s : Sh) (bs : List Bd) (evs : List Ev) : Prop where
  sh : ShOk 2000 s
  bods : BodsOk bs 16 8
  evs : EvsOk s.1 bs.length evs 60
set_option maxRecDepth 100000 in
set_option maxHeartbeats 1600000 in
theorem isScore_any (s : Sh) (B : Option Addr) (cb : Nat) (bs : List Bd) (E : Option Addr) (ce lo hi : Nat) (evs : List Ev) (w : World) (h : ScIn w lo hi B cb bs E ce evs) (hok : ScAsk s bs evs) :
    Calls Tryz.prog 17 #[.agg #[.int .i64 s.1, .int .i64 s.2.1, .float .f32 s.2.2.1, .float .f32 s.2.2.2, .slice B bs.length cb, .slice E evs.length ce]] w fun r w' => r = .returned (.bool true) ∧ Below w.heap.size w w' := by
  obtain ⟨⟨l0, l1, v0, v1, lim, cw, rw'⟩, hbo, heo⟩ := hok
  have hbl := hbo.1
  have hel := heo.1
  have HB : Hid (Below w.heap.size w (w.alloc (.cells #[.int .i64 s.1, .int .i64 s.2.1, .float .f32 s.2.2.1, .float .f32 s.2.2.2, .slice B bs.length cb, .slice E evs.length ce] 27))) := (Below.refl w.heap.size w).alloc (Nat.le_refl _) _
  have HN := Lib.hid (heap_alloc_new w (.cells #[.int .i64 s.1, .int .i64 s.2.1, .float .f32 s.2.2.1, .float .f32 s.2.2.2, .slice B bs.length cb, .slice E evs.length ce] 27))
  have H := Lib.hid (h.below HB.out)
  have HK := Lib.hid (And.intro hbo heo)
  have HL := Lib.hid lim
  clear h hbo heo lim
  obtain ⟨len, vo, c, r⟩ := s
  simp only at l0 l1 v0 v1 cw rw' HB HN H HK HL ⊢
  have hin : (decide ((0 : Int) ≤ len) && decide (len ≤ 2000)) = true := by simp; omega
  go_enter Tryz.func17, Tryz.ntmps17
  go_wp2_with fail
  generalize w.alloc (.cells #[.int .i64 len, .int .i64 vo, .float .f32 c, .float .f32 r, .slice B bs.length cb, .slice E evs.length ce] 27) = W at *
  obtain ⟨c0, c1, c2, c3, c4, c5⟩ := sc_cells HN.out
  refine (count_any len _).mono ?_
  rintro q w' ⟨rfl, rfl⟩
  rw [hin]
  go_wp2_with fail
  refine (isLimit_any c r _ cw rw').mono ?_
  rintro q w' ⟨nd, rfl, rfl⟩
  rw [HL.out]
  go_wp2_with fail
  refine (containsBd_any B cb lo hi 16 8 bs _ (H.out.bodsIn.drewN nd) HK.out.1 (by omega) (by omega)).mono ?_
  rintro q W2 ⟨rfl, hb'⟩
  have hz : w.heap.size < W.heap.size := lt_of_some HN.out
  have hb : Below W.heap.size W W2 := (below_drewN (Below.refl W.heap.size W) nd).trans hb'
  have HB2 := Lib.hid (HB.out.trans (hb.mono HB.out.size))
  clear hb'
  have HN2 := Lib.hid ((hb.block w.heap.size hz).trans HN.out)
  have H2 := Lib.hid (H.out.below hb)
  clear c0 c1 c2 c3 c4 c5 hb H HN HB
  obtain ⟨c0, c1, c2, c3, c4, c5⟩ := sc_cells HN2.out
  go_wp2_with fail
  refine (containsEv_any E ce lo hi evs len bs.length w.heap.size 60 B cb _ _ _ _ _ _ H2.out.evs H2.out.hh HK.out.2 (by omega) (by omega) (by omega) HN2.out).mono ?_
  rintro q W3 ⟨rfl, hb⟩
  have HB3 := Lib.hid (HB2.out.trans (hb.mono HB2.out.size))
  clear c0 c1 c2 c3 c4 c5 hb
  go_wp2_with fail
  go_ret
  exact ⟨rfl, HB3.out⟩
end Go.Proofs.YtndnfhhdflmfcaaGreat

/-
Rows of events: an element stored, two exchanged; slices.Clone of events.
-/
namespace Go.Proofs.YtndnfhhdflmfcaaGreat
open Go Go.RowKit Ieee

/-- Six cells of a list set. -/
def set6 (xs : List Value) (i : Nat) (e : Ev) : List Value := (((((xs.set i (.int .i64 e.1)).set (i + 1) (.int .i64 e.2.1)).set (i + 2) (.int .i64 e.2.2.1)).set (i + 3) (.int .i64 e.2.2.2.1)).set (i + 4) (.int .i64 e.2.2.2.2.1)).set (i + 5) (.float .f32 e.2.2.2.2.2)
theorem set6_cons6 (a b c d x y : Value) (xs : List Value) (i : Nat) (e : Ev) : set6 (a :: b :: c :: d :: x :: y :: xs) (i + 6) e = a :: b :: c :: d :: x :: y :: set6 xs i e := rfl
theorem flatE_set (L : List Ev) (i : Nat) (e : Ev) (hi : i < L.length) : flatE (L.set i e) = set6 (flatE L) (i * 6) e := by
  induction L generalizing i with
  | nil => simp at hi
  | cons m L ih =>
    cases i with
    | zero => rfl
    | succ i =>
      have h := ih i (by simpa using hi)
      have e1 : (i + 1) * 6 = i * 6 + 6 := by omega
      rw [e1]
      show evV m ++ flatE (L.set i e) = set6 (evV m ++ flatE L) (i * 6 + 6) e
      rw [h]
      exact (set6_cons6 _ _ _ _ _ _ _ _ _).symm
/-- Six stores. -/
def putE (W : World) (g i : Nat) (e : Ev) : World := (((((W.setCell ⟨g, i, none⟩ (.int .i64 e.1)).setCell ⟨g, i + 1, none⟩ (.int .i64 e.2.1)).setCell ⟨g, i + 2, none⟩ (.int .i64 e.2.2.1)).setCell ⟨g, i + 3, none⟩ (.int .i64 e.2.2.2.1)).setCell ⟨g, i + 4, none⟩ (.int .i64 e.2.2.2.2.1)).setCell ⟨g, i + 5, none⟩ (.float .f32 e.2.2.2.2.2)
theorem putE_block {W : World} {g i : Nat} {e : Ev} {cs : Array Value} {t : TypeId} (h : W.heap[g]? = some (.cells cs t (0, 0))) : ∃ cs' : Array Value, (putE W g i e).heap[g]? = some (.cells cs' t (0, 0)) ∧ cs'.size = cs.size ∧ cs'.toList = set6 cs.toList i e := by
  refine ⟨(((((cs.setIfInBounds i (.int .i64 e.1)).setIfInBounds (i + 1) (.int .i64 e.2.1)).setIfInBounds (i + 2) (.int .i64 e.2.2.1)).setIfInBounds (i + 3) (.int .i64 e.2.2.2.1)).setIfInBounds (i + 4) (.int .i64 e.2.2.2.2.1)).setIfInBounds (i + 5) (.float .f32 e.2.2.2.2.2), ?_, ?_, ?_⟩
  · simp [putE, World.setCell, Array.getElem?_modify, h]
  · simp
  · simp [set6]
theorem putE_else {W : World} {g i j : Nat} {e : Ev} (hj : j ≠ g) : (putE W g i e).heap[j]? = W.heap[j]? := by
  unfold putE
  simp only [Below.heap_setCell _ _ _ _ (show j ≠ (⟨g, _, none⟩ : Addr).block from hj)]
theorem putE_grown {w W : World} {g i : Nat} {e : Ev} (h : w.grownBy W (some g)) : w.grownBy (putE W g i e) (some g) := by
  unfold putE
  exact grown_trans (grown_trans (grown_trans (grown_trans (grown_trans (grown_trans h (grown_set _ _)) (grown_set _ _)) (grown_set _ _)) (grown_set _ _)) (grown_set _ _)) (grown_set _ _)
theorem take_set6 (xs : List Value) (n i : Nat) (e : Ev) : (set6 xs i e).take n = set6 (xs.take n) i e := by
  simp [set6, List.take_set]
theorem OwnE.put {W : World} {lo hi g c i : Nat} {L : List Ev} (h : OwnE W lo hi (some ⟨g, 0, none⟩) c L) (hi' : i < L.length) (e : Ev) : OwnE (putE W g (i * 6) e) lo hi (some ⟨g, 0, none⟩) c (L.set i e) := by
  obtain ⟨⟨h1, h2⟩, h3⟩ := h
  have hl : (L.set i e).length = L.length := by simp
  unfold OwnE
  rw [hl]
  refine ⟨⟨by rw [flatE_len, hl], ?_⟩, h3⟩
  rcases h2 with ⟨h2, _⟩ | ⟨G, cap, cur, e1, e2, e3, e4, e5, e6, e7⟩
  · cases h2
  · have eG : g = G := by injection e1 with q1 _ _; injection q1 with q1; injection q1
    subst eG
    obtain ⟨cs, p1, p2, p3⟩ := putE_block (i := i * 6) (e := e) e3
    exact .inr ⟨g, cap, cs, e1, e2, p1, e4, e5, by rw [p2]; exact e6, by rw [p3, take_set6, e7, flatE_set L i e hi']⟩
theorem OwnE.block {W : World} {lo hi c : Nat} {A : Option Addr} {L : List Ev} (h : OwnE W lo hi A c L) (h0 : 0 < L.length) : ∃ g, A = some ⟨g, 0, none⟩ ∧ lo ≤ g ∧ g < hi ∧ g < W.heap.size ∧ L.length ≤ c ∧ c ≤ maxLen ∧ ∃ cs, W.heap[g]? = some (.cells cs 71 (0, 0)) := by
  obtain ⟨⟨h1, h2⟩, h3⟩ := h
  rcases h2 with ⟨_, h2⟩ | ⟨G, cap, cur, e1, e2, e3, e4, e5, e6, e7⟩
  · omega
  · injection e1 with q1 q2 q3
    subst q1 q3
    exact ⟨G, rfl, e2, h3 G rfl, lt_of_some e3, e4, e5, cur, e3⟩

theorem flatE_one (L : List Ev) : ∀ u ∈ flatE L, u.oneCell' = true := fun u hu => by
  obtain ⟨m, _, h⟩ := List.mem_flatMap.1 hu
  exact evV_one m u h
theorem OwnE.flat {w : World} {lo hi b c : Nat} {L : List Ev} (h : OwnE w lo hi (some ⟨b, 0, none⟩) c L) : ∀ j u, (flatE L)[j]? = some u → w.cell? ⟨b, j, none⟩ = some u := fun j u hu => by
  obtain ⟨⟨h1, h2⟩, h3⟩ := h
  rcases h2 with ⟨h2, _⟩ | ⟨g, cap, cur, e1, e2, e3, e4, e5, e6, e7⟩
  · cases h2
  · injection e1 with q1 q2 q3
    injection q1 with q1
    injection q1 with q1
    subst q1
    have hj : j < L.length * 6 := by
      rcases Nat.lt_or_ge j (flatE L).length with h | h
      · rw [flatE_len] at h; exact h
      · rw [List.getElem?_eq_none h] at hu; cases hu
    rw [cell_of_row w b j _ _ (0, 0) e3]
    rw [← e7, List.getElem?_take, if_pos hj] at hu
    simpa using hu
theorem wpList_appE {P : Program} {w : World} {ops : Array Oper} {rest : List Oper} {o : Oper} {a : Act} {Q : Exit → Act → World → Prop} (hgd : o.guard = none) (s x : Operand) (t : TypeId)
    (ho : o.op = .call { callee := .builtin .append, args := #[s, x], argTypes := #[t, t] })
    (B : Nat) (e : TypeId) (z : Value) (k bytes : Nat) (ht : P.underlying t = some (.slice e)) (hinfo : (P.info? e).map (fun i => (i.zero, i.size, i.bytes)) = some (some z, k, bytes)) (hzs : z.cells.size = k) (hk : 0 < k)
    (v : Value) (n : Nat) (xs : List Value) (b m c : Nat) (news : List Value) (hs : a.eval s = v) (hx : a.eval x = .slice (some ⟨b, 0, none⟩) m c) (hu : ∀ u ∈ news, u.oneCell' = true) (hown : w.ownsRow B e k v n xs) (hB : B ≤ w.heap.size)
    (hr : ∀ j u, news[j]? = some u → w.cell? ⟨b, j, none⟩ = some u) (hm : news.length = m * k) (h63 : n + m ≤ 1048576) (hby : bytes ≤ 1024)
    (h : ∀ v' w', w'.ownsRow B e k v' (n + m) (xs ++ news) → Below B w w' → wpList P ops Q rest (a.put o.dst v') w') : wpList P ops Q (o :: rest) a w := by
  obtain ⟨i, hi, hzz⟩ := Option.map_eq_some_iff.1 hinfo
  simp only [Prod.mk.injEq] at hzz
  obtain ⟨hz, hsz, hb⟩ := hzz
  have hcells : ∀ j u, news[j]? = some u → w.cell? ((⟨b, 0, none⟩ : Addr).add j) = some u := fun j u hj => by
    rw [← hr j u hj]
    congr 1
    unfold Addr.add
    by_cases h0 : j = 0 <;> simp [h0]
  refine wpList_append_own _ hgd s x t ho B e i z k bytes ht hi hz hsz hb hzs hk v n xs hs hown ⟨b, 0, none⟩ m c news hx hm hcells hu ?_ ?_ hB ?_
  · simp only [maxLen]; omega
  · have := Nat.mul_le_mul h63 hby; omega
  · intro v' w' h2 h3 _
    exact h v' w' h2 ((Below.refl _ _).grown h3 hB (fun k hk => (hown.lt k hk).1))

/-- What slices.Clone of events returns. -/
def CloneEP (lo : Nat) (L : List Ev) (w : World) (e : Ending) (w' : World) : Prop :=
  ∃ (A' : Option Addr) (c' : Nat), e = .returned (.slice A' L.length c') ∧ OwnE w' lo w'.heap.size A' c' L ∧ Below w.heap.size w w'
set_option maxRecDepth 100000 in
set_option maxHeartbeats 400000 in
theorem cloneE_any (A : Option Addr) (c lo hi : Nat) (L : List Ev) (w : World) (h : OwnE w lo hi A c L) (hl : L.length ≤ 60) :
    Calls Tryz.prog 74 #[.slice A L.length c] w (CloneEP w.heap.size L w) := by
  have h2 := h.1.2
  rcases h2 with ⟨h2, h0⟩ | ⟨g, cap, cur, e1, _⟩
  · injection h2 with q1 q2 q3
    subst q1 q3
    have hn : L = [] := List.eq_nil_of_length_eq_zero h0
    subst hn
    clear h0 q2
    have hq := fun W => Lib.run_eql_slice_nil (P := Tryz.prog) W 25 71 none 0 0 0 0 Tryz.underlying25
    go_enter Tryz.func74, Tryz.ntmps74
    go_wp2_with fail
    go_ret
    exact ⟨none, 0, rfl, ⟨⟨rfl, .inl ⟨rfl, rfl⟩⟩, fun k hk => by cases hk⟩, Below.refl _ _⟩
  · injection e1 with q1 q2 q3
    subst q1 q3
    have HC : Hid (∀ o j u, (flatE L)[j]? = some u → (w.alloc o).cell? ⟨g, j, none⟩ = some u) := fun o j u hu => by
      have hg : g < w.heap.size := h.1.lt g rfl |>.2
      exact (World.cell?_of_block (Below.heap_alloc w o g hg)).trans (h.flat j u hu)
    have own0 : (w.alloc (.cells #[] 71)).ownsRow w.heap.size 71 6 (.slice (some ⟨w.heap.size, 0, none⟩) 0 0) 0 [] := ⟨by simp, .inr ⟨w.heap.size, 0, #[], rfl, Nat.le_refl _, heap_alloc_new w _, Nat.le_refl _, by simp [maxLen], by simp, by simp⟩⟩
    have b0 : Below w.heap.size w (w.alloc (.cells #[] 71)) := (Below.refl w.heap.size w).alloc (Nat.le_refl _) _
    have HL2 := Lib.hid (flatE_len L)
    clear h
    have hq := fun W => Lib.run_eql_slice_nil (P := Tryz.prog) W 25 71 (some ⟨g, 0, none⟩) L.length c 0 0 Tryz.underlying25
    go_enter Tryz.func74, Tryz.ntmps74
    go_wp2_with (at_builtin; refine wpList_appE rfl (.tmp 5) (.tmp 6) 25 rfl w.heap.size 71 (.agg #[.int .i64 0, .int .i64 0, .int .i64 0, .int .i64 0, .int .i64 0, .float .f32 0]) 6 48 Tryz.underlying25 ev_info rfl (by decide) (.slice (some ⟨w.heap.size, 0, none⟩) 0 0) 0 [] g L.length c (flatE L) rfl rfl (flatE_one L) own0 b0.size (HC.out _) HL2.out (by omega) (by omega) ?_; intro v1 w2 hown1 hbel1)
    go_ret
    rw [Nat.zero_add, List.nil_append] at hown1
    obtain ⟨A', c', rfl⟩ := owns_form hown1
    exact ⟨A', c', rfl, OwnE.of hown1, b0.trans hbel1⟩
end Go.Proofs.YtndnfhhdflmfcaaGreat

/-
slices.SortStableFunc on events, by their times (at most 19 of them: one insertion sort, by the library's contract).
-/
namespace Go.Proofs.YtndnfhhdflmfcaaGreat
open Go Go.RowKit Ieee

/-- What the library's contract asks of the program: the body of insertionSortCmpFunc, its types. -/
def sortRen : Go.Shelf.Ren := ⟨fun _ => 121, fun t => if t = 0 then 0 else if t = 3 then 3 else if t = 4 then 4 else if t = 22 then 25 else if t = 24 then 71 else 132, fun g => g⟩
set_option maxRecDepth 100000 in
theorem sort_lays : SlLaysF0.n20 Tryz.prog sortRen := {
  mixed := by kernel_rfl
  f20 := ⟨_, by decide, Tryz.func121⟩
  t0 := by kernel_rfl
  a0 := fun _ => by kernel_rfl
  z0 := fun _ => by kernel_rfl
  v0 := fun _ => by kernel_rfl
  t3 := by kernel_rfl
  a3 := fun _ => by kernel_rfl
  z3 := fun _ => by kernel_rfl
  v3 := fun _ => by kernel_rfl
  t4 := by kernel_rfl
  a4 := fun _ => by kernel_rfl
  z4 := fun _ => by kernel_rfl
  v4 := fun _ => by kernel_rfl
  t22 := by kernel_rfl
  a22 := fun _ => by kernel_rfl
  z22 := fun _ => by kernel_rfl
  v22 := fun _ => by kernel_rfl
  t25 := by kernel_rfl
  a25 := fun _ => by kernel_rfl
  z25 := fun _ => by kernel_rfl
  v25 := fun _ => by kernel_rfl }
/-- The comparison, as int reckons it. -/
def cmpE (x y : Ev) : Int := wrap64 (x.1 - y.1)
set_option maxHeartbeats 400000 in
theorem cmpEv_any (x y : Ev) (W : World) :
    Calls Tryz.prog 94 #[.agg #[.int .i64 x.1, .int .i64 x.2.1, .int .i64 x.2.2.1, .int .i64 x.2.2.2.1, .int .i64 x.2.2.2.2.1, .float .f32 x.2.2.2.2.2], .agg #[.int .i64 y.1, .int .i64 y.2.1, .int .i64 y.2.2.1, .int .i64 y.2.2.2.1, .int .i64 y.2.2.2.2.1, .float .f32 y.2.2.2.2.2]] W
      fun r w' => r = .returned (.int .i64 (cmpE x y)) ∧ ∃ q os', w' = Sort.grow (W.drewN q) os' := by
  obtain ⟨a1, a2, a3, a4, a5, a6⟩ := x
  obtain ⟨b1, b2, b3, b4, b5, b6⟩ := y
  simp only
  go_enter Tryz.func94, Tryz.ntmps94
  go_wp2_with fail
  go_ret
  exact ⟨rfl, 0, _, by rw [Sort.alloc_eq_grow, Sort.alloc_eq_grow, Sort.grow_grow]; rfl⟩
theorem cmp_lays (blk off size : Nat) (w : World) : CmpLays Tryz.prog 94 #[] evV 6 cmpE blk off size w := fun _ _ _ _ x y => cmpEv_any x y _

/-- Times that a difference tells apart. -/
def Timed (L : List Ev) : Prop := ∀ i, i < L.length → 0 ≤ (eAt L i).1 ∧ (eAt L i).1 ≤ 2000
theorem Timed.swap {L : List Ev} (h : Timed L) {j : Nat} (h0 : 0 < j) (hj : j < L.length) : Timed (swapE L j) := fun i hi => by
  rw [swapE_len] at hi
  rw [eAt_swap h0 hj]
  split
  · exact h j hj
  · split
    · exact h (j - 1) (by omega)
    · exact h i hi
theorem Timed.sink {L : List Ev} (h : Timed L) {j : Nat} (hj : j < L.length) : Timed (sink L j) := by
  induction j generalizing L with
  | zero => exact h
  | succ j ih =>
    unfold Go.Proofs.YtndnfhhdflmfcaaGreat.sink
    split
    · exact ih (h.swap (by omega) hj) (by rw [swapE_len]; omega)
    · exact h
theorem ltE {x y : Ev} (h1 : 0 ≤ x.1) (h2 : x.1 ≤ 2000) (h3 : 0 ≤ y.1) (h4 : y.1 ≤ 2000) : ltOf cmpE x y = decide (x.1 < y.1) := by
  unfold ltOf cmpE wrap64
  congr 1
  apply propext
  constructor <;> intro h <;> omega
theorem toArray_at (L : List Ev) (i : Nat) : L.toArray[i]! = eAt L i := by
  unfold eAt
  simp [List.getD]
  rfl
theorem insInner_sink (L : List Ev) (j : Nat) (h : Timed L) (hj : j < L.length) : Sort.insInner (ltOf cmpE) 0 j L.toArray = (sink L j).toArray := by
  induction j generalizing L with
  | zero => rfl
  | succ j ih =>
    unfold Sort.insInner sink
    rw [toArray_at, toArray_at, ltE (h _ hj).1 (h _ hj).2 (h j (by omega)).1 (h j (by omega)).2]
    have e : Sort.swp L.toArray (j + 1) j = (swapE L (j + 1)).toArray := by
      unfold Sort.swp swapE
      rw [toArray_at, toArray_at]
      simp
    by_cases hlt : (eAt L (j + 1)).1 < (eAt L j).1
    · rw [if_pos hlt, if_pos (by simp [hlt]), e]
      exact ih (swapE L (j + 1)) (h.swap (by omega) hj) (by rw [swapE_len]; omega)
    · rw [if_neg hlt, if_neg (by simp [hlt])]
theorem insOuter_isort (d : Nat) (L : List Ev) (i : Nat) (h : Timed L) (hi : i + d = L.length) : Sort.insOuter (ltOf cmpE) 0 L.length i L.toArray = (isortE L i d).toArray := by
  induction d generalizing L i with
  | zero =>
    rw [Sort.insOuter, if_neg (by omega)]; rfl
  | succ d ih =>
    rw [Sort.insOuter, if_pos (by omega), insInner_sink L i h (by omega)]
    unfold isortE
    have e : L.length = (sink L i).length := (sink_len L i).symm
    rw [e]
    exact ih (sink L i) (i + 1) (h.sink (by omega)) (by rw [sink_len]; omega)
theorem insertionSort_E (L : List Ev) (h : Timed L) : Sort.insertionSort (ltOf cmpE) L.toArray 0 L.length = (sortedE L).toArray := by
  unfold Sort.insertionSort sortedE
  rcases Nat.eq_zero_or_pos L.length with h0 | h0
  · have : L = [] := List.eq_nil_of_length_eq_zero h0
    subst this
    rw [Sort.insOuter, if_neg (by simp)]; rfl
  · exact insOuter_isort (L.length - 1) L 1 h (by omega)

theorem flatE_get (L : List Ev) (j : Nat) (h : j < L.length * 6) : (flatE L)[j]? = some ((evV (eAt L (j / 6)))[j % 6]!) := by
  obtain ⟨i, r, hr, rfl⟩ : ∃ i r, r < 6 ∧ j = i * 6 + r := ⟨j / 6, j % 6, by omega, by omega⟩
  have hi : i < L.length := by omega
  have e1 : (i * 6 + r) / 6 = i := by omega
  have e2 : (i * 6 + r) % 6 = r := by omega
  rw [e1, e2]
  obtain ⟨f0, f1, f2, f3, f4, f5⟩ := flatE_at hi
  match r, hr with
  | 0, _ => exact f0
  | 1, _ => exact f1
  | 2, _ => exact f2
  | 3, _ => exact f3
  | 4, _ => exact f4
  | 5, _ => exact f5
theorem OwnE.holds {w : World} {lo hi g c : Nat} {L : List Ev} (h : OwnE w lo hi (some ⟨g, 0, none⟩) c L) : Sort.HoldsK evV 6 w g 0 L.toArray := by
  intro j hj
  have hj' : j < L.length * 6 := by simpa using hj
  have e : (Sort.flatK evV 6 L.toArray)[j]! = (evV (eAt L (j / 6)))[j % 6]! := by
    rw [Sort.get_flatK _ _ _ _ (by simpa using hj'), toArray_at]
  obtain ⟨cs, hcs⟩ : ∃ cs, w.heap[g]? = some (.cells cs 71 (0, 0)) := by
    obtain ⟨G, hG, _, _, _, _, _, cs, hcs⟩ := h.block (by omega)
    injection hG with hG
    injection hG with hG
    subst hG
    exact ⟨cs, hcs⟩
  refine ⟨?_, free_cells hcs _⟩
  rw [Nat.zero_add, h.flat j _ (flatE_get L j hj')]
  exact congrArg some e.symm
/-- The block behind the sort. -/
theorem sorted_block {w : World} {g n : Nat} {cs : Array Value} {ty : TypeId} {dk : Array Ev} {os : Array Obj} (hcs : w.heap[g]? = some (.cells cs ty (0, 0))) :
    ∃ cs' : Array Value, (sortWorldK evV 6 w g 0 n dk os).heap[g]? = some (.cells cs' ty (0, 0)) ∧ cs'.size = cs.size := by
  have hg := lt_of_some hcs
  refine ⟨Sort.putCells id 0 (Sort.flatK evV 6 dk) cs, ?_, by simp [Sort.putCells]⟩
  unfold sortWorldK
  rw [Sort.heap_grow_old _ _ (by simp [Sort.putRowK, Sort.putRow, Sort.mapBlock, Sort.ahead]; exact hg)]
  simp [Sort.putRowK, Sort.putRow, Sort.mapBlock, Sort.ahead, Array.getElem?_modify, hcs, Sort.onCells]
theorem sorted_grown {w : World} {g n : Nat} {dk : Array Ev} {os : Array Obj} : w.grownBy (sortWorldK evV 6 w g 0 n dk os) (some g) := by
  refine ⟨rfl, rfl, rfl, ?_, fun i hi hn => ?_⟩
  · simp [sortWorldK, Sort.grow, Sort.putRowK, Sort.putRow, Sort.mapBlock, Sort.ahead]
  · unfold sortWorldK
    rw [Sort.heap_grow_old _ _ (by simp [Sort.putRowK, Sort.putRow, Sort.mapBlock, Sort.ahead]; exact hi)]
    have hne : g ≠ i := fun e => hn (by rw [e])
    simp [Sort.putRowK, Sort.putRow, Sort.mapBlock, Sort.ahead, Array.getElem?_modify, hne]
theorem OwnE.sorted {w : World} {lo hi g c n : Nat} {L L' : List Ev} {os : Array Obj} (h : OwnE w lo hi (some ⟨g, 0, none⟩) c L) (hl : L'.length = L.length) (hg : g < w.heap.size) :
    OwnE (sortWorldK evV 6 w g 0 n L'.toArray os) lo hi (some ⟨g, 0, none⟩) c L' := by
  have hH := holdsK_sortWorldK_c evV 6 w g 0 L.toArray L'.toArray n os h.holds hg (by simp [hl])
  obtain ⟨⟨h1, h2⟩, h3⟩ := h
  unfold OwnE
  rw [hl]
  refine ⟨⟨by rw [flatE_len, hl], ?_⟩, h3⟩
  rcases h2 with ⟨h2, _⟩ | ⟨G, cap, cur, e1, e2, e3, e4, e5, e6, e7⟩
  · cases h2
  · have eG : g = G := by injection e1 with q1 _ _; injection q1 with q1; injection q1
    subst eG
    obtain ⟨cs', p1, p2⟩ := sorted_block (n := n) (dk := L'.toArray) (os := os) e3
    refine .inr ⟨g, cap, cs', e1, e2, p1, e4, e5, by rw [p2]; exact e6, ?_⟩
    refine List.ext_getElem? fun j => ?_
    rw [List.getElem?_take]
    by_cases hj : j < L.length * 6
    · rw [if_pos hj, flatE_get L' j (by omega)]
      have hc := (hH j (by simp; omega)).1
      rw [Nat.zero_add, cell_of_row _ g j _ _ (0, 0) p1] at hc
      rw [Sort.get_flatK _ _ _ _ (by simp; omega), toArray_at] at hc
      simpa using hc
    · rw [if_neg hj, List.getElem?_eq_none (by rw [flatE_len]; omega)]

set_option maxRecDepth 100000 in
theorem insertion_any (g lo hi c : Nat) (L : List Ev) (w : World) (h : OwnE w lo hi (some ⟨g, 0, none⟩) c L) (ht : Timed L) (hl : L.length ≤ 60) (hg : g < w.heap.size) :
    Calls Tryz.prog 121 #[.slice (some ⟨g, 0, none⟩) L.length c, .int .i64 0, .int .i64 L.length, .func (.func 94) #[] #[]] w
      fun r w' => r = .returned (.tuple #[]) ∧ OwnE w' lo hi (some ⟨g, 0, none⟩) c (sortedE L) ∧ w.grownBy w' (some g) := by
  have eg : ∀ args w, (callFunc 94 args).run Tryz.prog w = .ok (.enter 94 args) w := enters_of Tryz.func94 (by kernel_rfl) rfl
  have hcon := AnyQ.insertionSortCmpFunc sort_lays 6 (fun _ => by kernel_rfl) (fun _ => by kernel_rfl) evV (fun _ => rfl) (fun x v hv => evV_one x v hv) cmpE 94 #[] g 0 c 0 L.toArray.size L.toArray w eg (cmp_lays g 0 L.toArray.size w) h.holds hg (by omega) (Nat.le_refl _) (by simp; omega)
  have hsz : L.toArray.size = L.length := by simp
  rw [hsz, insertionSort_E L ht] at hcon
  refine hcon.mono ?_
  rintro r w' ⟨rfl, n, os, rfl⟩
  exact ⟨rfl, h.sorted (sortedE_len L) hg, sorted_grown⟩

set_option maxRecDepth 100000 in
set_option maxHeartbeats 800000 in
theorem stable_any (g lo hi c : Nat) (L : List Ev) (w : World) (h : OwnE w lo hi (some ⟨g, 0, none⟩) c L) (ht : Timed L) (hl : L.length ≤ 19) (hg : g < w.heap.size) :
    Calls Tryz.prog 110 #[.slice (some ⟨g, 0, none⟩) L.length c, .int .i64 L.length, .func (.func 94) #[] #[]] w
      fun r w' => r = .returned (.tuple #[]) ∧ OwnE w' lo hi (some ⟨g, 0, none⟩) c (sortedE L) ∧ w.grownBy w' (some g) := by
  have hcon := Lib.hid (insertion_any g lo hi c L w h ht (by omega) hg)
  have l1 : (L.length : Int) < 20 := by omega
  have l2 : (L.length : Int) ≤ 20 := by omega
  clear h ht
  go_enter Tryz.func110, Tryz.ntmps110
  go_wp2_with fail
  refine wp_loop_rounds 1 ?_
  rw [rounds_succ]
  go_wp2_with fail
  refine hcon.out.mono ?_
  rintro r w' ⟨rfl, ho, hgr⟩
  have HO := Lib.hid ho
  have HG := Lib.hid hgr
  clear ho hgr
  go_wp2_with fail
  refine wp_loop_rounds 1 ?_
  rw [rounds_succ]
  go_wp2_with fail
  go_end0
  exact ⟨rfl, HO.out, HG.out⟩

set_option maxRecDepth 100000 in
set_option maxHeartbeats 400000 in
theorem sortStable_any (g lo hi c : Nat) (L : List Ev) (w : World) (h : OwnE w lo hi (some ⟨g, 0, none⟩) c L) (ht : Timed L) (hl : L.length ≤ 19) (hg : g < w.heap.size) :
    Calls Tryz.prog 93 #[.slice (some ⟨g, 0, none⟩) L.length c, .func (.func 94) #[] #[]] w
      fun r w' => r = .returned (.tuple #[]) ∧ OwnE w' lo hi (some ⟨g, 0, none⟩) c (sortedE L) ∧ w.grownBy w' (some g) := by
  have hcon := Lib.hid (stable_any g lo hi c L w h ht hl hg)
  clear h ht
  go_enter Tryz.func93, Tryz.ntmps93
  go_wp2_with fail
  refine hcon.out.mono ?_
  rintro r w' ⟨rfl, ho, hgr⟩
  have HO := Lib.hid ho
  have HG := Lib.hid hgr
  clear ho hgr
  go_wp2_with fail
  go_end0
  exact ⟨rfl, HO.out, HG.out⟩
end Go.Proofs.YtndnfhhdflmfcaaGreat

/-
impl.ordered: the events of a valid score, sorted.
-/
namespace Go.Proofs.YtndnfhhdflmfcaaGreat
open Go Go.RowKit Ieee

set_option maxRecDepth 100000 in
set_option maxHeartbeats 400000 in
theorem insertion_none (A : Option Addr) (c : Nat) (w : World) :
    Calls Tryz.prog 121 #[.slice A 0 c, .int .i64 0, .int .i64 0, .func (.func 94) #[] #[]] w fun r w' => r = .returned (.tuple #[]) ∧ w = w' := by
  go_enter Tryz.func121, Tryz.ntmps121
  go_wp2_with fail
  refine wp_loop_rounds 1 ?_
  rw [rounds_succ]
  go_wp2_with fail
  go_end0
  exact ⟨rfl, rfl⟩
set_option maxRecDepth 100000 in
set_option maxHeartbeats 400000 in
theorem stable_none (A : Option Addr) (c : Nat) (w : World) :
    Calls Tryz.prog 110 #[.slice A 0 c, .int .i64 0, .func (.func 94) #[] #[]] w fun r w' => r = .returned (.tuple #[]) ∧ w = w' := by
  go_enter Tryz.func110, Tryz.ntmps110
  go_wp2_with fail
  refine wp_loop_rounds 1 ?_
  rw [rounds_succ]
  go_wp2_with fail
  refine (insertion_none A c _).mono ?_
  rintro r w' ⟨rfl, rfl⟩
  go_wp2_with fail
  refine wp_loop_rounds 1 ?_
  rw [rounds_succ]
  go_wp2_with fail
  go_end0
  exact ⟨rfl, rfl⟩
set_option maxRecDepth 100000 in
set_option maxHeartbeats 400000 in
theorem sortStable_none (A : Option Addr) (c : Nat) (w : World) :
    Calls Tryz.prog 93 #[.slice A 0 c, .func (.func 94) #[] #[]] w fun r w' => r = .returned (.tuple #[]) ∧ w = w' := by
  go_enter Tryz.func93, Tryz.ntmps93
  go_wp2_with fail
  refine (stable_none A c _).mono ?_
  rintro r w' ⟨rfl, rfl⟩
  go_wp2_with fail
  go_end0
  exact ⟨rfl, rfl⟩
theorem EvsOk.timed {L : Int} {nb n : Nat} {evs : List Ev} (h : EvsOk L nb evs n) (hL : L ≤ 2000) : Timed evs := fun i hi => by
  have := h.at_ hi
  exact ⟨this.a0, Int.le_trans this.a1 hL⟩
/-- The sort, with events or without. -/
theorem sortAll_any (A : Option Addr) (lo hi c : Nat) (L : List Ev) (w : World) (h : OwnE w lo hi A c L) (ht : Timed L) (hl : L.length ≤ 19) :
    Calls Tryz.prog 93 #[.slice A L.length c, .func (.func 94) #[] #[]] w
      fun r w' => r = .returned (.tuple #[]) ∧ OwnE w' lo hi A c (sortedE L) ∧ Below lo w w' := by
  rcases Nat.eq_zero_or_pos L.length with h0 | h0
  · have e : L = [] := List.eq_nil_of_length_eq_zero h0
    subst e
    refine (sortStable_none A c w).mono ?_
    rintro r w' ⟨rfl, rfl⟩
    exact ⟨rfl, h, Below.refl _ _⟩
  · obtain ⟨g, rfl, h1, h2, h3, _⟩ := h.block h0
    refine (sortStable_any g lo hi c L w h ht hl h3).mono ?_
    rintro r w' ⟨rfl, ho, hg⟩
    exact ⟨rfl, ho, hg.os, hg.tape, hg.output, hg.size, fun k hk => hg.block k (by omega) (by intro e; injection e with e; omega)⟩
def OrdP (evs : List Ev) (w : World) (r : Ending) (w' : World) : Prop :=
  ∃ (A' : Option Addr) (c' : Nat), r = .returned (.slice A' (sortedE evs).length c') ∧ OwnE w' w.heap.size w'.heap.size A' c' (sortedE evs) ∧ Below w.heap.size w w'
set_option maxRecDepth 100000 in
set_option maxHeartbeats 400000 in
theorem ordered_any (s : Sh) (B : Option Addr) (cb : Nat) (bs : List Bd) (E : Option Addr) (ce lo hi : Nat) (evs : List Ev) (w : World) (h : OwnE w lo hi E ce evs) (hh : hi ≤ w.heap.size) (ht : Timed evs) (hl : evs.length ≤ 19) :
    Calls Tryz.prog 68 #[.agg #[.int .i64 s.1, .int .i64 s.2.1, .float .f32 s.2.2.1, .float .f32 s.2.2.2, .slice B bs.length cb, .slice E evs.length ce]] w (OrdP evs w) := by
  obtain ⟨len, vo, c, r⟩ := s
  have HB : Hid (Below w.heap.size w (w.alloc (.cells #[.int .i64 len, .int .i64 vo, .float .f32 c, .float .f32 r, .slice B bs.length cb, .slice E evs.length ce] 27))) := (Below.refl w.heap.size w).alloc (Nat.le_refl _) _
  have H : Hid (OwnE (w.alloc (.cells #[.int .i64 len, .int .i64 vo, .float .f32 c, .float .f32 r, .slice B bs.length cb, .slice E evs.length ce] 27)) lo hi E ce evs) := h.below HB.out hh
  have HT := Lib.hid ht
  clear h ht
  go_enter Tryz.func68, Tryz.ntmps68
  go_wp2_with fail
  generalize w.alloc (.cells #[.int .i64 len, .int .i64 vo, .float .f32 c, .float .f32 r, .slice B bs.length cb, .slice E evs.length ce] 27) = W at *
  refine (cloneE_any E ce lo hi evs W H.out (by omega)).mono ?_
  intro q W2 hp
  unfold CloneEP at hp
  obtain ⟨A', c', rfl, ho, hb⟩ := hp
  have HB2 := Lib.hid (HB.out.trans (hb.mono HB.out.size))
  have HO := Lib.hid ho
  have hz := HB.out.size
  clear ho hb
  go_wp2_with fail
  refine (sortAll_any A' W.heap.size W2.heap.size c' evs W2 HO.out HT.out hl).mono ?_
  rintro q W3 ⟨rfl, ho, hb⟩
  have HB3 := Lib.hid (HB2.out.trans (hb.mono hz))
  have HO3 := Lib.hid (And.intro ho hb.size)
  clear ho hb
  go_wp2_with fail
  go_ret
  have e := sortedE_len evs
  exact ⟨A', c', by rw [e]; rfl, ⟨owns_lower HO3.out.1.1 hz, fun k hk => Nat.lt_of_lt_of_le (HO3.out.1.2 k hk) HO3.out.2⟩, HB3.out⟩
end Go.Proofs.YtndnfhhdflmfcaaGreat

/-
Voices and what happens to them. (Plain.)
-/
namespace Go.Proofs.YtndnfhhdflmfcaaGreat
open Go Go.RowKit Ieee

/-- Bounds of states: 2^27 times (5/2)^i. -/
def pw5 (i : Nat) : Rat := 2 ^ 27 * ((5 ^ i : Nat) : Rat) / ((2 ^ i : Nat) : Rat)
theorem two_pos (i : Nat) : (0 : Rat) < ((2 ^ i : Nat) : Rat) := by
  have h : 0 < 2 ^ i := Nat.pow_pos (by decide)
  have := Rat.natCast_lt_natCast.2 h
  simpa using this
theorem pw5_succ (i : Nat) : pw5 i * (5 / 2) = pw5 (i + 1) := by
  unfold pw5
  have h := two_pos i
  rw [Nat.pow_succ, Nat.pow_succ, Rat.natCast_mul, Rat.natCast_mul]
  have e5 : ((5 : Nat) : Rat) = 5 := by simp
  have e2 : ((2 : Nat) : Rat) = 2 := by simp
  rw [e5, e2]
  have hne : ((2 ^ i : Nat) : Rat) ≠ 0 := by intro e; rw [e] at h; grind
  generalize ((2 ^ i : Nat) : Rat) = b at *
  generalize ((5 ^ i : Nat) : Rat) = a at *
  grind
theorem pw5_lo (i : Nat) : 2 ^ 27 ≤ pw5 i := by
  induction i with
  | zero => unfold pw5; simp; grind
  | succ i ih => rw [← pw5_succ]; grind
theorem pw5_mono {i j : Nat} (h : i ≤ j) : pw5 i ≤ pw5 j := by
  induction j with
  | zero => have : i = 0 := by omega
            subst this; exact Rat.le_refl
  | succ j ih =>
    rcases Nat.lt_or_ge i (j + 1) with h1 | h1
    · have h2 := ih (by omega)
      rw [← pw5_succ]
      have := pw5_lo j
      grind
    · have : i = j + 1 := by omega
      subst this; exact Rat.le_refl
theorem pw5_61 : pw5 61 ≤ 2 ^ 112 := by
  unfold pw5
  have h : 2 ^ 27 * 5 ^ 61 ≤ 2 ^ 112 * 2 ^ 61 := by decide
  have h2 := Rat.natCast_le_natCast.2 h
  rw [Rat.natCast_mul, Rat.natCast_mul] at h2
  have e1 : ((2 ^ 27 : Nat) : Rat) = 2 ^ 27 := by simp; grind
  have e2 : ((2 ^ 112 : Nat) : Rat) = 2 ^ 112 := by simp; grind
  rw [e1, e2] at h2
  have h3 := two_pos 61
  rw [Rat.div_def]
  generalize ((2 ^ 61 : Nat) : Rat) = b at *
  generalize ((5 ^ 61 : Nat) : Rat) = a at *
  have h4 := Rat.mul_le_mul_of_nonneg_right h2 (Rat.le_of_lt (Rat.inv_pos.2 h3))
  have h5 : b * b⁻¹ = 1 := by rw [Rat.mul_inv_cancel]; intro e; rw [e] at h3; grind
  grind
theorem pw5_hi {i : Nat} (h : i ≤ 61) : pw5 i ≤ 2 ^ 112 := Rat.le_trans (pw5_mono h) pw5_61

/-- A sum of a part and a gain's part times an input of at most 2^14. -/
theorem plus_gain5 {s g x : Nat} {L : Rat} (fs : fin .f32 s) (fg : fin .f32 g) (fx : fin .f32 x) (hs : ab (fv .f32 s) ≤ L * (9 / 4)) (hg : ab (fv .f32 g) ≤ 1024) (hx : ab (fv .f32 x) ≤ 2 ^ 14) (hL : 2 ^ 27 ≤ L) (hL2 : L ≤ 2 ^ 112) :
    fin .f32 (fo .mul .f32 g x) ∧ fin .f32 (fo .add .f32 s (fo .mul .f32 g x)) ∧ ab (fv .f32 (fo .add .f32 s (fo .mul .f32 g x))) ≤ L * (5 / 2) := by
  obtain ⟨u1, u2, u3⟩ := consts32
  have ht2 := top32
  have n1 := ab_nonneg (fv .f32 g)
  have n2 := ab_nonneg (fv .f32 x)
  have h1 := Rat.mul_le_mul_of_nonneg_left hx n1
  have h2 : ab (fv .f32 g * fv .f32 x) ≤ 2 ^ 24 := by rw [ab_mul]; grind
  have hm := mul_spec fg fx (by grind)
  have e := hm.2.1
  rw [u1] at e
  have t := ab_tri (fv .f32 (fo .mul .f32 g x)) (fv .f32 g * fv .f32 x)
  have h3 : ab (fv .f32 (fo .mul .f32 g x)) ≤ 2 ^ 24 + 2 := by grind
  have g1 := ab_add (fv .f32 s) (fv .f32 (fo .mul .f32 g x))
  have ha := add_spec fs hm.1 (by grind)
  have e2 := ha.2.1
  rw [u1] at e2
  have t2 := ab_tri (fv .f32 (fo .add .f32 s (fo .mul .f32 g x))) (fv .f32 s + fv .f32 (fo .mul .f32 g x))
  exact ⟨hm.1, ha.1, by grind⟩
theorem step_ok5 {m : MW} {s : Nat × Nat} {x : Nat} {L : Rat} (hm : ModeOk m.1 m.2.1 m.2.2.1 m.2.2.2) (hs : StOk L s) (fx : fin .f32 x) (hx : ab (fv .f32 x) ≤ 2 ^ 14) (hL : 2 ^ 27 ≤ L) (hL2 : L ≤ 2 ^ 112) : StOk (L * (5 / 2)) (stepW m s x) ∧ StepOk m s x := by
  have hsq := hm.square
  have q1 := sq_nonneg (fv .f32 m.1)
  have q2 := sq_nonneg (fv .f32 m.2.1)
  have p1 : ab (fv .f32 m.1) ≤ 1 + 1 / 2 ^ 40 := ab_le_of_sq (by grind) (by grind)
  have p2 : ab (fv .f32 m.2.1) ≤ 1 + 1 / 2 ^ 40 := ab_le_of_sq (by grind) (by grind)
  obtain ⟨M, n1, n2, c1, c2⟩ := wide_mild hs.f1 hs.f2 (fin_of_wid hm.fa) (fin_of_wid hm.fb) hs.b1 hs.b2 (by grind) hL2 p1 p2
  obtain ⟨g1, a1, d1⟩ := plus_gain5 n1 (fin_of_wid hm.fc) fx c1 (gain_le hm.fc hm.gain.1) hx hL hL2
  obtain ⟨g2, a2, d2⟩ := plus_gain5 n2 (fin_of_wid hm.fd) fx c2 (gain_le hm.fd hm.gain.2) hx hL hL2
  exact ⟨⟨a1, a2, fo_lt _ _ _ _, fo_lt _ _ _ _, d1, d2⟩, ⟨M, hs.w1, hs.w2, g1, g2, a1, a2⟩⟩

/-- A voice: its body, modes, states, what is left of its input, its track. -/
structure Vp where
  body : Int
  ms : List MW
  ss : List (Nat × Nat)
  xs : List Nat
  tr : Int
def Vp.x (v : Vp) : Nat := inAt v.xs 0
def Vp.out (v : Vp) : Nat := outAt v.ms v.ss v.x v.ms.length
def Vp.next (v : Vp) : Vp := { v with ss := nextS v.ms v.ss v.x, xs := v.xs.drop 1 }
def Vp.damp (f : Nat) (v : Vp) : Vp := { v with ms := v.ms.map (dampM f) }
/-- A shape times a force. -/
def forcedW (kind n f : Nat) : List Nat := (List.range n).map fun i => fo .mul .f32 (shapeW kind n i) f
def Vp.new (ms : List MW) (e : Ev) (tr : Int) : Vp := ⟨e.2.2.1, ms, List.replicate ms.length (0, 0), forcedW e.2.2.2.1.toNat e.2.2.2.2.1.toNat e.2.2.2.2.2, tr⟩
/-- What the walk needs of a voice whose states are at most pw5 t. -/
structure VpOk (t : Nat) (v : Vp) : Prop where
  ms : ModesOk v.ms
  lm : v.ms.length ≤ 4
  ls : v.ss.length = v.ms.length
  st : ∀ i, i < v.ms.length → StOk (pw5 t) (sAt v.ss i)
  lx : v.xs.length ≤ 64
  xs : ∀ i, i < v.xs.length → fin .f32 (v.xs.getD i 0) ∧ ab (fv .f32 (v.xs.getD i 0)) ≤ 2 ^ 14
theorem VpOk.x {t : Nat} {v : Vp} (h : VpOk t v) : fin .f32 v.x ∧ ab (fv .f32 v.x) ≤ 2 ^ 14 := by
  unfold Vp.x inAt
  split
  · exact h.xs 0 ‹_›
  · obtain ⟨z1, z2⟩ := zero_fin .f32
    exact ⟨z1, by rw [z2, ab_of_nonneg Rat.le_refl]; grind⟩
theorem VpOk.step {t : Nat} {v : Vp} (h : VpOk t v) (ht : t ≤ 61) : ∀ i, i < v.ms.length → StepOk (mAt v.ms i) (sAt v.ss i) v.x := fun i hi =>
  (step_ok5 (h.ms.at_ hi) (h.st i hi) h.x.1 h.x.2 (pw5_lo t) (pw5_hi ht)).2
theorem VpOk.next {t : Nat} {v : Vp} (h : VpOk t v) (ht : t ≤ 61) : VpOk (t + 1) v.next := by
  refine ⟨h.ms, h.lm, by simp [Vp.next, nextS, h.ls], fun i hi => ?_, by have := h.lx; simp [Vp.next]; omega, fun i hi => ?_⟩
  · show StOk _ (sAt (nextS v.ms v.ss v.x) i)
    rw [nextS_at (by rw [h.ls]; exact hi), ← pw5_succ]
    exact (step_ok5 (h.ms.at_ hi) (h.st i hi) h.x.1 h.x.2 (pw5_lo t) (pw5_hi ht)).1
  · have e : v.next.xs.getD i 0 = v.xs.getD (1 + i) 0 := by simp [Vp.next, List.getD, List.getElem?_drop, Nat.add_comm]
    rw [e]
    exact h.xs (1 + i) (by simp [Vp.next] at hi; omega)
theorem VpOk.mono {t t' : Nat} {v : Vp} (h : VpOk t v) (ht : t ≤ t') : VpOk t' v :=
  ⟨h.ms, h.lm, h.ls, fun i hi => ⟨(h.st i hi).f1, (h.st i hi).f2, (h.st i hi).w1, (h.st i hi).w2, Rat.le_trans (h.st i hi).b1 (pw5_mono ht), Rat.le_trans (h.st i hi).b2 (pw5_mono ht)⟩, h.lx, h.xs⟩
theorem VpOk.damp {t f : Nat} {v : Vp} (h : VpOk t v) (hf : FacOk f) : VpOk t (v.damp f) := by
  refine ⟨damps_ok h.ms hf, by simpa [Vp.damp] using h.lm, by simpa [Vp.damp] using h.ls, fun i hi => h.st i (by simpa [Vp.damp] using hi), h.lx, h.xs⟩
/-- Forced shapes. -/
theorem forced_val {kind n i f : Nat} (hk : kind < 3) (h1 : 1 ≤ n) (h2 : n ≤ 64) (hi : i < n) (hf : fin .f32 f) (hb : ab (fv .f32 f) ≤ 16000) : fin .f32 (fo .mul .f32 (shapeW kind n i) f) ∧ ab (fv .f32 (fo .mul .f32 (shapeW kind n i) f)) ≤ 2 ^ 14 := by
  obtain ⟨s1, s2, s3⟩ := shape_unit hk h1 h2 hi
  obtain ⟨u1, u2, u3⟩ := consts32
  have ht2 := top32
  have n1 := ab_nonneg (fv .f32 f)
  have hs : ab (fv .f32 (shapeW kind n i)) ≤ 1 := by rw [ab_of_nonneg s2]; exact s3
  have p := Rat.mul_le_mul_of_nonneg_right hs n1
  have hp : ab (fv .f32 (shapeW kind n i) * fv .f32 f) ≤ 16000 := by rw [ab_mul]; grind
  have hm := mul_spec s1 hf (by grind)
  have e := hm.2.1
  rw [u1] at e
  have t := ab_tri (fv .f32 (fo .mul .f32 (shapeW kind n i) f)) (fv .f32 (shapeW kind n i) * fv .f32 f)
  exact ⟨hm.1, by grind⟩
theorem forcedW_len (kind n f : Nat) : (forcedW kind n f).length = n := by simp [forcedW]
theorem forcedW_at {kind n f i : Nat} (hi : i < n) : (forcedW kind n f).getD i 0 = fo .mul .f32 (shapeW kind n i) f := by
  simp [forcedW, List.getD, hi]
/-- What impl.forced gives for a shape is this, to the bit. -/
theorem forced_is {kind n f : Nat} {ts ys : List Nat} (hk : kind < 3) (h1 : 1 ≤ n) (h2 : n ≤ 64) (hf : fin .f32 f) (hb : ab (fv .f32 f) ≤ 16000) (ht : ShapeL kind n ts) (h : ForcedL ts f ys ts.length) : ys = forcedW kind n f := by
  have hl := ht.1
  refine List.ext_getElem (by rw [h.1, forcedW_len, hl]) fun i i1 i2 => ?_
  have hi : i < n := by rw [forcedW_len] at i2; exact i2
  have e := (h.2 i (by rw [hl]; exact hi)).1
  rw [ht.2 i hi] at e
  have e2 := nrm_fin_eq e (forced_val hk h1 h2 hi hf hb).1
  have e3 : ys.getD i 0 = ys[i] := by simp [List.getD, List.getElem?_eq_getElem i1]
  have e4 : (forcedW kind n f).getD i 0 = (forcedW kind n f)[i] := by simp [List.getD, List.getElem?_eq_getElem i2]
  rw [← e3, e2, ← e4, forcedW_at hi]
theorem VpOk.new {ms : List MW} {e : Ev} {L nb : Int} {tr : Int} {t : Nat} (hm : ModesOk ms) (hl : ms.length ≤ 4) (he : EvOk L nb e) (hk : e.2.1 = 1) : VpOk t (Vp.new ms e tr) := by
  obtain ⟨hs, hc⟩ : (0 ≤ e.2.2.2.1 ∧ e.2.2.2.1 < 3) ∧ 1 ≤ e.2.2.2.2.1 ∧ e.2.2.2.2.1 ≤ 9 := by
    rcases he.kind with ⟨_, h⟩ | ⟨h, _⟩ | ⟨h, _⟩
    · exact h
    · omega
    · omega
  refine ⟨hm, hl, by simp [Vp.new], fun i hi => ?_, by simp [Vp.new, forcedW_len]; omega, fun i hi => ?_⟩
  · have e : sAt (Vp.new ms e tr).ss i = (0, 0) := by
      have hi' : i < ms.length := hi
      simp [Vp.new, sAt, List.getD, hi']
    rw [e]
    exact zero_ok (by have := pw5_lo t; grind)
  · have hi' : i < e.2.2.2.2.1.toNat := by simpa [Vp.new, forcedW_len] using hi
    have ex : (Vp.new ms e tr).xs.getD i 0 = fo .mul .f32 (shapeW e.2.2.2.1.toNat e.2.2.2.2.1.toNat i) e.2.2.2.2.2 := forcedW_at hi'
    rw [ex]
    exact forced_val (kind := e.2.2.2.1.toNat) (n := e.2.2.2.2.1.toNat) (by omega) (by omega) (by omega) hi' he.f he.big

/-- The voices, and how many tracks have begun. -/
structure Pl where
  vs : List Vp
  begun : Int
def Pl.happen (bm : Int → List MW) (most : Int) (p : Pl) (e : Ev) : Pl :=
  if e.2.1 = 1 then ⟨(if most ≤ (p.vs.length : Int) then p.vs.drop 1 else p.vs) ++ [Vp.new (bm e.2.2.1) e p.begun], p.begun + 1⟩
  else if e.2.1 = 2 then ⟨p.vs.map fun v => if v.body = e.2.2.1 then v.damp e.2.2.2.2.2 else v, p.begun⟩
  else ⟨p.vs.filter fun v => !(v.body == e.2.2.1), p.begun⟩
/-- All events of a time, at the head of a list: how many, and what they leave. -/
def arriveP (bm : Int → List MW) (most now : Int) : List Ev → Pl → Nat × Pl
  | [], p => (0, p)
  | e :: r, p => if e.1 = now then let q := arriveP bm most now r (p.happen bm most e); (q.1 + 1, q.2) else (0, p)
end Go.Proofs.YtndnfhhdflmfcaaGreat

/-
Voices as they lie in memory; the player.
-/
namespace Go.Proofs.YtndnfhhdflmfcaaGreat
open Go Go.RowKit Ieee

theorem voice_info : (Tryz.prog.info? 59).map (fun i => (i.zero, i.size, i.bytes)) = some (some (.agg #[.int .i64 0, .slice none 0 0, .slice none 0 0, .slice none 0 0]), 4, 80) := by kernel_rfl
theorem int_info : (Tryz.prog.info? 3).map (fun i => (i.zero, i.size, i.bytes)) = some (some (.int .i64 0), 1, 8) := by kernel_rfl
/-- Blocks of different types are different. -/
theorem ty_ne {w : World} {b g : Nat} {cs cs' : Array Value} {t t' : TypeId} {f f' : Nat × Nat} (h : w.heap[b]? = some (.cells cs t f)) (h' : w.heap[g]? = some (.cells cs' t' f')) (ht : t ≠ t') : b ≠ g := fun e => by
  subst e
  rw [h] at h'
  injection h' with h'
  injection h' with _ h' _
  exact ht h'
theorem owns_ty {w : World} {lo n s : Nat} {e : TypeId} {v : Value} {xs : List Value} (h : w.ownsRow lo e s v n xs) {k : Nat} (hk : v.ownBlock = some k) : ∃ cs, w.heap[k]? = some (.cells cs e (0, 0)) := by
  rcases h.2 with ⟨h2, _⟩ | ⟨g, cap, cur, e1, e2, e3, _⟩
  · rw [h2] at hk; cases hk
  · rw [e1] at hk
    have : g = k := by injection hk
    subst this
    exact ⟨cur, e3⟩
theorem rowIs_ty {w : World} {g n : Nat} {e : TypeId} {F : Nat → Value} (h : w.rowIs g e n F) : ∃ cs, w.heap[g]? = some (.cells cs e (0, 0)) := by
  obtain ⟨cs, h1, _⟩ := h
  exact ⟨cs, h1⟩
/-- A slice of numbers, in a block of numbers from 'base' on, which is none of the caller's. -/
def RdT (w : World) (base : Nat) (fb : Nat → Prop) (A : Option Addr) (xs : List Nat) : Prop :=
  0 < xs.length → ∃ b off cs, A = some ⟨b, off, none⟩ ∧ (base ≤ b ∧ ¬ fb b) ∧ w.heap[b]? = some (.cells cs 23 (0, 0)) ∧ ∀ k u, (f32s xs)[k]? = some u → cs[off + k]? = some u
theorem RdT.rd {w : World} {base : Nat} {fb : Nat → Prop} {A : Option Addr} {xs : List Nat} (h : RdT w base fb A xs) : Rd w A (f32s xs) := fun hl => by
  obtain ⟨b, off, cs, e, _, hb, hc⟩ := h (by simpa using hl)
  exact ⟨b, off, e, lt_of_some hb, fun k u hu => by rw [cell_of_row w b _ _ _ (0, 0) hb]; exact hc k u hu⟩
theorem RdT.keep {w w' : World} {base : Nat} {fb : Nat → Prop} {A : Option Addr} {xs : List Nat} (h : RdT w base fb A xs) (hk : ∀ b cs, (base ≤ b ∧ ¬ fb b) → w.heap[b]? = some (.cells cs 23 (0, 0)) → w'.heap[b]? = w.heap[b]?) : RdT w' base fb A xs := fun hl => by
  obtain ⟨b, off, cs, e, h1, hb, hc⟩ := h hl
  exact ⟨b, off, cs, e, h1, (hk b cs h1 hb).trans hb, hc⟩
theorem RdT.of {w : World} {base lo n c : Nat} {fb : Nat → Prop} {A : Option Addr} {xs : List Nat} (h : w.ownsRow lo 23 1 (.slice A n c) n (f32s xs)) (hlo : base ≤ lo) (hf : ∀ b, fb b → b < lo) : RdT w base fb A xs := fun hl => by
  rcases h.2 with ⟨_, h2⟩ | ⟨g, cap, cur, e1, e2, e3, e4, e5, e6, e7⟩
  · have := h.1; simp at this; omega
  · injection e1 with q1 _ _
    refine ⟨g, 0, cur, q1, ⟨Nat.le_trans hlo e2, fun q => by have := hf g q; omega⟩, e3, fun k u hu => ?_⟩
    rw [← e7, List.getElem?_take] at hu
    split at hu
    · rw [Nat.zero_add]; simpa using hu
    · cases hu

/-- A voice with the places of its rows. -/
structure Vm where
  v : Vp
  M : Option Addr
  mc : Nat
  S : Nat
  I : Option Addr
  ic : Nat
def Vm.mod (m : Vm) : Value := .slice m.M m.v.ms.length m.mc
def voC (m : Vm) : List Value := [.int .i64 m.v.body, .slice m.M m.v.ms.length m.mc, .slice (some ⟨m.S, 0, none⟩) m.v.ms.length m.v.ms.length, .slice m.I m.v.xs.length m.ic]
def flatV (ms : List Vm) : List Value := ms.flatMap voC
def trs (ms : List Vm) : List Value := ms.map fun m => .int .i64 m.v.tr
structure VmIn (w : World) (base : Nat) (fb : Nat → Prop) (m : Vm) : Prop where
  mod : w.ownsRow base 87 2 m.mod m.v.ms.length (flatM m.v.ms)
  mS : ∀ k, m.mod.ownBlock = some k → k < m.S
  sts : w.rowIs m.S 85 m.v.ms.length (fun i => sV (sAt m.v.ss i))
  S0 : base ≤ m.S
  inp : RdT w base fb m.I m.v.xs
  ic : m.v.xs.length ≤ m.ic ∧ m.ic ≤ maxLen
theorem VmIn.keep {w w' : World} {base : Nat} {fb : Nat → Prop} {m : Vm} (h : VmIn w base fb m) (h1 : ∀ k, m.mod.ownBlock = some k → w'.heap[k]? = w.heap[k]?) (h2 : w'.heap[m.S]? = w.heap[m.S]?) (h3 : ∀ b cs, (base ≤ b ∧ ¬ fb b) → w.heap[b]? = some (.cells cs 23 (0, 0)) → w'.heap[b]? = w.heap[b]?) : VmIn w' base fb m :=
  ⟨owns_stay h.mod h1, h.mS, h.sts.of_block h2, h.S0, h.inp.keep h3, h.ic⟩
/-- A step that turns one block of another type. -/
theorem VmIn.grown {w w' : World} {base g : Nat} {fb : Nat → Prop} {m : Vm} {cs : Array Value} {t : TypeId} {f : Nat × Nat} (h : VmIn w base fb m) (hg : w.grownBy w' (some g)) (ht : w.heap[g]? = some (.cells cs t f)) (t1 : 87 ≠ t) (t2 : 85 ≠ t) (t3 : 23 ≠ t) : VmIn w' base fb m := by
  refine h.keep (fun k e => ?_) ?_ (fun b cs' _ hb => ?_)
  · obtain ⟨c, hc⟩ := owns_ty h.mod e
    exact hg.block k (lt_of_some hc) (by intro q; injection q with q; exact ty_ne hc ht t1 q)
  · obtain ⟨c, hc⟩ := rowIs_ty h.sts
    exact hg.block _ (lt_of_some hc) (by intro q; injection q with q; exact ty_ne hc ht t2 q)
  · exact hg.block b (lt_of_some hb) (by intro q; injection q with q; exact ty_ne hb ht t3 q)
/-- A step that makes new blocks alone. -/
theorem VmIn.new {w w' : World} {base : Nat} {fb : Nat → Prop} {m : Vm} (h : VmIn w base fb m) (hb : Below w.heap.size w w') : VmIn w' base fb m :=
  h.keep (fun k e => hb.block k (h.mod.lt k e).2) (hb.block _ h.sts.lt) (fun b cs _ h1 => hb.block b (lt_of_some h1))
/-- A step of another voice's states. -/
theorem VmIn.other {w w' : World} {base g : Nat} {fb : Nat → Prop} {m : Vm} {cs : Array Value} {f : Nat × Nat} (h : VmIn w base fb m) (hg : w.grownBy w' (some g)) (ht : w.heap[g]? = some (.cells cs 85 f)) (hn : m.S ≠ g) : VmIn w' base fb m := by
  refine h.keep (fun k e => ?_) ?_ (fun b cs' _ hb => ?_)
  · obtain ⟨c, hc⟩ := owns_ty h.mod e
    exact hg.block k (lt_of_some hc) (by intro q; injection q with q; exact ty_ne hc ht (by decide) q)
  · exact hg.block _ h.sts.lt (by intro q; injection q with q; exact hn q)
  · exact hg.block b (lt_of_some hb) (by intro q; injection q with q; exact ty_ne hb ht (by decide) q)

/-- What of a player never turns: the score's plain parts, where its rows are, its bodies; the sorted events and where they are. -/
structure Pc where
  s : Sh
  B : Option Addr
  cb : Nat
  bs : List Bd
  E : Option Addr
  ce : Nat
  ne : Nat
  A : Option Addr
  c : Nat
  L : List Ev
  wk : World
  fb : Nat → Prop
/-- The cells of a player. -/
def plC (c : Pc) (done now : Nat) (vV vT : Value) (begun : Int) : Array Value :=
  #[.int .i64 c.s.1, .int .i64 c.s.2.1, .float .f32 c.s.2.2.1, .float .f32 c.s.2.2.2, .slice c.B c.bs.length c.cb, .slice c.E c.ne c.ce, .slice c.A c.L.length c.c, .int .i64 done, .int .i64 now, vV, vT, .int .i64 begun]
/-- No two voices share a row of modes or states. -/
def Apart (ms : List Vm) : Prop := ms.Pairwise fun a b => (∀ k, a.mod.ownBlock = some k → b.mod.ownBlock ≠ some k) ∧ a.S ≠ b.S
theorem flatV_snoc (L : List Vm) (m : Vm) : flatV L ++ voC m = flatV (L ++ [m]) := by simp [flatV]
/-- The element types of the blocks that a player turns. -/
def PT (t : TypeId) : Prop := t = 53 ∨ t = 59 ∨ t = 3 ∨ t = 87 ∨ t = 85
/-- All blocks of other types are as they were. -/
def Kept (W w : World) : Prop := W.heap.size ≤ w.heap.size ∧ ∀ (j : Nat) (cs : Array Value) (t : TypeId) (f : Nat × Nat), W.heap[j]? = some (.cells cs t f) → ¬ PT t → w.heap[j]? = some (.cells cs t f)
theorem Kept.refl (W : World) : Kept W W := ⟨Nat.le_refl _, fun _ _ _ _ h _ => h⟩
theorem Kept.step {W w w' : World} (h : Kept W w) (hs : w.heap.size ≤ w'.heap.size) (hk : ∀ (j : Nat) (cs : Array Value) (t : TypeId) (f : Nat × Nat), w.heap[j]? = some (.cells cs t f) → ¬ PT t → w'.heap[j]? = w.heap[j]?) : Kept W w' := ⟨Nat.le_trans h.1 hs, fun j cs t f hj ht => (hk j cs t f (h.2 j cs t f hj ht) ht).trans (h.2 j cs t f hj ht)⟩
theorem Kept.new {W w w' : World} (h : Kept W w) (hb : Below w.heap.size w w') : Kept W w' := h.step hb.size fun _ _ _ _ hj _ => hb.block _ (lt_of_some hj)
theorem Kept.grown {W w w' : World} {g : Option Nat} (h : Kept W w) (hg : w.grownBy w' g) (hc : ∀ k, g = some k → ∃ (cs : Array Value) (t : TypeId) (f : Nat × Nat), w.heap[k]? = some (.cells cs t f) ∧ PT t) : Kept W w' := h.step hg.size fun j cs t f hj ht => hg.block j (lt_of_some hj) (fun q => by
  obtain ⟨cs', t', f', h1, h2⟩ := hc j q.symm
  exact ty_ne hj h1 (fun e => ht (e ▸ h2)) rfl)
/-- A player whose tracks' row may lag behind its voices. -/
structure PlG (w0 w : World) (base P : Nat) (c : Pc) (done now : Nat) (vV vT : Value) (ms : List Vm) (tn : Nat) (ts : List Value) (begun : Int) : Prop where
  bel : Below base w0 w
  hs : base ≤ w0.heap.size
  P0 : base ≤ P
  box : w.heap[P]? = some (.cells (plC c done now vV vT begun) 53 (0, 0))
  ev : w.ownsRow base 71 6 (.slice c.A c.L.length c.c) c.L.length (flatE c.L)
  vrow : w.ownsRow base 59 4 vV ms.length (flatV ms)
  trow : w.ownsRow base 3 1 vT tn ts
  vo : ∀ m ∈ ms, VmIn w base c.fb m
  apart : Apart ms
  kp : Kept c.wk w
  fbs : ∀ b, c.fb b → b < c.wk.heap.size
abbrev PlIn (w0 w : World) (base P : Nat) (c : Pc) (done now : Nat) (vV vT : Value) (ms : List Vm) (begun : Int) : Prop := PlG w0 w base P c done now vV vT ms ms.length (trs ms) begun
section
variable {w0 w w' : World} {base P done now : Nat} {c : Pc} {vV vT : Value} {ms : List Vm} {tn : Nat} {ts : List Value} {begun : Int}
/-- A step that makes new blocks alone. -/
theorem PlG.new (h : PlG w0 w base P c done now vV vT ms tn ts begun) (hb : Below w.heap.size w w') : PlG w0 w' base P c done now vV vT ms tn ts begun := by
  have hz := h.bel.size
  have hs := h.hs
  exact ⟨h.bel.trans (hb.mono (by omega)), h.hs, h.P0, (hb.block _ (lt_of_some h.box)).trans h.box, owns_stay h.ev fun k e => hb.block k (h.ev.lt k e).2, owns_stay h.vrow fun k e => hb.block k (h.vrow.lt k e).2, owns_stay h.trow fun k e => hb.block k (h.trow.lt k e).2, fun m hm => (h.vo m hm).new hb, h.apart, h.kp.new hb, h.fbs⟩
theorem PlG.drewN (h : PlG w0 w base P c done now vV vT ms tn ts begun) (n : Nat) : PlG w0 (w.drewN n) base P c done now vV vT ms tn ts begun := h.new (below_drewN (Below.refl _ _) n)
theorem PlG.alloc (h : PlG w0 w base P c done now vV vT ms tn ts begun) (o : Obj) : PlG w0 (w.alloc o) base P c done now vV vT ms tn ts begun := h.new ((Below.refl w.heap.size w).alloc (Nat.le_refl _) o)
/-- The player's block alone is turned. -/
theorem PlG.reBox (h : PlG w0 w base P c done now vV vT ms tn ts begun) (hg : w.grownBy w' (some P)) {done' now' : Nat} {vV' vT' : Value} {begun' : Int} (hb : w'.heap[P]? = some (.cells (plC c done' now' vV' vT' begun') 53 (0, 0)))
    {ms' : List Vm} {tn' : Nat} {ts' : List Value} (h1 : w.ownsRow base 59 4 vV' ms'.length (flatV ms')) (h2 : w.ownsRow base 3 1 vT' tn' ts') (h3 : ∀ m ∈ ms', VmIn w base c.fb m) (h4 : Apart ms') : PlG w0 w' base P c done' now' vV' vT' ms' tn' ts' begun' := by
  have hP0 := h.P0
  have k : ∀ (j : Nat) (cs : Array Value) (t : TypeId) (f : Nat × Nat), w.heap[j]? = some (.cells cs t f) → t ≠ 53 → w'.heap[j]? = w.heap[j]? := fun j cs t f hj ht => hg.block j (lt_of_some hj) (by intro q; injection q with q; exact ty_ne hj h.box ht q)
  refine ⟨⟨hg.os.trans h.bel.os, hg.tape.trans h.bel.tape, hg.output.trans h.bel.output, Nat.le_trans h.bel.size hg.size, fun j hj => (hg.block j (by have := h.hs; have := h.bel.size; omega) (by intro q; injection q with q; omega)).trans (h.bel.block j hj)⟩, h.hs, h.P0, hb, ?_, ?_, ?_, fun m hm => ?_, h4, h.kp.grown hg fun k q => by injection q with q; subst q; exact ⟨_, _, _, h.box, .inl rfl⟩, h.fbs⟩
  · exact owns_stay h.ev fun j e => by
      obtain ⟨cs, hc⟩ := owns_ty h.ev e
      exact k j _ _ _ hc (by decide)
  · exact owns_stay h1 fun j e => by
      obtain ⟨cs, hc⟩ := owns_ty h1 e
      exact k j _ _ _ hc (by decide)
  · exact owns_stay h2 fun j e => by
      obtain ⟨cs, hc⟩ := owns_ty h2 e
      exact k j _ _ _ hc (by decide)
  · exact (h3 m hm).grown hg h.box (by decide) (by decide) (by decide)
/-- A store into the player. -/
theorem PlG.setBox (h : PlG w0 w base P c done now vV vT ms tn ts begun) (i : Nat) (v : Value) {done' now' : Nat} {vV' vT' : Value} {begun' : Int} (he : (plC c done now vV vT begun).setIfInBounds i v = plC c done' now' vV' vT' begun')
    {ms' : List Vm} {tn' : Nat} {ts' : List Value} (h1 : w.ownsRow base 59 4 vV' ms'.length (flatV ms')) (h2 : w.ownsRow base 3 1 vT' tn' ts') (h3 : ∀ m ∈ ms', VmIn w base c.fb m) (h4 : Apart ms') : PlG w0 (w.setCell ⟨P, i, none⟩ v) base P c done' now' vV' vT' ms' tn' ts' begun' := by
  refine h.reBox (grown_set _ _) ?_ h1 h2 h3 h4
  rw [← he]
  simp [World.setCell, Array.getElem?_modify, h.box]
/-- The voices' and the tracks' rows stored. -/
theorem PlG.setRows (h : PlG w0 w base P c done now vV vT ms tn ts begun) {vV' vT' : Value}
    {ms' : List Vm} {tn' : Nat} {ts' : List Value} (h1 : w.ownsRow base 59 4 vV' ms'.length (flatV ms')) (h2 : w.ownsRow base 3 1 vT' tn' ts') (h3 : ∀ m ∈ ms', VmIn w base c.fb m) (h4 : Apart ms') : PlG w0 ((w.setCell ⟨P, 9, none⟩ vV').setCell ⟨P, 10, none⟩ vT') base P c done now vV' vT' ms' tn' ts' begun := by
  refine h.reBox (grown_trans (grown_set _ _) (grown_set _ _)) ?_ h1 h2 h3 h4
  simp [World.setCell, Array.getElem?_modify, h.box, plC]
theorem PlG.setDone (h : PlG w0 w base P c done now vV vT ms tn ts begun) (d : Nat) : PlG w0 (w.setCell ⟨P, 7, none⟩ (.int .i64 d)) base P c d now vV vT ms tn ts begun := h.setBox 7 _ rfl h.vrow h.trow h.vo h.apart
theorem PlG.setNow (h : PlG w0 w base P c done now vV vT ms tn ts begun) (d : Nat) : PlG w0 (w.setCell ⟨P, 8, none⟩ (.int .i64 d)) base P c done d vV vT ms tn ts begun := h.setBox 8 _ rfl h.vrow h.trow h.vo h.apart
theorem PlG.setBegun (h : PlG w0 w base P c done now vV vT ms tn ts begun) (d : Int) : PlG w0 (w.setCell ⟨P, 11, none⟩ (.int .i64 d)) base P c done now vV vT ms tn ts d := h.setBox 11 _ rfl h.vrow h.trow h.vo h.apart
theorem PlG.boxV (h : PlG w0 w base P c done now vV vT ms tn ts begun) (hg : w.grownBy w' vV.ownBlock) : w'.heap[P]? = w.heap[P]? := hg.block P (lt_of_some h.box) (fun q => by
  obtain ⟨cs, hc⟩ := owns_ty h.vrow q.symm
  exact ty_ne h.box hc (by decide) rfl)
theorem PlG.boxT (h : PlG w0 w base P c done now vV vT ms tn ts begun) (hg : w.grownBy w' vT.ownBlock) : w'.heap[P]? = w.heap[P]? := hg.block P (lt_of_some h.box) (fun q => by
  obtain ⟨cs, hc⟩ := owns_ty h.trow q.symm
  exact ty_ne h.box hc (by decide) rfl)
/-- The row of voices has grown by one, which lies at its place already; the player holds it. -/
theorem PlG.addVoice (h : PlG w0 w base P c done now vV vT ms tn ts begun) {m : Vm} {vV' : Value} (hm : VmIn w base c.fb m) (hap : ∀ a ∈ ms, (∀ k, a.mod.ownBlock = some k → m.mod.ownBlock ≠ some k) ∧ a.S ≠ m.S)
    (hown : w'.ownsRow base 59 4 vV' (ms.length + 1) (flatV ms ++ voC m)) (hg : w.grownBy w' vV.ownBlock) : PlG w0 (w'.setCell ⟨P, 9, none⟩ vV') base P c done now vV' vT (ms ++ [m]) tn ts begun := by
  have hz := h.bel.size
  have hs := h.hs
  have k : ∀ (j : Nat) (cs : Array Value) (t : TypeId) (f : Nat × Nat), w.heap[j]? = some (.cells cs t f) → t ≠ 59 → w'.heap[j]? = w.heap[j]? := fun j cs t f hj ht => hg.block j (lt_of_some hj) (fun q => by
    obtain ⟨cs', hc⟩ := owns_ty h.vrow q.symm
    exact ty_ne hj hc ht rfl)
  have hvm : ∀ x, VmIn w base c.fb x → VmIn w' base c.fb x := fun x hx => hx.keep (fun j e => by
      obtain ⟨cs, hc⟩ := owns_ty hx.mod e
      exact k j _ _ _ hc (by decide)) (by
      obtain ⟨cs, hc⟩ := rowIs_ty hx.sts
      exact k _ _ _ _ hc (by decide)) (fun b cs _ hb => k b _ _ _ hb (by decide))
  have hbx : w'.heap[P]? = some (.cells (plC c done now vV vT begun) 53 (0, 0)) := (k P _ _ _ h.box (by decide)).trans h.box
  have hl : (ms ++ [m]).length = ms.length + 1 := by simp
  have hvr : w'.ownsRow base 59 4 vV' (ms ++ [m]).length (flatV (ms ++ [m])) := by rw [hl, ← flatV_snoc]; exact hown
  have hap' : Apart (ms ++ [m]) := List.pairwise_append.2 ⟨h.apart, List.pairwise_singleton _ _, fun a ha b hb => by
    rw [List.mem_singleton] at hb
    subst hb
    exact hap a ha⟩
  have hvo : ∀ x ∈ ms ++ [m], VmIn w' base c.fb x := fun x hx => by
    rcases List.mem_append.1 hx with hx | hx
    · exact hvm x (h.vo x hx)
    · rw [List.mem_singleton] at hx
      subst hx
      exact hvm x hm
  have htr : w'.ownsRow base 3 1 vT tn ts := owns_stay h.trow fun j e => by
    obtain ⟨cs, hc⟩ := owns_ty h.trow e
    exact k j _ _ _ hc (by decide)
  have hbel : Below base w0 w' := ⟨hg.os.trans h.bel.os, hg.tape.trans h.bel.tape, hg.output.trans h.bel.output, Nat.le_trans hz hg.size, fun j hj => (hg.block j (by omega) (fun e => by have := (h.vrow.lt j e.symm).1; omega)).trans (h.bel.block j hj)⟩
  have hev : w'.ownsRow base 71 6 (.slice c.A c.L.length c.c) c.L.length (flatE c.L) := owns_stay h.ev fun j e => by
    obtain ⟨cs, hc⟩ := owns_ty h.ev e
    exact k j _ _ _ hc (by decide)
  -- the old row, as far as it is known, is not needed any more
  have hP0 := h.P0
  have hgs : w'.grownBy (w'.setCell ⟨P, 9, none⟩ vV') (some P) := grown_set _ _
  have kk : ∀ (j : Nat) (cs : Array Value) (t : TypeId) (f : Nat × Nat), w'.heap[j]? = some (.cells cs t f) → t ≠ 53 → (w'.setCell ⟨P, 9, none⟩ vV').heap[j]? = w'.heap[j]? := fun j cs t f hj ht => hgs.block j (lt_of_some hj) (by intro q; injection q with q; exact ty_ne hj hbx ht q)
  refine ⟨⟨hgs.os.trans hbel.os, hgs.tape.trans hbel.tape, hgs.output.trans hbel.output, Nat.le_trans hbel.size hgs.size, fun j hj => (hgs.block j (by have := hbel.size; omega) (by intro q; injection q with q; omega)).trans (hbel.block j hj)⟩, h.hs, h.P0, ?_, ?_, ?_, ?_, fun x hx => ?_, hap', (h.kp.grown hg fun k q => by
    obtain ⟨cs, hc⟩ := owns_ty h.vrow q
    exact ⟨_, _, _, hc, .inr (.inl rfl)⟩).grown hgs fun k q => by injection q with q; subst q; exact ⟨_, _, _, hbx, .inl rfl⟩, h.fbs⟩
  · simp [World.setCell, Array.getElem?_modify, hbx, plC]
  · exact owns_stay hev fun j e => by
      obtain ⟨cs, hc⟩ := owns_ty hev e
      exact kk j _ _ _ hc (by decide)
  · exact owns_stay hvr fun j e => by
      obtain ⟨cs, hc⟩ := owns_ty hvr e
      exact kk j _ _ _ hc (by decide)
  · exact owns_stay htr fun j e => by
      obtain ⟨cs, hc⟩ := owns_ty htr e
      exact kk j _ _ _ hc (by decide)
  · exact (hvo x hx).grown hgs hbx (by decide) (by decide) (by decide)
/-- The row of tracks has grown; the player holds it. -/
theorem PlG.addTrack (h : PlG w0 w base P c done now vV vT ms tn ts begun) {vT' : Value} {tn' : Nat} {ts' : List Value}
    (hown : w'.ownsRow base 3 1 vT' tn' ts') (hg : w.grownBy w' vT.ownBlock) : PlG w0 (w'.setCell ⟨P, 10, none⟩ vT') base P c done now vV vT' ms tn' ts' begun := by
  have hz := h.bel.size
  have hs := h.hs
  have k : ∀ (j : Nat) (cs : Array Value) (t : TypeId) (f : Nat × Nat), w.heap[j]? = some (.cells cs t f) → t ≠ 3 → w'.heap[j]? = w.heap[j]? := fun j cs t f hj ht => hg.block j (lt_of_some hj) (fun q => by
    obtain ⟨cs', hc⟩ := owns_ty h.trow q.symm
    exact ty_ne hj hc ht rfl)
  have hvm : ∀ x, VmIn w base c.fb x → VmIn w' base c.fb x := fun x hx => hx.keep (fun j e => by
      obtain ⟨cs, hc⟩ := owns_ty hx.mod e
      exact k j _ _ _ hc (by decide)) (by
      obtain ⟨cs, hc⟩ := rowIs_ty hx.sts
      exact k _ _ _ _ hc (by decide)) (fun b cs _ hb => k b _ _ _ hb (by decide))
  have hbx : w'.heap[P]? = some (.cells (plC c done now vV vT begun) 53 (0, 0)) := (k P _ _ _ h.box (by decide)).trans h.box
  have hvr : w'.ownsRow base 59 4 vV ms.length (flatV ms) := owns_stay h.vrow fun j e => by
    obtain ⟨cs, hc⟩ := owns_ty h.vrow e
    exact k j _ _ _ hc (by decide)
  have hbel : Below base w0 w' := ⟨hg.os.trans h.bel.os, hg.tape.trans h.bel.tape, hg.output.trans h.bel.output, Nat.le_trans hz hg.size, fun j hj => (hg.block j (by omega) (fun e => by have := (h.trow.lt j e.symm).1; omega)).trans (h.bel.block j hj)⟩
  have hev : w'.ownsRow base 71 6 (.slice c.A c.L.length c.c) c.L.length (flatE c.L) := owns_stay h.ev fun j e => by
    obtain ⟨cs, hc⟩ := owns_ty h.ev e
    exact k j _ _ _ hc (by decide)
  have hP0 := h.P0
  have hgs : w'.grownBy (w'.setCell ⟨P, 10, none⟩ vT') (some P) := grown_set _ _
  have kk : ∀ (j : Nat) (cs : Array Value) (t : TypeId) (f : Nat × Nat), w'.heap[j]? = some (.cells cs t f) → t ≠ 53 → (w'.setCell ⟨P, 10, none⟩ vT').heap[j]? = w'.heap[j]? := fun j cs t f hj ht => hgs.block j (lt_of_some hj) (by intro q; injection q with q; exact ty_ne hj hbx ht q)
  refine ⟨⟨hgs.os.trans hbel.os, hgs.tape.trans hbel.tape, hgs.output.trans hbel.output, Nat.le_trans hbel.size hgs.size, fun j hj => (hgs.block j (by have := hbel.size; omega) (by intro q; injection q with q; omega)).trans (hbel.block j hj)⟩, h.hs, h.P0, ?_, ?_, ?_, ?_, fun x hx => ?_, h.apart, (h.kp.grown hg fun k q => by
    obtain ⟨cs, hc⟩ := owns_ty h.trow q
    exact ⟨_, _, _, hc, .inr (.inr (.inl rfl))⟩).grown hgs fun k q => by injection q with q; subst q; exact ⟨_, _, _, hbx, .inl rfl⟩, h.fbs⟩
  · simp [World.setCell, Array.getElem?_modify, hbx, plC]
  · exact owns_stay hev fun j e => by
      obtain ⟨cs, hc⟩ := owns_ty hev e
      exact kk j _ _ _ hc (by decide)
  · exact owns_stay hvr fun j e => by
      obtain ⟨cs, hc⟩ := owns_ty hvr e
      exact kk j _ _ _ hc (by decide)
  · exact owns_stay hown fun j e => by
      obtain ⟨cs, hc⟩ := owns_ty hown e
      exact kk j _ _ _ hc (by decide)
  · exact (hvm x (h.vo x hx)).grown hgs hbx (by decide) (by decide) (by decide)
end
theorem pl_cells {W : World} {M : Nat} {a b c d e f g h i j k l : Value} {t : TypeId} (hh : W.heap[M]? = some (.cells #[a, b, c, d, e, f, g, h, i, j, k, l] t (0, 0))) :
    W.cell? ⟨M, 0, none⟩ = some a ∧ W.cell? ⟨M, 1, none⟩ = some b ∧ W.cell? ⟨M, 2, none⟩ = some c ∧ W.cell? ⟨M, 3, none⟩ = some d ∧ W.cell? ⟨M, 4, none⟩ = some e ∧ W.cell? ⟨M, 5, none⟩ = some f ∧ W.cell? ⟨M, 6, none⟩ = some g ∧ W.cell? ⟨M, 7, none⟩ = some h ∧ W.cell? ⟨M, 8, none⟩ = some i ∧ W.cell? ⟨M, 9, none⟩ = some j ∧ W.cell? ⟨M, 10, none⟩ = some k ∧ W.cell? ⟨M, 11, none⟩ = some l :=
  ⟨cell_of_row W M 0 _ _ (0, 0) hh, cell_of_row W M 1 _ _ (0, 0) hh, cell_of_row W M 2 _ _ (0, 0) hh, cell_of_row W M 3 _ _ (0, 0) hh, cell_of_row W M 4 _ _ (0, 0) hh, cell_of_row W M 5 _ _ (0, 0) hh, cell_of_row W M 6 _ _ (0, 0) hh, cell_of_row W M 7 _ _ (0, 0) hh, cell_of_row W M 8 _ _ (0, 0) hh, cell_of_row W M 9 _ _ (0, 0) hh, cell_of_row W M 10 _ _ (0, 0) hh, cell_of_row W M 11 _ _ (0, 0) hh⟩

/-- Rows of voices. -/
theorem flatV_len (L : List Vm) : (flatV L).length = L.length * 4 := by
  induction L with
  | nil => rfl
  | cons m L ih => simp [flatV, voC] at ih ⊢; omega
theorem trs_snoc (L : List Vm) (m : Vm) : trs L ++ [.int .i64 m.v.tr] = trs (L ++ [m]) := by simp [trs]
theorem flatV_at {L : List Vm} {i : Nat} {m : Vm} (h : L[i]? = some m) : (flatV L)[i * 4]? = some (.int .i64 m.v.body) ∧ (flatV L)[i * 4 + 1]? = some (.slice m.M m.v.ms.length m.mc) ∧
    (flatV L)[i * 4 + 2]? = some (.slice (some ⟨m.S, 0, none⟩) m.v.ms.length m.v.ms.length) ∧ (flatV L)[i * 4 + 3]? = some (.slice m.I m.v.xs.length m.ic) := by
  induction L generalizing i with
  | nil => simp at h
  | cons x L ih =>
    cases i with
    | zero =>
      simp at h; subst h
      exact ⟨rfl, rfl, rfl, rfl⟩
    | succ i =>
      have h2 := ih (i := i) (by simpa using h)
      have e1 : (i + 1) * 4 = i * 4 + 4 := by omega
      rw [e1]
      exact h2
/-- What the cells of a row of k-cell elements hold. -/
theorem owns_cells {w : World} {lo n k : Nat} {e : TypeId} {v : Value} {xs : List Value} (h : w.ownsRow lo e k v n xs) (h0 : 0 < n) (hl : xs.length = n * k) : ∃ b c, v = .slice (some ⟨b, 0, none⟩) n c ∧ lo ≤ b ∧ b < w.heap.size ∧ n ≤ c ∧ c ≤ maxLen ∧ (∃ cs, w.heap[b]? = some (.cells cs e (0, 0))) ∧ ∀ j u, xs[j]? = some u → w.cell? ⟨b, j, none⟩ = some u := by
  rcases h.2 with ⟨_, h2⟩ | ⟨g, cap, cur, e1, e2, e3, e4, e5, e6, e7⟩
  · omega
  · refine ⟨g, cap, e1, e2, lt_of_some e3, e4, e5, ⟨cur, e3⟩, fun j u hu => ?_⟩
    rw [cell_of_row w g j _ _ (0, 0) e3]
    rw [← e7, List.getElem?_take] at hu
    split at hu
    · simpa using hu
    · cases hu
end Go.Proofs.YtndnfhhdflmfcaaGreat

/-
impl.newPlayer, impl.total.
-/
namespace Go.Proofs.YtndnfhhdflmfcaaGreat
open Go Go.RowKit Ieee

theorem below_of_drew {B n : Nat} {W W2 : World} (h : Below B (W.drewN n) W2) : Below B W W2 := (below_drewN (Below.refl B W) n).trans h
/-- What newPlayer returns. -/
def NewP (s : Sh) (B : Option Addr) (cb : Nat) (bs : List Bd) (E : Option Addr) (ce : Nat) (evs : List Ev) (w : World) (r : Ending) (w' : World) : Prop :=
  ∃ (P : Nat) (A : Option Addr) (c : Nat), r = .returned (.pointer (some ⟨P, 0, none⟩)) ∧ PlIn w w' w.heap.size P ⟨s, B, cb, bs, E, ce, evs.length, A, c, sortedE evs, w, fun _ => False⟩ 0 0 (.slice none 0 0) (.slice none 0 0) [] 0
set_option maxRecDepth 100000 in
set_option maxHeartbeats 400000 in
theorem newPlayer_any (s : Sh) (B : Option Addr) (cb : Nat) (bs : List Bd) (E : Option Addr) (ce lo hi : Nat) (evs : List Ev) (w : World) (h : OwnE w lo hi E ce evs) (hh : hi ≤ w.heap.size) (ht : Timed evs) (hl : evs.length ≤ 19) :
    Calls Tryz.prog 34 #[.agg #[.int .i64 s.1, .int .i64 s.2.1, .float .f32 s.2.2.1, .float .f32 s.2.2.2, .slice B bs.length cb, .slice E evs.length ce]] w (NewP s B cb bs E ce evs w) := by
  obtain ⟨len, vo, c, r⟩ := s
  have HB : Hid (Below w.heap.size w (w.alloc (.cells #[.int .i64 len, .int .i64 vo, .float .f32 c, .float .f32 r, .slice B bs.length cb, .slice E evs.length ce] 27))) := (Below.refl w.heap.size w).alloc (Nat.le_refl _) _
  have H : Hid (OwnE (w.alloc (.cells #[.int .i64 len, .int .i64 vo, .float .f32 c, .float .f32 r, .slice B bs.length cb, .slice E evs.length ce] 27)) lo hi E ce evs) := h.below HB.out hh
  have HH : Hid (hi ≤ (w.alloc (.cells #[.int .i64 len, .int .i64 vo, .float .f32 c, .float .f32 r, .slice B bs.length cb, .slice E evs.length ce] 27)).heap.size) := Nat.le_trans hh HB.out.size
  have HT := Lib.hid ht
  clear h ht
  have HN := Lib.hid (heap_alloc_new w (.cells #[.int .i64 len, .int .i64 vo, .float .f32 c, .float .f32 r, .slice B bs.length cb, .slice E evs.length ce] 27))
  go_enter Tryz.func34, Tryz.ntmps34
  go_wp2_with fail
  generalize w.alloc (.cells #[.int .i64 len, .int .i64 vo, .float .f32 c, .float .f32 r, .slice B bs.length cb, .slice E evs.length ce] 27) = W at *
  have hz := lt_of_some HN.out
  refine wp_region_held_drew (S := fun w' => w'.cell? ⟨w.heap.size, 0, none⟩ = some (.int .i64 len) ∧ w'.cell? ⟨w.heap.size, 1, none⟩ = some (.int .i64 vo) ∧ w'.cell? ⟨w.heap.size, 2, none⟩ = some (.float .f32 c) ∧ w'.cell? ⟨w.heap.size, 3, none⟩ = some (.float .f32 r) ∧ w'.cell? ⟨w.heap.size, 4, none⟩ = some (.slice B bs.length cb) ∧ w'.cell? ⟨w.heap.size, 5, none⟩ = some (.slice E evs.length ce)) (by kernel_rfl) (sc_cells HN.out) (fun hHeld => ?_)
  refine wpAnyH_take (i := 0) (oi := _) (v := ?_) rfl (by kernel_rfl) (by kernel_rfl) (by kernel_rfl) (fun _ _ _ h => h) (Or.inl ⟨by rfl, ?_⟩) (by assumption) ?_
  rotate_left
  · (intro w hSw; (try dsimp only at hSw); go_simp; try (with_reducible rfl))
  (try simp only [Act.put, List.setIfInBounds_toArray, List.set_cons_zero, List.set_cons_succ, List.getElem_toArray, List.getElem_cons_succ, List.getElem_cons_zero])
  refine wpAnyH_take (i := 1) (oi := _) (v := ?_) rfl (by kernel_rfl) (by kernel_rfl) (by kernel_rfl) (fun _ _ _ h => h) (Or.inl ⟨by rfl, ?_⟩) (by assumption) ?_
  rotate_left
  · (intro w hSw; (try dsimp only at hSw); go_simp; try (with_reducible rfl))
  (try simp only [Act.put, List.setIfInBounds_toArray, List.set_cons_zero, List.set_cons_succ, List.getElem_toArray, List.getElem_cons_succ, List.getElem_cons_zero])
  refine wpAnyH_ready (rs := [2]) (by kernel_rfl) (by simp) ?_
  refine AllReadyH.cons (o := _) rfl (fun K hK => ?_) AllReadyH.nil
  go_simp
  refine (ordered_any (len, vo, c, r) B cb bs E ce lo hi evs (W.drewN 1) H.out HH.out HT.out hl).mono ?_
  intro q W2 hp
  unfold OrdP at hp
  obtain ⟨A', c', rfl, ho, hb'⟩ := hp
  have hb := below_of_drew hb'
  clear hb'
  have HB2 := Lib.hid (HB.out.trans (hb.mono HB.out.size))
  have HO := Lib.hid (owns_lower ho.1 HB.out.size)
  have HN2 := Lib.hid ((hb.block w.heap.size hz).trans HN.out)
  have HZ2 := Lib.hid HB2.out.size
  clear ho hb
  go_wp2_with fail
  refine hK.out _ _ ?_ (fun hHeldN => ?_)
  · exact sc_cells HN2.out
  clear hHeld hK K
  have hHeld := hHeldN
  clear hHeldN
  (try simp only [Act.put, List.setIfInBounds_toArray, List.set_cons_zero, List.set_cons_succ, List.getElem_toArray, List.getElem_cons_succ, List.getElem_cons_zero])
  refine wpAnyH_take (i := 3) (oi := _) (v := ?_) rfl (by kernel_rfl) (by kernel_rfl) (by kernel_rfl) (fun _ _ _ h => h) (Or.inl ⟨by rfl, ?_⟩) (by assumption) ?_
  rotate_left
  · (intro w hSw; (try dsimp only at hSw); go_simp; try (with_reducible rfl))
  (try simp only [Act.put, List.setIfInBounds_toArray, List.set_cons_zero, List.set_cons_succ, List.getElem_toArray, List.getElem_cons_succ, List.getElem_cons_zero])
  refine wpAnyH_ready (rs := [4]) (by kernel_rfl) (by simp) ?_
  refine AllReadyH.cons (o := _) rfl (fun K hK => ?_) AllReadyH.nil
  go_simp
  refine hK.out _ _ ?_ (fun hHeldN => ?_)
  · exact sc_cells ((Below.heap_alloc W2 _ _ (lt_of_some HN2.out)).trans HN2.out)
  clear hHeld hK K
  have hHeld := hHeldN
  clear hHeldN
  (try simp only [Act.put, List.setIfInBounds_toArray, List.set_cons_zero, List.set_cons_succ, List.getElem_toArray, List.getElem_cons_succ, List.getElem_cons_zero])
  refine wpAnyH_take (i := 5) (oi := _) (v := ?_) rfl (by kernel_rfl) (by kernel_rfl) (by kernel_rfl) (fun _ _ _ h => h) (Or.inl ⟨by rfl, ?_⟩) (by assumption) ?_
  rotate_left
  · (intro w hSw; (try dsimp only at hSw); go_simp; try (with_reducible rfl))
  (try simp only [Act.put, List.setIfInBounds_toArray, List.set_cons_zero, List.set_cons_succ, List.getElem_toArray, List.getElem_cons_succ, List.getElem_cons_zero])
  refine wpAnyH_done (by kernel_rfl) ?_ _
  (try simp only [List.getElem_toArray, List.getElem_cons_succ, List.getElem_cons_zero, Act.put, List.setIfInBounds_toArray, List.set_cons_zero, List.set_cons_succ])
  go_wp2_with fail
  go_ret
  have hsl := sortedE_len evs
  refine ⟨W2.heap.size, A', c', rfl, ⟨HB2.out.alloc HB2.out.size _, Nat.le_refl _, HB2.out.size, heap_alloc_new W2 _, ?_, ⟨rfl, .inl ⟨rfl, rfl⟩⟩, ⟨rfl, .inl ⟨rfl, rfl⟩⟩, fun m hm => (by cases hm), List.Pairwise.nil, (Kept.refl w).new (HB2.out.alloc HB2.out.size _), fun _ h => h.elim⟩⟩
  exact HO.out.alloc _

/-- A sum of numbers. -/
def totalW (os : List Nat) : Nat := os.foldl (fun s x => fo .add .f32 s x) 0
theorem totalW_snoc (os : List Nat) (x : Nat) : totalW (os ++ [x]) = fo .add .f32 (totalW os) x := by simp [totalW]
theorem totalW_nrm (os : List Nat) : nrm .f32 (totalW os) = totalW os := by
  rcases List.eq_nil_or_concat os with rfl | ⟨L, b, rfl⟩
  · exact (nrm_of_num (by decide +kernel) : nrm .f32 0 = 0)
  · rw [List.concat_eq_append, totalW_snoc]; exact nrm_fo _ _ _ _
set_option maxRecDepth 100000 in
set_option maxHeartbeats 400000 in
theorem total_any (A : Option Addr) (c : Nat) (xs : List Nat) (w : World) (h : Rd w A (f32s xs)) (hl : xs.length ≤ 1048576) :
    Calls Tryz.prog 36 #[.slice A xs.length c] w fun e w' => ∃ r n, e = .returned (.float .f32 r) ∧ nrm .f32 r = totalW xs ∧ wfk .f32 r ∧ w.drewN n = w' := by
  have H := Lib.hid h
  clear h
  go_enter Tryz.func36, Tryz.ntmps36
  go_wp2_with fail
  go_loopw [3, 8] (fun s i wr => ∃ k r n : Nat, i = .int .i64 (k : Int) ∧ k ≤ xs.length ∧ s = .float .f32 r ∧ Hid (nrm .f32 r = totalW (xs.take k) ∧ wfk .f32 r) ∧ Hid (wr = w.drewN n)) (fun _ i _ => xs.length - (intOf i).toNat)
  case atStart => exact ⟨0, 0, 0, rfl, by omega, rfl, ⟨nrm_of_num (by decide +kernel), by rw [wfk_32]; omega⟩, rfl⟩
  case round =>
    obtain ⟨k, r, n, rfl, hk, rfl, hr, hw⟩ := hrel
    by_cases hlt : k < xs.length
    · obtain ⟨b, off, rfl, hbk, hcell⟩ := H.out (by simp; omega)
      have e1 := hcell k _ (f32s_at hlt)
      have e2 : wr.cell? ⟨b, off + k, none⟩ = some (.float .f32 (xs.getD k 0)) := by rw [hw.out]; exact e1
      obtain ⟨x, hx⟩ : ∃ x, xs.getD k 0 = x := ⟨_, rfl⟩
      rw [hx] at e2
      have HX : Hid (xs.take (k + 1) = xs.take k ++ [x]) := Lib.hid (by
        rw [List.take_succ_eq_append_getElem hlt, ← hx]; simp [List.getD, List.getElem?_eq_getElem hlt])
      clear hcell e1 hx
      go_wp2_with fail
      have HR : Hid (∀ W, nrm .f32 (fR .add .f32 r x W) = totalW (xs.take (k + 1)) ∧ wfk .f32 (fR .add .f32 r x W)) := fun W => by
        refine ⟨?_, fR_lt _ _ _ _ _⟩
        rw [HX.out, totalW_snoc, nrm_fR]
        exact fo_congr (hr.out.1.trans (totalW_nrm _).symm) rfl
      have HW : Hid (wr.drewN (fN .add .f32 r x) = w.drewN (n + fN .add .f32 r x)) := Lib.hid (by rw [hw.out, World.drewN_drewN])
      clear hr hw HX
      go_roundw
      case rel => exact ⟨k + 1, _, _, by go_num, by omega, rfl, HR.out _, HW⟩
      case measure => simp [intOf]; omega
    · obtain rfl : k = xs.length := by omega
      have HW := Lib.hid hw.out
      clear hw
      go_wp2_with fail
      go_ret
      exact ⟨r, n, rfl, by have := hr.out.1; rwa [List.take_length] at this, hr.out.2, HW.out.symm⟩
end Go.Proofs.YtndnfhhdflmfcaaGreat

/-
'Room{.., append(append([][]T{}, rows...), row)}' in a region that draws its order: three new blocks and two appends, in whatever order.
-/
namespace Go.Proofs.YtndnfhhdflmfcaaGreat
open Go Go.RowKit

theorem wp_name {P : Program} {c : Code} {Q : Exit → Act → World → Prop} {a : Act} {w : World} (h : ∀ a0 Q0, a0 = a → Q0 = Q → Code.wp P c Q0 a0 w) : Code.wp P c Q a w := h a Q rfl rfl

section
variable {V W W' : World} {O : Value} {xs : List Value} {n : Nat} {v u : Option Value} {b r : Option Nat}
end
section
variable {V W W' : World} {O : Value} {xs : List Value} {n : Nat} {b r : Option Nat}
end
end Go.Proofs.YtndnfhhdflmfcaaGreat

/-
impl.player.remove: the voices for which a function does not hold.
(Printed by wip/tools/grem.py out of rem_base.txt.)
-/
namespace Go.Proofs.YtndnfhhdflmfcaaGreat
open Go Go.RowKit Ieee

/-- The elements that are kept, the first one being number i. -/
def keepF (f : Nat → Bool) : Nat → List Vm → List Vm
  | _, [] => []
  | i, m :: r => if f i then keepF f (i + 1) r else m :: keepF f (i + 1) r
theorem keepF_snoc (f : Nat → Bool) (L : List Vm) (m : Vm) (i : Nat) : keepF f i (L ++ [m]) = keepF f i L ++ (if f (i + L.length) then [] else [m]) := by
  induction L generalizing i with
  | nil => simp [keepF]
  | cons x L ih =>
    have e : i + (x :: L).length = i + 1 + L.length := by simp; omega
    rw [e]
    simp only [List.cons_append, keepF]
    rw [ih]
    by_cases h : f i = true
    · rw [if_pos h, if_pos h]
    · rw [if_neg h, if_neg h, List.cons_append]
theorem keepF_len (f : Nat → Bool) (L : List Vm) (i : Nat) : (keepF f i L).length ≤ L.length := by
  induction L generalizing i with
  | nil => exact Nat.le_refl _
  | cons x L ih =>
    have := ih (i + 1)
    simp only [keepF]
    split
    · simp; omega
    · simp; omega
theorem keepF_sub (f : Nat → Bool) (L : List Vm) (i : Nat) : (keepF f i L).Sublist L := by
  induction L generalizing i with
  | nil => exact List.Sublist.refl _
  | cons x L ih =>
    simp only [keepF]
    split
    · exact (ih (i + 1)).cons x
    · exact (ih (i + 1)).cons_cons x
theorem voC_one (m : Vm) : ∀ u ∈ voC m, u.oneCell' = true := fun u hu => by
  simp [voC] at hu
  rcases hu with rfl | rfl | rfl | rfl <;> rfl
theorem owns_of_ty {w w' : World} {lo n s : Nat} {e : TypeId} {v : Value} {xs : List Value} {r : Option Nat} (h : w.ownsRow lo e s v n xs) (hg : w.grownBy w' r) (hr : ∀ k, r = some k → ∃ cs t f, w.heap[k]? = some (.cells cs t f) ∧ e ≠ t) : w'.ownsRow lo e s v n xs :=
  owns_stay h fun k q => hg.block k (h.lt k q).2 (fun e2 => by
    obtain ⟨cs, hc⟩ := owns_ty h q
    obtain ⟨cs', t, f, h', hne⟩ := hr k e2.symm
    exact ty_ne hc h' hne rfl)

/-- Two rows to which one element each is appended, in whatever order: the copy of the voice (g7), the player (P), the tracks' row read (tb, at toff). -/
structure R2 (V W : World) (B g7 P tb toff : Nat) (vT : Value) (tn : Int) (KL : List Vm) (m : Vm) (nv nt : Bool) (v t : Value) (a b : Option Nat) : Prop where
  bel : Below B V W
  sz : B ≤ V.heap.size
  cp : W.heap[g7]? = some (.cells (voC m).toArray 59 (0, 0))
  pt : W.cell? ⟨P, 10, none⟩ = some vT
  tc : W.cell? ⟨tb, toff, none⟩ = some (.int .i64 tn)
  PB : P < B
  tB : tb < B
  vo : W.ownsRow B 59 4 v (KL.length + nv.toNat) (if nv then flatV KL ++ voC m else flatV KL)
  tro : W.ownsRow B 3 1 t (KL.length + nt.toNat) (if nt then trs KL ++ [.int .i64 m.v.tr] else trs KL)
  v7 : v.ownBlock ≠ some g7
  va : ∀ g, a = some g → W.heap[g]? = some (.cells (voC m).toArray 59 (0, 0)) ∧ v.ownBlock ≠ some g
  tb' : ∀ g, b = some g → W.heap[g]? = some (.cells #[.int .i64 m.v.tr] 3 (0, 0)) ∧ t.ownBlock ≠ some g
section
variable {V W W' : World} {B g7 P tb toff : Nat} {vT : Value} {tn : Int} {KL : List Vm} {m : Vm} {nv nt : Bool} {v t : Value} {a b : Option Nat}
theorem R2.size (h : R2 V W B g7 P tb toff vT tn KL m nv nt v t a b) : B ≤ W.heap.size := Nat.le_trans h.sz h.bel.size
/-- What the loads need. -/
theorem R2.held (h : R2 V W B g7 P tb toff vT tn KL m nv nt v t a b) : W.cell? ⟨g7, 0, none⟩ = some (.int .i64 m.v.body) ∧ W.cell? ⟨g7, 1, none⟩ = some (.slice m.M m.v.ms.length m.mc) ∧ W.cell? ⟨g7, 2, none⟩ = some (.slice (some ⟨m.S, 0, none⟩) m.v.ms.length m.v.ms.length) ∧ W.cell? ⟨g7, 3, none⟩ = some (.slice m.I m.v.xs.length m.ic) ∧
    W.cell? ⟨P, 10, none⟩ = some vT ∧ W.cell? ⟨tb, toff, none⟩ = some (.int .i64 tn) :=
  ⟨cell_of_row W g7 0 _ _ (0, 0) h.cp, cell_of_row W g7 1 _ _ (0, 0) h.cp, cell_of_row W g7 2 _ _ (0, 0) h.cp, cell_of_row W g7 3 _ _ (0, 0) h.cp, h.pt, h.tc⟩
theorem R2.alloc (h : R2 V W B g7 P tb toff vT tn KL m nv nt v t a b) (o : Obj) : R2 V (W.alloc o) B g7 P tb toff vT tn KL m nv nt v t a b := by
  have k : ∀ i, i < W.heap.size → (W.alloc o).heap[i]? = W.heap[i]? := fun i hi => Below.heap_alloc W o i hi
  have hz := h.size
  have c : ∀ i j, i < B → (W.alloc o).cell? ⟨i, j, none⟩ = W.cell? ⟨i, j, none⟩ := fun i j hi => World.cell?_of_block (k i (by omega))
  exact ⟨h.bel.alloc hz o, h.sz, (k _ (lt_of_some h.cp)).trans h.cp, (c _ _ h.PB).trans h.pt, (c _ _ h.tB).trans h.tc, h.PB, h.tB, h.vo.alloc o, h.tro.alloc o, h.v7, fun g e => ⟨(k _ (lt_of_some (h.va g e).1)).trans (h.va g e).1, (h.va g e).2⟩, fun g e => ⟨(k _ (lt_of_some (h.tb' g e).1)).trans (h.tb' g e).1, (h.tb' g e).2⟩⟩
theorem R2.op2 {g0 : Nat} (h : R2 V W B g7 P tb toff vT tn KL m false nt v t none b) (hg0 : W.heap.size = g0) : R2 V (W.alloc (.cells #[.int .i64 m.v.body, .slice m.M m.v.ms.length m.mc, .slice (some ⟨m.S, 0, none⟩) m.v.ms.length m.v.ms.length, .slice m.I m.v.xs.length m.ic] 59)) B g7 P tb toff vT tn KL m false nt v t (some g0) b := by
  subst hg0
  have q := h.alloc (.cells #[.int .i64 m.v.body, .slice m.M m.v.ms.length m.mc, .slice (some ⟨m.S, 0, none⟩) m.v.ms.length m.v.ms.length, .slice m.I m.v.xs.length m.ic] 59)
  exact ⟨q.bel, q.sz, q.cp, q.pt, q.tc, q.PB, q.tB, q.vo, q.tro, q.v7, fun g e => by
    injection e with e
    subst e
    exact ⟨heap_alloc_new W _, fun e2 => by have := (h.vo.lt _ e2).2; omega⟩, q.tb'⟩
theorem R2.op12 {g0 : Nat} (h : R2 V W B g7 P tb toff vT tn KL m nv false v t a none) (hg0 : W.heap.size = g0) : R2 V (W.alloc (.cells #[.int .i64 m.v.tr] 3)) B g7 P tb toff vT tn KL m nv false v t a (some g0) := by
  subst hg0
  have q := h.alloc (.cells #[.int .i64 m.v.tr] 3)
  exact ⟨q.bel, q.sz, q.cp, q.pt, q.tc, q.PB, q.tB, q.vo, q.tro, q.v7, q.va, fun g e => by
    injection e with e
    subst e
    exact ⟨heap_alloc_new W _, fun e2 => by have := (h.tro.lt _ e2).2; omega⟩⟩
theorem R2.vOwn {g : Nat} (h : R2 V W B g7 P tb toff vT tn KL m false nt v t (some g) b) : W.ownsRow B 59 4 v KL.length (flatV KL) := h.vo
theorem R2.tOwn {g : Nat} (h : R2 V W B g7 P tb toff vT tn KL m nv false v t a (some g)) : W.ownsRow B 3 1 t KL.length (trs KL) := h.tro
theorem R2.vNews {g : Nat} (h : R2 V W B g7 P tb toff vT tn KL m false nt v t (some g) b) : ∀ j u, (voC m)[j]? = some u → W.cell? ((⟨g, 0, none⟩ : Addr).add j) = some u :=
  World.news_of_block (cs := (voC m).toArray) (t := 59) (fr := (0, 0)) (h.va g rfl).1
theorem R2.tNews {g : Nat} (h : R2 V W B g7 P tb toff vT tn KL m nv false v t a (some g)) : ∀ j u, [Value.int .i64 m.v.tr][j]? = some u → W.cell? ((⟨g, 0, none⟩ : Addr).add j) = some u :=
  World.news_of_block (cs := #[.int .i64 m.v.tr]) (t := 3) (fr := (0, 0)) (h.tb' g rfl).1
theorem R2.op3 {g g' cap : Nat} (h : R2 V W B g7 P tb toff vT tn KL m false nt v t (some g) b) (hown : W'.ownsRow B 59 4 (.slice (some ⟨g', 0, none⟩) (KL.length + 1) cap) (KL.length + 1) (flatV KL ++ voC m)) (hg : W.grownBy W' v.ownBlock) (hat : v.ownBlock = some g' ∨ g' = W.heap.size) :
    R2 V W' B g7 P tb toff vT tn KL m true nt (.slice (some ⟨g', 0, none⟩) (KL.length + 1) cap) t none b := by
  have low : ∀ i, i < B → W'.heap[i]? = W.heap[i]? := fun i hi => hg.block i (by have := h.size; omega) (fun e => by have := (h.vo.lt i e.symm).1; omega)
  refine ⟨h.bel.trans ⟨hg.os, hg.tape, hg.output, hg.size, low⟩, h.sz, (hg.block _ (lt_of_some h.cp) (fun e => h.v7 e.symm)).trans h.cp, (World.cell?_of_block (low _ h.PB)).trans h.pt, (World.cell?_of_block (low _ h.tB)).trans h.tc, h.PB, h.tB, hown, owns_of_ty h.tro hg (fun k e => ?_), fun e => ?_, fun g e => (by cases e), fun k e => ?_⟩
  · obtain ⟨cs, hc⟩ := owns_ty h.vo e
    exact ⟨cs, _, _, hc, by decide⟩
  · have e2 : g' = g7 := by injection e
    rcases hat with hat | hat
    · exact h.v7 (by rw [hat, e2])
    · have := lt_of_some h.cp; omega
  · obtain ⟨h1, h2⟩ := h.tb' k e
    exact ⟨(hg.block _ (lt_of_some h1) (fun q => by
      obtain ⟨cs, hc⟩ := owns_ty h.vo q.symm
      exact ty_ne h1 hc (by decide) rfl)).trans h1, h2⟩
theorem R2.op13 {g g' cap : Nat} (h : R2 V W B g7 P tb toff vT tn KL m nv false v t a (some g)) (hown : W'.ownsRow B 3 1 (.slice (some ⟨g', 0, none⟩) (KL.length + 1) cap) (KL.length + 1) (trs KL ++ [.int .i64 m.v.tr])) (hg : W.grownBy W' t.ownBlock) (hat : t.ownBlock = some g' ∨ g' = W.heap.size) :
    R2 V W' B g7 P tb toff vT tn KL m nv true v (.slice (some ⟨g', 0, none⟩) (KL.length + 1) cap) a none := by
  have low : ∀ i, i < B → W'.heap[i]? = W.heap[i]? := fun i hi => hg.block i (by have := h.size; omega) (fun e => by have := (h.tro.lt i e.symm).1; omega)
  have far : ∀ (k : Nat) (cs : Array Value) (f : Nat × Nat), W.heap[k]? = some (.cells cs 59 f) → W'.heap[k]? = W.heap[k]? := fun k cs f hk => hg.block _ (lt_of_some hk) (fun q => by
      obtain ⟨cs', hc⟩ := owns_ty h.tro q.symm
      exact ty_ne hk hc (by decide) rfl)
  refine ⟨h.bel.trans ⟨hg.os, hg.tape, hg.output, hg.size, low⟩, h.sz, (far _ _ _ h.cp).trans h.cp, (World.cell?_of_block (low _ h.PB)).trans h.pt, (World.cell?_of_block (low _ h.tB)).trans h.tc, h.PB, h.tB, owns_of_ty h.vo hg (fun k e => ?_), hown, h.v7, fun k e => ?_, fun g e => (by cases e)⟩
  · obtain ⟨cs, hc⟩ := owns_ty h.tro e
    exact ⟨cs, _, _, hc, by decide⟩
  · obtain ⟨h1, h2⟩ := h.va k e
    exact ⟨(far _ _ _ h1).trans h1, h2⟩
end
theorem R2.start {V : World} {B g7 P tb toff : Nat} {vT : Value} {KL : List Vm} {m : Vm} {v t : Value} (h1 : B ≤ V.heap.size) (h2 : V.heap[g7]? = some (.cells (voC m).toArray 59 (0, 0))) (h3 : V.cell? ⟨P, 10, none⟩ = some vT) (h4 : V.cell? ⟨tb, toff, none⟩ = some (.int .i64 m.v.tr)) (h5 : P < B) (h6 : tb < B)
    (h7 : V.ownsRow B 59 4 v KL.length (flatV KL)) (h8 : V.ownsRow B 3 1 t KL.length (trs KL)) (h9 : v.ownBlock ≠ some g7) : R2 V V B g7 P tb toff vT m.v.tr KL m false false v t none none :=
  ⟨Below.refl _ _, h1, h2, h3, h4, h5, h6, h7, h8, h9, fun g e => (by cases e), fun g e => (by cases e)⟩
theorem R2.fin {V W : World} {B g7 P tb toff : Nat} {vT : Value} {tn : Int} {KL L : List Vm} {m : Vm} {v t : Value} {a b : Option Nat} (h : R2 V W B g7 P tb toff vT tn KL m true true v t a b) (hL : L = KL ++ [m]) :
    W.ownsRow B 59 4 v L.length (flatV L) ∧ W.ownsRow B 3 1 t L.length (trs L) := by
  have e : L.length = KL.length + 1 := by rw [hL]; simp
  rw [e, hL, ← flatV_snoc, ← trs_snoc]
  exact ⟨h.vo, h.tro⟩
theorem trs_at {L : List Vm} {i : Nat} {m : Vm} (h : L[i]? = some m) : (trs L)[i]? = some (.int .i64 m.v.tr) := by simp [trs, h]
theorem trs_len (L : List Vm) : (trs L).length = L.length * 1 := by simp [trs]
set_option maxRecDepth 100000 in
set_option maxHeartbeats 6400000 in
theorem remove1_any (f : Nat → Bool) {w0 : World} {base P done now : Nat} {c : Pc} {vV vT : Value} {ms : List Vm} {begun : Int} (w : World) (h : PlIn w0 w base P c done now vV vT ms begun) (hn : ms.length ≤ 16)
    (hc : ∀ i : Nat, i < ms.length → ∀ W, Below w.heap.size w W → Calls Tryz.prog 112 #[.int .i64 i] W fun e w' => e = .returned (.bool (f i)) ∧ ∃ n, W.drewN n = w') :
    Calls Tryz.prog 111 #[.pointer (some ⟨P, 0, none⟩), .func (.func 112) #[] #[]] w fun r w' => r = .returned (.tuple #[]) ∧ ∃ vV' vT', PlIn w0 w' base P c done now vV' vT' (keepF f 0 ms) begun ∧ w.grownBy w' (some P) := by
  have HC := Lib.hid hc
  have H := Lib.hid h
  clear hc
  obtain ⟨VA, vc, rfl⟩ := owns_form h.vrow
  obtain ⟨TA, tc, rfl⟩ := owns_form h.trow
  have hPl := lt_of_some h.box
  obtain ⟨W0, hW0⟩ : ∃ W0, (w.alloc (.cells #[] 59)).alloc (.cells #[] 3) = W0 := ⟨_, rfl⟩
  have HB0 : Hid (Below w.heap.size w W0) := by rw [← hW0]; exact ((Below.refl w.heap.size w).alloc (Nat.le_refl _) _).alloc (by simp) _
  have O1 : Hid (W0.ownsRow w.heap.size 59 4 (.slice (some ⟨w.heap.size, 0, none⟩) 0 0) 0 []) := by
    rw [← hW0]
    have := World.ownsRow.alloc (w := w.alloc (.cells #[] 59)) (base := w.heap.size) (e := 59) (size := 4) (v := .slice (some ⟨w.heap.size, 0, none⟩) 0 0) (n := 0) (xs := []) ⟨rfl, .inr ⟨w.heap.size, 0, #[], rfl, Nat.le_refl _, heap_alloc_new w _, Nat.le_refl _, by simp, rfl, rfl⟩⟩ (.cells #[] 3)
    exact this
  have O2 : Hid (W0.ownsRow w.heap.size 3 1 (.slice (some ⟨w.heap.size + 1, 0, none⟩) 0 0) 0 []) := by
    rw [← hW0]
    have hz : (w.alloc (.cells #[] 59)).heap.size = w.heap.size + 1 := by simp
    have hn := heap_alloc_new (w.alloc (.cells #[] 59)) (.cells #[] 3)
    rw [hz] at hn
    exact ⟨rfl, .inr ⟨w.heap.size + 1, 0, #[], rfl, by omega, hn, Nat.le_refl _, by simp, rfl, rfl⟩⟩
  have c9 := (pl_cells (h.new HB0.out).box).2.2.2.2.2.2.2.2.2.1
  clear h
  go_enter Tryz.func111, Tryz.ntmps111
  go_wp2_with fail
  clear hW0 c9
  go_loopw [4, 5, 15] (fun v t i wr => ∃ k : Nat, i = .int .i64 (k : Int) ∧ k ≤ ms.length ∧ Hid (wr.ownsRow w.heap.size 59 4 v (keepF f 0 (ms.take k)).length (flatV (keepF f 0 (ms.take k)))) ∧ Hid (wr.ownsRow w.heap.size 3 1 t (keepF f 0 (ms.take k)).length (trs (keepF f 0 (ms.take k)))) ∧ Hid (Below w.heap.size w wr)) (fun _ _ i _ => ms.length - (intOf i).toNat)
  case atStart => exact ⟨0, rfl, by omega, O1, O2, HB0⟩
  case round =>
    clear O1 O2 HB0
    obtain ⟨k, rfl, hk, hv, ht, hb⟩ := hrel
    by_cases hlt : k < ms.length
    · have H1 := Lib.hid (H.out.new hb.out)
      obtain ⟨m, hm⟩ : ∃ m, ms[k]? = some m := ⟨_, List.getElem?_eq_getElem hlt⟩
      obtain ⟨b, _, hVA, _, hbl, hv1, hv2, _, hcell⟩ := owns_cells H1.out.vrow (by omega) (flatV_len ms)
      injection hVA with q1 _ q2
      subst q1 q2
      obtain ⟨x0, x1, x2, x3⟩ := flatV_at hm
      have e0 := hcell _ _ x0
      have e1 := hcell _ _ x1
      have e2 := hcell _ _ x2
      have e3 := hcell _ _ x3
      obtain ⟨tb, _, hTA, _, htl, ht1, ht2, _, htc⟩ := owns_cells H1.out.trow (by omega) (trs_len ms)
      injection hTA with q1 _ q2
      subst q1 q2
      have e4 := htc _ _ (trs_at hm)
      have htl0 : tb < w.heap.size := (H.out.trow.lt tb rfl).2
      have HK : Hid (ms.take (k + 1) = ms.take k ++ [m]) := Lib.hid (by rw [List.take_add_one, hm]; rfl)
      have HKL : Hid ((ms.take k).length = k) := Lib.hid (by rw [List.length_take]; omega)
      have hc10 := (pl_cells H1.out.box).2.2.2.2.2.2.2.2.2.2.1
      have HTC := Lib.hid e4
      have H10 := Lib.hid hc10
      have hkl : (keepF f 0 (ms.take k)).length ≤ 16 := by have := keepF_len f (ms.take k) 0; have := List.length_take_le k ms; omega
      have HLEN := Lib.hid hkl
      obtain ⟨KL, hKL⟩ : ∃ KL, keepF f 0 (ms.take k) = KL := ⟨_, rfl⟩
      have HKe : Hid (keepF f 0 (ms.take (k + 1)) = KL ++ (if f k then [] else [m])) := Lib.hid (by rw [HK.out, keepF_snoc, HKL.out, Nat.zero_add, hKL])
      rw [hKL] at hv ht HLEN
      clear hcell htc x0 x1 x2 x3 hc10 hm e4 HK HKL hkl hKL
      have hsz := hb.out.size
      have B1 : Hid (Below w.heap.size w (wr.alloc (.cells (voC m).toArray 59))) := hb.out.alloc hsz _
      have N1 := Lib.hid (heap_alloc_new wr (.cells (voC m).toArray 59))
      have V1 : Hid ((wr.alloc (.cells (voC m).toArray 59)).ownsRow w.heap.size 59 4 u4 KL.length (flatV KL)) := hv.out.alloc _
      have T1 : Hid ((wr.alloc (.cells (voC m).toArray 59)).ownsRow w.heap.size 3 1 u5 KL.length (trs KL)) := ht.out.alloc _
      have V7 : Hid (u4.ownBlock ≠ some wr.heap.size) := Lib.hid (fun e => by have := (hv.out.lt _ e).2; omega)
      have P10 : Hid ((wr.alloc (.cells (voC m).toArray 59)).cell? ⟨P, 10, none⟩ = some (.slice (some ⟨tb, 0, none⟩) ms.length tc)) := Lib.hid ((World.cell?_of_block (Below.heap_alloc wr _ P (by omega))).trans H10.out)
      have T10 : Hid ((wr.alloc (.cells (voC m).toArray 59)).cell? ⟨tb, k, none⟩ = some (.int .i64 m.v.tr)) := Lib.hid ((World.cell?_of_block (Below.heap_alloc wr _ tb (by omega))).trans HTC.out)
      unfold voC at B1 N1 V1 T1 P10 T10
      go_wp2_with fail
      generalize wr.alloc (.cells [.int .i64 m.v.body, .slice m.M m.v.ms.length m.mc, .slice (some ⟨m.S, 0, none⟩) m.v.ms.length m.v.ms.length, .slice m.I m.v.xs.length m.ic].toArray 59) = W1 at *
      refine (HC.out k hlt W1 B1.out).mono ?_
      rintro q W2 ⟨rfl, nd, rfl⟩
      clear e0 e1 e2 e3
      cases hf : f k
      · rw [hf, if_neg (by simp)] at HKe
        clear hf
        go_wp2_with fail
        have S0 : Hid (R2 (W1.drewN (nd + 1)) (W1.drewN (nd + 1)) w.heap.size wr.heap.size P tb k (.slice (some ⟨tb, 0, none⟩) ms.length tc) m.v.tr KL m false false u4 u5 none none) := R2.start B1.out.size N1.out P10.out T10.out hPl htl0 V1.out T1.out V7.out
        have B2 : Hid (Below w.heap.size w (W1.drewN (nd + 1))) := below_drewN B1.out _
        clear N1 V1 T1 V7 P10 T10 B1
        refine wp_region_held_drew (S := fun w' => w'.cell? ⟨wr.heap.size, 0, none⟩ = some (.int .i64 m.v.body) ∧ w'.cell? ⟨wr.heap.size, 1, none⟩ = some (.slice m.M m.v.ms.length m.mc) ∧ w'.cell? ⟨wr.heap.size, 2, none⟩ = some (.slice (some ⟨m.S, 0, none⟩) m.v.ms.length m.v.ms.length) ∧ w'.cell? ⟨wr.heap.size, 3, none⟩ = some (.slice m.I m.v.xs.length m.ic) ∧
          w'.cell? ⟨P, 10, none⟩ = some (.slice (some ⟨tb, 0, none⟩) ms.length tc) ∧ w'.cell? ⟨tb, k, none⟩ = some (.int .i64 m.v.tr)) (by kernel_rfl) S0.out.held (fun hHeld => ?_)
        have hld : (W1.drewN nd).drew = W1.drewN (nd + 1) := rfl
        generalize (W1.drewN nd).drew = V at *
        subst hld
        generalize W1.drewN (nd + 1) = V at *
        have hz2 := B2.out.size
        have hkl2 : KL.length ≤ 16 := HLEN.out
        generalize wr.heap.size = g7 at *
        refine wpAnyH_take (i := 0) (oi := _) (v := ?_) rfl (by kernel_rfl) (by kernel_rfl) (by kernel_rfl) (fun _ _ _ h => h) (Or.inl ⟨by rfl, ?_⟩) (by assumption) ?_
        rotate_left
        · (intro w hSw; (try dsimp only at hSw); go_simp; try (with_reducible rfl))
        (try simp only [Act.put, List.setIfInBounds_toArray, List.set_cons_zero, List.set_cons_succ, List.getElem_toArray, List.getElem_cons_succ, List.getElem_cons_zero])
        refine wpAnyH_take (i := 1) (oi := _) (v := ?_) rfl (by kernel_rfl) (by kernel_rfl) (by kernel_rfl) (fun _ _ _ h => h) (Or.inl ⟨by rfl, ?_⟩) (by assumption) ?_
        rotate_left
        · (intro w hSw; (try dsimp only at hSw); go_simp; try (with_reducible rfl))
        (try simp only [Act.put, List.setIfInBounds_toArray, List.set_cons_zero, List.set_cons_succ, List.getElem_toArray, List.getElem_cons_succ, List.getElem_cons_zero])
        refine wpAnyH_take (i := 4) (oi := _) (v := ?_) rfl (by kernel_rfl) (by kernel_rfl) (by kernel_rfl) (fun _ _ _ h => h) (Or.inl ⟨by rfl, ?_⟩) (by assumption) ?_
        rotate_left
        · (intro w hSw; (try dsimp only at hSw); go_simp; try (with_reducible rfl))
        (try simp only [Act.put, List.setIfInBounds_toArray, List.set_cons_zero, List.set_cons_succ, List.getElem_toArray, List.getElem_cons_succ, List.getElem_cons_zero])
        refine wpAnyH_take (i := 5) (oi := _) (v := ?_) rfl (by kernel_rfl) (by kernel_rfl) (by kernel_rfl) (fun _ _ _ h => h) (Or.inl ⟨by rfl, ?_⟩) (by assumption) ?_
        rotate_left
        · (intro w hSw; (try dsimp only at hSw); go_simp; try (with_reducible rfl))
        (try simp only [Act.put, List.setIfInBounds_toArray, List.set_cons_zero, List.set_cons_succ, List.getElem_toArray, List.getElem_cons_succ, List.getElem_cons_zero])
        refine wpAnyH_take (i := 6) (oi := _) (v := ?_) rfl (by kernel_rfl) (by kernel_rfl) (by kernel_rfl) (fun _ _ _ h => h) (Or.inl ⟨by rfl, ?_⟩) (by assumption) ?_
        rotate_left
        · (intro w hSw; (try dsimp only at hSw); go_simp; try (with_reducible rfl))
        (try simp only [Act.put, List.setIfInBounds_toArray, List.set_cons_zero, List.set_cons_succ, List.getElem_toArray, List.getElem_cons_succ, List.getElem_cons_zero])
        refine wpAnyH_take (i := 7) (oi := _) (v := ?_) rfl (by kernel_rfl) (by kernel_rfl) (by kernel_rfl) (fun _ _ _ h => h) (Or.inl ⟨by rfl, ?_⟩) (by assumption) ?_
        rotate_left
        · (intro w hSw; (try dsimp only at hSw); go_simp; try (with_reducible rfl))
        (try simp only [Act.put, List.setIfInBounds_toArray, List.set_cons_zero, List.set_cons_succ, List.getElem_toArray, List.getElem_cons_succ, List.getElem_cons_zero])
        refine wpAnyH_take (i := 8) (oi := _) (v := ?_) rfl (by kernel_rfl) (by kernel_rfl) (by kernel_rfl) (fun _ _ _ h => h) (Or.inl ⟨by rfl, ?_⟩) (by assumption) ?_
        rotate_left
        · (intro w hSw; (try dsimp only at hSw); go_simp; try (with_reducible rfl))
        (try simp only [Act.put, List.setIfInBounds_toArray, List.set_cons_zero, List.set_cons_succ, List.getElem_toArray, List.getElem_cons_succ, List.getElem_cons_zero])
        refine wpAnyH_take (i := 9) (oi := _) (v := ?_) rfl (by kernel_rfl) (by kernel_rfl) (by kernel_rfl) (fun _ _ _ h => h) (Or.inl ⟨by rfl, ?_⟩) (by assumption) ?_
        rotate_left
        · (intro w hSw; (try dsimp only at hSw); go_simp; try (with_reducible rfl))
        (try simp only [Act.put, List.setIfInBounds_toArray, List.set_cons_zero, List.set_cons_succ, List.getElem_toArray, List.getElem_cons_succ, List.getElem_cons_zero])
        refine wpAnyH_take (i := 10) (oi := _) (v := ?_) rfl (by kernel_rfl) (by kernel_rfl) (by kernel_rfl) (fun _ _ _ h => h) (Or.inl ⟨by rfl, ?_⟩) (by assumption) ?_
        rotate_left
        · (intro w hSw; (try dsimp only at hSw); go_simp; try (with_reducible rfl))
        (try simp only [Act.put, List.setIfInBounds_toArray, List.set_cons_zero, List.set_cons_succ, List.getElem_toArray, List.getElem_cons_succ, List.getElem_cons_zero])
        refine wpAnyH_take (i := 11) (oi := _) (v := ?_) rfl (by kernel_rfl) (by kernel_rfl) (by kernel_rfl) (fun _ _ _ h => h) (Or.inl ⟨by rfl, ?_⟩) (by assumption) ?_
        rotate_left
        · (intro w hSw; (try dsimp only at hSw); go_simp; try (with_reducible rfl))
        (try simp only [Act.put, List.setIfInBounds_toArray, List.set_cons_zero, List.set_cons_succ, List.getElem_toArray, List.getElem_cons_succ, List.getElem_cons_zero])
        refine wpAnyH_ready (rs := [2, 12]) (by kernel_rfl) (by simp) ?_
        refine (AllReadyH.cons (o := _) rfl (fun K hK => ?_) (AllReadyH.cons (o := _) rfl (fun K hK => ?_) AllReadyH.nil))
        · go_simp
          have S12 := Lib.hid (S0.out.op2 (g0 := V.heap.size) rfl)
          refine hK.out _ _ ?_ (fun hHeldN => ?_)
          · exact S12.out.held
          clear hHeld hK K
          have hHeld := hHeldN
          clear hHeldN
          (try simp only [Act.put, List.setIfInBounds_toArray, List.set_cons_zero, List.set_cons_succ, List.getElem_toArray, List.getElem_cons_succ, List.getElem_cons_zero])
          refine wpAnyH_ready (rs := [3, 12]) (by kernel_rfl) (by simp) ?_
          refine (AllReadyH.cons (o := _) rfl (fun K hK => ?_) (AllReadyH.cons (o := _) rfl (fun K hK => ?_) AllReadyH.nil))
          · obtain ⟨i0, hi0, hz0, hz1, hz2⟩ := info_parts voice_info
            refine step_append_lies _ (by rfl) (.tmp 24) (.tmp 26) 29 (by rfl) w.heap.size 59 i0 _ 4 80 Tryz.underlying29 hi0 hz0 hz1 hz2 rfl (by omega) _ KL.length (flatV KL) (by rfl) S12.out.vOwn ⟨_, 0, none⟩ 1 1 (voC m) (by rfl) (by rfl) S12.out.vNews (voC_one m) (by omega) (by simp only [maxLen]; omega) (by omega) S12.out.size _ rfl ?_
            intro gg cap w4 hown4 hgrow hat hlt4
            have S13 := Lib.hid (S12.out.op3 hown4 hgrow hat)
            clear hown4 hgrow hat hlt4
            refine hK.out _ _ ?_ (fun hHeldN => ?_)
            · exact S13.out.held
            clear hHeld hK K
            have hHeld := hHeldN
            clear hHeldN
            (try simp only [Act.put, List.setIfInBounds_toArray, List.set_cons_zero, List.set_cons_succ, List.getElem_toArray, List.getElem_cons_succ, List.getElem_cons_zero])
            refine wpAnyH_ready (rs := [12]) (by kernel_rfl) (by simp) ?_
            refine (AllReadyH.cons (o := _) rfl (fun K hK => ?_) AllReadyH.nil)
            go_simp
            have S14 := Lib.hid (S13.out.op12 (g0 := w4.heap.size) rfl)
            refine hK.out _ _ ?_ (fun hHeldN => ?_)
            · exact S14.out.held
            clear hHeld hK K
            have hHeld := hHeldN
            clear hHeldN
            (try simp only [Act.put, List.setIfInBounds_toArray, List.set_cons_zero, List.set_cons_succ, List.getElem_toArray, List.getElem_cons_succ, List.getElem_cons_zero])
            refine wpAnyH_ready (rs := [13]) (by kernel_rfl) (by simp) ?_
            refine (AllReadyH.cons (o := _) rfl (fun K hK => ?_) AllReadyH.nil)
            obtain ⟨i0, hi0, hz0, hz1, hz2⟩ := info_parts int_info
            refine step_append_lies _ (by rfl) (.tmp 28) (.tmp 36) 51 (by rfl) w.heap.size 3 i0 _ 1 8 Tryz.underlying51 hi0 hz0 hz1 hz2 rfl (by omega) _ KL.length (trs KL) (by rfl) S14.out.tOwn ⟨_, 0, none⟩ 1 1 [.int .i64 m.v.tr] (by rfl) (by rfl) S14.out.tNews (by simp [Value.oneCell']) (by omega) (by simp only [maxLen]; omega) (by omega) S14.out.size _ rfl ?_
            intro gg cap w4 hown4 hgrow hat hlt4
            have S15 := Lib.hid (S14.out.op13 hown4 hgrow hat)
            clear hown4 hgrow hat hlt4
            refine hK.out _ _ ?_ (fun hHeldN => ?_)
            · exact S15.out.held
            clear hHeld hK K
            have hHeld := hHeldN
            clear hHeldN
            (try simp only [Act.put, List.setIfInBounds_toArray, List.set_cons_zero, List.set_cons_succ, List.getElem_toArray, List.getElem_cons_succ, List.getElem_cons_zero])
            have FN := Lib.hid (S15.out.fin HKe.out)
            have BN := Lib.hid (B2.out.trans S15.out.bel)
            refine wpAnyH_take (i := 14) (oi := _) (v := ?_) rfl (by kernel_rfl) (by kernel_rfl) (by kernel_rfl) (fun _ _ _ h => h) (Or.inl ⟨by rfl, ?_⟩) (by assumption) ?_
            rotate_left
            · (intro w hSw; (try dsimp only at hSw); go_simp; try (with_reducible rfl))
            (try simp only [Act.put, List.setIfInBounds_toArray, List.set_cons_zero, List.set_cons_succ, List.getElem_toArray, List.getElem_cons_succ, List.getElem_cons_zero])
            refine wpAnyH_take (i := 15) (oi := _) (v := ?_) rfl (by kernel_rfl) (by kernel_rfl) (by kernel_rfl) (fun _ _ _ h => h) (Or.inl ⟨by rfl, ?_⟩) (by assumption) ?_
            rotate_left
            · (intro w hSw; (try dsimp only at hSw); go_simp; try (with_reducible rfl))
            (try simp only [Act.put, List.setIfInBounds_toArray, List.set_cons_zero, List.set_cons_succ, List.getElem_toArray, List.getElem_cons_succ, List.getElem_cons_zero])
            refine wpAnyH_done (by kernel_rfl) ?_ _
            (try simp only [List.getElem_toArray, List.getElem_cons_succ, List.getElem_cons_zero, Act.put, List.setIfInBounds_toArray, List.set_cons_zero, List.set_cons_succ])
            go_wp2_with fail
            go_roundw
            case rel => exact ⟨k + 1, by go_num, by omega, FN.out.1, FN.out.2, BN⟩
            case measure => simp [intOf]; omega
          · go_simp
            have S16 := Lib.hid (S12.out.op12 (g0 := V.heap.size + 1) (by simp))
            refine hK.out _ _ ?_ (fun hHeldN => ?_)
            · exact S16.out.held
            clear hHeld hK K
            have hHeld := hHeldN
            clear hHeldN
            (try simp only [Act.put, List.setIfInBounds_toArray, List.set_cons_zero, List.set_cons_succ, List.getElem_toArray, List.getElem_cons_succ, List.getElem_cons_zero])
            refine wpAnyH_ready (rs := [3]) (by kernel_rfl) (by simp) ?_
            refine (AllReadyH.cons (o := _) rfl (fun K hK => ?_) AllReadyH.nil)
            obtain ⟨i0, hi0, hz0, hz1, hz2⟩ := info_parts voice_info
            refine step_append_lies _ (by rfl) (.tmp 24) (.tmp 26) 29 (by rfl) w.heap.size 59 i0 _ 4 80 Tryz.underlying29 hi0 hz0 hz1 hz2 rfl (by omega) _ KL.length (flatV KL) (by rfl) S16.out.vOwn ⟨_, 0, none⟩ 1 1 (voC m) (by rfl) (by rfl) S16.out.vNews (voC_one m) (by omega) (by simp only [maxLen]; omega) (by omega) S16.out.size _ rfl ?_
            intro gg cap w4 hown4 hgrow hat hlt4
            have S17 := Lib.hid (S16.out.op3 hown4 hgrow hat)
            clear hown4 hgrow hat hlt4
            refine hK.out _ _ ?_ (fun hHeldN => ?_)
            · exact S17.out.held
            clear hHeld hK K
            have hHeld := hHeldN
            clear hHeldN
            (try simp only [Act.put, List.setIfInBounds_toArray, List.set_cons_zero, List.set_cons_succ, List.getElem_toArray, List.getElem_cons_succ, List.getElem_cons_zero])
            refine wpAnyH_ready (rs := [13]) (by kernel_rfl) (by simp) ?_
            refine (AllReadyH.cons (o := _) rfl (fun K hK => ?_) AllReadyH.nil)
            obtain ⟨i0, hi0, hz0, hz1, hz2⟩ := info_parts int_info
            refine step_append_lies _ (by rfl) (.tmp 28) (.tmp 36) 51 (by rfl) w.heap.size 3 i0 _ 1 8 Tryz.underlying51 hi0 hz0 hz1 hz2 rfl (by omega) _ KL.length (trs KL) (by rfl) S17.out.tOwn ⟨_, 0, none⟩ 1 1 [.int .i64 m.v.tr] (by rfl) (by rfl) S17.out.tNews (by simp [Value.oneCell']) (by omega) (by simp only [maxLen]; omega) (by omega) S17.out.size _ rfl ?_
            intro gg cap w4 hown4 hgrow hat hlt4
            have S18 := Lib.hid (S17.out.op13 hown4 hgrow hat)
            clear hown4 hgrow hat hlt4
            refine hK.out _ _ ?_ (fun hHeldN => ?_)
            · exact S18.out.held
            clear hHeld hK K
            have hHeld := hHeldN
            clear hHeldN
            (try simp only [Act.put, List.setIfInBounds_toArray, List.set_cons_zero, List.set_cons_succ, List.getElem_toArray, List.getElem_cons_succ, List.getElem_cons_zero])
            have FN := Lib.hid (S18.out.fin HKe.out)
            have BN := Lib.hid (B2.out.trans S18.out.bel)
            refine wpAnyH_take (i := 14) (oi := _) (v := ?_) rfl (by kernel_rfl) (by kernel_rfl) (by kernel_rfl) (fun _ _ _ h => h) (Or.inl ⟨by rfl, ?_⟩) (by assumption) ?_
            rotate_left
            · (intro w hSw; (try dsimp only at hSw); go_simp; try (with_reducible rfl))
            (try simp only [Act.put, List.setIfInBounds_toArray, List.set_cons_zero, List.set_cons_succ, List.getElem_toArray, List.getElem_cons_succ, List.getElem_cons_zero])
            refine wpAnyH_take (i := 15) (oi := _) (v := ?_) rfl (by kernel_rfl) (by kernel_rfl) (by kernel_rfl) (fun _ _ _ h => h) (Or.inl ⟨by rfl, ?_⟩) (by assumption) ?_
            rotate_left
            · (intro w hSw; (try dsimp only at hSw); go_simp; try (with_reducible rfl))
            (try simp only [Act.put, List.setIfInBounds_toArray, List.set_cons_zero, List.set_cons_succ, List.getElem_toArray, List.getElem_cons_succ, List.getElem_cons_zero])
            refine wpAnyH_done (by kernel_rfl) ?_ _
            (try simp only [List.getElem_toArray, List.getElem_cons_succ, List.getElem_cons_zero, Act.put, List.setIfInBounds_toArray, List.set_cons_zero, List.set_cons_succ])
            go_wp2_with fail
            go_roundw
            case rel => exact ⟨k + 1, by go_num, by omega, FN.out.1, FN.out.2, BN⟩
            case measure => simp [intOf]; omega
        · go_simp
          have S19 := Lib.hid (S0.out.op12 (g0 := V.heap.size) rfl)
          refine hK.out _ _ ?_ (fun hHeldN => ?_)
          · exact S19.out.held
          clear hHeld hK K
          have hHeld := hHeldN
          clear hHeldN
          (try simp only [Act.put, List.setIfInBounds_toArray, List.set_cons_zero, List.set_cons_succ, List.getElem_toArray, List.getElem_cons_succ, List.getElem_cons_zero])
          refine wpAnyH_ready (rs := [2]) (by kernel_rfl) (by simp) ?_
          refine (AllReadyH.cons (o := _) rfl (fun K hK => ?_) AllReadyH.nil)
          go_simp
          have S20 := Lib.hid (S19.out.op2 (g0 := V.heap.size + 1) (by simp))
          refine hK.out _ _ ?_ (fun hHeldN => ?_)
          · exact S20.out.held
          clear hHeld hK K
          have hHeld := hHeldN
          clear hHeldN
          (try simp only [Act.put, List.setIfInBounds_toArray, List.set_cons_zero, List.set_cons_succ, List.getElem_toArray, List.getElem_cons_succ, List.getElem_cons_zero])
          refine wpAnyH_ready (rs := [3]) (by kernel_rfl) (by simp) ?_
          refine (AllReadyH.cons (o := _) rfl (fun K hK => ?_) AllReadyH.nil)
          obtain ⟨i0, hi0, hz0, hz1, hz2⟩ := info_parts voice_info
          refine step_append_lies _ (by rfl) (.tmp 24) (.tmp 26) 29 (by rfl) w.heap.size 59 i0 _ 4 80 Tryz.underlying29 hi0 hz0 hz1 hz2 rfl (by omega) _ KL.length (flatV KL) (by rfl) S20.out.vOwn ⟨_, 0, none⟩ 1 1 (voC m) (by rfl) (by rfl) S20.out.vNews (voC_one m) (by omega) (by simp only [maxLen]; omega) (by omega) S20.out.size _ rfl ?_
          intro gg cap w4 hown4 hgrow hat hlt4
          have S21 := Lib.hid (S20.out.op3 hown4 hgrow hat)
          clear hown4 hgrow hat hlt4
          refine hK.out _ _ ?_ (fun hHeldN => ?_)
          · exact S21.out.held
          clear hHeld hK K
          have hHeld := hHeldN
          clear hHeldN
          (try simp only [Act.put, List.setIfInBounds_toArray, List.set_cons_zero, List.set_cons_succ, List.getElem_toArray, List.getElem_cons_succ, List.getElem_cons_zero])
          refine wpAnyH_ready (rs := [13]) (by kernel_rfl) (by simp) ?_
          refine (AllReadyH.cons (o := _) rfl (fun K hK => ?_) AllReadyH.nil)
          obtain ⟨i0, hi0, hz0, hz1, hz2⟩ := info_parts int_info
          refine step_append_lies _ (by rfl) (.tmp 28) (.tmp 36) 51 (by rfl) w.heap.size 3 i0 _ 1 8 Tryz.underlying51 hi0 hz0 hz1 hz2 rfl (by omega) _ KL.length (trs KL) (by rfl) S21.out.tOwn ⟨_, 0, none⟩ 1 1 [.int .i64 m.v.tr] (by rfl) (by rfl) S21.out.tNews (by simp [Value.oneCell']) (by omega) (by simp only [maxLen]; omega) (by omega) S21.out.size _ rfl ?_
          intro gg cap w4 hown4 hgrow hat hlt4
          have S22 := Lib.hid (S21.out.op13 hown4 hgrow hat)
          clear hown4 hgrow hat hlt4
          refine hK.out _ _ ?_ (fun hHeldN => ?_)
          · exact S22.out.held
          clear hHeld hK K
          have hHeld := hHeldN
          clear hHeldN
          (try simp only [Act.put, List.setIfInBounds_toArray, List.set_cons_zero, List.set_cons_succ, List.getElem_toArray, List.getElem_cons_succ, List.getElem_cons_zero])
          have FN := Lib.hid (S22.out.fin HKe.out)
          have BN := Lib.hid (B2.out.trans S22.out.bel)
          refine wpAnyH_take (i := 14) (oi := _) (v := ?_) rfl (by kernel_rfl) (by kernel_rfl) (by kernel_rfl) (fun _ _ _ h => h) (Or.inl ⟨by rfl, ?_⟩) (by assumption) ?_
          rotate_left
          · (intro w hSw; (try dsimp only at hSw); go_simp; try (with_reducible rfl))
          (try simp only [Act.put, List.setIfInBounds_toArray, List.set_cons_zero, List.set_cons_succ, List.getElem_toArray, List.getElem_cons_succ, List.getElem_cons_zero])
          refine wpAnyH_take (i := 15) (oi := _) (v := ?_) rfl (by kernel_rfl) (by kernel_rfl) (by kernel_rfl) (fun _ _ _ h => h) (Or.inl ⟨by rfl, ?_⟩) (by assumption) ?_
          rotate_left
          · (intro w hSw; (try dsimp only at hSw); go_simp; try (with_reducible rfl))
          (try simp only [Act.put, List.setIfInBounds_toArray, List.set_cons_zero, List.set_cons_succ, List.getElem_toArray, List.getElem_cons_succ, List.getElem_cons_zero])
          refine wpAnyH_done (by kernel_rfl) ?_ _
          (try simp only [List.getElem_toArray, List.getElem_cons_succ, List.getElem_cons_zero, Act.put, List.setIfInBounds_toArray, List.set_cons_zero, List.set_cons_succ])
          go_wp2_with fail
          go_roundw
          case rel => exact ⟨k + 1, by go_num, by omega, FN.out.1, FN.out.2, BN⟩
          case measure => simp [intOf]; omega
      · rw [hf, if_pos rfl, List.append_nil] at HKe
        clear hf
        have HB2 : Hid (Below w.heap.size w (W1.drewN nd)) := below_drewN B1.out _
        have HV2 : Hid ((W1.drewN nd).ownsRow w.heap.size 59 4 u4 (keepF f 0 (ms.take (k + 1))).length (flatV (keepF f 0 (ms.take (k + 1))))) := Lib.hid (by rw [HKe.out]; exact V1.out)
        have HT2 : Hid ((W1.drewN nd).ownsRow w.heap.size 3 1 u5 (keepF f 0 (ms.take (k + 1))).length (trs (keepF f 0 (ms.take (k + 1))))) := Lib.hid (by rw [HKe.out]; exact T1.out)
        clear N1 V1 T1 V7 P10 T10 B1 HKe
        go_wp2_with fail
        go_roundw
        case rel => exact ⟨k + 1, by go_num, by omega, HV2, HT2, HB2⟩
        case measure => simp [intOf]; omega
    · obtain rfl : k = ms.length := by omega
      have HV2 := Lib.hid hv.out
      have HT2 := Lib.hid ht.out
      have HB2 := Lib.hid hb.out
      rw [List.take_length] at HV2 HT2
      clear hv ht hb
      have H1 := Lib.hid (H.out.new HB2.out)
      have hv3 := owns_lower (lo' := base) HV2.out (Nat.le_trans H.out.hs H.out.bel.size)
      have ht3 := owns_lower (lo' := base) HT2.out (Nat.le_trans H.out.hs H.out.bel.size)
      have hvo : ∀ m ∈ keepF f 0 ms, VmIn wr base c.fb m := fun m hm => H1.out.vo m ((keepF_sub f ms 0).subset hm)
      have hap : Apart (keepF f 0 ms) := List.Pairwise.sublist (keepF_sub f ms 0) H1.out.apart
      have HN := Lib.hid (H1.out.setRows hv3 ht3 hvo hap)
      have c9 := (pl_cells H1.out.box).2.2.2.2.2.2.2.2.2.1
      have c10 := (pl_cells H1.out.box).2.2.2.2.2.2.2.2.2.2.1
      have f9 := free_cells H1.out.box 9
      have f10 := free_cells H1.out.box 10
      clear hv3 ht3 hvo hap
      obtain ⟨VA', vc', rfl⟩ := owns_form HV2.out
      obtain ⟨TA', tc', rfl⟩ := owns_form HT2.out
      go_wp2_with fail
      go_end0
      exact ⟨rfl, _, _, HN.out, grown_trans (grown_trans ⟨HB2.out.os, HB2.out.tape, HB2.out.output, HB2.out.size, fun i hi _ => HB2.out.block i hi⟩ (grown_set _ _)) (grown_set _ _)⟩
set_option maxRecDepth 100000 in
set_option maxHeartbeats 6400000 in
theorem remove2_any (pb eb : Nat) (f : Nat → Bool) {w0 : World} {base P done now : Nat} {c : Pc} {vV vT : Value} {ms : List Vm} {begun : Int} (w : World) (h : PlIn w0 w base P c done now vV vT ms begun) (hn : ms.length ≤ 16)
    (hc : ∀ i : Nat, i < ms.length → ∀ W, Below w.heap.size w W → Calls Tryz.prog 115 #[.int .i64 i, .pointer (some ⟨pb, 0, none⟩), .pointer (some ⟨eb, 0, none⟩)] W fun e w' => e = .returned (.bool (f i)) ∧ ∃ n, W.drewN n = w') :
    Calls Tryz.prog 111 #[.pointer (some ⟨P, 0, none⟩), .func (.func 115) #[] #[.pointer (some ⟨pb, 0, none⟩), .pointer (some ⟨eb, 0, none⟩)]] w fun r w' => r = .returned (.tuple #[]) ∧ ∃ vV' vT', PlIn w0 w' base P c done now vV' vT' (keepF f 0 ms) begun ∧ w.grownBy w' (some P) := by
  have HC := Lib.hid hc
  have H := Lib.hid h
  clear hc
  obtain ⟨VA, vc, rfl⟩ := owns_form h.vrow
  obtain ⟨TA, tc, rfl⟩ := owns_form h.trow
  have hPl := lt_of_some h.box
  obtain ⟨W0, hW0⟩ : ∃ W0, (w.alloc (.cells #[] 59)).alloc (.cells #[] 3) = W0 := ⟨_, rfl⟩
  have HB0 : Hid (Below w.heap.size w W0) := by rw [← hW0]; exact ((Below.refl w.heap.size w).alloc (Nat.le_refl _) _).alloc (by simp) _
  have O1 : Hid (W0.ownsRow w.heap.size 59 4 (.slice (some ⟨w.heap.size, 0, none⟩) 0 0) 0 []) := by
    rw [← hW0]
    have := World.ownsRow.alloc (w := w.alloc (.cells #[] 59)) (base := w.heap.size) (e := 59) (size := 4) (v := .slice (some ⟨w.heap.size, 0, none⟩) 0 0) (n := 0) (xs := []) ⟨rfl, .inr ⟨w.heap.size, 0, #[], rfl, Nat.le_refl _, heap_alloc_new w _, Nat.le_refl _, by simp, rfl, rfl⟩⟩ (.cells #[] 3)
    exact this
  have O2 : Hid (W0.ownsRow w.heap.size 3 1 (.slice (some ⟨w.heap.size + 1, 0, none⟩) 0 0) 0 []) := by
    rw [← hW0]
    have hz : (w.alloc (.cells #[] 59)).heap.size = w.heap.size + 1 := by simp
    have hn := heap_alloc_new (w.alloc (.cells #[] 59)) (.cells #[] 3)
    rw [hz] at hn
    exact ⟨rfl, .inr ⟨w.heap.size + 1, 0, #[], rfl, by omega, hn, Nat.le_refl _, by simp, rfl, rfl⟩⟩
  have c9 := (pl_cells (h.new HB0.out).box).2.2.2.2.2.2.2.2.2.1
  clear h
  go_enter Tryz.func111, Tryz.ntmps111
  go_wp2_with fail
  clear hW0 c9
  go_loopw [4, 5, 15] (fun v t i wr => ∃ k : Nat, i = .int .i64 (k : Int) ∧ k ≤ ms.length ∧ Hid (wr.ownsRow w.heap.size 59 4 v (keepF f 0 (ms.take k)).length (flatV (keepF f 0 (ms.take k)))) ∧ Hid (wr.ownsRow w.heap.size 3 1 t (keepF f 0 (ms.take k)).length (trs (keepF f 0 (ms.take k)))) ∧ Hid (Below w.heap.size w wr)) (fun _ _ i _ => ms.length - (intOf i).toNat)
  case atStart => exact ⟨0, rfl, by omega, O1, O2, HB0⟩
  case round =>
    clear O1 O2 HB0
    obtain ⟨k, rfl, hk, hv, ht, hb⟩ := hrel
    by_cases hlt : k < ms.length
    · have H1 := Lib.hid (H.out.new hb.out)
      obtain ⟨m, hm⟩ : ∃ m, ms[k]? = some m := ⟨_, List.getElem?_eq_getElem hlt⟩
      obtain ⟨b, _, hVA, _, hbl, hv1, hv2, _, hcell⟩ := owns_cells H1.out.vrow (by omega) (flatV_len ms)
      injection hVA with q1 _ q2
      subst q1 q2
      obtain ⟨x0, x1, x2, x3⟩ := flatV_at hm
      have e0 := hcell _ _ x0
      have e1 := hcell _ _ x1
      have e2 := hcell _ _ x2
      have e3 := hcell _ _ x3
      obtain ⟨tb, _, hTA, _, htl, ht1, ht2, _, htc⟩ := owns_cells H1.out.trow (by omega) (trs_len ms)
      injection hTA with q1 _ q2
      subst q1 q2
      have e4 := htc _ _ (trs_at hm)
      have htl0 : tb < w.heap.size := (H.out.trow.lt tb rfl).2
      have HK : Hid (ms.take (k + 1) = ms.take k ++ [m]) := Lib.hid (by rw [List.take_add_one, hm]; rfl)
      have HKL : Hid ((ms.take k).length = k) := Lib.hid (by rw [List.length_take]; omega)
      have hc10 := (pl_cells H1.out.box).2.2.2.2.2.2.2.2.2.2.1
      have HTC := Lib.hid e4
      have H10 := Lib.hid hc10
      have hkl : (keepF f 0 (ms.take k)).length ≤ 16 := by have := keepF_len f (ms.take k) 0; have := List.length_take_le k ms; omega
      have HLEN := Lib.hid hkl
      obtain ⟨KL, hKL⟩ : ∃ KL, keepF f 0 (ms.take k) = KL := ⟨_, rfl⟩
      have HKe : Hid (keepF f 0 (ms.take (k + 1)) = KL ++ (if f k then [] else [m])) := Lib.hid (by rw [HK.out, keepF_snoc, HKL.out, Nat.zero_add, hKL])
      rw [hKL] at hv ht HLEN
      clear hcell htc x0 x1 x2 x3 hc10 hm e4 HK HKL hkl hKL
      have hsz := hb.out.size
      have B1 : Hid (Below w.heap.size w (wr.alloc (.cells (voC m).toArray 59))) := hb.out.alloc hsz _
      have N1 := Lib.hid (heap_alloc_new wr (.cells (voC m).toArray 59))
      have V1 : Hid ((wr.alloc (.cells (voC m).toArray 59)).ownsRow w.heap.size 59 4 u4 KL.length (flatV KL)) := hv.out.alloc _
      have T1 : Hid ((wr.alloc (.cells (voC m).toArray 59)).ownsRow w.heap.size 3 1 u5 KL.length (trs KL)) := ht.out.alloc _
      have V7 : Hid (u4.ownBlock ≠ some wr.heap.size) := Lib.hid (fun e => by have := (hv.out.lt _ e).2; omega)
      have P10 : Hid ((wr.alloc (.cells (voC m).toArray 59)).cell? ⟨P, 10, none⟩ = some (.slice (some ⟨tb, 0, none⟩) ms.length tc)) := Lib.hid ((World.cell?_of_block (Below.heap_alloc wr _ P (by omega))).trans H10.out)
      have T10 : Hid ((wr.alloc (.cells (voC m).toArray 59)).cell? ⟨tb, k, none⟩ = some (.int .i64 m.v.tr)) := Lib.hid ((World.cell?_of_block (Below.heap_alloc wr _ tb (by omega))).trans HTC.out)
      unfold voC at B1 N1 V1 T1 P10 T10
      go_wp2_with fail
      generalize wr.alloc (.cells [.int .i64 m.v.body, .slice m.M m.v.ms.length m.mc, .slice (some ⟨m.S, 0, none⟩) m.v.ms.length m.v.ms.length, .slice m.I m.v.xs.length m.ic].toArray 59) = W1 at *
      refine (HC.out k hlt W1 B1.out).mono ?_
      rintro q W2 ⟨rfl, nd, rfl⟩
      clear e0 e1 e2 e3
      cases hf : f k
      · rw [hf, if_neg (by simp)] at HKe
        clear hf
        go_wp2_with fail
        have S0 : Hid (R2 (W1.drewN (nd + 1)) (W1.drewN (nd + 1)) w.heap.size wr.heap.size P tb k (.slice (some ⟨tb, 0, none⟩) ms.length tc) m.v.tr KL m false false u4 u5 none none) := R2.start B1.out.size N1.out P10.out T10.out hPl htl0 V1.out T1.out V7.out
        have B2 : Hid (Below w.heap.size w (W1.drewN (nd + 1))) := below_drewN B1.out _
        clear N1 V1 T1 V7 P10 T10 B1
        refine wp_region_held_drew (S := fun w' => w'.cell? ⟨wr.heap.size, 0, none⟩ = some (.int .i64 m.v.body) ∧ w'.cell? ⟨wr.heap.size, 1, none⟩ = some (.slice m.M m.v.ms.length m.mc) ∧ w'.cell? ⟨wr.heap.size, 2, none⟩ = some (.slice (some ⟨m.S, 0, none⟩) m.v.ms.length m.v.ms.length) ∧ w'.cell? ⟨wr.heap.size, 3, none⟩ = some (.slice m.I m.v.xs.length m.ic) ∧
          w'.cell? ⟨P, 10, none⟩ = some (.slice (some ⟨tb, 0, none⟩) ms.length tc) ∧ w'.cell? ⟨tb, k, none⟩ = some (.int .i64 m.v.tr)) (by kernel_rfl) S0.out.held (fun hHeld => ?_)
        have hld : (W1.drewN nd).drew = W1.drewN (nd + 1) := rfl
        generalize (W1.drewN nd).drew = V at *
        subst hld
        generalize W1.drewN (nd + 1) = V at *
        have hz2 := B2.out.size
        have hkl2 : KL.length ≤ 16 := HLEN.out
        generalize wr.heap.size = g7 at *
        refine wpAnyH_take (i := 0) (oi := _) (v := ?_) rfl (by kernel_rfl) (by kernel_rfl) (by kernel_rfl) (fun _ _ _ h => h) (Or.inl ⟨by rfl, ?_⟩) (by assumption) ?_
        rotate_left
        · (intro w hSw; (try dsimp only at hSw); go_simp; try (with_reducible rfl))
        (try simp only [Act.put, List.setIfInBounds_toArray, List.set_cons_zero, List.set_cons_succ, List.getElem_toArray, List.getElem_cons_succ, List.getElem_cons_zero])
        refine wpAnyH_take (i := 1) (oi := _) (v := ?_) rfl (by kernel_rfl) (by kernel_rfl) (by kernel_rfl) (fun _ _ _ h => h) (Or.inl ⟨by rfl, ?_⟩) (by assumption) ?_
        rotate_left
        · (intro w hSw; (try dsimp only at hSw); go_simp; try (with_reducible rfl))
        (try simp only [Act.put, List.setIfInBounds_toArray, List.set_cons_zero, List.set_cons_succ, List.getElem_toArray, List.getElem_cons_succ, List.getElem_cons_zero])
        refine wpAnyH_take (i := 4) (oi := _) (v := ?_) rfl (by kernel_rfl) (by kernel_rfl) (by kernel_rfl) (fun _ _ _ h => h) (Or.inl ⟨by rfl, ?_⟩) (by assumption) ?_
        rotate_left
        · (intro w hSw; (try dsimp only at hSw); go_simp; try (with_reducible rfl))
        (try simp only [Act.put, List.setIfInBounds_toArray, List.set_cons_zero, List.set_cons_succ, List.getElem_toArray, List.getElem_cons_succ, List.getElem_cons_zero])
        refine wpAnyH_take (i := 5) (oi := _) (v := ?_) rfl (by kernel_rfl) (by kernel_rfl) (by kernel_rfl) (fun _ _ _ h => h) (Or.inl ⟨by rfl, ?_⟩) (by assumption) ?_
        rotate_left
        · (intro w hSw; (try dsimp only at hSw); go_simp; try (with_reducible rfl))
        (try simp only [Act.put, List.setIfInBounds_toArray, List.set_cons_zero, List.set_cons_succ, List.getElem_toArray, List.getElem_cons_succ, List.getElem_cons_zero])
        refine wpAnyH_take (i := 6) (oi := _) (v := ?_) rfl (by kernel_rfl) (by kernel_rfl) (by kernel_rfl) (fun _ _ _ h => h) (Or.inl ⟨by rfl, ?_⟩) (by assumption) ?_
        rotate_left
        · (intro w hSw; (try dsimp only at hSw); go_simp; try (with_reducible rfl))
        (try simp only [Act.put, List.setIfInBounds_toArray, List.set_cons_zero, List.set_cons_succ, List.getElem_toArray, List.getElem_cons_succ, List.getElem_cons_zero])
        refine wpAnyH_take (i := 7) (oi := _) (v := ?_) rfl (by kernel_rfl) (by kernel_rfl) (by kernel_rfl) (fun _ _ _ h => h) (Or.inl ⟨by rfl, ?_⟩) (by assumption) ?_
        rotate_left
        · (intro w hSw; (try dsimp only at hSw); go_simp; try (with_reducible rfl))
        (try simp only [Act.put, List.setIfInBounds_toArray, List.set_cons_zero, List.set_cons_succ, List.getElem_toArray, List.getElem_cons_succ, List.getElem_cons_zero])
        refine wpAnyH_take (i := 8) (oi := _) (v := ?_) rfl (by kernel_rfl) (by kernel_rfl) (by kernel_rfl) (fun _ _ _ h => h) (Or.inl ⟨by rfl, ?_⟩) (by assumption) ?_
        rotate_left
        · (intro w hSw; (try dsimp only at hSw); go_simp; try (with_reducible rfl))
        (try simp only [Act.put, List.setIfInBounds_toArray, List.set_cons_zero, List.set_cons_succ, List.getElem_toArray, List.getElem_cons_succ, List.getElem_cons_zero])
        refine wpAnyH_take (i := 9) (oi := _) (v := ?_) rfl (by kernel_rfl) (by kernel_rfl) (by kernel_rfl) (fun _ _ _ h => h) (Or.inl ⟨by rfl, ?_⟩) (by assumption) ?_
        rotate_left
        · (intro w hSw; (try dsimp only at hSw); go_simp; try (with_reducible rfl))
        (try simp only [Act.put, List.setIfInBounds_toArray, List.set_cons_zero, List.set_cons_succ, List.getElem_toArray, List.getElem_cons_succ, List.getElem_cons_zero])
        refine wpAnyH_take (i := 10) (oi := _) (v := ?_) rfl (by kernel_rfl) (by kernel_rfl) (by kernel_rfl) (fun _ _ _ h => h) (Or.inl ⟨by rfl, ?_⟩) (by assumption) ?_
        rotate_left
        · (intro w hSw; (try dsimp only at hSw); go_simp; try (with_reducible rfl))
        (try simp only [Act.put, List.setIfInBounds_toArray, List.set_cons_zero, List.set_cons_succ, List.getElem_toArray, List.getElem_cons_succ, List.getElem_cons_zero])
        refine wpAnyH_take (i := 11) (oi := _) (v := ?_) rfl (by kernel_rfl) (by kernel_rfl) (by kernel_rfl) (fun _ _ _ h => h) (Or.inl ⟨by rfl, ?_⟩) (by assumption) ?_
        rotate_left
        · (intro w hSw; (try dsimp only at hSw); go_simp; try (with_reducible rfl))
        (try simp only [Act.put, List.setIfInBounds_toArray, List.set_cons_zero, List.set_cons_succ, List.getElem_toArray, List.getElem_cons_succ, List.getElem_cons_zero])
        refine wpAnyH_ready (rs := [2, 12]) (by kernel_rfl) (by simp) ?_
        refine (AllReadyH.cons (o := _) rfl (fun K hK => ?_) (AllReadyH.cons (o := _) rfl (fun K hK => ?_) AllReadyH.nil))
        · go_simp
          have S12 := Lib.hid (S0.out.op2 (g0 := V.heap.size) rfl)
          refine hK.out _ _ ?_ (fun hHeldN => ?_)
          · exact S12.out.held
          clear hHeld hK K
          have hHeld := hHeldN
          clear hHeldN
          (try simp only [Act.put, List.setIfInBounds_toArray, List.set_cons_zero, List.set_cons_succ, List.getElem_toArray, List.getElem_cons_succ, List.getElem_cons_zero])
          refine wpAnyH_ready (rs := [3, 12]) (by kernel_rfl) (by simp) ?_
          refine (AllReadyH.cons (o := _) rfl (fun K hK => ?_) (AllReadyH.cons (o := _) rfl (fun K hK => ?_) AllReadyH.nil))
          · obtain ⟨i0, hi0, hz0, hz1, hz2⟩ := info_parts voice_info
            refine step_append_lies _ (by rfl) (.tmp 24) (.tmp 26) 29 (by rfl) w.heap.size 59 i0 _ 4 80 Tryz.underlying29 hi0 hz0 hz1 hz2 rfl (by omega) _ KL.length (flatV KL) (by rfl) S12.out.vOwn ⟨_, 0, none⟩ 1 1 (voC m) (by rfl) (by rfl) S12.out.vNews (voC_one m) (by omega) (by simp only [maxLen]; omega) (by omega) S12.out.size _ rfl ?_
            intro gg cap w4 hown4 hgrow hat hlt4
            have S13 := Lib.hid (S12.out.op3 hown4 hgrow hat)
            clear hown4 hgrow hat hlt4
            refine hK.out _ _ ?_ (fun hHeldN => ?_)
            · exact S13.out.held
            clear hHeld hK K
            have hHeld := hHeldN
            clear hHeldN
            (try simp only [Act.put, List.setIfInBounds_toArray, List.set_cons_zero, List.set_cons_succ, List.getElem_toArray, List.getElem_cons_succ, List.getElem_cons_zero])
            refine wpAnyH_ready (rs := [12]) (by kernel_rfl) (by simp) ?_
            refine (AllReadyH.cons (o := _) rfl (fun K hK => ?_) AllReadyH.nil)
            go_simp
            have S14 := Lib.hid (S13.out.op12 (g0 := w4.heap.size) rfl)
            refine hK.out _ _ ?_ (fun hHeldN => ?_)
            · exact S14.out.held
            clear hHeld hK K
            have hHeld := hHeldN
            clear hHeldN
            (try simp only [Act.put, List.setIfInBounds_toArray, List.set_cons_zero, List.set_cons_succ, List.getElem_toArray, List.getElem_cons_succ, List.getElem_cons_zero])
            refine wpAnyH_ready (rs := [13]) (by kernel_rfl) (by simp) ?_
            refine (AllReadyH.cons (o := _) rfl (fun K hK => ?_) AllReadyH.nil)
            obtain ⟨i0, hi0, hz0, hz1, hz2⟩ := info_parts int_info
            refine step_append_lies _ (by rfl) (.tmp 28) (.tmp 36) 51 (by rfl) w.heap.size 3 i0 _ 1 8 Tryz.underlying51 hi0 hz0 hz1 hz2 rfl (by omega) _ KL.length (trs KL) (by rfl) S14.out.tOwn ⟨_, 0, none⟩ 1 1 [.int .i64 m.v.tr] (by rfl) (by rfl) S14.out.tNews (by simp [Value.oneCell']) (by omega) (by simp only [maxLen]; omega) (by omega) S14.out.size _ rfl ?_
            intro gg cap w4 hown4 hgrow hat hlt4
            have S15 := Lib.hid (S14.out.op13 hown4 hgrow hat)
            clear hown4 hgrow hat hlt4
            refine hK.out _ _ ?_ (fun hHeldN => ?_)
            · exact S15.out.held
            clear hHeld hK K
            have hHeld := hHeldN
            clear hHeldN
            (try simp only [Act.put, List.setIfInBounds_toArray, List.set_cons_zero, List.set_cons_succ, List.getElem_toArray, List.getElem_cons_succ, List.getElem_cons_zero])
            have FN := Lib.hid (S15.out.fin HKe.out)
            have BN := Lib.hid (B2.out.trans S15.out.bel)
            refine wpAnyH_take (i := 14) (oi := _) (v := ?_) rfl (by kernel_rfl) (by kernel_rfl) (by kernel_rfl) (fun _ _ _ h => h) (Or.inl ⟨by rfl, ?_⟩) (by assumption) ?_
            rotate_left
            · (intro w hSw; (try dsimp only at hSw); go_simp; try (with_reducible rfl))
            (try simp only [Act.put, List.setIfInBounds_toArray, List.set_cons_zero, List.set_cons_succ, List.getElem_toArray, List.getElem_cons_succ, List.getElem_cons_zero])
            refine wpAnyH_take (i := 15) (oi := _) (v := ?_) rfl (by kernel_rfl) (by kernel_rfl) (by kernel_rfl) (fun _ _ _ h => h) (Or.inl ⟨by rfl, ?_⟩) (by assumption) ?_
            rotate_left
            · (intro w hSw; (try dsimp only at hSw); go_simp; try (with_reducible rfl))
            (try simp only [Act.put, List.setIfInBounds_toArray, List.set_cons_zero, List.set_cons_succ, List.getElem_toArray, List.getElem_cons_succ, List.getElem_cons_zero])
            refine wpAnyH_done (by kernel_rfl) ?_ _
            (try simp only [List.getElem_toArray, List.getElem_cons_succ, List.getElem_cons_zero, Act.put, List.setIfInBounds_toArray, List.set_cons_zero, List.set_cons_succ])
            go_wp2_with fail
            go_roundw
            case rel => exact ⟨k + 1, by go_num, by omega, FN.out.1, FN.out.2, BN⟩
            case measure => simp [intOf]; omega
          · go_simp
            have S16 := Lib.hid (S12.out.op12 (g0 := V.heap.size + 1) (by simp))
            refine hK.out _ _ ?_ (fun hHeldN => ?_)
            · exact S16.out.held
            clear hHeld hK K
            have hHeld := hHeldN
            clear hHeldN
            (try simp only [Act.put, List.setIfInBounds_toArray, List.set_cons_zero, List.set_cons_succ, List.getElem_toArray, List.getElem_cons_succ, List.getElem_cons_zero])
            refine wpAnyH_ready (rs := [3]) (by kernel_rfl) (by simp) ?_
            refine (AllReadyH.cons (o := _) rfl (fun K hK => ?_) AllReadyH.nil)
            obtain ⟨i0, hi0, hz0, hz1, hz2⟩ := info_parts voice_info
            refine step_append_lies _ (by rfl) (.tmp 24) (.tmp 26) 29 (by rfl) w.heap.size 59 i0 _ 4 80 Tryz.underlying29 hi0 hz0 hz1 hz2 rfl (by omega) _ KL.length (flatV KL) (by rfl) S16.out.vOwn ⟨_, 0, none⟩ 1 1 (voC m) (by rfl) (by rfl) S16.out.vNews (voC_one m) (by omega) (by simp only [maxLen]; omega) (by omega) S16.out.size _ rfl ?_
            intro gg cap w4 hown4 hgrow hat hlt4
            have S17 := Lib.hid (S16.out.op3 hown4 hgrow hat)
            clear hown4 hgrow hat hlt4
            refine hK.out _ _ ?_ (fun hHeldN => ?_)
            · exact S17.out.held
            clear hHeld hK K
            have hHeld := hHeldN
            clear hHeldN
            (try simp only [Act.put, List.setIfInBounds_toArray, List.set_cons_zero, List.set_cons_succ, List.getElem_toArray, List.getElem_cons_succ, List.getElem_cons_zero])
            refine wpAnyH_ready (rs := [13]) (by kernel_rfl) (by simp) ?_
            refine (AllReadyH.cons (o := _) rfl (fun K hK => ?_) AllReadyH.nil)
            obtain ⟨i0, hi0, hz0, hz1, hz2⟩ := info_parts int_info
            refine step_append_lies _ (by rfl) (.tmp 28) (.tmp 36) 51 (by rfl) w.heap.size 3 i0 _ 1 8 Tryz.underlying51 hi0 hz0 hz1 hz2 rfl (by omega) _ KL.length (trs KL) (by rfl) S17.out.tOwn ⟨_, 0, none⟩ 1 1 [.int .i64 m.v.tr] (by rfl) (by rfl) S17.out.tNews (by simp [Value.oneCell']) (by omega) (by simp only [maxLen]; omega) (by omega) S17.out.size _ rfl ?_
            intro gg cap w4 hown4 hgrow hat hlt4
            have S18 := Lib.hid (S17.out.op13 hown4 hgrow hat)
            clear hown4 hgrow hat hlt4
            refine hK.out _ _ ?_ (fun hHeldN => ?_)
            · exact S18.out.held
            clear hHeld hK K
            have hHeld := hHeldN
            clear hHeldN
            (try simp only [Act.put, List.setIfInBounds_toArray, List.set_cons_zero, List.set_cons_succ, List.getElem_toArray, List.getElem_cons_succ, List.getElem_cons_zero])
            have FN := Lib.hid (S18.out.fin HKe.out)
            have BN := Lib.hid (B2.out.trans S18.out.bel)
            refine wpAnyH_take (i := 14) (oi := _) (v := ?_) rfl (by kernel_rfl) (by kernel_rfl) (by kernel_rfl) (fun _ _ _ h => h) (Or.inl ⟨by rfl, ?_⟩) (by assumption) ?_
            rotate_left
            · (intro w hSw; (try dsimp only at hSw); go_simp; try (with_reducible rfl))
            (try simp only [Act.put, List.setIfInBounds_toArray, List.set_cons_zero, List.set_cons_succ, List.getElem_toArray, List.getElem_cons_succ, List.getElem_cons_zero])
            refine wpAnyH_take (i := 15) (oi := _) (v := ?_) rfl (by kernel_rfl) (by kernel_rfl) (by kernel_rfl) (fun _ _ _ h => h) (Or.inl ⟨by rfl, ?_⟩) (by assumption) ?_
            rotate_left
            · (intro w hSw; (try dsimp only at hSw); go_simp; try (with_reducible rfl))
            (try simp only [Act.put, List.setIfInBounds_toArray, List.set_cons_zero, List.set_cons_succ, List.getElem_toArray, List.getElem_cons_succ, List.getElem_cons_zero])
            refine wpAnyH_done (by kernel_rfl) ?_ _
            (try simp only [List.getElem_toArray, List.getElem_cons_succ, List.getElem_cons_zero, Act.put, List.setIfInBounds_toArray, List.set_cons_zero, List.set_cons_succ])
            go_wp2_with fail
            go_roundw
            case rel => exact ⟨k + 1, by go_num, by omega, FN.out.1, FN.out.2, BN⟩
            case measure => simp [intOf]; omega
        · go_simp
          have S19 := Lib.hid (S0.out.op12 (g0 := V.heap.size) rfl)
          refine hK.out _ _ ?_ (fun hHeldN => ?_)
          · exact S19.out.held
          clear hHeld hK K
          have hHeld := hHeldN
          clear hHeldN
          (try simp only [Act.put, List.setIfInBounds_toArray, List.set_cons_zero, List.set_cons_succ, List.getElem_toArray, List.getElem_cons_succ, List.getElem_cons_zero])
          refine wpAnyH_ready (rs := [2]) (by kernel_rfl) (by simp) ?_
          refine (AllReadyH.cons (o := _) rfl (fun K hK => ?_) AllReadyH.nil)
          go_simp
          have S20 := Lib.hid (S19.out.op2 (g0 := V.heap.size + 1) (by simp))
          refine hK.out _ _ ?_ (fun hHeldN => ?_)
          · exact S20.out.held
          clear hHeld hK K
          have hHeld := hHeldN
          clear hHeldN
          (try simp only [Act.put, List.setIfInBounds_toArray, List.set_cons_zero, List.set_cons_succ, List.getElem_toArray, List.getElem_cons_succ, List.getElem_cons_zero])
          refine wpAnyH_ready (rs := [3]) (by kernel_rfl) (by simp) ?_
          refine (AllReadyH.cons (o := _) rfl (fun K hK => ?_) AllReadyH.nil)
          obtain ⟨i0, hi0, hz0, hz1, hz2⟩ := info_parts voice_info
          refine step_append_lies _ (by rfl) (.tmp 24) (.tmp 26) 29 (by rfl) w.heap.size 59 i0 _ 4 80 Tryz.underlying29 hi0 hz0 hz1 hz2 rfl (by omega) _ KL.length (flatV KL) (by rfl) S20.out.vOwn ⟨_, 0, none⟩ 1 1 (voC m) (by rfl) (by rfl) S20.out.vNews (voC_one m) (by omega) (by simp only [maxLen]; omega) (by omega) S20.out.size _ rfl ?_
          intro gg cap w4 hown4 hgrow hat hlt4
          have S21 := Lib.hid (S20.out.op3 hown4 hgrow hat)
          clear hown4 hgrow hat hlt4
          refine hK.out _ _ ?_ (fun hHeldN => ?_)
          · exact S21.out.held
          clear hHeld hK K
          have hHeld := hHeldN
          clear hHeldN
          (try simp only [Act.put, List.setIfInBounds_toArray, List.set_cons_zero, List.set_cons_succ, List.getElem_toArray, List.getElem_cons_succ, List.getElem_cons_zero])
          refine wpAnyH_ready (rs := [13]) (by kernel_rfl) (by simp) ?_
          refine (AllReadyH.cons (o := _) rfl (fun K hK => ?_) AllReadyH.nil)
          obtain ⟨i0, hi0, hz0, hz1, hz2⟩ := info_parts int_info
          refine step_append_lies _ (by rfl) (.tmp 28) (.tmp 36) 51 (by rfl) w.heap.size 3 i0 _ 1 8 Tryz.underlying51 hi0 hz0 hz1 hz2 rfl (by omega) _ KL.length (trs KL) (by rfl) S21.out.tOwn ⟨_, 0, none⟩ 1 1 [.int .i64 m.v.tr] (by rfl) (by rfl) S21.out.tNews (by simp [Value.oneCell']) (by omega) (by simp only [maxLen]; omega) (by omega) S21.out.size _ rfl ?_
          intro gg cap w4 hown4 hgrow hat hlt4
          have S22 := Lib.hid (S21.out.op13 hown4 hgrow hat)
          clear hown4 hgrow hat hlt4
          refine hK.out _ _ ?_ (fun hHeldN => ?_)
          · exact S22.out.held
          clear hHeld hK K
          have hHeld := hHeldN
          clear hHeldN
          (try simp only [Act.put, List.setIfInBounds_toArray, List.set_cons_zero, List.set_cons_succ, List.getElem_toArray, List.getElem_cons_succ, List.getElem_cons_zero])
          have FN := Lib.hid (S22.out.fin HKe.out)
          have BN := Lib.hid (B2.out.trans S22.out.bel)
          refine wpAnyH_take (i := 14) (oi := _) (v := ?_) rfl (by kernel_rfl) (by kernel_rfl) (by kernel_rfl) (fun _ _ _ h => h) (Or.inl ⟨by rfl, ?_⟩) (by assumption) ?_
          rotate_left
          · (intro w hSw; (try dsimp only at hSw); go_simp; try (with_reducible rfl))
          (try simp only [Act.put, List.setIfInBounds_toArray, List.set_cons_zero, List.set_cons_succ, List.getElem_toArray, List.getElem_cons_succ, List.getElem_cons_zero])
          refine wpAnyH_take (i := 15) (oi := _) (v := ?_) rfl (by kernel_rfl) (by kernel_rfl) (by kernel_rfl) (fun _ _ _ h => h) (Or.inl ⟨by rfl, ?_⟩) (by assumption) ?_
          rotate_left
          · (intro w hSw; (try dsimp only at hSw); go_simp; try (with_reducible rfl))
          (try simp only [Act.put, List.setIfInBounds_toArray, List.set_cons_zero, List.set_cons_succ, List.getElem_toArray, List.getElem_cons_succ, List.getElem_cons_zero])
          refine wpAnyH_done (by kernel_rfl) ?_ _
          (try simp only [List.getElem_toArray, List.getElem_cons_succ, List.getElem_cons_zero, Act.put, List.setIfInBounds_toArray, List.set_cons_zero, List.set_cons_succ])
          go_wp2_with fail
          go_roundw
          case rel => exact ⟨k + 1, by go_num, by omega, FN.out.1, FN.out.2, BN⟩
          case measure => simp [intOf]; omega
      · rw [hf, if_pos rfl, List.append_nil] at HKe
        clear hf
        have HB2 : Hid (Below w.heap.size w (W1.drewN nd)) := below_drewN B1.out _
        have HV2 : Hid ((W1.drewN nd).ownsRow w.heap.size 59 4 u4 (keepF f 0 (ms.take (k + 1))).length (flatV (keepF f 0 (ms.take (k + 1))))) := Lib.hid (by rw [HKe.out]; exact V1.out)
        have HT2 : Hid ((W1.drewN nd).ownsRow w.heap.size 3 1 u5 (keepF f 0 (ms.take (k + 1))).length (trs (keepF f 0 (ms.take (k + 1))))) := Lib.hid (by rw [HKe.out]; exact T1.out)
        clear N1 V1 T1 V7 P10 T10 B1 HKe
        go_wp2_with fail
        go_roundw
        case rel => exact ⟨k + 1, by go_num, by omega, HV2, HT2, HB2⟩
        case measure => simp [intOf]; omega
    · obtain rfl : k = ms.length := by omega
      have HV2 := Lib.hid hv.out
      have HT2 := Lib.hid ht.out
      have HB2 := Lib.hid hb.out
      rw [List.take_length] at HV2 HT2
      clear hv ht hb
      have H1 := Lib.hid (H.out.new HB2.out)
      have hv3 := owns_lower (lo' := base) HV2.out (Nat.le_trans H.out.hs H.out.bel.size)
      have ht3 := owns_lower (lo' := base) HT2.out (Nat.le_trans H.out.hs H.out.bel.size)
      have hvo : ∀ m ∈ keepF f 0 ms, VmIn wr base c.fb m := fun m hm => H1.out.vo m ((keepF_sub f ms 0).subset hm)
      have hap : Apart (keepF f 0 ms) := List.Pairwise.sublist (keepF_sub f ms 0) H1.out.apart
      have HN := Lib.hid (H1.out.setRows hv3 ht3 hvo hap)
      have c9 := (pl_cells H1.out.box).2.2.2.2.2.2.2.2.2.1
      have c10 := (pl_cells H1.out.box).2.2.2.2.2.2.2.2.2.2.1
      have f9 := free_cells H1.out.box 9
      have f10 := free_cells H1.out.box 10
      clear hv3 ht3 hvo hap
      obtain ⟨VA', vc', rfl⟩ := owns_form HV2.out
      obtain ⟨TA', tc', rfl⟩ := owns_form HT2.out
      go_wp2_with fail
      go_end0
      exact ⟨rfl, _, _, HN.out, grown_trans (grown_trans ⟨HB2.out.os, HB2.out.tape, HB2.out.output, HB2.out.size, fun i hi _ => HB2.out.block i hi⟩ (grown_set _ _)) (grown_set _ _)⟩
end Go.Proofs.YtndnfhhdflmfcaaGreat
