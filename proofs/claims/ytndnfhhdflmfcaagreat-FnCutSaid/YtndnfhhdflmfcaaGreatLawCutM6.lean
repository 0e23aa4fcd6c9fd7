/-
Part 6 of 8 of the proof of the law FnCut: it returns true for all codes. No condition.
-/
import Derived.Test.YtndnfhhdflmfcaaGreatLawCutM5
import Derived.Deep.AppendLies

/-
impl.sameVoice at equal voices.
-/
namespace Go.Proofs.YtndnfhhdflmfcaaGreat
open Go Go.RowKit Ieee

theorem sameB_refl (k : FloatKind) (a : Nat) : sameB k a a = true := by simp [sameB]
set_option maxHeartbeats 400000 in
theorem same32_refl (a : Nat) (w : World) (ha : wfk .f32 a) : Calls Tryz.prog 18 #[.float .f32 a, .float .f32 a] w fun e w' => e = .returned (.bool true) ∧ ∃ n, w.drewN n = w' :=
  (same32_any a a w ha ha).mono fun e w' h => by rw [sameB_refl] at h; exact h
set_option maxHeartbeats 400000 in
theorem sameNumber_refl (a b : Nat) (w : World) (ha : wfk .f32 a) (hb : wfk .f32 b) : Calls Tryz.prog 53 #[.complex .f32 a b, .complex .f32 a b] w fun e w' => e = .returned (.bool true) ∧ ∃ n, w.drewN n = w' := by
  go_enter Tryz.func53, Tryz.ntmps53
  go_wp2_with fail
  refine (same32_refl a _ ha).mono ?_
  rintro e w' ⟨rfl, n1, rfl⟩
  go_wp2_with fail
  refine (same32_refl b _ hb).mono ?_
  rintro e w' ⟨rfl, n2, rfl⟩
  go_wp2_with fail
  go_ret
  exact ⟨rfl, _, rfl⟩
set_option maxRecDepth 100000 in
set_option maxHeartbeats 800000 in
theorem eqF_refl (A B : Option Addr) (ca cb : Nat) (xs : List Nat) (w : World) (h1 : Rd w A (f32s xs)) (h2 : Rd w B (f32s xs)) (hx : ∀ i, i < xs.length → wfk .f32 (xs.getD i 0)) (hl : xs.length ≤ 1048576) :
    Calls Tryz.prog 55 #[.slice A xs.length ca, .slice B xs.length cb, .func (.func 18) #[] #[]] w fun e w' => e = .returned (.bool true) ∧ ∃ n, w.drewN n = w' := by
  have H1 := Lib.hid h1
  have H2 := Lib.hid h2
  have HX := Lib.hid hx
  clear h1 h2 hx
  go_enter Tryz.func55, Tryz.ntmps55
  go_wp2_with fail
  go_loopw [17] (fun i wr => ∃ k : Nat, i = .int .i64 (k : Int) ∧ k ≤ xs.length ∧ Hid (∃ n, w.drewN n = wr)) (fun i _ => xs.length - (intOf i).toNat)
  case atStart => exact ⟨0, rfl, by omega, ⟨0, rfl⟩⟩
  case round =>
    obtain ⟨k, rfl, hk, HW⟩ := hrel
    by_cases hlt : k < xs.length
    · obtain ⟨b, off, rfl, _, hc1⟩ := H1.out (by simp; omega)
      obtain ⟨b', off', rfl, _, hc2⟩ := H2.out (by simp; omega)
      have e1 : wr.cell? ⟨b, off + k, none⟩ = some (.float .f32 (xs.getD k 0)) := by
        obtain ⟨n, hn⟩ := HW.out
        rw [← hn]; exact hc1 k _ (f32s_at hlt)
      have e2 : wr.cell? ⟨b', off' + k, none⟩ = some (.float .f32 (xs.getD k 0)) := by
        obtain ⟨n, hn⟩ := HW.out
        rw [← hn]; exact hc2 k _ (f32s_at hlt)
      have hw := HX.out k hlt
      obtain ⟨x, hx⟩ : ∃ x, xs.getD k 0 = x := ⟨_, rfl⟩
      rw [hx] at e1 e2 hw
      clear hc1 hc2 hx
      go_wp2_with fail
      refine (same32_refl x _ hw).mono ?_
      rintro e w' ⟨rfl, n1, rfl⟩
      have HW2 : Hid (∃ n, w.drewN n = wr.drewN n1) := by
        obtain ⟨n, hn⟩ := HW.out
        exact ⟨n + n1, by rw [← hn, World.drewN_drewN]⟩
      clear e1 e2 HW
      go_wp2_with fail
      go_roundw
      case rel => exact ⟨k + 1, by go_num, by omega, HW2⟩
      case measure => simp [intOf]; omega
    · go_wp2_with fail
      go_ret
      exact ⟨rfl, HW.out⟩
theorem sVs_at {n k : Nat} {F : Nat → Nat × Nat} (h : k < n) : ((List.range n).map fun i => sV (F i))[k]? = some (.complex .f32 (F k).1 (F k).2) := by
  simp [h, sV]
set_option maxRecDepth 100000 in
set_option maxHeartbeats 800000 in
theorem eqC_refl (A B : Option Addr) (ca cb n : Nat) (F : Nat → Nat × Nat) (w : World) (h1 : Rd w A ((List.range n).map fun i => sV (F i))) (h2 : Rd w B ((List.range n).map fun i => sV (F i))) (hx : ∀ i, i < n → wfk .f32 (F i).1 ∧ wfk .f32 (F i).2) (hl : n ≤ 1048576) :
    Calls Tryz.prog 54 #[.slice A n ca, .slice B n cb, .func (.func 53) #[] #[]] w fun e w' => e = .returned (.bool true) ∧ ∃ n, w.drewN n = w' := by
  have H1 := Lib.hid h1
  have H2 := Lib.hid h2
  have HX := Lib.hid hx
  clear h1 h2 hx
  go_enter Tryz.func54, Tryz.ntmps54
  go_wp2_with fail
  go_loopw [17] (fun i wr => ∃ k : Nat, i = .int .i64 (k : Int) ∧ k ≤ n ∧ Hid (∃ n, w.drewN n = wr)) (fun i _ => n - (intOf i).toNat)
  case atStart => exact ⟨0, rfl, by omega, ⟨0, rfl⟩⟩
  case round =>
    obtain ⟨k, rfl, hk, HW⟩ := hrel
    by_cases hlt : k < n
    · obtain ⟨b, off, rfl, _, hc1⟩ := H1.out (by simp; omega)
      obtain ⟨b', off', rfl, _, hc2⟩ := H2.out (by simp; omega)
      have e1 : wr.cell? ⟨b, off + k, none⟩ = some (.complex .f32 (F k).1 (F k).2) := by
        obtain ⟨n, hn⟩ := HW.out
        rw [← hn]; exact hc1 k _ (sVs_at hlt)
      have e2 : wr.cell? ⟨b', off' + k, none⟩ = some (.complex .f32 (F k).1 (F k).2) := by
        obtain ⟨n, hn⟩ := HW.out
        rw [← hn]; exact hc2 k _ (sVs_at hlt)
      obtain ⟨hw1, hw2⟩ := HX.out k hlt
      generalize (F k).1 = x1 at *
      generalize (F k).2 = x2 at *
      clear hc1 hc2
      go_wp2_with fail
      refine (sameNumber_refl x1 x2 _ hw1 hw2).mono ?_
      rintro e w' ⟨rfl, n1, rfl⟩
      have HW2 : Hid (∃ n, w.drewN n = wr.drewN n1) := by
        obtain ⟨n, hn⟩ := HW.out
        exact ⟨n + n1, by rw [← hn, World.drewN_drewN]⟩
      clear e1 e2 HW
      go_wp2_with fail
      go_roundw
      case rel => exact ⟨k + 1, by go_num, by omega, HW2⟩
      case measure => simp [intOf]; omega
    · go_wp2_with fail
      go_ret
      exact ⟨rfl, HW.out⟩
set_option maxRecDepth 100000 in
set_option maxHeartbeats 800000 in
theorem modeSame_refl (a b c d : Nat) (w : World) (wa : wfk .f32 a) (wb : wfk .f32 b) (wc : wfk .f32 c) (wd : wfk .f32 d) :
    Calls Tryz.prog 52 #[.agg #[.complex .f32 a b, .complex .f32 c d], .agg #[.complex .f32 a b, .complex .f32 c d]] w fun e w' => e = .returned (.bool true) ∧ Below w.heap.size w w' := by
  have hB : Hid (Below w.heap.size w ((w.alloc (.cells #[.complex .f32 a b, .complex .f32 c d] 87)).alloc (.cells #[.complex .f32 a b, .complex .f32 c d] 87))) := ((Below.refl w.heap.size w).alloc (Nat.le_refl _) _).alloc (by simp) _
  have hX : Hid (((w.alloc (.cells #[.complex .f32 a b, .complex .f32 c d] 87)).alloc (.cells #[.complex .f32 a b, .complex .f32 c d] 87)).heap[w.heap.size]? = some (.cells #[.complex .f32 a b, .complex .f32 c d] 87 (0, 0))) := (Below.heap_alloc _ _ _ (by simp)).trans (heap_alloc_new w _)
  have hN : Hid (((w.alloc (.cells #[.complex .f32 a b, .complex .f32 c d] 87)).alloc (.cells #[.complex .f32 a b, .complex .f32 c d] 87)).heap[w.heap.size + 1]? = some (.cells #[.complex .f32 a b, .complex .f32 c d] 87 (0, 0))) := Lib.hid (by
    have := heap_alloc_new (w.alloc (.cells #[.complex .f32 a b, .complex .f32 c d] 87)) (.cells #[.complex .f32 a b, .complex .f32 c d] 87)
    rwa [show (w.alloc (.cells #[.complex .f32 a b, .complex .f32 c d] 87)).heap.size = w.heap.size + 1 by simp] at this)
  go_enter Tryz.func52, Tryz.ntmps52
  obtain ⟨c0, c1, _, _⟩ := m_cells hX.out
  obtain ⟨d0, d1, _, _⟩ := m_cells hN.out
  go_wp2_with fail
  generalize (w.alloc (.cells #[.complex .f32 a b, .complex .f32 c d] 87)).alloc (.cells #[.complex .f32 a b, .complex .f32 c d] 87) = W at *
  refine (sameNumber_refl a b _ wa wb).mono ?_
  rintro e w' ⟨rfl, n1, rfl⟩
  go_wp2_with fail
  refine (sameNumber_refl c d _ wc wd).mono ?_
  rintro e w' ⟨rfl, n2, rfl⟩
  go_wp2_with fail
  go_ret
  exact ⟨rfl, below_drewN hB.out _⟩
set_option maxRecDepth 100000 in
set_option maxHeartbeats 800000 in
theorem eqM_refl (A B : Option Addr) (ca cb lo hi lo2 hi2 : Nat) (ms : List MW) (w : World) (h1 : OwnM w lo hi A ca ms) (hh1 : hi ≤ w.heap.size) (h2 : OwnM w lo2 hi2 B cb ms) (hh2 : hi2 ≤ w.heap.size) (hok : ModesOk ms) (hl : ms.length ≤ 1048576) :
    Calls Tryz.prog 51 #[.slice A ms.length ca, .slice B ms.length cb, .func (.func 52) #[] #[]] w fun e w' => e = .returned (.bool true) ∧ Below w.heap.size w w' := by
  have H1 := Lib.hid h1
  have H2 := Lib.hid h2
  have HK := Lib.hid hok
  clear h1 h2 hok
  go_enter Tryz.func51, Tryz.ntmps51
  go_wp2_with fail
  go_loopw [17] (fun i wr => ∃ k : Nat, i = .int .i64 (k : Int) ∧ k ≤ ms.length ∧ Hid (Below w.heap.size w wr)) (fun i _ => ms.length - (intOf i).toNat)
  case atStart => exact ⟨0, rfl, by omega, Below.refl _ _⟩
  case round =>
    obtain ⟨k, rfl, hk, hb'⟩ := hrel
    by_cases hlt : k < ms.length
    · obtain ⟨b, rfl, _, _, _, _, hcell⟩ := (H1.out.below hb'.out hh1).cells (by omega)
      obtain ⟨e1, e2⟩ := hcell k hlt
      obtain ⟨b2, rfl, _, _, _, _, hcell2⟩ := (H2.out.below hb'.out hh2).cells (by omega)
      obtain ⟨e3, e4⟩ := hcell2 k hlt
      have HM := Lib.hid (HK.out.at_ hlt)
      clear hcell hcell2
      generalize ms.getD k (0, 0, 0, 0) = m at *
      obtain ⟨a, b', c', d⟩ := m
      simp only at e1 e2 e3 e4 HM
      have HA1 : Hid (Below wr.heap.size wr (wr.alloc (.cells #[.complex .f32 a b', .complex .f32 c' d] 87))) := (Below.refl _ _).alloc (Nat.le_refl _) _
      have HA2 : Hid (Below wr.heap.size wr ((wr.alloc (.cells #[.complex .f32 a b', .complex .f32 c' d] 87)).alloc (.cells #[.complex .f32 a b', .complex .f32 c' d] 87))) := HA1.out.alloc (by simp) _
      have hb2 : b2 < wr.heap.size := by
        rcases Nat.lt_or_ge b2 wr.heap.size with q | q
        · exact q
        · simp [World.cell?, Array.getElem?_eq_none q] at e3
      have e5 := (World.cell?_of_block (w := wr) (w' := wr.alloc (.cells #[.complex .f32 a b', .complex .f32 c' d] 87)) (HA1.out.block b2 hb2) (a := ⟨b2, k * 2, none⟩)).trans e3
      have e6 := (World.cell?_of_block (w := wr) (w' := wr.alloc (.cells #[.complex .f32 a b', .complex .f32 c' d] 87)) (HA1.out.block b2 hb2) (a := ⟨b2, k * 2 + 1, none⟩)).trans e4
      have d0 := cell_of_row _ wr.heap.size 0 _ _ (0, 0) ((Below.heap_alloc (wr.alloc (.cells #[.complex .f32 a b', .complex .f32 c' d] 87)) (.cells #[.complex .f32 a b', .complex .f32 c' d] 87) wr.heap.size (by simp)).trans (heap_alloc_new wr (.cells #[.complex .f32 a b', .complex .f32 c' d] 87)))
      have d1 := cell_of_row _ wr.heap.size 1 _ _ (0, 0) ((Below.heap_alloc (wr.alloc (.cells #[.complex .f32 a b', .complex .f32 c' d] 87)) (.cells #[.complex .f32 a b', .complex .f32 c' d] 87) wr.heap.size (by simp)).trans (heap_alloc_new wr (.cells #[.complex .f32 a b', .complex .f32 c' d] 87)))
      go_wp2_with fail
      refine (modeSame_refl a b' c' d _ HM.out.wa HM.out.wb HM.out.wc HM.out.wd).mono ?_
      rintro e w' ⟨rfl, hbx⟩
      have HBn : Hid (Below w.heap.size w w') := hb'.out.trans ((HA2.out.trans (hbx.mono HA2.out.size)).mono hb'.out.size)
      clear hbx e1 e2 e3 e4 e5 e6 d0 d1 HA1 HA2
      go_wp2_with fail
      go_roundw
      case rel => exact ⟨k + 1, by go_num, by omega, HBn⟩
      case measure => simp [intOf]; omega
    · go_wp2_with fail
      go_ret
      exact ⟨rfl, hb'.out⟩
/-- A voice that can be read. -/
structure VcIn (w : World) (lo hi : Nat) (v : Vp) (M : Option Addr) (mc : Nat) (S I : Option Addr) : Prop where
  mod : OwnM w lo hi M mc v.ms
  hh : hi ≤ w.heap.size
  sts : Rd w S ((List.range v.ms.length).map fun i => sV (sAt v.ss i))
  inp : Rd w I (f32s v.xs)
theorem VcIn.new {w w' : World} {lo hi mc : Nat} {v : Vp} {M S I : Option Addr} (h : VcIn w lo hi v M mc S I) (hb : Below w.heap.size w w') : VcIn w' lo hi v M mc S I :=
  ⟨h.mod.below hb h.hh, Nat.le_trans h.hh hb.size, h.sts.below hb, h.inp.below hb⟩
/-- Words of a voice. -/
structure VcWf (v : Vp) : Prop where
  ms : ModesOk v.ms
  lm : v.ms.length ≤ 1048576
  ss : ∀ i, i < v.ms.length → wfk .f32 (sAt v.ss i).1 ∧ wfk .f32 (sAt v.ss i).2
  xs : ∀ i, i < v.xs.length → wfk .f32 (v.xs.getD i 0)
  lx : v.xs.length ≤ 1048576
theorem vo_cells {W : World} {M : Nat} {a b c d : Value} {t : TypeId} (h : W.heap[M]? = some (.cells #[a, b, c, d] t (0, 0))) :
    W.cell? ⟨M, 0, none⟩ = some a ∧ W.cell? ⟨M, 1, none⟩ = some b ∧ W.cell? ⟨M, 2, none⟩ = some c ∧ W.cell? ⟨M, 3, none⟩ = some d :=
  ⟨cell_of_row W M 0 _ _ (0, 0) h, cell_of_row W M 1 _ _ (0, 0) h, cell_of_row W M 2 _ _ (0, 0) h, cell_of_row W M 3 _ _ (0, 0) h⟩
set_option maxRecDepth 100000 in
set_option maxHeartbeats 1600000 in
theorem sameVoice_refl (v : Vp) (lo1 hi1 lo2 hi2 mc1 mc2 sc1 sc2 ic1 ic2 : Nat) (M1 M2 S1 S2 I1 I2 : Option Addr) (w : World) (h1 : VcIn w lo1 hi1 v M1 mc1 S1 I1) (h2 : VcIn w lo2 hi2 v M2 mc2 S2 I2) (hw : VcWf v) :
    Calls Tryz.prog 20 #[.agg #[.int .i64 v.body, .slice M1 v.ms.length mc1, .slice S1 v.ms.length sc1, .slice I1 v.xs.length ic1], .agg #[.int .i64 v.body, .slice M2 v.ms.length mc2, .slice S2 v.ms.length sc2, .slice I2 v.xs.length ic2]] w fun e w' => e = .returned (.bool true) ∧ Below w.heap.size w w' := by
  have hB : Hid (Below w.heap.size w ((w.alloc (.cells #[.int .i64 v.body, .slice M1 v.ms.length mc1, .slice S1 v.ms.length sc1, .slice I1 v.xs.length ic1] 59)).alloc (.cells #[.int .i64 v.body, .slice M2 v.ms.length mc2, .slice S2 v.ms.length sc2, .slice I2 v.xs.length ic2] 59))) := ((Below.refl w.heap.size w).alloc (Nat.le_refl _) _).alloc (by simp) _
  have hX : Hid (((w.alloc (.cells #[.int .i64 v.body, .slice M1 v.ms.length mc1, .slice S1 v.ms.length sc1, .slice I1 v.xs.length ic1] 59)).alloc (.cells #[.int .i64 v.body, .slice M2 v.ms.length mc2, .slice S2 v.ms.length sc2, .slice I2 v.xs.length ic2] 59)).heap[w.heap.size]? = some (.cells #[.int .i64 v.body, .slice M1 v.ms.length mc1, .slice S1 v.ms.length sc1, .slice I1 v.xs.length ic1] 59 (0, 0))) := (Below.heap_alloc _ _ _ (by simp)).trans (heap_alloc_new w (.cells #[.int .i64 v.body, .slice M1 v.ms.length mc1, .slice S1 v.ms.length sc1, .slice I1 v.xs.length ic1] 59))
  have hN : Hid (((w.alloc (.cells #[.int .i64 v.body, .slice M1 v.ms.length mc1, .slice S1 v.ms.length sc1, .slice I1 v.xs.length ic1] 59)).alloc (.cells #[.int .i64 v.body, .slice M2 v.ms.length mc2, .slice S2 v.ms.length sc2, .slice I2 v.xs.length ic2] 59)).heap[w.heap.size + 1]? = some (.cells #[.int .i64 v.body, .slice M2 v.ms.length mc2, .slice S2 v.ms.length sc2, .slice I2 v.xs.length ic2] 59 (0, 0))) := Lib.hid (by
    have := heap_alloc_new (w.alloc (.cells #[.int .i64 v.body, .slice M1 v.ms.length mc1, .slice S1 v.ms.length sc1, .slice I1 v.xs.length ic1] 59)) (.cells #[.int .i64 v.body, .slice M2 v.ms.length mc2, .slice S2 v.ms.length sc2, .slice I2 v.xs.length ic2] 59)
    rwa [show (w.alloc (.cells #[.int .i64 v.body, .slice M1 v.ms.length mc1, .slice S1 v.ms.length sc1, .slice I1 v.xs.length ic1] 59)).heap.size = w.heap.size + 1 by simp] at this)
  have H1 := Lib.hid (h1.new hB.out)
  have H2 := Lib.hid (h2.new hB.out)
  have HW := Lib.hid hw
  clear h1 h2 hw
  go_enter Tryz.func20, Tryz.ntmps20
  obtain ⟨c0, c1, c2, c3⟩ := vo_cells hX.out
  obtain ⟨d0, d1, d2, d3⟩ := vo_cells hN.out
  go_wp2_with fail
  generalize (w.alloc (.cells #[.int .i64 v.body, .slice M1 v.ms.length mc1, .slice S1 v.ms.length sc1, .slice I1 v.xs.length ic1] 59)).alloc (.cells #[.int .i64 v.body, .slice M2 v.ms.length mc2, .slice S2 v.ms.length sc2, .slice I2 v.xs.length ic2] 59) = W at *
  refine (eqM_refl M1 M2 mc1 mc2 lo1 hi1 lo2 hi2 v.ms W H1.out.mod H1.out.hh H2.out.mod H2.out.hh HW.out.ms HW.out.lm).mono ?_
  rintro e W2 ⟨rfl, hb⟩
  have HB2 := Lib.hid (hB.out.trans (hb.mono hB.out.size))
  have HX2 := Lib.hid ((hb.block _ (lt_of_some hX.out)).trans hX.out)
  have HN2 := Lib.hid ((hb.block _ (lt_of_some hN.out)).trans hN.out)
  have G1 := Lib.hid (H1.out.new hb)
  have G2 := Lib.hid (H2.out.new hb)
  clear hb H1 H2 hX hN hB c0 c1 c2 c3 d0 d1 d2 d3
  obtain ⟨c0, c1, c2, c3⟩ := vo_cells HX2.out
  obtain ⟨d0, d1, d2, d3⟩ := vo_cells HN2.out
  go_wp2_with fail
  refine (eqC_refl S1 S2 sc1 sc2 v.ms.length (fun i => sAt v.ss i) W2 G1.out.sts G2.out.sts HW.out.ss HW.out.lm).mono ?_
  rintro e W3 ⟨rfl, n3, rfl⟩
  have F1 := Lib.hid (G1.out.new (below_drewN (Below.refl _ _) n3))
  have F2 := Lib.hid (G2.out.new (below_drewN (Below.refl _ _) n3))
  go_wp2_with fail
  refine (eqF_refl I1 I2 ic1 ic2 v.xs _ F1.out.inp F2.out.inp HW.out.xs HW.out.lx).mono ?_
  rintro e W4 ⟨rfl, n4, rfl⟩
  go_wp2_with fail
  go_ret
  exact ⟨rfl, below_drewN HB2.out _⟩
end Go.Proofs.YtndnfhhdflmfcaaGreat

/-
Rows of voices that can be read; slices.EqualFunc of voices.
-/
namespace Go.Proofs.YtndnfhhdflmfcaaGreat
open Go Go.RowKit Ieee

/-- A voice with the places of its rows, as it is read. -/
structure Vq where
  v : Vp
  M : Option Addr
  mc : Nat
  S : Option Addr
  sc : Nat
  I : Option Addr
  ic : Nat
def voQ (q : Vq) : List Value := [.int .i64 q.v.body, .slice q.M q.v.ms.length q.mc, .slice q.S q.v.ms.length q.sc, .slice q.I q.v.xs.length q.ic]
def flatQ (qs : List Vq) : List Value := qs.flatMap voQ
theorem flatQ_len (qs : List Vq) : (flatQ qs).length = qs.length * 4 := by
  induction qs with
  | nil => rfl
  | cons m L ih => simp [flatQ, voQ] at ih ⊢; omega
theorem flatQ_at {L : List Vq} {i : Nat} {q : Vq} (h : L[i]? = some q) : (flatQ L)[i * 4]? = some (.int .i64 q.v.body) ∧ (flatQ L)[i * 4 + 1]? = some (.slice q.M q.v.ms.length q.mc) ∧
    (flatQ L)[i * 4 + 2]? = some (.slice q.S q.v.ms.length q.sc) ∧ (flatQ L)[i * 4 + 3]? = some (.slice q.I q.v.xs.length q.ic) := by
  induction L generalizing i with
  | nil => simp at h
  | cons x L ih =>
    cases i with
    | zero =>
      simp at h; subst h
      exact ⟨rfl, rfl, rfl, rfl⟩
    | succ i =>
      have h2 := ih (i := i) (by simpa using h)
      have e1 : (i + 1) * 4 = i * 4 + 4 := by omega
      rw [e1]
      exact h2
/-- A row of voices that can be read. -/
structure QsIn (w : World) (lo hi : Nat) (A : Option Addr) (qs : List Vq) : Prop where
  rd : Rd w A (flatQ qs)
  vc : ∀ q ∈ qs, VcIn w lo hi q.v q.M q.mc q.S q.I
theorem QsIn.new {w w' : World} {lo hi : Nat} {A : Option Addr} {qs : List Vq} (h : QsIn w lo hi A qs) (hb : Below w.heap.size w w') : QsIn w' lo hi A qs := ⟨h.rd.below hb, fun q hq => (h.vc q hq).new hb⟩
/-- What its cells hold. -/
theorem QsIn.cells {w : World} {lo hi : Nat} {A : Option Addr} {qs : List Vq} (h : QsIn w lo hi A qs) {i : Nat} {q : Vq} (hi' : qs[i]? = some q) : ∃ b off, A = some ⟨b, off, none⟩ ∧ b < w.heap.size ∧ w.cell? ⟨b, off + i * 4, none⟩ = some (.int .i64 q.v.body) ∧ w.cell? ⟨b, off + i * 4 + 1, none⟩ = some (.slice q.M q.v.ms.length q.mc) ∧
    w.cell? ⟨b, off + i * 4 + 2, none⟩ = some (.slice q.S q.v.ms.length q.sc) ∧ w.cell? ⟨b, off + i * 4 + 3, none⟩ = some (.slice q.I q.v.xs.length q.ic) := by
  obtain ⟨e0, e1, e2, e3⟩ := flatQ_at hi'
  have hl : 0 < (flatQ qs).length := by
    rcases Nat.eq_zero_or_pos (flatQ qs).length with q0 | q0
    · rw [List.eq_nil_of_length_eq_zero q0] at e0; simp at e0
    · exact q0
  obtain ⟨b, off, hA, hb, hc⟩ := h.rd hl
  exact ⟨b, off, hA, hb, hc _ _ e0, hc _ _ e1, hc _ _ e2, hc _ _ e3⟩
set_option maxRecDepth 100000 in
set_option maxHeartbeats 1600000 in
theorem eqV_refl (A B : Option Addr) (ca cb lo1 hi1 lo2 hi2 n : Nat) (qs rs : List Vq) (w : World) (h1 : QsIn w lo1 hi1 A qs) (h2 : QsIn w lo2 hi2 B rs) (hn : qs.length = n) (he : qs.map Vq.v = rs.map Vq.v) (hw : ∀ q ∈ qs, VcWf q.v) (hl : n ≤ 1000) :
    Calls Tryz.prog 19 #[.slice A n ca, .slice B n cb, .func (.func 20) #[] #[]] w fun e w' => e = .returned (.bool true) ∧ Below w.heap.size w w' := by
  have H1 := Lib.hid h1
  have H2 := Lib.hid h2
  have HN := Lib.hid hn
  have HE := Lib.hid he
  have HW := Lib.hid hw
  clear h1 h2 hn he hw
  go_enter Tryz.func19, Tryz.ntmps19
  go_wp2_with fail
  go_loopw [17] (fun i wr => ∃ k : Nat, i = .int .i64 (k : Int) ∧ k ≤ n ∧ Hid (Below w.heap.size w wr)) (fun i _ => n - (intOf i).toNat)
  case atStart => exact ⟨0, rfl, by omega, Below.refl _ _⟩
  case round =>
    obtain ⟨k, rfl, hk, hb'⟩ := hrel
    by_cases hlt : k < n
    · have hkq : k < qs.length := by have := HN.out; omega
      obtain ⟨q, hq⟩ : ∃ q, qs[k]? = some q := ⟨qs[k], List.getElem?_eq_getElem hkq⟩
      obtain ⟨r, hr, hv⟩ : ∃ r, rs[k]? = some r ∧ q.v = r.v := by
        have h3 := congrArg (fun l => l[k]?) HE.out
        simp only [List.getElem?_map, hq, Option.map_some] at h3
        cases hr : rs[k]? with
        | none => rw [hr] at h3; cases h3
        | some r =>
          rw [hr] at h3
          injection h3 with h3
          exact ⟨r, rfl, h3⟩
      obtain ⟨b, off, rfl, hbl, e0, e1, e2, e3⟩ := (H1.out.new hb'.out).cells hq
      obtain ⟨b2, off2, rfl, hbl2, f0, f1, f2, f3⟩ := (H2.out.new hb'.out).cells hr
      have HV1 := Lib.hid ((H1.out.new hb'.out).vc q (List.mem_of_getElem? hq))
      have HV2 := Lib.hid ((H2.out.new hb'.out).vc r (List.mem_of_getElem? hr))
      have HWf := Lib.hid (HW.out q (List.mem_of_getElem? hq))
      rw [← hv] at f0 f1 f2 f3 HV2
      clear hq hr hv
      obtain ⟨v, M, mc, S, sc, I, ic⟩ := q
      obtain ⟨v', M', mc', S', sc', I', ic'⟩ := r
      simp only at e0 e1 e2 e3 f0 f1 f2 f3 HV1 HV2 HWf
      have HA1 : Hid (Below wr.heap.size wr (wr.alloc (.cells #[.int .i64 v.body, .slice M v.ms.length mc, .slice S v.ms.length sc, .slice I v.xs.length ic] 59))) := (Below.refl _ _).alloc (Nat.le_refl _) _
      have HA2 : Hid (Below wr.heap.size wr ((wr.alloc (.cells #[.int .i64 v.body, .slice M v.ms.length mc, .slice S v.ms.length sc, .slice I v.xs.length ic] 59)).alloc (.cells #[.int .i64 v.body, .slice M' v.ms.length mc', .slice S' v.ms.length sc', .slice I' v.xs.length ic'] 59))) := HA1.out.alloc (by simp) _
      have g0 := (World.cell?_of_block (w := wr) (w' := wr.alloc (.cells #[.int .i64 v.body, .slice M v.ms.length mc, .slice S v.ms.length sc, .slice I v.xs.length ic] 59)) (HA1.out.block b2 hbl2) (a := ⟨b2, off2 + k * 4, none⟩)).trans f0
      have g1 := (World.cell?_of_block (w := wr) (w' := wr.alloc (.cells #[.int .i64 v.body, .slice M v.ms.length mc, .slice S v.ms.length sc, .slice I v.xs.length ic] 59)) (HA1.out.block b2 hbl2) (a := ⟨b2, off2 + k * 4 + 1, none⟩)).trans f1
      have g2 := (World.cell?_of_block (w := wr) (w' := wr.alloc (.cells #[.int .i64 v.body, .slice M v.ms.length mc, .slice S v.ms.length sc, .slice I v.xs.length ic] 59)) (HA1.out.block b2 hbl2) (a := ⟨b2, off2 + k * 4 + 2, none⟩)).trans f2
      have g3 := (World.cell?_of_block (w := wr) (w' := wr.alloc (.cells #[.int .i64 v.body, .slice M v.ms.length mc, .slice S v.ms.length sc, .slice I v.xs.length ic] 59)) (HA1.out.block b2 hbl2) (a := ⟨b2, off2 + k * 4 + 3, none⟩)).trans f3
      obtain ⟨d0, d1, d2, d3⟩ := vo_cells ((Below.heap_alloc (wr.alloc (.cells #[.int .i64 v.body, .slice M v.ms.length mc, .slice S v.ms.length sc, .slice I v.xs.length ic] 59)) (.cells #[.int .i64 v.body, .slice M' v.ms.length mc', .slice S' v.ms.length sc', .slice I' v.xs.length ic'] 59) wr.heap.size (by simp)).trans (heap_alloc_new wr (.cells #[.int .i64 v.body, .slice M v.ms.length mc, .slice S v.ms.length sc, .slice I v.xs.length ic] 59)))
      have HV3 := Lib.hid (HV1.out.new HA2.out)
      have HV4 := Lib.hid (HV2.out.new HA2.out)
      clear HV1 HV2
      go_wp2_with fail
      refine (sameVoice_refl v lo1 hi1 lo2 hi2 mc mc' sc sc' ic ic' M M' S S' I I' _ HV3.out HV4.out HWf.out).mono ?_
      rintro e w' ⟨rfl, hbx⟩
      have HBn : Hid (Below w.heap.size w w') := hb'.out.trans ((HA2.out.trans (hbx.mono HA2.out.size)).mono hb'.out.size)
      clear hbx e0 e1 e2 e3 f0 f1 f2 f3 g0 g1 g2 g3 d0 d1 d2 d3 HA1 HA2 HV3 HV4
      go_wp2_with fail
      go_roundw
      case rel => exact ⟨k + 1, by go_num, by omega, HBn⟩
      case measure => simp [intOf]; omega
    · go_wp2_with fail
      go_ret
      exact ⟨rfl, hb'.out⟩
end Go.Proofs.YtndnfhhdflmfcaaGreat

/-
impl.RenderScore, impl.CountEvents.
-/
namespace Go.Proofs.YtndnfhhdflmfcaaGreat
open Go Go.RowKit Ieee

theorem ScPlay.ask {s : Sh} {bs : List Bd} {evs : List Ev} (h : ScPlay s bs evs) : ScAsk s bs evs :=
  ⟨h.sh, ⟨by have := h.bods.1; omega, fun i hi => ⟨(h.bods.2 i hi).1, by have := (h.bods.2 i hi).2; omega⟩⟩, ⟨by have := h.evs.1; omega, h.evs.2⟩⟩
/-- What RenderScore returns. -/
def RendP (w : World) (s : Sh) (bs : List Bd) (evs : List Ev) (n : Nat) (r : Ending) (w' : World) : Prop :=
  ∃ (A : Option Addr) (ca : Nat) (ys : List Nat), r = .returned (.tuple #[.slice A n ca, .bool true]) ∧ w'.ownsRow w.heap.size 23 1 (.slice A n ca) n (f32s ys) ∧ StrOk (bmOf bs) s.2.1 (sortedE evs) s.2.2.1 s.2.2.2 n ys ∧ Below w.heap.size w w'
/-- How many events happen from a on and ahead of b. -/
def cntE (a b : Int) (L : List Ev) : Nat := (L.filter fun e => decide (a ≤ e.1) && decide (e.1 < b)).length
theorem cntE_snoc (a b : Int) (L : List Ev) (e : Ev) : cntE a b (L ++ [e]) = cntE a b L + (if a ≤ e.1 ∧ e.1 < b then 1 else 0) := by
  unfold cntE
  rw [List.filter_append, List.length_append]
  by_cases h : a ≤ e.1 ∧ e.1 < b
  · rw [if_pos h, List.filter_cons_of_pos (by simp [h])]; rfl
  · rw [if_neg h, List.filter_cons_of_neg (by simp; omega)]; rfl
theorem cntE_le (a b : Int) (L : List Ev) : cntE a b L ≤ L.length := List.length_filter_le _ _
theorem takeE_succ {L : List Ev} {k : Nat} (h : k < L.length) : L.take (k + 1) = L.take k ++ [eAt L k] := by
  rw [List.take_succ_eq_append_getElem h]
  simp [eAt, List.getD, List.getElem?_eq_getElem h]
end Go.Proofs.YtndnfhhdflmfcaaGreat

/-
impl.IsStream.
-/
namespace Go.Proofs.YtndnfhhdflmfcaaGreat
open Go Go.RowKit Ieee

/-- The words of a voice's input. -/
def XsWf (p : Pl) : Prop := ∀ v ∈ p.vs, ∀ i, i < v.xs.length → wfk .f32 (v.xs.getD i 0)
theorem Pl.happen_wf {bm : Int → List MW} {most : Int} {p : Pl} {e : Ev} (h : XsWf p) : XsWf (p.happen bm most e) := by
  unfold Pl.happen
  split
  · intro v hv
    rcases List.mem_append.1 hv with hv | hv
    · have hv' : v ∈ p.vs := by
        split at hv
        · exact List.mem_of_mem_drop hv
        · exact hv
      exact h v hv'
    · rw [List.mem_singleton.1 hv]
      intro i hi
      have hi' : i < e.2.2.2.2.1.toNat := by simpa [Vp.new, forcedW_len] using hi
      show wfk .f32 ((forcedW _ _ _).getD i 0)
      rw [forcedW_at hi']
      exact fo_lt _ _ _ _
  · split
    · intro v hv
      obtain ⟨u, hu, rfl⟩ := List.mem_map.1 hv
      split
      · exact h u hu
      · exact h u hu
    · exact fun v hv => h v (List.mem_filter.1 hv).1
theorem arriveP_wf {bm : Int → List MW} {most now : Int} {l : List Ev} {p : Pl} (h : XsWf p) : XsWf (arriveP bm most now l p).2 := by
  induction l generalizing p with
  | nil => exact h
  | cons e l ih =>
    unfold arriveP
    split
    · exact ih (Pl.happen_wf h)
    · exact h
theorem plAt_wf (bm : Int → List MW) (most : Int) (L : List Ev) (n : Nat) : XsWf (plAt bm most L n).2 := by
  induction n with
  | zero => exact fun v hv => by simp [plAt] at hv
  | succ n ih =>
    intro v hv
    obtain ⟨u, hu, rfl⟩ := List.mem_map.1 hv
    have h1 := arriveP_wf (bm := bm) (most := most) (now := n) (l := L.drop (plAt bm most L n).1) ih u hu
    intro i hi
    have e : u.next.xs.getD i 0 = u.xs.getD (1 + i) 0 := by simp [Vp.next, List.getD, List.getElem?_drop, Nat.add_comm]
    rw [e]
    exact h1 (1 + i) (by simp [Vp.next] at hi; omega)
theorem vcWf_of {t : Nat} {v : Vp} (h : VpOk t v) (hx : ∀ i, i < v.xs.length → wfk .f32 (v.xs.getD i 0)) : VcWf v :=
  ⟨h.ms, by have := h.lm; omega, fun i hi => ⟨(h.st i hi).w1, (h.st i hi).w2⟩, hx, by have := h.lx; omega⟩
/-- A player's voices as a row that can be read. -/
def Vm.q (m : Vm) : Vq := ⟨m.v, m.M, m.mc, some ⟨m.S, 0, none⟩, m.v.ms.length, m.I, m.ic⟩
theorem flatQ_q (ms : List Vm) : flatQ (ms.map Vm.q) = flatV ms := by
  induction ms with
  | nil => rfl
  | cons m L ih =>
    simp only [flatQ, flatV, List.map_cons, List.flatMap_cons] at ih ⊢
    rw [ih]; rfl
theorem PlG.qs {w0 w : World} {base P done now vc : Nat} {c : Pc} {A : Option Addr} {vT : Value} {ms : List Vm} {begun : Int} (h : PlIn w0 w base P c done now (.slice A ms.length vc) vT ms begun) : QsIn w base w.heap.size A (ms.map Vm.q) := by
  refine ⟨fun hl => ?_, fun q hq => ?_⟩
  · rw [flatQ_q] at hl ⊢
    obtain ⟨b, c', hv, _, hb, _, _, _, hc⟩ := owns_cells h.vrow (by rw [flatV_len] at hl; omega) (flatV_len ms)
    injection hv with q1 _ _
    exact ⟨b, 0, q1, hb, fun k u hu => by rw [Nat.zero_add]; exact hc k u hu⟩
  · obtain ⟨m, hm, rfl⟩ := List.mem_map.1 hq
    have hv := h.vo m hm
    refine ⟨⟨hv.mod, fun k e => (hv.mod.lt k e).2⟩, Nat.le_refl _, fun _ => ⟨m.S, 0, rfl, hv.sts.lt, fun k u hu => ?_⟩, hv.inp.rd⟩
    have hu' : ((List.range m.v.ms.length).map fun i => sV (sAt m.v.ss i))[k]? = some u := hu
    have hk : k < m.v.ms.length := by
      rcases Nat.lt_or_ge k m.v.ms.length with q0 | q0
      · exact q0
      · rw [List.getElem?_eq_none (by simpa using q0)] at hu'; cases hu'
    have := hv.sts.cell hk
    rw [Nat.zero_add, this]
    rw [List.getElem?_map, List.getElem?_range hk] at hu'
    exact hu'
theorem qs_v (ms : List Vm) : (ms.map Vm.q).map Vq.v = ms.map Vm.v := by simp [Vm.q, Function.comp_def]
/-- The cells of a stream. -/
def stC (s : Sh) (B : Option Addr) (cb : Nat) (bs : List Bd) (E : Option Addr) (ce n : Nat) (now done : Nat) (V : Option Addr) (nv vc env : Nat) : Array Value :=
  #[.int .i64 s.1, .int .i64 s.2.1, .float .f32 s.2.2.1, .float .f32 s.2.2.2, .slice B bs.length cb, .slice E n ce, .int .i64 now, .int .i64 done, .slice V nv vc, .float .f32 env]
theorem st_cells {W : World} {M : Nat} {a b c d e f g h i j : Value} {t : TypeId} (hh : W.heap[M]? = some (.cells #[a, b, c, d, e, f, g, h, i, j] t (0, 0))) :
    W.cell? ⟨M, 0, none⟩ = some a ∧ W.cell? ⟨M, 1, none⟩ = some b ∧ W.cell? ⟨M, 2, none⟩ = some c ∧ W.cell? ⟨M, 3, none⟩ = some d ∧ W.cell? ⟨M, 4, none⟩ = some e ∧ W.cell? ⟨M, 5, none⟩ = some f ∧ W.cell? ⟨M, 6, none⟩ = some g ∧ W.cell? ⟨M, 7, none⟩ = some h ∧ W.cell? ⟨M, 8, none⟩ = some i ∧ W.cell? ⟨M, 9, none⟩ = some j :=
  ⟨cell_of_row W M 0 _ _ (0, 0) hh, cell_of_row W M 1 _ _ (0, 0) hh, cell_of_row W M 2 _ _ (0, 0) hh, cell_of_row W M 3 _ _ (0, 0) hh, cell_of_row W M 4 _ _ (0, 0) hh, cell_of_row W M 5 _ _ (0, 0) hh, cell_of_row W M 6 _ _ (0, 0) hh, cell_of_row W M 7 _ _ (0, 0) hh, cell_of_row W M 8 _ _ (0, 0) hh, cell_of_row W M 9 _ _ (0, 0) hh⟩
/-- What is told of a stream. -/
structure StmOk (s : Sh) (bs : List Bd) (evs : List Ev) (now done : Nat) (qs : List Vq) (env : Nat) : Prop where
  sc : ScPlay s bs evs
  len : (now : Int) ≤ s.1
  d : done = (plAt (bmOf bs) s.2.1 (sortedE evs) now).1
  vs : qs.map Vq.v = (plAt (bmOf bs) s.2.1 (sortedE evs) now).2.vs
  env : nrm .f32 env = envP (bmOf bs) s.2.1 (sortedE evs) s.2.2.2 now ∧ wfk .f32 env
set_option maxRecDepth 100000 in
set_option maxHeartbeats 6400000 in
theorem isStream_any (s : Sh) (B : Option Addr) (cb : Nat) (bs : List Bd) (E : Option Addr) (ce lo hi : Nat) (evs : List Ev) (now done : Nat) (V : Option Addr) (nv vc env : Nat) (qs : List Vq) (w : World) (h : ScIn w lo hi B cb bs E ce evs) (hq : QsIn w lo hi V qs) (hn : qs.length = nv) (hok : StmOk s bs evs now done qs env) (hat : AtAll now s bs evs) :
    Calls Tryz.prog 8 #[.agg #[.int .i64 s.1, .int .i64 s.2.1, .float .f32 s.2.2.1, .float .f32 s.2.2.2, .slice B bs.length cb, .slice E evs.length ce, .int .i64 now, .int .i64 done, .slice V nv vc, .float .f32 env]] w fun r w' => r = .returned (.bool true) ∧ Below w.heap.size w w' := by
  have HOK := Lib.hid hok
  have HAT := Lib.hid hat
  have HNq := Lib.hid hn
  have hL : s.1 ≤ 2000 := hok.sc.sh.l1
  have hnow : (now : Int) ≤ s.1 := hok.len
  have HB : Hid (Below w.heap.size w (w.alloc (.cells (stC s B cb bs E ce evs.length now done V nv vc env) 31))) := (Below.refl w.heap.size w).alloc (Nat.le_refl _) _
  have HN := Lib.hid (heap_alloc_new w (.cells (stC s B cb bs E ce evs.length now done V nv vc env) 31))
  have HI := Lib.hid (h.below HB.out)
  have HQ := Lib.hid (hq.new HB.out)
  unfold stC at HB HN HI HQ
  clear h hq hok hat hn
  go_enter Tryz.func8, Tryz.ntmps8
  obtain ⟨c0, c1, c2, c3, c4, c5, c6, c7, c8, c9⟩ := st_cells HN.out
  go_wp2_with fail
  clear c0 c1 c2 c3 c4 c5 c6 c7 c8 c9
  generalize w.alloc (.cells #[.int .i64 s.1, .int .i64 s.2.1, .float .f32 s.2.2.1, .float .f32 s.2.2.2, .slice B bs.length cb, .slice E evs.length ce, .int .i64 now, .int .i64 done, .slice V nv vc, .float .f32 env] 31) = W at *
  generalize hsb : w.heap.size = sb at *
  have HSB := Lib.hid hsb
  clear hsb
  refine (isScore_any s B cb bs E ce lo hi evs W HI.out HOK.out.sc.ask).mono ?_
  rintro rr W2 ⟨rfl, hb⟩
  have HI2 := Lib.hid (HI.out.below hb)
  have HQ2 := Lib.hid (HQ.out.new hb)
  have HB2 := Lib.hid (HB.out.trans (hb.mono (by have := HB.out.size; have := HSB.out; omega)))
  have HN2 := Lib.hid ((hb.block _ (lt_of_some HN.out)).trans HN.out)
  clear hb HI HQ HB HN
  obtain ⟨c0, c1, c2, c3, c4, c5, c6, c7, c8, c9⟩ := st_cells HN2.out
  have g1 : ¬ (now : Int) < 0 := by omega
  have g2 : ¬ s.1 < (now : Int) := by omega
  go_wp2_with fail
  clear c0 c1 c2 c3 c4 c5 c6 c7 c8 c9
  refine (streamed_any s B cb bs E ce lo hi now evs W2 HI2.out HOK.out.sc HAT.out (by omega)).mono ?_
  rintro rr W3 ⟨Wx, P, c, ev, A, ca, ys, vV, vT, ms, b, rfl, hc, hbx, hpl, hvs, hbg, hev, hown, hstr⟩
  have hb23 : Below W2.heap.size W2 W3 := hbx.trans (hpl.bel.mono hbx.size)
  have HQ3 := Lib.hid (HQ2.out.new hb23)
  have HB3 := Lib.hid (HB2.out.trans (hb23.mono (by have := HB2.out.size; have := HSB.out; omega)))
  have HN3 := Lib.hid ((hb23.block _ (lt_of_some HN2.out)).trans HN2.out)
  have HEv := Lib.hid hev
  obtain ⟨VA, vc', hvv⟩ := owns_form hpl.vrow
  subst hvv
  have HPl := Lib.hid hpl
  have HVs := Lib.hid hvs
  have hdd : done = (plAt (bmOf bs) s.2.1 (sortedE evs) now).1 := HOK.out.d
  rw [← hdd] at HPl
  clear hc hbx hpl hvs hbg hev hown hstr hb23 HQ2 HB2 HN2 HI2 hdd g1 g2
  have hml : ms.length = nv := by
    have h1 := congrArg List.length (HVs.out.trans HOK.out.vs.symm)
    simp only [List.length_map] at h1
    rw [h1]; exact HNq.out
  have hm8 : nv ≤ 8 := by
    obtain ⟨t, _, ha⟩ := HAT.out now (Nat.le_refl _)
    have h1 := ha.ok.len
    rw [← HOK.out.vs, List.length_map, HNq.out] at h1
    have h2 := HOK.out.sc.sh.v1
    omega
  have HML := Lib.hid hml
  rw [hml] at HPl
  clear hml
  have HC : Hid (∀ W' : World, W'.heap[sb]? = some (.cells #[.int .i64 s.1, .int .i64 s.2.1, .float .f32 s.2.2.1, .float .f32 s.2.2.2, .slice B bs.length cb, .slice E evs.length ce, .int .i64 now, .int .i64 done, .slice V nv vc, .float .f32 env] 31 (0, 0)) → (∃ (v9 v10 : Value) (v11 : Int), W'.heap[P]? = some (.cells (plC c done now v9 v10 v11) 53 (0, 0)) ∧ v9 = .slice VA nv vc') → (W'.cell? ⟨sb, 7, none⟩ = some (.int .i64 done) ∧ W'.cell? ⟨sb, 8, none⟩ = some (.slice V nv vc) ∧ W'.cell? ⟨sb, 9, none⟩ = some (.float .f32 env)) ∧ W'.cell? ⟨P, 7, none⟩ = some (.int .i64 done) ∧ W'.cell? ⟨P, 9, none⟩ = some (.slice VA nv vc')) := Lib.hid (fun W' h1 h2 => by
    obtain ⟨v9, v10, v11, h2, rfl⟩ := h2
    have k1 := st_cells h1
    have k2 := pl_cells h2
    exact ⟨⟨k1.2.2.2.2.2.2.2.1, k1.2.2.2.2.2.2.2.2.1, k1.2.2.2.2.2.2.2.2.2⟩, k2.2.2.2.2.2.2.2.1, k2.2.2.2.2.2.2.2.2.2.1⟩)
  have HN4 : Hid (W3.drew.heap[sb]? = some (.cells #[.int .i64 s.1, .int .i64 s.2.1, .float .f32 s.2.2.1, .float .f32 s.2.2.2, .slice B bs.length cb, .slice E evs.length ce, .int .i64 now, .int .i64 done, .slice V nv vc, .float .f32 env] 31 (0, 0))) := HN3.out
  have HP4 : Hid (∃ (v9 v10 : Value) (v11 : Int), W3.drew.heap[P]? = some (.cells (plC c done now v9 v10 v11) 53 (0, 0)) ∧ v9 = .slice VA nv vc') := ⟨_, _, _, HPl.out.box, rfl⟩
  have HQ4 := Lib.hid (HQ3.out.new (below_drewN (Below.refl _ _) 1))
  have HQp : Hid (QsIn (W3.drewN 1) Wx.heap.size W3.heap.size VA (ms.map Vm.q)) := Lib.hid (by
    have h1 := HPl.out
    rw [← HML.out] at h1
    exact (PlG.qs h1).new (below_drewN (Below.refl _ _) 1))
  have HB4 : Hid (Below sb w W3.drew) := HB3.out.drew
  clear HN3 HQ3 HB3 HPl
  go_wp2_with fail
  refine wp_region_held_drew (S := fun w' => (w'.cell? ⟨sb, 7, none⟩ = some (.int .i64 done) ∧ w'.cell? ⟨sb, 8, none⟩ = some (.slice V nv vc) ∧ w'.cell? ⟨sb, 9, none⟩ = some (.float .f32 env)) ∧ w'.cell? ⟨P, 7, none⟩ = some (.int .i64 done) ∧ w'.cell? ⟨P, 9, none⟩ = some (.slice VA nv vc')) (by kernel_rfl) (HC.out _ HN4.out HP4.out) (fun hHeld => ?_)
  refine wpAnyH_take (i := 0) (oi := _) (v := ?_) rfl (by kernel_rfl) (by kernel_rfl) (by kernel_rfl) (fun _ _ _ h => h) (Or.inl ⟨by rfl, ?_⟩) (by assumption) ?_
  rotate_left
  · (intro w hSw; (try dsimp only at hSw); go_simp; try (with_reducible rfl))
  (try simp only [Act.put, List.setIfInBounds_toArray, List.set_cons_zero, List.set_cons_succ, List.getElem_toArray, List.getElem_cons_succ, List.getElem_cons_zero])
  refine wpAnyH_take (i := 1) (oi := _) (v := ?_) rfl (by kernel_rfl) (by kernel_rfl) (by kernel_rfl) (fun _ _ _ h => h) (Or.inl ⟨by rfl, ?_⟩) (by assumption) ?_
  rotate_left
  · (intro w hSw; (try dsimp only at hSw); go_simp; try (with_reducible rfl))
  (try simp only [Act.put, List.setIfInBounds_toArray, List.set_cons_zero, List.set_cons_succ, List.getElem_toArray, List.getElem_cons_succ, List.getElem_cons_zero])
  refine wpAnyH_take (i := 2) (oi := _) (v := ?_) rfl (by kernel_rfl) (by kernel_rfl) (by kernel_rfl) (fun _ _ _ h => h) (Or.inl ⟨by rfl, ?_⟩) (by assumption) ?_
  rotate_left
  · (intro w hSw; (try dsimp only at hSw); go_simp; try (with_reducible rfl))
  (try simp only [Act.put, List.setIfInBounds_toArray, List.set_cons_zero, List.set_cons_succ, List.getElem_toArray, List.getElem_cons_succ, List.getElem_cons_zero])
  refine wpAnyH_take (i := 3) (oi := _) (v := ?_) rfl (by kernel_rfl) (by kernel_rfl) (by kernel_rfl) (fun _ _ _ h => h) (Or.inl ⟨by rfl, ?_⟩) (by assumption) ?_
  rotate_left
  · (intro w hSw; (try dsimp only at hSw); go_simp; try (with_reducible rfl))
  (try simp only [Act.put, List.setIfInBounds_toArray, List.set_cons_zero, List.set_cons_succ, List.getElem_toArray, List.getElem_cons_succ, List.getElem_cons_zero])
  refine wpAnyH_take (i := 4) (oi := _) (v := ?_) rfl (by kernel_rfl) (by kernel_rfl) (by kernel_rfl) (fun _ _ _ h => h) (Or.inl ⟨by rfl, ?_⟩) (by assumption) ?_
  rotate_left
  · (intro w hSw; (try dsimp only at hSw); go_simp; try (with_reducible rfl))
  (try simp only [Act.put, List.setIfInBounds_toArray, List.set_cons_zero, List.set_cons_succ, List.getElem_toArray, List.getElem_cons_succ, List.getElem_cons_zero])
  refine wpAnyH_take (i := 5) (oi := _) (v := ?_) rfl (by kernel_rfl) (by kernel_rfl) (by kernel_rfl) (fun _ _ _ h => h) (Or.inl ⟨by rfl, ?_⟩) (by assumption) ?_
  rotate_left
  · (intro w hSw; (try dsimp only at hSw); go_simp; try (with_reducible rfl))
  (try simp only [Act.put, List.setIfInBounds_toArray, List.set_cons_zero, List.set_cons_succ, List.getElem_toArray, List.getElem_cons_succ, List.getElem_cons_zero])
  refine wpAnyH_take (i := 6) (oi := _) (v := ?_) rfl (by kernel_rfl) (by kernel_rfl) (by kernel_rfl) (fun _ _ _ h => h) (Or.inl ⟨by rfl, ?_⟩) (by assumption) ?_
  rotate_left
  · (intro w hSw; (try dsimp only at hSw); go_simp; try (with_reducible rfl))
  (try simp only [Act.put, List.setIfInBounds_toArray, List.set_cons_zero, List.set_cons_succ, List.getElem_toArray, List.getElem_cons_succ, List.getElem_cons_zero])
  refine wpAnyH_take (i := 7) (oi := _) (v := ?_) rfl (by kernel_rfl) (by kernel_rfl) (by kernel_rfl) (fun _ _ _ h => h) (Or.inl ⟨by rfl, ?_⟩) (by assumption) ?_
  rotate_left
  · (intro w hSw; (try dsimp only at hSw); go_simp; try (with_reducible rfl))
  (try simp only [Act.put, List.setIfInBounds_toArray, List.set_cons_zero, List.set_cons_succ, List.getElem_toArray, List.getElem_cons_succ, List.getElem_cons_zero])
  refine wpAnyH_take (i := 8) (oi := _) (v := ?_) rfl (by kernel_rfl) (by kernel_rfl) (by kernel_rfl) (fun _ _ _ h => h) (Or.inl ⟨by rfl, ?_⟩) (by assumption) ?_
  rotate_left
  · (intro w hSw; (try dsimp only at hSw); go_simp; try (with_reducible rfl))
  (try simp only [Act.put, List.setIfInBounds_toArray, List.set_cons_zero, List.set_cons_succ, List.getElem_toArray, List.getElem_cons_succ, List.getElem_cons_zero])
  refine wpAnyH_take (i := 9) (oi := _) (v := ?_) rfl (by kernel_rfl) (by kernel_rfl) (by kernel_rfl) (fun _ _ _ h => h) (Or.inl ⟨by rfl, ?_⟩) (by assumption) ?_
  rotate_left
  · (intro w hSw; (try dsimp only at hSw); go_simp; try (with_reducible rfl))
  (try simp only [Act.put, List.setIfInBounds_toArray, List.set_cons_zero, List.set_cons_succ, List.getElem_toArray, List.getElem_cons_succ, List.getElem_cons_zero])
  refine wpAnyH_take (i := 10) (oi := _) (v := ?_) rfl (by kernel_rfl) (by kernel_rfl) (by kernel_rfl) (fun _ _ _ h => h) (Or.inl ⟨by rfl, ?_⟩) (by assumption) ?_
  rotate_left
  · (intro w hSw; (try dsimp only at hSw); go_simp; try (with_reducible rfl))
  (try simp only [Act.put, List.setIfInBounds_toArray, List.set_cons_zero, List.set_cons_succ, List.getElem_toArray, List.getElem_cons_succ, List.getElem_cons_zero])
  refine wpAnyH_ready (rs := [11]) (by kernel_rfl) (by simp) ?_
  refine AllReadyH.cons (o := _) rfl (fun K hK => ?_) AllReadyH.nil
  go_simp
  have hse : sameB .f32 env ev = true := by
    simp only [sameB, decide_eq_true_eq]
    rw [HOK.out.env.1, HEv.out.1]
  refine (same32_any env ev _ HOK.out.env.2 HEv.out.2).mono ?_
  rintro rr W5 ⟨rfl, n5, rfl⟩
  rw [hse]
  have HN5 : Hid ((W3.drewN (1 + n5)).heap[sb]? = some (.cells #[.int .i64 s.1, .int .i64 s.2.1, .float .f32 s.2.2.1, .float .f32 s.2.2.2, .slice B bs.length cb, .slice E evs.length ce, .int .i64 now, .int .i64 done, .slice V nv vc, .float .f32 env] 31 (0, 0))) := HN4.out
  have HP5 : Hid (∃ (v9 v10 : Value) (v11 : Int), (W3.drewN (1 + n5)).heap[P]? = some (.cells (plC c done now v9 v10 v11) 53 (0, 0)) ∧ v9 = .slice VA nv vc') := HP4.out
  have HQ5 : Hid (QsIn (W3.drewN (1 + n5)) lo hi V qs) := Lib.hid (by rw [← World.drewN_drewN]; exact HQ4.out.new (below_drewN (Below.refl _ _) n5))
  have HQp5 : Hid (QsIn (W3.drewN (1 + n5)) Wx.heap.size W3.heap.size VA (ms.map Vm.q)) := Lib.hid (by rw [← World.drewN_drewN]; exact HQp.out.new (below_drewN (Below.refl _ _) n5))
  have HB5 : Hid (Below sb w (W3.drewN (1 + n5))) := Lib.hid (by rw [← World.drewN_drewN]; exact below_drewN HB4.out n5)
  have HWf : Hid (∀ q ∈ qs, VcWf q.v) := Lib.hid (fun q hq => by
    have hv : q.v ∈ (plAt (bmOf bs) s.2.1 (sortedE evs) now).2.vs := by
      rw [← HOK.out.vs]
      exact List.mem_map_of_mem hq
    obtain ⟨t, _, ha⟩ := HAT.out now (Nat.le_refl _)
    exact vcWf_of (ha.ok.vs _ hv) (plAt_wf _ _ _ _ _ hv))
  have HVe : Hid (qs.map Vq.v = (ms.map Vm.q).map Vq.v) := Lib.hid (by rw [qs_v, HVs.out]; exact HOK.out.vs)
  clear HN4 HP4 HQ4 HQp HB4 hse
  go_wp2_with fail
  refine hK.out _ _ ?_ (fun hHeldN => ?_)
  · exact HC.out _ HN5.out HP5.out
  clear hHeld hK K
  have hHeld := hHeldN
  clear hHeldN
  (try simp only [Act.put, List.setIfInBounds_toArray, List.set_cons_zero, List.set_cons_succ, List.getElem_toArray, List.getElem_cons_succ, List.getElem_cons_zero])
  generalize W3.drewN (1 + n5) = W5 at *
  refine wpAnyH_take (i := 12) (oi := _) (v := ?_) rfl (by kernel_rfl) (by kernel_rfl) (by kernel_rfl) (fun _ _ _ h => h) (Or.inl ⟨by rfl, ?_⟩) (by assumption) ?_
  rotate_left
  · (intro w hSw; (try dsimp only at hSw); go_simp; try (with_reducible rfl))
  (try simp only [Act.put, List.setIfInBounds_toArray, List.set_cons_zero, List.set_cons_succ, List.getElem_toArray, List.getElem_cons_succ, List.getElem_cons_zero])
  refine wpAnyH_take (i := 13) (oi := _) (v := ?_) rfl (by kernel_rfl) (by kernel_rfl) (by kernel_rfl) (fun _ _ _ h => h) (Or.inl ⟨by rfl, ?_⟩) (by assumption) ?_
  rotate_left
  · (intro w hSw; (try dsimp only at hSw); go_simp; try (with_reducible rfl))
  (try simp only [Act.put, List.setIfInBounds_toArray, List.set_cons_zero, List.set_cons_succ, List.getElem_toArray, List.getElem_cons_succ, List.getElem_cons_zero])
  refine wpAnyH_take (i := 14) (oi := _) (v := ?_) rfl (by kernel_rfl) (by kernel_rfl) (by kernel_rfl) (fun _ _ _ h => h) (Or.inl ⟨by rfl, ?_⟩) (by assumption) ?_
  rotate_left
  · (intro w hSw; (try dsimp only at hSw); go_simp; try (with_reducible rfl))
  (try simp only [Act.put, List.setIfInBounds_toArray, List.set_cons_zero, List.set_cons_succ, List.getElem_toArray, List.getElem_cons_succ, List.getElem_cons_zero])
  refine wpAnyH_take (i := 15) (oi := _) (v := ?_) rfl (by kernel_rfl) (by kernel_rfl) (by kernel_rfl) (fun _ _ _ h => h) (Or.inl ⟨by rfl, ?_⟩) (by assumption) ?_
  rotate_left
  · (intro w hSw; (try dsimp only at hSw); go_simp; try (with_reducible rfl))
  (try simp only [Act.put, List.setIfInBounds_toArray, List.set_cons_zero, List.set_cons_succ, List.getElem_toArray, List.getElem_cons_succ, List.getElem_cons_zero])
  refine wpAnyH_take (i := 16) (oi := _) (v := ?_) rfl (by kernel_rfl) (by kernel_rfl) (by kernel_rfl) (fun _ _ _ h => h) (Or.inl ⟨by rfl, ?_⟩) (by assumption) ?_
  rotate_left
  · (intro w hSw; (try dsimp only at hSw); go_simp; try (with_reducible rfl))
  (try simp only [Act.put, List.setIfInBounds_toArray, List.set_cons_zero, List.set_cons_succ, List.getElem_toArray, List.getElem_cons_succ, List.getElem_cons_zero])
  refine wpAnyH_take (i := 17) (oi := _) (v := ?_) rfl (by kernel_rfl) (by kernel_rfl) (by kernel_rfl) (fun _ _ _ h => h) (Or.inl ⟨by rfl, ?_⟩) (by assumption) ?_
  rotate_left
  · (intro w hSw; (try dsimp only at hSw); go_simp; try (with_reducible rfl))
  (try simp only [Act.put, List.setIfInBounds_toArray, List.set_cons_zero, List.set_cons_succ, List.getElem_toArray, List.getElem_cons_succ, List.getElem_cons_zero])
  refine wpAnyH_take (i := 18) (oi := _) (v := ?_) rfl (by kernel_rfl) (by kernel_rfl) (by kernel_rfl) (fun _ _ _ h => h) (Or.inl ⟨by rfl, ?_⟩) (by assumption) ?_
  rotate_left
  · (intro w hSw; (try dsimp only at hSw); go_simp; try (with_reducible rfl))
  (try simp only [Act.put, List.setIfInBounds_toArray, List.set_cons_zero, List.set_cons_succ, List.getElem_toArray, List.getElem_cons_succ, List.getElem_cons_zero])
  refine wpAnyH_take (i := 19) (oi := _) (v := ?_) rfl (by kernel_rfl) (by kernel_rfl) (by kernel_rfl) (fun _ _ _ h => h) (Or.inl ⟨by rfl, ?_⟩) (by assumption) ?_
  rotate_left
  · (intro w hSw; (try dsimp only at hSw); go_simp; try (with_reducible rfl))
  (try simp only [Act.put, List.setIfInBounds_toArray, List.set_cons_zero, List.set_cons_succ, List.getElem_toArray, List.getElem_cons_succ, List.getElem_cons_zero])
  refine wpAnyH_ready (rs := [20]) (by kernel_rfl) (by simp) ?_
  refine AllReadyH.cons (o := _) rfl (fun K hK => ?_) AllReadyH.nil
  go_simp
  refine (eqV_refl V VA vc vc' lo hi Wx.heap.size W3.heap.size nv qs (ms.map Vm.q) W5 HQ5.out HQp5.out HNq.out HVe.out HWf.out (by omega)).mono ?_
  rintro rr W6 ⟨rfl, hb6⟩
  have HN6 := Lib.hid ((hb6.block _ (lt_of_some HN5.out)).trans HN5.out)
  have HP6 : Hid (∃ (v9 v10 : Value) (v11 : Int), W6.heap[P]? = some (.cells (plC c done now v9 v10 v11) 53 (0, 0)) ∧ v9 = .slice VA nv vc') := Lib.hid (by
    obtain ⟨v9, v10, v11, h1, h2⟩ := HP5.out
    exact ⟨v9, v10, v11, (hb6.block _ (lt_of_some h1)).trans h1, h2⟩)
  have HB6 : Hid (Below sb w W6) := HB5.out.trans (hb6.mono (by have := HB5.out.size; have := HSB.out; omega))
  clear hb6 HN5 HP5 HQ5 HQp5 HB5
  go_wp2_with fail
  refine hK.out _ _ ?_ (fun hHeldN => ?_)
  · exact HC.out _ HN6.out HP6.out
  clear hHeld hK K
  have hHeld := hHeldN
  clear hHeldN
  (try simp only [Act.put, List.setIfInBounds_toArray, List.set_cons_zero, List.set_cons_succ, List.getElem_toArray, List.getElem_cons_succ, List.getElem_cons_zero])
  refine wpAnyH_take (i := 21) (oi := _) (v := ?_) rfl (by kernel_rfl) (by kernel_rfl) (by kernel_rfl) (fun _ _ _ h => h) (Or.inl ⟨by rfl, ?_⟩) (by assumption) ?_
  rotate_left
  · (intro w hSw; (try dsimp only at hSw); go_simp; try (with_reducible rfl))
  (try simp only [Act.put, List.setIfInBounds_toArray, List.set_cons_zero, List.set_cons_succ, List.getElem_toArray, List.getElem_cons_succ, List.getElem_cons_zero])
  refine wpAnyH_take (i := 22) (oi := _) (v := ?_) rfl (by kernel_rfl) (by kernel_rfl) (by kernel_rfl) (fun _ _ _ h => h) (Or.inl ⟨by rfl, ?_⟩) (by assumption) ?_
  rotate_left
  · (intro w hSw; (try dsimp only at hSw); go_simp; try (with_reducible rfl))
  (try simp only [Act.put, List.setIfInBounds_toArray, List.set_cons_zero, List.set_cons_succ, List.getElem_toArray, List.getElem_cons_succ, List.getElem_cons_zero])
  refine wpAnyH_done (by kernel_rfl) ?_ _
  (try simp only [List.getElem_toArray, List.getElem_cons_succ, List.getElem_cons_zero, Act.put, List.setIfInBounds_toArray, List.set_cons_zero, List.set_cons_succ])
  go_wp2_with fail
  go_ret
  rw [HSB.out]
  exact ⟨rfl, HB6.out⟩
end Go.Proofs.YtndnfhhdflmfcaaGreat

/-
impl.copyScore.
-/
namespace Go.Proofs.YtndnfhhdflmfcaaGreat
open Go Go.RowKit Ieee

/-- The cells of a score. -/
def scC (s : Sh) (B : Option Addr) (cb : Nat) (bs : List Bd) (E : Option Addr) (ce n : Nat) : Array Value := #[.int .i64 s.1, .int .i64 s.2.1, .float .f32 s.2.2.1, .float .f32 s.2.2.2, .slice B bs.length cb, .slice E n ce]
/-- The modes of bodies. -/
def modesB (bs : List Bd) : List (List MW) := bs.map fun b => b.2.2
theorem modesB_at {bs : List Bd} {i : Nat} (h : i < bs.length) : (modesB bs)[i]? = some (bodAt bs i).2.2 := by
  simp [modesB, bodAt, List.getD, List.getElem?_eq_getElem h]
theorem modesB_take {bs : List Bd} {k : Nat} (h : k < bs.length) : (modesB bs).take (k + 1) = (modesB bs).take k ++ [(bodAt bs k).2.2] := by
  have hk : k < (modesB bs).length := by simpa [modesB] using h
  rw [List.take_succ_eq_append_getElem hk]
  have := modesB_at h
  rw [List.getElem?_eq_getElem hk] at this
  injection this with this
  rw [this]
theorem modesB_len {bs bs' : List Bd} (h : modesB bs' = modesB bs) : bs'.length = bs.length := by
  have := congrArg List.length h
  simpa [modesB] using this
theorem BodsOk.modes {bs bs' : List Bd} {m n : Nat} (h : BodsOk bs m n) (e : modesB bs' = modesB bs) : BodsOk bs' m n := by
  have hl := modesB_len e
  refine ⟨by rw [hl]; exact h.1, fun i hi => ?_⟩
  have hi' : i < bs.length := by omega
  have h1 := modesB_at hi
  have h2 := modesB_at hi'
  rw [e, h2] at h1
  injection h1 with h1
  rw [← h1]
  exact h.2 i hi'
/-- Where the walk of copyScore is. -/
structure CIn (w wr : World) (X : Array Value) (k : Nat) (v : Value) (bs bs1 : List Bd) : Prop where
  bel : Below w.heap.size w wr
  box : wr.heap[w.heap.size]? = some (.cells X 27 (0, 0))
  res : wr.heap[w.heap.size + 1]? = some (.cells #[.int .i64 0, .int .i64 0, .float .f32 0, .float .f32 0, .slice none 0 0, .slice none 0 0] 27 (0, 0))
  own : BodsOwn wr (w.heap.size + 2) wr.heap.size v bs1
  len : bs1.length = k
  eq : modesB bs1 = (modesB bs).take k
theorem CIn.new {w wr w' : World} {X : Array Value} {k : Nat} {v : Value} {bs bs1 : List Bd} (h : CIn w wr X k v bs bs1) (hb : Below wr.heap.size wr w') : CIn w w' X k v bs bs1 :=
  ⟨h.bel.trans (hb.mono h.bel.size), (hb.block _ (lt_of_some h.box)).trans h.box, (hb.block _ (lt_of_some h.res)).trans h.res, (h.own.keep fun j _ hj => hb.block j hj).raise hb.size, h.len, h.eq⟩
/-- What copyScore returns. -/
def CopyP (s : Sh) (bs : List Bd) (evs : List Ev) (w : World) (r : Ending) (w' : World) : Prop :=
  ∃ (B' : Option Addr) (cb' : Nat) (bs' : List Bd) (E' : Option Addr) (ce' : Nat), r = .returned (scV s B' cb' bs' E' ce' evs) ∧ ScIn w' w.heap.size w'.heap.size B' cb' bs' E' ce' evs ∧ modesB bs' = modesB bs ∧ Below w.heap.size w w'
set_option maxRecDepth 100000 in
set_option maxHeartbeats 1600000 in
theorem copyScore_any (s : Sh) (B : Option Addr) (cb : Nat) (bs : List Bd) (E : Option Addr) (ce lo hi : Nat) (evs : List Ev) (w : World) (h : ScIn w lo hi B cb bs E ce evs) (hbo : BodsOk bs 16 8) (hl : evs.length ≤ 60) :
    Calls Tryz.prog 38 #[.agg #[.int .i64 s.1, .int .i64 s.2.1, .float .f32 s.2.2.1, .float .f32 s.2.2.2, .slice B bs.length cb, .slice E evs.length ce]] w (CopyP s bs evs w) := by
  obtain ⟨len, vo, c, r⟩ := s
  have HK := Lib.hid hbo
  have hbl := hbo.1
  have HH := Lib.hid h.hh
  have HE := Lib.hid h.evs
  have HBI := Lib.hid h.bodsIn
  have HC0 : Hid (CIn w (((w.alloc (.cells #[.int .i64 len, .int .i64 vo, .float .f32 c, .float .f32 r, .slice B bs.length cb, .slice E evs.length ce] 27)).alloc (.cells #[.int .i64 0, .int .i64 0, .float .f32 0, .float .f32 0, .slice none 0 0, .slice none 0 0] 27)).alloc (.cells #[] 68))
      #[.int .i64 len, .int .i64 vo, .float .f32 c, .float .f32 r, .slice B bs.length cb, .slice E evs.length ce] 0 (.slice (some ⟨w.heap.size + 2, 0, none⟩) 0 0) bs []) := by
    have b1 : Below w.heap.size w (w.alloc (.cells #[.int .i64 len, .int .i64 vo, .float .f32 c, .float .f32 r, .slice B bs.length cb, .slice E evs.length ce] 27)) := (Below.refl w.heap.size w).alloc (Nat.le_refl _) _
    have n1 := heap_alloc_new w (.cells #[.int .i64 len, .int .i64 vo, .float .f32 c, .float .f32 r, .slice B bs.length cb, .slice E evs.length ce] 27)
    generalize hW1 : w.alloc (.cells #[.int .i64 len, .int .i64 vo, .float .f32 c, .float .f32 r, .slice B bs.length cb, .slice E evs.length ce] 27) = W1 at *
    have s1 : W1.heap.size = w.heap.size + 1 := by rw [← hW1]; simp
    have b2 : Below W1.heap.size W1 (W1.alloc (.cells #[.int .i64 0, .int .i64 0, .float .f32 0, .float .f32 0, .slice none 0 0, .slice none 0 0] 27)) := (Below.refl W1.heap.size W1).alloc (Nat.le_refl _) _
    have n2 := heap_alloc_new W1 (.cells #[.int .i64 0, .int .i64 0, .float .f32 0, .float .f32 0, .slice none 0 0, .slice none 0 0] 27)
    generalize hW2 : W1.alloc (.cells #[.int .i64 0, .int .i64 0, .float .f32 0, .float .f32 0, .slice none 0 0, .slice none 0 0] 27) = W2 at *
    have s2 : W2.heap.size = w.heap.size + 2 := by rw [← hW2]; simp [s1]
    have b3 : Below W2.heap.size W2 (W2.alloc (.cells #[] 68)) := (Below.refl W2.heap.size W2).alloc (Nat.le_refl _) _
    have o3 := owns_empty W2 68
    rw [s2] at o3
    rw [s1] at n2
    refine ⟨(b1.trans (b2.mono (by omega))).trans (b3.mono (by omega)), (b3.block _ (by omega)).trans ((b2.block _ (by omega)).trans n1), (b3.block _ (by omega)).trans n2, ⟨?_, fun k hk => ?_, fun i hi => absurd hi (Nat.not_lt_zero _)⟩, rfl, rfl⟩
    · exact ⟨rfl, .inr ⟨w.heap.size + 2, 0, #[], rfl, Nat.le_refl _, by rw [← s2]; exact heap_alloc_new W2 _, Nat.le_refl _, by simp [maxLen], rfl, rfl⟩⟩
    · injection hk with hk
      subst hk
      simp; omega
  clear h hbo
  go_enter Tryz.func38, Tryz.ntmps38
  have cb4 := cell_of_row _ w.heap.size 4 _ _ (0, 0) HC0.out.box
  go_wp2_with fail
  clear cb4
  generalize ((w.alloc (.cells #[.int .i64 len, .int .i64 vo, .float .f32 c, .float .f32 r, .slice B bs.length cb, .slice E evs.length ce] 27)).alloc (.cells #[.int .i64 0, .int .i64 0, .float .f32 0, .float .f32 0, .slice none 0 0, .slice none 0 0] 27)).alloc (.cells #[] 68) = Wa at *
  go_loopw [3, 10] (fun v i wr => ∃ (k : Nat) (bs1 : List Bd), i = .int .i64 (k : Int) ∧ k ≤ bs.length ∧ Hid (CIn w wr #[.int .i64 len, .int .i64 vo, .float .f32 c, .float .f32 r, .slice B bs.length cb, .slice E evs.length ce] k v bs bs1)) (fun _ i _ => bs.length - (intOf i).toNat)
  case atStart => exact ⟨0, [], rfl, by omega, HC0⟩
  case round =>
    clear HC0
    obtain ⟨k, bs1, rfl, hk, HC⟩ := hrel
    by_cases hlt : k < bs.length
    · have H1 := Lib.hid (HBI.out.below HC.out.bel)
      obtain ⟨b, off, rfl, hbb, hc⟩ := H1.out.rd (by simp; omega)
      have e1 := hc k (bodV (bodAt bs k)) (by simp [bodAt, List.getD, List.getElem?_eq_getElem hlt])
      have HM := Lib.hid (H1.out.row k hlt)
      have HT : Hid (modesB bs1 ++ [(bodAt bs k).2.2] = (modesB bs).take (k + 1)) := Lib.hid (by rw [HC.out.eq, modesB_take hlt])
      have HK1 := Lib.hid ((HK.out).2 k hlt)
      have hm16 : (bodAt bs k).2.2.length ≤ 16 := HK1.out.2
      have hhi := HH.out
      have hsz := HC.out.bel.size
      have HB1 : Hid (∀ x, Below wr.heap.size wr (wr.alloc x)) := Lib.hid (fun x => (Below.refl wr.heap.size wr).alloc (Nat.le_refl _) x)
      clear hc H1
      unfold bodV at e1
      generalize bodAt bs k = m at *
      go_wp2_with fail
      have HC1 := Lib.hid (HC.out.new (HB1.out (.cells #[.slice m.1 m.2.2.length m.2.1] 68)))
      have HM1 : Hid (OwnM (wr.alloc (.cells #[.slice m.1 m.2.2.length m.2.1] 68)) lo hi m.1 m.2.1 m.2.2) := Lib.hid (HM.out.below (HB1.out _) (by omega))
      generalize wr.alloc (.cells #[.slice m.1 m.2.2.length m.2.1] 68) = W1 at *
      refine (copyBody_any _ _ lo hi _ W1 HM1.out (by have := HC1.out.bel.size; omega) hm16).mono ?_
      rintro r W2 ⟨MA, mc, rfl, hO, hb⟩
      have HC2 := Lib.hid (HC1.out.new hb)
      have HO2 := Lib.hid hO
      have HZ2 : Hid (w.heap.size + 2 ≤ W1.heap.size) := Lib.hid (by have := lt_of_some HC1.out.res; omega)
      have N3 := Lib.hid (heap_alloc_new W2 (.cells #[.slice MA m.2.2.length mc] 68))
      have b3 : Below W2.heap.size W2 (W2.alloc (.cells #[.slice MA m.2.2.length mc] 68)) := (Below.refl _ _).alloc (Nat.le_refl _) _
      have HC3 := Lib.hid (HC2.out.new b3)
      have HO3 := Lib.hid (hO.below b3 (Nat.le_refl _))
      have hz3 : W2.heap.size < (W2.alloc (.cells #[.slice MA m.2.2.length mc] 68)).heap.size := by simp
      have hz2 := hb.size
      have HBo : Hid (BodsOwn (W2.alloc (.cells #[.slice MA m.2.2.length mc] 68)) (w.heap.size + 2) W1.heap.size u3 bs1) := HC1.out.own.keep fun j _ hj => (b3.block j (by omega)).trans (hb.block j hj)
      clear hO hb b3 HC2 HO2 HC1 HM1 HM HC HB1
      obtain ⟨i0, hi0, hz0, hz1, hz2'⟩ := info_parts body_info
      go_wp2_with (at_builtin; refine wpList_append_lies _ rfl (.tmp 14) (.tmp 17) 24 rfl (w.heap.size + 2) 68 i0 _ 1 24 Tryz.underlying24 hi0 hz0 hz1 hz2' rfl (by omega) u3 bs1.length (bs1.map bodV) (by rfl) HC3.out.own.own ⟨W2.heap.size, 0, none⟩ 1 1 [.slice MA m.2.2.length mc] (by rfl) (by rfl) (World.news_of_block (t := 68) (fr := (0, 0)) N3.out) (by simp [Value.oneCell']) (by omega) (by have := HC3.out.len; simp only [maxLen]; omega) (by have := HC3.out.len; omega) (by have := HZ2.out; omega) _ rfl ?_; intro gg cap W5 hown5 hgrow5 hat5 hlt5)
      have HC5 : Hid (CIn w W5 #[.int .i64 len, .int .i64 vo, .float .f32 c, .float .f32 r, .slice (some ⟨b, off, none⟩) bs.length cb, .slice E evs.length ce] (k + 1) (.slice (some ⟨gg, 0, none⟩) (bs1.length + 1) cap) bs (bs1 ++ [(MA, mc, m.2.2)])) := by
        have hb := HC3.out
        have hne : ∀ j, j < w.heap.size + 2 → W5.heap[j]? = (W2.alloc (.cells #[.slice MA m.2.2.length mc] 68)).heap[j]? := fun j hj => hgrow5.block j (by have := HZ2.out; omega) (fun q => by have := (hb.own.own.lt j q.symm).1; omega)
        refine ⟨hb.bel.grown hgrow5 (by have := HZ2.out; omega) (fun j q => by have := (hb.own.own.lt j q).1; omega), (hne _ (by omega)).trans hb.box, (hne _ (by omega)).trans hb.res, ?_, by simp [hb.len], by rw [← HT.out]; simp [modesB]⟩
        exact HBo.out.app (lo1 := W1.heap.size) HZ2.out (Nat.le_refl _) HO3.out.1 hown5 hgrow5 (by rcases hat5 with q | q; exact .inl q; exact .inr (by omega)) hlt5 (by omega)
      clear hown5 hgrow5 hat5 hlt5 HC3 HO3 HT HBo
      go_wp2_with fail
      go_roundw
      case rel => exact ⟨k + 1, _, by go_num, by omega, HC5⟩
      case measure => simp [intOf]; omega
    · obtain rfl : bs.length = k := by omega
      have hlen : bs1.length = bs.length := HC.out.len
      have HEQ : Hid (modesB bs1 = modesB bs) := by
        have := HC.out.eq
        rwa [show bs.length = (modesB bs).length by simp [modesB], List.take_length] at this
      obtain ⟨A1, c1, hv⟩ := owns_form HC.out.own.own
      subst hv
      have HE1 := Lib.hid (HE.out.below HC.out.bel HH.out)
      have c5 := cell_of_row _ w.heap.size 5 _ _ (0, 0) HC.out.box
      go_wp2_with fail
      have hhi := HH.out
      have hsz := HC.out.bel.size
      refine (cloneE_any E ce lo hi evs wr HE1.out hl).mono ?_
      rintro r' W2 ⟨E', ce', rfl, hO, hb⟩
      have HC2 := Lib.hid (HC.out.new hb)
      have HO2 := Lib.hid (owns_lower hO.1 (show w.heap.size + 2 ≤ wr.heap.size by have := lt_of_some HC.out.res; omega))
      clear hO hb HC c5
      have f4 := free_cells HC2.out.box 4
      have f5 := free_cells HC2.out.box 5
      have HX : Hid (((W2.setCell ⟨w.heap.size, 4, none⟩ (.slice A1 bs1.length c1)).setCell ⟨w.heap.size, 5, none⟩ (.slice E' evs.length ce')).heap[w.heap.size]? = some (.cells #[.int .i64 len, .int .i64 vo, .float .f32 c, .float .f32 r, .slice A1 bs1.length c1, .slice E' evs.length ce'] 27 (0, 0))) := by
        show _ = _
        simp [World.setCell, Array.getElem?_modify, HC2.out.box]
      have HK2 : Hid (∀ j, j ≠ w.heap.size → ((W2.setCell ⟨w.heap.size, 4, none⟩ (.slice A1 bs1.length c1)).setCell ⟨w.heap.size, 5, none⟩ (.slice E' evs.length ce')).heap[j]? = W2.heap[j]?) := fun j hj => (Below.heap_setCell _ _ _ _ hj).trans (Below.heap_setCell _ _ _ _ hj)
      have HZ3 : Hid (((W2.setCell ⟨w.heap.size, 4, none⟩ (.slice A1 bs1.length c1)).setCell ⟨w.heap.size, 5, none⟩ (.slice E' evs.length ce')).heap.size = W2.heap.size) := by show _ = _; simp
      have HB3 : Hid (Below w.heap.size w ((W2.setCell ⟨w.heap.size, 4, none⟩ (.slice A1 bs1.length c1)).setCell ⟨w.heap.size, 5, none⟩ (.slice E' evs.length ce'))) := (HC2.out.bel.setCell (Nat.le_refl _) _).setCell (Nat.le_refl _) _
      obtain ⟨c0, c1', c2, c3, c4, c5⟩ := sc_cells HX.out
      have HR : Hid (((W2.setCell ⟨w.heap.size, 4, none⟩ (.slice A1 bs1.length c1)).setCell ⟨w.heap.size, 5, none⟩ (.slice E' evs.length ce')).heap[w.heap.size + 1]? = some (.cells #[.int .i64 0, .int .i64 0, .float .f32 0, .float .f32 0, .slice none 0 0, .slice none 0 0] 27 (0, 0))) := (HK2.out _ (by omega)).trans HC2.out.res
      obtain ⟨d0, d1, d2, d3, d4, d5⟩ := sc_cells HR.out
      obtain ⟨g0, g1, g2, g3, g4, g5⟩ := sc_free HR.out
      obtain ⟨a0, a1, a2, a3, a4, a5⟩ := sc_cells HC2.out.box
      obtain ⟨b0, b1, b2, b3, b4, b5⟩ := sc_cells HC2.out.res
      obtain ⟨e0, e1, e2, e3, e4, e5⟩ := sc_free HC2.out.res
      go_wp2_with fail
      rw [← hlen]
      generalize (W2.setCell ⟨w.heap.size, 4, none⟩ (.slice A1 bs1.length c1)).setCell ⟨w.heap.size, 5, none⟩ (.slice E' evs.length ce') = W3 at *
      have hP6 : (((((((W3.setCell ⟨w.heap.size + 1, 0, none⟩ (.int .i64 len)).setCell ⟨w.heap.size + 1, 1, none⟩ (.int .i64 vo)).setCell ⟨w.heap.size + 1, 2, none⟩ (.float .f32 c)).setCell ⟨w.heap.size + 1, 3, none⟩ (.float .f32 r)).setCell ⟨w.heap.size + 1, 4, none⟩ (.slice A1 bs1.length c1)).setCell ⟨w.heap.size + 1, 5, none⟩ (.slice E' evs.length ce')).heap[w.heap.size + 1]? = some (.cells #[.int .i64 len, .int .i64 vo, .float .f32 c, .float .f32 r, .slice A1 bs1.length c1, .slice E' evs.length ce'] 27 (0, 0))) := by
        simp [World.setCell, Array.getElem?_modify, HR.out]
      have hPk : ∀ j, j ≠ w.heap.size + 1 → ((((((W3.setCell ⟨w.heap.size + 1, 0, none⟩ (.int .i64 len)).setCell ⟨w.heap.size + 1, 1, none⟩ (.int .i64 vo)).setCell ⟨w.heap.size + 1, 2, none⟩ (.float .f32 c)).setCell ⟨w.heap.size + 1, 3, none⟩ (.float .f32 r)).setCell ⟨w.heap.size + 1, 4, none⟩ (.slice A1 bs1.length c1)).setCell ⟨w.heap.size + 1, 5, none⟩ (.slice E' evs.length ce')).heap[j]? = W3.heap[j]? := fun j hj => put6_else hj _ _ _ _ _ _
      have hPb : Below w.heap.size w ((((((W3.setCell ⟨w.heap.size + 1, 0, none⟩ (.int .i64 len)).setCell ⟨w.heap.size + 1, 1, none⟩ (.int .i64 vo)).setCell ⟨w.heap.size + 1, 2, none⟩ (.float .f32 c)).setCell ⟨w.heap.size + 1, 3, none⟩ (.float .f32 r)).setCell ⟨w.heap.size + 1, 4, none⟩ (.slice A1 bs1.length c1)).setCell ⟨w.heap.size + 1, 5, none⟩ (.slice E' evs.length ce')) :=
        (((((HB3.out.setCell (Nat.le_succ _) _).setCell (Nat.le_succ _) _).setCell (Nat.le_succ _) _).setCell (Nat.le_succ _) _).setCell (Nat.le_succ _) _).setCell (Nat.le_succ _) _
      have hPz : ((((((W3.setCell ⟨w.heap.size + 1, 0, none⟩ (.int .i64 len)).setCell ⟨w.heap.size + 1, 1, none⟩ (.int .i64 vo)).setCell ⟨w.heap.size + 1, 2, none⟩ (.float .f32 c)).setCell ⟨w.heap.size + 1, 3, none⟩ (.float .f32 r)).setCell ⟨w.heap.size + 1, 4, none⟩ (.slice A1 bs1.length c1)).setCell ⟨w.heap.size + 1, 5, none⟩ (.slice E' evs.length ce')).heap.size = W3.heap.size := by simp
      refine bodyPost_ret (results_cell_row rfl _ _ (w.heap.size + 1) 27 #[.int .i64 len, .int .i64 vo, .float .f32 c, .float .f32 r, .slice A1 bs1.length c1, .slice E' evs.length ce'] (0, 0) _ rfl hP6 Tryz.underlying27 rfl (by kernel_rfl)) rfl ?_
      generalize (((((W3.setCell ⟨w.heap.size + 1, 0, none⟩ (.int .i64 len)).setCell ⟨w.heap.size + 1, 1, none⟩ (.int .i64 vo)).setCell ⟨w.heap.size + 1, 2, none⟩ (.float .f32 c)).setCell ⟨w.heap.size + 1, 3, none⟩ (.float .f32 r)).setCell ⟨w.heap.size + 1, 4, none⟩ (.slice A1 bs1.length c1)).setCell ⟨w.heap.size + 1, 5, none⟩ (.slice E' evs.length ce') = W4 at *
      have hk4 : ∀ j, w.heap.size + 2 ≤ j → j < W2.heap.size → W4.heap[j]? = W2.heap[j]? := fun j h1 _ => (hPk j (by omega)).trans (HK2.out j (by omega))
      have hz4 : W4.heap.size = W2.heap.size := hPz.trans HZ3.out
      refine ⟨A1, c1, bs1, E', ce', rfl, ⟨?_, ?_, Nat.le_refl _⟩, HEQ.out, hPb⟩
      · rw [hz4]
        exact (HC2.out.own.keep hk4).lower (by omega)
      · have := owns_lower (owns_stay HO2.out fun j e => hk4 j (HO2.out.lt j e).1 (HO2.out.lt j e).2) (show w.heap.size ≤ w.heap.size + 2 by omega)
        exact ⟨this, fun k e => (this.lt k e).2⟩
end Go.Proofs.YtndnfhhdflmfcaaGreat

/-
slices.Clone of complex64s and of float32s.
-/
namespace Go.Proofs.YtndnfhhdflmfcaaGreat
open Go Go.RowKit Ieee

/-- What slices.Clone of a readable row returns. -/
def CloneRP (t : TypeId) (us : List Value) (n : Nat) (w : World) (e : Ending) (w' : World) : Prop :=
  ∃ (A' : Option Addr) (c' : Nat), e = .returned (.slice A' n c') ∧ w'.ownsRow w.heap.size t 1 (.slice A' n c') n us ∧ Below w.heap.size w w'
set_option maxRecDepth 100000 in
set_option maxHeartbeats 400000 in
theorem cloneC_any (A : Option Addr) (n c : Nat) (us : List Value) (w : World) (h : Rd w A us) (hl : us.length = n) (h1 : ∀ u ∈ us, u.oneCell' = true) (hn : n ≤ 16) :
    Calls Tryz.prog 40 #[.slice A n c] w (CloneRP 85 us n w) := by
  cases A with
  | none =>
    have hu : us = [] := by
      rcases Nat.eq_zero_or_pos us.length with q | q
      · exact List.eq_nil_of_length_eq_zero q
      · obtain ⟨b, off, h1, _⟩ := h q; cases h1
    subst hu
    simp only [List.length_nil] at hl
    subst hl
    have hq := fun W => Lib.run_eql_slice_nil (P := Tryz.prog) W 57 85 none 0 c 0 0 Tryz.underlying57
    clear h h1 hn
    go_enter Tryz.func40, Tryz.ntmps40
    go_wp2_with fail
    go_ret
    exact ⟨none, 0, rfl, ⟨rfl, .inl ⟨rfl, rfl⟩⟩, Below.refl _ _⟩
  | some ad =>
    have own0 : (w.alloc (.cells #[] 85)).ownsRow w.heap.size 85 1 (.slice (some ⟨w.heap.size, 0, none⟩) 0 0) 0 [] := ⟨by simp, .inr ⟨w.heap.size, 0, #[], rfl, Nat.le_refl _, heap_alloc_new w _, Nat.le_refl _, by simp [maxLen], by simp, by simp⟩⟩
    have b0 : Below w.heap.size w (w.alloc (.cells #[] 85)) := (Below.refl w.heap.size w).alloc (Nat.le_refl _) _
    have HR := Lib.hid (h.below b0)
    have HL := Lib.hid hl
    have H1 := Lib.hid h1
    clear h hl h1
    have hq := fun W => Lib.run_eql_slice_nil (P := Tryz.prog) W 57 85 (some ad) n c 0 0 Tryz.underlying57
    go_enter Tryz.func40, Tryz.ntmps40
    go_wp2_with (at_builtin; refine wpList_appRd rfl (.tmp 5) (.tmp 6) 57 rfl w.heap.size 85 (.complex .f32 0 0) 8 Tryz.underlying57 c64_info rfl (.slice (some ⟨w.heap.size, 0, none⟩) 0 0) 0 [] (some ad) n c us rfl rfl H1.out own0 b0.size HR.out HL.out (by omega) (by omega) ?_; intro v1 w2 hown1 hbel1)
    go_ret
    rw [Nat.zero_add, List.nil_append] at hown1
    obtain ⟨A', c', rfl⟩ := owns_form hown1
    exact ⟨A', c', rfl, hown1, b0.trans hbel1⟩
set_option maxRecDepth 100000 in
set_option maxHeartbeats 400000 in
theorem cloneF_any (A : Option Addr) (n c : Nat) (us : List Value) (w : World) (h : Rd w A us) (hl : us.length = n) (h1 : ∀ u ∈ us, u.oneCell' = true) (hn : n ≤ 64) :
    Calls Tryz.prog 41 #[.slice A n c] w (CloneRP 23 us n w) := by
  cases A with
  | none =>
    have hu : us = [] := by
      rcases Nat.eq_zero_or_pos us.length with q | q
      · exact List.eq_nil_of_length_eq_zero q
      · obtain ⟨b, off, h1, _⟩ := h q; cases h1
    subst hu
    simp only [List.length_nil] at hl
    subst hl
    have hq := fun W => Lib.run_eql_slice_nil (P := Tryz.prog) W 35 23 none 0 c 0 0 Tryz.underlying35
    clear h h1 hn
    go_enter Tryz.func41, Tryz.ntmps41
    go_wp2_with fail
    go_ret
    exact ⟨none, 0, rfl, ⟨rfl, .inl ⟨rfl, rfl⟩⟩, Below.refl _ _⟩
  | some ad =>
    have own0 : (w.alloc (.cells #[] 23)).ownsRow w.heap.size 23 1 (.slice (some ⟨w.heap.size, 0, none⟩) 0 0) 0 [] := ⟨by simp, .inr ⟨w.heap.size, 0, #[], rfl, Nat.le_refl _, heap_alloc_new w _, Nat.le_refl _, by simp [maxLen], by simp, by simp⟩⟩
    have b0 : Below w.heap.size w (w.alloc (.cells #[] 23)) := (Below.refl w.heap.size w).alloc (Nat.le_refl _) _
    have HR := Lib.hid (h.below b0)
    have HL := Lib.hid hl
    have H1 := Lib.hid h1
    clear h hl h1
    have hq := fun W => Lib.run_eql_slice_nil (P := Tryz.prog) W 35 23 (some ad) n c 0 0 Tryz.underlying35
    go_enter Tryz.func41, Tryz.ntmps41
    go_wp2_with (at_builtin; refine wpList_appRd rfl (.tmp 5) (.tmp 6) 35 rfl w.heap.size 23 (.float .f32 0) 4 Tryz.underlying35 f32_info rfl (.slice (some ⟨w.heap.size, 0, none⟩) 0 0) 0 [] (some ad) n c us rfl rfl H1.out own0 b0.size HR.out HL.out (by omega) (by omega) ?_; intro v1 w2 hown1 hbel1)
    go_ret
    rw [Nat.zero_add, List.nil_append] at hown1
    obtain ⟨A', c', rfl⟩ := owns_form hown1
    exact ⟨A', c', rfl, hown1, b0.trans hbel1⟩
end Go.Proofs.YtndnfhhdflmfcaaGreat

/-
impl.player.stream.
-/
namespace Go.Proofs.YtndnfhhdflmfcaaGreat
open Go Go.RowKit Ieee

/-- A voice's rows, owned. -/
structure QOwn (w : World) (lo : Nat) (q : Vq) : Prop where
  mod : w.ownsRow lo 87 2 (.slice q.M q.v.ms.length q.mc) q.v.ms.length (flatM q.v.ms)
  sts : w.ownsRow lo 85 1 (.slice q.S q.v.ms.length q.sc) q.v.ms.length ((List.range q.v.ms.length).map fun i => sV (sAt q.v.ss i))
  inp : w.ownsRow lo 23 1 (.slice q.I q.v.xs.length q.ic) q.v.xs.length (f32s q.v.xs)
theorem QOwn.new {w w' : World} {lo : Nat} {q : Vq} (h : QOwn w lo q) (hb : Below w.heap.size w w') : QOwn w' lo q :=
  ⟨owns_stay h.mod fun k e => hb.block k (h.mod.lt k e).2, owns_stay h.sts fun k e => hb.block k (h.sts.lt k e).2, owns_stay h.inp fun k e => hb.block k (h.inp.lt k e).2⟩
theorem QOwn.grown {w w' : World} {lo : Nat} {q : Vq} {r : Option Nat} (h : QOwn w lo q) (hg : w.grownBy w' r) (hr : ∀ k, r = some k → ∃ cs t f, w.heap[k]? = some (.cells cs t f) ∧ 87 ≠ t ∧ 85 ≠ t ∧ 23 ≠ t) : QOwn w' lo q := by
  have key : ∀ (j : Nat) (cs : Array Value) (t : TypeId) (f : Nat × Nat), w.heap[j]? = some (.cells cs t f) → (t = 87 ∨ t = 85 ∨ t = 23) → w'.heap[j]? = w.heap[j]? := fun j cs t f hj ht => hg.block j (lt_of_some hj) fun q => by
    obtain ⟨cs', t', f', h1, h2, h3, h4⟩ := hr j q.symm
    rcases ht with rfl | rfl | rfl
    · exact ty_ne hj h1 h2 rfl
    · exact ty_ne hj h1 h3 rfl
    · exact ty_ne hj h1 h4 rfl
  refine ⟨owns_stay h.mod fun k e => ?_, owns_stay h.sts fun k e => ?_, owns_stay h.inp fun k e => ?_⟩
  · obtain ⟨cs, hc⟩ := owns_ty h.mod e
    exact key _ _ _ _ hc (.inl rfl)
  · obtain ⟨cs, hc⟩ := owns_ty h.sts e
    exact key _ _ _ _ hc (.inr (.inl rfl))
  · obtain ⟨cs, hc⟩ := owns_ty h.inp e
    exact key _ _ _ _ hc (.inr (.inr rfl))
theorem QOwn.lower {w : World} {lo lo' : Nat} {q : Vq} (h : QOwn w lo q) (hl : lo' ≤ lo) : QOwn w lo' q := ⟨owns_lower h.mod hl, owns_lower h.sts hl, owns_lower h.inp hl⟩
theorem QOwn.vc {w : World} {lo lo' : Nat} {q : Vq} (h : QOwn w lo q) (hl : lo' ≤ lo) : VcIn w lo' w.heap.size q.v q.M q.mc q.S q.I := by
  refine ⟨⟨owns_lower h.mod hl, fun k e => (h.mod.lt k e).2⟩, Nat.le_refl _, ?_, ?_⟩
  · obtain ⟨A, c, hv, _, hr⟩ := own_rd h.sts
    injection hv with q1 _ _
    rw [q1]; exact hr
  · obtain ⟨A, c, hv, _, hr⟩ := own_rd h.inp
    injection hv with q1 _ _
    rw [q1]; exact hr
/-- The cells of a stream that is built. -/
def smC (s : Sh) (B : Option Addr) (cb : Nat) (bs : List Bd) (E : Option Addr) (ce n : Nat) (now done : Nat) (v : Value) (env : Nat) : Array Value :=
  #[.int .i64 s.1, .int .i64 s.2.1, .float .f32 s.2.2.1, .float .f32 s.2.2.2, .slice B bs.length cb, .slice E n ce, .int .i64 now, .int .i64 done, v, .float .f32 env]
/-- Where the walk of stream is. -/
structure SmIn (w wr : World) (X lo1 hi1 lo : Nat) (s : Sh) (B : Option Addr) (cb : Nat) (bs : List Bd) (E : Option Addr) (ce : Nat) (evs : List Ev) (now done : Nat) (v : Value) (env : Nat) (qs : List Vq) : Prop where
  bel : Below w.heap.size w wr
  res : wr.heap[w.heap.size]? = some (.cells #[.int .i64 0, .int .i64 0, .float .f32 0, .float .f32 0, .slice none 0 0, .slice none 0 0, .int .i64 0, .int .i64 0, .slice none 0 0, .float .f32 0] 31 (0, 0))
  nums : w.heap.size < X ∧ w.heap.size < lo1 ∧ hi1 ≤ lo ∧ X < lo ∧ (X < lo1 ∨ hi1 ≤ X) ∧ lo ≤ wr.heap.size
  box : wr.heap[X]? = some (.cells (smC s B cb bs E ce evs.length now done v env) 31 (0, 0))
  sc : ScIn wr lo1 hi1 B cb bs E ce evs
  vr : wr.ownsRow lo 59 4 v qs.length (flatQ qs)
  qo : ∀ q ∈ qs, QOwn wr lo q
section
variable {w wr wr' : World} {X lo1 hi1 lo cb ce now done env : Nat} {s : Sh} {B E : Option Addr} {bs : List Bd} {evs : List Ev} {v v' : Value} {qs : List Vq} {q : Vq}
theorem SmIn.new (h : SmIn w wr X lo1 hi1 lo s B cb bs E ce evs now done v env qs) (hb : Below wr.heap.size wr wr') : SmIn w wr' X lo1 hi1 lo s B cb bs E ce evs now done v env qs := by
  obtain ⟨n1, n2, n3, n4, n5, n6⟩ := h.nums
  refine ⟨h.bel.trans (hb.mono h.bel.size), (hb.block _ (lt_of_some h.res)).trans h.res, ⟨n1, n2, n3, n4, n5, Nat.le_trans n6 hb.size⟩, (hb.block _ (lt_of_some h.box)).trans h.box, h.sc.below hb, owns_stay h.vr fun k e => hb.block k (h.vr.lt k e).2, fun q hq => (h.qo q hq).new hb⟩
/-- The row of voices has grown. -/
theorem SmIn.app (h : SmIn w wr X lo1 hi1 lo s B cb bs E ce evs now done v env qs) (hg : wr.grownBy wr' v.ownBlock) (ho : wr'.ownsRow lo 59 4 v' (qs.length + 1) (flatQ qs ++ voQ q)) (hq : QOwn wr lo q) :
    SmIn w (wr'.setCell ⟨X, 8, none⟩ v') X lo1 hi1 lo s B cb bs E ce evs now done v' env (qs ++ [q]) := by
  obtain ⟨n1, n2, n3, n4, n5, n6⟩ := h.nums
  have hlo : ∀ j, j < lo → wr'.heap[j]? = wr.heap[j]? := fun j hj => hg.block j (by omega) (fun e => by have := (h.vr.lt j e.symm).1; omega)
  have hX : wr'.heap[X]? = some (.cells (smC s B cb bs E ce evs.length now done v env) 31 (0, 0)) := (hlo X n4).trans h.box
  have hs : ∀ j, j ≠ X → (wr'.setCell ⟨X, 8, none⟩ v').heap[j]? = wr'.heap[j]? := fun j hj => Below.heap_setCell _ _ _ _ hj
  have hz : (wr'.setCell ⟨X, 8, none⟩ v').heap.size = wr'.heap.size := by simp
  have hg2 : wr'.grownBy (wr'.setCell ⟨X, 8, none⟩ v') (some X) := grown_set _ _
  have hq2 : ∀ q, QOwn wr lo q → QOwn (wr'.setCell ⟨X, 8, none⟩ v') lo q := fun q hq => (hq.grown hg fun k e => by
    obtain ⟨cs, hc⟩ := owns_ty h.vr e
    exact ⟨cs, _, _, hc, by decide, by decide, by decide⟩).grown hg2 fun k e => by
      injection e with e
      subst e
      exact ⟨_, _, _, hX, by decide, by decide, by decide⟩
  refine ⟨(h.bel.grown hg (by omega) (fun j e => by have := (h.vr.lt j e).1; omega)).setCell (by show w.heap.size ≤ X; omega) _, ?_, ⟨n1, n2, n3, n4, n5, ?_⟩, ?_, ?_, ?_, fun q' hq' => ?_⟩
  · exact (hs _ (by omega)).trans ((hlo _ (by omega)).trans h.res)
  · rw [hz]; exact Nat.le_trans n6 hg.size
  · simp [World.setCell, Array.getElem?_modify, hX, smC]
  · exact h.sc.keep (fun j h1 h2 => (hs j (by omega)).trans (hlo j (by omega))) (by rw [hz]; exact Nat.le_trans h.sc.hh hg.size)
  · have e1 : (qs ++ [q]).length = qs.length + 1 := by simp
    have e2 : flatQ (qs ++ [q]) = flatQ qs ++ voQ q := by simp [flatQ]
    rw [e1, e2]
    exact owns_stay ho fun k e => hs k (fun e' => by
      obtain ⟨cs, hc⟩ := owns_ty ho e
      rw [e'] at hc
      exact ty_ne hc hX (by decide) rfl)
  · rcases List.mem_append.1 hq' with hq' | hq'
    · exact hq2 _ (h.qo _ hq')
    · rw [List.mem_singleton.1 hq']; exact hq2 _ hq
end
theorem voQ_one (q : Vq) : ∀ u ∈ voQ q, u.oneCell' = true := fun u hu => by
  simp [voQ] at hu
  rcases hu with rfl | rfl | rfl | rfl <;> rfl
theorem fs_one (xs : List Nat) : ∀ u ∈ f32s xs, u.oneCell' = true := fun u hu => by
  obtain ⟨i, _, rfl⟩ := List.mem_map.1 hu
  rfl
theorem sts_one (ss : List (Nat × Nat)) (n : Nat) : ∀ u ∈ (List.range n).map (fun i => sV (sAt ss i)), u.oneCell' = true := fun u hu => by
  obtain ⟨i, _, rfl⟩ := List.mem_map.1 hu
  rfl
theorem rowIs_rd2 {w : World} {g n : Nat} {t : TypeId} {F : Nat → Value} (h : w.rowIs g t n F) : Rd w (some ⟨g, 0, none⟩) ((List.range n).map F) := fun _ => by
  refine ⟨g, 0, rfl, h.lt, fun k u hu => ?_⟩
  have hk : k < n := by
    rcases Nat.lt_or_ge k n with q0 | q0
    · exact q0
    · rw [List.getElem?_eq_none (by simpa using q0)] at hu; cases hu
  rw [Nat.zero_add, h.cell hk]
  rw [List.getElem?_map, List.getElem?_range hk] at hu
  exact hu
/-- Voices that are owned. -/
structure QsO (w : World) (lo : Nat) (V : Option Addr) (vc : Nat) (qs : List Vq) : Prop where
  row : w.ownsRow lo 59 4 (.slice V qs.length vc) qs.length (flatQ qs)
  qo : ∀ q ∈ qs, QOwn w lo q
theorem QsO.keep {w w' : World} {lo vc : Nat} {V : Option Addr} {qs : List Vq} (h : QsO w lo V vc qs) (hk : ∀ j, lo ≤ j → j < w.heap.size → w'.heap[j]? = w.heap[j]?) : QsO w' lo V vc qs :=
  ⟨owns_stay h.row fun j e => hk j (h.row.lt j e).1 (h.row.lt j e).2, fun q hq => ⟨owns_stay (h.qo q hq).mod fun j e => hk j ((h.qo q hq).mod.lt j e).1 ((h.qo q hq).mod.lt j e).2, owns_stay (h.qo q hq).sts fun j e => hk j ((h.qo q hq).sts.lt j e).1 ((h.qo q hq).sts.lt j e).2, owns_stay (h.qo q hq).inp fun j e => hk j ((h.qo q hq).inp.lt j e).1 ((h.qo q hq).inp.lt j e).2⟩⟩
theorem QsO.qs {w : World} {lo lo' vc : Nat} {V : Option Addr} {qs : List Vq} (h : QsO w lo V vc qs) (hl : lo' ≤ lo) : QsIn w lo' w.heap.size V qs := by
  refine ⟨?_, fun q hq => (h.qo q hq).vc hl⟩
  intro hl0
  obtain ⟨b, c', hv, _, hb, _, _, _, hc⟩ := owns_cells h.row (by rw [flatQ_len] at hl0; omega) (flatQ_len qs)
  injection hv with q1 _ _
  exact ⟨b, 0, q1, hb, fun k u hu => by rw [Nat.zero_add]; exact hc k u hu⟩
/-- What stream returns. -/
def SmP (w : World) (s : Sh) (bs : List Bd) (evs : List Ev) (now done env : Nat) (vs : List Vp) (r : Ending) (w' : World) : Prop :=
  ∃ (B' : Option Addr) (cb' : Nat) (bs' : List Bd) (E' : Option Addr) (ce' : Nat) (V : Option Addr) (vc : Nat) (qs : List Vq), r = .returned (.agg #[.int .i64 s.1, .int .i64 s.2.1, .float .f32 s.2.2.1, .float .f32 s.2.2.2, .slice B' bs'.length cb', .slice E' evs.length ce', .int .i64 now, .int .i64 done, .slice V qs.length vc, .float .f32 env]) ∧
    ScIn w' w.heap.size w'.heap.size B' cb' bs' E' ce' evs ∧ modesB bs' = modesB bs ∧ QsO w' w.heap.size V vc qs ∧ qs.map Vq.v = vs ∧ Below w.heap.size w w'
/-- Ten stores into one block. -/
def put10 (W : World) (R : Nat) (x0 x1 x2 x3 x4 x5 x6 x7 x8 x9 : Value) : World :=
  (((((((((W.setCell ⟨R, 0, none⟩ x0).setCell ⟨R, 1, none⟩ x1).setCell ⟨R, 2, none⟩ x2).setCell ⟨R, 3, none⟩ x3).setCell ⟨R, 4, none⟩ x4).setCell ⟨R, 5, none⟩ x5).setCell ⟨R, 6, none⟩ x6).setCell ⟨R, 7, none⟩ x7).setCell ⟨R, 8, none⟩ x8).setCell ⟨R, 9, none⟩ x9
section
variable {W : World} {R : Nat} (x0 x1 x2 x3 x4 x5 x6 x7 x8 x9 : Value)
theorem put10_else {j : Nat} (hj : j ≠ R) : (put10 W R x0 x1 x2 x3 x4 x5 x6 x7 x8 x9).heap[j]? = W.heap[j]? := by
  simp only [put10, Below.heap_setCell _ _ _ _ (show j ≠ (⟨R, _, none⟩ : Addr).block from hj)]
theorem put10_size : (put10 W R x0 x1 x2 x3 x4 x5 x6 x7 x8 x9).heap.size = W.heap.size := by simp [put10]
theorem put10_below {base : Nat} {w0 : World} (h : Below base w0 W) (hR : base ≤ R) : Below base w0 (put10 W R x0 x1 x2 x3 x4 x5 x6 x7 x8 x9) :=
  (((((((((h.setCell hR _).setCell hR _).setCell hR _).setCell hR _).setCell hR _).setCell hR _).setCell hR _).setCell hR _).setCell hR _).setCell hR _
theorem put10_new {y0 y1 y2 y3 y4 y5 y6 y7 y8 y9 : Value} {t : TypeId} (h : W.heap[R]? = some (.cells #[y0, y1, y2, y3, y4, y5, y6, y7, y8, y9] t (0, 0))) : (put10 W R x0 x1 x2 x3 x4 x5 x6 x7 x8 x9).heap[R]? = some (.cells #[x0, x1, x2, x3, x4, x5, x6, x7, x8, x9] t (0, 0)) := by
  simp [put10, World.setCell, Array.getElem?_modify, h]
theorem st_free {M : Nat} {cs : Array Value} {t : TypeId} (h : W.heap[M]? = some (.cells cs t (0, 0))) :
    W.frozen? ⟨M, 0, none⟩ = false ∧ W.frozen? ⟨M, 1, none⟩ = false ∧ W.frozen? ⟨M, 2, none⟩ = false ∧ W.frozen? ⟨M, 3, none⟩ = false ∧ W.frozen? ⟨M, 4, none⟩ = false ∧ W.frozen? ⟨M, 5, none⟩ = false ∧ W.frozen? ⟨M, 6, none⟩ = false ∧ W.frozen? ⟨M, 7, none⟩ = false ∧ W.frozen? ⟨M, 8, none⟩ = false ∧ W.frozen? ⟨M, 9, none⟩ = false :=
  ⟨free_cells h 0, free_cells h 1, free_cells h 2, free_cells h 3, free_cells h 4, free_cells h 5, free_cells h 6, free_cells h 7, free_cells h 8, free_cells h 9⟩
end
set_option maxRecDepth 100000 in
set_option maxHeartbeats 6400000 in
theorem stream_any {w0 w : World} {base P done now lo hi env : Nat} {c : Pc} {VA : Option Addr} {vc : Nat} {vT : Value} {ms : List Vm} {begun : Int} {evs : List Ev} (h : PlIn w0 w base P c done now (.slice VA ms.length vc) vT ms begun) (hsc : ScIn w lo hi c.B c.cb c.bs c.E c.ce evs) (hne : c.ne = evs.length) (hbo : BodsOk c.bs 16 8) (hl : evs.length ≤ 60)
    (hm : ms.length ≤ 8) (hv : ∀ m ∈ ms, m.v.ms.length ≤ 16 ∧ m.v.xs.length ≤ 64) :
    Calls Tryz.prog 16 #[.pointer (some ⟨P, 0, none⟩), .float .f32 env] w (SmP w c.s c.bs evs now done env (ms.map Vm.v)) := by
  have HPl := Lib.hid h
  have HSc := Lib.hid hsc
  have HBo := Lib.hid hbo
  have HV := Lib.hid hv
  obtain ⟨cs, cB, ccb, cbs, cE, cce, cne, cA, cc, cL, cwk, cfb⟩ := c
  simp only at hne hbo hsc
  subst hne
  obtain ⟨s1, s2, s3, s4⟩ := cs
  have HB1 : Hid (Below w.heap.size w (w.alloc (.cells #[.int .i64 0, .int .i64 0, .float .f32 0, .float .f32 0, .slice none 0 0, .slice none 0 0, .int .i64 0, .int .i64 0, .slice none 0 0, .float .f32 0] 31))) := (Below.refl w.heap.size w).alloc (Nat.le_refl _) _
  have HN1 := Lib.hid (heap_alloc_new w (.cells #[.int .i64 0, .int .i64 0, .float .f32 0, .float .f32 0, .slice none 0 0, .slice none 0 0, .int .i64 0, .int .i64 0, .slice none 0 0, .float .f32 0] 31))
  have HZ1 : Hid ((w.alloc (.cells #[.int .i64 0, .int .i64 0, .float .f32 0, .float .f32 0, .slice none 0 0, .slice none 0 0, .int .i64 0, .int .i64 0, .slice none 0 0, .float .f32 0] 31)).heap.size = w.heap.size + 1) := Lib.hid (by show (w.alloc _).heap.size = _; simp)
  have HC : Hid (∀ W', Below w.heap.size w W' → (W'.cell? ⟨P, 0, none⟩ = some (.int .i64 s1) ∧ W'.cell? ⟨P, 1, none⟩ = some (.int .i64 s2) ∧ W'.cell? ⟨P, 2, none⟩ = some (.float .f32 s3) ∧ W'.cell? ⟨P, 3, none⟩ = some (.float .f32 s4)) ∧ (W'.cell? ⟨P, 4, none⟩ = some (.slice cB cbs.length ccb) ∧ W'.cell? ⟨P, 5, none⟩ = some (.slice cE evs.length cce) ∧ W'.cell? ⟨P, 7, none⟩ = some (.int .i64 done) ∧ W'.cell? ⟨P, 8, none⟩ = some (.int .i64 now))) := Lib.hid (fun W' hb => by
    have k2 := pl_cells ((hb.block _ (lt_of_some h.box)).trans h.box)
    exact ⟨⟨k2.1, k2.2.1, k2.2.2.1, k2.2.2.2.1⟩, k2.2.2.2.2.1, k2.2.2.2.2.2.1, k2.2.2.2.2.2.2.2.1, k2.2.2.2.2.2.2.2.2.1⟩)
  have HC9 : Hid (∀ W', Below w.heap.size w W' → W'.cell? ⟨P, 9, none⟩ = some (.slice VA ms.length vc)) := Lib.hid (fun W' hb => (pl_cells ((hb.block _ (lt_of_some h.box)).trans h.box)).2.2.2.2.2.2.2.2.2.1)
  clear h hsc hbo hv
  go_enter Tryz.func16, Tryz.ntmps16
  go_wp2_with fail
  have HB2 : Hid (Below w.heap.size w (w.alloc (.cells #[.int .i64 0, .int .i64 0, .float .f32 0, .float .f32 0, .slice none 0 0, .slice none 0 0, .int .i64 0, .int .i64 0, .slice none 0 0, .float .f32 0] 31)).drew) := HB1.out.drew
  have HN2 : Hid ((w.alloc (.cells #[.int .i64 0, .int .i64 0, .float .f32 0, .float .f32 0, .slice none 0 0, .slice none 0 0, .int .i64 0, .int .i64 0, .slice none 0 0, .float .f32 0] 31)).drew.heap[w.heap.size]? = some (.cells #[.int .i64 0, .int .i64 0, .float .f32 0, .float .f32 0, .slice none 0 0, .slice none 0 0, .int .i64 0, .int .i64 0, .slice none 0 0, .float .f32 0] 31 (0, 0))) := HN1.out
  have HZ2 : Hid ((w.alloc (.cells #[.int .i64 0, .int .i64 0, .float .f32 0, .float .f32 0, .slice none 0 0, .slice none 0 0, .int .i64 0, .int .i64 0, .slice none 0 0, .float .f32 0] 31)).drew.heap.size = w.heap.size + 1) := HZ1.out
  clear HB1 HN1 HZ1
  refine wp_region_last (fun W' => (W'.cell? ⟨P, 0, none⟩ = some (.int .i64 s1) ∧ W'.cell? ⟨P, 1, none⟩ = some (.int .i64 s2) ∧ W'.cell? ⟨P, 2, none⟩ = some (.float .f32 s3) ∧ W'.cell? ⟨P, 3, none⟩ = some (.float .f32 s4)) ∧ (W'.cell? ⟨P, 4, none⟩ = some (.slice cB cbs.length ccb) ∧ W'.cell? ⟨P, 5, none⟩ = some (.slice cE evs.length cce) ∧ W'.cell? ⟨P, 7, none⟩ = some (.int .i64 done) ∧ W'.cell? ⟨P, 8, none⟩ = some (.int .i64 now))) 16 (by kernel_rfl) (HC.out _ HB2.out) (fun hHeld => ?_)
  generalize (w.alloc (.cells #[.int .i64 0, .int .i64 0, .float .f32 0, .float .f32 0, .slice none 0 0, .slice none 0 0, .int .i64 0, .int .i64 0, .slice none 0 0, .float .f32 0] 31)).drew = W2 at *
  refine wpAnyX_take [0, 1, 2, 3, 4, 14, 16] (i := 0) (oi := _) (v := ?_) rfl (by kernel_rfl) (by kernel_rfl) (by kernel_rfl) (by kernel_rfl) (fun _ _ _ h => h) (Or.inl ⟨by rfl, ?_⟩) (by assumption) ?_
  rotate_left
  · (intro w hSw; (try dsimp only at hSw); go_simp; try (with_reducible rfl))
  (try simp only [Act.put, List.setIfInBounds_toArray, List.set_cons_zero, List.set_cons_succ, List.getElem_toArray, List.getElem_cons_succ, List.getElem_cons_zero])
  refine wpAnyX_take [1, 2, 3, 4, 14, 16] (i := 1) (oi := _) (v := ?_) rfl (by kernel_rfl) (by kernel_rfl) (by kernel_rfl) (by kernel_rfl) (fun _ _ _ h => h) (Or.inl ⟨by rfl, ?_⟩) (by assumption) ?_
  rotate_left
  · (intro w hSw; (try dsimp only at hSw); go_simp; try (with_reducible rfl))
  (try simp only [Act.put, List.setIfInBounds_toArray, List.set_cons_zero, List.set_cons_succ, List.getElem_toArray, List.getElem_cons_succ, List.getElem_cons_zero])
  refine wpAnyX_take [2, 3, 4, 14, 16] (i := 2) (oi := _) (v := ?_) rfl (by kernel_rfl) (by kernel_rfl) (by kernel_rfl) (by kernel_rfl) (fun _ _ _ h => h) (Or.inl ⟨by rfl, ?_⟩) (by assumption) ?_
  rotate_left
  · (intro w hSw; (try dsimp only at hSw); go_simp; try (with_reducible rfl))
  (try simp only [Act.put, List.setIfInBounds_toArray, List.set_cons_zero, List.set_cons_succ, List.getElem_toArray, List.getElem_cons_succ, List.getElem_cons_zero])
  refine wpAnyX_take [3, 4, 14, 16] (i := 3) (oi := _) (v := ?_) rfl (by kernel_rfl) (by kernel_rfl) (by kernel_rfl) (by kernel_rfl) (fun _ _ _ h => h) (Or.inl ⟨by rfl, ?_⟩) (by assumption) ?_
  rotate_left
  · (intro w hSw; (try dsimp only at hSw); go_simp; try (with_reducible rfl))
  (try simp only [Act.put, List.setIfInBounds_toArray, List.set_cons_zero, List.set_cons_succ, List.getElem_toArray, List.getElem_cons_succ, List.getElem_cons_zero])
  refine wpAnyX_take [5, 6, 7, 8, 14, 16] (i := 5) (oi := _) (v := ?_) rfl (by kernel_rfl) (by kernel_rfl) (by kernel_rfl) (by kernel_rfl) (fun _ _ _ h => h) (Or.inl ⟨by rfl, ?_⟩) (by assumption) ?_
  rotate_left
  · (intro w hSw; (try dsimp only at hSw); go_simp; try (with_reducible rfl))
  (try simp only [Act.put, List.setIfInBounds_toArray, List.set_cons_zero, List.set_cons_succ, List.getElem_toArray, List.getElem_cons_succ, List.getElem_cons_zero])
  refine wpAnyX_take [6, 7, 8, 14, 16] (i := 6) (oi := _) (v := ?_) rfl (by kernel_rfl) (by kernel_rfl) (by kernel_rfl) (by kernel_rfl) (fun _ _ _ h => h) (Or.inl ⟨by rfl, ?_⟩) (by assumption) ?_
  rotate_left
  · (intro w hSw; (try dsimp only at hSw); go_simp; try (with_reducible rfl))
  (try simp only [Act.put, List.setIfInBounds_toArray, List.set_cons_zero, List.set_cons_succ, List.getElem_toArray, List.getElem_cons_succ, List.getElem_cons_zero])
  refine wpAnyX_take [7, 8, 14, 16] (i := 7) (oi := _) (v := ?_) rfl (by kernel_rfl) (by kernel_rfl) (by kernel_rfl) (by kernel_rfl) (fun _ _ _ h => h) (Or.inl ⟨by rfl, ?_⟩) (by assumption) ?_
  rotate_left
  · (intro w hSw; (try dsimp only at hSw); go_simp; try (with_reducible rfl))
  (try simp only [Act.put, List.setIfInBounds_toArray, List.set_cons_zero, List.set_cons_succ, List.getElem_toArray, List.getElem_cons_succ, List.getElem_cons_zero])
  refine wpAnyX_take [8, 14, 16] (i := 8) (oi := _) (v := ?_) rfl (by kernel_rfl) (by kernel_rfl) (by kernel_rfl) (by kernel_rfl) (fun _ _ _ h => h) (Or.inl ⟨by rfl, ?_⟩) (by assumption) ?_
  rotate_left
  · (intro w hSw; (try dsimp only at hSw); go_simp; try (with_reducible rfl))
  (try simp only [Act.put, List.setIfInBounds_toArray, List.set_cons_zero, List.set_cons_succ, List.getElem_toArray, List.getElem_cons_succ, List.getElem_cons_zero])
  refine wpAnyX_take [9, 10, 11, 12, 14, 16] (i := 9) (oi := _) (v := ?_) rfl (by kernel_rfl) (by kernel_rfl) (by kernel_rfl) (by kernel_rfl) (fun _ _ _ h => h) (Or.inl ⟨by rfl, ?_⟩) (by assumption) ?_
  rotate_left
  · (intro w hSw; (try dsimp only at hSw); go_simp; try (with_reducible rfl))
  (try simp only [Act.put, List.setIfInBounds_toArray, List.set_cons_zero, List.set_cons_succ, List.getElem_toArray, List.getElem_cons_succ, List.getElem_cons_zero])
  refine wpAnyX_take [10, 11, 12, 14, 16] (i := 10) (oi := _) (v := ?_) rfl (by kernel_rfl) (by kernel_rfl) (by kernel_rfl) (by kernel_rfl) (fun _ _ _ h => h) (Or.inl ⟨by rfl, ?_⟩) (by assumption) ?_
  rotate_left
  · (intro w hSw; (try dsimp only at hSw); go_simp; try (with_reducible rfl))
  (try simp only [Act.put, List.setIfInBounds_toArray, List.set_cons_zero, List.set_cons_succ, List.getElem_toArray, List.getElem_cons_succ, List.getElem_cons_zero])
  refine wpAnyX_take [11, 12, 14, 16] (i := 11) (oi := _) (v := ?_) rfl (by kernel_rfl) (by kernel_rfl) (by kernel_rfl) (by kernel_rfl) (fun _ _ _ h => h) (Or.inl ⟨by rfl, ?_⟩) (by assumption) ?_
  rotate_left
  · (intro w hSw; (try dsimp only at hSw); go_simp; try (with_reducible rfl))
  (try simp only [Act.put, List.setIfInBounds_toArray, List.set_cons_zero, List.set_cons_succ, List.getElem_toArray, List.getElem_cons_succ, List.getElem_cons_zero])
  refine wpAnyX_take [12, 14, 16] (i := 12) (oi := _) (v := ?_) rfl (by kernel_rfl) (by kernel_rfl) (by kernel_rfl) (by kernel_rfl) (fun _ _ _ h => h) (Or.inl ⟨by rfl, ?_⟩) (by assumption) ?_
  rotate_left
  · (intro w hSw; (try dsimp only at hSw); go_simp; try (with_reducible rfl))
  (try simp only [Act.put, List.setIfInBounds_toArray, List.set_cons_zero, List.set_cons_succ, List.getElem_toArray, List.getElem_cons_succ, List.getElem_cons_zero])
  refine wpAnyX_take [13, 14, 16] (i := 13) (oi := _) (v := ?_) rfl (by kernel_rfl) (by kernel_rfl) (by kernel_rfl) (by kernel_rfl) (fun _ _ _ h => h) (Or.inl ⟨by rfl, ?_⟩) (by assumption) ?_
  rotate_left
  · (intro w hSw; (try dsimp only at hSw); go_simp; try (with_reducible rfl))
  (try simp only [Act.put, List.setIfInBounds_toArray, List.set_cons_zero, List.set_cons_succ, List.getElem_toArray, List.getElem_cons_succ, List.getElem_cons_zero])
  refine wpAnyX_ready2 (i := 4) (j := 15) (by kernel_rfl) rfl rfl (fun K hK => ?_) (fun K hK => ?_)
  · go_simp
    refine (copyScore_any (s1, s2, s3, s4) cB ccb cbs cE cce lo hi evs W2 (HSc.out.below HB2.out) HBo.out hl).mono ?_
    intro r W3 hcp
    unfold CopyP at hcp
    obtain ⟨B', cb', bs', E', ce', rfl, hsc3, hmb, hb3⟩ := hcp
    unfold scV
    have HB3 : Hid (Below w.heap.size w W3) := HB2.out.trans (hb3.mono HB2.out.size)
    have HN3 : Hid (W3.heap[w.heap.size]? = some (.cells #[.int .i64 0, .int .i64 0, .float .f32 0, .float .f32 0, .slice none 0 0, .slice none 0 0, .int .i64 0, .int .i64 0, .slice none 0 0, .float .f32 0] 31 (0, 0))) := (hb3.block _ (lt_of_some HN2.out)).trans HN2.out
    have HI3 := Lib.hid hsc3
    have HM3 := Lib.hid hmb
    have hz2 := HZ2.out
    clear hsc3 hmb hb3 HB2 HN2 HZ2
    go_wp2_with fail
    refine hK.out _ _ ?_ (fun hHeldN => ?_)
    · exact HC.out _ HB3.out
    clear hHeld hK K
    have hHeld := hHeldN
    clear hHeldN
    (try simp only [Act.put, List.setIfInBounds_toArray, List.set_cons_zero, List.set_cons_succ, List.getElem_toArray, List.getElem_cons_succ, List.getElem_cons_zero])
    refine wpAnyX_take [14, 16] (i := 14) (oi := _) (v := ?_) rfl (by kernel_rfl) (by kernel_rfl) (by kernel_rfl) (by kernel_rfl) (fun _ _ _ h => h) (Or.inl ⟨by rfl, ?_⟩) (by assumption) ?_
    rotate_left
    · (intro w hSw; (try dsimp only at hSw); go_simp; try (with_reducible rfl))
    (try simp only [Act.put, List.setIfInBounds_toArray, List.set_cons_zero, List.set_cons_succ, List.getElem_toArray, List.getElem_cons_succ, List.getElem_cons_zero])
    refine wpAnyX_ready (i := 15) (o := _) (by kernel_rfl) rfl (fun K hK => ?_)
    go_simp
    have b3 : Below W3.heap.size W3 (W3.alloc (.cells #[.int .i64 0, .int .i64 0, .float .f32 0, .float .f32 0, .slice none 0 0, .slice none 0 0, .int .i64 0, .int .i64 0, .slice none 0 0, .float .f32 0] 31)) := (Below.refl W3.heap.size W3).alloc (Nat.le_refl _) _
    have HB5 : Hid (Below w.heap.size w (W3.alloc (.cells #[.int .i64 0, .int .i64 0, .float .f32 0, .float .f32 0, .slice none 0 0, .slice none 0 0, .int .i64 0, .int .i64 0, .slice none 0 0, .float .f32 0] 31))) := HB3.out.trans (b3.mono HB3.out.size)
    have HN5 : Hid ((W3.alloc (.cells #[.int .i64 0, .int .i64 0, .float .f32 0, .float .f32 0, .slice none 0 0, .slice none 0 0, .int .i64 0, .int .i64 0, .slice none 0 0, .float .f32 0] 31)).heap[w.heap.size]? = some (.cells #[.int .i64 0, .int .i64 0, .float .f32 0, .float .f32 0, .slice none 0 0, .slice none 0 0, .int .i64 0, .int .i64 0, .slice none 0 0, .float .f32 0] 31 (0, 0))) := (b3.block _ (lt_of_some HN3.out)).trans HN3.out
    have HX5 := Lib.hid (heap_alloc_new W3 (.cells #[.int .i64 0, .int .i64 0, .float .f32 0, .float .f32 0, .slice none 0 0, .slice none 0 0, .int .i64 0, .int .i64 0, .slice none 0 0, .float .f32 0] 31))
    have HI5 := Lib.hid (HI3.out.below b3)
    have hz5 : (W3.alloc (.cells #[.int .i64 0, .int .i64 0, .float .f32 0, .float .f32 0, .slice none 0 0, .slice none 0 0, .int .i64 0, .int .i64 0, .slice none 0 0, .float .f32 0] 31)).heap.size = W3.heap.size + 1 := by show (W3.alloc _).heap.size = _; simp
    have HU5 : Hid (w.heap.size < W3.heap.size ∧ w.heap.size < W2.heap.size ∧ W3.heap.size ≤ (W3.alloc (.cells #[.int .i64 0, .int .i64 0, .float .f32 0, .float .f32 0, .slice none 0 0, .slice none 0 0, .int .i64 0, .int .i64 0, .slice none 0 0, .float .f32 0] 31)).heap.size ∧ W3.heap.size < (W3.alloc (.cells #[.int .i64 0, .int .i64 0, .float .f32 0, .float .f32 0, .slice none 0 0, .slice none 0 0, .int .i64 0, .int .i64 0, .slice none 0 0, .float .f32 0] 31)).heap.size ∧ (W3.heap.size < W2.heap.size ∨ W3.heap.size ≤ W3.heap.size)) := Lib.hid ⟨lt_of_some HN3.out, by omega, by omega, by omega, .inr (Nat.le_refl _)⟩
    clear b3 HB3 HN3 HI3 hz5 hz2
    refine hK.out _ _ ?_ (fun hHeldN => ?_)
    · exact HC.out _ HB5.out
    clear hHeld hK K
    have hHeld := hHeldN
    clear hHeldN
    (try simp only [Act.put, List.setIfInBounds_toArray, List.set_cons_zero, List.set_cons_succ, List.getElem_toArray, List.getElem_cons_succ, List.getElem_cons_zero])
    generalize W3.alloc (.cells #[.int .i64 0, .int .i64 0, .float .f32 0, .float .f32 0, .slice none 0 0, .slice none 0 0, .int .i64 0, .int .i64 0, .slice none 0 0, .float .f32 0] 31) = W5 at *
    generalize W2.heap.size = lo1 at *
    generalize hX : W3.heap.size = X at HX5 ⊢
    rw [hX] at HU5
    generalize hH : W3.heap.size = hi1 at HI5
    have HU5 : Hid (w.heap.size < X ∧ w.heap.size < lo1 ∧ hi1 ≤ W5.heap.size ∧ X < W5.heap.size ∧ (X < lo1 ∨ hi1 ≤ X)) := Lib.hid (by rw [← hH, hX]; exact HU5.out)
    clear hX hH
    obtain ⟨f0, f1, f2, f3, f4, f5, f6, f7, f8, f9⟩ := st_free HX5.out
    obtain ⟨d0, d1, d2, d3, d4, d5, d6, d7, d8, d9⟩ := st_cells HX5.out
    refine wpAnyX_last (o := _) (by kernel_rfl) rfl (fun K hK => ?_)
    go_simp
    refine hK.out _ _ ?_
    clear hK K
    (try simp only [Act.put, List.setIfInBounds_toArray, List.set_cons_zero, List.set_cons_succ, List.getElem_toArray, List.getElem_cons_succ, List.getElem_cons_zero])
    refine wpAnyX_done (by kernel_rfl) ?_ _
    clear f0 f1 f2 f3 f4 f5 f6 f7 f8 f9 d0 d1 d2 d3 d4 d5 d6 d7 d8 d9 hHeld
    have HS6 : Hid (SmIn w ((((((((((W5.setCell ⟨X, 0, none⟩ (.int .i64 s1)).setCell ⟨X, 1, none⟩ (.int .i64 s2)).setCell ⟨X, 2, none⟩ (.float .f32 s3)).setCell ⟨X, 3, none⟩ (.float .f32 s4)).setCell ⟨X, 4, none⟩ (.slice B' bs'.length cb')).setCell ⟨X, 5, none⟩ (.slice E' evs.length ce')).setCell ⟨X, 6, none⟩ (.int .i64 now)).setCell ⟨X, 7, none⟩ (.int .i64 done)).setCell ⟨X, 8, none⟩ (.slice none 0 0)).setCell ⟨X, 9, none⟩ (.float .f32 env)) X lo1 hi1 W5.heap.size (s1, s2, s3, s4) B' cb' bs' E' ce' evs now done (.slice none 0 0) env []) := by
      obtain ⟨n1, n2, n3, n4, n5⟩ := HU5.out
      have e : ((((((((((W5.setCell ⟨X, 0, none⟩ (.int .i64 s1)).setCell ⟨X, 1, none⟩ (.int .i64 s2)).setCell ⟨X, 2, none⟩ (.float .f32 s3)).setCell ⟨X, 3, none⟩ (.float .f32 s4)).setCell ⟨X, 4, none⟩ (.slice B' bs'.length cb')).setCell ⟨X, 5, none⟩ (.slice E' evs.length ce')).setCell ⟨X, 6, none⟩ (.int .i64 now)).setCell ⟨X, 7, none⟩ (.int .i64 done)).setCell ⟨X, 8, none⟩ (.slice none 0 0)).setCell ⟨X, 9, none⟩ (.float .f32 env)) = put10 W5 X (.int .i64 s1) (.int .i64 s2) (.float .f32 s3) (.float .f32 s4) (.slice B' bs'.length cb') (.slice E' evs.length ce') (.int .i64 now) (.int .i64 done) (.slice none 0 0) (.float .f32 env) := rfl
      rw [e]
      refine ⟨put10_below _ _ _ _ _ _ _ _ _ _ HB5.out (Nat.le_of_lt n1), (put10_else _ _ _ _ _ _ _ _ _ _ (by omega)).trans HN5.out, ⟨n1, n2, n3, n4, n5, by rw [put10_size]; exact Nat.le_refl _⟩, put10_new _ _ _ _ _ _ _ _ _ _ HX5.out, ?_, ⟨rfl, .inl ⟨rfl, rfl⟩⟩, fun q hq => by cases hq⟩
      exact HI5.out.keep (fun j h1 h2 => put10_else _ _ _ _ _ _ _ _ _ _ (by omega)) (by rw [put10_size]; exact HI5.out.hh)
    clear HX5 HB5 HN5 HI5 HU5
    generalize (((((((((W5.setCell ⟨X, 0, none⟩ (.int .i64 s1)).setCell ⟨X, 1, none⟩ (.int .i64 s2)).setCell ⟨X, 2, none⟩ (.float .f32 s3)).setCell ⟨X, 3, none⟩ (.float .f32 s4)).setCell ⟨X, 4, none⟩ (.slice B' bs'.length cb')).setCell ⟨X, 5, none⟩ (.slice E' evs.length ce')).setCell ⟨X, 6, none⟩ (.int .i64 now)).setCell ⟨X, 7, none⟩ (.int .i64 done)).setCell ⟨X, 8, none⟩ (.slice none 0 0)).setCell ⟨X, 9, none⟩ (.float .f32 env) = W6 at *
    generalize W5.heap.size = lo0 at *
    have g9 := HC9.out _ HS6.out.bel
    go_wp2_with fail
    clear g9
    go_loopw [28] (fun i wr => ∃ (k : Nat) (v : Value) (qs : List Vq), i = .int .i64 (k : Int) ∧ k ≤ ms.length ∧ Hid (SmIn w wr X lo1 hi1 lo0 (s1, s2, s3, s4) B' cb' bs' E' ce' evs now done v env qs) ∧ Hid (qs.map Vq.v = (ms.take k).map Vm.v)) (fun i _ => ms.length - (intOf i).toNat)
    case atStart => exact ⟨0, _, [], rfl, by omega, HS6, rfl⟩
    case round =>
      clear HS6
      obtain ⟨k, v, qs, rfl, hk, HS, HQ⟩ := hrel
      by_cases hlt : k < ms.length
      · obtain ⟨m, hmk⟩ : ∃ m, ms[k]? = some m := ⟨_, List.getElem?_eq_getElem hlt⟩
        have hmem : m ∈ ms := List.mem_of_getElem? hmk
        obtain ⟨e0, e1, e2, e3⟩ := flatV_at hmk
        obtain ⟨gb, gc, hvv, _, hgb, hgc, hgm, _, hcell⟩ := owns_cells HPl.out.vrow (by omega) (flatV_len ms)
        injection hvv with q1 _ q2
        subst q1 q2
        have hbw : ∀ j, (⟨gb, j, none⟩ : Addr).block < w.heap.size := fun _ => hgb
        have t0 := (World.cell?_of_block (HS.out.bel.block _ hgb)).trans (hcell _ _ e0)
        have t1 := (World.cell?_of_block (HS.out.bel.block _ hgb)).trans (hcell _ _ e1)
        have t2 := (World.cell?_of_block (HS.out.bel.block _ hgb)).trans (hcell _ _ e2)
        have t3 := (World.cell?_of_block (HS.out.bel.block _ hgb)).trans (hcell _ _ e3)
        obtain ⟨hv16, hv64⟩ := HV.out m hmem
        have HQ1 : Hid (qs.map Vq.v ++ [m.v] = (ms.take (k + 1)).map Vm.v) := Lib.hid (by
          rw [List.take_add_one, hmk, List.map_append, HQ.out]; rfl)
        have HVm := Lib.hid (HPl.out.vo m hmem)
        have HN7 := Lib.hid (heap_alloc_new wr (.cells #[.int .i64 m.v.body, .slice m.M m.v.ms.length m.mc, .slice (some ⟨m.S, 0, none⟩) m.v.ms.length m.v.ms.length, .slice m.I m.v.xs.length m.ic] 59))
        have b7 : Below wr.heap.size wr (wr.alloc (.cells #[.int .i64 m.v.body, .slice m.M m.v.ms.length m.mc, .slice (some ⟨m.S, 0, none⟩) m.v.ms.length m.v.ms.length, .slice m.I m.v.xs.length m.ic] 59)) := (Below.refl wr.heap.size wr).alloc (Nat.le_refl _) _
        have HS7 := Lib.hid (HS.out.new b7)
        have HVB : Hid (∀ j, v.ownBlock = some j → j < wr.heap.size) := Lib.hid (fun j e => (HS.out.vr.lt j e).2)
        clear hcell e0 e1 e2 e3 hbw b7 HS HQ
        go_wp2_with fail
        clear t0 t1 t2 t3
        obtain ⟨VB, vb, hvf⟩ := owns_form HS7.out.vr
        subst hvf
        have hql : qs.length = k := by
          have := congrArg List.length HQ1.out
          simp only [List.length_append, List.length_map, List.length_take, List.length_cons, List.length_nil] at this
          omega
        have hql2 : qs.length ≤ 8 := by omega
        clear hql
        have HCc : Hid (∀ W' : World, W'.heap[X]? = some (.cells (smC (s1, s2, s3, s4) B' cb' bs' E' ce' evs.length now done (.slice VB qs.length vb) env) 31 (0, 0)) → W'.heap[wr.heap.size]? = some (.cells #[.int .i64 m.v.body, .slice m.M m.v.ms.length m.mc, .slice (some ⟨m.S, 0, none⟩) m.v.ms.length m.v.ms.length, .slice m.I m.v.xs.length m.ic] 59 (0, 0)) → W'.cell? ⟨X, 8, none⟩ = some (.slice VB qs.length vb) ∧ W'.cell? ⟨wr.heap.size, 0, none⟩ = some (.int .i64 m.v.body) ∧ W'.cell? ⟨wr.heap.size, 1, none⟩ = some (.slice m.M m.v.ms.length m.mc) ∧ W'.cell? ⟨wr.heap.size, 2, none⟩ = some (.slice (some ⟨m.S, 0, none⟩) m.v.ms.length m.v.ms.length) ∧ W'.cell? ⟨wr.heap.size, 3, none⟩ = some (.slice m.I m.v.xs.length m.ic)) := Lib.hid (fun W' h1 h2 =>
          ⟨(st_cells h1).2.2.2.2.2.2.2.2.1, cell_of_row _ _ 0 _ _ (0, 0) h2, cell_of_row _ _ 1 _ _ (0, 0) h2, cell_of_row _ _ 2 _ _ (0, 0) h2, cell_of_row _ _ 3 _ _ (0, 0) h2⟩)
        have HS8 : Hid (SmIn w (wr.alloc (.cells #[.int .i64 m.v.body, .slice m.M m.v.ms.length m.mc, .slice (some ⟨m.S, 0, none⟩) m.v.ms.length m.v.ms.length, .slice m.I m.v.xs.length m.ic] 59)).drew X lo1 hi1 lo0 (s1, s2, s3, s4) B' cb' bs' E' ce' evs now done (.slice VB qs.length vb) env qs) := Lib.hid (HS7.out.new (below_drewN (Below.refl _ _) 1))
        have HN8 : Hid ((wr.alloc (.cells #[.int .i64 m.v.body, .slice m.M m.v.ms.length m.mc, .slice (some ⟨m.S, 0, none⟩) m.v.ms.length m.v.ms.length, .slice m.I m.v.xs.length m.ic] 59)).drew.heap[wr.heap.size]? = some (.cells #[.int .i64 m.v.body, .slice m.M m.v.ms.length m.mc, .slice (some ⟨m.S, 0, none⟩) m.v.ms.length m.v.ms.length, .slice m.I m.v.xs.length m.ic] 59 (0, 0))) := HN7.out
        refine wp_region_last (fun W' => W'.cell? ⟨X, 8, none⟩ = some (.slice VB qs.length vb) ∧ W'.cell? ⟨wr.heap.size, 0, none⟩ = some (.int .i64 m.v.body) ∧ W'.cell? ⟨wr.heap.size, 1, none⟩ = some (.slice m.M m.v.ms.length m.mc) ∧ W'.cell? ⟨wr.heap.size, 2, none⟩ = some (.slice (some ⟨m.S, 0, none⟩) m.v.ms.length m.v.ms.length) ∧ W'.cell? ⟨wr.heap.size, 3, none⟩ = some (.slice m.I m.v.xs.length m.ic)) 17 (by kernel_rfl) (HCc.out _ HS8.out.box HN8.out) (fun hHeld => ?_)
        clear HS7 HN7
        generalize (wr.alloc (.cells #[.int .i64 m.v.body, .slice m.M m.v.ms.length m.mc, .slice (some ⟨m.S, 0, none⟩) m.v.ms.length m.v.ms.length, .slice m.I m.v.xs.length m.ic] 59)).drew = W8 at *
        generalize wr.heap.size = vbx at *
        refine wpAnyX_take [0, 1, 15, 17] (i := 0) (oi := _) (v := ?_) rfl (by kernel_rfl) (by kernel_rfl) (by kernel_rfl) (by kernel_rfl) (fun _ _ _ h => h) (Or.inl ⟨by rfl, ?_⟩) (by assumption) ?_
        rotate_left
        · (intro w hSw; (try dsimp only at hSw); go_simp; try (with_reducible rfl))
        (try simp only [Act.put, List.setIfInBounds_toArray, List.set_cons_zero, List.set_cons_succ, List.getElem_toArray, List.getElem_cons_succ, List.getElem_cons_zero])
        refine wpAnyX_take [1, 15, 17] (i := 1) (oi := _) (v := ?_) rfl (by kernel_rfl) (by kernel_rfl) (by kernel_rfl) (by kernel_rfl) (fun _ _ _ h => h) (Or.inl ⟨by rfl, ?_⟩) (by assumption) ?_
        rotate_left
        · (intro w hSw; (try dsimp only at hSw); go_simp; try (with_reducible rfl))
        (try simp only [Act.put, List.setIfInBounds_toArray, List.set_cons_zero, List.set_cons_succ, List.getElem_toArray, List.getElem_cons_succ, List.getElem_cons_zero])
        refine wpAnyX_take [2, 3, 13, 14, 15, 17] (i := 2) (oi := _) (v := ?_) rfl (by kernel_rfl) (by kernel_rfl) (by kernel_rfl) (by kernel_rfl) (fun _ _ _ h => h) (Or.inl ⟨by rfl, ?_⟩) (by assumption) ?_
        rotate_left
        · (intro w hSw; (try dsimp only at hSw); go_simp; try (with_reducible rfl))
        (try simp only [Act.put, List.setIfInBounds_toArray, List.set_cons_zero, List.set_cons_succ, List.getElem_toArray, List.getElem_cons_succ, List.getElem_cons_zero])
        refine wpAnyX_take [3, 13, 14, 15, 17] (i := 3) (oi := _) (v := ?_) rfl (by kernel_rfl) (by kernel_rfl) (by kernel_rfl) (by kernel_rfl) (fun _ _ _ h => h) (Or.inl ⟨by rfl, ?_⟩) (by assumption) ?_
        rotate_left
        · (intro w hSw; (try dsimp only at hSw); go_simp; try (with_reducible rfl))
        (try simp only [Act.put, List.setIfInBounds_toArray, List.set_cons_zero, List.set_cons_succ, List.getElem_toArray, List.getElem_cons_succ, List.getElem_cons_zero])
        refine wpAnyX_take [4, 5, 6, 13, 14, 15, 17] (i := 4) (oi := _) (v := ?_) rfl (by kernel_rfl) (by kernel_rfl) (by kernel_rfl) (by kernel_rfl) (fun _ _ _ h => h) (Or.inl ⟨by rfl, ?_⟩) (by assumption) ?_
        rotate_left
        · (intro w hSw; (try dsimp only at hSw); go_simp; try (with_reducible rfl))
        (try simp only [Act.put, List.setIfInBounds_toArray, List.set_cons_zero, List.set_cons_succ, List.getElem_toArray, List.getElem_cons_succ, List.getElem_cons_zero])
        refine wpAnyX_take [5, 6, 13, 14, 15, 17] (i := 5) (oi := _) (v := ?_) rfl (by kernel_rfl) (by kernel_rfl) (by kernel_rfl) (by kernel_rfl) (fun _ _ _ h => h) (Or.inl ⟨by rfl, ?_⟩) (by assumption) ?_
        rotate_left
        · (intro w hSw; (try dsimp only at hSw); go_simp; try (with_reducible rfl))
        (try simp only [Act.put, List.setIfInBounds_toArray, List.set_cons_zero, List.set_cons_succ, List.getElem_toArray, List.getElem_cons_succ, List.getElem_cons_zero])
        refine wpAnyX_take [7, 8, 9, 13, 14, 15, 17] (i := 7) (oi := _) (v := ?_) rfl (by kernel_rfl) (by kernel_rfl) (by kernel_rfl) (by kernel_rfl) (fun _ _ _ h => h) (Or.inl ⟨by rfl, ?_⟩) (by assumption) ?_
        rotate_left
        · (intro w hSw; (try dsimp only at hSw); go_simp; try (with_reducible rfl))
        (try simp only [Act.put, List.setIfInBounds_toArray, List.set_cons_zero, List.set_cons_succ, List.getElem_toArray, List.getElem_cons_succ, List.getElem_cons_zero])
        refine wpAnyX_take [8, 9, 13, 14, 15, 17] (i := 8) (oi := _) (v := ?_) rfl (by kernel_rfl) (by kernel_rfl) (by kernel_rfl) (by kernel_rfl) (fun _ _ _ h => h) (Or.inl ⟨by rfl, ?_⟩) (by assumption) ?_
        rotate_left
        · (intro w hSw; (try dsimp only at hSw); go_simp; try (with_reducible rfl))
        (try simp only [Act.put, List.setIfInBounds_toArray, List.set_cons_zero, List.set_cons_succ, List.getElem_toArray, List.getElem_cons_succ, List.getElem_cons_zero])
        refine wpAnyX_take [10, 11, 12, 13, 14, 15, 17] (i := 10) (oi := _) (v := ?_) rfl (by kernel_rfl) (by kernel_rfl) (by kernel_rfl) (by kernel_rfl) (fun _ _ _ h => h) (Or.inl ⟨by rfl, ?_⟩) (by assumption) ?_
        rotate_left
        · (intro w hSw; (try dsimp only at hSw); go_simp; try (with_reducible rfl))
        (try simp only [Act.put, List.setIfInBounds_toArray, List.set_cons_zero, List.set_cons_succ, List.getElem_toArray, List.getElem_cons_succ, List.getElem_cons_zero])
        refine wpAnyX_take [11, 12, 13, 14, 15, 17] (i := 11) (oi := _) (v := ?_) rfl (by kernel_rfl) (by kernel_rfl) (by kernel_rfl) (by kernel_rfl) (fun _ _ _ h => h) (Or.inl ⟨by rfl, ?_⟩) (by assumption) ?_
        rotate_left
        · (intro w hSw; (try dsimp only at hSw); go_simp; try (with_reducible rfl))
        (try simp only [Act.put, List.setIfInBounds_toArray, List.set_cons_zero, List.set_cons_succ, List.getElem_toArray, List.getElem_cons_succ, List.getElem_cons_zero])
        refine wpAnyX_ready (i := 6) (o := _) (by kernel_rfl) rfl (fun K hK => ?_)
        go_simp
        have hw8 := HS8.out.bel
        have HVm8 := Lib.hid (HVm.out.new (hw8.mono (Nat.le_refl _)))
        refine (clone_any m.M m.mc base W8.heap.size m.v.ms W8 ⟨HVm8.out.mod, fun k e => (HVm8.out.mod.lt k e).2⟩ hv16).mono ?_
        intro r W9 hp
        unfold CloneP at hp
        obtain ⟨MB, mcb, rfl, hoB, hb9⟩ := hp
        have HO9 := Lib.hid (owns_lower hoB.1 HS8.out.nums.2.2.2.2.2)
        have HS9 := Lib.hid (HS8.out.new hb9)
        have HN9 := Lib.hid ((hb9.block _ (lt_of_some HN8.out)).trans HN8.out)
        have HVm9 := Lib.hid (HVm8.out.new hb9)
        clear hoB hb9 HS8 HN8 HVm8 HVm hw8
        go_wp2_with fail
        refine hK.out _ _ ?_ (fun hHeldN => ?_)
        · exact HCc.out _ HS9.out.box HN9.out
        clear hHeld hK K
        have hHeld := hHeldN
        clear hHeldN
        (try simp only [Act.put, List.setIfInBounds_toArray, List.set_cons_zero, List.set_cons_succ, List.getElem_toArray, List.getElem_cons_succ, List.getElem_cons_zero])
        refine wpAnyX_ready (i := 9) (o := _) (by kernel_rfl) rfl (fun K hK => ?_)
        go_simp
        refine (cloneC_any (some ⟨m.S, 0, none⟩) m.v.ms.length m.v.ms.length ((List.range m.v.ms.length).map fun i => sV (sAt m.v.ss i)) W9 (rowIs_rd2 HVm9.out.sts) (by simp) (sts_one _ _) hv16).mono ?_
        intro r W10 hp
        unfold CloneRP at hp
        obtain ⟨SB, scb, rfl, hoS, hb10⟩ := hp
        have HO10 := Lib.hid (owns_stay HO9.out fun k e => hb10.block k (HO9.out.lt k e).2)
        have HP10 := Lib.hid (owns_lower hoS HS9.out.nums.2.2.2.2.2)
        have HS10 := Lib.hid (HS9.out.new hb10)
        have HN10 := Lib.hid ((hb10.block _ (lt_of_some HN9.out)).trans HN9.out)
        have HVm10 := Lib.hid (HVm9.out.new hb10)
        clear hoS hb10 HS9 HN9 HVm9 HO9
        go_wp2_with fail
        refine hK.out _ _ ?_ (fun hHeldN => ?_)
        · exact HCc.out _ HS10.out.box HN10.out
        clear hHeld hK K
        have hHeld := hHeldN
        clear hHeldN
        (try simp only [Act.put, List.setIfInBounds_toArray, List.set_cons_zero, List.set_cons_succ, List.getElem_toArray, List.getElem_cons_succ, List.getElem_cons_zero])
        refine wpAnyX_ready (i := 12) (o := _) (by kernel_rfl) rfl (fun K hK => ?_)
        go_simp
        refine (cloneF_any m.I m.v.xs.length m.ic (f32s m.v.xs) W10 HVm10.out.inp.rd (by simp) (fs_one _) hv64).mono ?_
        intro r W11 hp
        unfold CloneRP at hp
        obtain ⟨IB, icb, rfl, hoI, hb11⟩ := hp
        obtain ⟨q, hqd⟩ : ∃ q : Vq, q = ⟨m.v, MB, mcb, SB, scb, IB, icb⟩ := ⟨_, rfl⟩
        have HQO : Hid (QOwn W11 lo0 q) := Lib.hid (by
          subst hqd
          exact ⟨owns_stay HO10.out fun k e => hb11.block k (HO10.out.lt k e).2, owns_stay HP10.out fun k e => hb11.block k (HP10.out.lt k e).2, owns_lower hoI HS10.out.nums.2.2.2.2.2⟩)
        have HQv : Hid (q.v = m.v) := Lib.hid (by rw [hqd])
        have HQc : Hid (voQ q = [.int .i64 m.v.body, .slice MB m.v.ms.length mcb, .slice SB m.v.ms.length scb, .slice IB m.v.xs.length icb]) := Lib.hid (by rw [hqd]; rfl)
        have HS11 := Lib.hid (HS10.out.new hb11)
        have HN11 := Lib.hid ((hb11.block _ (lt_of_some HN10.out)).trans HN10.out)
        clear hoI hb11 HS10 HN10 HVm10 HO10 HP10 hqd
        go_wp2_with fail
        refine hK.out _ _ ?_ (fun hHeldN => ?_)
        · exact HCc.out _ HS11.out.box HN11.out
        clear hHeld hK K
        have hHeld := hHeldN
        clear hHeldN
        (try simp only [Act.put, List.setIfInBounds_toArray, List.set_cons_zero, List.set_cons_succ, List.getElem_toArray, List.getElem_cons_succ, List.getElem_cons_zero])
        refine wpAnyX_take [13, 14, 15, 17] (i := 13) (oi := _) (v := ?_) rfl (by kernel_rfl) (by kernel_rfl) (by kernel_rfl) (by kernel_rfl) (fun _ _ _ h => h) (Or.inl ⟨by rfl, ?_⟩) (by assumption) ?_
        rotate_left
        · (intro w hSw; (try dsimp only at hSw); go_simp; try (with_reducible rfl))
        (try simp only [Act.put, List.setIfInBounds_toArray, List.set_cons_zero, List.set_cons_succ, List.getElem_toArray, List.getElem_cons_succ, List.getElem_cons_zero])
        refine wpAnyX_ready (i := 14) (o := _) (by kernel_rfl) rfl (fun K hK => ?_)
        go_simp
        have b12 : Below W11.heap.size W11 (W11.alloc (.cells #[.int .i64 m.v.body, .slice MB m.v.ms.length mcb, .slice SB m.v.ms.length scb, .slice IB m.v.xs.length icb] 59)) := (Below.refl W11.heap.size W11).alloc (Nat.le_refl _) _
        have HS12 := Lib.hid (HS11.out.new b12)
        have HN12 := Lib.hid ((b12.block _ (lt_of_some HN11.out)).trans HN11.out)
        have HQO12 := Lib.hid (HQO.out.new b12)
        have NN12 := Lib.hid (heap_alloc_new W11 (.cells #[.int .i64 m.v.body, .slice MB m.v.ms.length mcb, .slice SB m.v.ms.length scb, .slice IB m.v.xs.length icb] 59))
        clear b12 HS11 HN11 HQO
        refine hK.out _ _ ?_ (fun hHeldN => ?_)
        · exact HCc.out _ HS12.out.box HN12.out
        clear hHeld hK K
        have hHeld := hHeldN
        clear hHeldN
        (try simp only [Act.put, List.setIfInBounds_toArray, List.set_cons_zero, List.set_cons_succ, List.getElem_toArray, List.getElem_cons_succ, List.getElem_cons_zero])
        generalize W11.alloc (.cells #[.int .i64 m.v.body, .slice MB m.v.ms.length mcb, .slice SB m.v.ms.length scb, .slice IB m.v.xs.length icb] 59) = W12 at *
        have hz12 : lo0 ≤ W12.heap.size := HS12.out.nums.2.2.2.2.2
        obtain ⟨i0, hi0, hz0, hz1, hz2⟩ := info_parts voice_info
        refine wpAnyX_ready (i := 15) (o := _) (by kernel_rfl) rfl (fun K hK => ?_)
        refine step_append_lies _ (by rfl) (.tmp 33) (.tmp 46) 29 (by rfl) lo0 59 i0 _ 4 80 Tryz.underlying29 hi0 hz0 hz1 hz2 rfl (by omega) (.slice VB qs.length vb) qs.length (flatQ qs) (by rfl) HS12.out.vr ⟨W11.heap.size, 0, none⟩ 1 1 [.int .i64 m.v.body, .slice MB m.v.ms.length mcb, .slice SB m.v.ms.length scb, .slice IB m.v.xs.length icb] (by rfl) (by rfl) (World.news_of_block (t := 59) (fr := (0, 0)) NN12.out) (by rw [← HQc.out]; exact voQ_one q) (by omega) (by simp only [maxLen]; omega) (by omega) hz12 _ rfl ?_
        intro gg cap W13 hown13 hgrow13 hat13 hlt13
        rw [← HQc.out] at hown13
        have HP13 : Hid (W13.heap[X]? = some (.cells (smC (s1, s2, s3, s4) B' cb' bs' E' ce' evs.length now done (.slice VB qs.length vb) env) 31 (0, 0))) := Lib.hid ((hgrow13.block X (lt_of_some HS12.out.box) (fun e => by have := (HS12.out.vr.lt X e.symm).1; have := HS12.out.nums.2.2.2.1; omega)).trans HS12.out.box)
        have HN13 : Hid (W13.heap[vbx]? = some (.cells #[.int .i64 m.v.body, .slice m.M m.v.ms.length m.mc, .slice (some ⟨m.S, 0, none⟩) m.v.ms.length m.v.ms.length, .slice m.I m.v.xs.length m.ic] 59 (0, 0))) := Lib.hid ((hgrow13.block vbx (lt_of_some HN12.out) (fun e => by have := HVB.out vbx e.symm; omega)).trans HN12.out)
        have HS13 := Lib.hid (HS12.out.app hgrow13 hown13 HQO12.out)
        have f8 := free_cells HP13.out 8
        clear hown13 hgrow13 hat13 hlt13 HS12 HN12 HQO12 NN12
        refine hK.out _ _ ?_ (fun hHeldN => ?_)
        · exact HCc.out _ HP13.out HN13.out
        clear hHeld hK K
        have hHeld := hHeldN
        clear hHeldN
        (try simp only [Act.put, List.setIfInBounds_toArray, List.set_cons_zero, List.set_cons_succ, List.getElem_toArray, List.getElem_cons_succ, List.getElem_cons_zero])
        refine wpAnyX_take [16, 17] (i := 16) (oi := _) (v := ?_) rfl (by kernel_rfl) (by kernel_rfl) (by kernel_rfl) (by kernel_rfl) (fun _ _ _ h => h) (Or.inl ⟨by rfl, ?_⟩) (by assumption) ?_
        rotate_left
        · (intro w hSw; (try dsimp only at hSw); go_simp; try (with_reducible rfl))
        (try simp only [Act.put, List.setIfInBounds_toArray, List.set_cons_zero, List.set_cons_succ, List.getElem_toArray, List.getElem_cons_succ, List.getElem_cons_zero])
        refine wpAnyX_last (o := _) (by kernel_rfl) rfl (fun K hK => ?_)
        go_simp
        refine hK.out _ _ ?_
        clear hK K
        (try simp only [Act.put, List.setIfInBounds_toArray, List.set_cons_zero, List.set_cons_succ, List.getElem_toArray, List.getElem_cons_succ, List.getElem_cons_zero])
        refine wpAnyX_done (by kernel_rfl) ?_ _
        have HQ2 : Hid ((qs ++ [q]).map Vq.v = (ms.take (k + 1)).map Vm.v) := Lib.hid (by rw [← HQ1.out, ← HQv.out, List.map_append]; rfl)
        clear f8 HP13 HN13 hHeld
        generalize W13.setCell ⟨X, 8, none⟩ (.slice (some ⟨gg, 0, none⟩) (qs.length + 1) cap) = W14 at *
        go_wp2_with fail
        go_roundw
        case rel => exact ⟨k + 1, _, qs ++ [q], by go_num, by omega, HS13, HQ2⟩
        case measure => simp [intOf]; omega
      · obtain rfl : k = ms.length := by omega
        obtain ⟨VB, vb, hvf⟩ := owns_form HS.out.vr
        subst hvf
        obtain ⟨d0, d1, d2, d3, d4, d5, d6, d7, d8, d9⟩ := st_cells HS.out.box
        obtain ⟨f0, f1, f2, f3, f4, f5, f6, f7, f8, f9⟩ := st_free HS.out.res
        obtain ⟨a0, a1, a2, a3, a4, a5, a6, a7, a8, a9⟩ := st_cells HS.out.res
        go_wp2_with fail
        have e : ((((((((((wr.setCell ⟨w.heap.size, 0, none⟩ (.int .i64 s1)).setCell ⟨w.heap.size, 1, none⟩ (.int .i64 s2)).setCell ⟨w.heap.size, 2, none⟩ (.float .f32 s3)).setCell ⟨w.heap.size, 3, none⟩ (.float .f32 s4)).setCell ⟨w.heap.size, 4, none⟩ (.slice B' bs'.length cb')).setCell ⟨w.heap.size, 5, none⟩ (.slice E' evs.length ce')).setCell ⟨w.heap.size, 6, none⟩ (.int .i64 now)).setCell ⟨w.heap.size, 7, none⟩ (.int .i64 done)).setCell ⟨w.heap.size, 8, none⟩ (.slice VB qs.length vb)).setCell ⟨w.heap.size, 9, none⟩ (.float .f32 env)) = put10 wr w.heap.size (.int .i64 s1) (.int .i64 s2) (.float .f32 s3) (.float .f32 s4) (.slice B' bs'.length cb') (.slice E' evs.length ce') (.int .i64 now) (.int .i64 done) (.slice VB qs.length vb) (.float .f32 env) := rfl
        have HR := put10_new (.int .i64 s1) (.int .i64 s2) (.float .f32 s3) (.float .f32 s4) (.slice B' bs'.length cb') (.slice E' evs.length ce') (.int .i64 now) (.int .i64 done) (.slice VB qs.length vb) (.float .f32 env) HS.out.res
        obtain ⟨n1, n2, n3, n4, n5, n6⟩ := HS.out.nums
        have hk4 : ∀ j, j ≠ w.heap.size → ((((((((((wr.setCell ⟨w.heap.size, 0, none⟩ (.int .i64 s1)).setCell ⟨w.heap.size, 1, none⟩ (.int .i64 s2)).setCell ⟨w.heap.size, 2, none⟩ (.float .f32 s3)).setCell ⟨w.heap.size, 3, none⟩ (.float .f32 s4)).setCell ⟨w.heap.size, 4, none⟩ (.slice B' bs'.length cb')).setCell ⟨w.heap.size, 5, none⟩ (.slice E' evs.length ce')).setCell ⟨w.heap.size, 6, none⟩ (.int .i64 now)).setCell ⟨w.heap.size, 7, none⟩ (.int .i64 done)).setCell ⟨w.heap.size, 8, none⟩ (.slice VB qs.length vb)).setCell ⟨w.heap.size, 9, none⟩ (.float .f32 env)).heap[j]? = wr.heap[j]? := fun j hj => by rw [e]; exact put10_else _ _ _ _ _ _ _ _ _ _ hj
        have hz4 : ((((((((((wr.setCell ⟨w.heap.size, 0, none⟩ (.int .i64 s1)).setCell ⟨w.heap.size, 1, none⟩ (.int .i64 s2)).setCell ⟨w.heap.size, 2, none⟩ (.float .f32 s3)).setCell ⟨w.heap.size, 3, none⟩ (.float .f32 s4)).setCell ⟨w.heap.size, 4, none⟩ (.slice B' bs'.length cb')).setCell ⟨w.heap.size, 5, none⟩ (.slice E' evs.length ce')).setCell ⟨w.heap.size, 6, none⟩ (.int .i64 now)).setCell ⟨w.heap.size, 7, none⟩ (.int .i64 done)).setCell ⟨w.heap.size, 8, none⟩ (.slice VB qs.length vb)).setCell ⟨w.heap.size, 9, none⟩ (.float .f32 env)).heap.size = wr.heap.size := by rw [e]; exact put10_size _ _ _ _ _ _ _ _ _ _
        have hb4 : Below w.heap.size w ((((((((((wr.setCell ⟨w.heap.size, 0, none⟩ (.int .i64 s1)).setCell ⟨w.heap.size, 1, none⟩ (.int .i64 s2)).setCell ⟨w.heap.size, 2, none⟩ (.float .f32 s3)).setCell ⟨w.heap.size, 3, none⟩ (.float .f32 s4)).setCell ⟨w.heap.size, 4, none⟩ (.slice B' bs'.length cb')).setCell ⟨w.heap.size, 5, none⟩ (.slice E' evs.length ce')).setCell ⟨w.heap.size, 6, none⟩ (.int .i64 now)).setCell ⟨w.heap.size, 7, none⟩ (.int .i64 done)).setCell ⟨w.heap.size, 8, none⟩ (.slice VB qs.length vb)).setCell ⟨w.heap.size, 9, none⟩ (.float .f32 env)) := by rw [e]; exact put10_below _ _ _ _ _ _ _ _ _ _ HS.out.bel (Nat.le_refl _)
        have hg4 : wr.grownBy ((((((((((wr.setCell ⟨w.heap.size, 0, none⟩ (.int .i64 s1)).setCell ⟨w.heap.size, 1, none⟩ (.int .i64 s2)).setCell ⟨w.heap.size, 2, none⟩ (.float .f32 s3)).setCell ⟨w.heap.size, 3, none⟩ (.float .f32 s4)).setCell ⟨w.heap.size, 4, none⟩ (.slice B' bs'.length cb')).setCell ⟨w.heap.size, 5, none⟩ (.slice E' evs.length ce')).setCell ⟨w.heap.size, 6, none⟩ (.int .i64 now)).setCell ⟨w.heap.size, 7, none⟩ (.int .i64 done)).setCell ⟨w.heap.size, 8, none⟩ (.slice VB qs.length vb)).setCell ⟨w.heap.size, 9, none⟩ (.float .f32 env)) (some w.heap.size) := grown_trans (grown_trans (grown_trans (grown_trans (grown_trans (grown_trans (grown_trans (grown_trans (grown_trans (grown_set _ _) (grown_set _ _)) (grown_set _ _)) (grown_set _ _)) (grown_set _ _)) (grown_set _ _)) (grown_set _ _)) (grown_set _ _)) (grown_set _ _)) (grown_set _ _)
        rw [← e] at HR
        generalize (((((((((wr.setCell ⟨w.heap.size, 0, none⟩ (.int .i64 s1)).setCell ⟨w.heap.size, 1, none⟩ (.int .i64 s2)).setCell ⟨w.heap.size, 2, none⟩ (.float .f32 s3)).setCell ⟨w.heap.size, 3, none⟩ (.float .f32 s4)).setCell ⟨w.heap.size, 4, none⟩ (.slice B' bs'.length cb')).setCell ⟨w.heap.size, 5, none⟩ (.slice E' evs.length ce')).setCell ⟨w.heap.size, 6, none⟩ (.int .i64 now)).setCell ⟨w.heap.size, 7, none⟩ (.int .i64 done)).setCell ⟨w.heap.size, 8, none⟩ (.slice VB qs.length vb)).setCell ⟨w.heap.size, 9, none⟩ (.float .f32 env) = W4 at *
        refine bodyPost_ret (results_cell_row rfl _ _ w.heap.size 31 #[.int .i64 s1, .int .i64 s2, .float .f32 s3, .float .f32 s4, .slice B' bs'.length cb', .slice E' evs.length ce', .int .i64 now, .int .i64 done, .slice VB qs.length vb, .float .f32 env] (0, 0) _ rfl HR Tryz.underlying31 rfl (by kernel_rfl)) rfl ?_
        refine ⟨B', cb', bs', E', ce', VB, vb, qs, rfl, ?_, HM3.out, ⟨?_, fun q hq => ?_⟩, by rw [HQ.out, List.take_length], hb4⟩
        · exact (HS.out.sc.keep (fun j h1 h2 => hk4 j (by omega)) (by rw [hz4]; exact HS.out.sc.hh)).low (Nat.le_of_lt n2) (by rw [hz4]; exact HS.out.sc.hh) (Nat.le_refl _)
        · exact owns_lower (owns_stay HS.out.vr fun j ej => hk4 j (by have := (HS.out.vr.lt j ej).1; omega)) (by omega)
        · exact ((HS.out.qo q hq).grown hg4 fun j ej => by
            injection ej with ej
            subst ej
            exact ⟨_, _, _, HS.out.res, by decide, by decide, by decide⟩).lower (by omega)
  · go_simp
    have b3 : Below W2.heap.size W2 (W2.alloc (.cells #[.int .i64 0, .int .i64 0, .float .f32 0, .float .f32 0, .slice none 0 0, .slice none 0 0, .int .i64 0, .int .i64 0, .slice none 0 0, .float .f32 0] 31)) := (Below.refl W2.heap.size W2).alloc (Nat.le_refl _) _
    have HB3 : Hid (Below w.heap.size w (W2.alloc (.cells #[.int .i64 0, .int .i64 0, .float .f32 0, .float .f32 0, .slice none 0 0, .slice none 0 0, .int .i64 0, .int .i64 0, .slice none 0 0, .float .f32 0] 31))) := HB2.out.trans (b3.mono HB2.out.size)
    have HN3 : Hid ((W2.alloc (.cells #[.int .i64 0, .int .i64 0, .float .f32 0, .float .f32 0, .slice none 0 0, .slice none 0 0, .int .i64 0, .int .i64 0, .slice none 0 0, .float .f32 0] 31)).heap[w.heap.size]? = some (.cells #[.int .i64 0, .int .i64 0, .float .f32 0, .float .f32 0, .slice none 0 0, .slice none 0 0, .int .i64 0, .int .i64 0, .slice none 0 0, .float .f32 0] 31 (0, 0))) := (b3.block _ (lt_of_some HN2.out)).trans HN2.out
    have HX3 := Lib.hid (heap_alloc_new W2 (.cells #[.int .i64 0, .int .i64 0, .float .f32 0, .float .f32 0, .slice none 0 0, .slice none 0 0, .int .i64 0, .int .i64 0, .slice none 0 0, .float .f32 0] 31))
    have hz3 : Hid ((W2.alloc (.cells #[.int .i64 0, .int .i64 0, .float .f32 0, .float .f32 0, .slice none 0 0, .slice none 0 0, .int .i64 0, .int .i64 0, .slice none 0 0, .float .f32 0] 31)).heap.size = W2.heap.size + 1) := by show (W2.alloc _).heap.size = _; simp
    have HXW : Hid (w.heap.size < W2.heap.size) := Lib.hid (lt_of_some HN2.out)
    clear b3 HB2 HN2 HZ2
    refine hK.out _ _ ?_ (fun hHeldN => ?_)
    · exact HC.out _ HB3.out
    clear hHeld hK K
    have hHeld := hHeldN
    clear hHeldN
    (try simp only [Act.put, List.setIfInBounds_toArray, List.set_cons_zero, List.set_cons_succ, List.getElem_toArray, List.getElem_cons_succ, List.getElem_cons_zero])
    generalize W2.alloc (.cells #[.int .i64 0, .int .i64 0, .float .f32 0, .float .f32 0, .slice none 0 0, .slice none 0 0, .int .i64 0, .int .i64 0, .slice none 0 0, .float .f32 0] 31) = W3 at *
    generalize W2.heap.size = X at *
    refine wpAnyX_ready (i := 4) (o := _) (by kernel_rfl) rfl (fun K hK => ?_)
    go_simp
    refine (copyScore_any (s1, s2, s3, s4) cB ccb cbs cE cce lo hi evs W3 (HSc.out.below HB3.out) HBo.out hl).mono ?_
    intro r W5 hcp
    unfold CopyP at hcp
    obtain ⟨B', cb', bs', E', ce', rfl, hsc5, hmb, hb5⟩ := hcp
    unfold scV
    have HB5 : Hid (Below w.heap.size w W5) := HB3.out.trans (hb5.mono HB3.out.size)
    have HN5 : Hid (W5.heap[w.heap.size]? = some (.cells #[.int .i64 0, .int .i64 0, .float .f32 0, .float .f32 0, .slice none 0 0, .slice none 0 0, .int .i64 0, .int .i64 0, .slice none 0 0, .float .f32 0] 31 (0, 0))) := (hb5.block _ (lt_of_some HN3.out)).trans HN3.out
    have HX5 : Hid (W5.heap[X]? = some (.cells #[.int .i64 0, .int .i64 0, .float .f32 0, .float .f32 0, .slice none 0 0, .slice none 0 0, .int .i64 0, .int .i64 0, .slice none 0 0, .float .f32 0] 31 (0, 0))) := (hb5.block _ (lt_of_some HX3.out)).trans HX3.out
    have HI5 := Lib.hid hsc5
    have HM3 := Lib.hid hmb
    have HU5 : Hid (w.heap.size < X ∧ w.heap.size < W3.heap.size ∧ W5.heap.size ≤ W5.heap.size ∧ X < W5.heap.size ∧ (X < W3.heap.size ∨ W5.heap.size ≤ X)) := Lib.hid (by
      have h1 := hz3.out
      have h2 := HXW.out
      have h3 := hb5.size
      exact ⟨h2, by omega, Nat.le_refl _, by omega, .inl (by omega)⟩)
    clear hsc5 hmb hb5 HB3 HN3 HX3 hz3 HXW
    go_wp2_with fail
    refine hK.out _ _ ?_ (fun hHeldN => ?_)
    · exact HC.out _ HB5.out
    clear hHeld hK K
    have hHeld := hHeldN
    clear hHeldN
    (try simp only [Act.put, List.setIfInBounds_toArray, List.set_cons_zero, List.set_cons_succ, List.getElem_toArray, List.getElem_cons_succ, List.getElem_cons_zero])
    refine wpAnyX_take [14, 16] (i := 14) (oi := _) (v := ?_) rfl (by kernel_rfl) (by kernel_rfl) (by kernel_rfl) (by kernel_rfl) (fun _ _ _ h => h) (Or.inl ⟨by rfl, ?_⟩) (by assumption) ?_
    rotate_left
    · (intro w hSw; (try dsimp only at hSw); go_simp; try (with_reducible rfl))
    (try simp only [Act.put, List.setIfInBounds_toArray, List.set_cons_zero, List.set_cons_succ, List.getElem_toArray, List.getElem_cons_succ, List.getElem_cons_zero])
    generalize hH : W5.heap.size = hi1 at HI5
    have HU5 : Hid (w.heap.size < X ∧ w.heap.size < W3.heap.size ∧ hi1 ≤ W5.heap.size ∧ X < W5.heap.size ∧ (X < W3.heap.size ∨ hi1 ≤ X)) := Lib.hid (by rw [← hH]; exact HU5.out)
    clear hH
    generalize W3.heap.size = lo1 at *
    obtain ⟨f0, f1, f2, f3, f4, f5, f6, f7, f8, f9⟩ := st_free HX5.out
    obtain ⟨d0, d1, d2, d3, d4, d5, d6, d7, d8, d9⟩ := st_cells HX5.out
    refine wpAnyX_last (o := _) (by kernel_rfl) rfl (fun K hK => ?_)
    go_simp
    refine hK.out _ _ ?_
    clear hK K
    (try simp only [Act.put, List.setIfInBounds_toArray, List.set_cons_zero, List.set_cons_succ, List.getElem_toArray, List.getElem_cons_succ, List.getElem_cons_zero])
    refine wpAnyX_done (by kernel_rfl) ?_ _
    clear f0 f1 f2 f3 f4 f5 f6 f7 f8 f9 d0 d1 d2 d3 d4 d5 d6 d7 d8 d9 hHeld
    have HS6 : Hid (SmIn w ((((((((((W5.setCell ⟨X, 0, none⟩ (.int .i64 s1)).setCell ⟨X, 1, none⟩ (.int .i64 s2)).setCell ⟨X, 2, none⟩ (.float .f32 s3)).setCell ⟨X, 3, none⟩ (.float .f32 s4)).setCell ⟨X, 4, none⟩ (.slice B' bs'.length cb')).setCell ⟨X, 5, none⟩ (.slice E' evs.length ce')).setCell ⟨X, 6, none⟩ (.int .i64 now)).setCell ⟨X, 7, none⟩ (.int .i64 done)).setCell ⟨X, 8, none⟩ (.slice none 0 0)).setCell ⟨X, 9, none⟩ (.float .f32 env)) X lo1 hi1 W5.heap.size (s1, s2, s3, s4) B' cb' bs' E' ce' evs now done (.slice none 0 0) env []) := by
      obtain ⟨n1, n2, n3, n4, n5⟩ := HU5.out
      have e : ((((((((((W5.setCell ⟨X, 0, none⟩ (.int .i64 s1)).setCell ⟨X, 1, none⟩ (.int .i64 s2)).setCell ⟨X, 2, none⟩ (.float .f32 s3)).setCell ⟨X, 3, none⟩ (.float .f32 s4)).setCell ⟨X, 4, none⟩ (.slice B' bs'.length cb')).setCell ⟨X, 5, none⟩ (.slice E' evs.length ce')).setCell ⟨X, 6, none⟩ (.int .i64 now)).setCell ⟨X, 7, none⟩ (.int .i64 done)).setCell ⟨X, 8, none⟩ (.slice none 0 0)).setCell ⟨X, 9, none⟩ (.float .f32 env)) = put10 W5 X (.int .i64 s1) (.int .i64 s2) (.float .f32 s3) (.float .f32 s4) (.slice B' bs'.length cb') (.slice E' evs.length ce') (.int .i64 now) (.int .i64 done) (.slice none 0 0) (.float .f32 env) := rfl
      rw [e]
      refine ⟨put10_below _ _ _ _ _ _ _ _ _ _ HB5.out (Nat.le_of_lt n1), (put10_else _ _ _ _ _ _ _ _ _ _ (by omega)).trans HN5.out, ⟨n1, n2, n3, n4, n5, by rw [put10_size]; exact Nat.le_refl _⟩, put10_new _ _ _ _ _ _ _ _ _ _ HX5.out, ?_, ⟨rfl, .inl ⟨rfl, rfl⟩⟩, fun q hq => by cases hq⟩
      exact HI5.out.keep (fun j h1 h2 => put10_else _ _ _ _ _ _ _ _ _ _ (by omega)) (by rw [put10_size]; exact HI5.out.hh)
    clear HX5 HB5 HN5 HI5 HU5
    generalize (((((((((W5.setCell ⟨X, 0, none⟩ (.int .i64 s1)).setCell ⟨X, 1, none⟩ (.int .i64 s2)).setCell ⟨X, 2, none⟩ (.float .f32 s3)).setCell ⟨X, 3, none⟩ (.float .f32 s4)).setCell ⟨X, 4, none⟩ (.slice B' bs'.length cb')).setCell ⟨X, 5, none⟩ (.slice E' evs.length ce')).setCell ⟨X, 6, none⟩ (.int .i64 now)).setCell ⟨X, 7, none⟩ (.int .i64 done)).setCell ⟨X, 8, none⟩ (.slice none 0 0)).setCell ⟨X, 9, none⟩ (.float .f32 env) = W6 at *
    generalize W5.heap.size = lo0 at *
    have g9 := HC9.out _ HS6.out.bel
    go_wp2_with fail
    clear g9
    go_loopw [28] (fun i wr => ∃ (k : Nat) (v : Value) (qs : List Vq), i = .int .i64 (k : Int) ∧ k ≤ ms.length ∧ Hid (SmIn w wr X lo1 hi1 lo0 (s1, s2, s3, s4) B' cb' bs' E' ce' evs now done v env qs) ∧ Hid (qs.map Vq.v = (ms.take k).map Vm.v)) (fun i _ => ms.length - (intOf i).toNat)
    case atStart => exact ⟨0, _, [], rfl, by omega, HS6, rfl⟩
    case round =>
      clear HS6
      obtain ⟨k, v, qs, rfl, hk, HS, HQ⟩ := hrel
      by_cases hlt : k < ms.length
      · obtain ⟨m, hmk⟩ : ∃ m, ms[k]? = some m := ⟨_, List.getElem?_eq_getElem hlt⟩
        have hmem : m ∈ ms := List.mem_of_getElem? hmk
        obtain ⟨e0, e1, e2, e3⟩ := flatV_at hmk
        obtain ⟨gb, gc, hvv, _, hgb, hgc, hgm, _, hcell⟩ := owns_cells HPl.out.vrow (by omega) (flatV_len ms)
        injection hvv with q1 _ q2
        subst q1 q2
        have hbw : ∀ j, (⟨gb, j, none⟩ : Addr).block < w.heap.size := fun _ => hgb
        have t0 := (World.cell?_of_block (HS.out.bel.block _ hgb)).trans (hcell _ _ e0)
        have t1 := (World.cell?_of_block (HS.out.bel.block _ hgb)).trans (hcell _ _ e1)
        have t2 := (World.cell?_of_block (HS.out.bel.block _ hgb)).trans (hcell _ _ e2)
        have t3 := (World.cell?_of_block (HS.out.bel.block _ hgb)).trans (hcell _ _ e3)
        obtain ⟨hv16, hv64⟩ := HV.out m hmem
        have HQ1 : Hid (qs.map Vq.v ++ [m.v] = (ms.take (k + 1)).map Vm.v) := Lib.hid (by
          rw [List.take_add_one, hmk, List.map_append, HQ.out]; rfl)
        have HVm := Lib.hid (HPl.out.vo m hmem)
        have HN7 := Lib.hid (heap_alloc_new wr (.cells #[.int .i64 m.v.body, .slice m.M m.v.ms.length m.mc, .slice (some ⟨m.S, 0, none⟩) m.v.ms.length m.v.ms.length, .slice m.I m.v.xs.length m.ic] 59))
        have b7 : Below wr.heap.size wr (wr.alloc (.cells #[.int .i64 m.v.body, .slice m.M m.v.ms.length m.mc, .slice (some ⟨m.S, 0, none⟩) m.v.ms.length m.v.ms.length, .slice m.I m.v.xs.length m.ic] 59)) := (Below.refl wr.heap.size wr).alloc (Nat.le_refl _) _
        have HS7 := Lib.hid (HS.out.new b7)
        have HVB : Hid (∀ j, v.ownBlock = some j → j < wr.heap.size) := Lib.hid (fun j e => (HS.out.vr.lt j e).2)
        clear hcell e0 e1 e2 e3 hbw b7 HS HQ
        go_wp2_with fail
        clear t0 t1 t2 t3
        obtain ⟨VB, vb, hvf⟩ := owns_form HS7.out.vr
        subst hvf
        have hql : qs.length = k := by
          have := congrArg List.length HQ1.out
          simp only [List.length_append, List.length_map, List.length_take, List.length_cons, List.length_nil] at this
          omega
        have hql2 : qs.length ≤ 8 := by omega
        clear hql
        have HCc : Hid (∀ W' : World, W'.heap[X]? = some (.cells (smC (s1, s2, s3, s4) B' cb' bs' E' ce' evs.length now done (.slice VB qs.length vb) env) 31 (0, 0)) → W'.heap[wr.heap.size]? = some (.cells #[.int .i64 m.v.body, .slice m.M m.v.ms.length m.mc, .slice (some ⟨m.S, 0, none⟩) m.v.ms.length m.v.ms.length, .slice m.I m.v.xs.length m.ic] 59 (0, 0)) → W'.cell? ⟨X, 8, none⟩ = some (.slice VB qs.length vb) ∧ W'.cell? ⟨wr.heap.size, 0, none⟩ = some (.int .i64 m.v.body) ∧ W'.cell? ⟨wr.heap.size, 1, none⟩ = some (.slice m.M m.v.ms.length m.mc) ∧ W'.cell? ⟨wr.heap.size, 2, none⟩ = some (.slice (some ⟨m.S, 0, none⟩) m.v.ms.length m.v.ms.length) ∧ W'.cell? ⟨wr.heap.size, 3, none⟩ = some (.slice m.I m.v.xs.length m.ic)) := Lib.hid (fun W' h1 h2 =>
          ⟨(st_cells h1).2.2.2.2.2.2.2.2.1, cell_of_row _ _ 0 _ _ (0, 0) h2, cell_of_row _ _ 1 _ _ (0, 0) h2, cell_of_row _ _ 2 _ _ (0, 0) h2, cell_of_row _ _ 3 _ _ (0, 0) h2⟩)
        have HS8 : Hid (SmIn w (wr.alloc (.cells #[.int .i64 m.v.body, .slice m.M m.v.ms.length m.mc, .slice (some ⟨m.S, 0, none⟩) m.v.ms.length m.v.ms.length, .slice m.I m.v.xs.length m.ic] 59)).drew X lo1 hi1 lo0 (s1, s2, s3, s4) B' cb' bs' E' ce' evs now done (.slice VB qs.length vb) env qs) := Lib.hid (HS7.out.new (below_drewN (Below.refl _ _) 1))
        have HN8 : Hid ((wr.alloc (.cells #[.int .i64 m.v.body, .slice m.M m.v.ms.length m.mc, .slice (some ⟨m.S, 0, none⟩) m.v.ms.length m.v.ms.length, .slice m.I m.v.xs.length m.ic] 59)).drew.heap[wr.heap.size]? = some (.cells #[.int .i64 m.v.body, .slice m.M m.v.ms.length m.mc, .slice (some ⟨m.S, 0, none⟩) m.v.ms.length m.v.ms.length, .slice m.I m.v.xs.length m.ic] 59 (0, 0))) := HN7.out
        refine wp_region_last (fun W' => W'.cell? ⟨X, 8, none⟩ = some (.slice VB qs.length vb) ∧ W'.cell? ⟨wr.heap.size, 0, none⟩ = some (.int .i64 m.v.body) ∧ W'.cell? ⟨wr.heap.size, 1, none⟩ = some (.slice m.M m.v.ms.length m.mc) ∧ W'.cell? ⟨wr.heap.size, 2, none⟩ = some (.slice (some ⟨m.S, 0, none⟩) m.v.ms.length m.v.ms.length) ∧ W'.cell? ⟨wr.heap.size, 3, none⟩ = some (.slice m.I m.v.xs.length m.ic)) 17 (by kernel_rfl) (HCc.out _ HS8.out.box HN8.out) (fun hHeld => ?_)
        clear HS7 HN7
        generalize (wr.alloc (.cells #[.int .i64 m.v.body, .slice m.M m.v.ms.length m.mc, .slice (some ⟨m.S, 0, none⟩) m.v.ms.length m.v.ms.length, .slice m.I m.v.xs.length m.ic] 59)).drew = W8 at *
        generalize wr.heap.size = vbx at *
        refine wpAnyX_take [0, 1, 15, 17] (i := 0) (oi := _) (v := ?_) rfl (by kernel_rfl) (by kernel_rfl) (by kernel_rfl) (by kernel_rfl) (fun _ _ _ h => h) (Or.inl ⟨by rfl, ?_⟩) (by assumption) ?_
        rotate_left
        · (intro w hSw; (try dsimp only at hSw); go_simp; try (with_reducible rfl))
        (try simp only [Act.put, List.setIfInBounds_toArray, List.set_cons_zero, List.set_cons_succ, List.getElem_toArray, List.getElem_cons_succ, List.getElem_cons_zero])
        refine wpAnyX_take [1, 15, 17] (i := 1) (oi := _) (v := ?_) rfl (by kernel_rfl) (by kernel_rfl) (by kernel_rfl) (by kernel_rfl) (fun _ _ _ h => h) (Or.inl ⟨by rfl, ?_⟩) (by assumption) ?_
        rotate_left
        · (intro w hSw; (try dsimp only at hSw); go_simp; try (with_reducible rfl))
        (try simp only [Act.put, List.setIfInBounds_toArray, List.set_cons_zero, List.set_cons_succ, List.getElem_toArray, List.getElem_cons_succ, List.getElem_cons_zero])
        refine wpAnyX_take [2, 3, 13, 14, 15, 17] (i := 2) (oi := _) (v := ?_) rfl (by kernel_rfl) (by kernel_rfl) (by kernel_rfl) (by kernel_rfl) (fun _ _ _ h => h) (Or.inl ⟨by rfl, ?_⟩) (by assumption) ?_
        rotate_left
        · (intro w hSw; (try dsimp only at hSw); go_simp; try (with_reducible rfl))
        (try simp only [Act.put, List.setIfInBounds_toArray, List.set_cons_zero, List.set_cons_succ, List.getElem_toArray, List.getElem_cons_succ, List.getElem_cons_zero])
        refine wpAnyX_take [3, 13, 14, 15, 17] (i := 3) (oi := _) (v := ?_) rfl (by kernel_rfl) (by kernel_rfl) (by kernel_rfl) (by kernel_rfl) (fun _ _ _ h => h) (Or.inl ⟨by rfl, ?_⟩) (by assumption) ?_
        rotate_left
        · (intro w hSw; (try dsimp only at hSw); go_simp; try (with_reducible rfl))
        (try simp only [Act.put, List.setIfInBounds_toArray, List.set_cons_zero, List.set_cons_succ, List.getElem_toArray, List.getElem_cons_succ, List.getElem_cons_zero])
        refine wpAnyX_take [4, 5, 6, 13, 14, 15, 17] (i := 4) (oi := _) (v := ?_) rfl (by kernel_rfl) (by kernel_rfl) (by kernel_rfl) (by kernel_rfl) (fun _ _ _ h => h) (Or.inl ⟨by rfl, ?_⟩) (by assumption) ?_
        rotate_left
        · (intro w hSw; (try dsimp only at hSw); go_simp; try (with_reducible rfl))
        (try simp only [Act.put, List.setIfInBounds_toArray, List.set_cons_zero, List.set_cons_succ, List.getElem_toArray, List.getElem_cons_succ, List.getElem_cons_zero])
        refine wpAnyX_take [5, 6, 13, 14, 15, 17] (i := 5) (oi := _) (v := ?_) rfl (by kernel_rfl) (by kernel_rfl) (by kernel_rfl) (by kernel_rfl) (fun _ _ _ h => h) (Or.inl ⟨by rfl, ?_⟩) (by assumption) ?_
        rotate_left
        · (intro w hSw; (try dsimp only at hSw); go_simp; try (with_reducible rfl))
        (try simp only [Act.put, List.setIfInBounds_toArray, List.set_cons_zero, List.set_cons_succ, List.getElem_toArray, List.getElem_cons_succ, List.getElem_cons_zero])
        refine wpAnyX_take [7, 8, 9, 13, 14, 15, 17] (i := 7) (oi := _) (v := ?_) rfl (by kernel_rfl) (by kernel_rfl) (by kernel_rfl) (by kernel_rfl) (fun _ _ _ h => h) (Or.inl ⟨by rfl, ?_⟩) (by assumption) ?_
        rotate_left
        · (intro w hSw; (try dsimp only at hSw); go_simp; try (with_reducible rfl))
        (try simp only [Act.put, List.setIfInBounds_toArray, List.set_cons_zero, List.set_cons_succ, List.getElem_toArray, List.getElem_cons_succ, List.getElem_cons_zero])
        refine wpAnyX_take [8, 9, 13, 14, 15, 17] (i := 8) (oi := _) (v := ?_) rfl (by kernel_rfl) (by kernel_rfl) (by kernel_rfl) (by kernel_rfl) (fun _ _ _ h => h) (Or.inl ⟨by rfl, ?_⟩) (by assumption) ?_
        rotate_left
        · (intro w hSw; (try dsimp only at hSw); go_simp; try (with_reducible rfl))
        (try simp only [Act.put, List.setIfInBounds_toArray, List.set_cons_zero, List.set_cons_succ, List.getElem_toArray, List.getElem_cons_succ, List.getElem_cons_zero])
        refine wpAnyX_take [10, 11, 12, 13, 14, 15, 17] (i := 10) (oi := _) (v := ?_) rfl (by kernel_rfl) (by kernel_rfl) (by kernel_rfl) (by kernel_rfl) (fun _ _ _ h => h) (Or.inl ⟨by rfl, ?_⟩) (by assumption) ?_
        rotate_left
        · (intro w hSw; (try dsimp only at hSw); go_simp; try (with_reducible rfl))
        (try simp only [Act.put, List.setIfInBounds_toArray, List.set_cons_zero, List.set_cons_succ, List.getElem_toArray, List.getElem_cons_succ, List.getElem_cons_zero])
        refine wpAnyX_take [11, 12, 13, 14, 15, 17] (i := 11) (oi := _) (v := ?_) rfl (by kernel_rfl) (by kernel_rfl) (by kernel_rfl) (by kernel_rfl) (fun _ _ _ h => h) (Or.inl ⟨by rfl, ?_⟩) (by assumption) ?_
        rotate_left
        · (intro w hSw; (try dsimp only at hSw); go_simp; try (with_reducible rfl))
        (try simp only [Act.put, List.setIfInBounds_toArray, List.set_cons_zero, List.set_cons_succ, List.getElem_toArray, List.getElem_cons_succ, List.getElem_cons_zero])
        refine wpAnyX_ready (i := 6) (o := _) (by kernel_rfl) rfl (fun K hK => ?_)
        go_simp
        have hw8 := HS8.out.bel
        have HVm8 := Lib.hid (HVm.out.new (hw8.mono (Nat.le_refl _)))
        refine (clone_any m.M m.mc base W8.heap.size m.v.ms W8 ⟨HVm8.out.mod, fun k e => (HVm8.out.mod.lt k e).2⟩ hv16).mono ?_
        intro r W9 hp
        unfold CloneP at hp
        obtain ⟨MB, mcb, rfl, hoB, hb9⟩ := hp
        have HO9 := Lib.hid (owns_lower hoB.1 HS8.out.nums.2.2.2.2.2)
        have HS9 := Lib.hid (HS8.out.new hb9)
        have HN9 := Lib.hid ((hb9.block _ (lt_of_some HN8.out)).trans HN8.out)
        have HVm9 := Lib.hid (HVm8.out.new hb9)
        clear hoB hb9 HS8 HN8 HVm8 HVm hw8
        go_wp2_with fail
        refine hK.out _ _ ?_ (fun hHeldN => ?_)
        · exact HCc.out _ HS9.out.box HN9.out
        clear hHeld hK K
        have hHeld := hHeldN
        clear hHeldN
        (try simp only [Act.put, List.setIfInBounds_toArray, List.set_cons_zero, List.set_cons_succ, List.getElem_toArray, List.getElem_cons_succ, List.getElem_cons_zero])
        refine wpAnyX_ready (i := 9) (o := _) (by kernel_rfl) rfl (fun K hK => ?_)
        go_simp
        refine (cloneC_any (some ⟨m.S, 0, none⟩) m.v.ms.length m.v.ms.length ((List.range m.v.ms.length).map fun i => sV (sAt m.v.ss i)) W9 (rowIs_rd2 HVm9.out.sts) (by simp) (sts_one _ _) hv16).mono ?_
        intro r W10 hp
        unfold CloneRP at hp
        obtain ⟨SB, scb, rfl, hoS, hb10⟩ := hp
        have HO10 := Lib.hid (owns_stay HO9.out fun k e => hb10.block k (HO9.out.lt k e).2)
        have HP10 := Lib.hid (owns_lower hoS HS9.out.nums.2.2.2.2.2)
        have HS10 := Lib.hid (HS9.out.new hb10)
        have HN10 := Lib.hid ((hb10.block _ (lt_of_some HN9.out)).trans HN9.out)
        have HVm10 := Lib.hid (HVm9.out.new hb10)
        clear hoS hb10 HS9 HN9 HVm9 HO9
        go_wp2_with fail
        refine hK.out _ _ ?_ (fun hHeldN => ?_)
        · exact HCc.out _ HS10.out.box HN10.out
        clear hHeld hK K
        have hHeld := hHeldN
        clear hHeldN
        (try simp only [Act.put, List.setIfInBounds_toArray, List.set_cons_zero, List.set_cons_succ, List.getElem_toArray, List.getElem_cons_succ, List.getElem_cons_zero])
        refine wpAnyX_ready (i := 12) (o := _) (by kernel_rfl) rfl (fun K hK => ?_)
        go_simp
        refine (cloneF_any m.I m.v.xs.length m.ic (f32s m.v.xs) W10 HVm10.out.inp.rd (by simp) (fs_one _) hv64).mono ?_
        intro r W11 hp
        unfold CloneRP at hp
        obtain ⟨IB, icb, rfl, hoI, hb11⟩ := hp
        obtain ⟨q, hqd⟩ : ∃ q : Vq, q = ⟨m.v, MB, mcb, SB, scb, IB, icb⟩ := ⟨_, rfl⟩
        have HQO : Hid (QOwn W11 lo0 q) := Lib.hid (by
          subst hqd
          exact ⟨owns_stay HO10.out fun k e => hb11.block k (HO10.out.lt k e).2, owns_stay HP10.out fun k e => hb11.block k (HP10.out.lt k e).2, owns_lower hoI HS10.out.nums.2.2.2.2.2⟩)
        have HQv : Hid (q.v = m.v) := Lib.hid (by rw [hqd])
        have HQc : Hid (voQ q = [.int .i64 m.v.body, .slice MB m.v.ms.length mcb, .slice SB m.v.ms.length scb, .slice IB m.v.xs.length icb]) := Lib.hid (by rw [hqd]; rfl)
        have HS11 := Lib.hid (HS10.out.new hb11)
        have HN11 := Lib.hid ((hb11.block _ (lt_of_some HN10.out)).trans HN10.out)
        clear hoI hb11 HS10 HN10 HVm10 HO10 HP10 hqd
        go_wp2_with fail
        refine hK.out _ _ ?_ (fun hHeldN => ?_)
        · exact HCc.out _ HS11.out.box HN11.out
        clear hHeld hK K
        have hHeld := hHeldN
        clear hHeldN
        (try simp only [Act.put, List.setIfInBounds_toArray, List.set_cons_zero, List.set_cons_succ, List.getElem_toArray, List.getElem_cons_succ, List.getElem_cons_zero])
        refine wpAnyX_take [13, 14, 15, 17] (i := 13) (oi := _) (v := ?_) rfl (by kernel_rfl) (by kernel_rfl) (by kernel_rfl) (by kernel_rfl) (fun _ _ _ h => h) (Or.inl ⟨by rfl, ?_⟩) (by assumption) ?_
        rotate_left
        · (intro w hSw; (try dsimp only at hSw); go_simp; try (with_reducible rfl))
        (try simp only [Act.put, List.setIfInBounds_toArray, List.set_cons_zero, List.set_cons_succ, List.getElem_toArray, List.getElem_cons_succ, List.getElem_cons_zero])
        refine wpAnyX_ready (i := 14) (o := _) (by kernel_rfl) rfl (fun K hK => ?_)
        go_simp
        have b12 : Below W11.heap.size W11 (W11.alloc (.cells #[.int .i64 m.v.body, .slice MB m.v.ms.length mcb, .slice SB m.v.ms.length scb, .slice IB m.v.xs.length icb] 59)) := (Below.refl W11.heap.size W11).alloc (Nat.le_refl _) _
        have HS12 := Lib.hid (HS11.out.new b12)
        have HN12 := Lib.hid ((b12.block _ (lt_of_some HN11.out)).trans HN11.out)
        have HQO12 := Lib.hid (HQO.out.new b12)
        have NN12 := Lib.hid (heap_alloc_new W11 (.cells #[.int .i64 m.v.body, .slice MB m.v.ms.length mcb, .slice SB m.v.ms.length scb, .slice IB m.v.xs.length icb] 59))
        clear b12 HS11 HN11 HQO
        refine hK.out _ _ ?_ (fun hHeldN => ?_)
        · exact HCc.out _ HS12.out.box HN12.out
        clear hHeld hK K
        have hHeld := hHeldN
        clear hHeldN
        (try simp only [Act.put, List.setIfInBounds_toArray, List.set_cons_zero, List.set_cons_succ, List.getElem_toArray, List.getElem_cons_succ, List.getElem_cons_zero])
        generalize W11.alloc (.cells #[.int .i64 m.v.body, .slice MB m.v.ms.length mcb, .slice SB m.v.ms.length scb, .slice IB m.v.xs.length icb] 59) = W12 at *
        have hz12 : lo0 ≤ W12.heap.size := HS12.out.nums.2.2.2.2.2
        obtain ⟨i0, hi0, hz0, hz1, hz2⟩ := info_parts voice_info
        refine wpAnyX_ready (i := 15) (o := _) (by kernel_rfl) rfl (fun K hK => ?_)
        refine step_append_lies _ (by rfl) (.tmp 33) (.tmp 46) 29 (by rfl) lo0 59 i0 _ 4 80 Tryz.underlying29 hi0 hz0 hz1 hz2 rfl (by omega) (.slice VB qs.length vb) qs.length (flatQ qs) (by rfl) HS12.out.vr ⟨W11.heap.size, 0, none⟩ 1 1 [.int .i64 m.v.body, .slice MB m.v.ms.length mcb, .slice SB m.v.ms.length scb, .slice IB m.v.xs.length icb] (by rfl) (by rfl) (World.news_of_block (t := 59) (fr := (0, 0)) NN12.out) (by rw [← HQc.out]; exact voQ_one q) (by omega) (by simp only [maxLen]; omega) (by omega) hz12 _ rfl ?_
        intro gg cap W13 hown13 hgrow13 hat13 hlt13
        rw [← HQc.out] at hown13
        have HP13 : Hid (W13.heap[X]? = some (.cells (smC (s1, s2, s3, s4) B' cb' bs' E' ce' evs.length now done (.slice VB qs.length vb) env) 31 (0, 0))) := Lib.hid ((hgrow13.block X (lt_of_some HS12.out.box) (fun e => by have := (HS12.out.vr.lt X e.symm).1; have := HS12.out.nums.2.2.2.1; omega)).trans HS12.out.box)
        have HN13 : Hid (W13.heap[vbx]? = some (.cells #[.int .i64 m.v.body, .slice m.M m.v.ms.length m.mc, .slice (some ⟨m.S, 0, none⟩) m.v.ms.length m.v.ms.length, .slice m.I m.v.xs.length m.ic] 59 (0, 0))) := Lib.hid ((hgrow13.block vbx (lt_of_some HN12.out) (fun e => by have := HVB.out vbx e.symm; omega)).trans HN12.out)
        have HS13 := Lib.hid (HS12.out.app hgrow13 hown13 HQO12.out)
        have f8 := free_cells HP13.out 8
        clear hown13 hgrow13 hat13 hlt13 HS12 HN12 HQO12 NN12
        refine hK.out _ _ ?_ (fun hHeldN => ?_)
        · exact HCc.out _ HP13.out HN13.out
        clear hHeld hK K
        have hHeld := hHeldN
        clear hHeldN
        (try simp only [Act.put, List.setIfInBounds_toArray, List.set_cons_zero, List.set_cons_succ, List.getElem_toArray, List.getElem_cons_succ, List.getElem_cons_zero])
        refine wpAnyX_take [16, 17] (i := 16) (oi := _) (v := ?_) rfl (by kernel_rfl) (by kernel_rfl) (by kernel_rfl) (by kernel_rfl) (fun _ _ _ h => h) (Or.inl ⟨by rfl, ?_⟩) (by assumption) ?_
        rotate_left
        · (intro w hSw; (try dsimp only at hSw); go_simp; try (with_reducible rfl))
        (try simp only [Act.put, List.setIfInBounds_toArray, List.set_cons_zero, List.set_cons_succ, List.getElem_toArray, List.getElem_cons_succ, List.getElem_cons_zero])
        refine wpAnyX_last (o := _) (by kernel_rfl) rfl (fun K hK => ?_)
        go_simp
        refine hK.out _ _ ?_
        clear hK K
        (try simp only [Act.put, List.setIfInBounds_toArray, List.set_cons_zero, List.set_cons_succ, List.getElem_toArray, List.getElem_cons_succ, List.getElem_cons_zero])
        refine wpAnyX_done (by kernel_rfl) ?_ _
        have HQ2 : Hid ((qs ++ [q]).map Vq.v = (ms.take (k + 1)).map Vm.v) := Lib.hid (by rw [← HQ1.out, ← HQv.out, List.map_append]; rfl)
        clear f8 HP13 HN13 hHeld
        generalize W13.setCell ⟨X, 8, none⟩ (.slice (some ⟨gg, 0, none⟩) (qs.length + 1) cap) = W14 at *
        go_wp2_with fail
        go_roundw
        case rel => exact ⟨k + 1, _, qs ++ [q], by go_num, by omega, HS13, HQ2⟩
        case measure => simp [intOf]; omega
      · obtain rfl : k = ms.length := by omega
        obtain ⟨VB, vb, hvf⟩ := owns_form HS.out.vr
        subst hvf
        obtain ⟨d0, d1, d2, d3, d4, d5, d6, d7, d8, d9⟩ := st_cells HS.out.box
        obtain ⟨f0, f1, f2, f3, f4, f5, f6, f7, f8, f9⟩ := st_free HS.out.res
        obtain ⟨a0, a1, a2, a3, a4, a5, a6, a7, a8, a9⟩ := st_cells HS.out.res
        go_wp2_with fail
        have e : ((((((((((wr.setCell ⟨w.heap.size, 0, none⟩ (.int .i64 s1)).setCell ⟨w.heap.size, 1, none⟩ (.int .i64 s2)).setCell ⟨w.heap.size, 2, none⟩ (.float .f32 s3)).setCell ⟨w.heap.size, 3, none⟩ (.float .f32 s4)).setCell ⟨w.heap.size, 4, none⟩ (.slice B' bs'.length cb')).setCell ⟨w.heap.size, 5, none⟩ (.slice E' evs.length ce')).setCell ⟨w.heap.size, 6, none⟩ (.int .i64 now)).setCell ⟨w.heap.size, 7, none⟩ (.int .i64 done)).setCell ⟨w.heap.size, 8, none⟩ (.slice VB qs.length vb)).setCell ⟨w.heap.size, 9, none⟩ (.float .f32 env)) = put10 wr w.heap.size (.int .i64 s1) (.int .i64 s2) (.float .f32 s3) (.float .f32 s4) (.slice B' bs'.length cb') (.slice E' evs.length ce') (.int .i64 now) (.int .i64 done) (.slice VB qs.length vb) (.float .f32 env) := rfl
        have HR := put10_new (.int .i64 s1) (.int .i64 s2) (.float .f32 s3) (.float .f32 s4) (.slice B' bs'.length cb') (.slice E' evs.length ce') (.int .i64 now) (.int .i64 done) (.slice VB qs.length vb) (.float .f32 env) HS.out.res
        obtain ⟨n1, n2, n3, n4, n5, n6⟩ := HS.out.nums
        have hk4 : ∀ j, j ≠ w.heap.size → ((((((((((wr.setCell ⟨w.heap.size, 0, none⟩ (.int .i64 s1)).setCell ⟨w.heap.size, 1, none⟩ (.int .i64 s2)).setCell ⟨w.heap.size, 2, none⟩ (.float .f32 s3)).setCell ⟨w.heap.size, 3, none⟩ (.float .f32 s4)).setCell ⟨w.heap.size, 4, none⟩ (.slice B' bs'.length cb')).setCell ⟨w.heap.size, 5, none⟩ (.slice E' evs.length ce')).setCell ⟨w.heap.size, 6, none⟩ (.int .i64 now)).setCell ⟨w.heap.size, 7, none⟩ (.int .i64 done)).setCell ⟨w.heap.size, 8, none⟩ (.slice VB qs.length vb)).setCell ⟨w.heap.size, 9, none⟩ (.float .f32 env)).heap[j]? = wr.heap[j]? := fun j hj => by rw [e]; exact put10_else _ _ _ _ _ _ _ _ _ _ hj
        have hz4 : ((((((((((wr.setCell ⟨w.heap.size, 0, none⟩ (.int .i64 s1)).setCell ⟨w.heap.size, 1, none⟩ (.int .i64 s2)).setCell ⟨w.heap.size, 2, none⟩ (.float .f32 s3)).setCell ⟨w.heap.size, 3, none⟩ (.float .f32 s4)).setCell ⟨w.heap.size, 4, none⟩ (.slice B' bs'.length cb')).setCell ⟨w.heap.size, 5, none⟩ (.slice E' evs.length ce')).setCell ⟨w.heap.size, 6, none⟩ (.int .i64 now)).setCell ⟨w.heap.size, 7, none⟩ (.int .i64 done)).setCell ⟨w.heap.size, 8, none⟩ (.slice VB qs.length vb)).setCell ⟨w.heap.size, 9, none⟩ (.float .f32 env)).heap.size = wr.heap.size := by rw [e]; exact put10_size _ _ _ _ _ _ _ _ _ _
        have hb4 : Below w.heap.size w ((((((((((wr.setCell ⟨w.heap.size, 0, none⟩ (.int .i64 s1)).setCell ⟨w.heap.size, 1, none⟩ (.int .i64 s2)).setCell ⟨w.heap.size, 2, none⟩ (.float .f32 s3)).setCell ⟨w.heap.size, 3, none⟩ (.float .f32 s4)).setCell ⟨w.heap.size, 4, none⟩ (.slice B' bs'.length cb')).setCell ⟨w.heap.size, 5, none⟩ (.slice E' evs.length ce')).setCell ⟨w.heap.size, 6, none⟩ (.int .i64 now)).setCell ⟨w.heap.size, 7, none⟩ (.int .i64 done)).setCell ⟨w.heap.size, 8, none⟩ (.slice VB qs.length vb)).setCell ⟨w.heap.size, 9, none⟩ (.float .f32 env)) := by rw [e]; exact put10_below _ _ _ _ _ _ _ _ _ _ HS.out.bel (Nat.le_refl _)
        have hg4 : wr.grownBy ((((((((((wr.setCell ⟨w.heap.size, 0, none⟩ (.int .i64 s1)).setCell ⟨w.heap.size, 1, none⟩ (.int .i64 s2)).setCell ⟨w.heap.size, 2, none⟩ (.float .f32 s3)).setCell ⟨w.heap.size, 3, none⟩ (.float .f32 s4)).setCell ⟨w.heap.size, 4, none⟩ (.slice B' bs'.length cb')).setCell ⟨w.heap.size, 5, none⟩ (.slice E' evs.length ce')).setCell ⟨w.heap.size, 6, none⟩ (.int .i64 now)).setCell ⟨w.heap.size, 7, none⟩ (.int .i64 done)).setCell ⟨w.heap.size, 8, none⟩ (.slice VB qs.length vb)).setCell ⟨w.heap.size, 9, none⟩ (.float .f32 env)) (some w.heap.size) := grown_trans (grown_trans (grown_trans (grown_trans (grown_trans (grown_trans (grown_trans (grown_trans (grown_trans (grown_set _ _) (grown_set _ _)) (grown_set _ _)) (grown_set _ _)) (grown_set _ _)) (grown_set _ _)) (grown_set _ _)) (grown_set _ _)) (grown_set _ _)) (grown_set _ _)
        rw [← e] at HR
        generalize (((((((((wr.setCell ⟨w.heap.size, 0, none⟩ (.int .i64 s1)).setCell ⟨w.heap.size, 1, none⟩ (.int .i64 s2)).setCell ⟨w.heap.size, 2, none⟩ (.float .f32 s3)).setCell ⟨w.heap.size, 3, none⟩ (.float .f32 s4)).setCell ⟨w.heap.size, 4, none⟩ (.slice B' bs'.length cb')).setCell ⟨w.heap.size, 5, none⟩ (.slice E' evs.length ce')).setCell ⟨w.heap.size, 6, none⟩ (.int .i64 now)).setCell ⟨w.heap.size, 7, none⟩ (.int .i64 done)).setCell ⟨w.heap.size, 8, none⟩ (.slice VB qs.length vb)).setCell ⟨w.heap.size, 9, none⟩ (.float .f32 env) = W4 at *
        refine bodyPost_ret (results_cell_row rfl _ _ w.heap.size 31 #[.int .i64 s1, .int .i64 s2, .float .f32 s3, .float .f32 s4, .slice B' bs'.length cb', .slice E' evs.length ce', .int .i64 now, .int .i64 done, .slice VB qs.length vb, .float .f32 env] (0, 0) _ rfl HR Tryz.underlying31 rfl (by kernel_rfl)) rfl ?_
        refine ⟨B', cb', bs', E', ce', VB, vb, qs, rfl, ?_, HM3.out, ⟨?_, fun q hq => ?_⟩, by rw [HQ.out, List.take_length], hb4⟩
        · exact (HS.out.sc.keep (fun j h1 h2 => hk4 j (by omega)) (by rw [hz4]; exact HS.out.sc.hh)).low (Nat.le_of_lt n2) (by rw [hz4]; exact HS.out.sc.hh) (Nat.le_refl _)
        · exact owns_lower (owns_stay HS.out.vr fun j ej => hk4 j (by have := (HS.out.vr.lt j ej).1; omega)) (by omega)
        · exact ((HS.out.qo q hq).grown hg4 fun j ej => by
            injection ej with ej
            subst ej
            exact ⟨_, _, _, HS.out.res, by decide, by decide, by decide⟩).lower (by omega)
end Go.Proofs.YtndnfhhdflmfcaaGreat

/-
impl.ShiftScore, impl.CountEvents.
-/
namespace Go.Proofs.YtndnfhhdflmfcaaGreat
open Go Go.RowKit Ieee

/-- An event that happens later. -/
def shE (d : Nat) (e : Ev) : Ev := (e.1 + d, e.2)
/-- The first k events are shifted. -/
def shL (d k : Nat) (L : List Ev) : List Ev := (L.take k).map (shE d) ++ L.drop k
theorem shL_len (d k : Nat) (L : List Ev) : (shL d k L).length = L.length := by simp [shL]; omega
theorem shL_zero (d : Nat) (L : List Ev) : shL d 0 L = L := by simp [shL]
theorem shL_all (d : Nat) (L : List Ev) : shL d L.length L = L.map (shE d) := by simp [shL]
theorem shL_at {d k : Nat} {L : List Ev} (h : k < L.length) : eAt (shL d k L) k = eAt L k := by
  simp [shL, eAt, List.getD, List.getElem?_append, Nat.min_eq_left (Nat.le_of_lt h), h]
theorem shL_set {d k : Nat} {L : List Ev} (h : k < L.length) : (shL d k L).set k (shE d (eAt L k)) = shL d (k + 1) L := by
  have e : eAt L k = L[k] := by simp [eAt, List.getD, List.getElem?_eq_getElem h]
  have hd : L.drop k = L[k] :: L.drop (k + 1) := List.drop_eq_getElem_cons h
  have ht : L.take (k + 1) = L.take k ++ [L[k]] := List.take_succ_eq_append_getElem h
  have hl : ((L.take k).map (shE d)).length = k := by simp; omega
  unfold shL
  rw [e, hd, ht, List.set_append_right _ _ (by omega), hl, Nat.sub_self, List.set_cons_zero, List.map_append, List.append_assoc]
  rfl
theorem flatE_set0 {L : List Ev} {i d : Nat} (h : i < L.length) : flatE (L.set i (shE d (eAt L i))) = (flatE L).set (i * 6) (.int .i64 ((eAt L i).1 + d)) := by
  induction L generalizing i with
  | nil => simp at h
  | cons m L ih =>
    cases i with
    | zero => rfl
    | succ i =>
      have h2 := ih (i := i) (by simpa using h)
      have e1 : (i + 1) * 6 = i * 6 + 6 := by omega
      rw [e1]
      have e2 : eAt (m :: L) (i + 1) = eAt L i := rfl
      rw [e2]
      show evV m ++ flatE (L.set i _) = (evV m ++ flatE L).set (i * 6 + 6) _
      rw [h2, List.set_append_right _ _ (by simp [evV])]
      simp [evV]
theorem BodsOwn.keepT {w w' : World} {lo hi : Nat} {v : Value} {bs : List Bd} (h : BodsOwn w lo hi v bs) (hk : ∀ (j : Nat) (cs : Array Value) (t : TypeId) (f : Nat × Nat), w.heap[j]? = some (.cells cs t f) → t ≠ 71 → w'.heap[j]? = w.heap[j]?) : BodsOwn w' lo hi v bs :=
  ⟨owns_stay h.own fun k e => by
    obtain ⟨cs, hc⟩ := owns_ty h.own e
    exact hk _ _ _ _ hc (by decide), h.vlt, fun i hi' => ⟨owns_stay (h.row i hi').1 fun k e => by
    obtain ⟨cs, hc⟩ := owns_ty (h.row i hi').1 e
    exact hk _ _ _ _ hc (by decide), (h.row i hi').2⟩⟩
theorem OwnE.put0 {W : World} {lo hi g c i d : Nat} {L : List Ev} (h : OwnE W lo hi (some ⟨g, 0, none⟩) c L) (hi' : i < L.length) : OwnE (W.setCell ⟨g, i * 6, none⟩ (.int .i64 ((eAt L i).1 + d))) lo hi (some ⟨g, 0, none⟩) c (L.set i (shE d (eAt L i))) := by
  have hl : (L.set i (shE d (eAt L i))).length = L.length := by simp
  unfold OwnE
  rw [hl, flatE_set0 hi']
  exact ⟨owns_put h.1 (by omega) _, h.2⟩
/-- An event of a score is stored. -/
theorem ScIn.put0 {W : World} {lo hi g c i d cb : Nat} {B : Option Addr} {bs : List Bd} {L : List Ev} (h : ScIn W lo hi B cb bs (some ⟨g, 0, none⟩) c L) (hi' : i < L.length) : ScIn (W.setCell ⟨g, i * 6, none⟩ (.int .i64 ((eAt L i).1 + d))) lo hi B cb bs (some ⟨g, 0, none⟩) c (L.set i (shE d (eAt L i))) := by
  obtain ⟨cs, hc⟩ := owns_ty h.evs.1 (k := g) rfl
  refine ⟨h.bods.keepT fun j cs' t f hj ht => Below.heap_setCell _ _ _ _ (ty_ne hj hc ht), h.evs.put0 hi', by simpa using h.hh⟩
/-- Where the walk of ShiftScore is. -/
structure ShIn (w wr : World) (G : Nat) (s : Sh) (d k : Nat) (B : Option Addr) (cb : Nat) (bs : List Bd) (E : Option Addr) (ce : Nat) (evs : List Ev) : Prop where
  bel : Below w.heap.size w wr
  box : wr.heap[G]? = some (.cells #[.int .i64 (s.1 + d), .int .i64 s.2.1, .float .f32 s.2.2.1, .float .f32 s.2.2.2, .slice B bs.length cb, .slice E evs.length ce] 27 (0, 0))
  res : wr.heap[w.heap.size + 1]? = some (.cells #[.int .i64 0, .int .i64 0, .float .f32 0, .float .f32 0, .slice none 0 0, .slice none 0 0] 27 (0, 0))
  sc : ScIn wr (w.heap.size + 2) G B cb bs E ce (shL d k evs)
/-- What ShiftScore returns. -/
def ShiftP (s : Sh) (d : Nat) (bs : List Bd) (evs : List Ev) (w : World) (r : Ending) (w' : World) : Prop :=
  ∃ (B' : Option Addr) (cb' : Nat) (bs' : List Bd) (E' : Option Addr) (ce' : Nat), r = .returned (.tuple #[scV (s.1 + d, s.2) B' cb' bs' E' ce' (evs.map (shE d)), .bool true]) ∧ ScIn w' w.heap.size w'.heap.size B' cb' bs' E' ce' (evs.map (shE d)) ∧ modesB bs' = modesB bs ∧ Below w.heap.size w w'
theorem EvOk.shift {L nb : Int} {e : Ev} {d : Nat} (h : EvOk L nb e) : EvOk (L + d) nb (shE d e) := ⟨by have := h.a0; show 0 ≤ e.1 + d; omega, by have := h.a1; show e.1 + d ≤ L + d; omega, h.b0, h.b1, h.f, h.w, h.big, h.kind⟩
theorem ScAsk.shift {s : Sh} {bs bs' : List Bd} {evs : List Ev} {d : Nat} (h : ScAsk s bs evs) (hd : s.1 + d ≤ 2000) (hb : modesB bs' = modesB bs) : ScAsk (s.1 + d, s.2) bs' (evs.map (shE d)) := by
  refine ⟨⟨by have := h.sh.l0; show 0 ≤ s.1 + d; omega, hd, h.sh.v0, h.sh.v1, h.sh.lim, h.sh.cw, h.sh.rw⟩, h.bods.modes hb, by simpa using h.evs.1, fun e he => ?_⟩
  obtain ⟨u, hu, rfl⟩ := List.mem_map.1 he
  rw [modesB_len hb]
  exact (h.evs.2 u hu).shift
end Go.Proofs.YtndnfhhdflmfcaaGreat

/-
A score that is shifted: plain.
-/
namespace Go.Proofs.YtndnfhhdflmfcaaGreat
open Go Go.RowKit Ieee

theorem bmOf_modes {bs bs' : List Bd} (h : modesB bs' = modesB bs) : bmOf bs' = bmOf bs := by
  funext i
  unfold bmOf
  have key : ∀ n, (bodAt bs' n).2.2 = (bodAt bs n).2.2 := fun n => by
    have e : ∀ l : List Bd, (bodAt l n).2.2 = (modesB l).getD n [] := fun l => by
      simp only [bodAt, modesB, List.getD, List.getElem?_map]
      cases l[n]? <;> rfl
    rw [e, e, h]
  exact key _
theorem eAt_sh {d i : Nat} {L : List Ev} (h : i < L.length) : eAt (L.map (shE d)) i = shE d (eAt L i) := by
  simp [eAt, List.getD, h]
theorem swapE_sh {d j : Nat} {L : List Ev} (hj : j < L.length) (h0 : 0 < j) : swapE (L.map (shE d)) j = (swapE L j).map (shE d) := by
  unfold swapE
  rw [eAt_sh hj, eAt_sh (by omega)]
  simp
theorem sink_sh {d j : Nat} {L : List Ev} (hj : j < L.length) : sink (L.map (shE d)) j = (sink L j).map (shE d) := by
  induction j generalizing L with
  | zero => rfl
  | succ j ih =>
    unfold sink
    rw [eAt_sh hj, eAt_sh (by omega)]
    have e : ((shE d (eAt L (j + 1))).1 < (shE d (eAt L j)).1) = ((eAt L (j + 1)).1 < (eAt L j).1) := by
      simp only [shE, eq_iff_iff]; omega
    simp only [e]
    split
    · rw [swapE_sh hj (by omega), ih (by rw [swapE_len]; omega)]
    · rfl
theorem isortE_sh {d i k : Nat} {L : List Ev} (h : i + k ≤ L.length) : isortE (L.map (shE d)) i k = (isortE L i k).map (shE d) := by
  induction k generalizing i L with
  | zero => rfl
  | succ k ih =>
    unfold isortE
    rw [sink_sh (by omega), ih (by rw [sink_len]; omega)]
theorem sortedE_sh (d : Nat) (L : List Ev) : sortedE (L.map (shE d)) = (sortedE L).map (shE d) := by
  rcases Nat.eq_zero_or_pos L.length with h | h
  · have : L = [] := List.eq_nil_of_length_eq_zero h
    subst this; rfl
  · unfold sortedE
    rw [List.length_map, isortE_sh (by omega)]
theorem happen_sh (bm : Int → List MW) (most : Int) (p : Pl) (e : Ev) (d : Nat) : p.happen bm most (shE d e) = p.happen bm most e := rfl
theorem arriveP_sh {bm : Int → List MW} {most : Int} {d n : Nat} {L : List Ev} {p : Pl} : arriveP bm most ((d + n : Nat) : Int) (L.map (shE d)) p = arriveP bm most (n : Int) L p := by
  induction L generalizing p with
  | nil => rfl
  | cons e L ih =>
    show arriveP bm most _ (shE d e :: L.map (shE d)) p = _
    unfold arriveP
    have hc : ((shE d e).1 = ((d + n : Nat) : Int)) = (e.1 = (n : Int)) := by simp only [shE, eq_iff_iff]; omega
    rw [happen_sh]
    simp only [hc, ih]
/-- Nothing happens yet. -/
theorem arriveP_early {bm : Int → List MW} {most : Int} {d n : Nat} {L : List Ev} {p : Pl} (h0 : ∀ e ∈ L, 0 ≤ e.1) (hn : n < d) : arriveP bm most (n : Int) (L.map (shE d)) p = (0, p) := by
  cases L with
  | nil => rfl
  | cons e L =>
    show arriveP bm most _ (shE d e :: L.map (shE d)) p = _
    unfold arriveP
    rw [if_neg]
    have := h0 e (by simp)
    show ¬ e.1 + (d : Int) = (n : Int)
    omega
theorem plAt_early {bm : Int → List MW} {most : Int} {d n : Nat} {L : List Ev} (h0 : ∀ e ∈ L, 0 ≤ e.1) (hn : n ≤ d) : plAt bm most (L.map (shE d)) n = (0, ⟨[], 0⟩) := by
  induction n with
  | zero => rfl
  | succ n ih =>
    show nextP bm most _ n (plAt bm most (L.map (shE d)) n) = _
    rw [ih (by omega)]
    unfold nextP
    simp only [List.drop_zero, arriveP_early h0 (show n < d by omega)]
    rfl
theorem plAt_sh {bm : Int → List MW} {most : Int} {d n : Nat} {L : List Ev} (h0 : ∀ e ∈ L, 0 ≤ e.1) : plAt bm most (L.map (shE d)) (d + n) = plAt bm most L n := by
  induction n with
  | zero => exact plAt_early h0 (Nat.le_refl _)
  | succ n ih =>
    show nextP bm most (L.map (shE d)) (d + n) (plAt bm most (L.map (shE d)) (d + n)) = nextP bm most L n (plAt bm most L n)
    rw [ih]
    unfold nextP
    simp only [← List.map_drop, arriveP_sh]
theorem sumP_early {bm : Int → List MW} {most : Int} {d n : Nat} {L : List Ev} (h0 : ∀ e ∈ L, 0 ≤ e.1) (hn : n < d) : sumP bm most (L.map (shE d)) n = 0 := by
  unfold sumP soundP
  rw [plAt_early h0 (by omega)]
  simp only [List.drop_zero, arriveP_early h0 hn]
  rfl
theorem sumP_sh {bm : Int → List MW} {most : Int} {d n : Nat} {L : List Ev} (h0 : ∀ e ∈ L, 0 ≤ e.1) : sumP bm most (L.map (shE d)) (d + n) = sumP bm most L n := by
  unfold sumP soundP
  rw [plAt_sh h0]
  simp only [← List.map_drop, arriveP_sh]
/-- A number that is not less than 0 and has no sign. -/
theorem read_plain {r : Nat} (hf : fin .f32 r) (h : fge .f32 r 0 = true) (hs : signB (wid r) = false) : ∃ m e, FloatKind.f32.format.read r = .number false m e := by
  obtain ⟨s, m, e, hr⟩ := hf
  cases s
  · exact ⟨m, e, hr⟩
  · exfalso
    obtain ⟨z1, z2⟩ := zero_fin .f32
    have h2 := (fge_iff ⟨true, m, e, hr⟩ z1).1 h
    rw [z2] at h2
    have h3 : fv .f32 r = -mval m e := by unfold fv; rw [hr]; rfl
    have h4 := mval_nonneg m e
    have hm : m = 0 := mval_eq_zero (e := e) (by grind)
    subst hm
    have hn : isN .f32 r = false := by unfold isN; rw [hr]; rfl
    have hw : wid r = double.write (single.read r) := by unfold wid cv; rw [widen_some hn]; rfl
    have hr' : single.read r = .number true 0 e := hr
    rw [hw, hr'] at hs
    have : double.write (.number true 0 e) = 9223372036854775808 := by
      show double.nearest true 0 e = _
      unfold Format.nearest
      rw [if_pos rfl]
      decide +kernel
    rw [this] at hs
    revert hs
    decide
/-- The limits of a score keep silence silent. -/
theorem lim_zero {c r : Nat} (h : limOk c r = true) : fo .mul .f32 0 r = 0 ∧ limE 0 0 r = 0 ∧ limS 0 0 c r = 0 := by
  unfold limOk at h
  simp only [Bool.and_eq_true, Bool.not_eq_true'] at h
  obtain ⟨⟨⟨⟨h1, h2⟩, h3⟩, h4⟩, h5⟩ := h
  obtain ⟨m, e, hr⟩ := read_plain (fin_range h3 h4) h3 h5
  have a : fo .mul .f32 0 r = 0 := by
    have h0 := read_zero32
    unfold fo
    have : floatBits .mul .f32 0 r = some 0 := by
      show (FloatKind.f32.format.mul 0 r) = some 0
      unfold Format.mul
      rw [h0, hr]
      show some (FloatKind.f32.format.nearest (false ^^ false) (0 * m) _) = some 0
      rw [Nat.zero_mul]
      unfold Format.nearest
      rw [if_pos rfl]
      decide +kernel
    rw [this]; rfl
  have n0 : nrm .f32 0 = 0 := nrm_of_num (by decide +kernel)
  have b : limE 0 0 r = 0 := by
    unfold limE
    rw [a, Nat.zero_mod, n0]
    rw [if_neg (by decide +kernel)]
  refine ⟨a, b, ?_⟩
  unfold limS
  rw [b, n0, if_neg]
  have hc : fin .f32 c := fin_of_wid ((finB_iff _).1 h1)
  obtain ⟨z1, z2⟩ := zero_fin .f32
  have p := (fgt_iff hc z1).1 h2
  intro q
  have q2 := (fgt_iff z1 hc).1 q
  grind
theorem envP_early {bm : Int → List MW} {most : Int} {d n c r : Nat} {L : List Ev} (h0 : ∀ e ∈ L, 0 ≤ e.1) (hl : limOk c r = true) (hn : n ≤ d) : envP bm most (L.map (shE d)) r n = 0 := by
  induction n with
  | zero => rfl
  | succ n ih =>
    show nrm .f32 (limE (envP bm most _ r n) (sumP bm most _ n) r) = 0
    rw [ih (by omega), sumP_early h0 (by omega), (lim_zero hl).2.1]
    exact (nrm_of_num (by decide +kernel) : nrm .f32 0 = 0)
theorem envP_sh {bm : Int → List MW} {most : Int} {d n c r : Nat} {L : List Ev} (h0 : ∀ e ∈ L, 0 ≤ e.1) (hl : limOk c r = true) : envP bm most (L.map (shE d)) r (d + n) = envP bm most L r n := by
  induction n with
  | zero => exact envP_early h0 hl (Nat.le_refl _)
  | succ n ih =>
    show nrm .f32 (limE (envP bm most (L.map (shE d)) r (d + n)) (sumP bm most (L.map (shE d)) (d + n)) r) = nrm .f32 (limE (envP bm most L r n) (sumP bm most L n) r)
    rw [ih, sumP_sh h0]
theorem smpP_early {bm : Int → List MW} {most : Int} {d n c r : Nat} {L : List Ev} (h0 : ∀ e ∈ L, 0 ≤ e.1) (hl : limOk c r = true) (hn : n < d) : smpP bm most (L.map (shE d)) c r n = 0 := by
  unfold smpP
  rw [envP_early h0 hl (by omega), sumP_early h0 hn, (lim_zero hl).2.2]
theorem smpP_sh {bm : Int → List MW} {most : Int} {d n c r : Nat} {L : List Ev} (h0 : ∀ e ∈ L, 0 ≤ e.1) (hl : limOk c r = true) : smpP bm most (L.map (shE d)) c r (d + n) = smpP bm most L c r n := by
  unfold smpP
  rw [envP_sh h0 hl, sumP_sh h0]
/-- The states of a score that is shifted. -/
theorem AtAll.shift {s : Sh} {bs bs' : List Bd} {evs : List Ev} {n d : Nat} (h : AtAll n s bs evs) (hs : ScPlay s bs evs) (hm : modesB bs' = modesB bs) (hbm : bmOf bs' = bmOf bs) : AtAll (d + n) (s.1 + d, s.2) bs' (evs.map (shE d)) := fun k hk => by
  have h0 : ∀ e ∈ sortedE evs, 0 ≤ e.1 := fun e he => (hs.evs.2 e (sortedE_mem he)).a0
  rw [hbm, sortedE_sh]
  show ∃ t, t ≤ 61 ∧ AtOk t s.2.1 _ (plAt _ s.2.1 _ k)
  rcases Nat.lt_or_ge k d with h1 | h1
  · rw [plAt_early h0 (by omega)]
    have := hs.sh.v0
    exact ⟨0, by omega, ⟨⟨fun v hv => by simp at hv, by simp; omega, by simp⟩, by simp, by simp⟩⟩
  · obtain ⟨j, rfl⟩ : ∃ j, k = d + j := ⟨k - d, by omega⟩
    rw [plAt_sh h0]
    obtain ⟨t, ht, ha⟩ := h j (by omega)
    exact ⟨t, ht, ⟨ha.ok, by have := ha.d; simpa using this, ha.b⟩⟩
theorem ScPlay.shift {s : Sh} {bs bs' : List Bd} {evs : List Ev} {d : Nat} (h : ScPlay s bs evs) (hd : s.1 + d ≤ 2000) (hb : modesB bs' = modesB bs) : ScPlay (s.1 + d, s.2) bs' (evs.map (shE d)) := by
  refine ⟨⟨by have := h.sh.l0; show 0 ≤ s.1 + d; omega, hd, h.sh.v0, h.sh.v1, h.sh.lim, h.sh.cw, h.sh.rw⟩, h.bods.modes hb, by simpa using h.evs.1, fun e he => ?_⟩
  obtain ⟨u, hu, rfl⟩ := List.mem_map.1 he
  rw [modesB_len hb]
  exact (h.evs.2 u hu).shift
theorem ScOk.play {most : Int} {s : Sh} {bs : List Bd} {evs : List Ev} (h : ScOk most s bs evs) (hm : most ≤ 2000) : ScPlay s bs evs :=
  ⟨⟨h.sh.l0, Int.le_trans h.sh.l1 hm, h.sh.v0, h.sh.v1, h.sh.lim, h.sh.cw, h.sh.rw⟩, h.bods, ⟨by have := h.evs.1; omega, h.evs.2⟩⟩
theorem cntE_sh {evs : List Ev} {d : Nat} {s : Sh} {bs : List Bd} (h : ScPlay s bs evs) (hd : s.1 + d < 3000) : cntE d 3000 (evs.map (shE d)) = evs.length := by
  unfold cntE
  rw [List.filter_eq_self.2, List.length_map]
  intro e he
  obtain ⟨u, hu, rfl⟩ := List.mem_map.1 he
  have h1 := (h.evs.2 u hu).a0
  have h2 := (h.evs.2 u hu).a1
  rw [Bool.and_eq_true, decide_eq_true_eq, decide_eq_true_eq]
  show (d : Int) ≤ u.1 + d ∧ u.1 + d < 3000
  omega
end Go.Proofs.YtndnfhhdflmfcaaGreat

/-
impl.Advance.
-/
namespace Go.Proofs.YtndnfhhdflmfcaaGreat
open Go Go.RowKit Ieee

theorem results_cell_tmp2_row {P : Program} {fn : Func} {p u v : Tmp} {ty : TypeId} (h : fn.results = #[.cell p ty, .tmp u, .tmp v]) (tmps : Array Value) (w : World) (g : Nat) (t : TypeId) (cs : Array Value) (fr : Nat × Nat) (d : TypeDesc)
    (hp : tmps.getD p undef = .pointer (some ⟨g, 0, none⟩)) (hg : w.heap[g]? = some (.cells cs t fr))
    (hu : P.underlying ty = some d) (hd : (match d with | .struct _ | .array _ _ => true | _ => false) = true) (hi : (P.info? ty).map (·.size) = some cs.size) :
    (results fn tmps).run P w = .ok (.tuple #[.agg cs, tmps.getD u undef, tmps.getD v undef]) w := by
  simp only [results, h]
  have hp' : tmps[p]?.getD undef = .pointer (some ⟨g, 0, none⟩) := by simpa using hp
  simp [Sem.run_bind, Result.andThen, hp', asAddr, run_loadVar_row w g t ty cs fr d hg hu hd hi]
theorem rd_dropN {w : World} {b off k : Nat} {xs : List Nat} (h : Rd w (some ⟨b, off, none⟩) (f32s xs)) : Rd w (some ⟨b, off + k, none⟩) (f32s (xs.drop k)) := fun hl => by
  have hl' : 0 < (f32s xs).length := by
    simp only [f32s, List.length_map, List.length_drop] at hl ⊢; omega
  obtain ⟨b', off', e, hb, hc⟩ := h hl'
  injection e with e
  injection e with e1 e2
  subst e1 e2
  refine ⟨b, off + k, rfl, hb, fun j u hu => ?_⟩
  simp only [f32s] at hu
  rw [List.map_drop, List.getElem?_drop] at hu
  have := hc (k + j) u hu
  rw [show off + k + j = off + (k + j) by omega]
  exact this
theorem getD_dropN (xs : List Nat) (k i : Nat) : (xs.drop k).getD i 0 = xs.getD (k + i) 0 := by
  simp only [List.getD, List.getElem?_drop]
/-- The rest of a row of the call's own. -/
theorem rd_rest {w : World} {lo n c k : Nat} {A : Option Addr} {ys : List Nat} (h : w.ownsRow lo 23 1 (.slice A n c) n (f32s ys)) (hk : k ≤ n) : Rd w (if c = k then A else Option.map (fun x => x.add k) A) (f32s (ys.drop k)) := by
  have hyl : ys.length = n := by simpa [f32s] using h.1
  rcases h.2 with ⟨h1, h2⟩ | ⟨g, cap, cur, e1, e2, e3, e4, _⟩
  · intro hl
    simp [f32s] at hl; omega
  · injection e1 with q1 _ q2
    subst q1 q2
    by_cases hkd : c = k
    · intro hl
      simp [f32s] at hl; omega
    · rw [if_neg hkd]
      obtain ⟨A', c', hv, _, hr⟩ := own_rd h
      injection hv with q1 _ _
      rw [← q1] at hr
      have h3 := rd_dropN (k := k) hr
      have e : Option.map (fun x => x.add k) (some (⟨g, 0, none⟩ : Addr)) = some ⟨g, 0 + k, none⟩ := by
        simp only [Option.map_some, Addr.add]
        split <;> simp_all
      rw [e]; exact h3
theorem BodsOk.mono {bs : List Bd} {a b c d : Nat} (h : BodsOk bs a b) (h1 : a ≤ c) (h2 : b ≤ d) : BodsOk bs c d := ⟨by have := h.1; omega, fun i hi => ⟨(h.2 i hi).1, by have := (h.2 i hi).2; omega⟩⟩
/-- What Advance returns. -/
def AdvP (w : World) (s : Sh) (bs : List Bd) (evs : List Ev) (now n : Nat) (r : Ending) (w' : World) : Prop :=
  ∃ (B' : Option Addr) (cb' : Nat) (bs' : List Bd) (E' : Option Addr) (ce' : Nat) (V : Option Addr) (vc : Nat) (qs : List Vq) (done env : Nat) (A : Option Addr) (ca : Nat) (ys : List Nat), r = .returned (.tuple #[.agg #[.int .i64 s.1, .int .i64 s.2.1, .float .f32 s.2.2.1, .float .f32 s.2.2.2, .slice B' bs'.length cb', .slice E' evs.length ce', .int .i64 (now + n : Nat), .int .i64 done, .slice V qs.length vc, .float .f32 env], .slice A n ca, .bool true]) ∧
    ScIn w' w.heap.size w'.heap.size B' cb' bs' E' ce' evs ∧ modesB bs' = modesB bs ∧ QsIn w' w.heap.size w'.heap.size V qs ∧ StmOk s bs' evs (now + n) done qs env ∧ Rd w' A (f32s ys) ∧ (ys.length = n ∧ ∀ i, i < n → nrm .f32 (ys.getD i 0) = smpP (bmOf bs) s.2.1 (sortedE evs) s.2.2.1 s.2.2.2 (now + i) ∧ wfk .f32 (ys.getD i 0)) ∧ Below w.heap.size w w'
set_option maxRecDepth 100000 in
set_option maxHeartbeats 6400000 in
theorem advance_any (s : Sh) (B : Option Addr) (cb : Nat) (bs : List Bd) (E : Option Addr) (ce lo hi : Nat) (evs : List Ev) (now done : Nat) (V : Option Addr) (nv vc env n : Nat) (qs : List Vq) (w : World) (h : ScIn w lo hi B cb bs E ce evs) (hq : QsIn w lo hi V qs) (hn : qs.length = nv) (hok : StmOk s bs evs now done qs env) (hat : AtAll (now + n) s bs evs) (hnn : ((now + n : Nat) : Int) ≤ s.1) :
    Calls Tryz.prog 7 #[.agg #[.int .i64 s.1, .int .i64 s.2.1, .float .f32 s.2.2.1, .float .f32 s.2.2.2, .slice B bs.length cb, .slice E evs.length ce, .int .i64 now, .int .i64 done, .slice V nv vc, .float .f32 env], .int .i64 n] w (AdvP w s bs evs now n) := by
  have HOK := Lib.hid hok
  have HAT := Lib.hid hat
  have HNq := Lib.hid hn
  have hL : s.1 ≤ 2000 := hok.sc.sh.l1
  have hnow : (now : Int) ≤ s.1 := hok.len
  have HNN := Lib.hid hnn
  have HB : Hid (Below w.heap.size w ((w.alloc (.cells (stC s B cb bs E ce evs.length now done V nv vc env) 31)).alloc (.cells #[.int .i64 0, .int .i64 0, .float .f32 0, .float .f32 0, .slice none 0 0, .slice none 0 0, .int .i64 0, .int .i64 0, .slice none 0 0, .float .f32 0] 31))) := ((Below.refl w.heap.size w).alloc (Nat.le_refl _) _).alloc (by simp) _
  have HN : Hid (((w.alloc (.cells (stC s B cb bs E ce evs.length now done V nv vc env) 31)).alloc (.cells #[.int .i64 0, .int .i64 0, .float .f32 0, .float .f32 0, .slice none 0 0, .slice none 0 0, .int .i64 0, .int .i64 0, .slice none 0 0, .float .f32 0] 31)).heap[w.heap.size]? = some (.cells (stC s B cb bs E ce evs.length now done V nv vc env) 31 (0, 0))) := Lib.hid ((Below.heap_alloc _ _ _ (by simp)).trans (heap_alloc_new w _))
  have HR : Hid (((w.alloc (.cells (stC s B cb bs E ce evs.length now done V nv vc env) 31)).alloc (.cells #[.int .i64 0, .int .i64 0, .float .f32 0, .float .f32 0, .slice none 0 0, .slice none 0 0, .int .i64 0, .int .i64 0, .slice none 0 0, .float .f32 0] 31)).heap[w.heap.size + 1]? = some (.cells #[.int .i64 0, .int .i64 0, .float .f32 0, .float .f32 0, .slice none 0 0, .slice none 0 0, .int .i64 0, .int .i64 0, .slice none 0 0, .float .f32 0] 31 (0, 0))) := Lib.hid (by
    have := heap_alloc_new (w.alloc (.cells (stC s B cb bs E ce evs.length now done V nv vc env) 31)) (.cells #[.int .i64 0, .int .i64 0, .float .f32 0, .float .f32 0, .slice none 0 0, .slice none 0 0, .int .i64 0, .int .i64 0, .slice none 0 0, .float .f32 0] 31)
    simpa using this)
  have HI := Lib.hid (h.below HB.out)
  have HQ := Lib.hid (hq.new HB.out)
  unfold stC at HB HN HI HQ HR
  clear h hq hok hat hn hnn
  go_enter Tryz.func7, Tryz.ntmps7
  obtain ⟨c0, c1, c2, c3, c4, c5, c6, c7, c8, c9⟩ := st_cells HN.out
  go_wp2_with fail
  clear c0 c1 c2 c3 c4 c5 c6 c7 c8 c9
  generalize (w.alloc (.cells #[.int .i64 s.1, .int .i64 s.2.1, .float .f32 s.2.2.1, .float .f32 s.2.2.2, .slice B bs.length cb, .slice E evs.length ce, .int .i64 now, .int .i64 done, .slice V nv vc, .float .f32 env] 31)).alloc (.cells #[.int .i64 0, .int .i64 0, .float .f32 0, .float .f32 0, .slice none 0 0, .slice none 0 0, .int .i64 0, .int .i64 0, .slice none 0 0, .float .f32 0] 31) = W at *
  generalize hsb : w.heap.size = sb at *
  have HSB := Lib.hid hsb
  clear hsb
  refine (isStream_any s B cb bs E ce lo hi evs now done V nv vc env qs W HI.out HQ.out HNq.out HOK.out (fun k hk => HAT.out k (by omega))).mono ?_
  rintro rr W2 ⟨rfl, hb⟩
  have HI2 := Lib.hid (HI.out.below hb)
  have HB2 := Lib.hid (HB.out.trans (hb.mono (by have := HB.out.size; have := HSB.out; omega)))
  have HN2 := Lib.hid ((hb.block _ (lt_of_some HN.out)).trans HN.out)
  have HR2 := Lib.hid ((hb.block _ (lt_of_some HR.out)).trans HR.out)
  clear hb HI HQ HB HN HR
  obtain ⟨c0, c1, c2, c3, c4, c5, c6, c7, c8, c9⟩ := st_cells HN2.out
  have g1 : ¬ (n : Int) < 0 := by omega
  have g2 : ¬ s.1 - (now : Int) < (n : Int) := by have := HNN.out; omega
  have hb1 : now ≤ 2000 := by omega
  have hb2 : n ≤ 2000 := by have := HNN.out; omega
  go_wp2_with fail
  clear c0 c1 c2 c3 c4 c5 c6 c7 c8 c9
  rw [show (now : Int) + n = ((now + n : Nat) : Int) by omega]
  refine (streamed_any s B cb bs E ce lo hi (now + n) evs W2 HI2.out HOK.out.sc HAT.out (by omega)).mono ?_
  rintro rr W3 ⟨Wx, P, c, ev, A, ca, ys, vV, vT, ms, b, rfl, hc, hbx, hpl, hvs, hbg, hev, hown, hstr⟩
  have hb23 : Below W2.heap.size W2 W3 := hbx.trans (hpl.bel.mono hbx.size)
  have HI3 := Lib.hid (HI2.out.below hb23)
  have HB3 := Lib.hid (HB2.out.trans (hb23.mono (by have := HB2.out.size; have := HSB.out; omega)))
  have HN3 := Lib.hid ((hb23.block _ (lt_of_some HN2.out)).trans HN2.out)
  have HR3 := Lib.hid ((hb23.block _ (lt_of_some HR2.out)).trans HR2.out)
  have HZ2 : Hid (sb + 1 < W2.heap.size) := Lib.hid (lt_of_some HR2.out)
  have HEv := Lib.hid hev
  have HO3 := Lib.hid hown
  have HY := Lib.hid hstr
  obtain ⟨VA, vc', hvv⟩ := owns_form hpl.vrow
  subst hvv
  have HPl := Lib.hid hpl
  have HVs := Lib.hid hvs
  have HCc := Lib.hid hc
  clear hc hbx hpl hvs hbg hev hown hstr hb23 HI2 HB2 HN2 HR2 g1 g2
  go_wp2_with fail
  generalize hd2 : (plAt (bmOf bs) s.2.1 (sortedE evs) (now + n)).1 = done2 at HPl
  have HD2 := Lib.hid hd2
  clear hd2
  have hle : (now : Int) ≤ (now : Int) + (n : Int) := by omega
  have HC : Hid (∀ W' : World, W'.heap[sb]? = some (.cells #[.int .i64 s.1, .int .i64 s.2.1, .float .f32 s.2.2.1, .float .f32 s.2.2.2, .slice B bs.length cb, .slice E evs.length ce, .int .i64 now, .int .i64 done, .slice V nv vc, .float .f32 env] 31 (0, 0)) → W'.cell? ⟨sb, 6, none⟩ = some (.int .i64 now)) := Lib.hid (fun W' h1 => (st_cells h1).2.2.2.2.2.2.1)
  have HN4 : Hid (W3.drew.heap[sb]? = some (.cells #[.int .i64 s.1, .int .i64 s.2.1, .float .f32 s.2.2.1, .float .f32 s.2.2.2, .slice B bs.length cb, .slice E evs.length ce, .int .i64 now, .int .i64 done, .slice V nv vc, .float .f32 env] 31 (0, 0))) := HN3.out
  refine wp_region_held_drew (S := fun w' => w'.cell? ⟨sb, 6, none⟩ = some (.int .i64 now)) (by kernel_rfl) (HC.out _ HN4.out) (fun hHeld => ?_)
  refine wpAnyH_take (i := 0) (oi := _) (v := ?_) rfl (by kernel_rfl) (by kernel_rfl) (by kernel_rfl) (fun _ _ _ h => h) (Or.inl ⟨by rfl, ?_⟩) (by assumption) ?_
  rotate_left
  · (intro w hSw; (try dsimp only at hSw); go_simp; try (with_reducible rfl))
  (try simp only [Act.put, List.setIfInBounds_toArray, List.set_cons_zero, List.set_cons_succ, List.getElem_toArray, List.getElem_cons_succ, List.getElem_cons_zero])
  refine wpAnyH_take (i := 1) (oi := _) (v := ?_) rfl (by kernel_rfl) (by kernel_rfl) (by kernel_rfl) (fun _ _ _ h => h) (Or.inl ⟨by rfl, ?_⟩) (by assumption) ?_
  rotate_left
  · (intro w hSw; (try dsimp only at hSw); go_simp; try (with_reducible rfl))
  (try simp only [Act.put, List.setIfInBounds_toArray, List.set_cons_zero, List.set_cons_succ, List.getElem_toArray, List.getElem_cons_succ, List.getElem_cons_zero])
  refine wpAnyH_take (i := 3) (oi := _) (v := ?_) rfl (by kernel_rfl) (by kernel_rfl) (by kernel_rfl) (fun _ _ _ h => h) (Or.inl ⟨by rfl, ?_⟩) (by assumption) ?_
  rotate_left
  · (intro w hSw; (try dsimp only at hSw); go_simp; try (with_reducible rfl))
  (try simp only [Act.put, List.setIfInBounds_toArray, List.set_cons_zero, List.set_cons_succ, List.getElem_toArray, List.getElem_cons_succ, List.getElem_cons_zero])
  refine wpAnyH_take (i := 4) (oi := _) (v := ?_) rfl (by kernel_rfl) (by kernel_rfl) (by kernel_rfl) (fun _ _ _ h => h) (Or.inl ⟨by rfl, ?_⟩) (by assumption) ?_
  rotate_left
  · (intro w hSw; (try dsimp only at hSw); go_simp; try (with_reducible rfl))
  (try simp only [Act.put, List.setIfInBounds_toArray, List.set_cons_zero, List.set_cons_succ, List.getElem_toArray, List.getElem_cons_succ, List.getElem_cons_zero])
  refine wpAnyH_take (i := 5) (oi := _) (v := ?_) rfl (by kernel_rfl) (by kernel_rfl) (by kernel_rfl) (fun _ _ _ h => h) (Or.inl ⟨by rfl, ?_⟩) (by assumption) ?_
  rotate_left
  · (intro w hSw; (try dsimp only at hSw); go_simp; try (with_reducible rfl))
  (try simp only [Act.put, List.setIfInBounds_toArray, List.set_cons_zero, List.set_cons_succ, List.getElem_toArray, List.getElem_cons_succ, List.getElem_cons_zero])
  refine wpAnyH_take (i := 6) (oi := _) (v := ?_) rfl (by kernel_rfl) (by kernel_rfl) (by kernel_rfl) (fun _ _ _ h => h) (Or.inl ⟨by rfl, ?_⟩) (by assumption) ?_
  rotate_left
  · (intro w hSw; (try dsimp only at hSw); go_simp; try (with_reducible rfl))
  (try simp only [Act.put, List.setIfInBounds_toArray, List.set_cons_zero, List.set_cons_succ, List.getElem_toArray, List.getElem_cons_succ, List.getElem_cons_zero])
  generalize hAD : (if ca = now then A else Option.map (fun x => x.add now) A) = AD at *
  have HAD := Lib.hid hAD
  have HO4 : Hid (W3.drew.ownsRow W2.heap.size 23 1 (.slice A (now + n) ca) (now + n) (f32s ys)) := HO3.out
  clear hAD HO3
  refine wpAnyH_ready (rs := [2]) (by kernel_rfl) (by simp) ?_
  refine AllReadyH.cons (o := _) rfl (fun K hK => ?_) AllReadyH.nil
  go_simp
  obtain ⟨q1, q2, q3, q4, q5, q6, q7, q8⟩ := HCc.out
  have HPl4 : Hid (PlIn Wx W3.drew Wx.heap.size P c done2 (now + n) (.slice VA ms.length vc') vT ms b) := Lib.hid (HPl.out.drewN 1)
  have HI4 : Hid (ScIn W3.drew lo hi c.B c.cb c.bs c.E c.ce evs) := Lib.hid (by rw [q2, q3, q4, q5, q6]; exact HI3.out.below (below_drewN (Below.refl _ _) 1))
  have HR4 : Hid (W3.drew.heap[sb + 1]? = some (.cells #[.int .i64 0, .int .i64 0, .float .f32 0, .float .f32 0, .slice none 0 0, .slice none 0 0, .int .i64 0, .int .i64 0, .slice none 0 0, .float .f32 0] 31 (0, 0))) := HR3.out
  have HB4 : Hid (Below sb w W3.drew) := HB3.out.drew
  have hst := stream_any (env := ev) HPl4.out HI4.out q7 (by rw [q4]; exact HOK.out.sc.bods.mono (by decide) (by decide)) (by have := HOK.out.sc.evs.1; omega) (by
      obtain ⟨t, _, ha⟩ := HAT.out (now + n) (Nat.le_refl _)
      have h1 := ha.ok.len
      rw [← HVs.out, List.length_map] at h1
      have h2 := HOK.out.sc.sh.v1
      omega) (fun m hm => by
      obtain ⟨t, _, ha⟩ := HAT.out (now + n) (Nat.le_refl _)
      have h1 := ha.ok.vs m.v (by rw [← HVs.out]; exact List.mem_map_of_mem hm)
      exact ⟨by have := h1.lm; omega, h1.lx⟩)
  rw [q1, q4] at hst
  refine hst.mono ?_
  intro rr W5 hp
  unfold SmP at hp
  obtain ⟨B', cb', bs', E', ce', V', vc2, qs', rfl, hsc, hmo, hqs, hqv, hb5⟩ := hp
  have HSc := Lib.hid hsc
  have HMo := Lib.hid hmo
  have HQs := Lib.hid hqs
  have HQv := Lib.hid hqv
  have HB5 : Hid (Below sb w W5) := HB4.out.trans (hb5.mono (by have := HB4.out.size; have := HSB.out; omega))
  have HR5 := Lib.hid ((hb5.block _ (lt_of_some HR4.out)).trans HR4.out)
  have HN5 := Lib.hid ((hb5.block _ (lt_of_some HN4.out)).trans HN4.out)
  have HO5 := Lib.hid (owns_stay HO4.out fun k e => hb5.block k (HO4.out.lt k e).2)
  have HZ : Hid (sb + 1 < W3.drew.heap.size) := Lib.hid (lt_of_some HR4.out)
  clear hst hsc hmo hqs hqv hb5 HPl4 HPl HI4 HI3 HR4 HR3 HB4 HB3 HN4 HN3 HO4 q1 q2 q3 q4 q5 q6 q7 q8
  go_wp2_with fail
  refine hK.out _ _ ?_ (fun hHeldN => ?_)
  · exact HC.out _ HN5.out
  clear hHeld hK K
  have hHeld := hHeldN
  clear hHeldN
  (try simp only [Act.put, List.setIfInBounds_toArray, List.set_cons_zero, List.set_cons_succ, List.getElem_toArray, List.getElem_cons_succ, List.getElem_cons_zero])
  generalize W3.drew.heap.size = z3 at *
  obtain ⟨a0, a1, a2, a3, a4, a5, a6, a7, a8, a9⟩ := st_cells HR5.out
  obtain ⟨f0, f1, f2, f3, f4, f5, f6, f7, f8, f9⟩ := st_free HR5.out
  refine wpAnyH_ready (rs := [7]) (by kernel_rfl) (by simp) ?_
  refine AllReadyH.cons (o := _) rfl (fun K hK => ?_) AllReadyH.nil
  go_simp
  have e : ((((((((((W5.setCell ⟨sb + 1, 0, none⟩ (.int .i64 s.1)).setCell ⟨sb + 1, 1, none⟩ (.int .i64 s.2.1)).setCell ⟨sb + 1, 2, none⟩ (.float .f32 s.2.2.1)).setCell ⟨sb + 1, 3, none⟩ (.float .f32 s.2.2.2)).setCell ⟨sb + 1, 4, none⟩ (.slice B' bs'.length cb')).setCell ⟨sb + 1, 5, none⟩ (.slice E' evs.length ce')).setCell ⟨sb + 1, 6, none⟩ (.int .i64 ((now : Int) + (n : Int)))).setCell ⟨sb + 1, 7, none⟩ (.int .i64 done2)).setCell ⟨sb + 1, 8, none⟩ (.slice V' qs'.length vc2)).setCell ⟨sb + 1, 9, none⟩ (.float .f32 ev)) = put10 W5 (sb + 1) (.int .i64 s.1) (.int .i64 s.2.1) (.float .f32 s.2.2.1) (.float .f32 s.2.2.2) (.slice B' bs'.length cb') (.slice E' evs.length ce') (.int .i64 ((now : Int) + (n : Int))) (.int .i64 done2) (.slice V' qs'.length vc2) (.float .f32 ev) := rfl
  have HR6 := Lib.hid (put10_new (.int .i64 s.1) (.int .i64 s.2.1) (.float .f32 s.2.2.1) (.float .f32 s.2.2.2) (.slice B' bs'.length cb') (.slice E' evs.length ce') (.int .i64 ((now : Int) + (n : Int))) (.int .i64 done2) (.slice V' qs'.length vc2) (.float .f32 ev) HR5.out)
  have hk4 : ∀ j, j ≠ sb + 1 → ((((((((((W5.setCell ⟨sb + 1, 0, none⟩ (.int .i64 s.1)).setCell ⟨sb + 1, 1, none⟩ (.int .i64 s.2.1)).setCell ⟨sb + 1, 2, none⟩ (.float .f32 s.2.2.1)).setCell ⟨sb + 1, 3, none⟩ (.float .f32 s.2.2.2)).setCell ⟨sb + 1, 4, none⟩ (.slice B' bs'.length cb')).setCell ⟨sb + 1, 5, none⟩ (.slice E' evs.length ce')).setCell ⟨sb + 1, 6, none⟩ (.int .i64 ((now : Int) + (n : Int)))).setCell ⟨sb + 1, 7, none⟩ (.int .i64 done2)).setCell ⟨sb + 1, 8, none⟩ (.slice V' qs'.length vc2)).setCell ⟨sb + 1, 9, none⟩ (.float .f32 ev)).heap[j]? = W5.heap[j]? := fun j hj => by rw [e]; exact put10_else _ _ _ _ _ _ _ _ _ _ hj
  have hz4 : ((((((((((W5.setCell ⟨sb + 1, 0, none⟩ (.int .i64 s.1)).setCell ⟨sb + 1, 1, none⟩ (.int .i64 s.2.1)).setCell ⟨sb + 1, 2, none⟩ (.float .f32 s.2.2.1)).setCell ⟨sb + 1, 3, none⟩ (.float .f32 s.2.2.2)).setCell ⟨sb + 1, 4, none⟩ (.slice B' bs'.length cb')).setCell ⟨sb + 1, 5, none⟩ (.slice E' evs.length ce')).setCell ⟨sb + 1, 6, none⟩ (.int .i64 ((now : Int) + (n : Int)))).setCell ⟨sb + 1, 7, none⟩ (.int .i64 done2)).setCell ⟨sb + 1, 8, none⟩ (.slice V' qs'.length vc2)).setCell ⟨sb + 1, 9, none⟩ (.float .f32 ev)).heap.size = W5.heap.size := by rw [e]; exact put10_size _ _ _ _ _ _ _ _ _ _
  have HB6 : Hid (Below sb w ((((((((((W5.setCell ⟨sb + 1, 0, none⟩ (.int .i64 s.1)).setCell ⟨sb + 1, 1, none⟩ (.int .i64 s.2.1)).setCell ⟨sb + 1, 2, none⟩ (.float .f32 s.2.2.1)).setCell ⟨sb + 1, 3, none⟩ (.float .f32 s.2.2.2)).setCell ⟨sb + 1, 4, none⟩ (.slice B' bs'.length cb')).setCell ⟨sb + 1, 5, none⟩ (.slice E' evs.length ce')).setCell ⟨sb + 1, 6, none⟩ (.int .i64 ((now : Int) + (n : Int)))).setCell ⟨sb + 1, 7, none⟩ (.int .i64 done2)).setCell ⟨sb + 1, 8, none⟩ (.slice V' qs'.length vc2)).setCell ⟨sb + 1, 9, none⟩ (.float .f32 ev))) := Lib.hid (by rw [e]; exact put10_below _ _ _ _ _ _ _ _ _ _ HB5.out (by omega))
  have HG6 : Hid (W5.grownBy ((((((((((W5.setCell ⟨sb + 1, 0, none⟩ (.int .i64 s.1)).setCell ⟨sb + 1, 1, none⟩ (.int .i64 s.2.1)).setCell ⟨sb + 1, 2, none⟩ (.float .f32 s.2.2.1)).setCell ⟨sb + 1, 3, none⟩ (.float .f32 s.2.2.2)).setCell ⟨sb + 1, 4, none⟩ (.slice B' bs'.length cb')).setCell ⟨sb + 1, 5, none⟩ (.slice E' evs.length ce')).setCell ⟨sb + 1, 6, none⟩ (.int .i64 ((now : Int) + (n : Int)))).setCell ⟨sb + 1, 7, none⟩ (.int .i64 done2)).setCell ⟨sb + 1, 8, none⟩ (.slice V' qs'.length vc2)).setCell ⟨sb + 1, 9, none⟩ (.float .f32 ev)) (some (sb + 1))) := Lib.hid (grown_trans (grown_trans (grown_trans (grown_trans (grown_trans (grown_trans (grown_trans (grown_trans (grown_trans (grown_set _ _) (grown_set _ _)) (grown_set _ _)) (grown_set _ _)) (grown_set _ _)) (grown_set _ _)) (grown_set _ _)) (grown_set _ _)) (grown_set _ _)) (grown_set _ _))
  have HK6 := Lib.hid hk4
  have HZ6 := Lib.hid hz4
  rw [← e] at HR6
  have HN6 : Hid (((((((((((W5.setCell ⟨sb + 1, 0, none⟩ (.int .i64 s.1)).setCell ⟨sb + 1, 1, none⟩ (.int .i64 s.2.1)).setCell ⟨sb + 1, 2, none⟩ (.float .f32 s.2.2.1)).setCell ⟨sb + 1, 3, none⟩ (.float .f32 s.2.2.2)).setCell ⟨sb + 1, 4, none⟩ (.slice B' bs'.length cb')).setCell ⟨sb + 1, 5, none⟩ (.slice E' evs.length ce')).setCell ⟨sb + 1, 6, none⟩ (.int .i64 ((now : Int) + (n : Int)))).setCell ⟨sb + 1, 7, none⟩ (.int .i64 done2)).setCell ⟨sb + 1, 8, none⟩ (.slice V' qs'.length vc2)).setCell ⟨sb + 1, 9, none⟩ (.float .f32 ev)).heap[sb]? = some (.cells #[.int .i64 s.1, .int .i64 s.2.1, .float .f32 s.2.2.1, .float .f32 s.2.2.2, .slice B bs.length cb, .slice E evs.length ce, .int .i64 now, .int .i64 done, .slice V nv vc, .float .f32 env] 31 (0, 0))) := Lib.hid ((hk4 sb (by omega)).trans HN5.out)
  clear hk4 hz4 e a0 a1 a2 a3 a4 a5 a6 a7 a8 a9 f0 f1 f2 f3 f4 f5 f6 f7 f8 f9
  refine hK.out _ _ ?_ (fun hHeldN => ?_)
  · exact HC.out _ HN6.out
  clear hHeld hK K
  have hHeld := hHeldN
  clear hHeldN
  (try simp only [Act.put, List.setIfInBounds_toArray, List.set_cons_zero, List.set_cons_succ, List.getElem_toArray, List.getElem_cons_succ, List.getElem_cons_zero])
  generalize (((((((((W5.setCell ⟨sb + 1, 0, none⟩ (.int .i64 s.1)).setCell ⟨sb + 1, 1, none⟩ (.int .i64 s.2.1)).setCell ⟨sb + 1, 2, none⟩ (.float .f32 s.2.2.1)).setCell ⟨sb + 1, 3, none⟩ (.float .f32 s.2.2.2)).setCell ⟨sb + 1, 4, none⟩ (.slice B' bs'.length cb')).setCell ⟨sb + 1, 5, none⟩ (.slice E' evs.length ce')).setCell ⟨sb + 1, 6, none⟩ (.int .i64 ((now : Int) + (n : Int)))).setCell ⟨sb + 1, 7, none⟩ (.int .i64 done2)).setCell ⟨sb + 1, 8, none⟩ (.slice V' qs'.length vc2)).setCell ⟨sb + 1, 9, none⟩ (.float .f32 ev) = W6 at *
  refine wpAnyH_take (i := 8) (oi := _) (v := ?_) rfl (by kernel_rfl) (by kernel_rfl) (by kernel_rfl) (fun _ _ _ h => h) (Or.inl ⟨by rfl, ?_⟩) (by assumption) ?_
  rotate_left
  · (intro w hSw; (try dsimp only at hSw); go_simp; try (with_reducible rfl))
  (try simp only [Act.put, List.setIfInBounds_toArray, List.set_cons_zero, List.set_cons_succ, List.getElem_toArray, List.getElem_cons_succ, List.getElem_cons_zero])
  refine wpAnyH_take (i := 9) (oi := _) (v := ?_) rfl (by kernel_rfl) (by kernel_rfl) (by kernel_rfl) (fun _ _ _ h => h) (Or.inl ⟨by rfl, ?_⟩) (by assumption) ?_
  rotate_left
  · (intro w hSw; (try dsimp only at hSw); go_simp; try (with_reducible rfl))
  (try simp only [Act.put, List.setIfInBounds_toArray, List.set_cons_zero, List.set_cons_succ, List.getElem_toArray, List.getElem_cons_succ, List.getElem_cons_zero])
  refine wpAnyH_done (by kernel_rfl) ?_ _
  (try simp only [List.getElem_toArray, List.getElem_cons_succ, List.getElem_cons_zero, Act.put, List.setIfInBounds_toArray, List.set_cons_zero, List.set_cons_succ])
  go_wp2_with fail
  refine bodyPost_ret (results_cell_tmp2_row rfl _ _ (sb + 1) 31 #[.int .i64 s.1, .int .i64 s.2.1, .float .f32 s.2.2.1, .float .f32 s.2.2.2, .slice B' bs'.length cb', .slice E' evs.length ce', .int .i64 ((now : Int) + (n : Int)), .int .i64 done2, .slice V' qs'.length vc2, .float .f32 ev] (0, 0) _ rfl HR6.out Tryz.underlying31 rfl (by kernel_rfl)) rfl ?_
  have hbm : bmOf bs' = bmOf bs := bmOf_modes HMo.out
  have hsp : ScPlay s bs' evs := ⟨HOK.out.sc.sh, HOK.out.sc.bods.modes HMo.out, by
    have := HOK.out.sc.evs
    rw [modesB_len HMo.out]; exact this⟩
  refine ⟨B', cb', bs', E', ce', V', vc2, qs', done2, ev, AD, ca - now, ys.drop now, rfl, ?_, HMo.out, ?_, ⟨hsp, HNN.out, by rw [hbm, HD2.out], by rw [hbm, HQv.out, HVs.out], by rw [hbm]; exact HEv.out⟩, ?_, ⟨?_, fun i hi => ?_⟩, ?_⟩
  · have hh := HSc.out.hh
    rw [← HZ6.out] at hh
    exact (HSc.out.keep (fun j h1 h2 => HK6.out j (by have := HZ.out; omega)) (by rw [HZ6.out]; exact Nat.le_refl _)).low (by have := HZ.out; have := HSB.out; omega) (by rw [HZ6.out]; exact Nat.le_refl _) (Nat.le_refl _)
  · exact (HQs.out.keep fun j h1 _ => HK6.out j (by have := HZ.out; omega)).qs (by have := HZ.out; have := HSB.out; omega)
  · rw [← HAD.out]
    exact rd_rest (owns_stay HO5.out fun k e => HK6.out k (by have := (HO5.out.lt k e).1; have := HZ2.out; omega)) (by omega)
  · rw [List.length_drop, HY.out.1]; omega
  · rw [getD_dropN]
    exact HY.out.2 (now + i) (by omega)
  · rw [HSB.out]; exact HB6.out
end Go.Proofs.YtndnfhhdflmfcaaGreat
