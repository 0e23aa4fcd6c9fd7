/-
spec.IsMode, spec.MakeMode.
-/
import Derived.Test.YtignncjmbcdpaaaMode
import Derived.Test.YtignncjmbcdpaaaModerate
namespace Go.Proofs.Ytignncjmbcdpaaa
open Go Go.RowKit Ieee

set_option maxHeartbeats 400000 in
theorem finiteSingle_any (a b : Nat) (w : World) : Calls Try.prog 139 #[.complex .f32 a b] w fun e w' => ∃ t n, e = .returned (.bool t) ∧ (t = true → feq .f64 (fo .sub .f64 (wid a) (wid a)) 0 = true ∧ feq .f64 (fo .sub .f64 (wid b) (wid b)) 0 = true) ∧ w.drewN n = w' := by
  have H1 := Lib.hid (fun w => (feq_congr (by rw [nrm_fo, nrm_fo]; exact fo_congr (by rw [nrm_wid, nrm_cv (by decide)]) (by rw [nrm_wid, nrm_cv (by decide)])) rfl : feq .f64 (fo .sub .f64 (cR .f32 a .f64 w) (cR .f32 a .f64 w)) 0 = feq .f64 (fo .sub .f64 (wid a) (wid a)) 0))
  have H2 := Lib.hid (fun w => (feq_congr (by rw [nrm_fo, nrm_fo]; exact fo_congr (by rw [nrm_wid, nrm_cv (by decide)]) (by rw [nrm_wid, nrm_cv (by decide)])) rfl : feq .f64 (fo .sub .f64 (cR .f32 b .f64 w) (cR .f32 b .f64 w)) 0 = feq .f64 (fo .sub .f64 (wid b) (wid b)) 0))
  go_enter Try.func139, Try.ntmps139
  go_wp2_with fail
  refine (specFinite_any _ _ _).mono ?_
  rintro e w' ⟨n, rfl, rfl⟩
  rw [H1.out, H2.out]
  go_wp2_with fail
  go_ret
  exact ⟨_, _, rfl, fun h => by rw [Bool.and_eq_true] at h; exact h, rfl⟩

set_option maxHeartbeats 400000 in
theorem l2Square_any (a b : Nat) (w : World) : Calls Try.prog 140 #[.complex .f64 a b] w fun e w' => ∃ r n, e = .returned (.float .f64 r) ∧ nrm .f64 r = nrm .f64 (fo .add .f64 (fo .mul .f64 a a) (fo .mul .f64 b b)) ∧ w.drewN n = w' := by
  go_enter Try.func140, Try.ntmps140
  go_wp2_with fail
  go_ret
  exact ⟨_, _, rfl, fRo (fRo rfl rfl _) (fRo rfl rfl _) _, rfl⟩

set_option maxHeartbeats 400000 in
theorem l2Gain_any (a b : Nat) (w : World) : Calls Try.prog 141 #[.complex .f64 a b] w fun e w' => e = .returned (.bool (fle .f64 (absB a) 4652218415073722368 && fle .f64 (absB b) 4652218415073722368)) ∧ w = w' := by
  cases t : fle .f64 (absB a) 4652218415073722368
  · go_enter Try.func141, Try.ntmps141
    go_wp2_with fail
    refine (l1Abs_any a _).mono ?_
    rintro e w' ⟨rfl, rfl⟩
    go_wp2_with fail
    go_ret
    exact ⟨rfl, rfl⟩
  · go_enter Try.func141, Try.ntmps141
    go_wp2_with fail
    refine (l1Abs_any a _).mono ?_
    rintro e w' ⟨rfl, rfl⟩
    go_wp2_with fail
    refine (l1Abs_any b _).mono ?_
    rintro e w' ⟨rfl, rfl⟩
    go_wp2_with fail
    go_ret
    exact ⟨rfl, rfl⟩

/-- A mode that is valid, word by word. -/
structure ModeOk (a b c d : Nat) : Prop where
  wa : wfk .f32 a
  wb : wfk .f32 b
  wc : wfk .f32 c
  wd : wfk .f32 d
  fa : fin .f64 (wid a)
  fb : fin .f64 (wid b)
  fc : fin .f64 (wid c)
  fd : fin .f64 (wid d)
  sq : fle .f64 (fo .add .f64 (fo .mul .f64 (wid a) (wid a)) (fo .mul .f64 (wid b) (wid b))) 4607182418800017408 = true
  gain : fle .f64 (absB (wid c)) 4652218415073722368 = true ∧ fle .f64 (absB (wid d)) 4652218415073722368 = true

set_option maxRecDepth 100000 in
set_option maxHeartbeats 400000 in
theorem isMode_any (a b c d : Nat) (w : World) (wa : wfk .f32 a) (wb : wfk .f32 b) (wc : wfk .f32 c) (wd : wfk .f32 d) : Calls Try.prog 88 #[.agg #[.complex .f32 a b, .complex .f32 c d]] w fun e w' =>
    ∃ t, e = .returned (.bool t) ∧ (t = true → ModeOk a b c d) ∧ Below w.heap.size w w' := by
  go_enter Try.func88, Try.ntmps88
  go_wp2_with fail
  have HB : Hid (Below w.heap.size w (w.alloc (.cells #[.complex .f32 a b, .complex .f32 c d] 52))) := (Below.refl w.heap.size w).alloc (Nat.le_refl _) _
  have hm : (w.alloc (.cells #[.complex .f32 a b, .complex .f32 c d] 52)).heap[w.heap.size]? = some (.cells #[.complex .f32 a b, .complex .f32 c d] 52 (0, 0)) := heap_alloc_new w _
  obtain ⟨c0, c1, _, _⟩ := m_cells hm
  clear hm
  generalize w.alloc (.cells #[.complex .f32 a b, .complex .f32 c d] 52) = W at *
  refine (finiteSingle_any a b _).mono ?_
  rintro e w' ⟨t1, n1, rfl, h1, rfl⟩
  cases t1
  · go_wp2_with fail
    go_ret
    exact ⟨_, rfl, (fun h => by cases h), below_drewN HB.out _⟩
  have F1 := Lib.hid (h1 rfl)
  clear h1
  go_wp2_with fail
  refine (finiteSingle_any c d _).mono ?_
  rintro e w' ⟨t2, n2, rfl, h2, rfl⟩
  cases t2
  · go_wp2_with fail
    go_ret
    exact ⟨_, rfl, (fun h => by cases h), below_drewN HB.out _⟩
  have F2 := Lib.hid (h2 rfl)
  clear h2
  have A1 := Lib.hid (fun w => nrm_fin_eq (nrm_wid a w) (fin_of_sub F1.out.1))
  have A2 := Lib.hid (fun w => nrm_fin_eq (nrm_wid b w) (fin_of_sub F1.out.2))
  have A3 := Lib.hid (fun w => nrm_fin_eq (nrm_wid c w) (fin_of_sub F2.out.1))
  have A4 := Lib.hid (fun w => nrm_fin_eq (nrm_wid d w) (fin_of_sub F2.out.2))
  go_wp2_with fail
  refine (l2Square_any _ _ _).mono ?_
  rintro e w' ⟨r, n3, rfl, hr, rfl⟩
  rw [A1.out, A2.out] at hr
  have Hr := Lib.hid hr
  clear hr
  cases t3 : fle .f64 r 4607182418800017408
  · go_wp2_with fail
    go_ret
    exact ⟨_, rfl, (fun h => by cases h), below_drewN HB.out _⟩
  go_wp2_with fail
  refine (l2Gain_any _ _ _).mono ?_
  rintro e w' ⟨rfl, rfl⟩
  rw [A3.out, A4.out]
  go_wp2_with fail
  go_ret
  refine ⟨_, rfl, fun h => ?_, below_drewN HB.out _⟩
  rw [Bool.and_eq_true] at h
  exact ⟨wa, wb, wc, wd, fin_of_sub F1.out.1, fin_of_sub F1.out.2, fin_of_sub F2.out.1, fin_of_sub F2.out.2, by rw [← t3]; exact fle_congr (by rw [Hr.out]) rfl, h⟩

theorem modeElse : ModeOk 1056964608 1048576000 1065353216 0 := by
  have key : ∀ (x m : Nat) (e : Int), double.read (wid x) = .number false m e → fin .f64 (wid x) := fun x m e h => ⟨_, _, _, h⟩
  exact ⟨by rw [wfk_32]; omega, by rw [wfk_32]; omega, by rw [wfk_32]; omega, by rw [wfk_32]; omega,
    key _ 4503599627370496 (-53) (by decide +kernel), key _ 4503599627370496 (-54) (by decide +kernel), key _ 4503599627370496 (-52) (by decide +kernel), key _ 0 (-1074) (by decide +kernel),
    by decide +kernel, by decide +kernel, by decide +kernel⟩

section
attribute [local go_sem] alloc_drewN setCell_drewN
set_option maxRecDepth 100000 in
set_option maxHeartbeats 400000 in
theorem makeMode_any (A : Option Addr) (cp : Nat) (bs : List Int) (w : World) (hr : Rd w A (bs.map (.int .u8))) (hm : bs.length ≤ 1048576) :
    Calls Try.prog 35 #[.slice A bs.length cp] w fun e w' => ∃ a b c d : Nat, e = .returned (.agg #[.complex .f32 a b, .complex .f32 c d]) ∧ ModeOk a b c d ∧ Below w.heap.size w w' := by
  have Hr := Lib.hid (fun o => hr.below ((Below.refl w.heap.size w).alloc (Nat.le_refl _) o))
  clear hr
  go_enter Try.func35, Try.ntmps35
  go_wp2_with fail
  refine (new_any A cp bs _ (Hr.out _) hm).mono ?_
  rintro e w1 ⟨g, rfl, hg, hcur, hb1⟩
  go_wp2_with fail
  refine (mode_any g _ hcur).mono ?_
  rintro e w2 ⟨a, b, c, d, rfl, wa, wb, wc, wd, hs⟩
  have hgs : w.heap.size < g := by simp at hg; omega
  have hR : w2.heap[w.heap.size]? = some (.cells #[.complex .f32 0 0, .complex .f32 0 0] 52 (0, 0)) :=
    (hs.2.block w.heap.size (by have := hb1.size; simp at this; omega) (by intro e; injection e with e; omega)).trans ((hb1.block w.heap.size (by simp)).trans (heap_alloc_new w _))
  have hB2 : Below w.heap.size w w2 := (((Below.refl w.heap.size w).alloc (Nat.le_refl _) _).trans (hb1.mono (by simp))).trans (below_of_step hs (by omega) (by have := hb1.size; simp at this; omega))
  have hlt : w.heap.size < w2.heap.size := lt_of_some hR
  have HR := Lib.hid hR
  have HB2 := Lib.hid hB2
  clear hR hB2 hs hb1 hg hgs hcur Hr
  go_wp2_with fail
  refine (isMode_any a b c d _ wa wb wc wd).mono ?_
  rintro e w4 ⟨t, rfl, hok, hb4⟩
  have hRR : w4.heap[w.heap.size]? = some (.cells #[.complex .f32 0 0, .complex .f32 0 0] 52 (0, 0)) :=
    ((hb4.block w.heap.size (by simp; omega)).trans (Below.heap_alloc w2 _ _ hlt)).trans HR.out
  have hMM : w4.heap[w2.heap.size]? = some (.cells #[.complex .f32 a b, .complex .f32 c d] 52 (0, 0)) :=
    (hb4.block w2.heap.size (by simp)).trans (heap_alloc_new w2 _)
  have HB4 : Hid (Below w.heap.size w w4) := (HB2.out.alloc HB2.out.size _).trans (hb4.mono (by have := HB2.out.size; simp; omega))
  obtain ⟨r0, r1, g0, g1⟩ := m_cells hRR
  obtain ⟨m0, m1, _, _⟩ := m_cells hMM
  have HRR := Lib.hid hRR
  have Hres : ∀ x y : Value, ((w4.setCell ⟨w.heap.size, 0, none⟩ x).setCell ⟨w.heap.size, 1, none⟩ y).heap[w.heap.size]? = some (.cells #[x, y] 52 (0, 0)) := fun x y => by
    simp [World.setCell, Array.getElem?_modify, HRR.out]
  have HRes := Lib.hid Hres
  have HBel : Hid (∀ x y : Value, Below w.heap.size w ((w4.setCell ⟨w.heap.size, 0, none⟩ x).setCell ⟨w.heap.size, 1, none⟩ y)) := fun x y =>
    (HB4.out.setCell (Nat.le_refl _) _).setCell (Nat.le_refl _) _
  clear hRR hMM hb4 Hres
  cases t
  · go_wp2_with fail
    refine bodyPost_ret (results_cell_row rfl _ _ w.heap.size 52 #[.complex .f32 1056964608 1048576000, .complex .f32 1065353216 0] (0, 0) _ rfl (HRes.out _ _) Try.underlying52 rfl (by kernel_rfl)) rfl ?_
    exact ⟨_, _, _, _, rfl, modeElse, HBel.out _ _⟩
  · have Hok := Lib.hid (hok rfl)
    clear hok
    go_wp2_with fail
    refine bodyPost_ret (results_cell_row rfl _ _ w.heap.size 52 #[.complex .f32 a b, .complex .f32 c d] (0, 0) _ rfl (HRes.out _ _) Try.underlying52 rfl (by kernel_rfl)) rfl ?_
    exact ⟨_, _, _, _, rfl, Hok.out, HBel.out _ _⟩
end
end Go.Proofs.Ytignncjmbcdpaaa
