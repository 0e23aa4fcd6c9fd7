/-
IsMode of both packages at a valid mode; the words after so many steps.
-/
import Derived.Test.YtignncjmbcdpaaaModeVal
import Derived.Test.YtignncjmbcdpaaaUnitWalk
import Derived.Deep.RegionWith
namespace Go.Proofs.Ytignncjmbcdpaaa
open Go Go.RowKit Ieee

theorem absB_eq {x : Nat} (hx : fin .f64 x) (hw : wfk .f64 x) : absB x = abs64 x := by
  have h1 := read_absB x
  have h2 := abs64_read x
  obtain ⟨s, m, e, hr⟩ := hx
  have hd : double.read x = .number s m e := hr
  rw [hd] at h1 h2
  have w1 := write_read double (by decide) (absB_lt hw) (by rw [h1]; rfl)
  have w2 := write_read double (by decide) (abs64_lt x) (by rw [h2]; rfl)
  rw [← w1, ← w2, h1, h2]
theorem sub_self {x : Nat} (h : fin .f64 x) : feq .f64 (fo .sub .f64 x x) 0 = true := by
  obtain ⟨z1, z2⟩ := zero_fin .f64
  have e : fv .f64 x - fv .f64 x = 0 := by grind
  have hs := sub_spec h h (by rw [e, ab_of_nonneg Rat.le_refl]; have := top210; grind)
  rw [e] at hs
  exact (feq_iff hs.1 z1).2 (by rw [hs.exact z1 z2, z2])

set_option maxHeartbeats 400000 in
theorem finiteSingle_ok (a b : Nat) (w : World) (fa : fin .f64 (wid a)) (fb : fin .f64 (wid b)) : Calls Try.prog 139 #[.complex .f32 a b] w fun e w' => ∃ n, e = .returned (.bool true) ∧ w.drewN n = w' := by
  have H1 := Lib.hid (fun w => (by rw [nrm_fin_eq (nrm_wid a w) fa]; exact sub_self fa : feq .f64 (fo .sub .f64 (cR .f32 a .f64 w) (cR .f32 a .f64 w)) 0 = true))
  have H2 := Lib.hid (fun w => (by rw [nrm_fin_eq (nrm_wid b w) fb]; exact sub_self fb : feq .f64 (fo .sub .f64 (cR .f32 b .f64 w) (cR .f32 b .f64 w)) 0 = true))
  go_enter Try.func139, Try.ntmps139
  go_wp2_with fail
  refine (specFinite_any _ _ _).mono ?_
  rintro e w' ⟨n, rfl, rfl⟩
  rw [H1.out, H2.out]
  go_wp2_with fail
  go_ret
  exact ⟨_, rfl, rfl⟩

set_option maxRecDepth 100000 in
set_option maxHeartbeats 400000 in
theorem specMode_ok (a b c d : Nat) (w : World) (h : ModeOk a b c d) : Calls Try.prog 88 #[.agg #[.complex .f32 a b, .complex .f32 c d]] w fun e w' =>
    e = .returned (.bool true) ∧ Below w.heap.size w w' := by
  have H := Lib.hid h
  clear h
  go_enter Try.func88, Try.ntmps88
  go_wp2_with fail
  have HB : Hid (Below w.heap.size w (w.alloc (.cells #[.complex .f32 a b, .complex .f32 c d] 52))) := (Below.refl w.heap.size w).alloc (Nat.le_refl _) _
  have hm : (w.alloc (.cells #[.complex .f32 a b, .complex .f32 c d] 52)).heap[w.heap.size]? = some (.cells #[.complex .f32 a b, .complex .f32 c d] 52 (0, 0)) := heap_alloc_new w _
  obtain ⟨c0, c1, _, _⟩ := m_cells hm
  clear hm
  generalize w.alloc (.cells #[.complex .f32 a b, .complex .f32 c d] 52) = W at *
  refine (finiteSingle_ok a b _ H.out.fa H.out.fb).mono ?_
  rintro e w' ⟨n1, rfl, rfl⟩
  go_wp2_with fail
  refine (finiteSingle_ok c d _ H.out.fc H.out.fd).mono ?_
  rintro e w' ⟨n2, rfl, rfl⟩
  have A1 := Lib.hid (fun w => nrm_fin_eq (nrm_wid a w) H.out.fa)
  have A2 := Lib.hid (fun w => nrm_fin_eq (nrm_wid b w) H.out.fb)
  have A3 := Lib.hid (fun w => nrm_fin_eq (nrm_wid c w) H.out.fc)
  have A4 := Lib.hid (fun w => nrm_fin_eq (nrm_wid d w) H.out.fd)
  go_wp2_with fail
  refine (l2Square_any _ _ _).mono ?_
  rintro e w' ⟨r, n3, rfl, hr, rfl⟩
  rw [A1.out, A2.out] at hr
  have t3 : fle .f64 r 4607182418800017408 = true := by rw [← H.out.sq]; exact fle_congr hr rfl
  clear hr
  go_wp2_with fail
  refine (l2Gain_any _ _ _).mono ?_
  rintro e w' ⟨rfl, rfl⟩
  rw [A3.out, A4.out, H.out.gain.1, H.out.gain.2]
  go_wp2_with fail
  go_ret
  exact ⟨rfl, below_drewN HB.out _⟩

theorem gain_no {x : Nat} (hx : fin .f64 x) (hw : wfk .f64 x) (h : fle .f64 (absB x) 4652218415073722368 = true) : fgt .f64 (abs64 x) 4652218415073722368 = false := by
  rw [absB_eq hx hw] at h
  obtain ⟨a1, _⟩ := abs64_fin hx
  obtain ⟨g1, _⟩ := gain_val
  have h1 := (fle_iff a1 g1).1 h
  cases hc : fgt .f64 (abs64 x) 4652218415073722368
  · rfl
  · exact absurd ((fgt_iff a1 g1).1 hc) (Rat.not_lt.2 h1)

set_option maxHeartbeats 400000 in
theorem isWide_ok (a b c d : Nat) (w : World) (h : ModeOk a b c d) : Calls Try.prog 142 #[.complex .f64 (wid a) (wid b), .complex .f64 (wid c) (wid d)] w fun e w' => ∃ n, e = .returned (.bool true) ∧ w.drewN n = w' := by
  have H := Lib.hid h
  have T := Lib.hid (fun w1 w2 w3 => (by rw [← h.sq]; refine fle_congr ?_ rfl; exact fRo (fRo rfl rfl _) (fRo rfl rfl _) _ : fle .f64 (fR .add .f64 (fR .mul .f64 (wid a) (wid a) w1) (fR .mul .f64 (wid b) (wid b) w2) w3) 4607182418800017408 = true))
  have g1 := gain_no h.fc (wid_lt _) h.gain.1
  have g2 := gain_no h.fd (wid_lt _) h.gain.2
  clear h
  go_enter Try.func142, Try.ntmps142
  go_wp2_with fail
  refine (finiteDouble_any _ _ _ (wid_lt _) (wid_lt _)).mono ?_
  rintro e w' ⟨rfl, rfl⟩
  rw [finB_of H.out.fa, finB_of H.out.fb]
  go_wp2_with fail
  refine (finiteDouble_any _ _ _ (wid_lt _) (wid_lt _)).mono ?_
  rintro e w' ⟨rfl, rfl⟩
  rw [finB_of H.out.fc, finB_of H.out.fd]
  go_wp2_with fail
  refine (mathAbs_any _ _ (wid_lt _)).mono ?_
  rintro e w' ⟨rfl, rfl⟩
  go_wp2_with fail
  refine (mathAbs_any _ _ (wid_lt _)).mono ?_
  rintro e w' ⟨rfl, rfl⟩
  go_wp2_with fail
  go_ret
  exact ⟨_, ret_bool (T.out _ _ _), rfl⟩

theorem implWiden_fin (a b : Nat) (w : World) (wa : wfk .f32 a) (wb : wfk .f32 b) (fa : fin .f64 (wid a)) (fb : fin .f64 (wid b)) :
    Calls Try.prog 90 #[.complex .f32 a b] w fun e w' => ∃ n, e = .returned (.complex .f64 (wid a) (wid b)) ∧ w.drewN n = w' := by
  refine (implWiden_any a b w wa wb).mono ?_
  rintro e w' ⟨p, q, n, rfl, hp, hq, _, _, rfl⟩
  exact ⟨n, by rw [nrm_fin_eq hp fa, nrm_fin_eq hq fb], rfl⟩

set_option maxRecDepth 100000 in
set_option maxHeartbeats 400000 in
theorem implMode_ok (a b c d : Nat) (w : World) (h : ModeOk a b c d) : Calls Try.prog 89 #[.agg #[.complex .f32 a b, .complex .f32 c d]] w fun e w' =>
    e = .returned (.bool true) ∧ Below w.heap.size w w' := by
  have H := Lib.hid h
  clear h
  go_enter Try.func89, Try.ntmps89
  go_wp2_with fail
  have HB : Hid (Below w.heap.size w (w.alloc (.cells #[.complex .f32 a b, .complex .f32 c d] 52))) := (Below.refl w.heap.size w).alloc (Nat.le_refl _) _
  have hm : (w.alloc (.cells #[.complex .f32 a b, .complex .f32 c d] 52)).heap[w.heap.size]? = some (.cells #[.complex .f32 a b, .complex .f32 c d] 52 (0, 0)) := heap_alloc_new w _
  obtain ⟨c0, c1, _, _⟩ := m_cells hm
  clear hm
  generalize w.alloc (.cells #[.complex .f32 a b, .complex .f32 c d] 52) = W at *
  go_region_with (first
    | (go_at_call_of 90 a
       refine (implWiden_fin a b _ H.out.wa H.out.wb H.out.fa H.out.fb).mono ?_
       rintro e w' ⟨n1, rfl, rfl⟩)
    | (go_at_call_of 90 c
       refine (implWiden_fin c d _ H.out.wc H.out.wd H.out.fc H.out.fd).mono ?_
       rintro e w' ⟨n2, rfl, rfl⟩)
    | (go_at_call 142
       refine (isWide_ok a b c d _ H.out).mono ?_
       rintro e w' ⟨n3, rfl, rfl⟩))
  all_goals
    go_wp2_with fail
    go_ret
    exact ⟨rfl, below_drewN HB.out _⟩

theorem nar_lt {x : Nat} (hx : fin .f64 x) (h : ab (fv .f64 x) ≤ top .f32) (hw : wfk .f64 x) (w : World) : wfk .f32 (nar x) := by
  rw [← (nar_ok hx h).1 w]; exact cR_lt hw w

/-- The state after so many steps. -/
structure ZOk (a b x y : Nat) : Prop where
  fx : fin .f32 x
  fy : fin .f32 y
  wx : wfk .f32 x
  wy : wfk .f32 y
  mild : Mild x y a b
  bx : ab (fv .f32 x) ≤ 2 ^ 12
  by' : ab (fv .f32 y) ≤ 2 ^ 12
theorem ModeOk.at {a b c d : Nat} (h : ModeOk a b c d) (w : World) (n : Nat) (hn : n ≤ 3000) : ZOk a b (zAt a b c d n).1 (zAt a b c d n).2 := by
  obtain ⟨z1, z2, z3, z4⟩ := zAt_ok (fin_of_wid h.fa) (fin_of_wid h.fb) (fin_of_wid h.fc) (fin_of_wid h.fd) h.square h.gains n hn
  have hw : wfk .f32 (zAt a b c d n).1 ∧ wfk .f32 (zAt a b c d n).2 := by
    cases n with
    | zero => exact ⟨h.wc, h.wd⟩
    | succ n =>
      obtain ⟨_, _, m, _⟩ := zAt_ok (fin_of_wid h.fa) (fin_of_wid h.fb) (fin_of_wid h.fc) (fin_of_wid h.fd) h.square h.gains n (by omega)
      exact ⟨nar_lt m.fr m.tr (fo_lt _ _ _ _) w, nar_lt m.fi m.ti (fo_lt _ _ _ _) w⟩
  have hb : (n : Rat) ≤ 3000 := by have := Rat.natCast_le_natCast.2 hn; simpa using this
  have s1 := sq_nonneg (fv .f32 (zAt a b c d n).1)
  have s2 := sq_nonneg (fv .f32 (zAt a b c d n).2)
  exact ⟨z1, z2, hw.1, hw.2, z3, ab_le_of_sq (by grind) (by grind), ab_le_of_sq (by grind) (by grind)⟩

/-- The size of a number in single precision, widened. -/
def sizeZ (z : Nat × Nat) : Nat := szW (wid z.1) (wid z.2)
theorem size_ok {a b x y : Nat} (h : ZOk a b x y) : fin .f64 (sizeZ (x, y)) ∧ fo .add .f64 (absB (wid x)) (absB (wid y)) = sizeZ (x, y) ∧ fin .f64 (fo .mul .f64 4611686018427387904 (sizeZ (x, y))) := by
  obtain ⟨a1, a2⟩ := wid_fin h.fx
  obtain ⟨b1, b2⟩ := wid_fin h.fy
  obtain ⟨c1, c2⟩ := abs64_fin a1
  obtain ⟨d1, d2⟩ := abs64_fin b1
  have ht := top210
  have hx := h.bx
  have hy := h.by'
  have n1 := ab_nonneg (fv .f64 (wid x))
  have n2 := ab_nonneg (fv .f64 (wid y))
  rw [← a2] at hx
  rw [← b2] at hy
  obtain ⟨k1, k2, k3⟩ := consts64
  have hs := size_spec n1 n2 (by grind) c1 d1 c2 d2
  have l := le_ab (fv .f64 (fo .add .f64 (abs64 (wid x)) (abs64 (wid y))) - (ab (fv .f64 (wid x)) + ab (fv .f64 (wid y))))
  have h2 := hs.2.1
  rw [k1, ab_of_nonneg (x := ab (fv .f64 (wid x)) + ab (fv .f64 (wid y))) (by grind)] at h2
  refine ⟨hs.1, by rw [absB_eq a1 (wid_lt _), absB_eq b1 (wid_lt _)]; rfl, ?_⟩
  obtain ⟨t1, t2⟩ := two_fin
  refine (mul_spec t1 hs.1 ?_).1
  rw [t2]
  exact ab_le (by grind) (by grind)
/-- Has the mode halved after so many steps? -/
def halved (a b c d n : Nat) : Bool := fle .f64 (fo .mul .f64 4611686018427387904 (sizeZ (zAt a b c d n))) (sizeZ (c, d))
/-- What HalfLife finds. -/
def Half (a b c d : Nat) (most k : Int) (t : Bool) : Prop :=
  (t = true ∧ 1 ≤ k ∧ k ≤ most ∧ halved a b c d k.toNat = true ∧ ∀ j : Nat, 1 ≤ j → (j : Int) < k → halved a b c d j = false) ∨
  (t = false ∧ k = 0 ∧ ∀ j : Nat, 1 ≤ j → (j : Int) ≤ most → halved a b c d j = false)
theorem Half.unique {a b c d : Nat} {most k k' : Int} {t t' : Bool} (h : Half a b c d most k t) (h' : Half a b c d most k' t') : k = k' ∧ t = t' := by
  rcases h with ⟨h1, h2, h3, h4, h5⟩ | ⟨h1, h2, h3⟩ <;> rcases h' with ⟨g1, g2, g3, g4, g5⟩ | ⟨g1, g2, g3⟩
  · refine ⟨?_, by rw [h1, g1]⟩
    rcases Int.lt_trichotomy k k' with hlt | he | hlt
    · have := g5 k.toNat (by omega) (by omega); rw [this] at h4; cases h4
    · exact he
    · have := h5 k'.toNat (by omega) (by omega); rw [this] at g4; cases g4
  · have := g3 k.toNat (by omega) (by omega); rw [this] at h4; cases h4
  · have := h3 k'.toNat (by omega) (by omega); rw [this] at g4; cases g4
  · exact ⟨by rw [h2, g2], by rw [h1, g1]⟩
theorem Half.short {a b c d : Nat} {most m k : Int} (h : Half a b c d most k true) (hm : m < k) : Half a b c d m 0 false := by
  rcases h with ⟨h1, h2, h3, h4, h5⟩ | ⟨h1, _⟩
  · exact .inr ⟨rfl, rfl, fun j j1 j2 => h5 j j1 (by omega)⟩
  · cases h1
theorem Half.same {a b c d : Nat} {most k : Int} (h : Half a b c d most k true) : Half a b c d k k true := by
  rcases h with ⟨h1, h2, h3, h4, h5⟩ | ⟨h1, _⟩
  · exact .inl ⟨rfl, h2, Int.le_refl _, h4, h5⟩
  · cases h1
theorem Half.less {a b c d : Nat} {most m k : Int} (h : Half a b c d most k false) (hm : m ≤ most) : Half a b c d m 0 false := by
  rcases h with ⟨h1, _⟩ | ⟨h1, h2, h3⟩
  · cases h1
  · exact .inr ⟨rfl, rfl, fun j j1 j2 => h3 j j1 (by omega)⟩
theorem Half.range {a b c d : Nat} {most k : Int} (h : Half a b c d most k true) : 1 ≤ k ∧ k ≤ most := by
  rcases h with ⟨h1, h2, h3, h4, h5⟩ | ⟨h1, _⟩
  · exact ⟨h2, h3⟩
  · cases h1
end Go.Proofs.Ytignncjmbcdpaaa
