/-
The law FnUnits returns true for all codes. No condition.
-/
import Derived.Test.YtignncjmbcdpaaaUnitWalk
import Derived.Test.YtignncjmbcdpaaaOpen
namespace Go.Proofs.Ytignncjmbcdpaaa.lawUnits
open Go Go.RowKit Go.ChangeShapes Go.WideShapes

theorem p44 : pw (-44) = 1 / 2 ^ 44 := by unfold pw; grind

/-- The size of the unit. -/
theorem size_ok {a b u v : Nat} (h : Mod a b) (hu : UnitAt a b u v) : fin .f64 (szW u v) ∧ ab (fv .f64 (szW u v) - 1) ≤ 1 / 2 ^ 47 := by
  obtain ⟨s1, s2⟩ := szW_ok h
  have hn := unit_size s2 rfl hu.nu hu.nv
  obtain ⟨a1, a2⟩ := abs64_fin hu.fu
  obtain ⟨b1, b2⟩ := abs64_fin hu.fv'
  obtain ⟨k1, k2, k3⟩ := consts64
  have ht := top210
  have l := le_ab (ab (fv .f64 u) + ab (fv .f64 v) - 1)
  have n1 := ab_nonneg (fv .f64 u)
  have n2 := ab_nonneg (fv .f64 v)
  have hsz := size_spec n1 n2 (by grind) a1 b1 a2 b2
  refine ⟨hsz.1, ?_⟩
  have h2 := hsz.2.1
  rw [k1, ab_of_nonneg (x := ab (fv .f64 u) + ab (fv .f64 v)) (by grind)] at h2
  have t := ab_add (fv .f64 (fo .add .f64 (abs64 u) (abs64 v)) - (ab (fv .f64 u) + ab (fv .f64 v))) (ab (fv .f64 u) + ab (fv .f64 v) - 1)
  have e : fv .f64 (fo .add .f64 (abs64 u) (abs64 v)) - (ab (fv .f64 u) + ab (fv .f64 v)) + (ab (fv .f64 u) + ab (fv .f64 v) - 1) = fv .f64 (szW u v) - 1 := by unfold szW; grind
  rw [e] at t
  grind

theorem near_one {z : Nat} (hz : fin .f64 z) (h : ab (fv .f64 z - 1) ≤ 1 / 2 ^ 47) {p : Nat} (hp : fin .f64 p) (pv : fv .f64 p = pw (-44)) (w : World) :
    fle .f64 (fR .sub .f64 z 4607182418800017408 w) p = true ∧ fle .f64 (fR .sub .f64 4607182418800017408 z w) p = true := by
  obtain ⟨o1, o2⟩ := one_fin
  have ht := top210
  have l := le_ab (fv .f64 z - 1)
  have hs1 := sub_spec hz o1 (by rw [o2]; grind)
  have e : fv .f64 4607182418800017408 - fv .f64 z = -(fv .f64 z - 1) := by rw [o2]; grind
  have hs2 := sub_spec o1 hz (by rw [e, ab_neg]; grind)
  rw [o2] at hs1
  rw [e] at hs2
  have e44 := p44
  constructor
  · rw [rnd_eq hs1.1 w]
    exact (fle_iff hs1.1 hp).2 ((hs1.2.2 p hp).2 (by rw [pv, e44]; grind))
  · rw [rnd_eq hs2.1 w]
    exact (fle_iff hs2.1 hp).2 ((hs2.2.2 p hp).2 (by rw [pv, e44]; grind))

/-- Turned back. -/
theorem back_ok {a b u v : Nat} (h : Mod a b) (hu : UnitAt a b u v) :
    fin .f64 (fo .mul .f64 u (szW a b)) ∧ fin .f64 (fo .mul .f64 v (szW a b)) ∧ fin .f64 (fo .sub .f64 (fo .mul .f64 u (szW a b)) a) ∧ fin .f64 (fo .sub .f64 (fo .mul .f64 v (szW a b)) b) ∧
    ∀ r, nrm .f64 r = fo .add .f64 (absB (fo .sub .f64 (fo .mul .f64 u (szW a b)) a)) (absB (fo .sub .f64 (fo .mul .f64 v (szW a b)) b)) → ∀ p, fin .f64 p → fv .f64 p = pw (-44) → ∀ w, fle .f64 r (fR .mul .f64 (szW a b) p w) = true := by
  obtain ⟨s1, s2⟩ := szW_ok h
  obtain ⟨q1, q2, q3, q4, q5⟩ := s2.pos
  obtain ⟨k1, k2, k3⟩ := consts64
  have n1 := ab_nonneg (fv .f64 a)
  have n2 := ab_nonneg (fv .f64 b)
  have x := unit_back s2 (by grind) hu.fu hu.nu s1 rfl h.fa rfl
  have y := unit_back s2 (by grind) hu.fv' hu.nv s1 rfl h.fb rfl
  refine ⟨x.1, y.1, x.2.1, y.2.1, fun r hr p hp pv w => ?_⟩
  obtain ⟨a1, a2⟩ := absB_fin x.2.1
  obtain ⟨b1, b2⟩ := absB_fin y.2.1
  have ht := top210
  have hi := h.hi
  have hx := x.2.2
  have hy := y.2.2
  have n3 := ab_nonneg (fv .f64 (fo .sub .f64 (fo .mul .f64 u (szW a b)) a))
  have n4 := ab_nonneg (fv .f64 (fo .sub .f64 (fo .mul .f64 v (szW a b)) b))
  have hsz := size_spec n3 n4 (by grind) a1 b1 a2 b2
  obtain rfl : r = _ := nrm_fin_eq hr hsz.1
  have e44 := p44
  have hm := mul_spec s1 hp (by rw [pv, e44, ab_of_nonneg (by grind)]; grind)
  rw [rnd_eq hm.1 w]
  refine (fle_iff hsz.1 hm.1).2 ?_
  have m2 := hm.2.1
  rw [pv, e44, k1, ab_of_nonneg (x := fv .f64 (szW a b) * (1 / 2 ^ 44)) (by grind)] at m2
  have m3 := le_ab (fv .f64 (fo .mul .f64 (szW a b) p) - fv .f64 (szW a b) * (1 / 2 ^ 44))
  have z2 := hsz.2.1
  rw [k1, ab_of_nonneg (x := ab (fv .f64 (fo .sub .f64 (fo .mul .f64 u (szW a b)) a)) + ab (fv .f64 (fo .sub .f64 (fo .mul .f64 v (szW a b)) b))) (by grind)] at z2
  have z3 := le_ab (fv .f64 (fo .add .f64 (absB (fo .sub .f64 (fo .mul .f64 u (szW a b)) a)) (absB (fo .sub .f64 (fo .mul .f64 v (szW a b)) b))) - (ab (fv .f64 (fo .sub .f64 (fo .mul .f64 u (szW a b)) a)) + ab (fv .f64 (fo .sub .f64 (fo .mul .f64 v (szW a b)) b))))
  grind

set_option maxRecDepth 100000 in
set_option maxHeartbeats 400000 in
theorem walk_some (A : Option Addr) (c : Nat) (bs : List Int) (w : World) (hr : Rd w A (bs.map (.int .u8))) (hm : bs.length ≤ 1048576) :
    Calls Try.prog 5 #[.slice A bs.length c] w fun e w' => e = .returned (.bool true) ∧ Below w.heap.size w w' := by
  have hlen0 : ¬ (1048576 : Int) < (bs.length : Int) := by omega
  go_enter Try.func5, Try.ntmps5
  go_wp2_with fail
  refine (moderate_any A c bs _ hr hm).mono ?_
  rintro e w1 ⟨a, b, rfl, hmod, hb1⟩
  have H := Lib.hid hmod
  have B1 := Lib.hid hb1
  clear hb1 hr
  go_wp2_with fail
  refine (unitOf_any a b _ hmod).mono ?_
  rintro e w' ⟨u, v, n1, rfl, hu, wu, wv, rfl⟩
  have Hsz := Lib.hid (size_ok hmod hu)
  have Hbk := Lib.hid (back_ok hmod hu)
  have Hs := Lib.hid (szW_ok hmod).1
  have Wu := Lib.hid wu
  have Wv := Lib.hid wv
  clear hu wu wv hmod
  go_wp2_with fail
  refine (implSize_any a b _ H.out.wa H.out.wb).mono ?_
  rintro e w' ⟨s, n2, rfl, hs, ws, rfl⟩
  obtain rfl : s = szW a b := nrm_fin_eq hs Hs.out
  clear hs ws
  go_wp2_with fail
  refine (implSize_any u v _ Wu.out Wv.out).mono ?_
  rintro e w' ⟨z, n3, rfl, hz, wz, rfl⟩
  obtain rfl : z = szW u v := nrm_fin_eq hz Hsz.out.1
  clear hz wz
  go_wp2_with fail
  refine (power_neg (-44) _ (by omega) (by omega)).mono ?_
  rintro e w' ⟨p1, m1, rfl, f1, v1, rfl⟩
  have g1 := fun w => (near_one Hsz.out.1 Hsz.out.2 f1 v1 w).1
  clear f1 v1
  go_wp2_with fail
  refine (power_neg (-44) _ (by omega) (by omega)).mono ?_
  rintro e w' ⟨p2, m2, rfl, f2, v2, rfl⟩
  have g2 := fun w => (near_one Hsz.out.1 Hsz.out.2 f2 v2 w).2
  clear f2 v2
  go_wp2_with fail
  refine (scale_any u v (szW a b) _).mono ?_
  rintro e w' ⟨x, y, n4, rfl, hx, hy, wx, wy, rfl⟩
  have X := Lib.hid (nrm_fin_eq hx Hbk.out.1)
  have Y := Lib.hid (nrm_fin_eq hy Hbk.out.2.1)
  clear hx hy wx wy
  go_wp2_with fail
  refine (power_neg (-44) _ (by omega) (by omega)).mono ?_
  rintro e w' ⟨p3, m3, rfl, f3, v3, rfl⟩
  have G3 := Lib.hid (fun r hr w => Hbk.out.2.2.2.2 r hr p3 f3 v3 w)
  clear f3 v3 g1 g2
  go_wp2_with fail
  refine (small_any x y a b _ _ (by rw [X.out]; exact Hbk.out.2.2.1) (by rw [Y.out]; exact Hbk.out.2.2.2.1)).mono ?_
  rintro e w' ⟨r, n5, rfl, hrr, rfl⟩
  rw [X.out, Y.out] at hrr
  have g3 := fun w => G3.out r hrr w
  clear hrr
  go_wp2_with fail
  go_ret
  exact ⟨rfl, below_drewN B1.out _⟩

theorem walk (A : Option Addr) (c : Nat) (bs : List Int) (w : World) (_ : bs.length ≤ maxLen) (hr : Rd w A (bs.map (.int .u8))) (_ : ∀ i, i < bs.length → 0 ≤ bs.getD i 0 ∧ bs.getD i 0 ≤ 255) :
    Calls Try.prog 5 #[.slice A bs.length c] w fun e w' => e = .returned (.bool true) ∧ Below w.heap.size w w' := by
  by_cases hm : bs.length ≤ 1048576
  · exact walk_some A c bs w hr hm
  · go_enter Try.func5, Try.ntmps5
    go_wp2
    go_ret
    exact ⟨rfl, Below.refl _ _⟩
set_option maxRecDepth 100000 in
theorem lifted (os : Os) (started : os.Started) (H : Type) (enc : TypeId × Value → H) :
    ReturnsInHanded {} Try.checked os 5 .any (Rows.fnUnitsSpec.pre6 enc Try.prog Try.f5 Rows.fnUnitsRow.domain false) (Rows.fnUnitsSpec.post enc Try.prog Try.f5 false true false false) := by
  refine returnsInHanded_of_change (C := Try.checked) own started (by kernel_rfl) Try.func5
    (ChangeSpec.witness6 (enc := enc) (C := Try.checked) false ⟨#[], #[.slice none 0 0], []⟩ 8 (by kernel_rfl) (by kernel_rfl) (by kernel_rfl) (by kernel_rfl)) ?_
  intro W base args ds gs before hval0 hW hcnd _
  have hval : ∀ (j : Nat) t v, Try.f5.params[j]? = some t → args[j]? = some v → Value.okWide Try.prog W .any base t v := hval0
  have hW' := hW
  obtain ⟨p, q, hA0, hV, rfl, hfz, hnd⟩ := hW
  have hA : DataW.TrodAll enc Try.prog W 0 (fun _ => true) true Try.f5.params.toList args.toList ds p := hA0
  rw [Try.params5] at hA hval
  obtain ⟨v0, vs0, d0, ds0, p0, q0, hargs, rfl, rfl, h0, r0⟩ := trodAll_cons hA
  obtain ⟨rfl, rfl, rfl⟩ := trodAll_nil r0
  obtain rfl : args = #[v0] := by cases args; simp_all
  obtain ⟨rfl, rfl⟩ := trodVars_none hV
  obtain ⟨a0, len0, cap0, rfl⟩ := okWide_slice Try.underlying22 (hval 0 22 v0 rfl rfl)
  have lt0 : ∀ x ∈ p0, x.block < W.heap.size := by obtain ⟨m, hm⟩ := h0; exact DataW.trod_lt m _ _ _ hm
  obtain ⟨bs0, rfl, mx0, rd0, wf0⟩ := open_bytes rfl Try.underlying22 Try.underlying5 (by kernel_rfl) h0
  clear hA0 hval0
  refine (walk a0 cap0 bs0 W mx0 rd0 wf0).mono fun e W' ⟨he, bel⟩ => ?_
  subst he
  exact ⟨_, rfl, _, _, _, [], _, [], hW', trodAll_mk1 (shut_bool Try.underlying4 _), (trodAll_cons_mk (Below.trod laidOut (by kernel_rfl) (of_decide_eq_true (by kernel_rfl)) h0 bel lt0) trodAll_mk0), rfl, bel.frame _, fun h => by cases h⟩

theorem proved : Rows.FnUnitsSaid :=
  OpenClaim.holds_of_wide 5 Try.f5 rfl rfl rfl rfl rfl rfl rfl ⟨rfl, rfl, rfl, rfl, rfl⟩ rfl rfl rfl rfl rfl (by kernel_rfl) Try.func5 (by kernel_rfl)
    (of_decide_eq_true (by kernel_rfl)) (by unfold Func.isWrapper; first | (rw [if_pos (by decide +kernel)]; kernel_rfl) | (rw [if_neg (by decide +kernel)]; exact ⟨rfl, rfl⟩))
    (fun os started H enc _ => lifted os started H enc)
#print axioms proved
end Go.Proofs.Ytignncjmbcdpaaa.lawUnits
