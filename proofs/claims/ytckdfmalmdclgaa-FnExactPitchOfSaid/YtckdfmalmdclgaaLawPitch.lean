/-
The law FnExactPitchOf returns true for all samples and all rates. No condition.
-/
import Derived.Test.YtckdfmalmdclgaaCross
import Derived.Test.YtckdfmalmdclgaaOpen
namespace Go.Proofs.Ytckdfmalmdclgaa.lawPitch
open Go Go.RowKit Go.ChangeShapes Go.WideShapes

theorem int_lt (k : FloatKind) (n : Int) : wfk k (floatOfInt k n) := wfk_lit (floatOfInt_wf k n)
/-- The pitch, a NaN being the one NaN. -/
def pitch (bs : List Nat) (rate : Int) : Nat :=
  if bs.length = 0 then 0 else fo .quo .f64 (fo .mul .f64 (floatOfInt .f64 (cross bs bs.length)) (floatOfInt .f64 rate)) (floatOfInt .f64 bs.length)
def PitchPost (bs : List Nat) (rate : Int) (w : World) (e : Ending) (w' : World) : Prop :=
  ∃ r n : Nat, e = .returned (.float .f64 r) ∧ nrm .f64 r = pitch bs rate ∧ wfk .f64 r ∧ w.drewN n = w'

theorem pitch_zero {bs : List Nat} {rate : Int} (h : bs.length = 0) : nrm .f64 0 = pitch bs rate := by
  unfold pitch; rw [if_pos h]; decide +kernel
theorem pitch_some {bs : List Nat} {rate : Int} {p r : Nat} (h : ¬ bs.length = 0) (hp : nrm .f64 p = fo .mul .f64 (floatOfInt .f64 (cross bs bs.length)) (floatOfInt .f64 rate))
    (hr : nrm .f64 r = fo .quo .f64 p (floatOfInt .f64 bs.length)) : nrm .f64 r = pitch bs rate := by
  unfold pitch; rw [if_neg h, hr]; exact fo_congr (by rw [nrm_fo, hp]) rfl

set_option maxHeartbeats 400000 in
theorem spec_pitch (A : Option Addr) (c : Nat) (bs : List Nat) (rate : Int) (w : World) (hr : Rd w A (f32s bs)) (hm : bs.length ≤ 1048576) :
    Calls Try.prog 15 #[.slice A bs.length c, .int .i64 rate] w (PitchPost bs rate w) := by
  by_cases h0 : bs.length = 0
  · have H0 := Lib.hid h0
    have h1 : ((bs.length : Int) == 0) = true := by rw [h0]; rfl
    clear h0
    go_enter Try.func15, Try.ntmps15
    go_wp2
    go_ret
    exact ⟨0, 0, rfl, pitch_zero H0.out, by rw [wfk_64]; decide, rfl⟩
  · have h1 : ((bs.length : Int) == 0) = false := beq_eq_false_iff_ne.2 (by omega)
    have H0 := Lib.hid h0
    have Hp := Lib.hid (fun p r => pitch_some (rate := rate) (p := p) (r := r) h0)
    clear h0
    go_enter Try.func15, Try.ntmps15
    go_wp2_with fail
    refine (spec_crossings A c bs _ hr hm).mono ?_
    rintro e w' ⟨rfl, rfl⟩
    go_wp2_with fail
    go_ret
    refine ⟨_, _, rfl, Hp.out _ _ ?_ (nrm_fR _ _ _ _ _), fR_lt _ _ _ _ _, rfl⟩
    exact nrm_fR _ _ _ _ _

set_option maxHeartbeats 400000 in
theorem impl_pitch (A : Option Addr) (c : Nat) (bs : List Nat) (rate : Int) (w : World) (hr : Rd w A (f32s bs)) (hm : bs.length ≤ 1048576) :
    Calls Try.prog 16 #[.slice A bs.length c, .int .i64 rate] w (PitchPost bs rate w) := by
  by_cases h0 : bs.length = 0
  · have H0 := Lib.hid h0
    have h1 : ((bs.length : Int) == 0) = true := by rw [h0]; rfl
    clear h0
    go_enter Try.func16, Try.ntmps16
    go_wp2
    go_ret
    exact ⟨0, 0, rfl, pitch_zero H0.out, by rw [wfk_64]; decide, rfl⟩
  · have h1 : ((bs.length : Int) == 0) = false := beq_eq_false_iff_ne.2 (by omega)
    have H0 := Lib.hid h0
    have Hp := Lib.hid (fun p r => pitch_some (rate := rate) (p := p) (r := r) h0)
    clear h0
    go_enter Try.func16, Try.ntmps16
    go_wp2_with fail
    refine (impl_crossings A c bs _ hr hm).mono ?_
    rintro e w' ⟨rfl, rfl⟩
    go_wp2_with fail
    go_ret
    refine ⟨_, _, rfl, Hp.out _ _ ?_ (nrm_fR _ _ _ _ _), fR_lt _ _ _ _ _, rfl⟩
    exact nrm_fR _ _ _ _ _

theorem same_self {k : FloatKind} (a : Nat) : sameB k a a = true := by simp [sameB]

set_option maxHeartbeats 1000000 in
theorem walk (A : Option Addr) (c : Nat) (bs : List Nat) (rate : Int) (w : World) (_ : bs.length ≤ maxLen) (hr : Rd w A (f32s bs)) (hwf : ∀ i, i < bs.length → wfk .f32 (bs.getD i 0)) (_ : (Lit.int .i64 rate).wf = true) :
    Calls Try.prog 5 #[.slice A bs.length c, .int .i64 rate] w fun e w' => e = .returned (.bool true) ∧ Below w.heap.size w w' := by
  by_cases hm : bs.length ≤ 1048576
  · have Hwf := Lib.hid (fun i hi => (⟨hwf i hi, hwf i hi, same_self _⟩ : wfk .f32 (bs.getD i 0) ∧ wfk .f32 (bs.getD i 0) ∧ sameB .f32 (bs.getD i 0) (bs.getD i 0) = true))
    clear hwf
    go_enter Try.func5, Try.ntmps5
    go_wp2_with fail
    refine (toF32_any A c bs w hr hm).mono ?_
    rintro e w1 ⟨rfl, h1⟩
    go_wp2_with fail
    refine (spec_pitch _ _ bs rate _ h1.rd hm).mono ?_
    rintro e w' ⟨r1, n1, rfl, hr1, wf1, rfl⟩
    have Hr1 := Lib.hid hr1
    clear hr1
    go_wp2_with fail
    have hrd1 := (hr.below h1.below).drewN n1
    refine (toF32_any A c bs (w1.drewN n1) hrd1 hm).mono ?_
    rintro e w2 ⟨rfl, h2⟩
    go_wp2_with fail
    refine (impl_pitch _ _ bs rate _ h2.rd hm).mono ?_
    rintro e w' ⟨r2, n2, rfl, hr2, wf2, rfl⟩
    have Hr2 := Lib.hid hr2
    clear hr2
    go_wp2_with fail
    refine (sameFloat_true _ _ _ wf2 wf1 ?_).mono ?_
    · exact Hr2.out.trans Hr1.out.symm
    rintro e w' ⟨rfl, rfl⟩
    go_wp2_with fail
    refine (toF32_any A c bs (w2.drewN n2) ((hrd1.below h2.below).drewN n2) hm).mono ?_
    rintro e w3 ⟨rfl, h3⟩
    go_wp2_with fail
    refine (eqF32_any _ _ _ _ _ bs bs w3 ((h2.rd.drewN n2).below h3.below) h3.rd hm rfl rfl Hwf.out).mono ?_
    rintro e w4 ⟨rfl, n, rfl⟩
    go_wp2_with fail
    go_ret
    exact ⟨rfl, below_drewN (((below_drewN h1.below n1).trans (below_drewN (h2.below.mono h1.below.size) n2)).trans (h3.below.mono (Nat.le_trans h1.below.size h2.below.size))) n⟩
  · go_enter Try.func5, Try.ntmps5
    go_wp2
    go_ret
    exact ⟨rfl, Below.refl _ _⟩
set_option maxRecDepth 100000 in
theorem lifted (os : Os) (started : os.Started) (H : Type) (enc : TypeId × Value → H) :
    ReturnsInHanded {} Try.checked os 5 .any (Rows.fnExactPitchOfSpec.pre6 enc Try.prog Try.f5 Rows.fnExactPitchOfRow.domain false) (Rows.fnExactPitchOfSpec.post enc Try.prog Try.f5 false true false false) := by
  refine returnsInHanded_of_change (C := Try.checked) own started (by kernel_rfl) Try.func5
    (ChangeSpec.witness6 (enc := enc) (C := Try.checked) false ⟨#[], #[.slice none 0 0, .int .i64 0], []⟩ 8 (by kernel_rfl) (by kernel_rfl) (by kernel_rfl) (by kernel_rfl)) ?_
  intro W base args ds gs before hval0 hW hcnd _
  have hval : ∀ (j : Nat) t v, Try.f5.params[j]? = some t → args[j]? = some v → Value.okWide Try.prog W .any base t v := hval0
  have hW' := hW
  obtain ⟨p, q, hA0, hV, rfl, hfz, hnd⟩ := hW
  have hA : DataW.TrodAll enc Try.prog W 0 (fun _ => true) true Try.f5.params.toList args.toList ds p := hA0
  rw [Try.params5] at hA hval
  obtain ⟨v0, vs0, d0, ds0, p0, q0, hargs, rfl, rfl, h0, r0⟩ := trodAll_cons hA
  obtain ⟨v1, vs1, d1, ds1, p1, q1, rfl, rfl, rfl, h1, r1⟩ := trodAll_cons r0
  obtain ⟨rfl, rfl, rfl⟩ := trodAll_nil r1
  obtain rfl : args = #[v0, v1] := by cases args; simp_all
  obtain ⟨rfl, rfl⟩ := trodVars_none hV
  obtain ⟨a0, len0, cap0, rfl⟩ := okWide_slice Try.underlying22 (hval 0 22 v0 rfl rfl)
  have lt0 : ∀ x ∈ p0, x.block < W.heap.size := by obtain ⟨m, hm⟩ := h0; exact DataW.trod_lt m _ _ _ hm
  obtain ⟨bs0, rfl, mx0, rd0, wf0⟩ := open_floats rfl Try.underlying22 Try.underlying27 (by kernel_rfl) h0
  obtain ⟨a1, rfl, rfl, rfl, wf1⟩ := open_int Try.underlying3 (hval 1 3 v1 rfl rfl) h1
  clear hA0 hval0
  refine (walk a0 cap0 bs0 a1 W mx0 rd0 wf0 wf1).mono fun e W' ⟨he, bel⟩ => ?_
  subst he
  exact ⟨_, rfl, _, _, _, [], _, [], hW', trodAll_mk1 (shut_bool Try.underlying4 _), (trodAll_cons_mk (Below.trod laidOut (by kernel_rfl) (of_decide_eq_true (by kernel_rfl)) h0 bel lt0) (trodAll_cons_mk (shut_int Try.underlying3 wf1) trodAll_mk0)), rfl, bel.frame _, fun h => by cases h⟩

theorem proved : Rows.FnExactPitchOfSaid :=
  OpenClaim.holds_of_wide 5 Try.f5 rfl rfl rfl rfl rfl rfl rfl ⟨rfl, rfl, rfl, rfl, rfl⟩ rfl rfl rfl rfl rfl (by kernel_rfl) Try.func5 (by kernel_rfl)
    (of_decide_eq_true (by kernel_rfl)) (by unfold Func.isWrapper; first | (rw [if_pos (by decide +kernel)]; kernel_rfl) | (rw [if_neg (by decide +kernel)]; exact ⟨rfl, rfl⟩))
    (fun os started H enc _ => lifted os started H enc)
#print axioms proved
end Go.Proofs.Ytckdfmalmdclgaa.lawPitch
