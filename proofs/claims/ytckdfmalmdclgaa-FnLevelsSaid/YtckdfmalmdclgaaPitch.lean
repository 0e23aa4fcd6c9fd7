/-
What spec.PitchOf and impl.PitchOf return.
-/
import Derived.Test.YtckdfmalmdclgaaCross
namespace Go.Proofs.Ytckdfmalmdclgaa
open Go Go.RowKit

theorem int_lt (k : FloatKind) (n : Int) : wfk k (floatOfInt k n) := wfk_lit (floatOfInt_wf k n)
/-- The pitch, a NaN being the one NaN. -/
def pitch (bs : List Nat) (rate : Int) : Nat :=
  if bs.length = 0 then 0 else fo .quo .f64 (fo .mul .f64 (floatOfInt .f64 (cross bs bs.length)) (floatOfInt .f64 rate)) (floatOfInt .f64 bs.length)
def PitchPost (bs : List Nat) (rate : Int) (w : World) (e : Ending) (w' : World) : Prop :=
  ∃ r n : Nat, e = .returned (.float .f64 r) ∧ nrm .f64 r = pitch bs rate ∧ wfk .f64 r ∧ w.drewN n = w'

theorem pitch_zero {bs : List Nat} {rate : Int} (h : bs.length = 0) : nrm .f64 0 = pitch bs rate := by
  unfold pitch; rw [if_pos h]; decide +kernel
theorem pitch_some {bs : List Nat} {rate : Int} {p r : Nat} (h : ¬ bs.length = 0) (hp : nrm .f64 p = fo .mul .f64 (floatOfInt .f64 (cross bs bs.length)) (floatOfInt .f64 rate))
    (hr : nrm .f64 r = fo .quo .f64 p (floatOfInt .f64 bs.length)) : nrm .f64 r = pitch bs rate := by
  unfold pitch; rw [if_neg h, hr]; exact fo_congr (by rw [nrm_fo, hp]) rfl

set_option maxHeartbeats 400000 in
theorem spec_pitch (A : Option Addr) (c : Nat) (bs : List Nat) (rate : Int) (w : World) (hr : Rd w A (f32s bs)) (hm : bs.length ≤ 1048576) :
    Calls Try.prog 15 #[.slice A bs.length c, .int .i64 rate] w (PitchPost bs rate w) := by
  by_cases h0 : bs.length = 0
  · have H0 := Lib.hid h0
    have h1 : ((bs.length : Int) == 0) = true := by rw [h0]; rfl
    clear h0
    go_enter Try.func15, Try.ntmps15
    go_wp2
    go_ret
    exact ⟨0, 0, rfl, pitch_zero H0.out, by rw [wfk_64]; decide, rfl⟩
  · have h1 : ((bs.length : Int) == 0) = false := beq_eq_false_iff_ne.2 (by omega)
    have H0 := Lib.hid h0
    have Hp := Lib.hid (fun p r => pitch_some (rate := rate) (p := p) (r := r) h0)
    clear h0
    go_enter Try.func15, Try.ntmps15
    go_wp2_with fail
    refine (spec_crossings A c bs _ hr hm).mono ?_
    rintro e w' ⟨rfl, rfl⟩
    go_wp2_with fail
    go_ret
    refine ⟨_, _, rfl, Hp.out _ _ ?_ (nrm_fR _ _ _ _ _), fR_lt _ _ _ _ _, rfl⟩
    exact nrm_fR _ _ _ _ _

set_option maxHeartbeats 400000 in
theorem impl_pitch (A : Option Addr) (c : Nat) (bs : List Nat) (rate : Int) (w : World) (hr : Rd w A (f32s bs)) (hm : bs.length ≤ 1048576) :
    Calls Try.prog 16 #[.slice A bs.length c, .int .i64 rate] w (PitchPost bs rate w) := by
  by_cases h0 : bs.length = 0
  · have H0 := Lib.hid h0
    have h1 : ((bs.length : Int) == 0) = true := by rw [h0]; rfl
    clear h0
    go_enter Try.func16, Try.ntmps16
    go_wp2
    go_ret
    exact ⟨0, 0, rfl, pitch_zero H0.out, by rw [wfk_64]; decide, rfl⟩
  · have h1 : ((bs.length : Int) == 0) = false := beq_eq_false_iff_ne.2 (by omega)
    have H0 := Lib.hid h0
    have Hp := Lib.hid (fun p r => pitch_some (rate := rate) (p := p) (r := r) h0)
    clear h0
    go_enter Try.func16, Try.ntmps16
    go_wp2_with fail
    refine (impl_crossings A c bs _ hr hm).mono ?_
    rintro e w' ⟨rfl, rfl⟩
    go_wp2_with fail
    go_ret
    refine ⟨_, _, rfl, Hp.out _ _ ?_ (nrm_fR _ _ _ _ _), fR_lt _ _ _ _ _, rfl⟩
    exact nrm_fR _ _ _ _ _

end Go.Proofs.Ytckdfmalmdclgaa
