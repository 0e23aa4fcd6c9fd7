/-
Walks of the small functions of complex numbers: sizes, finite, quotient of finite numbers.
-/
import Derived.Test.YtignncjmbcdpaaaAny
import Derived.Test.YtignncjmbcdpaaaUnitVal
namespace Go.Proofs.Ytignncjmbcdpaaa
open Go Go.RowKit Ieee

set_option maxHeartbeats 400000 in
theorem l1Finite_any (b : Nat) (w : World) : Calls Try.prog 130 #[.float .f64 b] w fun e w' => ∃ n, e = .returned (.bool (feq .f64 (fo .sub .f64 b b) 0)) ∧ w.drewN n = w' := by
  have h := Lib.hid (fun w => (feq_congr (by rw [nrm_fR, nrm_fo]) rfl : feq .f64 (fR .sub .f64 b b w) 0 = feq .f64 (fo .sub .f64 b b) 0))
  go_enter Try.func130, Try.ntmps130
  go_wp2_with fail
  go_ret
  exact ⟨_, ret_bool (h.out _), rfl⟩

set_option maxHeartbeats 400000 in
theorem specSize_any (a b : Nat) (w : World) : Calls Try.prog 56 #[.complex .f64 a b] w fun e w' => ∃ r n, e = .returned (.float .f64 r) ∧ nrm .f64 r = fo .add .f64 (absB a) (absB b) ∧ wfk .f64 r ∧ w.drewN n = w' := by
  go_enter Try.func56, Try.ntmps56
  go_wp2_with fail
  refine (l1Abs_any a _).mono ?_
  rintro e w' ⟨rfl, rfl⟩
  go_wp2_with fail
  refine (l1Abs_any b _).mono ?_
  rintro e w' ⟨rfl, rfl⟩
  go_wp2_with fail
  go_ret
  exact ⟨_, _, rfl, nrm_fR _ _ _ _ _, fR_lt _ _ _ _ _, rfl⟩

set_option maxHeartbeats 400000 in
theorem implSize_any (a b : Nat) (w : World) (ha : wfk .f64 a) (hb : wfk .f64 b) : Calls Try.prog 28 #[.complex .f64 a b] w fun e w' => ∃ r n, e = .returned (.float .f64 r) ∧ nrm .f64 r = fo .add .f64 (abs64 a) (abs64 b) ∧ wfk .f64 r ∧ w.drewN n = w' := by
  go_enter Try.func28, Try.ntmps28
  go_wp2_with fail
  refine (mathAbs_any a _ ha).mono ?_
  rintro e w' ⟨rfl, rfl⟩
  go_wp2_with fail
  refine (mathAbs_any b _ hb).mono ?_
  rintro e w' ⟨rfl, rfl⟩
  go_wp2_with fail
  go_ret
  exact ⟨_, _, rfl, nrm_fR _ _ _ _ _, fR_lt _ _ _ _ _, rfl⟩

set_option maxHeartbeats 400000 in
theorem finiteDouble_any (a b : Nat) (w : World) (ha : wfk .f64 a) (hb : wfk .f64 b) : Calls Try.prog 126 #[.complex .f64 a b] w fun e w' => e = .returned (.bool (finB a && finB b)) ∧ w = w' := by
  cases h : finB a
  · go_enter Try.func126, Try.ntmps126
    go_wp2_with fail
    refine (finite_any a _ ha).mono ?_
    rintro e w' ⟨rfl, rfl⟩
    rw [h]
    go_wp2_with fail
    go_ret
    exact ⟨rfl, rfl⟩
  · go_enter Try.func126, Try.ntmps126
    go_wp2_with fail
    refine (finite_any a _ ha).mono ?_
    rintro e w' ⟨rfl, rfl⟩
    rw [h]
    go_wp2_with fail
    refine (finite_any b _ hb).mono ?_
    rintro e w' ⟨rfl, rfl⟩
    go_wp2_with fail
    go_ret
    exact ⟨rfl, rfl⟩

set_option maxHeartbeats 400000 in
theorem specFinite_any (a b : Nat) (w : World) : Calls Try.prog 82 #[.complex .f64 a b] w fun e w' => ∃ n, e = .returned (.bool (feq .f64 (fo .sub .f64 a a) 0 && feq .f64 (fo .sub .f64 b b) 0)) ∧ w.drewN n = w' := by
  cases h : feq .f64 (fo .sub .f64 a a) 0
  · go_enter Try.func82, Try.ntmps82
    go_wp2_with fail
    refine (l1Finite_any a _).mono ?_
    rintro e w' ⟨n, rfl, rfl⟩
    rw [h]
    go_wp2_with fail
    go_ret
    exact ⟨_, rfl, rfl⟩
  · go_enter Try.func82, Try.ntmps82
    go_wp2_with fail
    refine (l1Finite_any a _).mono ?_
    rintro e w' ⟨n, rfl, rfl⟩
    rw [h]
    go_wp2_with fail
    refine (l1Finite_any b _).mono ?_
    rintro e w' ⟨m, rfl, rfl⟩
    go_wp2_with fail
    go_ret
    exact ⟨_, rfl, rfl⟩

theorem fRo {op : BinOp} {k : FloatKind} {x y x' y' : Nat} (hx : nrm k x = nrm k x') (hy : nrm k y = nrm k y') (w : World) : nrm k (fR op k x y w) = nrm k (fo op k x' y') := by
  rw [nrm_fR, nrm_fo]; exact fo_congr hx hy

/-- The quotient of finite numbers, part by part. -/
def quoRe (a b c d : Nat) : Nat :=
  if fge .f64 (abs64 c) (abs64 d) = true then fo .quo .f64 (fo .add .f64 a (fo .mul .f64 b (fo .quo .f64 d c))) (fo .add .f64 c (fo .mul .f64 (fo .quo .f64 d c) d))
  else fo .quo .f64 (fo .add .f64 (fo .mul .f64 a (fo .quo .f64 c d)) b) (fo .add .f64 d (fo .mul .f64 (fo .quo .f64 c d) c))
def quoIm (a b c d : Nat) : Nat :=
  if fge .f64 (abs64 c) (abs64 d) = true then fo .quo .f64 (fo .sub .f64 b (fo .mul .f64 a (fo .quo .f64 d c))) (fo .add .f64 c (fo .mul .f64 (fo .quo .f64 d c) d))
  else fo .quo .f64 (fo .sub .f64 (fo .mul .f64 b (fo .quo .f64 c d)) a) (fo .add .f64 d (fo .mul .f64 (fo .quo .f64 c d) c))

set_option maxHeartbeats 400000 in
theorem quot_any (a b c d : Nat) (w : World) (ha : wfk .f64 c) (hb : wfk .f64 d) : Calls Try.prog 128 #[.complex .f64 a b, .complex .f64 c d] w fun e w' => ∃ p q n, e = .returned (.complex .f64 p q) ∧
      nrm .f64 p = nrm .f64 (quoRe a b c d) ∧ nrm .f64 q = nrm .f64 (quoIm a b c d) ∧ wfk .f64 p ∧ wfk .f64 q ∧ w.drewN n = w' := by
  cases t : fge .f64 (abs64 c) (abs64 d)
  · have E1 : Hid (quoRe a b c d = fo .quo .f64 (fo .add .f64 (fo .mul .f64 a (fo .quo .f64 c d)) b) (fo .add .f64 d (fo .mul .f64 (fo .quo .f64 c d) c))) := if_neg (by rw [t]; simp)
    have E2 : Hid (quoIm a b c d = fo .quo .f64 (fo .sub .f64 (fo .mul .f64 b (fo .quo .f64 c d)) a) (fo .add .f64 d (fo .mul .f64 (fo .quo .f64 c d) c))) := if_neg (by rw [t]; simp)
    go_enter Try.func128, Try.ntmps128
    go_wp2_with fail
    refine (mathAbs_any c _ ha).mono ?_
    rintro e w' ⟨rfl, rfl⟩
    go_wp2_with fail
    refine (mathAbs_any d _ hb).mono ?_
    rintro e w' ⟨rfl, rfl⟩
    go_wp2_with fail
    go_ret
    exact ⟨_, _, _, rfl, by rw [E1.out]; exact fRo (fRo (fRo rfl (fRo rfl rfl _) _) rfl _) (fRo rfl (fRo (fRo rfl rfl _) rfl _) _) _,
      by rw [E2.out]; exact fRo (fRo (fRo rfl (fRo rfl rfl _) _) rfl _) (fRo rfl (fRo (fRo rfl rfl _) rfl _) _) _, fR_lt _ _ _ _ _, fR_lt _ _ _ _ _, rfl⟩
  · have E1 : Hid (quoRe a b c d = fo .quo .f64 (fo .add .f64 a (fo .mul .f64 b (fo .quo .f64 d c))) (fo .add .f64 c (fo .mul .f64 (fo .quo .f64 d c) d))) := if_pos t
    have E2 : Hid (quoIm a b c d = fo .quo .f64 (fo .sub .f64 b (fo .mul .f64 a (fo .quo .f64 d c))) (fo .add .f64 c (fo .mul .f64 (fo .quo .f64 d c) d))) := if_pos t
    go_enter Try.func128, Try.ntmps128
    go_wp2_with fail
    refine (mathAbs_any c _ ha).mono ?_
    rintro e w' ⟨rfl, rfl⟩
    go_wp2_with fail
    refine (mathAbs_any d _ hb).mono ?_
    rintro e w' ⟨rfl, rfl⟩
    go_wp2_with fail
    go_ret
    exact ⟨_, _, _, rfl, by rw [E1.out]; exact fRo (fRo rfl (fRo rfl (fRo rfl rfl _) _) _) (fRo rfl (fRo (fRo rfl rfl _) rfl _) _) _,
      by rw [E2.out]; exact fRo (fRo rfl (fRo rfl (fRo rfl rfl _) _) _) (fRo rfl (fRo (fRo rfl rfl _) rfl _) _) _, fR_lt _ _ _ _ _, fR_lt _ _ _ _ _, rfl⟩
end Go.Proofs.Ytignncjmbcdpaaa
