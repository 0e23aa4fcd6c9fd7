/-
math.Abs, math.IsNaN, math.IsInf, impl.finite, impl.unit, impl.isLimit.
-/
import Derived.Test.YtignncjmbcdpaaaLimitNext
import Derived.Test.YtignncjmbcdpaaaFloatVal
namespace Go.Proofs.Ytignncjmbcdpaaa
open Go Go.RowKit Ieee

theorem run_f64frombits (n : Int) (w : World) : (callFunc 131 #[.int .u64 n]).run Try.prog w = .ok (.value (.float .f64 n.toNat)) w := by
  rw [run_callFunc_extern Try.func131 (by kernel_rfl) (by kernel_rfl) (by kernel_rfl) (e := Extern.MathFloatBits.float64frombits) (by kernel_rfl)]; rfl

theorem andNot_sign64 {b : Nat} (hb : wfk .f64 b) : (bits .andNot .u64 (b : Int) 9223372036854775808).toNat = b % 9223372036854775808 := by
  rw [wfk_64] at hb
  have e : (BitVec.ofInt 64 (b : Int) &&& ~~~BitVec.ofInt 64 9223372036854775808).toNat = b % 9223372036854775808 := by
    rw [BitVec.toNat_and, BitVec.ofInt_natCast, BitVec.toNat_ofNat, Nat.mod_eq_of_lt hb]
    have : (~~~BitVec.ofInt 64 9223372036854775808).toNat = 2 ^ 63 - 1 := by decide
    rw [this, Nat.and_two_pow_sub_one_eq_mod]
  have e' : bits .andNot .u64 (b : Int) 9223372036854775808 = IntKind.u64.wrap ((BitVec.ofInt 64 (b : Int) &&& ~~~BitVec.ofInt 64 9223372036854775808).toNat : Int) := rfl
  rw [e', e, IntKind.wrap_u64]
  omega

/-- The word without its sign. -/
def abs64 (b : Nat) : Nat := b % 9223372036854775808

set_option maxHeartbeats 400000 in
theorem mathAbs_any (b : Nat) (w : World) (hb : wfk .f64 b) :
    Calls Try.prog 83 #[.float .f64 b] w fun e w' => e = .returned (.float .f64 (abs64 b)) ∧ w = w' := by
  have h1 := fun w => run_f64bits b w
  have h2 := fun n w => run_f64frombits n w
  go_enter Try.func83, Try.ntmps83
  go_wp2
  go_ret
  exact ⟨by rw [show abs64 b = (bits .andNot .u64 (b : Int) 9223372036854775808).toNat from (andNot_sign64 hb).symm]; rfl, rfl⟩

/-- Is the word a number? -/
def finB (b : Nat) : Bool := decide (abs64 b < 9218868437227405312)

theorem abs64_read (b : Nat) : double.read (abs64 b) = absD (match double.read b with | .nan _ t => .nan false t | d => d) := by
  have hs : double.signWeight = 9223372036854775808 := by decide +kernel
  unfold Format.read abs64
  simp only [hs, Nat.mod_mod]
  have : b % 9223372036854775808 / 9223372036854775808 = 0 := Nat.div_eq_of_lt (Nat.mod_lt _ (by decide))
  simp only [this]
  split
  · rfl
  · split
    · rfl
    · split <;> rfl

theorem finB_iff (b : Nat) : finB b = true ↔ fin .f64 b := by
  have hs : double.signWeight = 9223372036854775808 := by decide +kernel
  have hi : double.infRung = 9218868437227405312 := by decide +kernel
  unfold finB fin abs64
  show _ ↔ ∃ s m e, double.read b = .number s m e
  unfold Format.read
  simp only [hs, hi]
  constructor
  · intro h
    have h := of_decide_eq_true h
    split
    · exact ⟨_, _, _, rfl⟩
    · first | exact ⟨_, _, _, rfl⟩ | (rw [if_pos h]; exact ⟨_, _, _, rfl⟩)
  · rintro ⟨s, m, e, h⟩
    apply decide_eq_true
    have hb : double.binade ≤ double.infRung := binade_le _ (by decide)
    rw [hi] at hb
    split at h
    · omega
    · split at h
      · assumption
      · split at h <;> cases h

theorem max64_fin : fin .f64 9218868437227405311 := ⟨false, 9007199254740991, 971, by decide +kernel⟩
/-- What impl.finite asks. -/
theorem finB_ask (b : Nat) : (!isN .f64 b && !fgt .f64 (abs64 b) 9218868437227405311) = finB b := by
  cases hn : isN .f64 b
  · cases hf : finB b
    · -- an infinity
      have hnf : ¬ fin .f64 b := fun h => by rw [(finB_iff b).2 h] at hf; cases hf
      have hr : ∃ s, double.read b = .infinity s := by
        cases hr : double.read b with
        | number s m e => exact absurd ⟨s, m, e, hr⟩ hnf
        | infinity s => exact ⟨s, rfl⟩
        | nan s t => unfold isN at hn; rw [show FloatKind.f64.format.read b = .nan s t from hr] at hn; cases hn
      obtain ⟨s, hr⟩ := hr
      have ha : FloatKind.f64.format.read (abs64 b) = .infinity false := by
        show double.read _ = _
        rw [abs64_read, hr]; rfl
      have hm : FloatKind.f64.format.read 9218868437227405311 = .number false 9007199254740991 971 := by decide +kernel
      have : fgt .f64 (abs64 b) 9218868437227405311 = true := by unfold fgt Format.order; rw [ha, hm]; rfl
      rw [this]; rfl
    · obtain ⟨s, m, e, hr⟩ := (finB_iff b).1 hf
      have ha : FloatKind.f64.format.read (abs64 b) = .number false m e := by
        show double.read _ = _
        rw [abs64_read, show double.read b = .number s m e from hr]; rfl
      have hm : FloatKind.f64.format.read 9218868437227405311 = .number false 9007199254740991 971 := by decide +kernel
      obtain ⟨b1, b2, b3, b4, _⟩ := read_bounds double (by decide) hr
      have e1 : double.leastPlace = -1074 := by decide +kernel
      have e2 : double.binade = 4503599627370496 := by decide +kernel
      have e3 : double.infRung = 9218868437227405312 := by decide +kernel
      rw [e1] at b1 b3 b4
      rw [e2] at b2 b3 b4
      rw [e3] at b4
      have he : e ≤ 971 := by
        rcases Int.lt_or_le 971 e with h | h
        · exfalso; have := b3 (by omega); omega
        · exact h
      have hle : fv .f64 (abs64 b) ≤ fv .f64 9218868437227405311 := by
        unfold fv
        rw [ha, hm, dval_num, dval_num]
        simp only [Bool.false_eq_true, if_false]
        have h1 : mval m e ≤ mval 9007199254740991 e := mval_le (by omega)
        have h2 : mval 9007199254740991 e ≤ mval 9007199254740991 971 := Rat.mul_le_mul_of_nonneg_left (pw_mono he) Rat.natCast_nonneg
        exact Rat.le_trans h1 h2
      have : fgt .f64 (abs64 b) 9218868437227405311 = false := by
        cases h : fgt .f64 (abs64 b) 9218868437227405311
        · rfl
        · have := (fgt_iff ⟨_, _, _, ha⟩ max64_fin).1 h
          exact absurd this (Rat.not_lt.2 hle)
      rw [this]; rfl
  · cases hf : finB b
    · rfl
    · have := fin_num ((finB_iff b).1 hf)
      rw [hn] at this; cases this

set_option maxHeartbeats 400000 in
theorem isNaN_any (b : Nat) (w : World) : Calls Try.prog 154 #[.float .f64 b] w fun e w' => e = .returned (.bool (isN .f64 b)) ∧ w = w' := by
  have h := feq_self .f64 b
  go_enter Try.func154, Try.ntmps154
  go_wp2
  go_ret
  exact ⟨ret_bool (by simp [h]), rfl⟩

def max64 : Nat := 9218868437227405311
set_option maxHeartbeats 400000 in
theorem isInf_any (b : Nat) (w : World) (hb : wfk .f64 b) : Calls Try.prog 155 #[.float .f64 b, .int .i64 0] w fun e w' => e = .returned (.bool (fgt .f64 (abs64 b) max64)) ∧ w = w' := by
  go_enter Try.func155, Try.ntmps155
  go_wp2_with fail
  refine (mathAbs_any b _ hb).mono ?_
  rintro e w' ⟨rfl, rfl⟩
  go_wp2_with fail
  go_ret
  exact ⟨rfl, rfl⟩

set_option maxHeartbeats 400000 in
theorem finite_any (b : Nat) (w : World) (hb : wfk .f64 b) : Calls Try.prog 122 #[.float .f64 b] w fun e w' => e = .returned (.bool (finB b)) ∧ w = w' := by
  have hask := Lib.hid (finB_ask b)
  cases hn : isN .f64 b
  · rw [hn] at hask
    go_enter Try.func122, Try.ntmps122
    go_wp2_with fail
    refine (isNaN_any b _).mono ?_
    rintro e w' ⟨rfl, rfl⟩
    go_wp2_with fail
    refine (isInf_any b _ hb).mono ?_
    rintro e w' ⟨rfl, rfl⟩
    go_wp2_with fail
    go_ret
    exact ⟨ret_bool (by rw [← hask.out]; rfl), rfl⟩
  · rw [hn] at hask
    go_enter Try.func122, Try.ntmps122
    go_wp2_with fail
    refine (isNaN_any b _).mono ?_
    rintro e w' ⟨rfl, rfl⟩
    go_wp2_with fail
    go_ret
    exact ⟨ret_bool (by rw [← hask.out]; rfl), rfl⟩
end Go.Proofs.Ytignncjmbcdpaaa
