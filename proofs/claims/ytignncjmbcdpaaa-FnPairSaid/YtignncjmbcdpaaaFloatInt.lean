/-
A floating-point number as an integer: int(x), cut towards zero. (Plain arithmetic.)
-/
import Derived.Test.YtignncjmbcdpaaaAids
namespace Go.Proofs.Ytignncjmbcdpaaa
open Go Go.RowKit Ieee

theorem cut_zero (s : Bool) (n d : Nat) : Toward.zero.cut s n d = n / 2 ^ d := by
  unfold Toward.cut
  simp only [Bool.toNat_false, Nat.add_zero, Nat.shiftLeft_eq, Nat.one_mul]
  rcases Nat.le_total d (n.log2 + 2) with h | h
  · rw [Nat.min_eq_left h]
  · rw [Nat.min_eq_right h]
    have h1 : n < 2 ^ (n.log2 + 1) := Nat.lt_log2_self
    have h2 : 2 ^ (n.log2 + 1) ≤ 2 ^ (n.log2 + 2) := Nat.pow_le_pow_right (by decide) (by omega)
    have h3 : 2 ^ (n.log2 + 2) ≤ 2 ^ d := Nat.pow_le_pow_right (by decide) h
    rw [Nat.div_eq_of_lt (by omega), Nat.div_eq_of_lt (by omega)]
theorem floor_val (m d : Nat) : ((m / 2 ^ d : Nat) : Rat) ≤ mval m (-(d : Int)) ∧ mval m (-(d : Int)) < ((m / 2 ^ d : Nat) : Rat) + 1 := by
  have e : ∀ q : Nat, mval (q * 2 ^ d) (-(d : Int)) = (q : Rat) := fun q => by
    rw [mval_scale', show -(d : Int) + d = 0 by omega]; unfold mval; rw [pw_zero]; simp
  have hp : 0 < 2 ^ d := Nat.two_pow_pos d
  have h := Nat.div_add_mod m (2 ^ d)
  have hr := Nat.mod_lt m hp
  constructor
  · rw [← e (m / 2 ^ d)]
    exact mval_le (Nat.div_mul_le_self m (2 ^ d))
  · have := e (m / 2 ^ d + 1)
    rw [show ((m / 2 ^ d : Nat) : Rat) + 1 = ((m / 2 ^ d + 1 : Nat) : Rat) by simp, ← this]
    refine mval_lt ?_
    rw [Nat.add_mul, Nat.mul_comm (m / 2 ^ d)]
    omega
theorem to_int {x : Nat} (hx : fin .f64 x) (h0 : 0 ≤ fv .f64 x) (h1 : fv .f64 x < 2 ^ 53) : ∃ n : Nat, floatToIntVal .f64 x .i64 = some (n : Int) ∧ (n : Rat) ≤ fv .f64 x ∧ fv .f64 x < (n : Rat) + 1 ∧ n < 2 ^ 53 := by
  obtain ⟨s, m, i, hr⟩ := hx
  have hv : fv .f64 x = if s = true then -mval m i else mval m i := by unfold fv; rw [hr, dval_num]
  have hd : FloatKind.f64.decode x = .number s m i := hr
  have hm0 := mval_nonneg m i
  have key : mval m i = mval (m * 2 ^ i.toNat) (-(((-i).toNat : Nat) : Int)) := by
    rw [mval_scale']; congr 1; omega
  obtain ⟨f1, f2⟩ := floor_val (m * 2 ^ i.toNat) (-i).toNat
  rw [← key] at f1 f2
  have hi : (FloatKind.f64.decode x).toInt .zero = some (signed s (m * 2 ^ i.toNat / 2 ^ (-i).toNat) 0) := by
    rw [hd]; unfold Datum.toInt Datum.integral
    simp only [cut_zero, Nat.shiftLeft_eq]
  have hs : signed s (m * 2 ^ i.toNat / 2 ^ (-i).toNat) 0 = ((m * 2 ^ i.toNat / 2 ^ (-i).toNat : Nat) : Int) ∧ fv .f64 x = mval m i := by
    cases s
    · refine ⟨?_, by rw [hv]; simp⟩
      simp [signed]
    · simp only [if_true] at hv
      have hz : mval m i = 0 := by rw [hv] at h0; grind
      have := mval_eq_zero hz
      subst this
      refine ⟨?_, by rw [hv, hz]; simp⟩
      simp [signed]
  generalize m * 2 ^ i.toNat / 2 ^ (-i).toNat = q at *
  rw [hs.2]
  have hq : q < 2 ^ 53 := by
    rw [hs.2] at h1
    have h2 : (q : Rat) < ((2 ^ 53 : Nat) : Rat) := by
      have : ((2 ^ 53 : Nat) : Rat) = 2 ^ 53 := by simp; grind
      rw [this]; grind
    exact Rat.natCast_lt_natCast.1 h2
  refine ⟨q, ?_, f1, f2, hq⟩
  unfold floatToIntVal
  rw [hi, hs.1]
  have e1 : IntKind.i64.min = -9223372036854775808 := by decide
  have e2 : IntKind.i64.max = 9223372036854775807 := by decide
  simp only [e1, e2]
  rw [if_pos (by omega)]
end Go.Proofs.Ytignncjmbcdpaaa
