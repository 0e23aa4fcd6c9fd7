/-
spec.l1Parts, for numbers from 0 to 1 of single precision.
-/
import Derived.Test.YtignncjmbcdpaaaFloatInt
import Derived.Test.YtignncjmbcdpaaaUnitVal
namespace Go.Proofs.Ytignncjmbcdpaaa
open Go Go.RowKit Ieee

theorem parts_le {N k : Nat} (h1 : N < 2 ^ 24) : (N : Rat) * pw (-(k : Int)) ≤ 2 ^ 24 ∧ 0 ≤ (N : Rat) * pw (-(k : Int)) := by
  have hp : pw (-(k : Int)) ≤ 1 := by rw [← pw_zero]; exact pw_mono (by omega)
  have h0 := Rat.le_of_lt (pw_pos (-(k : Int)))
  have hN : (0 : Rat) ≤ N := Rat.natCast_nonneg
  have hN2 : (N : Rat) ≤ 2 ^ 24 := by
    have := Rat.natCast_le_natCast.2 (Nat.le_of_lt h1)
    have e : ((2 ^ 24 : Nat) : Rat) = 2 ^ 24 := by simp; grind
    rw [e] at this; exact this
  have := Rat.mul_le_mul_of_nonneg_left hp hN
  have h3 := Rat.mul_nonneg hN h0
  grind
theorem dbl {r N k : Nat} (hr : fin .f64 r) (hv : fv .f64 r = (N : Rat) * pw (-((k + 1 : Nat) : Int))) (h1 : N < 2 ^ 24) (hk : k ≤ 149) (w : World) :
    fin .f64 (fR .mul .f64 r 4611686018427387904 w) ∧ fv .f64 (fR .mul .f64 r 4611686018427387904 w) = (N : Rat) * pw (-(k : Int)) := by
  obtain ⟨t1, t2⟩ := two_fin
  have e : fv .f64 r * 2 = (N : Rat) * pw (-(k : Int)) := by
    have := pw_succ (-((k + 1 : Nat) : Int))
    rw [show -((k + 1 : Nat) : Int) + 1 = -(k : Int) by omega] at this
    rw [hv, this]; grind
  obtain ⟨p1, p2⟩ := parts_le (k := k) h1
  have ht := top210
  have hm := mul_spec hr t1 (by rw [t2, e, ab_of_nonneg p2]; grind)
  rw [t2, e] at hm
  have hf : Few .f64 ((N : Rat) * pw (-(k : Int))) := by
    refine ⟨(N : Int), -(k : Int), by rw [Rat.intCast_natCast], ?_, ?_⟩
    · have : FloatKind.f64.format.binade = 4503599627370496 := by decide +kernel
      rw [this]; omega
    · have : FloatKind.f64.format.leastPlace = -1074 := by decide +kernel
      rw [this]; omega
  have hx := hm.few hf (by rw [ab_of_nonneg p2]; grind)
  have hn := nrm_fin_eq (nrm_fR .mul .f64 r 4611686018427387904 w) hm.1
  rw [hn]
  exact ⟨hm.1, hx⟩
theorem big53 : fin .f64 4845873199050653696 ∧ fv .f64 4845873199050653696 = 2 ^ 53 := by
  have h : FloatKind.f64.format.read 4845873199050653696 = .number false 4503599627370496 1 := by decide +kernel
  obtain ⟨h1, h2⟩ := fin_of_read h
  refine ⟨h1, ?_⟩
  rw [h2, dval_num]
  unfold mval pw
  simp only [Bool.false_eq_true, if_false]
  grind
theorem not_big {r : Nat} (hr : fin .f64 r) (h : fv .f64 r ≤ 2 ^ 24) : fge .f64 r 4845873199050653696 = false := by
  obtain ⟨b1, b2⟩ := big53
  cases hc : fge .f64 r 4845873199050653696
  · rfl
  · have := (fge_iff hr b1).1 hc
    rw [b2] at this; grind
/-- int(x), and whether x is whole. -/
theorem whole {r N k : Nat} (hr : fin .f64 r) (hv : fv .f64 r = (N : Rat) * pw (-(k : Int))) (h0 : 0 < N) (h1 : N < 2 ^ 24) :
    ∃ n : Nat, floatToIntVal .f64 r .i64 = some (n : Int) ∧ n ≤ 2 ^ 24 ∧ (feq .f64 r (floatOfInt .f64 n) = true → 1 ≤ n) ∧ (k = 0 → feq .f64 r (floatOfInt .f64 n) = true) := by
  obtain ⟨p1, p2⟩ := parts_le (k := k) h1
  obtain ⟨n, q1, q2, q3, q4⟩ := to_int hr (by rw [hv]; exact p2) (by rw [hv]; grind)
  have hx := int_exact .f64 (n : Int) (by have : FloatKind.f64.format.binade = 4503599627370496 := by decide +kernel
                                          rw [this]; omega)
  have hxv : fv .f64 (floatOfInt .f64 n) = (n : Rat) := by rw [hx.2, Rat.intCast_natCast]
  refine ⟨n, q1, ?_, fun h => ?_, fun h => ?_⟩
  · rw [hv] at q2
    have h3 : (n : Rat) ≤ ((2 ^ 24 : Nat) : Rat) := by
      have e : ((2 ^ 24 : Nat) : Rat) = 2 ^ 24 := by simp; grind
      rw [e]; grind
    exact Rat.natCast_le_natCast.1 h3
  · have := (feq_iff hr hx.1).1 h
    rw [hxv, hv] at this
    rcases Nat.eq_zero_or_pos n with hz | hz
    · exfalso
      subst hz
      have hp := pw_pos (-(k : Int))
      have hN : (0 : Rat) < N := by have := Rat.natCast_lt_natCast.2 h0; simpa using this
      have := Rat.mul_pos hN hp
      simp at *
      grind
    · exact hz
  · subst h
    have e : fv .f64 r = (N : Rat) := by rw [hv, show -((0 : Nat) : Int) = 0 from rfl, pw_zero]; grind
    rw [e] at q2 q3
    have h2 := Rat.natCast_le_natCast.1 q2
    have h3 : N < n + 1 := Rat.natCast_lt_natCast.1 (by simpa using q3)
    obtain rfl : n = N := by omega
    exact (feq_iff hr hx.1).2 (by rw [hxv, e])
theorem half_ok {a n c : Nat} (h : a * 2 ^ c = n) (hn : n ≤ 2 ^ 24) (ha : 1 ≤ a) : c ≤ 24 := by
  have h1 : 2 ^ c ≤ 2 ^ 24 := by
    have := Nat.mul_le_mul_right (2 ^ c) ha
    omega
  exact (Nat.pow_le_pow_iff_right (by decide)).1 h1

set_option maxHeartbeats 400000 in
theorem parts_any (x N k0 : Nat) (w : World) (hx : fin .f64 x) (hv : fv .f64 x = (N : Rat) * pw (-(k0 : Int))) (h0 : 0 < N) (h1 : N < 2 ^ 24) (hk0 : k0 ≤ 149) : Calls Try.prog 163 #[.float .f64 x] w fun e w' =>
    ∃ (m j : Int) (n : Nat), e = .returned (.tuple #[.int .i64 m, .int .i64 j]) ∧ 1 ≤ m ∧ m ≤ 16777216 ∧ -200 ≤ j ∧ j ≤ 200 ∧ w.drewN n = w' := by
  have hbig := not_big hx (by rw [hv]; exact (parts_le h1).1)
  have HX := Lib.hid (And.intro hx hv)
  clear hx hv
  go_enter Try.func163, Try.ntmps163
  go_wp2_with fail
  go_loopw [0, 4] (fun y j wr => y = .float .f64 x ∧ j = .int .i64 0 ∧ wr = w) (fun _ _ _ => 0)
  case atStart => exact ⟨rfl, rfl, rfl⟩
  case round =>
    obtain ⟨rfl, rfl, rfl⟩ := hrel
    go_wp2_with fail
    go_loopw [0, 4] (fun y j w2 => ∃ (r k n : Nat) (i : Int), y = .float .f64 r ∧ j = .int .i64 i ∧ Hid (fin .f64 r ∧ fv .f64 r = (N : Rat) * pw (-(k : Int))) ∧ (k : Int) - 149 ≤ i ∧ i ≤ 0 ∧ k ≤ 149 ∧ w2 = wr.drewN n) (fun _ j _ => (intOf j + 149).toNat)
    case atStart => exact ⟨x, k0, 0, 0, rfl, rfl, HX, by omega, by omega, hk0, rfl⟩
    case round =>
      obtain ⟨r, k, n, i, rfl, rfl, hr, hi1, hi2, hk, rfl⟩ := hrel
      obtain ⟨q, q1, q2, q3, q4⟩ := whole hr.out.1 hr.out.2 h0 h1
      have hc := fun W => run_convert_float_int (P := Try.prog) W 30 3 .f64 .i64 r q (by kernel_rfl) (by kernel_rfl) q1
      have Q3 := Lib.hid q3
      have Q4 := Lib.hid q4
      clear q1 q3 q4
      cases t : feq .f64 r (floatOfInt .f64 q)
      · obtain ⟨k', rfl⟩ : ∃ k', k = k' + 1 := by
          rcases Nat.eq_zero_or_pos k with hz | hz
          · rw [Q4.out hz] at t; cases t
          · exact ⟨k - 1, by omega⟩
        have D := Lib.hid (fun w => dbl hr.out.1 hr.out.2 h1 (by omega) w)
        go_wp2_with fail
        go_roundw
        case rel => exact ⟨_, k', _, i - 1, rfl, by go_num, D.out _, by omega, by omega, by omega, rfl⟩
        case measure => simp [intOf]; omega
      · have hq1 := Q3.out t
        clear Q3 Q4
        go_wp2_with fail
        go_loopw [4, 5] (fun j m w3 => ∃ (a c : Nat), m = .int .i64 (a : Int) ∧ j = .int .i64 (i + c) ∧ a * 2 ^ c = q ∧ 1 ≤ a ∧ w3 = wr.drewN n) (fun _ m _ => (intOf m).toNat)
        case atStart => exact ⟨q, 0, rfl, by simp, by simp, hq1, rfl⟩
        case round =>
          obtain ⟨a, c, rfl, rfl, ha, ha1, rfl⟩ := hrel
          have hc24 := half_ok ha q2 ha1
          have hle : a ≤ q := by rw [← ha]; exact Nat.le_mul_of_pos_right a (Nat.two_pow_pos c)
          clear hc t
          by_cases hp : a % 2 = 0
          · obtain ⟨b, rfl⟩ : ∃ b, a = 2 * b := ⟨a / 2, by omega⟩
            have hm : decide (((2 * b : Nat) : Int) % 2 = 0) = true := by simp
            go_wp2_with fail
            go_roundw
            case rel => exact ⟨b, c + 1, by go_num, by go_num, by rw [Nat.pow_succ, ← ha, Nat.mul_comm 2 b, Nat.mul_assoc, Nat.mul_comm (2 ^ c)], by omega, trivial⟩
            case measure => simp [intOf]; omega
          · have hm : decide (((a : Nat) : Int) % 2 = 0) = false := by simp; omega
            go_wp2_with fail
            go_ret2
            exact ⟨_, _, _, rfl, by omega, by omega, by omega, by omega, rfl⟩
end Go.Proofs.Ytignncjmbcdpaaa
