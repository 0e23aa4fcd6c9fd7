/-
Part 7 of 8 of the proof of the law FnCut: it returns true for all codes. No condition.
-/
import Derived.Test.YtndnfhhdflmfcaaGreatLawCutM6

/-
spec.l1Parts of any finite number above 0: the odd integer and the exponent.
-/
namespace Go.Proofs.YtndnfhhdflmfcaaGreat
open Go Go.RowKit Ieee

/-- The odd integer and the exponent of a positive number. -/
def OddOf (v : Rat) (m : Nat) (j : Int) : Prop := m % 2 = 1 ∧ v = (m : Rat) * pw j
theorem pw_mul_nat (M c : Nat) (k : Int) : ((M * 2 ^ c : Nat) : Rat) * pw k = (M : Rat) * pw (k + c) := by
  induction c generalizing k with
  | zero => simp
  | succ c ih =>
    have h1 := ih (k + 1)
    have h2 := pw_succ k
    rw [show k + 1 + (c : Int) = k + ((c + 1 : Nat) : Int) by omega] at h1
    rw [← h1, h2, Nat.pow_succ]
    simp only [Rat.natCast_mul, Rat.natCast_pow]
    grind
theorem odd_unique_le {v : Rat} {m n : Nat} {i j : Int} (hm : OddOf v m i) (hn : OddOf v n j) (h : i ≤ j) : m = n ∧ i = j := by
  obtain ⟨c, rfl⟩ : ∃ c : Nat, j = i + c := ⟨(j - i).toNat, by omega⟩
  have h1 : (m : Rat) * pw i = ((n * 2 ^ c : Nat) : Rat) * pw i := by rw [pw_mul_nat, ← hm.2, hn.2]
  have h2 : (m : Rat) = ((n * 2 ^ c : Nat) : Rat) := by
    have hp := pw_pos i
    have : (m : Rat) * pw i * (pw i)⁻¹ = ((n * 2 ^ c : Nat) : Rat) * pw i * (pw i)⁻¹ := by rw [h1]
    have hne : pw i ≠ 0 := by grind
    rw [Rat.mul_assoc, Rat.mul_assoc, Rat.mul_inv_cancel _ hne, Rat.mul_one, Rat.mul_one] at this
    exact this
  have h3 : m = n * 2 ^ c := Rat.natCast_inj.1 h2
  have hc : c = 0 := by
    rcases Nat.eq_zero_or_pos c with h0 | h0
    · exact h0
    · exfalso
      obtain ⟨d, rfl⟩ : ∃ d, c = d + 1 := ⟨c - 1, by omega⟩
      have := hm.1
      rw [h3, Nat.pow_succ, ← Nat.mul_assoc] at this
      omega
  subst hc
  exact ⟨by simpa using h3, by simp⟩
theorem odd_unique {v : Rat} {m n : Nat} {i j : Int} (hm : OddOf v m i) (hn : OddOf v n j) : m = n ∧ i = j := by
  rcases Int.le_total i j with h | h
  · exact odd_unique_le hm hn h
  · obtain ⟨h1, h2⟩ := odd_unique_le hn hm h
    exact ⟨h1.symm, h2.symm⟩
/-- A number as an integer below 2^53 and an exponent. -/
structure ME (r M : Nat) (k : Int) : Prop where
  f : fin .f64 r
  v : fv .f64 r = (M : Rat) * pw k
theorem me_of {x : Nat} (hx : fin .f64 x) (h0 : 0 < fv .f64 x) : ∃ M k, ME x M k ∧ 0 < M ∧ M < 2 ^ 53 ∧ -1074 ≤ k ∧ k ≤ 971 := by
  have hx' := hx
  obtain ⟨s, m, e, hrd⟩ := hx
  obtain ⟨b1, b2, b3, b4, _⟩ := read_bounds FloatKind.f64.format (by decide) hrd
  have e1 : FloatKind.f64.format.leastPlace = -1074 := by decide +kernel
  have e2 : FloatKind.f64.format.binade = 4503599627370496 := by decide +kernel
  have e3 : FloatKind.f64.format.infRung = 9218868437227405312 := by decide +kernel
  rw [e1] at b1 b3 b4
  rw [e2] at b2 b3 b4
  rw [e3] at b4
  have hv : fv .f64 x = if s = true then -mval m e else mval m e := by unfold fv; rw [hrd, dval_num]
  have hm0 := mval_nonneg m e
  have hs : s = false := by
    cases s
    · rfl
    · simp only [if_true] at hv; exfalso; grind
  subst hs
  simp only [Bool.false_eq_true, if_false] at hv
  have hm : 0 < m := by
    rcases Nat.eq_zero_or_pos m with hz | hz
    · subst hz; rw [hv, mval_zero] at h0; grind
    · exact hz
  refine ⟨m, e, ⟨hx', hv⟩, hm, by omega, b1, ?_⟩
  rcases Int.lt_or_le (-1074) e with h | h
  · have := b3 h
    omega
  · omega
theorem ME.few {M : Nat} {k : Int} (h1 : M < 2 ^ 53) (hk : -1074 ≤ k) : Few .f64 ((M : Rat) * pw k) := by
  refine ⟨(M : Int), k, by rw [Rat.intCast_natCast], ?_, ?_⟩
  · have : FloatKind.f64.format.binade = 4503599627370496 := by decide +kernel
    rw [this]; omega
  · have : FloatKind.f64.format.leastPlace = -1074 := by decide +kernel
    rw [this]; omega
theorem ME.nonneg (M : Nat) (k : Int) : 0 ≤ (M : Rat) * pw k := Rat.mul_nonneg Rat.natCast_nonneg (Rat.le_of_lt (pw_pos k))
theorem pw53 : pw 53 = 2 ^ 53 := by unfold pw; exact Rat.zpow_natCast 2 53
theorem top53 : 2 * (2 : Rat) ^ 53 ≤ top .f64 := by
  have : pw 54 ≤ top .f64 := pw_mono (by decide)
  have h2 := pw_succ 53
  rw [pw53] at h2
  rw [show (53 : Int) + 1 = 54 from rfl] at h2
  grind
theorem ME.dbl {r M : Nat} {k : Int} (h : ME r M k) (h1 : M < 2 ^ 53) (hk : -1074 ≤ k) (hb : (M : Rat) * pw k < 2 ^ 53) (w : World) : ME (fR .mul .f64 r 4611686018427387904 w) M (k + 1) := by
  obtain ⟨t1, t2⟩ := two_fin
  have e : fv .f64 r * 2 = (M : Rat) * pw (k + 1) := by
    have := pw_succ k
    rw [h.v, this]; grind
  have p2 := ME.nonneg M (k + 1)
  have ht := top53
  have hle : (M : Rat) * pw (k + 1) ≤ top .f64 := by
    rw [pw_succ]; grind
  have hm := mul_spec h.f t1 (by rw [t2, e, ab_of_nonneg p2]; exact hle)
  rw [t2, e] at hm
  have hx := hm.few (ME.few h1 (by omega)) (by rw [ab_of_nonneg p2]; exact hle)
  have hn := nrm_fin_eq (nrm_fR .mul .f64 r 4611686018427387904 w) hm.1
  rw [hn]
  exact ⟨hm.1, hx⟩
theorem ME.half {r M : Nat} {k : Int} (h : ME r M (k + 1)) (h1 : M < 2 ^ 53) (hk : -1074 ≤ k) (hb : (M : Rat) * pw (k + 1) ≤ pw 1000) (w : World) : ME (fR .quo .f64 r 4611686018427387904 w) M k := by
  obtain ⟨t1, t2⟩ := two_fin
  have e : fv .f64 r / 2 = (M : Rat) * pw k := by
    have := pw_succ k
    rw [h.v, this]; grind
  have p2 := ME.nonneg M k
  have hle : 2 * ((M : Rat) * pw k) ≤ top .f64 := by
    rw [pw_succ] at hb
    show _ ≤ pw 1000
    grind
  have hm := div_spec h.f t1 (by rw [t2]; decide) (by rw [t2, e, ab_of_nonneg p2]; exact hle)
  rw [t2, e] at hm
  have hx := hm.few (ME.few h1 hk) (by rw [ab_of_nonneg p2]; grind)
  have hn := nrm_fin_eq (nrm_fR .quo .f64 r 4611686018427387904 w) hm.1
  rw [hn]
  exact ⟨hm.1, hx⟩
theorem ME.big {r M : Nat} {k : Int} (h : ME r M k) (h1 : M < 2 ^ 53) (t : fge .f64 r 4845873199050653696 = true) : 0 < k := by
  obtain ⟨b1, b2⟩ := big53
  have := (fge_iff h.f b1).1 t
  rw [b2, h.v] at this
  rcases Int.lt_or_le 0 k with q | q
  · exact q
  · exfalso
    have h2 : pw k ≤ 1 := by rw [← pw_zero]; exact pw_mono q
    have hM : (M : Rat) < 2 ^ 53 := by
      have := Rat.natCast_lt_natCast.2 h1
      have e : ((2 ^ 53 : Nat) : Rat) = 2 ^ 53 := by simp; grind
      rw [e] at this; exact this
    have := Rat.mul_le_mul_of_nonneg_left h2 (Rat.natCast_nonneg (a := M))
    grind
theorem ME.notBig {r M : Nat} {k : Int} (h : ME r M k) (t : fge .f64 r 4845873199050653696 = false) : (M : Rat) * pw k < 2 ^ 53 := by
  obtain ⟨b1, b2⟩ := big53
  rcases rat_lt_or_le ((M : Rat) * pw k) (2 ^ 53) with q | q
  · exact q
  · exfalso
    have : fge .f64 r 4845873199050653696 = true := (fge_iff h.f b1).2 (by rw [b2, h.v]; exact q)
    rw [this] at t; cases t
/-- int(x), and whether x is whole. -/
theorem ME.whole {r M : Nat} {k : Int} (h : ME r M k) (h0 : 0 < M) (hb : (M : Rat) * pw k < 2 ^ 53) :
    ∃ n : Nat, floatToIntVal .f64 r .i64 = some (n : Int) ∧ n < 2 ^ 53 ∧ (feq .f64 r (floatOfInt .f64 n) = true → 1 ≤ n ∧ (n : Rat) = (M : Rat) * pw k) ∧ (0 ≤ k → feq .f64 r (floatOfInt .f64 n) = true) := by
  obtain ⟨n, q1, q2, q3, q4⟩ := to_int h.f (by rw [h.v]; exact ME.nonneg _ _) (by rw [h.v]; exact hb)
  have hx := int_exact .f64 (n : Int) (by have : FloatKind.f64.format.binade = 4503599627370496 := by decide +kernel
                                          rw [this]; omega)
  have hxv : fv .f64 (floatOfInt .f64 n) = (n : Rat) := by rw [hx.2, Rat.intCast_natCast]
  have hN : (0 : Rat) < M := by have := Rat.natCast_lt_natCast.2 h0; simpa using this
  refine ⟨n, q1, q4, fun t => ?_, fun t => ?_⟩
  · have := (feq_iff h.f hx.1).1 t
    rw [hxv, h.v] at this
    refine ⟨?_, this.symm⟩
    rcases Nat.eq_zero_or_pos n with hz | hz
    · exfalso
      subst hz
      have := Rat.mul_pos hN (pw_pos k)
      simp at *
      grind
    · exact hz
  · obtain ⟨c, rfl⟩ : ∃ c : Nat, k = (c : Int) := ⟨k.toNat, by omega⟩
    have e : fv .f64 r = ((M * 2 ^ c : Nat) : Rat) := by
      rw [h.v]
      have := pw_mul_nat M c 0
      rw [pw_zero, Rat.mul_one, Int.zero_add] at this
      exact this.symm
    rw [e] at q2 q3
    have h2 := Rat.natCast_le_natCast.1 q2
    have h3 : M * 2 ^ c < n + 1 := Rat.natCast_lt_natCast.1 (by simpa using q3)
    have h4 : n = M * 2 ^ c := by omega
    exact (feq_iff h.f hx.1).2 (by rw [hxv, e, h4])
theorem half_ok53 {a n c : Nat} (h : a * 2 ^ c = n) (hn : n < 2 ^ 53) (ha : 1 ≤ a) : c ≤ 53 := by
  have h1 : 2 ^ c ≤ 2 ^ 53 := by
    have := Nat.mul_le_mul_right (2 ^ c) ha
    omega
  exact (Nat.pow_le_pow_iff_right (by decide)).1 h1
/-- What l1Parts returns. -/
def PartsP (x : Nat) (w : World) (e : Ending) (w' : World) : Prop :=
  ∃ (m : Nat) (j : Int) (n : Nat), e = .returned (.tuple #[.int .i64 m, .int .i64 j]) ∧ OddOf (fv .f64 x) m j ∧ m < 2 ^ 53 ∧ -3000 ≤ j ∧ j ≤ 3000 ∧ w.drewN n = w'
set_option maxHeartbeats 1600000 in
theorem parts64_any (x : Nat) (w : World) (hx : fin .f64 x) (h0 : 0 < fv .f64 x) (h1 : fv .f64 x ≤ pw 990) : Calls Tryz.prog 105 #[.float .f64 x] w (PartsP x w) := by
  obtain ⟨M, K, hme, hM0, hM1, hK1, hK2⟩ := me_of hx h0
  have HV : Hid ((M : Rat) * pw K = fv .f64 x) := Lib.hid hme.v.symm
  have HT : Hid ((M : Rat) * pw K ≤ pw 990) := Lib.hid (by rw [HV.out]; exact h1)
  have HX := Lib.hid hme
  have HM0 := Lib.hid hM0
  have HM1 := Lib.hid hM1
  clear hx h0 h1 hme hM0 hM1
  go_enter Tryz.func105, Tryz.ntmps105
  go_wp2_with fail
  go_loopw [0, 4] (fun y j wr => ∃ (r n : Nat) (k i : Int), y = .float .f64 r ∧ j = .int .i64 i ∧ Hid (ME r M k) ∧ i = K - k ∧ k ≤ K ∧ -1074 ≤ k ∧ wr = w.drewN n ∧ 0 ≤ n) (fun y j _ => (3000 - intOf j).toNat)
  case atStart => exact ⟨x, 0, K, 0, rfl, rfl, HX, by omega, by omega, hK1, rfl, Nat.zero_le _⟩
  case round =>
    obtain ⟨r, n, k, i, rfl, rfl, hr, rfl, hk, hk2, rfl, _⟩ := hrel
    cases t : fge .f64 r 4845873199050653696
    · have HB := Lib.hid (hr.out.notBig t)
      have H0 := Lib.hid hr.out
      clear hr HT
      go_wp2_with fail
      clear t
      go_loopw [0, 4] (fun y j w2 => ∃ (r k2 : _) (n2 : Nat), y = .float .f64 r ∧ j = .int .i64 (K - k2) ∧ Hid (ME r M k2 ∧ (M : Rat) * pw k2 < 2 ^ 53) ∧ k2 ≤ 1000 ∧ -1074 ≤ k2 ∧ w2 = w.drewN n2) (fun _ j _ => (3000 + intOf j).toNat)
      case atStart => exact ⟨r, k, n, rfl, rfl, ⟨H0.out, HB.out⟩, by omega, hk2, rfl⟩
      case round =>
        clear H0 HB hk hk2
        obtain ⟨r, k, n, rfl, rfl, hr, hk1, hk2, rfl⟩ := hrel
        obtain ⟨q, q1, q2, q3, q4⟩ := hr.out.1.whole HM0.out hr.out.2
        have hc := fun W => run_convert_float_int (P := Tryz.prog) W 63 3 .f64 .i64 r q (by kernel_rfl) (by kernel_rfl) q1
        have Q3 := Lib.hid q3
        have Q4 := Lib.hid q4
        clear q1 q3 q4
        cases t : feq .f64 r (floatOfInt .f64 q)
        · have hkn : k < 0 := by
            rcases Int.lt_or_le k 0 with h | h
            · exact h
            · rw [Q4.out h] at t; cases t
          have D := Lib.hid (fun w => hr.out.1.dbl HM1.out hk2 hr.out.2 w)
          have E : Hid ((M : Rat) * pw (k + 1) < 2 ^ 53) := Lib.hid (by
            have h1 : pw (k + 1) ≤ 1 := by rw [← pw_zero]; exact pw_mono (by omega)
            have h2 := Rat.mul_le_mul_of_nonneg_left h1 (Rat.natCast_nonneg (a := M))
            have hM : (M : Rat) < 2 ^ 53 := by
              have := Rat.natCast_lt_natCast.2 HM1.out
              have e : ((2 ^ 53 : Nat) : Rat) = 2 ^ 53 := by simp; grind
              rw [e] at this; exact this
            grind)
          go_wp2_with fail
          go_roundw
          case rel => exact ⟨_, k + 1, _, rfl, by go_num, ⟨D.out _, E.out⟩, by omega, by omega, rfl⟩
          case measure => simp [intOf]; omega
        · obtain ⟨hq1, hq2⟩ := Q3.out t
          have HQ2 := Lib.hid hq2
          clear Q3 Q4 hq2
          go_wp2_with fail
          go_loopw [4, 5] (fun j m w3 => ∃ (a c : Nat), m = .int .i64 (a : Int) ∧ j = .int .i64 (K - k + c) ∧ Hid (a * 2 ^ c = q) ∧ 1 ≤ a ∧ a ≤ q ∧ c ≤ 53 ∧ w3 = w.drewN n) (fun _ m _ => (intOf m).toNat)
          case atStart => exact ⟨q, 0, rfl, by simp, by simp [Hid], hq1, Nat.le_refl _, by omega, rfl⟩
          case round =>
            obtain ⟨a, c, rfl, rfl, ha, ha1, haq, hc53, rfl⟩ := hrel
            clear hc t
            have hq53 : q < 9007199254740992 := by omega
            by_cases hp : a % 2 = 0
            · obtain ⟨b, rfl⟩ : ∃ b, a = 2 * b := ⟨a / 2, by omega⟩
              have hm : decide (((2 * b : Nat) : Int) % 2 = 0) = true := by simp
              have hb : b * 2 ^ (c + 1) = q := by
                rw [Nat.pow_succ, ← ha.out, Nat.mul_comm 2 b, Nat.mul_assoc, Nat.mul_comm (2 ^ c)]
              have HB := Lib.hid hb
              have hc' : c + 1 ≤ 53 := half_ok53 hb q2 (by omega)
              clear hb
              go_wp2_with fail
              go_roundw
              case rel => exact ⟨b, c + 1, by go_num, by go_num, HB, by omega, by omega, hc', trivial⟩
              case measure => simp [intOf]; omega
            · have hm : decide (((a : Nat) : Int) % 2 = 0) = false := by simp; omega
              go_wp2_with fail
              go_ret2
              have hodd : OddOf (fv .f64 x) a (K - k + c) := by
                refine ⟨by omega, ?_⟩
                rw [← HV.out]
                have h1 := pw_mul_nat a c (K - k)
                rw [ha.out, HQ2.out] at h1
                rw [← h1, Rat.mul_assoc, ← pw_add]
                congr 2; omega
              exact ⟨a, _, _, rfl, hodd, by omega, by omega, by omega, rfl⟩
    · have hkp := hr.out.big HM1.out t
      obtain ⟨k', rfl⟩ : ∃ k', k = k' + 1 := ⟨k - 1, by omega⟩
      have hbd : (M : Rat) * pw (k' + 1) ≤ pw 1000 := by
        have h1 : pw (k' + 1) ≤ pw K := pw_mono (by omega)
        have h2 := Rat.mul_le_mul_of_nonneg_left h1 (Rat.natCast_nonneg (a := M))
        have h3 : pw 990 ≤ pw 1000 := pw_mono (by decide)
        have := HT.out
        grind
      have D := Lib.hid (fun w => hr.out.half HM1.out (by omega) hbd w)
      clear hbd
      go_wp2_with fail
      go_roundw
      case rel => exact ⟨_, _, k', _, rfl, by go_num, D.out _, by omega, by omega, by omega, rfl, Nat.zero_le _⟩
      case measure => simp [intOf]; omega
end Go.Proofs.YtndnfhhdflmfcaaGreat

/-
spec.l1Number: its text.
-/
namespace Go.Proofs.YtndnfhhdflmfcaaGreat
open Go Go.RowKit Ieee

/-- The decimal text of a number. -/
def decN (n : Nat) : ByteArray := if n < 10 then strOfNums [48 + (n : Int) % 10] else decN (n / 10) ++ strOfNums [48 + (n : Int) % 10]
termination_by n
decreasing_by omega
theorem decN_small {n : Nat} (h : n < 10) : decN n = strOfNums [48 + (n : Int) % 10] := by unfold decN; rw [if_pos h]
theorem decN_step {n : Nat} (h : ¬ n < 10) : decN n = decN (n / 10) ++ strOfNums [48 + (n : Int) % 10] := by rw [decN, if_neg h]
/-- The decimal text of an integer. -/
def numT (n : Int) : ByteArray := if n < 0 then ⟨#[45]⟩ ++ decN (-n).toNat else decN n.toNat
theorem decN_size (n d : Nat) (h : n < 10 ^ (d + 1)) : 1 ≤ (decN n).size ∧ (decN n).size ≤ d + 1 := by
  induction d generalizing n with
  | zero => rw [decN_small (by omega), strOfNums_size]; simp
  | succ d ih =>
    by_cases hn : n < 10
    · rw [decN_small hn, strOfNums_size]; simp
    · have := ih (n / 10) (by rw [Nat.pow_succ] at h; omega)
      rw [decN_step hn, ByteArray.size_append, strOfNums_size]; simp; omega
theorem numT_size {n : Int} (h0 : -1152921504606846976 ≤ n) (h1 : n ≤ 1152921504606846976) : 1 ≤ (numT n).size ∧ (numT n).size ≤ 22 := by
  unfold numT
  split
  · have := decN_size (-n).toNat 18 (by omega)
    rw [ByteArray.size_append]
    have e : (ByteArray.mk #[45]).size = 1 := rfl
    omega
  · have := decN_size n.toNat 18 (by omega)
    omega

set_option maxRecDepth 100000 in
set_option maxHeartbeats 400000 in
theorem num_pos (n0 : Nat) (w : World) (h1 : n0 ≤ 1152921504606846976) : Calls Tryz.prog 56 #[.int .i64 n0] w fun e w' => e = .returned (.string (decN n0)) ∧ Below w.heap.size w w' := by
  have hconv := byte_text
  go_enter Tryz.func56, Tryz.ntmps56
  go_wp2_with fail
  have hB0 : Hid (Below w.heap.size w (w.alloc (.cells #[.int .u8 (48 + (n0 : Int) % 10)] 5))) := (Below.refl w.heap.size w).alloc (Nat.le_refl _) _
  generalize w.alloc (.cells #[.int .u8 (48 + (n0 : Int) % 10)] 5) = W0 at *
  go_loopw [0, 3] (fun n o wr => ∃ (k d : Nat) (s : ByteArray), n = .int .i64 (k : Int) ∧ o = .string s ∧ k ≤ n0 ∧ Hid (k < 10 ^ d ∧ s.size + d ≤ 21 ∧ 1 ≤ s.size) ∧ Hid (decN n0 = if k = 0 then s else decN k ++ s) ∧ Hid (Below w.heap.size w wr)) (fun n _ _ => (intOf n).toNat)
  case atStart =>
    refine ⟨n0 / 10, 18, _, by go_num, rfl, by omega, ⟨by omega, by rw [strOfNums_size]; simp, by rw [strOfNums_size]; simp⟩, ?_, hB0⟩
    show _ = _
    by_cases h : n0 < 10
    · rw [if_pos (by omega), decN_small h]
    · rw [if_neg (by omega), decN_step h]
  case round =>
    obtain ⟨k, d, s, rfl, rfl, hk, hs, ht, hb⟩ := hrel
    have hadd := fun b => join_text (a := strOfNums [b]) (b := s) (by rw [strOfNums_size]; simp) (by have := hs.out; omega)
    by_cases h0 : 0 < k
    · go_wp2_with fail
      go_roundw
      case rel =>
        obtain ⟨hs1, hs2, hs3⟩ := hs.out
        obtain ⟨d, rfl⟩ : ∃ e, d = e + 1 := by
          rcases Nat.eq_zero_or_pos d with hz | hz
          · subst hz; omega
          · exact ⟨d - 1, by omega⟩
        refine ⟨k / 10, d, _, by go_num, rfl, by omega, ⟨?_, ?_, ?_⟩, ?_, hb.out.alloc hb.out.size _⟩
        · rw [Nat.pow_succ] at hs1; omega
        · rw [ByteArray.size_append, strOfNums_size]; simp; omega
        · rw [ByteArray.size_append, strOfNums_size]; simp
        · show _ = _
          rw [ht.out, if_neg (by omega)]
          by_cases h : k < 10
          · rw [if_pos (by omega), decN_small h]
          · rw [if_neg (by omega), decN_step h, ByteArray.append_assoc]
      case measure => simp [intOf]; omega
    · go_wp2_with fail
      go_ret
      refine ⟨?_, hb.out⟩
      rw [ht.out, if_pos (by omega)]
      rfl

set_option maxRecDepth 100000 in
set_option maxHeartbeats 400000 in
theorem num_any (n : Int) (w : World) (h0 : -1152921504606846976 ≤ n) (h1 : n ≤ 1152921504606846976) : Calls Tryz.prog 56 #[.int .i64 n] w fun e w' => e = .returned (.string (numT n)) ∧ Below w.heap.size w w' := by
  by_cases hn : 0 ≤ n
  · obtain ⟨k, rfl⟩ := Int.eq_ofNat_of_zero_le hn
    have e : numT (k : Int) = decN k := by unfold numT; rw [if_neg (by omega)]; simp
    rw [e]
    exact num_pos k w (by omega)
  · obtain ⟨k, hk⟩ : ∃ k : Nat, -n = k := Int.eq_ofNat_of_zero_le (by omega)
    have hneg : decide (n < 0) = true := by simp; omega
    have HE : Hid (numT n = ⟨#[45]⟩ ++ decN k) := Lib.hid (by unfold numT; rw [if_pos (by omega), hk]; simp)
    have hsz := (decN_size k 18 (by omega)).2
    go_enter Tryz.func56, Tryz.ntmps56
    go_wp2_with fail
    refine (num_pos k _ (by omega)).mono ?_
    rintro e w' ⟨rfl, hb⟩
    have hadd := join_text (a := ⟨#[45]⟩) (b := decN k) (by decide) (by omega)
    go_wp2_with fail
    go_ret
    exact ⟨by rw [HE.out]; rfl, hb⟩
end Go.Proofs.YtndnfhhdflmfcaaGreat

/-
spec.FormatDouble, spec.FormatSingle, spec.l6Line: their texts.
-/
namespace Go.Proofs.YtndnfhhdflmfcaaGreat
open Go Go.RowKit Ieee

open Classical in
/-- The odd integer and the exponent. -/
noncomputable def oddP (v : Rat) : Nat × Int := if h : ∃ p : Nat × Int, OddOf v p.1 p.2 then Classical.choose h else (0, 0)
theorem oddP_eq {v : Rat} {m : Nat} {j : Int} (h : OddOf v m j) : oddP v = (m, j) := by
  have hex : ∃ p : Nat × Int, OddOf v p.1 p.2 := ⟨(m, j), h⟩
  have h2 : OddOf v (oddP v).1 (oddP v).2 := by
    unfold oddP
    rw [dif_pos hex]
    exact Classical.choose_spec hex
  obtain ⟨h3, h4⟩ := odd_unique h2 h
  exact Prod.ext h3 h4
/-- The text of a number. -/
noncomputable def dblT (x : Nat) : ByteArray :=
  if feq .f64 x 0 = true then (if signB x = true then ⟨#[45, 48]⟩ else ⟨#[48]⟩)
  else (if flt .f64 x 0 = true then ⟨#[45]⟩ else ⟨#[]⟩) ++ numT (oddP (fv .f64 (absB x))).1 ++ ⟨#[112]⟩ ++ numT (oddP (fv .f64 (absB x))).2
theorem dblT_odd {x m : Nat} {j : Int} (h : OddOf (fv .f64 (absB x)) m j) (h0 : feq .f64 x 0 = false) : dblT x = (if flt .f64 x 0 = true then ⟨#[45]⟩ else ⟨#[]⟩) ++ numT m ++ ⟨#[112]⟩ ++ numT j := by
  unfold dblT
  rw [if_neg (by rw [h0]; simp), oddP_eq h]
theorem odd_of {x : Nat} (hx : fin .f64 x) (h0 : 0 < fv .f64 x) : ∃ m j, OddOf (fv .f64 x) m j ∧ m < 2 ^ 53 ∧ -1074 ≤ j ∧ j ≤ 1100 := by
  obtain ⟨M, K, hme, hM0, hM1, hK1, hK2⟩ := me_of hx h0
  have key : ∀ n, 0 < n → n < 2 ^ 53 → ∃ m c, m % 2 = 1 ∧ m * 2 ^ c = n := by
    intro n
    induction n using Nat.strongRecOn with
    | _ n ih =>
      intro hn hn2
      by_cases hp : n % 2 = 1
      · exact ⟨n, 0, hp, by simp⟩
      · obtain ⟨m, c, h1, h2⟩ := ih (n / 2) (by omega) (by omega) (by omega)
        exact ⟨m, c + 1, h1, by rw [Nat.pow_succ, ← Nat.mul_assoc, h2]; omega⟩
  obtain ⟨m, c, h1, h2⟩ := key M hM0 hM1
  have hm : 1 ≤ m := by omega
  have hc := half_ok53 h2 hM1 hm
  refine ⟨m, K + c, ⟨h1, ?_⟩, ?_, by omega, by omega⟩
  · rw [hme.v, ← pw_mul_nat, h2]
  · have := Nat.le_mul_of_pos_right m (Nat.two_pow_pos c)
    omega
theorem dblT_size {x : Nat} (hx : fin .f64 x) : 1 ≤ (dblT x).size ∧ (dblT x).size ≤ 60 := by
  obtain ⟨z1, z2⟩ := zero_fin .f64
  cases t : feq .f64 x 0
  · have hne : fv .f64 x ≠ 0 := fun h => by
      have : feq .f64 x 0 = true := (feq_iff hx z1).2 (by rw [h, z2])
      rw [this] at t; cases t
    obtain ⟨a1, a2⟩ := absB_fin hx
    have hpos : 0 < fv .f64 (absB x) := by rw [a2]; unfold ab; grind
    obtain ⟨m, j, ho, hm, hj1, hj2⟩ := odd_of a1 hpos
    rw [dblT_odd ho t]
    have s1 := numT_size (n := (m : Int)) (by omega) (by omega)
    have s2 := numT_size (n := j) (by omega) (by omega)
    have e1 : (ByteArray.mk #[112]).size = 1 := rfl
    have e2 : (if flt .f64 x 0 = true then (⟨#[45]⟩ : ByteArray) else ⟨#[]⟩).size ≤ 1 := by split <;> decide
    simp only [ByteArray.size_append]
    omega
  · unfold dblT
    rw [if_pos t]
    split <;> decide

set_option maxRecDepth 100000 in
set_option maxHeartbeats 400000 in
theorem fmtD_any (x : Nat) (w : World) (hx : fin .f64 x) (hw : wfk .f64 x) (h1 : ab (fv .f64 x) ≤ pw 990) :
    Calls Tryz.prog 84 #[.float .f64 x] w fun e w' => e = .returned (.string (dblT x)) ∧ Below w.heap.size w w' := by
  obtain ⟨z1, z2⟩ := zero_fin .f64
  have hfin : feq .f64 (fo .sub .f64 x x) 0 = true := by rw [fin_sub]; exact (finB_iff x).2 hx
  cases t : feq .f64 x 0
  · have hne : fv .f64 x ≠ 0 := fun h => by
      have : feq .f64 x 0 = true := (feq_iff hx z1).2 (by rw [h, z2])
      rw [this] at t; cases t
    obtain ⟨a1, a2⟩ := absB_fin hx
    have hpos : 0 < fv .f64 (absB x) := by rw [a2]; unfold ab; grind
    have PA := Lib.hid (fun w => parts64_any (absB x) w a1 hpos (by rw [a2]; exact h1))
    obtain ⟨S, hS⟩ : ∃ S : ByteArray, (if flt .f64 x 0 = true then (⟨#[45]⟩ : ByteArray) else ⟨#[]⟩) = S := ⟨_, rfl⟩
    have HT : Hid (∀ m j, OddOf (fv .f64 (absB x)) m j → dblT x = S ++ numT m ++ ⟨#[112]⟩ ++ numT j) := Lib.hid (fun m j h => by rw [← hS]; exact dblT_odd h t)
    have hS1 : S.size ≤ 1 := by rw [← hS]; split <;> decide
    clear a1 a2 hne hpos hx h1
    have rest : ∀ (m : Nat) (j : Int) (W : World), m < 2 ^ 53 → -3000 ≤ j → j ≤ 3000 → Hid (∀ W, (Op.stringOp .add S (numT m)).run Tryz.prog W = .ok (.string (S ++ numT m)) W) ∧ Hid (∀ W, (Op.stringOp .add (S ++ numT m) ⟨#[112]⟩).run Tryz.prog W = .ok (.string (S ++ numT m ++ ⟨#[112]⟩)) W) ∧ Hid (∀ W, (Op.stringOp .add (S ++ numT m ++ ⟨#[112]⟩) (numT j)).run Tryz.prog W = .ok (.string (S ++ numT m ++ ⟨#[112]⟩ ++ numT j)) W) := fun m j W h1 h2 h3 => by
      have s1 := numT_size (n := (m : Int)) (by omega) (by omega)
      have s2 := numT_size (n := j) (by omega) (by omega)
      have e1 : (ByteArray.mk #[112]).size = 1 := rfl
      exact ⟨fun W => join_text (by omega) (by omega) W, fun W => join_text (by simp only [ByteArray.size_append]; omega) (by omega) W, fun W => join_text (by simp only [ByteArray.size_append]; omega) (by omega) W⟩
    have HR := Lib.hid rest
    clear rest
    cases u : flt .f64 x 0
    · rw [u] at hS
      simp only [Bool.false_eq_true, if_false] at hS
      subst hS
      go_enter Tryz.func84, Tryz.ntmps84
      go_wp2_with fail
      refine (l1Finite_any x _).mono ?_
      rintro e w' ⟨n1, rfl, rfl⟩
      rw [hfin]
      go_wp2_with fail
      refine (l1Abs_any x _).mono ?_
      rintro e w' ⟨rfl, rfl⟩
      go_wp2_with fail
      refine (PA.out _).mono ?_
      intro e w' hp
      unfold PartsP at hp
      obtain ⟨m, j, n2, rfl, ho, hm, j1, j2, rfl⟩ := hp
      have HO := Lib.hid ho
      obtain ⟨r1, r2, r3⟩ := HR.out m j w hm j1 j2
      have r1 := r1.out
      have r2 := r2.out
      have r3 := r3.out
      clear ho
      go_wp2_with fail
      refine (num_any m _ (by omega) (by omega)).mono ?_
      rintro e w1 ⟨rfl, hb1⟩
      have HB1 : Hid (Below w.heap.size w w1) := (below_drewN (Below.refl _ _) _).trans hb1
      clear hb1
      go_wp2_with fail
      refine (num_any j _ (by omega) (by omega)).mono ?_
      rintro e w2 ⟨rfl, hb2⟩
      have HB2 : Hid (Below w.heap.size w w2) := HB1.out.trans (hb2.mono HB1.out.size)
      clear hb2
      go_wp2_with fail
      go_ret
      exact ⟨by rw [HT.out m j HO.out]; rfl, HB2.out⟩
    · rw [u] at hS
      simp only [if_true] at hS
      subst hS
      go_enter Tryz.func84, Tryz.ntmps84
      go_wp2_with fail
      refine (l1Finite_any x _).mono ?_
      rintro e w' ⟨n1, rfl, rfl⟩
      rw [hfin]
      go_wp2_with fail
      refine (l1Abs_any x _).mono ?_
      rintro e w' ⟨rfl, rfl⟩
      go_wp2_with fail
      refine (PA.out _).mono ?_
      intro e w' hp
      unfold PartsP at hp
      obtain ⟨m, j, n2, rfl, ho, hm, j1, j2, rfl⟩ := hp
      have HO := Lib.hid ho
      obtain ⟨r1, r2, r3⟩ := HR.out m j w hm j1 j2
      have r1 := r1.out
      have r2 := r2.out
      have r3 := r3.out
      clear ho
      go_wp2_with fail
      refine (num_any m _ (by omega) (by omega)).mono ?_
      rintro e w1 ⟨rfl, hb1⟩
      have HB1 : Hid (Below w.heap.size w w1) := (below_drewN (Below.refl _ _) _).trans hb1
      clear hb1
      go_wp2_with fail
      refine (num_any j _ (by omega) (by omega)).mono ?_
      rintro e w2 ⟨rfl, hb2⟩
      have HB2 : Hid (Below w.heap.size w w2) := HB1.out.trans (hb2.mono HB1.out.size)
      clear hb2
      go_wp2_with fail
      go_ret
      exact ⟨by rw [HT.out m j HO.out]; rfl, HB2.out⟩
  · have HT : Hid (dblT x = if signB x = true then ⟨#[45, 48]⟩ else ⟨#[48]⟩) := Lib.hid (by unfold dblT; rw [if_pos t])
    rcases feq_zero hw t with rfl | rfl
    · have s0 := fun w => (sign_flt w).1
      go_enter Tryz.func84, Tryz.ntmps84
      go_wp2_with fail
      refine (l1Finite_any _ _).mono ?_
      rintro e w' ⟨n1, rfl, rfl⟩
      rw [hfin]
      go_wp2_with fail
      go_ret
      exact ⟨by rw [HT.out]; rfl, below_drewN (Below.refl _ _) _⟩
    · have s0 := fun w => (sign_flt w).2
      go_enter Tryz.func84, Tryz.ntmps84
      go_wp2_with fail
      refine (l1Finite_any _ _).mono ?_
      rintro e w' ⟨n1, rfl, rfl⟩
      rw [hfin]
      go_wp2_with fail
      go_ret
      exact ⟨by rw [HT.out]; rfl, below_drewN (Below.refl _ _) _⟩
end Go.Proofs.YtndnfhhdflmfcaaGreat

/-
spec.IsBody, spec.IsScore.
-/
namespace Go.Proofs.YtndnfhhdflmfcaaGreat
open Go Go.RowKit Ieee

set_option maxRecDepth 100000 in
set_option maxHeartbeats 400000 in
theorem specModes_any (A : Option Addr) (c lo hi : Nat) (ms : List MW) (w : World) (h : OwnM w lo hi A c ms) (hh : hi ≤ w.heap.size) (hok : ModesOk ms) (hl : ms.length ≤ 16) :
    Calls Tryz.prog 65 #[.slice A ms.length c] w fun e w' => e = .returned (.bool true) ∧ Below w.heap.size w w' := by
  have H := Lib.hid h
  have HK := Lib.hid hok
  clear h hok
  go_enter Tryz.func65, Tryz.ntmps65
  go_wp2_with fail
  go_loopw [7] (fun i wr => ∃ k : Nat, i = .int .i64 (k : Int) ∧ k ≤ ms.length ∧ Hid (Below w.heap.size w wr)) (fun i _ => ms.length - (intOf i).toNat)
  case atStart => exact ⟨0, rfl, by omega, Below.refl _ _⟩
  case round =>
    obtain ⟨k, rfl, hk, hb'⟩ := hrel
    by_cases hlt : k < ms.length
    · obtain ⟨b, rfl, _, hbl, hlc, _, hcell⟩ := (H.out.below hb'.out hh).cells (by omega)
      obtain ⟨e1, e2⟩ := hcell k hlt
      have HM := Lib.hid (HK.out.at_ hlt)
      clear hcell
      generalize ms.getD k (0, 0, 0, 0) = m at *
      obtain ⟨a, b', c', d⟩ := m
      simp only at e1 e2 HM
      have HB1 : Hid (Below w.heap.size w (wr.alloc (.cells #[.complex .f32 a b', .complex .f32 c' d] 87))) := hb'.out.alloc hb'.out.size _
      go_wp2_with fail
      refine (specMode_ok a b' c' d _ HM.out).mono ?_
      rintro r w' ⟨rfl, hb2⟩
      have HB : Hid (Below w.heap.size w w') := HB1.out.trans (hb2.mono HB1.out.size)
      clear hb2 e1 e2
      go_wp2_with fail
      go_roundw
      case rel => exact ⟨k + 1, by go_num, by omega, HB⟩
      case measure => simp [intOf]; omega
    · have hl' : decide ((ms.length : Int) ≤ 16) = true := by simp; omega
      go_wp2_with fail
      go_ret
      exact ⟨by rw [← hl']; rfl, hb'.out⟩
set_option maxHeartbeats 400000 in
theorem zero_text (w : World) : Calls Tryz.prog 84 #[.float .f64 0] w fun e w' => e = .returned (.string ⟨#[48]⟩) ∧ Below w.heap.size w w' := by
  have hfin : feq .f64 (fo .sub .f64 0 0) 0 = true := by decide +kernel
  have s0 := fun w => (sign_flt w).1
  go_enter Tryz.func84, Tryz.ntmps84
  go_wp2_with fail
  refine (l1Finite_any _ _).mono ?_
  rintro e w' ⟨n1, rfl, rfl⟩
  rw [hfin]
  go_wp2_with fail
  go_ret
  exact ⟨rfl, below_drewN (Below.refl _ _) _⟩
set_option maxHeartbeats 400000 in
theorem zero_single (w : World) : Calls Tryz.prog 57 #[.float .f32 0] w fun e w' => e = .returned (.string ⟨#[48]⟩) ∧ Below w.heap.size w w' := by
  have hc : ∀ w, cR .f32 0 .f64 w = 0 := fun w => by
    have h0 : wid 0 = 0 := by decide +kernel
    have := cR_wid_fin (zero_fin .f32).1
    rw [this]; exact h0
  go_enter Tryz.func57, Tryz.ntmps57
  go_wp2_with fail
  refine (zero_text _).mono ?_
  rintro e w' ⟨rfl, hb⟩
  go_wp2_with fail
  go_ret
  exact ⟨rfl, (below_drewN (Below.refl _ _) _).trans hb⟩
set_option maxHeartbeats 400000 in
theorem zero_any (w : World) : Calls Tryz.prog 67 #[.float .f32 0] w fun e w' => e = .returned (.bool true) ∧ Below w.heap.size w w' := by
  go_enter Tryz.func67, Tryz.ntmps67
  go_wp2_with fail
  refine (zero_single _).mono ?_
  rintro e w' ⟨rfl, hb⟩
  go_wp2_with fail
  go_ret
  exact ⟨rfl, hb⟩
set_option maxRecDepth 100000 in
set_option maxHeartbeats 1600000 in
theorem specShape_any (kind : Int) (n : Nat) (w : World) (hk : kind = 0 ∨ kind = 1 ∨ kind = 2) (h1 : 1 ≤ n) (h2 : n ≤ 64) :
    Calls Tryz.prog 66 #[.int .i64 kind, .int .i64 n] w fun e w' => ∃ v, e = .returned (.tuple #[v, .bool true]) ∧ Below w.heap.size w w' := by
  have hown0 := owns_empty w 23
  have hb0 : Below w.heap.size w (w.alloc (.cells #[] 23)) := (Below.refl w.heap.size w).alloc (Nat.le_refl _) _
  have g1 : (decide ((0 : Int) ≤ kind) && decide (kind ≤ 2)) = true := by simp; omega
  have g2 : (decide ((1 : Int) ≤ (n : Int)) && decide ((n : Int) ≤ 64)) = true := by simp; omega
  go_enter Tryz.func66, Tryz.ntmps66
  go_wp2_with fail
  refine (l1In_any _ _ _ _).mono ?_
  rintro e w' ⟨rfl, rfl⟩
  rw [g1]
  go_wp2_with fail
  refine (l1In_any _ _ _ _).mono ?_
  rintro e w' ⟨rfl, rfl⟩
  rw [g2]
  go_wp2_with fail
  generalize w.alloc (.cells #[] 23) = W0 at *
  clear g1 g2
  go_loopw [6, 7] (fun v i wr => ∃ (k : Nat) (ys : List Nat), i = .int .i64 (k : Int) ∧ k ≤ n ∧ wr.ownsRow w.heap.size 23 1 v k (f32s ys) ∧ Below w.heap.size w wr) (fun _ i _ => n - (intOf i).toNat)
  case atStart => exact ⟨0, [], rfl, by omega, hown0, hb0⟩
  case round =>
    clear hown0 hb0
    obtain ⟨k, ys, rfl, hk', hown, hb⟩ := hrel
    by_cases hlt : k < n
    · have hsz := hb.size
      have HO : Hid (∀ m, (wr.drewN m).ownsRow w.heap.size 23 1 u6 k (f32s ys)) := fun m => hown
      have HB := Lib.hid (fun m => below_drewN hb m)
      have HO0 := Lib.hid hown
      clear hown
      rcases hk with rfl | rfl | rfl
      · by_cases hz : k = 0
        · have hz' : ((k : Int) == 0) = true := by simp; omega
          clear hz
          go_wp2_with (at_builtin; refine wpList_app1 rfl (.tmp 50) (.tmp 52) 35 rfl w.heap.size 23 (.float .f32 0) 4 Tryz.underlying35 f32_info rfl u6 k (f32s ys) _ rfl rfl rfl HO0.out hsz (by omega) (by omega) ?_; intro v' w' hown' hbel')
          go_roundw
          case rel => exact ⟨k + 1, ys ++ [_], by go_num, by omega, by simpa [f32s] using hown', hb.trans hbel'⟩
          case measure => simp [intOf]; omega
        · have hz' : ((k : Int) == 0) = false := by simp; omega
          go_wp2_with (at_builtin; refine wpList_app1 rfl (.tmp 50) (.tmp 52) 35 rfl w.heap.size 23 (.float .f32 0) 4 Tryz.underlying35 f32_info rfl u6 k (f32s ys) _ rfl rfl rfl HO0.out hsz (by omega) (by omega) ?_; intro v' w' hown' hbel')
          go_roundw
          case rel => exact ⟨k + 1, ys ++ [_], by go_num, by omega, by simpa [f32s] using hown', hb.trans hbel'⟩
          case measure => simp [intOf]; omega
      · obtain ⟨p1, hp1⟩ : ∃ p, floatOfInt .f32 ((k : Int) + 1) = p := ⟨_, rfl⟩
        obtain ⟨p2, hp2⟩ : ∃ p, floatOfInt .f32 (n : Int) = p := ⟨_, rfl⟩
        go_wp2_with (at_builtin; refine wpList_app1 rfl (.tmp 50) (.tmp 52) 35 rfl w.heap.size 23 (.float .f32 0) 4 Tryz.underlying35 f32_info rfl u6 k (f32s ys) _ rfl rfl rfl (HO.out _) hsz (by omega) (by omega) ?_; intro v' w' hown' hbel')
        go_roundw
        case rel => exact ⟨k + 1, ys ++ [_], by go_num, by omega, by simpa [f32s] using hown', (HB.out _).trans hbel'⟩
        case measure => simp [intOf]; omega
      · obtain ⟨p1, hp1⟩ : ∃ p, floatOfInt .f32 (2 * (k : Int) + 1) = p := ⟨_, rfl⟩
        obtain ⟨p2, hp2⟩ : ∃ p, floatOfInt .f32 (2 * (n : Int)) = p := ⟨_, rfl⟩
        go_wp2_with (at_builtin; refine wpList_app1 rfl (.tmp 50) (.tmp 52) 35 rfl w.heap.size 23 (.float .f32 0) 4 Tryz.underlying35 f32_info rfl u6 k (f32s ys) _ rfl rfl rfl (HO.out _) hsz (by omega) (by omega) ?_; intro v' w' hown' hbel')
        go_roundw
        case rel => exact ⟨k + 1, ys ++ [_], by go_num, by omega, by simpa [f32s] using hown', (HB.out _).trans hbel'⟩
        case measure => simp [intOf]; omega
    · go_wp2_with fail
      go_ret2
      exact ⟨_, rfl, hb⟩
set_option maxRecDepth 100000 in
set_option maxHeartbeats 1600000 in
theorem specEvent_any (e : Ev) (L : Int) (s : Sh) (B : Option Addr) (nb cb : Nat) (E : Option Addr) (ne ce : Nat) (w : World) (h : EvOk L nb e) (hL : L ≤ 2000) (hnb : nb ≤ 8) :
    Calls Tryz.prog 32 #[.agg #[.int .i64 s.1, .int .i64 s.2.1, .float .f32 s.2.2.1, .float .f32 s.2.2.2, .slice B nb cb, .slice E ne ce], .agg #[.int .i64 e.1, .int .i64 e.2.1, .int .i64 e.2.2.1, .int .i64 e.2.2.2.1, .int .i64 e.2.2.2.2.1, .float .f32 e.2.2.2.2.2]] w fun r w' => r = .returned (.bool true) ∧ Below w.heap.size w w' := by
  have hB : Hid (Below w.heap.size w ((w.alloc (.cells #[.int .i64 s.1, .int .i64 s.2.1, .float .f32 s.2.2.1, .float .f32 s.2.2.2, .slice B nb cb, .slice E ne ce] 27)).alloc (.cells #[.int .i64 e.1, .int .i64 e.2.1, .int .i64 e.2.2.1, .int .i64 e.2.2.2.1, .int .i64 e.2.2.2.2.1, .float .f32 e.2.2.2.2.2] 71))) := ((Below.refl w.heap.size w).alloc (Nat.le_refl _) _).alloc (by simp) _
  have hX : Hid (((w.alloc (.cells #[.int .i64 s.1, .int .i64 s.2.1, .float .f32 s.2.2.1, .float .f32 s.2.2.2, .slice B nb cb, .slice E ne ce] 27)).alloc (.cells #[.int .i64 e.1, .int .i64 e.2.1, .int .i64 e.2.2.1, .int .i64 e.2.2.2.1, .int .i64 e.2.2.2.2.1, .float .f32 e.2.2.2.2.2] 71)).heap[w.heap.size]? = some (.cells #[.int .i64 s.1, .int .i64 s.2.1, .float .f32 s.2.2.1, .float .f32 s.2.2.2, .slice B nb cb, .slice E ne ce] 27 (0, 0))) := (Below.heap_alloc _ _ _ (by simp)).trans (heap_alloc_new w (.cells #[.int .i64 s.1, .int .i64 s.2.1, .float .f32 s.2.2.1, .float .f32 s.2.2.2, .slice B nb cb, .slice E ne ce] 27))
  have hN : Hid (((w.alloc (.cells #[.int .i64 s.1, .int .i64 s.2.1, .float .f32 s.2.2.1, .float .f32 s.2.2.2, .slice B nb cb, .slice E ne ce] 27)).alloc (.cells #[.int .i64 e.1, .int .i64 e.2.1, .int .i64 e.2.2.1, .int .i64 e.2.2.2.1, .int .i64 e.2.2.2.2.1, .float .f32 e.2.2.2.2.2] 71)).heap[w.heap.size + 1]? = some (.cells #[.int .i64 e.1, .int .i64 e.2.1, .int .i64 e.2.2.1, .int .i64 e.2.2.2.1, .int .i64 e.2.2.2.2.1, .float .f32 e.2.2.2.2.2] 71 (0, 0))) := by
    have := heap_alloc_new (w.alloc (.cells #[.int .i64 s.1, .int .i64 s.2.1, .float .f32 s.2.2.1, .float .f32 s.2.2.2, .slice B nb cb, .slice E ne ce] 27)) (.cells #[.int .i64 e.1, .int .i64 e.2.1, .int .i64 e.2.2.1, .int .i64 e.2.2.2.1, .int .i64 e.2.2.2.2.1, .float .f32 e.2.2.2.2.2] 71)
    rwa [show (w.alloc (.cells #[.int .i64 s.1, .int .i64 s.2.1, .float .f32 s.2.2.1, .float .f32 s.2.2.2, .slice B nb cb, .slice E ne ce] 27)).heap.size = w.heap.size + 1 by simp] at this
  obtain ⟨at', kd, bo, sh, co, fo'⟩ := e
  obtain ⟨a0, a1, b0, b1, hf, hw, _, hk⟩ := h
  simp only at a0 a1 b0 b1 hf hw hk hB hX hN ⊢
  have hin : (decide ((0 : Int) ≤ at') && decide (at' ≤ 2000)) = true := by simp; omega
  have g1 : (decide ((0 : Int) ≤ bo) && decide (bo ≤ (nb : Int) - 1)) = true := by simp; omega
  have Hf := Lib.hid (cR_wid_fin hf)
  have Hfin : Hid (feq .f64 (fo .sub .f64 (wid fo') (wid fo')) 0 = true) := Lib.hid (by rw [fin_sub]; exact (finB_iff _).2 (wid_fin hf).1)
  clear hf hw
  go_enter Tryz.func32, Tryz.ntmps32
  go_wp2_with fail
  generalize (w.alloc (.cells #[.int .i64 s.1, .int .i64 s.2.1, .float .f32 s.2.2.1, .float .f32 s.2.2.2, .slice B nb cb, .slice E ne ce] 27)).alloc (.cells #[.int .i64 at', .int .i64 kd, .int .i64 bo, .int .i64 sh, .int .i64 co, .float .f32 fo'] 71) = W at *
  obtain ⟨c0, c1, c2, c3, c4, c5⟩ := sc_cells hN.out
  have x4 := (sc_cells hX.out).2.2.2.2.1
  have HZ : Hid (w.heap.size + 1 < W.heap.size) := Lib.hid (lt_of_some hN.out)
  refine (l1In_any _ _ _ _).mono ?_
  rintro r w' ⟨rfl, rfl⟩
  rw [hin]
  go_wp2_with fail
  refine (l1In_any _ _ _ _).mono ?_
  rintro r w' ⟨rfl, rfl⟩
  rw [g1]
  clear g1 hin x4
  rcases hk with ⟨rfl, ⟨hs0, hs1⟩, hc0, hc1⟩ | ⟨rfl, ⟨rfl, rfl⟩, hu0, hu1, _⟩ | ⟨rfl, ⟨rfl, rfl⟩, rfl⟩
  · obtain ⟨n, rfl⟩ : ∃ n : Nat, co = n := ⟨co.toNat, by omega⟩
    go_wp2_with fail
    refine (specShape_any sh n _ (by omega) (by omega) (by omega)).mono ?_
    rintro r W2 ⟨v, rfl, hb2⟩
    have HB2 := Lib.hid (hB.out.trans (hb2.mono hB.out.size))
    have c5' := (World.cell?_of_block (w := W) (w' := W2) (hb2.block (w.heap.size + 1) HZ.out)).trans c5
    clear hb2 c0 c1 c2 c3 c4 c5
    go_wp2_with fail
    refine (l1Finite_any _ _).mono ?_
    rintro r w' ⟨m, rfl, rfl⟩
    rw [Hf.out, Hfin.out]
    go_wp2_with fail
    go_ret
    exact ⟨rfl, below_drewN HB2.out _⟩
  · go_wp2_with fail
    go_ret
    exact ⟨rfl, hB.out⟩
  · go_wp2_with fail
    refine (zero_any _).mono ?_
    rintro r w' ⟨rfl, hb2⟩
    have HB2 := Lib.hid (hB.out.trans (hb2.mono hB.out.size))
    clear hb2
    go_wp2_with fail
    go_ret
    exact ⟨rfl, HB2.out⟩
set_option maxRecDepth 100000 in
set_option maxHeartbeats 400000 in
theorem specBody_any (b : Bd) (lo hi : Nat) (w : World) (h : OwnM w lo hi b.1 b.2.1 b.2.2) (hh : hi ≤ w.heap.size) (hok : ModesOk b.2.2) (hl : b.2.2.length ≤ 16) :
    Calls Tryz.prog 31 #[.agg #[.slice b.1 b.2.2.length b.2.1]] w fun r w' => r = .returned (.bool true) ∧ Below w.heap.size w w' := by
  have HB : Hid (Below w.heap.size w (w.alloc (.cells #[.slice b.1 b.2.2.length b.2.1] 68))) := (Below.refl w.heap.size w).alloc (Nat.le_refl _) _
  have HN := Lib.hid (heap_alloc_new w (.cells #[.slice b.1 b.2.2.length b.2.1] 68))
  have H := Lib.hid (h.below HB.out hh)
  have HK := Lib.hid hok
  clear h hok
  go_enter Tryz.func31, Tryz.ntmps31
  have c0 := cell_of_row _ w.heap.size 0 _ _ (0, 0) HN.out
  go_wp2_with fail
  generalize w.alloc (.cells #[.slice b.1 b.2.2.length b.2.1] 68) = W at *
  refine (specModes_any _ _ lo hi _ _ H.out (by have := HB.out.size; omega) HK.out hl).mono ?_
  rintro r w' ⟨rfl, hb⟩
  have HB2 := Lib.hid (HB.out.trans (hb.mono HB.out.size))
  clear hb
  go_wp2_with fail
  go_ret
  exact ⟨rfl, HB2.out⟩
set_option maxRecDepth 100000 in
set_option maxHeartbeats 1600000 in
theorem specScore_any (s : Sh) (B : Option Addr) (cb : Nat) (bs : List Bd) (E : Option Addr) (ce lo hi : Nat) (evs : List Ev) (w : World) (h : ScIn w lo hi B cb bs E ce evs) (hok : ScAsk s bs evs) :
    Calls Tryz.prog 13 #[.agg #[.int .i64 s.1, .int .i64 s.2.1, .float .f32 s.2.2.1, .float .f32 s.2.2.2, .slice B bs.length cb, .slice E evs.length ce]] w fun r w' => r = .returned (.bool true) ∧ Below w.heap.size w w' := by
  obtain ⟨⟨l0, l1, v0, v1, lim, cw, rw'⟩, hbo, heo⟩ := hok
  have hbl := hbo.1
  have hel := heo.1
  have HB : Hid (Below w.heap.size w (w.alloc (.cells #[.int .i64 s.1, .int .i64 s.2.1, .float .f32 s.2.2.1, .float .f32 s.2.2.2, .slice B bs.length cb, .slice E evs.length ce] 27))) := (Below.refl w.heap.size w).alloc (Nat.le_refl _) _
  have HN := Lib.hid (heap_alloc_new w (.cells #[.int .i64 s.1, .int .i64 s.2.1, .float .f32 s.2.2.1, .float .f32 s.2.2.2, .slice B bs.length cb, .slice E evs.length ce] 27))
  have H := Lib.hid (h.below HB.out)
  have HK := Lib.hid (And.intro hbo heo)
  have HL := Lib.hid lim
  clear h hbo heo lim
  obtain ⟨len, vo, c, r⟩ := s
  simp only at l0 l1 v0 v1 cw rw' HB HN H HK HL ⊢
  have g1 : (decide ((0 : Int) ≤ len) && decide (len ≤ 2000)) = true := by simp; omega
  have g2 : (decide ((1 : Int) ≤ vo) && decide (vo ≤ 8)) = true := by simp; omega
  go_enter Tryz.func13, Tryz.ntmps13
  obtain ⟨c0, c1, c2, c3, c4, c5⟩ := sc_cells HN.out
  go_wp2_with fail
  generalize w.alloc (.cells #[.int .i64 len, .int .i64 vo, .float .f32 c, .float .f32 r, .slice B bs.length cb, .slice E evs.length ce] 27) = W at *
  refine (l1In_any _ _ _ _).mono ?_
  rintro rr w' ⟨rfl, rfl⟩
  rw [g1]
  go_wp2_with fail
  refine (l1In_any _ _ _ _).mono ?_
  rintro rr w' ⟨rfl, rfl⟩
  rw [g2]
  go_wp2_with fail
  refine (limits_any c r _ cw rw').mono ?_
  rintro rr W2 ⟨rfl, hb⟩
  rw [HL.out]
  have HB2 := Lib.hid (HB.out.trans (hb.mono HB.out.size))
  have HN2 := Lib.hid ((hb.block _ (lt_of_some HN.out)).trans HN.out)
  have H2 := Lib.hid (H.out.below hb)
  clear hb H HN HB c0 c1 c2 c3 c4 c5 g1 g2
  obtain ⟨c0, c1, c2, c3, c4, c5⟩ := sc_cells HN2.out
  go_wp2_with fail
  clear c0 c1 c2 c3 c4 c5
  go_loopw [38] (fun i wr => ∃ k : Nat, i = .int .i64 (k : Int) ∧ k ≤ bs.length ∧ Hid (Below W2.heap.size W2 wr)) (fun i _ => bs.length - (intOf i).toNat)
  case atStart => exact ⟨0, rfl, by omega, Below.refl _ _⟩
  case round =>
    obtain ⟨k, rfl, hk, hb'⟩ := hrel
    by_cases hlt : k < bs.length
    · have H1 := Lib.hid (H2.out.bodsIn.below hb'.out)
      obtain ⟨b, off, rfl, hbl', hc⟩ := H1.out.rd (by simp; omega)
      have e1 := hc k (bodV (bodAt bs k)) (by simp [bodAt, List.getD, List.getElem?_eq_getElem hlt])
      have HM := Lib.hid (H1.out.row k hlt)
      have HK1 := Lib.hid (HK.out.1.2 k hlt)
      have HH := Lib.hid H1.out.hh
      clear hc H1
      unfold bodV at e1
      generalize bodAt bs k = v at *
      have HA : Hid (Below wr.heap.size wr (wr.alloc (.cells #[.slice v.1 v.2.2.length v.2.1] 68))) := (Below.refl _ _).alloc (Nat.le_refl _) _
      have HHa : hi ≤ (wr.alloc (.cells #[.slice v.1 v.2.2.length v.2.1] 68)).heap.size := Nat.le_trans HH.out HA.out.size
      have HMa := Lib.hid (HM.out.below HA.out HH.out)
      go_wp2_with fail
      refine (specBody_any v lo hi _ HMa.out HHa HK1.out.1 HK1.out.2).mono ?_
      rintro rr w' ⟨rfl, hb2⟩
      have HBx : Hid (Below W2.heap.size W2 w') := (hb'.out.trans (HA.out.mono hb'.out.size)).trans (hb2.mono (Nat.le_trans hb'.out.size HA.out.size))
      clear hb2 e1 HMa HA
      go_wp2_with fail
      go_roundw
      case rel => exact ⟨k + 1, by go_num, by omega, HBx⟩
      case measure => simp [intOf]; omega
    · have HB3 : Hid (Below w.heap.size w wr) := HB2.out.trans (hb'.out.mono HB2.out.size)
      have HN3 := Lib.hid ((hb'.out.block _ (lt_of_some HN2.out)).trans HN2.out)
      have H3 := Lib.hid (H2.out.below hb'.out)
      clear hb' H2 HN2 HB2
      obtain ⟨c0, c1, c2, c3, c4, c5⟩ := sc_cells HN3.out
      generalize hWr : wr = W3 at *
      clear hWr
      go_wp2_with fail
      clear c0 c1 c2 c3 c4 c5
      go_loopw [49] (fun i wr => ∃ k : Nat, i = .int .i64 (k : Int) ∧ k ≤ evs.length ∧ Hid (Below W3.heap.size W3 wr)) (fun i _ => evs.length - (intOf i).toNat)
      case atStart => exact ⟨0, rfl, by omega, Below.refl _ _⟩
      case round =>
        obtain ⟨k', rfl, hk', hb'⟩ := hrel
        by_cases hlt' : k' < evs.length
        · obtain ⟨b, rfl, _, _, hbl', hlc, _, hcell⟩ := (H3.out.evs.below hb'.out H3.out.hh).cells (by omega)
          obtain ⟨e0, e1, e2, e3, e4, e5⟩ := hcell k' hlt'
          have HM := Lib.hid (HK.out.2.at_ hlt')
          have HN4 := Lib.hid ((hb'.out.block _ (lt_of_some HN3.out)).trans HN3.out)
          obtain ⟨c0, c1, c2, c3, c4, c5⟩ := sc_cells HN4.out
          clear hcell
          generalize eAt evs k' = v at *
          have HA : Hid (Below wr.heap.size wr (wr.alloc (.cells #[.int .i64 v.1, .int .i64 v.2.1, .int .i64 v.2.2.1, .int .i64 v.2.2.2.1, .int .i64 v.2.2.2.2.1, .float .f32 v.2.2.2.2.2] 71))) := (Below.refl _ _).alloc (Nat.le_refl _) _
          obtain ⟨d0, d1, d2, d3, d4, d5⟩ := sc_cells ((HA.out.block _ (lt_of_some HN4.out)).trans HN4.out)
          go_wp2_with fail
          refine (specEvent_any v len (len, vo, c, r) B bs.length cb (some ⟨b, 0, none⟩) evs.length ce _ HM.out l1 hbl).mono ?_
          rintro rr w' ⟨rfl, hb2⟩
          have HBx : Hid (Below W3.heap.size W3 w') := (hb'.out.trans (HA.out.mono hb'.out.size)).trans (hb2.mono (Nat.le_trans hb'.out.size HA.out.size))
          clear hb2 e0 e1 e2 e3 e4 e5 HA c0 c1 c2 c3 c4 c5 d0 d1 d2 d3 d4 d5
          go_wp2_with fail
          go_roundw
          case rel => exact ⟨k' + 1, by go_num, by omega, HBx⟩
          case measure => simp [intOf]; omega
        · have HB4 : Hid (Below w.heap.size w wr) := HB3.out.trans (hb'.out.mono HB3.out.size)
          go_wp2_with fail
          go_ret
          exact ⟨rfl, HB4.out⟩
end Go.Proofs.YtndnfhhdflmfcaaGreat

/-
spec.FormatSingle, spec.l6Line, spec.l6Modes, spec.FormatBody: their texts.
-/
namespace Go.Proofs.YtndnfhhdflmfcaaGreat
open Go Go.RowKit Ieee

theorem fin32_le {x : Nat} (hx : fin .f32 x) : ab (fv .f32 x) ≤ pw 128 := by
  obtain ⟨s, m, e, hrd⟩ := hx
  obtain ⟨b1, b2, b3, b4, _⟩ := read_bounds FloatKind.f32.format (by decide) hrd
  have e1 : FloatKind.f32.format.leastPlace = -149 := by decide +kernel
  have e2 : FloatKind.f32.format.binade = 8388608 := by decide +kernel
  have e3 : FloatKind.f32.format.infRung = 2139095040 := by decide +kernel
  rw [e1] at b1 b3 b4
  rw [e2] at b2 b3 b4
  rw [e3] at b4
  have hv : ab (fv .f32 x) = mval m e := by unfold fv; rw [hrd, dval_ab]
  have he : e ≤ 104 := by
    rcases Int.lt_or_le (-149) e with h | h
    · have := b3 h; omega
    · omega
  rw [hv]
  have h1 : mval m e ≤ mval m 104 := Rat.mul_le_mul_of_nonneg_left (pw_mono he) Rat.natCast_nonneg
  have h2 : mval m 104 ≤ mval (2 ^ 24) 104 := mval_le (by omega)
  have h3 : mval (2 ^ 24) 104 = pw 128 := by
    have := pw_mul_nat 1 24 104
    simp only [Nat.one_mul] at this
    show ((2 ^ 24 : Nat) : Rat) * pw 104 = pw 128
    rw [this]
    show ((1 : Nat) : Rat) * pw (104 + 24) = _
    rw [show (104 : Int) + 24 = 128 from rfl]; grind
  grind
theorem wid_top {x : Nat} (hx : fin .f32 x) : ab (fv .f64 (wid x)) ≤ pw 990 := by
  rw [(wid_fin hx).2]
  exact Rat.le_trans (fin32_le hx) (pw_mono (by decide))
/-- The text of a number of single precision. -/
noncomputable def sglT (x : Nat) : ByteArray := dblT (wid x)
theorem sglT_size {x : Nat} (hx : fin .f32 x) : 1 ≤ (sglT x).size ∧ (sglT x).size ≤ 60 := dblT_size (wid_fin hx).1
set_option maxHeartbeats 400000 in
theorem fmtS_any (x : Nat) (w : World) (hx : fin .f32 x) : Calls Tryz.prog 57 #[.float .f32 x] w fun e w' => e = .returned (.string (sglT x)) ∧ Below w.heap.size w w' := by
  have hc : ∀ w, cR .f32 x .f64 w = wid x := fun w => cR_wid_fin hx w
  have D := Lib.hid (fun w => fmtD_any (wid x) w (wid_fin hx).1 (wid_lt x) (wid_top hx))
  have HT : Hid (sglT x = dblT (wid x)) := rfl
  clear hx
  go_enter Tryz.func57, Tryz.ntmps57
  go_wp2_with fail
  refine (D.out _).mono ?_
  rintro e w' ⟨rfl, hb⟩
  go_wp2_with fail
  go_ret
  exact ⟨by rw [HT.out]; rfl, (below_drewN (Below.refl _ _) _).trans hb⟩
theorem join_big {a b : ByteArray} (ha : a.size ≤ 1000000) (hb : b.size ≤ 1000000) (W : World) : (Op.stringOp .add a b).run Tryz.prog W = .ok (.string (a ++ b)) W := run_string_add W a b (by omega) (by omega)
/-- A line of a word and four numbers. -/
noncomputable def lineT (wd : ByteArray) (a b c d : Nat) : ByteArray := wd ++ ⟨#[32]⟩ ++ dblT a ++ ⟨#[32]⟩ ++ dblT b ++ ⟨#[32]⟩ ++ dblT c ++ ⟨#[32]⟩ ++ dblT d ++ ⟨#[10]⟩
set_option maxRecDepth 100000 in
set_option maxHeartbeats 800000 in
theorem l6Line_any (wd : ByteArray) (a b c d : Nat) (w : World) (hw : wd.size ≤ 100) (ha : fin .f64 a ∧ wfk .f64 a ∧ ab (fv .f64 a) ≤ pw 990) (hb : fin .f64 b ∧ wfk .f64 b ∧ ab (fv .f64 b) ≤ pw 990) (hc : fin .f64 c ∧ wfk .f64 c ∧ ab (fv .f64 c) ≤ pw 990) (hd : fin .f64 d ∧ wfk .f64 d ∧ ab (fv .f64 d) ≤ pw 990) :
    Calls Tryz.prog 107 #[.string wd, .complex .f64 a b, .complex .f64 c d] w fun e w' => e = .returned (.string (lineT wd a b c d)) ∧ Below w.heap.size w w' := by
  have sa := dblT_size ha.1
  have sb := dblT_size hb.1
  have sc := dblT_size hc.1
  have sd := dblT_size hd.1
  have DA := Lib.hid (fun w => fmtD_any a w ha.1 ha.2.1 ha.2.2)
  have DB := Lib.hid (fun w => fmtD_any b w hb.1 hb.2.1 hb.2.2)
  have DC := Lib.hid (fun w => fmtD_any c w hc.1 hc.2.1 hc.2.2)
  have DD := Lib.hid (fun w => fmtD_any d w hd.1 hd.2.1 hd.2.2)
  have HT : Hid (lineT wd a b c d = wd ++ ⟨#[32]⟩ ++ dblT a ++ ⟨#[32]⟩ ++ dblT b ++ ⟨#[32]⟩ ++ dblT c ++ ⟨#[32]⟩ ++ dblT d ++ ⟨#[10]⟩) := rfl
  clear ha hb hc hd
  generalize dblT a = ta at *
  generalize dblT b = tb at *
  generalize dblT c = tc at *
  generalize dblT d = td at *
  have s1 : (ByteArray.mk #[32]).size = 1 := rfl
  have s2 : (ByteArray.mk #[10]).size = 1 := rfl
  have j1 := fun W => join_big (a := wd) (b := ⟨#[32]⟩) (by omega) (by omega) W
  have z1 : (wd ++ ⟨#[32]⟩).size ≤ 101 := by rw [ByteArray.size_append]; omega
  have j2 := fun W => join_big (a := wd ++ ⟨#[32]⟩) (b := ta) (by omega) (by omega) W
  have z2 : (wd ++ ⟨#[32]⟩ ++ ta).size ≤ 161 := by rw [ByteArray.size_append]; omega
  have j3 := fun W => join_big (a := wd ++ ⟨#[32]⟩ ++ ta) (b := ⟨#[32]⟩) (by omega) (by omega) W
  have z3 : (wd ++ ⟨#[32]⟩ ++ ta ++ ⟨#[32]⟩).size ≤ 162 := by rw [ByteArray.size_append]; omega
  have j4 := fun W => join_big (a := wd ++ ⟨#[32]⟩ ++ ta ++ ⟨#[32]⟩) (b := tb) (by omega) (by omega) W
  have z4 : (wd ++ ⟨#[32]⟩ ++ ta ++ ⟨#[32]⟩ ++ tb).size ≤ 222 := by rw [ByteArray.size_append]; omega
  have j5 := fun W => join_big (a := wd ++ ⟨#[32]⟩ ++ ta ++ ⟨#[32]⟩ ++ tb) (b := ⟨#[32]⟩) (by omega) (by omega) W
  have z5 : (wd ++ ⟨#[32]⟩ ++ ta ++ ⟨#[32]⟩ ++ tb ++ ⟨#[32]⟩).size ≤ 223 := by rw [ByteArray.size_append]; omega
  have j6 := fun W => join_big (a := wd ++ ⟨#[32]⟩ ++ ta ++ ⟨#[32]⟩ ++ tb ++ ⟨#[32]⟩) (b := tc) (by omega) (by omega) W
  have z6 : (wd ++ ⟨#[32]⟩ ++ ta ++ ⟨#[32]⟩ ++ tb ++ ⟨#[32]⟩ ++ tc).size ≤ 283 := by rw [ByteArray.size_append]; omega
  have j7 := fun W => join_big (a := wd ++ ⟨#[32]⟩ ++ ta ++ ⟨#[32]⟩ ++ tb ++ ⟨#[32]⟩ ++ tc) (b := ⟨#[32]⟩) (by omega) (by omega) W
  have z7 : (wd ++ ⟨#[32]⟩ ++ ta ++ ⟨#[32]⟩ ++ tb ++ ⟨#[32]⟩ ++ tc ++ ⟨#[32]⟩).size ≤ 284 := by rw [ByteArray.size_append]; omega
  have j8 := fun W => join_big (a := wd ++ ⟨#[32]⟩ ++ ta ++ ⟨#[32]⟩ ++ tb ++ ⟨#[32]⟩ ++ tc ++ ⟨#[32]⟩) (b := td) (by omega) (by omega) W
  have z8 : (wd ++ ⟨#[32]⟩ ++ ta ++ ⟨#[32]⟩ ++ tb ++ ⟨#[32]⟩ ++ tc ++ ⟨#[32]⟩ ++ td).size ≤ 344 := by rw [ByteArray.size_append]; omega
  have j9 := fun W => join_big (a := wd ++ ⟨#[32]⟩ ++ ta ++ ⟨#[32]⟩ ++ tb ++ ⟨#[32]⟩ ++ tc ++ ⟨#[32]⟩ ++ td) (b := ⟨#[10]⟩) (by omega) (by omega) W
  clear z1 z2 z3 z4 z5 z6 z7 z8 sa sb sc sd
  go_enter Tryz.func107, Tryz.ntmps107
  go_wp2_with fail
  refine (DA.out _).mono ?_
  rintro e w1 ⟨rfl, hb1⟩
  have HB1 := Lib.hid hb1
  clear hb1
  go_wp2_with fail
  refine (DB.out _).mono ?_
  rintro e w2 ⟨rfl, hb⟩
  have HB2 := Lib.hid (HB1.out.trans (hb.mono HB1.out.size))
  clear hb
  go_wp2_with fail
  refine (DC.out _).mono ?_
  rintro e w3 ⟨rfl, hb⟩
  have HB3 := Lib.hid (HB2.out.trans (hb.mono HB2.out.size))
  clear hb
  go_wp2_with fail
  refine (DD.out _).mono ?_
  rintro e w4 ⟨rfl, hb⟩
  have HB4 := Lib.hid (HB3.out.trans (hb.mono HB3.out.size))
  clear hb
  go_wp2_with fail
  go_ret
  exact ⟨by rw [HT.out]; rfl, HB4.out⟩
end Go.Proofs.YtndnfhhdflmfcaaGreat

/-
spec.l6Modes, spec.FormatBody, spec.FormatScore: their texts.
-/
namespace Go.Proofs.YtndnfhhdflmfcaaGreat
open Go Go.RowKit Ieee

/-- Texts joined onto one. -/
def catL (z : ByteArray) (l : List ByteArray) : ByteArray := l.foldl (· ++ ·) z
theorem catL_snoc (z : ByteArray) (l : List ByteArray) (t : ByteArray) : catL z (l ++ [t]) = catL z l ++ t := by simp [catL]
theorem catL_size (z : ByteArray) (l : List ByteArray) (k : Nat) (h : ∀ t ∈ l, t.size ≤ k) : (catL z l).size ≤ z.size + l.length * k := by
  induction l generalizing z with
  | nil => simp [catL]
  | cons t l ih =>
    have h1 := ih (z ++ t) (fun x hx => h x (List.mem_cons_of_mem _ hx))
    have h2 := h t (List.mem_cons_self ..)
    rw [ByteArray.size_append] at h1
    simp only [List.length_cons, Nat.add_mul, Nat.one_mul]
    show (catL (z ++ t) l).size ≤ _
    omega
theorem map_take_snoc {A : Type} (F : A → ByteArray) (l : List A) (k : Nat) (h : k < l.length) (d : A) : (l.take (k + 1)).map F = (l.take k).map F ++ [F (l.getD k d)] := by
  rw [List.take_succ_eq_append_getElem h, List.map_append, List.map_singleton]
  simp [List.getD, List.getElem?_eq_getElem h]
/-- 'mode'. -/
def tMode : ByteArray := ⟨#[109, 111, 100, 101]⟩
/-- A mode's line. -/
noncomputable def modeT (m : MW) : ByteArray := lineT tMode (wid m.1) (wid m.2.1) (wid m.2.2.1) (wid m.2.2.2)
theorem lineT_size {wd : ByteArray} {a b c d : Nat} (ha : fin .f64 a) (hb : fin .f64 b) (hc : fin .f64 c) (hd : fin .f64 d) : (lineT wd a b c d).size ≤ wd.size + 245 := by
  have sa := dblT_size ha
  have sb := dblT_size hb
  have sc := dblT_size hc
  have sd := dblT_size hd
  have s1 : (ByteArray.mk #[32]).size = 1 := rfl
  have s2 : (ByteArray.mk #[10]).size = 1 := rfl
  unfold lineT
  simp only [ByteArray.size_append]
  omega
theorem modeT_size {a b c d : Nat} (h : ModeOk a b c d) : (modeT (a, b, c, d)).size ≤ 249 := by
  have := lineT_size (wd := tMode) h.fa h.fb h.fc h.fd
  have e : tMode.size = 4 := rfl
  show (lineT tMode (wid a) (wid b) (wid c) (wid d)).size ≤ 249
  omega
theorem l6fin {x : Nat} (h : fin .f64 (wid x)) : fin .f64 (wid x) ∧ wfk .f64 (wid x) ∧ ab (fv .f64 (wid x)) ≤ pw 990 := ⟨h, wid_lt x, wid_top (fin_of_wid h)⟩
/-- The text of modes. -/
noncomputable def modesT (ms : List MW) : ByteArray := catL ⟨#[]⟩ (ms.map modeT)
theorem ModesOk.mem {ms : List MW} (h : ModesOk ms) : ∀ m ∈ ms, ModeOk m.1 m.2.1 m.2.2.1 m.2.2.2 := h
theorem modesT_size {ms : List MW} (h : ModesOk ms) (hl : ms.length ≤ 16) (k : Nat) : (catL ⟨#[]⟩ ((ms.take k).map modeT)).size ≤ 3984 := by
  have := catL_size ⟨#[]⟩ ((ms.take k).map modeT) 249 (fun t ht => by
    obtain ⟨m, hm, rfl⟩ := List.mem_map.1 ht
    exact modeT_size (h.mem m (List.mem_of_mem_take hm)))
  have e : (ByteArray.mk #[]).size = 0 := rfl
  have hl2 : ((ms.take k).map modeT).length ≤ 16 := by simp; omega
  omega
set_option maxRecDepth 100000 in
set_option maxHeartbeats 400000 in
theorem l6Modes_any (A : Option Addr) (c lo hi : Nat) (ms : List MW) (w : World) (h : OwnM w lo hi A c ms) (hh : hi ≤ w.heap.size) (hok : ModesOk ms) (hl : ms.length ≤ 16) :
    Calls Tryz.prog 85 #[.slice A ms.length c] w fun e w' => e = .returned (.string (modesT ms)) ∧ Below w.heap.size w w' := by
  have H := Lib.hid h
  have HK := Lib.hid hok
  clear h hok
  go_enter Tryz.func85, Tryz.ntmps85
  go_wp2_with fail
  go_loopw [3, 8] (fun o i wr => ∃ k : Nat, i = .int .i64 (k : Int) ∧ k ≤ ms.length ∧ o = .string (catL ⟨#[]⟩ ((ms.take k).map modeT)) ∧ Hid (Below w.heap.size w wr)) (fun _ i _ => ms.length - (intOf i).toNat)
  case atStart => exact ⟨0, rfl, by omega, rfl, Below.refl _ _⟩
  case round =>
    obtain ⟨k, rfl, hk, rfl, hb'⟩ := hrel
    have hz := modesT_size HK.out hl k
    have HT := Lib.hid (fun (h : k < ms.length) => map_take_snoc modeT ms k h (0, 0, 0, 0))
    generalize hO : catL ⟨#[]⟩ ((ms.take k).map modeT) = O at *
    have HO := Lib.hid hO
    clear hO
    by_cases hlt : k < ms.length
    · obtain ⟨b, rfl, _, hbl, hlc, _, hcell⟩ := (H.out.below hb'.out hh).cells (by omega)
      obtain ⟨e1, e2⟩ := hcell k hlt
      have HM := Lib.hid (HK.out.at_ hlt)
      have HT := Lib.hid (HT.out hlt)
      clear hcell
      generalize ms.getD k (0, 0, 0, 0) = m at *
      obtain ⟨a, b', c', d⟩ := m
      simp only at e1 e2 HM
      have f1 := l6fin HM.out.fa
      have f2 := l6fin HM.out.fb
      have f3 := l6fin HM.out.fc
      have f4 := l6fin HM.out.fd
      have A1 : ∀ w, cR .f32 a .f64 w = wid a := fun w => cR_wid_fin (fin_of_wid f1.1) w
      have A2 : ∀ w, cR .f32 b' .f64 w = wid b' := fun w => cR_wid_fin (fin_of_wid f2.1) w
      have A3 : ∀ w, cR .f32 c' .f64 w = wid c' := fun w => cR_wid_fin (fin_of_wid f3.1) w
      have A4 : ∀ w, cR .f32 d .f64 w = wid d := fun w => cR_wid_fin (fin_of_wid f4.1) w
      have hts := modeT_size HM.out
      have LN := Lib.hid (fun W => l6Line_any tMode (wid a) (wid b') (wid c') (wid d) W (by decide) f1 f2 f3 f4)
      clear f1 f2 f3 f4
      have hj := fun W => join_big (a := O) (b := modeT (a, b', c', d)) (by omega) (by omega) W
      have HB1 : Hid (Below w.heap.size w (wr.alloc (.cells #[.complex .f32 a b', .complex .f32 c' d] 87))) := hb'.out.alloc hb'.out.size _
      go_wp2_with fail
      refine (LN.out _).mono ?_
      rintro r w' ⟨rfl, hb2⟩
      have HB : Hid (Below w.heap.size w w') := (below_drewN HB1.out _).trans (hb2.mono HB1.out.size)
      clear hb2 e1 e2 A1 A2 A3 A4 LN
      have hmt : lineT tMode (wid a) (wid b') (wid c') (wid d) = modeT (a, b', c', d) := rfl
      rw [hmt]
      generalize modeT (a, b', c', d) = mt at *
      go_wp2_with fail
      go_roundw
      case rel => exact ⟨k + 1, by go_num, by omega, by rw [HT.out, catL_snoc, HO.out], HB⟩
      case measure => simp [intOf]; omega
    · go_wp2_with fail
      go_ret
      have hk' : k = ms.length := by omega
      refine ⟨?_, hb'.out⟩
      rw [← HO.out, hk', List.take_length]
      rfl
end Go.Proofs.YtndnfhhdflmfcaaGreat

/-
spec.FormatBody, spec.FormatScore: their texts.
-/
namespace Go.Proofs.YtndnfhhdflmfcaaGreat
open Go Go.RowKit Ieee

theorem foldT_size {A : Type} (f : ByteArray → A → ByteArray) (c : Nat) (l : List A) (h : ∀ O, ∀ x ∈ l, (f O x).size ≤ O.size + c) (O : ByteArray) : (l.foldl f O).size ≤ O.size + l.length * c := by
  induction l generalizing O with
  | nil => simp
  | cons x l ih =>
    have h1 := ih (fun O y hy => h O y (List.mem_cons_of_mem _ hy)) (f O x)
    have h2 := h O x (List.mem_cons_self ..)
    simp only [List.foldl_cons, List.length_cons, Nat.add_mul, Nat.one_mul]
    omega
theorem foldT_take {A : Type} (f : ByteArray → A → ByteArray) (l : List A) (O : ByteArray) (k : Nat) (h : k < l.length) (d : A) : (l.take (k + 1)).foldl f O = f ((l.take k).foldl f O) (l.getD k d) := by
  rw [List.take_succ_eq_append_getElem h, List.foldl_append]
  simp [List.getD, List.getElem?_eq_getElem h]
set_option maxRecDepth 100000 in
set_option maxHeartbeats 400000 in
theorem fmtBody_any (b : Bd) (lo hi : Nat) (w : World) (h : OwnM w lo hi b.1 b.2.1 b.2.2) (hh : hi ≤ w.heap.size) (hok : ModesOk b.2.2) (hl : b.2.2.length ≤ 16) :
    Calls Tryz.prog 58 #[.agg #[.slice b.1 b.2.2.length b.2.1]] w fun r w' => r = .returned (.string (modesT b.2.2)) ∧ Below w.heap.size w w' := by
  have HB : Hid (Below w.heap.size w (w.alloc (.cells #[.slice b.1 b.2.2.length b.2.1] 68))) := (Below.refl w.heap.size w).alloc (Nat.le_refl _) _
  have HN := Lib.hid (heap_alloc_new w (.cells #[.slice b.1 b.2.2.length b.2.1] 68))
  have H := Lib.hid (h.below HB.out hh)
  have HK := Lib.hid hok
  clear h hok
  go_enter Tryz.func58, Tryz.ntmps58
  have c0 := cell_of_row _ w.heap.size 0 _ _ (0, 0) HN.out
  go_wp2_with fail
  generalize w.alloc (.cells #[.slice b.1 b.2.2.length b.2.1] 68) = W at *
  have hW : hi ≤ W.heap.size := by have := HB.out.size; omega
  refine (specBody_any b lo hi _ H.out hW HK.out hl).mono ?_
  rintro r w2 ⟨rfl, hb⟩
  have HB2 := Lib.hid (HB.out.trans (hb.mono HB.out.size))
  have H2 := Lib.hid (H.out.below hb hW)
  have HW := Lib.hid (Nat.le_trans hW hb.size)
  have HN2 := Lib.hid ((hb.block _ (lt_of_some HN.out)).trans HN.out)
  clear hb c0 hW
  have c0 := cell_of_row _ w.heap.size 0 _ _ (0, 0) HN2.out
  go_wp2_with fail
  refine (l6Modes_any _ _ lo hi _ _ H2.out HW.out HK.out hl).mono ?_
  rintro r w3 ⟨rfl, hb⟩
  have HB3 := Lib.hid (HB2.out.trans (hb.mono HB2.out.size))
  clear hb c0
  go_wp2_with fail
  go_ret
  exact ⟨rfl, HB3.out⟩
/-- A score's first line. -/
noncomputable def headT (s : Sh) : ByteArray := ⟨#[115, 99, 111, 114, 101, 32]⟩ ++ (numT s.1) ++ ⟨#[32]⟩ ++ (numT s.2.1) ++ ⟨#[32]⟩ ++ (sglT s.2.2.1) ++ ⟨#[32]⟩ ++ (sglT s.2.2.2) ++ ⟨#[10]⟩
/-- A body's text is added. -/
noncomputable def bodA (O : ByteArray) (ms : List MW) : ByteArray := O ++ ⟨#[98, 111, 100, 121, 10]⟩ ++ modesT ms
/-- An event's line is added. -/
noncomputable def evA (O : ByteArray) (e : Ev) : ByteArray :=
  if e.2.1 = 1 then O ++ ⟨#[97, 116, 32]⟩ ++ numT e.1 ++ ⟨#[32, 115, 116, 114, 105, 107, 101, 32]⟩ ++ (numT e.2.2.1) ++ ⟨#[32]⟩ ++ (numT e.2.2.2.1) ++ ⟨#[32]⟩ ++ (numT e.2.2.2.2.1) ++ ⟨#[32]⟩ ++ (sglT e.2.2.2.2.2) ++ ⟨#[10]⟩
  else if e.2.1 = 2 then O ++ ⟨#[97, 116, 32]⟩ ++ numT e.1 ++ ⟨#[32, 100, 97, 109, 112, 32]⟩ ++ (numT e.2.2.1) ++ ⟨#[32]⟩ ++ (sglT e.2.2.2.2.2) ++ ⟨#[10]⟩
  else O ++ ⟨#[97, 116, 32]⟩ ++ numT e.1 ++ ⟨#[32, 115, 116, 111, 112, 32]⟩ ++ (numT e.2.2.1) ++ ⟨#[10]⟩
/-- The text of a score. -/
noncomputable def scoreT (s : Sh) (L : List (List MW)) (evs : List Ev) : ByteArray := evs.foldl evA (L.foldl bodA (headT s))
theorem EvOk.nums {L : Int} {nb : Nat} {e : Ev} (h : EvOk L nb e) (hL : L ≤ 2000) (hb : nb ≤ 8) : (-1000000 ≤ e.1 ∧ e.1 ≤ 1000000) ∧ (-1000000 ≤ e.2.2.1 ∧ e.2.2.1 ≤ 1000000) ∧ (-1000000 ≤ e.2.2.2.1 ∧ e.2.2.2.1 ≤ 1000000) ∧ (-1000000 ≤ e.2.2.2.2.1 ∧ e.2.2.2.2.1 ≤ 1000000) ∧ (e.2.1 = 1 ∨ e.2.1 = 2 ∨ e.2.1 = 3) := by
  obtain ⟨a0, a1, b0, b1, _, _, _, hk⟩ := h
  rcases hk with ⟨h1, ⟨h2, h3⟩, h4, h5⟩ | ⟨h1, ⟨h2, h3⟩, _⟩ | ⟨h1, ⟨h2, h3⟩, _⟩ <;> omega
theorem num_sz {n : Int} (h : -1000000 ≤ n ∧ n ≤ 1000000) : (numT n).size ≤ 22 := (numT_size (n := n) (by omega) (by omega)).2
theorem evA_size {L : Int} {nb : Nat} {e : Ev} (h : EvOk L nb e) (hL : L ≤ 2000) (hb : nb ≤ 8) (O : ByteArray) : (evA O e).size ≤ O.size + 170 := by
  obtain ⟨n1, n2, n3, n4, _⟩ := h.nums hL hb
  have q1 := num_sz n1
  have q2 := num_sz n2
  have q3 := num_sz n3
  have q4 := num_sz n4
  have q5 := (sglT_size h.f).2
  have sz0 : (ByteArray.mk #[32]).size = 1 := rfl
  have sz1 : (ByteArray.mk #[10]).size = 1 := rfl
  have sz2 : (ByteArray.mk #[115, 99, 111, 114, 101, 32]).size = 6 := rfl
  have sz3 : (ByteArray.mk #[98, 111, 100, 121, 10]).size = 5 := rfl
  have sz4 : (ByteArray.mk #[97, 116, 32]).size = 3 := rfl
  have sz5 : (ByteArray.mk #[32, 115, 116, 114, 105, 107, 101, 32]).size = 8 := rfl
  have sz6 : (ByteArray.mk #[32, 100, 97, 109, 112, 32]).size = 6 := rfl
  have sz7 : (ByteArray.mk #[32, 115, 116, 111, 112, 32]).size = 6 := rfl
  unfold evA
  split
  · simp only [ByteArray.size_append]; omega
  · split
    · simp only [ByteArray.size_append]; omega
    · simp only [ByteArray.size_append]; omega
theorem modesT_le {ms : List MW} (h : ModesOk ms) (hl : ms.length ≤ 16) : (modesT ms).size ≤ 3984 := by
  have := modesT_size h hl ms.length
  rwa [List.take_length] at this
theorem bodA_size {ms : List MW} (h : ModesOk ms) (hl : ms.length ≤ 16) (O : ByteArray) : (bodA O ms).size ≤ O.size + 3989 := by
  have := modesT_le h hl
  have e : (ByteArray.mk #[98, 111, 100, 121, 10]).size = 5 := rfl
  unfold bodA
  simp only [ByteArray.size_append]; omega
theorem lim_fin {c r : Nat} (h : limOk c r = true) : fin .f32 c ∧ fin .f32 r := by
  simp only [limOk, Bool.and_eq_true] at h
  obtain ⟨⟨⟨⟨h1, _⟩, h3⟩, h4⟩, _⟩ := h
  exact ⟨fin_of_wid ((finB_iff _).1 h1), fin_range h3 h4⟩
theorem headT_size {s : Sh} (h : ShOk 2000 s) : (headT s).size ≤ 180 := by
  obtain ⟨l0, l1, v0, v1, lim, _, _⟩ := h
  obtain ⟨f1, f2⟩ := lim_fin lim
  have q1 := num_sz (n := s.1) (by omega)
  have q2 := num_sz (n := s.2.1) (by omega)
  have q3 := (sglT_size f1).2
  have q4 := (sglT_size f2).2
  have sz0 : (ByteArray.mk #[32]).size = 1 := rfl
  have sz1 : (ByteArray.mk #[10]).size = 1 := rfl
  have sz2 : (ByteArray.mk #[115, 99, 111, 114, 101, 32]).size = 6 := rfl
  have sz3 : (ByteArray.mk #[98, 111, 100, 121, 10]).size = 5 := rfl
  have sz4 : (ByteArray.mk #[97, 116, 32]).size = 3 := rfl
  have sz5 : (ByteArray.mk #[32, 115, 116, 114, 105, 107, 101, 32]).size = 8 := rfl
  have sz6 : (ByteArray.mk #[32, 100, 97, 109, 112, 32]).size = 6 := rfl
  have sz7 : (ByteArray.mk #[32, 115, 116, 111, 112, 32]).size = 6 := rfl
  unfold headT
  simp only [ByteArray.size_append]; omega
set_option maxRecDepth 100000 in
set_option maxHeartbeats 3200000 in
theorem fmtScore_any (s : Sh) (B : Option Addr) (cb : Nat) (bs : List Bd) (E : Option Addr) (ce lo hi : Nat) (evs : List Ev) (w : World) (h : ScIn w lo hi B cb bs E ce evs) (hok : ScAsk s bs evs) :
    Calls Tryz.prog 21 #[.agg #[.int .i64 s.1, .int .i64 s.2.1, .float .f32 s.2.2.1, .float .f32 s.2.2.2, .slice B bs.length cb, .slice E evs.length ce]] w fun r w' => r = .returned (.string (scoreT s (modesB bs) evs)) ∧ Below w.heap.size w w' := by
  have HOK := Lib.hid hok
  have hbl := hok.bods.1
  have hel := hok.evs.1
  have HB0 : Hid (Below w.heap.size w (w.alloc (.cells #[.int .i64 s.1, .int .i64 s.2.1, .float .f32 s.2.2.1, .float .f32 s.2.2.2, .slice B bs.length cb, .slice E evs.length ce] 27))) := (Below.refl w.heap.size w).alloc (Nat.le_refl _) _
  have HN0 := Lib.hid (heap_alloc_new w (.cells #[.int .i64 s.1, .int .i64 s.2.1, .float .f32 s.2.2.1, .float .f32 s.2.2.2, .slice B bs.length cb, .slice E evs.length ce] 27))
  have H0 := Lib.hid (h.below HB0.out)
  obtain ⟨f1, f2⟩ := lim_fin hok.sh.lim
  obtain ⟨l0, l1, v0, v1, _, _, _⟩ := hok.sh
  clear h hok
  obtain ⟨len, vo, c, r⟩ := s
  simp only at f1 f2 l0 l1 v0 v1 HB0 HN0 H0 ⊢
  have q1 := num_sz (n := len) (by omega)
  have q2 := num_sz (n := vo) (by omega)
  have q3 := (sglT_size f1).2
  have q4 := (sglT_size f2).2
  have sz0 : (ByteArray.mk #[32]).size = 1 := rfl
  have sz1 : (ByteArray.mk #[10]).size = 1 := rfl
  have sz2 : (ByteArray.mk #[115, 99, 111, 114, 101, 32]).size = 6 := rfl
  have sz3 : (ByteArray.mk #[98, 111, 100, 121, 10]).size = 5 := rfl
  have sz4 : (ByteArray.mk #[97, 116, 32]).size = 3 := rfl
  have sz5 : (ByteArray.mk #[32, 115, 116, 114, 105, 107, 101, 32]).size = 8 := rfl
  have sz6 : (ByteArray.mk #[32, 100, 97, 109, 112, 32]).size = 6 := rfl
  have sz7 : (ByteArray.mk #[32, 115, 116, 111, 112, 32]).size = 6 := rfl
  have ja0 := fun W => join_big (a := ⟨#[115, 99, 111, 114, 101, 32]⟩) (b := numT len) (by omega) (by omega) W
  have zja0 : (⟨#[115, 99, 111, 114, 101, 32]⟩ ++ numT len).size ≤ 28 := by rw [ByteArray.size_append]; omega
  have ja1 := fun W => join_big (a := ⟨#[115, 99, 111, 114, 101, 32]⟩ ++ numT len) (b := ⟨#[32]⟩) (by omega) (by omega) W
  have zja1 : (⟨#[115, 99, 111, 114, 101, 32]⟩ ++ numT len ++ ⟨#[32]⟩).size ≤ 29 := by rw [ByteArray.size_append]; omega
  have ja2 := fun W => join_big (a := ⟨#[115, 99, 111, 114, 101, 32]⟩ ++ numT len ++ ⟨#[32]⟩) (b := numT vo) (by omega) (by omega) W
  have zja2 : (⟨#[115, 99, 111, 114, 101, 32]⟩ ++ numT len ++ ⟨#[32]⟩ ++ numT vo).size ≤ 51 := by rw [ByteArray.size_append]; omega
  have ja3 := fun W => join_big (a := ⟨#[115, 99, 111, 114, 101, 32]⟩ ++ numT len ++ ⟨#[32]⟩ ++ numT vo) (b := ⟨#[32]⟩) (by omega) (by omega) W
  have zja3 : (⟨#[115, 99, 111, 114, 101, 32]⟩ ++ numT len ++ ⟨#[32]⟩ ++ numT vo ++ ⟨#[32]⟩).size ≤ 52 := by rw [ByteArray.size_append]; omega
  have ja4 := fun W => join_big (a := ⟨#[115, 99, 111, 114, 101, 32]⟩ ++ numT len ++ ⟨#[32]⟩ ++ numT vo ++ ⟨#[32]⟩) (b := sglT c) (by omega) (by omega) W
  have zja4 : (⟨#[115, 99, 111, 114, 101, 32]⟩ ++ numT len ++ ⟨#[32]⟩ ++ numT vo ++ ⟨#[32]⟩ ++ sglT c).size ≤ 112 := by rw [ByteArray.size_append]; omega
  have ja5 := fun W => join_big (a := ⟨#[115, 99, 111, 114, 101, 32]⟩ ++ numT len ++ ⟨#[32]⟩ ++ numT vo ++ ⟨#[32]⟩ ++ sglT c) (b := ⟨#[32]⟩) (by omega) (by omega) W
  have zja5 : (⟨#[115, 99, 111, 114, 101, 32]⟩ ++ numT len ++ ⟨#[32]⟩ ++ numT vo ++ ⟨#[32]⟩ ++ sglT c ++ ⟨#[32]⟩).size ≤ 113 := by rw [ByteArray.size_append]; omega
  have ja6 := fun W => join_big (a := ⟨#[115, 99, 111, 114, 101, 32]⟩ ++ numT len ++ ⟨#[32]⟩ ++ numT vo ++ ⟨#[32]⟩ ++ sglT c ++ ⟨#[32]⟩) (b := sglT r) (by omega) (by omega) W
  have zja6 : (⟨#[115, 99, 111, 114, 101, 32]⟩ ++ numT len ++ ⟨#[32]⟩ ++ numT vo ++ ⟨#[32]⟩ ++ sglT c ++ ⟨#[32]⟩ ++ sglT r).size ≤ 173 := by rw [ByteArray.size_append]; omega
  have ja7 := fun W => join_big (a := ⟨#[115, 99, 111, 114, 101, 32]⟩ ++ numT len ++ ⟨#[32]⟩ ++ numT vo ++ ⟨#[32]⟩ ++ sglT c ++ ⟨#[32]⟩ ++ sglT r) (b := ⟨#[10]⟩) (by omega) (by omega) W
  have zja7 : (⟨#[115, 99, 111, 114, 101, 32]⟩ ++ numT len ++ ⟨#[32]⟩ ++ numT vo ++ ⟨#[32]⟩ ++ sglT c ++ ⟨#[32]⟩ ++ sglT r ++ ⟨#[10]⟩).size ≤ 174 := by rw [ByteArray.size_append]; omega
  clear zja0 zja1 zja2 zja3 zja4 zja5 zja6 zja7
  have C1 := Lib.hid (fun w => num_any len w (by omega) (by omega))
  have C2 := Lib.hid (fun w => num_any vo w (by omega) (by omega))
  have C3 := Lib.hid (fun w => fmtS_any c w f1)
  have C4 := Lib.hid (fun w => fmtS_any r w f2)
  have HT := Lib.hid (show headT (len, vo, c, r) = ⟨#[115, 99, 111, 114, 101, 32]⟩ ++ numT len ++ ⟨#[32]⟩ ++ numT vo ++ ⟨#[32]⟩ ++ sglT c ++ ⟨#[32]⟩ ++ sglT r ++ ⟨#[10]⟩ from rfl)
  clear q1 q2 q3 q4 f1 f2 l0 v0 v1 sz0 sz1 sz2 sz3 sz4 sz5 sz6 sz7
  have HHs := Lib.hid (headT_size HOK.out.sh)
  generalize hhd : headT (len, vo, c, r) = hd at *
  have HHd := Lib.hid hhd
  clear hhd
  generalize numT len = t1 at *
  generalize numT vo = t2 at *
  generalize sglT c = t3 at *
  generalize sglT r = t4 at *
  go_enter Tryz.func21, Tryz.ntmps21
  obtain ⟨c0, c1, c2, c3, c4, c5⟩ := sc_cells HN0.out
  go_wp2_with fail
  clear c0 c1 c2 c3 c4 c5
  generalize w.alloc (.cells #[.int .i64 len, .int .i64 vo, .float .f32 c, .float .f32 r, .slice B bs.length cb, .slice E evs.length ce] 27) = W0 at *
  generalize hsb : w.heap.size = sb at *
  have HSB := Lib.hid hsb
  clear hsb
  have HC : Hid (∀ W' : World, W'.heap[sb]? = some (.cells #[.int .i64 len, .int .i64 vo, .float .f32 c, .float .f32 r, .slice B bs.length cb, .slice E evs.length ce] 27 (0, 0)) → (W'.cell? ⟨sb, 0, none⟩ = some (.int .i64 len) ∧ W'.cell? ⟨sb, 1, none⟩ = some (.int .i64 vo) ∧ W'.cell? ⟨sb, 2, none⟩ = some (.float .f32 c) ∧ W'.cell? ⟨sb, 3, none⟩ = some (.float .f32 r))) := Lib.hid (fun W' h1 => by
    have k1 := sc_cells h1
    exact ⟨k1.1, k1.2.1, k1.2.2.1, k1.2.2.2.1⟩)
  refine (specScore_any (len, vo, c, r) B cb bs E ce lo hi evs W0 H0.out HOK.out).mono ?_
  rintro rr W1 ⟨rfl, hb⟩
  have HB1 := Lib.hid (HB0.out.trans (hb.mono (by have := HB0.out.size; have := HSB.out; omega)))
  have HN1 : Hid (W1.drew.heap[sb]? = _) := Lib.hid ((hb.block _ (lt_of_some HN0.out)).trans HN0.out)
  have H1 : Hid (ScIn W1.drew lo hi B cb bs E ce evs) := Lib.hid ((H0.out.below hb).below (below_drewN (Below.refl _ _) 1))
  have HB1 : Hid (Below sb w W1.drew) := HB1.out.drew
  clear hb HB0 HN0 H0
  go_wp2_with fail
  refine wp_region_held_drew (S := fun W' => W'.cell? ⟨sb, 0, none⟩ = some (.int .i64 len) ∧ W'.cell? ⟨sb, 1, none⟩ = some (.int .i64 vo) ∧ W'.cell? ⟨sb, 2, none⟩ = some (.float .f32 c) ∧ W'.cell? ⟨sb, 3, none⟩ = some (.float .f32 r)) (by kernel_rfl) (HC.out _ HN1.out) (fun hHeld => ?_)

  refine wpAnyH_take (i := 0) (oi := _) (v := ?_) rfl (by kernel_rfl) (by kernel_rfl) (by kernel_rfl) (fun _ _ _ h => h) (Or.inl ⟨by rfl, ?_⟩) (by assumption) ?_
  rotate_left
  · (intro w hSw; (try dsimp only at hSw); go_simp; try (with_reducible rfl))
  (try simp only [Act.put, List.setIfInBounds_toArray, List.set_cons_zero, List.set_cons_succ, List.getElem_toArray, List.getElem_cons_succ, List.getElem_cons_zero])
  refine wpAnyH_take (i := 1) (oi := _) (v := ?_) rfl (by kernel_rfl) (by kernel_rfl) (by kernel_rfl) (fun _ _ _ h => h) (Or.inl ⟨by rfl, ?_⟩) (by assumption) ?_
  rotate_left
  · (intro w hSw; (try dsimp only at hSw); go_simp; try (with_reducible rfl))
  (try simp only [Act.put, List.setIfInBounds_toArray, List.set_cons_zero, List.set_cons_succ, List.getElem_toArray, List.getElem_cons_succ, List.getElem_cons_zero])
  refine wpAnyH_take (i := 5) (oi := _) (v := ?_) rfl (by kernel_rfl) (by kernel_rfl) (by kernel_rfl) (fun _ _ _ h => h) (Or.inl ⟨by rfl, ?_⟩) (by assumption) ?_
  rotate_left
  · (intro w hSw; (try dsimp only at hSw); go_simp; try (with_reducible rfl))
  (try simp only [Act.put, List.setIfInBounds_toArray, List.set_cons_zero, List.set_cons_succ, List.getElem_toArray, List.getElem_cons_succ, List.getElem_cons_zero])
  refine wpAnyH_take (i := 6) (oi := _) (v := ?_) rfl (by kernel_rfl) (by kernel_rfl) (by kernel_rfl) (fun _ _ _ h => h) (Or.inl ⟨by rfl, ?_⟩) (by assumption) ?_
  rotate_left
  · (intro w hSw; (try dsimp only at hSw); go_simp; try (with_reducible rfl))
  (try simp only [Act.put, List.setIfInBounds_toArray, List.set_cons_zero, List.set_cons_succ, List.getElem_toArray, List.getElem_cons_succ, List.getElem_cons_zero])
  refine wpAnyH_take (i := 10) (oi := _) (v := ?_) rfl (by kernel_rfl) (by kernel_rfl) (by kernel_rfl) (fun _ _ _ h => h) (Or.inl ⟨by rfl, ?_⟩) (by assumption) ?_
  rotate_left
  · (intro w hSw; (try dsimp only at hSw); go_simp; try (with_reducible rfl))
  (try simp only [Act.put, List.setIfInBounds_toArray, List.set_cons_zero, List.set_cons_succ, List.getElem_toArray, List.getElem_cons_succ, List.getElem_cons_zero])
  refine wpAnyH_take (i := 11) (oi := _) (v := ?_) rfl (by kernel_rfl) (by kernel_rfl) (by kernel_rfl) (fun _ _ _ h => h) (Or.inl ⟨by rfl, ?_⟩) (by assumption) ?_
  rotate_left
  · (intro w hSw; (try dsimp only at hSw); go_simp; try (with_reducible rfl))
  (try simp only [Act.put, List.setIfInBounds_toArray, List.set_cons_zero, List.set_cons_succ, List.getElem_toArray, List.getElem_cons_succ, List.getElem_cons_zero])
  refine wpAnyH_take (i := 15) (oi := _) (v := ?_) rfl (by kernel_rfl) (by kernel_rfl) (by kernel_rfl) (fun _ _ _ h => h) (Or.inl ⟨by rfl, ?_⟩) (by assumption) ?_
  rotate_left
  · (intro w hSw; (try dsimp only at hSw); go_simp; try (with_reducible rfl))
  (try simp only [Act.put, List.setIfInBounds_toArray, List.set_cons_zero, List.set_cons_succ, List.getElem_toArray, List.getElem_cons_succ, List.getElem_cons_zero])
  refine wpAnyH_take (i := 16) (oi := _) (v := ?_) rfl (by kernel_rfl) (by kernel_rfl) (by kernel_rfl) (fun _ _ _ h => h) (Or.inl ⟨by rfl, ?_⟩) (by assumption) ?_
  rotate_left
  · (intro w hSw; (try dsimp only at hSw); go_simp; try (with_reducible rfl))
  (try simp only [Act.put, List.setIfInBounds_toArray, List.set_cons_zero, List.set_cons_succ, List.getElem_toArray, List.getElem_cons_succ, List.getElem_cons_zero])
  refine wpAnyH_ready (rs := [2]) (by kernel_rfl) (by simp) ?_
  refine AllReadyH.cons (o := _) rfl (fun K hK => ?_) AllReadyH.nil
  go_simp
  refine (C1.out _).mono ?_
  rintro rr W2 ⟨rfl, hb⟩
  have HB2 := Lib.hid (HB1.out.trans (hb.mono (by have := HB1.out.size; have := HSB.out; omega)))
  have HN2 := Lib.hid ((hb.block _ (lt_of_some HN1.out)).trans HN1.out)
  have H2 := Lib.hid (H1.out.below hb)
  clear hb HB1 HN1 H1
  go_wp2_with fail
  refine hK.out _ _ ?_ (fun hHeldN => ?_)
  · exact HC.out _ HN2.out
  clear hHeld hK K
  have hHeld := hHeldN
  clear hHeldN
  (try simp only [Act.put, List.setIfInBounds_toArray, List.set_cons_zero, List.set_cons_succ, List.getElem_toArray, List.getElem_cons_succ, List.getElem_cons_zero])
  refine wpAnyH_take (i := 3) (oi := _) (v := ?_) rfl (by kernel_rfl) (by kernel_rfl) (by kernel_rfl) (fun _ _ _ h => h) (Or.inl ⟨by rfl, ?_⟩) (by assumption) ?_
  rotate_left
  · (intro w hSw; (try dsimp only at hSw); go_simp; try (with_reducible rfl))
  (try simp only [Act.put, List.setIfInBounds_toArray, List.set_cons_zero, List.set_cons_succ, List.getElem_toArray, List.getElem_cons_succ, List.getElem_cons_zero])
  refine wpAnyH_take (i := 4) (oi := _) (v := ?_) rfl (by kernel_rfl) (by kernel_rfl) (by kernel_rfl) (fun _ _ _ h => h) (Or.inl ⟨by rfl, ?_⟩) (by assumption) ?_
  rotate_left
  · (intro w hSw; (try dsimp only at hSw); go_simp; try (with_reducible rfl))
  (try simp only [Act.put, List.setIfInBounds_toArray, List.set_cons_zero, List.set_cons_succ, List.getElem_toArray, List.getElem_cons_succ, List.getElem_cons_zero])
  refine wpAnyH_ready (rs := [7]) (by kernel_rfl) (by simp) ?_
  refine AllReadyH.cons (o := _) rfl (fun K hK => ?_) AllReadyH.nil
  go_simp
  refine (C2.out _).mono ?_
  rintro rr W3 ⟨rfl, hb⟩
  have HB3 := Lib.hid (HB2.out.trans (hb.mono (by have := HB2.out.size; have := HSB.out; omega)))
  have HN3 := Lib.hid ((hb.block _ (lt_of_some HN2.out)).trans HN2.out)
  have H3 := Lib.hid (H2.out.below hb)
  clear hb HB2 HN2 H2
  go_wp2_with fail
  refine hK.out _ _ ?_ (fun hHeldN => ?_)
  · exact HC.out _ HN3.out
  clear hHeld hK K
  have hHeld := hHeldN
  clear hHeldN
  (try simp only [Act.put, List.setIfInBounds_toArray, List.set_cons_zero, List.set_cons_succ, List.getElem_toArray, List.getElem_cons_succ, List.getElem_cons_zero])
  refine wpAnyH_take (i := 8) (oi := _) (v := ?_) rfl (by kernel_rfl) (by kernel_rfl) (by kernel_rfl) (fun _ _ _ h => h) (Or.inl ⟨by rfl, ?_⟩) (by assumption) ?_
  rotate_left
  · (intro w hSw; (try dsimp only at hSw); go_simp; try (with_reducible rfl))
  (try simp only [Act.put, List.setIfInBounds_toArray, List.set_cons_zero, List.set_cons_succ, List.getElem_toArray, List.getElem_cons_succ, List.getElem_cons_zero])
  refine wpAnyH_take (i := 9) (oi := _) (v := ?_) rfl (by kernel_rfl) (by kernel_rfl) (by kernel_rfl) (fun _ _ _ h => h) (Or.inl ⟨by rfl, ?_⟩) (by assumption) ?_
  rotate_left
  · (intro w hSw; (try dsimp only at hSw); go_simp; try (with_reducible rfl))
  (try simp only [Act.put, List.setIfInBounds_toArray, List.set_cons_zero, List.set_cons_succ, List.getElem_toArray, List.getElem_cons_succ, List.getElem_cons_zero])
  refine wpAnyH_ready (rs := [12]) (by kernel_rfl) (by simp) ?_
  refine AllReadyH.cons (o := _) rfl (fun K hK => ?_) AllReadyH.nil
  go_simp
  refine (C3.out _).mono ?_
  rintro rr W4 ⟨rfl, hb⟩
  have HB4 := Lib.hid (HB3.out.trans (hb.mono (by have := HB3.out.size; have := HSB.out; omega)))
  have HN4 := Lib.hid ((hb.block _ (lt_of_some HN3.out)).trans HN3.out)
  have H4 := Lib.hid (H3.out.below hb)
  clear hb HB3 HN3 H3
  go_wp2_with fail
  refine hK.out _ _ ?_ (fun hHeldN => ?_)
  · exact HC.out _ HN4.out
  clear hHeld hK K
  have hHeld := hHeldN
  clear hHeldN
  (try simp only [Act.put, List.setIfInBounds_toArray, List.set_cons_zero, List.set_cons_succ, List.getElem_toArray, List.getElem_cons_succ, List.getElem_cons_zero])
  refine wpAnyH_take (i := 13) (oi := _) (v := ?_) rfl (by kernel_rfl) (by kernel_rfl) (by kernel_rfl) (fun _ _ _ h => h) (Or.inl ⟨by rfl, ?_⟩) (by assumption) ?_
  rotate_left
  · (intro w hSw; (try dsimp only at hSw); go_simp; try (with_reducible rfl))
  (try simp only [Act.put, List.setIfInBounds_toArray, List.set_cons_zero, List.set_cons_succ, List.getElem_toArray, List.getElem_cons_succ, List.getElem_cons_zero])
  refine wpAnyH_take (i := 14) (oi := _) (v := ?_) rfl (by kernel_rfl) (by kernel_rfl) (by kernel_rfl) (fun _ _ _ h => h) (Or.inl ⟨by rfl, ?_⟩) (by assumption) ?_
  rotate_left
  · (intro w hSw; (try dsimp only at hSw); go_simp; try (with_reducible rfl))
  (try simp only [Act.put, List.setIfInBounds_toArray, List.set_cons_zero, List.set_cons_succ, List.getElem_toArray, List.getElem_cons_succ, List.getElem_cons_zero])
  refine wpAnyH_ready (rs := [17]) (by kernel_rfl) (by simp) ?_
  refine AllReadyH.cons (o := _) rfl (fun K hK => ?_) AllReadyH.nil
  go_simp
  refine (C4.out _).mono ?_
  rintro rr W5 ⟨rfl, hb⟩
  have HB5 := Lib.hid (HB4.out.trans (hb.mono (by have := HB4.out.size; have := HSB.out; omega)))
  have HN5 := Lib.hid ((hb.block _ (lt_of_some HN4.out)).trans HN4.out)
  have H5 := Lib.hid (H4.out.below hb)
  clear hb HB4 HN4 H4
  go_wp2_with fail
  refine hK.out _ _ ?_ (fun hHeldN => ?_)
  · exact HC.out _ HN5.out
  clear hHeld hK K
  have hHeld := hHeldN
  clear hHeldN
  (try simp only [Act.put, List.setIfInBounds_toArray, List.set_cons_zero, List.set_cons_succ, List.getElem_toArray, List.getElem_cons_succ, List.getElem_cons_zero])
  refine wpAnyH_take (i := 18) (oi := _) (v := ?_) rfl (by kernel_rfl) (by kernel_rfl) (by kernel_rfl) (fun _ _ _ h => h) (Or.inl ⟨by rfl, ?_⟩) (by assumption) ?_
  rotate_left
  · (intro w hSw; (try dsimp only at hSw); go_simp; try (with_reducible rfl))
  (try simp only [Act.put, List.setIfInBounds_toArray, List.set_cons_zero, List.set_cons_succ, List.getElem_toArray, List.getElem_cons_succ, List.getElem_cons_zero])
  refine wpAnyH_take (i := 19) (oi := _) (v := ?_) rfl (by kernel_rfl) (by kernel_rfl) (by kernel_rfl) (fun _ _ _ h => h) (Or.inl ⟨by rfl, ?_⟩) (by assumption) ?_
  rotate_left
  · (intro w hSw; (try dsimp only at hSw); go_simp; try (with_reducible rfl))
  (try simp only [Act.put, List.setIfInBounds_toArray, List.set_cons_zero, List.set_cons_succ, List.getElem_toArray, List.getElem_cons_succ, List.getElem_cons_zero])
  refine wpAnyH_take (i := 20) (oi := _) (v := ?_) rfl (by kernel_rfl) (by kernel_rfl) (by kernel_rfl) (fun _ _ _ h => h) (Or.inl ⟨by rfl, ?_⟩) (by assumption) ?_
  rotate_left
  · (intro w hSw; (try dsimp only at hSw); go_simp; try (with_reducible rfl))
  (try simp only [Act.put, List.setIfInBounds_toArray, List.set_cons_zero, List.set_cons_succ, List.getElem_toArray, List.getElem_cons_succ, List.getElem_cons_zero])
  refine wpAnyH_done (by kernel_rfl) ?_ _
  (try simp only [List.getElem_toArray, List.getElem_cons_succ, List.getElem_cons_zero, Act.put, List.setIfInBounds_toArray, List.set_cons_zero, List.set_cons_succ])
  rw [← HT.out]
  clear C1 C2 C3 C4 ja0 ja1 ja2 ja3 ja4 ja5 ja6 ja7 HT
  obtain ⟨c0, c1, c2, c3, c4, c5⟩ := sc_cells HN5.out
  go_wp2_with fail
  clear c0 c1 c2 c3 c4 c5
  have HSz : Hid (∀ k, (((modesB bs).take k).foldl bodA hd).size ≤ 33000) := Lib.hid (fun k => by
    have h1 := foldT_size bodA 3989 ((modesB bs).take k) (fun O x hx => by
      obtain ⟨b, hb, rfl⟩ := List.mem_map.1 (List.mem_of_mem_take hx)
      obtain ⟨i, hi, rfl⟩ := List.getElem_of_mem hb
      have h2 := HOK.out.bods.2 i hi
      rw [show bodAt bs i = bs[i] by simp [bodAt, List.getD, List.getElem?_eq_getElem hi]] at h2
      exact bodA_size h2.1 h2.2 O) hd
    have h2 : ((modesB bs).take k).length ≤ 8 := by simp [modesB]; omega
    have h3 := HHs.out
    omega)
  have sz3 : (ByteArray.mk #[98, 111, 100, 121, 10]).size = 5 := rfl
  have HS3 := Lib.hid sz3
  clear sz3
  go_loopw [3, 34] (fun o i wr => ∃ k : Nat, i = .int .i64 (k : Int) ∧ k ≤ bs.length ∧ o = .string (((modesB bs).take k).foldl bodA hd) ∧ Hid (Below W5.heap.size W5 wr)) (fun _ i _ => bs.length - (intOf i).toNat)
  case atStart => exact ⟨0, rfl, by omega, rfl, Below.refl _ _⟩
  case round =>
    obtain ⟨k, rfl, hk, rfl, hb'⟩ := hrel
    have hz := HSz.out k
    have HTk := Lib.hid (fun (h : k < bs.length) => foldT_take bodA (modesB bs) hd k (by simpa [modesB] using h) [])
    generalize hO : ((modesB bs).take k).foldl bodA hd = O at *
    have HO := Lib.hid hO
    clear hO
    by_cases hlt : k < bs.length
    · have H6 := Lib.hid (H5.out.bodsIn.below hb'.out)
      obtain ⟨b, off, rfl, hbl', hc⟩ := H6.out.rd (by simp; omega)
      have e1 := hc k (bodV (bodAt bs k)) (by simp [bodAt, List.getD, List.getElem?_eq_getElem hlt])
      have HM := Lib.hid (H6.out.row k hlt)
      have HK1 := Lib.hid (HOK.out.bods.2 k hlt)
      have HH := Lib.hid H6.out.hh
      have HTk2 : Hid (((modesB bs).take (k + 1)).foldl bodA hd = bodA O (bodAt bs k).2.2) := Lib.hid (by
        rw [HTk.out hlt]
        congr 1
        simp [modesB, bodAt, List.getD, List.getElem?_eq_getElem hlt])
      clear hc H6 HTk
      unfold bodV at e1
      generalize bodAt bs k = v at *
      have HA : Hid (Below wr.heap.size wr (wr.alloc (.cells #[.slice v.1 v.2.2.length v.2.1] 68))) := (Below.refl _ _).alloc (Nat.le_refl _) _
      have HHa : hi ≤ (wr.alloc (.cells #[.slice v.1 v.2.2.length v.2.1] 68)).heap.size := Nat.le_trans HH.out HA.out.size
      have HMa := Lib.hid (HM.out.below HA.out HH.out)
      have hms := modesT_le HK1.out.1 HK1.out.2
      have FB := Lib.hid (fmtBody_any v lo hi _ HMa.out HHa HK1.out.1 HK1.out.2)
      generalize hmt : modesT v.2.2 = mt at *
      have HMt := Lib.hid hmt
      clear hmt
      have sz3 := HS3.out
      have jb0 := fun W => join_big (a := O) (b := ⟨#[98, 111, 100, 121, 10]⟩) (by omega) (by omega) W
      have zjb0 : (O ++ ⟨#[98, 111, 100, 121, 10]⟩).size ≤ 33005 := by rw [ByteArray.size_append]; omega
      have jb1 := fun W => join_big (a := O ++ ⟨#[98, 111, 100, 121, 10]⟩) (b := mt) (by omega) (by omega) W
      have zjb1 : (O ++ ⟨#[98, 111, 100, 121, 10]⟩ ++ mt).size ≤ 36989 := by rw [ByteArray.size_append]; omega
      clear zjb0 zjb1
      clear sz3 hms hz
      go_wp2_with fail
      refine FB.out.mono ?_
      rintro rr w' ⟨rfl, hb2⟩
      have HBx : Hid (Below W5.heap.size W5 w') := (hb'.out.trans (HA.out.mono hb'.out.size)).trans (hb2.mono (Nat.le_trans hb'.out.size HA.out.size))
      clear hb2 e1 HMa HA FB
      go_wp2_with fail
      go_roundw
      case rel => exact ⟨k + 1, by go_num, by omega, by rw [HTk2.out]; unfold bodA; rw [HMt.out], HBx⟩
      case measure => simp [intOf]; omega
    · have HOf : Hid ((modesB bs).foldl bodA hd = O) := Lib.hid (by
        rw [← HO.out, List.take_of_length_le (by simp [modesB]; omega)])
      have HB6 : Hid (Below sb w wr) := HB5.out.trans (hb'.out.mono (by have := HB5.out.size; have := HSB.out; omega))
      have HN6 := Lib.hid ((hb'.out.block _ (lt_of_some HN5.out)).trans HN5.out)
      have H6 := Lib.hid (H5.out.below hb'.out)
      clear hb' H5 HN5 HB5 HTk HO HSz HS3
      obtain ⟨c0, c1, c2, c3, c4, c5⟩ := sc_cells HN6.out
      generalize hWr : wr = W6 at *
      clear hWr
      go_wp2_with fail
      clear c0 c1 c2 c3 c4 c5
      have HSz : Hid (∀ k, ((evs.take k).foldl evA O).size ≤ 44000) := Lib.hid (fun k => by
        have h1 := foldT_size evA 170 (evs.take k) (fun O x hx => evA_size (HOK.out.evs.2 x (List.mem_of_mem_take hx)) l1 hbl O) O
        have h2 : (evs.take k).length ≤ 60 := by simp; omega
        omega)
      clear hz
      go_loopw [3, 47] (fun o i wr => ∃ k : Nat, i = .int .i64 (k : Int) ∧ k ≤ evs.length ∧ o = .string ((evs.take k).foldl evA O) ∧ Hid (Below W6.heap.size W6 wr)) (fun _ i _ => evs.length - (intOf i).toNat)
      case atStart => exact ⟨0, rfl, by omega, rfl, Below.refl _ _⟩
      case round =>
        obtain ⟨k', rfl, hk', rfl, hb'⟩ := hrel
        have hz := HSz.out k'
        have HTk := Lib.hid (fun (h : k' < evs.length) => foldT_take evA evs O k' h (0, 0, 0, 0, 0, 0))
        generalize hP : (evs.take k').foldl evA O = P at *
        have HP := Lib.hid hP
        clear hP
        by_cases hlt' : k' < evs.length
        · obtain ⟨b, rfl, _, _, hbl', hlc, _, hcell⟩ := (H6.out.evs.below hb'.out H6.out.hh).cells (by omega)
          obtain ⟨e0, e1, e2, e3, e4, e5⟩ := hcell k' hlt'
          have HM := Lib.hid (HOK.out.evs.at_ hlt')
          have HTk2 : Hid ((evs.take (k' + 1)).foldl evA O = evA P (eAt evs k')) := HTk.out hlt'
          clear hcell HTk
          generalize eAt evs k' = v at *
          obtain ⟨at', kd, bo, sh, co, fo'⟩ := v
          simp only at e0 e1 e2 e3 e4 e5 HM HTk2
          obtain ⟨n1, n2, n3, n4, n5⟩ := HM.out.nums l1 hbl
          simp only at n1 n2 n3 n4 n5
          have q1 := num_sz n1
          have q2 := num_sz n2
          have q3 := num_sz n3
          have q4 := num_sz n4
          have q5 := (sglT_size HM.out.f).2
          simp only at q5
          have sz0 : (ByteArray.mk #[32]).size = 1 := rfl
          have sz1 : (ByteArray.mk #[10]).size = 1 := rfl
          have sz2 : (ByteArray.mk #[115, 99, 111, 114, 101, 32]).size = 6 := rfl
          have sz3 : (ByteArray.mk #[98, 111, 100, 121, 10]).size = 5 := rfl
          have sz4 : (ByteArray.mk #[97, 116, 32]).size = 3 := rfl
          have sz5 : (ByteArray.mk #[32, 115, 116, 114, 105, 107, 101, 32]).size = 8 := rfl
          have sz6 : (ByteArray.mk #[32, 100, 97, 109, 112, 32]).size = 6 := rfl
          have sz7 : (ByteArray.mk #[32, 115, 116, 111, 112, 32]).size = 6 := rfl
          have C1 := Lib.hid (fun w => num_any at' w (by omega) (by omega))
          have C2 := Lib.hid (fun w => num_any bo w (by omega) (by omega))
          have C3 := Lib.hid (fun w => num_any sh w (by omega) (by omega))
          have C4 := Lib.hid (fun w => num_any co w (by omega) (by omega))
          have C5 := Lib.hid (fun w => fmtS_any fo' w HM.out.f)
          have HEq : Hid (∀ t0 t1 t2 t3 t4 : ByteArray, numT at' = t0 → numT bo = t1 → numT sh = t2 → numT co = t3 → sglT fo' = t4 →
              (kd = 1 → evA P (at', kd, bo, sh, co, fo') = P ++ ⟨#[97, 116, 32]⟩ ++ t0 ++ ⟨#[32, 115, 116, 114, 105, 107, 101, 32]⟩ ++ t1 ++ ⟨#[32]⟩ ++ t2 ++ ⟨#[32]⟩ ++ t3 ++ ⟨#[32]⟩ ++ t4 ++ ⟨#[10]⟩) ∧
              (kd = 2 → evA P (at', kd, bo, sh, co, fo') = P ++ ⟨#[97, 116, 32]⟩ ++ t0 ++ ⟨#[32, 100, 97, 109, 112, 32]⟩ ++ t1 ++ ⟨#[32]⟩ ++ t4 ++ ⟨#[10]⟩) ∧
              (kd = 3 → evA P (at', kd, bo, sh, co, fo') = P ++ ⟨#[97, 116, 32]⟩ ++ t0 ++ ⟨#[32, 115, 116, 111, 112, 32]⟩ ++ t1 ++ ⟨#[10]⟩)) := Lib.hid (by
            rintro _ _ _ _ _ rfl rfl rfl rfl rfl
            refine ⟨?_, ?_, ?_⟩
            · rintro rfl; unfold evA; rw [if_pos rfl]
            · rintro rfl; unfold evA; rw [if_neg (show ¬ (2 : Int) = 1 by decide), if_pos rfl]
            · rintro rfl; unfold evA; rw [if_neg (show ¬ (3 : Int) = 1 by decide), if_neg (show ¬ (3 : Int) = 2 by decide)])
          have HEq := Lib.hid (HEq.out _ _ _ _ _ rfl rfl rfl rfl rfl)
          rw [← HTk2.out] at HEq
          clear HTk2 n1 n2 n3 n4
          generalize numT at' = t0 at *
          generalize numT bo = t1 at *
          generalize numT sh = t2 at *
          generalize numT co = t3 at *
          generalize sglT fo' = t4 at *
          have HA : Hid (Below wr.heap.size wr (wr.alloc (.cells #[.int .i64 at', .int .i64 kd, .int .i64 bo, .int .i64 sh, .int .i64 co, .float .f32 fo'] 71))) := (Below.refl _ _).alloc (Nat.le_refl _) _
          have HE := Lib.hid (heap_alloc_new wr (.cells #[.int .i64 at', .int .i64 kd, .int .i64 bo, .int .i64 sh, .int .i64 co, .float .f32 fo'] 71))
          have HBw : Hid (Below W6.heap.size W6 (wr.alloc (.cells #[.int .i64 at', .int .i64 kd, .int .i64 bo, .int .i64 sh, .int .i64 co, .float .f32 fo'] 71))) := hb'.out.trans (HA.out.mono hb'.out.size)
          have HCe : Hid (∀ W' : World, W'.heap[wr.heap.size]? = some (.cells #[.int .i64 at', .int .i64 kd, .int .i64 bo, .int .i64 sh, .int .i64 co, .float .f32 fo'] 71 (0, 0)) → (W'.cell? ⟨wr.heap.size, 2, none⟩ = some (.int .i64 bo) ∧ W'.cell? ⟨wr.heap.size, 3, none⟩ = some (.int .i64 sh) ∧ W'.cell? ⟨wr.heap.size, 4, none⟩ = some (.int .i64 co) ∧ W'.cell? ⟨wr.heap.size, 5, none⟩ = some (.float .f32 fo'))) := Lib.hid (fun W' h1 => by
            have k1 := sc_cells h1
            exact ⟨k1.2.2.1, k1.2.2.2.1, k1.2.2.2.2.1, k1.2.2.2.2.2⟩)
          obtain ⟨d0, d1, d2, d3, d4, d5⟩ := sc_cells HE.out

          rcases n5 with rfl | rfl | rfl
          · have HFin := Lib.hid (HEq.out.1 rfl)
            have jk0 := fun W => join_big (a := P) (b := ⟨#[97, 116, 32]⟩) (by omega) (by omega) W
            have zjk0 : (P ++ ⟨#[97, 116, 32]⟩).size ≤ 44003 := by rw [ByteArray.size_append]; omega
            have jk1 := fun W => join_big (a := P ++ ⟨#[97, 116, 32]⟩) (b := t0) (by omega) (by omega) W
            have zjk1 : (P ++ ⟨#[97, 116, 32]⟩ ++ t0).size ≤ 44025 := by rw [ByteArray.size_append]; omega
            have jk2 := fun W => join_big (a := P ++ ⟨#[97, 116, 32]⟩ ++ t0) (b := ⟨#[32, 115, 116, 114, 105, 107, 101, 32]⟩) (by omega) (by omega) W
            have zjk2 : (P ++ ⟨#[97, 116, 32]⟩ ++ t0 ++ ⟨#[32, 115, 116, 114, 105, 107, 101, 32]⟩).size ≤ 44033 := by rw [ByteArray.size_append]; omega
            have jk3 := fun W => join_big (a := P ++ ⟨#[97, 116, 32]⟩ ++ t0 ++ ⟨#[32, 115, 116, 114, 105, 107, 101, 32]⟩) (b := t1) (by omega) (by omega) W
            have zjk3 : (P ++ ⟨#[97, 116, 32]⟩ ++ t0 ++ ⟨#[32, 115, 116, 114, 105, 107, 101, 32]⟩ ++ t1).size ≤ 44055 := by rw [ByteArray.size_append]; omega
            have jk4 := fun W => join_big (a := P ++ ⟨#[97, 116, 32]⟩ ++ t0 ++ ⟨#[32, 115, 116, 114, 105, 107, 101, 32]⟩ ++ t1) (b := ⟨#[32]⟩) (by omega) (by omega) W
            have zjk4 : (P ++ ⟨#[97, 116, 32]⟩ ++ t0 ++ ⟨#[32, 115, 116, 114, 105, 107, 101, 32]⟩ ++ t1 ++ ⟨#[32]⟩).size ≤ 44056 := by rw [ByteArray.size_append]; omega
            have jk5 := fun W => join_big (a := P ++ ⟨#[97, 116, 32]⟩ ++ t0 ++ ⟨#[32, 115, 116, 114, 105, 107, 101, 32]⟩ ++ t1 ++ ⟨#[32]⟩) (b := t2) (by omega) (by omega) W
            have zjk5 : (P ++ ⟨#[97, 116, 32]⟩ ++ t0 ++ ⟨#[32, 115, 116, 114, 105, 107, 101, 32]⟩ ++ t1 ++ ⟨#[32]⟩ ++ t2).size ≤ 44078 := by rw [ByteArray.size_append]; omega
            have jk6 := fun W => join_big (a := P ++ ⟨#[97, 116, 32]⟩ ++ t0 ++ ⟨#[32, 115, 116, 114, 105, 107, 101, 32]⟩ ++ t1 ++ ⟨#[32]⟩ ++ t2) (b := ⟨#[32]⟩) (by omega) (by omega) W
            have zjk6 : (P ++ ⟨#[97, 116, 32]⟩ ++ t0 ++ ⟨#[32, 115, 116, 114, 105, 107, 101, 32]⟩ ++ t1 ++ ⟨#[32]⟩ ++ t2 ++ ⟨#[32]⟩).size ≤ 44079 := by rw [ByteArray.size_append]; omega
            have jk7 := fun W => join_big (a := P ++ ⟨#[97, 116, 32]⟩ ++ t0 ++ ⟨#[32, 115, 116, 114, 105, 107, 101, 32]⟩ ++ t1 ++ ⟨#[32]⟩ ++ t2 ++ ⟨#[32]⟩) (b := t3) (by omega) (by omega) W
            have zjk7 : (P ++ ⟨#[97, 116, 32]⟩ ++ t0 ++ ⟨#[32, 115, 116, 114, 105, 107, 101, 32]⟩ ++ t1 ++ ⟨#[32]⟩ ++ t2 ++ ⟨#[32]⟩ ++ t3).size ≤ 44101 := by rw [ByteArray.size_append]; omega
            have jk8 := fun W => join_big (a := P ++ ⟨#[97, 116, 32]⟩ ++ t0 ++ ⟨#[32, 115, 116, 114, 105, 107, 101, 32]⟩ ++ t1 ++ ⟨#[32]⟩ ++ t2 ++ ⟨#[32]⟩ ++ t3) (b := ⟨#[32]⟩) (by omega) (by omega) W
            have zjk8 : (P ++ ⟨#[97, 116, 32]⟩ ++ t0 ++ ⟨#[32, 115, 116, 114, 105, 107, 101, 32]⟩ ++ t1 ++ ⟨#[32]⟩ ++ t2 ++ ⟨#[32]⟩ ++ t3 ++ ⟨#[32]⟩).size ≤ 44102 := by rw [ByteArray.size_append]; omega
            have jk9 := fun W => join_big (a := P ++ ⟨#[97, 116, 32]⟩ ++ t0 ++ ⟨#[32, 115, 116, 114, 105, 107, 101, 32]⟩ ++ t1 ++ ⟨#[32]⟩ ++ t2 ++ ⟨#[32]⟩ ++ t3 ++ ⟨#[32]⟩) (b := t4) (by omega) (by omega) W
            have zjk9 : (P ++ ⟨#[97, 116, 32]⟩ ++ t0 ++ ⟨#[32, 115, 116, 114, 105, 107, 101, 32]⟩ ++ t1 ++ ⟨#[32]⟩ ++ t2 ++ ⟨#[32]⟩ ++ t3 ++ ⟨#[32]⟩ ++ t4).size ≤ 44162 := by rw [ByteArray.size_append]; omega
            have jk10 := fun W => join_big (a := P ++ ⟨#[97, 116, 32]⟩ ++ t0 ++ ⟨#[32, 115, 116, 114, 105, 107, 101, 32]⟩ ++ t1 ++ ⟨#[32]⟩ ++ t2 ++ ⟨#[32]⟩ ++ t3 ++ ⟨#[32]⟩ ++ t4) (b := ⟨#[10]⟩) (by omega) (by omega) W
            have zjk10 : (P ++ ⟨#[97, 116, 32]⟩ ++ t0 ++ ⟨#[32, 115, 116, 114, 105, 107, 101, 32]⟩ ++ t1 ++ ⟨#[32]⟩ ++ t2 ++ ⟨#[32]⟩ ++ t3 ++ ⟨#[32]⟩ ++ t4 ++ ⟨#[10]⟩).size ≤ 44163 := by rw [ByteArray.size_append]; omega
            clear zjk0 zjk1 zjk2 zjk3 zjk4 zjk5 zjk6 zjk7 zjk8 zjk9 zjk10
            clear HEq q1 q2 q3 q4 q5 hz sz0 sz1 sz2 sz3 sz4 sz5 sz6 sz7
            go_wp2_with fail
            refine (C1.out _).mono ?_
            rintro rr V1 ⟨rfl, hb⟩
            have HX1 := Lib.hid (HBw.out.trans (hb.mono HBw.out.size))
            have HE1 := Lib.hid ((hb.block _ (lt_of_some HE.out)).trans HE.out)
            clear hb d0 d1 d2 d3 d4 d5 e0 e1 e2 e3 e4 e5 HA HE HBw
            generalize wr.heap.size = g at *
            obtain ⟨d0, d1, d2, d3, d4, d5⟩ := sc_cells HE1.out
            go_wp2_with fail
            clear d0 d1 d2 d3 d4 d5
            have HE2 : Hid (V1.drew.heap[g]? = _) := HE1
            have HX2 : Hid (Below W6.heap.size W6 V1.drew) := HX1.out.drew
            clear HE1 HX1
            refine wp_region_held_drew (S := fun W' => W'.cell? ⟨g, 2, none⟩ = some (.int .i64 bo) ∧ W'.cell? ⟨g, 3, none⟩ = some (.int .i64 sh) ∧ W'.cell? ⟨g, 4, none⟩ = some (.int .i64 co) ∧ W'.cell? ⟨g, 5, none⟩ = some (.float .f32 fo')) (by kernel_rfl) (HCe.out _ HE2.out) (fun hHeld => ?_)
            refine wpAnyH_take (i := 0) (oi := _) (v := ?_) rfl (by kernel_rfl) (by kernel_rfl) (by kernel_rfl) (fun _ _ _ h => h) (Or.inl ⟨by rfl, ?_⟩) (by assumption) ?_
            rotate_left
            · (intro w hSw; (try dsimp only at hSw); go_simp; try (with_reducible rfl))
            (try simp only [Act.put, List.setIfInBounds_toArray, List.set_cons_zero, List.set_cons_succ, List.getElem_toArray, List.getElem_cons_succ, List.getElem_cons_zero])
            refine wpAnyH_take (i := 1) (oi := _) (v := ?_) rfl (by kernel_rfl) (by kernel_rfl) (by kernel_rfl) (fun _ _ _ h => h) (Or.inl ⟨by rfl, ?_⟩) (by assumption) ?_
            rotate_left
            · (intro w hSw; (try dsimp only at hSw); go_simp; try (with_reducible rfl))
            (try simp only [Act.put, List.setIfInBounds_toArray, List.set_cons_zero, List.set_cons_succ, List.getElem_toArray, List.getElem_cons_succ, List.getElem_cons_zero])
            refine wpAnyH_take (i := 2) (oi := _) (v := ?_) rfl (by kernel_rfl) (by kernel_rfl) (by kernel_rfl) (fun _ _ _ h => h) (Or.inl ⟨by rfl, ?_⟩) (by assumption) ?_
            rotate_left
            · (intro w hSw; (try dsimp only at hSw); go_simp; try (with_reducible rfl))
            (try simp only [Act.put, List.setIfInBounds_toArray, List.set_cons_zero, List.set_cons_succ, List.getElem_toArray, List.getElem_cons_succ, List.getElem_cons_zero])
            refine wpAnyH_take (i := 3) (oi := _) (v := ?_) rfl (by kernel_rfl) (by kernel_rfl) (by kernel_rfl) (fun _ _ _ h => h) (Or.inl ⟨by rfl, ?_⟩) (by assumption) ?_
            rotate_left
            · (intro w hSw; (try dsimp only at hSw); go_simp; try (with_reducible rfl))
            (try simp only [Act.put, List.setIfInBounds_toArray, List.set_cons_zero, List.set_cons_succ, List.getElem_toArray, List.getElem_cons_succ, List.getElem_cons_zero])
            refine wpAnyH_take (i := 7) (oi := _) (v := ?_) rfl (by kernel_rfl) (by kernel_rfl) (by kernel_rfl) (fun _ _ _ h => h) (Or.inl ⟨by rfl, ?_⟩) (by assumption) ?_
            rotate_left
            · (intro w hSw; (try dsimp only at hSw); go_simp; try (with_reducible rfl))
            (try simp only [Act.put, List.setIfInBounds_toArray, List.set_cons_zero, List.set_cons_succ, List.getElem_toArray, List.getElem_cons_succ, List.getElem_cons_zero])
            refine wpAnyH_take (i := 8) (oi := _) (v := ?_) rfl (by kernel_rfl) (by kernel_rfl) (by kernel_rfl) (fun _ _ _ h => h) (Or.inl ⟨by rfl, ?_⟩) (by assumption) ?_
            rotate_left
            · (intro w hSw; (try dsimp only at hSw); go_simp; try (with_reducible rfl))
            (try simp only [Act.put, List.setIfInBounds_toArray, List.set_cons_zero, List.set_cons_succ, List.getElem_toArray, List.getElem_cons_succ, List.getElem_cons_zero])
            refine wpAnyH_take (i := 12) (oi := _) (v := ?_) rfl (by kernel_rfl) (by kernel_rfl) (by kernel_rfl) (fun _ _ _ h => h) (Or.inl ⟨by rfl, ?_⟩) (by assumption) ?_
            rotate_left
            · (intro w hSw; (try dsimp only at hSw); go_simp; try (with_reducible rfl))
            (try simp only [Act.put, List.setIfInBounds_toArray, List.set_cons_zero, List.set_cons_succ, List.getElem_toArray, List.getElem_cons_succ, List.getElem_cons_zero])
            refine wpAnyH_take (i := 13) (oi := _) (v := ?_) rfl (by kernel_rfl) (by kernel_rfl) (by kernel_rfl) (fun _ _ _ h => h) (Or.inl ⟨by rfl, ?_⟩) (by assumption) ?_
            rotate_left
            · (intro w hSw; (try dsimp only at hSw); go_simp; try (with_reducible rfl))
            (try simp only [Act.put, List.setIfInBounds_toArray, List.set_cons_zero, List.set_cons_succ, List.getElem_toArray, List.getElem_cons_succ, List.getElem_cons_zero])
            refine wpAnyH_take (i := 17) (oi := _) (v := ?_) rfl (by kernel_rfl) (by kernel_rfl) (by kernel_rfl) (fun _ _ _ h => h) (Or.inl ⟨by rfl, ?_⟩) (by assumption) ?_
            rotate_left
            · (intro w hSw; (try dsimp only at hSw); go_simp; try (with_reducible rfl))
            (try simp only [Act.put, List.setIfInBounds_toArray, List.set_cons_zero, List.set_cons_succ, List.getElem_toArray, List.getElem_cons_succ, List.getElem_cons_zero])
            refine wpAnyH_take (i := 18) (oi := _) (v := ?_) rfl (by kernel_rfl) (by kernel_rfl) (by kernel_rfl) (fun _ _ _ h => h) (Or.inl ⟨by rfl, ?_⟩) (by assumption) ?_
            rotate_left
            · (intro w hSw; (try dsimp only at hSw); go_simp; try (with_reducible rfl))
            (try simp only [Act.put, List.setIfInBounds_toArray, List.set_cons_zero, List.set_cons_succ, List.getElem_toArray, List.getElem_cons_succ, List.getElem_cons_zero])
            refine wpAnyH_ready (rs := [4]) (by kernel_rfl) (by simp) ?_
            refine AllReadyH.cons (o := _) rfl (fun K hK => ?_) AllReadyH.nil
            go_simp
            refine (C2.out _).mono ?_
            rintro rr V3 ⟨rfl, hb⟩
            have HX3 := Lib.hid (HX2.out.trans (hb.mono HX2.out.size))
            have HE3 := Lib.hid ((hb.block _ (lt_of_some HE2.out)).trans HE2.out)
            clear hb HX2 HE2
            go_wp2_with fail
            refine hK.out _ _ ?_ (fun hHeldN => ?_)
            · exact HCe.out _ HE3.out
            clear hHeld hK K
            have hHeld := hHeldN
            clear hHeldN
            (try simp only [Act.put, List.setIfInBounds_toArray, List.set_cons_zero, List.set_cons_succ, List.getElem_toArray, List.getElem_cons_succ, List.getElem_cons_zero])
            refine wpAnyH_take (i := 5) (oi := _) (v := ?_) rfl (by kernel_rfl) (by kernel_rfl) (by kernel_rfl) (fun _ _ _ h => h) (Or.inl ⟨by rfl, ?_⟩) (by assumption) ?_
            rotate_left
            · (intro w hSw; (try dsimp only at hSw); go_simp; try (with_reducible rfl))
            (try simp only [Act.put, List.setIfInBounds_toArray, List.set_cons_zero, List.set_cons_succ, List.getElem_toArray, List.getElem_cons_succ, List.getElem_cons_zero])
            refine wpAnyH_take (i := 6) (oi := _) (v := ?_) rfl (by kernel_rfl) (by kernel_rfl) (by kernel_rfl) (fun _ _ _ h => h) (Or.inl ⟨by rfl, ?_⟩) (by assumption) ?_
            rotate_left
            · (intro w hSw; (try dsimp only at hSw); go_simp; try (with_reducible rfl))
            (try simp only [Act.put, List.setIfInBounds_toArray, List.set_cons_zero, List.set_cons_succ, List.getElem_toArray, List.getElem_cons_succ, List.getElem_cons_zero])
            refine wpAnyH_ready (rs := [9]) (by kernel_rfl) (by simp) ?_
            refine AllReadyH.cons (o := _) rfl (fun K hK => ?_) AllReadyH.nil
            go_simp
            refine (C3.out _).mono ?_
            rintro rr V4 ⟨rfl, hb⟩
            have HX4 := Lib.hid (HX3.out.trans (hb.mono HX3.out.size))
            have HE4 := Lib.hid ((hb.block _ (lt_of_some HE3.out)).trans HE3.out)
            clear hb HX3 HE3
            go_wp2_with fail
            refine hK.out _ _ ?_ (fun hHeldN => ?_)
            · exact HCe.out _ HE4.out
            clear hHeld hK K
            have hHeld := hHeldN
            clear hHeldN
            (try simp only [Act.put, List.setIfInBounds_toArray, List.set_cons_zero, List.set_cons_succ, List.getElem_toArray, List.getElem_cons_succ, List.getElem_cons_zero])
            refine wpAnyH_take (i := 10) (oi := _) (v := ?_) rfl (by kernel_rfl) (by kernel_rfl) (by kernel_rfl) (fun _ _ _ h => h) (Or.inl ⟨by rfl, ?_⟩) (by assumption) ?_
            rotate_left
            · (intro w hSw; (try dsimp only at hSw); go_simp; try (with_reducible rfl))
            (try simp only [Act.put, List.setIfInBounds_toArray, List.set_cons_zero, List.set_cons_succ, List.getElem_toArray, List.getElem_cons_succ, List.getElem_cons_zero])
            refine wpAnyH_take (i := 11) (oi := _) (v := ?_) rfl (by kernel_rfl) (by kernel_rfl) (by kernel_rfl) (fun _ _ _ h => h) (Or.inl ⟨by rfl, ?_⟩) (by assumption) ?_
            rotate_left
            · (intro w hSw; (try dsimp only at hSw); go_simp; try (with_reducible rfl))
            (try simp only [Act.put, List.setIfInBounds_toArray, List.set_cons_zero, List.set_cons_succ, List.getElem_toArray, List.getElem_cons_succ, List.getElem_cons_zero])
            refine wpAnyH_ready (rs := [14]) (by kernel_rfl) (by simp) ?_
            refine AllReadyH.cons (o := _) rfl (fun K hK => ?_) AllReadyH.nil
            go_simp
            refine (C4.out _).mono ?_
            rintro rr V5 ⟨rfl, hb⟩
            have HX5 := Lib.hid (HX4.out.trans (hb.mono HX4.out.size))
            have HE5 := Lib.hid ((hb.block _ (lt_of_some HE4.out)).trans HE4.out)
            clear hb HX4 HE4
            go_wp2_with fail
            refine hK.out _ _ ?_ (fun hHeldN => ?_)
            · exact HCe.out _ HE5.out
            clear hHeld hK K
            have hHeld := hHeldN
            clear hHeldN
            (try simp only [Act.put, List.setIfInBounds_toArray, List.set_cons_zero, List.set_cons_succ, List.getElem_toArray, List.getElem_cons_succ, List.getElem_cons_zero])
            refine wpAnyH_take (i := 15) (oi := _) (v := ?_) rfl (by kernel_rfl) (by kernel_rfl) (by kernel_rfl) (fun _ _ _ h => h) (Or.inl ⟨by rfl, ?_⟩) (by assumption) ?_
            rotate_left
            · (intro w hSw; (try dsimp only at hSw); go_simp; try (with_reducible rfl))
            (try simp only [Act.put, List.setIfInBounds_toArray, List.set_cons_zero, List.set_cons_succ, List.getElem_toArray, List.getElem_cons_succ, List.getElem_cons_zero])
            refine wpAnyH_take (i := 16) (oi := _) (v := ?_) rfl (by kernel_rfl) (by kernel_rfl) (by kernel_rfl) (fun _ _ _ h => h) (Or.inl ⟨by rfl, ?_⟩) (by assumption) ?_
            rotate_left
            · (intro w hSw; (try dsimp only at hSw); go_simp; try (with_reducible rfl))
            (try simp only [Act.put, List.setIfInBounds_toArray, List.set_cons_zero, List.set_cons_succ, List.getElem_toArray, List.getElem_cons_succ, List.getElem_cons_zero])
            refine wpAnyH_ready (rs := [19]) (by kernel_rfl) (by simp) ?_
            refine AllReadyH.cons (o := _) rfl (fun K hK => ?_) AllReadyH.nil
            go_simp
            refine (C5.out _).mono ?_
            rintro rr V6 ⟨rfl, hb⟩
            have HX6 := Lib.hid (HX5.out.trans (hb.mono HX5.out.size))
            have HE6 := Lib.hid ((hb.block _ (lt_of_some HE5.out)).trans HE5.out)
            clear hb HX5 HE5
            go_wp2_with fail
            refine hK.out _ _ ?_ (fun hHeldN => ?_)
            · exact HCe.out _ HE6.out
            clear hHeld hK K
            have hHeld := hHeldN
            clear hHeldN
            (try simp only [Act.put, List.setIfInBounds_toArray, List.set_cons_zero, List.set_cons_succ, List.getElem_toArray, List.getElem_cons_succ, List.getElem_cons_zero])
            refine wpAnyH_take (i := 20) (oi := _) (v := ?_) rfl (by kernel_rfl) (by kernel_rfl) (by kernel_rfl) (fun _ _ _ h => h) (Or.inl ⟨by rfl, ?_⟩) (by assumption) ?_
            rotate_left
            · (intro w hSw; (try dsimp only at hSw); go_simp; try (with_reducible rfl))
            (try simp only [Act.put, List.setIfInBounds_toArray, List.set_cons_zero, List.set_cons_succ, List.getElem_toArray, List.getElem_cons_succ, List.getElem_cons_zero])
            refine wpAnyH_take (i := 21) (oi := _) (v := ?_) rfl (by kernel_rfl) (by kernel_rfl) (by kernel_rfl) (fun _ _ _ h => h) (Or.inl ⟨by rfl, ?_⟩) (by assumption) ?_
            rotate_left
            · (intro w hSw; (try dsimp only at hSw); go_simp; try (with_reducible rfl))
            (try simp only [Act.put, List.setIfInBounds_toArray, List.set_cons_zero, List.set_cons_succ, List.getElem_toArray, List.getElem_cons_succ, List.getElem_cons_zero])
            refine wpAnyH_done (by kernel_rfl) ?_ _
            (try simp only [List.getElem_toArray, List.getElem_cons_succ, List.getElem_cons_zero, Act.put, List.setIfInBounds_toArray, List.set_cons_zero, List.set_cons_succ])
            go_wp2_with fail
            go_roundw
            case rel => exact ⟨k' + 1, by go_num, by omega, by rw [HFin.out], HX6.out⟩
            case measure => simp [intOf]; omega
          · have HFin := Lib.hid (HEq.out.2.1 rfl)
            have jk0 := fun W => join_big (a := P) (b := ⟨#[97, 116, 32]⟩) (by omega) (by omega) W
            have zjk0 : (P ++ ⟨#[97, 116, 32]⟩).size ≤ 44003 := by rw [ByteArray.size_append]; omega
            have jk1 := fun W => join_big (a := P ++ ⟨#[97, 116, 32]⟩) (b := t0) (by omega) (by omega) W
            have zjk1 : (P ++ ⟨#[97, 116, 32]⟩ ++ t0).size ≤ 44025 := by rw [ByteArray.size_append]; omega
            have jk2 := fun W => join_big (a := P ++ ⟨#[97, 116, 32]⟩ ++ t0) (b := ⟨#[32, 100, 97, 109, 112, 32]⟩) (by omega) (by omega) W
            have zjk2 : (P ++ ⟨#[97, 116, 32]⟩ ++ t0 ++ ⟨#[32, 100, 97, 109, 112, 32]⟩).size ≤ 44031 := by rw [ByteArray.size_append]; omega
            have jk3 := fun W => join_big (a := P ++ ⟨#[97, 116, 32]⟩ ++ t0 ++ ⟨#[32, 100, 97, 109, 112, 32]⟩) (b := t1) (by omega) (by omega) W
            have zjk3 : (P ++ ⟨#[97, 116, 32]⟩ ++ t0 ++ ⟨#[32, 100, 97, 109, 112, 32]⟩ ++ t1).size ≤ 44053 := by rw [ByteArray.size_append]; omega
            have jk4 := fun W => join_big (a := P ++ ⟨#[97, 116, 32]⟩ ++ t0 ++ ⟨#[32, 100, 97, 109, 112, 32]⟩ ++ t1) (b := ⟨#[32]⟩) (by omega) (by omega) W
            have zjk4 : (P ++ ⟨#[97, 116, 32]⟩ ++ t0 ++ ⟨#[32, 100, 97, 109, 112, 32]⟩ ++ t1 ++ ⟨#[32]⟩).size ≤ 44054 := by rw [ByteArray.size_append]; omega
            have jk5 := fun W => join_big (a := P ++ ⟨#[97, 116, 32]⟩ ++ t0 ++ ⟨#[32, 100, 97, 109, 112, 32]⟩ ++ t1 ++ ⟨#[32]⟩) (b := t4) (by omega) (by omega) W
            have zjk5 : (P ++ ⟨#[97, 116, 32]⟩ ++ t0 ++ ⟨#[32, 100, 97, 109, 112, 32]⟩ ++ t1 ++ ⟨#[32]⟩ ++ t4).size ≤ 44114 := by rw [ByteArray.size_append]; omega
            have jk6 := fun W => join_big (a := P ++ ⟨#[97, 116, 32]⟩ ++ t0 ++ ⟨#[32, 100, 97, 109, 112, 32]⟩ ++ t1 ++ ⟨#[32]⟩ ++ t4) (b := ⟨#[10]⟩) (by omega) (by omega) W
            have zjk6 : (P ++ ⟨#[97, 116, 32]⟩ ++ t0 ++ ⟨#[32, 100, 97, 109, 112, 32]⟩ ++ t1 ++ ⟨#[32]⟩ ++ t4 ++ ⟨#[10]⟩).size ≤ 44115 := by rw [ByteArray.size_append]; omega
            clear zjk0 zjk1 zjk2 zjk3 zjk4 zjk5 zjk6
            clear HEq q1 q2 q3 q4 q5 hz sz0 sz1 sz2 sz3 sz4 sz5 sz6 sz7
            go_wp2_with fail
            refine (C1.out _).mono ?_
            rintro rr V1 ⟨rfl, hb⟩
            have HX1 := Lib.hid (HBw.out.trans (hb.mono HBw.out.size))
            have HE1 := Lib.hid ((hb.block _ (lt_of_some HE.out)).trans HE.out)
            clear hb d0 d1 d2 d3 d4 d5 e0 e1 e2 e3 e4 e5 HA HE HBw
            generalize wr.heap.size = g at *
            obtain ⟨d0, d1, d2, d3, d4, d5⟩ := sc_cells HE1.out
            go_wp2_with fail
            clear d0 d1 d2 d3 d4 d5
            have HE2 : Hid (V1.drew.heap[g]? = _) := HE1
            have HX2 : Hid (Below W6.heap.size W6 V1.drew) := HX1.out.drew
            clear HE1 HX1
            refine wp_region_held_drew (S := fun W' => W'.cell? ⟨g, 2, none⟩ = some (.int .i64 bo) ∧ W'.cell? ⟨g, 3, none⟩ = some (.int .i64 sh) ∧ W'.cell? ⟨g, 4, none⟩ = some (.int .i64 co) ∧ W'.cell? ⟨g, 5, none⟩ = some (.float .f32 fo')) (by kernel_rfl) (HCe.out _ HE2.out) (fun hHeld => ?_)
            refine wpAnyH_take (i := 0) (oi := _) (v := ?_) rfl (by kernel_rfl) (by kernel_rfl) (by kernel_rfl) (fun _ _ _ h => h) (Or.inl ⟨by rfl, ?_⟩) (by assumption) ?_
            rotate_left
            · (intro w hSw; (try dsimp only at hSw); go_simp; try (with_reducible rfl))
            (try simp only [Act.put, List.setIfInBounds_toArray, List.set_cons_zero, List.set_cons_succ, List.getElem_toArray, List.getElem_cons_succ, List.getElem_cons_zero])
            refine wpAnyH_take (i := 1) (oi := _) (v := ?_) rfl (by kernel_rfl) (by kernel_rfl) (by kernel_rfl) (fun _ _ _ h => h) (Or.inl ⟨by rfl, ?_⟩) (by assumption) ?_
            rotate_left
            · (intro w hSw; (try dsimp only at hSw); go_simp; try (with_reducible rfl))
            (try simp only [Act.put, List.setIfInBounds_toArray, List.set_cons_zero, List.set_cons_succ, List.getElem_toArray, List.getElem_cons_succ, List.getElem_cons_zero])
            refine wpAnyH_take (i := 2) (oi := _) (v := ?_) rfl (by kernel_rfl) (by kernel_rfl) (by kernel_rfl) (fun _ _ _ h => h) (Or.inl ⟨by rfl, ?_⟩) (by assumption) ?_
            rotate_left
            · (intro w hSw; (try dsimp only at hSw); go_simp; try (with_reducible rfl))
            (try simp only [Act.put, List.setIfInBounds_toArray, List.set_cons_zero, List.set_cons_succ, List.getElem_toArray, List.getElem_cons_succ, List.getElem_cons_zero])
            refine wpAnyH_take (i := 3) (oi := _) (v := ?_) rfl (by kernel_rfl) (by kernel_rfl) (by kernel_rfl) (fun _ _ _ h => h) (Or.inl ⟨by rfl, ?_⟩) (by assumption) ?_
            rotate_left
            · (intro w hSw; (try dsimp only at hSw); go_simp; try (with_reducible rfl))
            (try simp only [Act.put, List.setIfInBounds_toArray, List.set_cons_zero, List.set_cons_succ, List.getElem_toArray, List.getElem_cons_succ, List.getElem_cons_zero])
            refine wpAnyH_take (i := 7) (oi := _) (v := ?_) rfl (by kernel_rfl) (by kernel_rfl) (by kernel_rfl) (fun _ _ _ h => h) (Or.inl ⟨by rfl, ?_⟩) (by assumption) ?_
            rotate_left
            · (intro w hSw; (try dsimp only at hSw); go_simp; try (with_reducible rfl))
            (try simp only [Act.put, List.setIfInBounds_toArray, List.set_cons_zero, List.set_cons_succ, List.getElem_toArray, List.getElem_cons_succ, List.getElem_cons_zero])
            refine wpAnyH_take (i := 8) (oi := _) (v := ?_) rfl (by kernel_rfl) (by kernel_rfl) (by kernel_rfl) (fun _ _ _ h => h) (Or.inl ⟨by rfl, ?_⟩) (by assumption) ?_
            rotate_left
            · (intro w hSw; (try dsimp only at hSw); go_simp; try (with_reducible rfl))
            (try simp only [Act.put, List.setIfInBounds_toArray, List.set_cons_zero, List.set_cons_succ, List.getElem_toArray, List.getElem_cons_succ, List.getElem_cons_zero])
            refine wpAnyH_ready (rs := [4]) (by kernel_rfl) (by simp) ?_
            refine AllReadyH.cons (o := _) rfl (fun K hK => ?_) AllReadyH.nil
            go_simp
            refine (C2.out _).mono ?_
            rintro rr V3 ⟨rfl, hb⟩
            have HX3 := Lib.hid (HX2.out.trans (hb.mono HX2.out.size))
            have HE3 := Lib.hid ((hb.block _ (lt_of_some HE2.out)).trans HE2.out)
            clear hb HX2 HE2
            go_wp2_with fail
            refine hK.out _ _ ?_ (fun hHeldN => ?_)
            · exact HCe.out _ HE3.out
            clear hHeld hK K
            have hHeld := hHeldN
            clear hHeldN
            (try simp only [Act.put, List.setIfInBounds_toArray, List.set_cons_zero, List.set_cons_succ, List.getElem_toArray, List.getElem_cons_succ, List.getElem_cons_zero])
            refine wpAnyH_take (i := 5) (oi := _) (v := ?_) rfl (by kernel_rfl) (by kernel_rfl) (by kernel_rfl) (fun _ _ _ h => h) (Or.inl ⟨by rfl, ?_⟩) (by assumption) ?_
            rotate_left
            · (intro w hSw; (try dsimp only at hSw); go_simp; try (with_reducible rfl))
            (try simp only [Act.put, List.setIfInBounds_toArray, List.set_cons_zero, List.set_cons_succ, List.getElem_toArray, List.getElem_cons_succ, List.getElem_cons_zero])
            refine wpAnyH_take (i := 6) (oi := _) (v := ?_) rfl (by kernel_rfl) (by kernel_rfl) (by kernel_rfl) (fun _ _ _ h => h) (Or.inl ⟨by rfl, ?_⟩) (by assumption) ?_
            rotate_left
            · (intro w hSw; (try dsimp only at hSw); go_simp; try (with_reducible rfl))
            (try simp only [Act.put, List.setIfInBounds_toArray, List.set_cons_zero, List.set_cons_succ, List.getElem_toArray, List.getElem_cons_succ, List.getElem_cons_zero])
            refine wpAnyH_ready (rs := [9]) (by kernel_rfl) (by simp) ?_
            refine AllReadyH.cons (o := _) rfl (fun K hK => ?_) AllReadyH.nil
            go_simp
            refine (C5.out _).mono ?_
            rintro rr V4 ⟨rfl, hb⟩
            have HX4 := Lib.hid (HX3.out.trans (hb.mono HX3.out.size))
            have HE4 := Lib.hid ((hb.block _ (lt_of_some HE3.out)).trans HE3.out)
            clear hb HX3 HE3
            go_wp2_with fail
            refine hK.out _ _ ?_ (fun hHeldN => ?_)
            · exact HCe.out _ HE4.out
            clear hHeld hK K
            have hHeld := hHeldN
            clear hHeldN
            (try simp only [Act.put, List.setIfInBounds_toArray, List.set_cons_zero, List.set_cons_succ, List.getElem_toArray, List.getElem_cons_succ, List.getElem_cons_zero])
            refine wpAnyH_take (i := 10) (oi := _) (v := ?_) rfl (by kernel_rfl) (by kernel_rfl) (by kernel_rfl) (fun _ _ _ h => h) (Or.inl ⟨by rfl, ?_⟩) (by assumption) ?_
            rotate_left
            · (intro w hSw; (try dsimp only at hSw); go_simp; try (with_reducible rfl))
            (try simp only [Act.put, List.setIfInBounds_toArray, List.set_cons_zero, List.set_cons_succ, List.getElem_toArray, List.getElem_cons_succ, List.getElem_cons_zero])
            refine wpAnyH_take (i := 11) (oi := _) (v := ?_) rfl (by kernel_rfl) (by kernel_rfl) (by kernel_rfl) (fun _ _ _ h => h) (Or.inl ⟨by rfl, ?_⟩) (by assumption) ?_
            rotate_left
            · (intro w hSw; (try dsimp only at hSw); go_simp; try (with_reducible rfl))
            (try simp only [Act.put, List.setIfInBounds_toArray, List.set_cons_zero, List.set_cons_succ, List.getElem_toArray, List.getElem_cons_succ, List.getElem_cons_zero])
            refine wpAnyH_done (by kernel_rfl) ?_ _
            (try simp only [List.getElem_toArray, List.getElem_cons_succ, List.getElem_cons_zero, Act.put, List.setIfInBounds_toArray, List.set_cons_zero, List.set_cons_succ])
            go_wp2_with fail
            go_roundw
            case rel => exact ⟨k' + 1, by go_num, by omega, by rw [HFin.out], HX4.out⟩
            case measure => simp [intOf]; omega
          · have HFin := Lib.hid (HEq.out.2.2 rfl)
            have jk0 := fun W => join_big (a := P) (b := ⟨#[97, 116, 32]⟩) (by omega) (by omega) W
            have zjk0 : (P ++ ⟨#[97, 116, 32]⟩).size ≤ 44003 := by rw [ByteArray.size_append]; omega
            have jk1 := fun W => join_big (a := P ++ ⟨#[97, 116, 32]⟩) (b := t0) (by omega) (by omega) W
            have zjk1 : (P ++ ⟨#[97, 116, 32]⟩ ++ t0).size ≤ 44025 := by rw [ByteArray.size_append]; omega
            have jk2 := fun W => join_big (a := P ++ ⟨#[97, 116, 32]⟩ ++ t0) (b := ⟨#[32, 115, 116, 111, 112, 32]⟩) (by omega) (by omega) W
            have zjk2 : (P ++ ⟨#[97, 116, 32]⟩ ++ t0 ++ ⟨#[32, 115, 116, 111, 112, 32]⟩).size ≤ 44031 := by rw [ByteArray.size_append]; omega
            have jk3 := fun W => join_big (a := P ++ ⟨#[97, 116, 32]⟩ ++ t0 ++ ⟨#[32, 115, 116, 111, 112, 32]⟩) (b := t1) (by omega) (by omega) W
            have zjk3 : (P ++ ⟨#[97, 116, 32]⟩ ++ t0 ++ ⟨#[32, 115, 116, 111, 112, 32]⟩ ++ t1).size ≤ 44053 := by rw [ByteArray.size_append]; omega
            have jk4 := fun W => join_big (a := P ++ ⟨#[97, 116, 32]⟩ ++ t0 ++ ⟨#[32, 115, 116, 111, 112, 32]⟩ ++ t1) (b := ⟨#[10]⟩) (by omega) (by omega) W
            have zjk4 : (P ++ ⟨#[97, 116, 32]⟩ ++ t0 ++ ⟨#[32, 115, 116, 111, 112, 32]⟩ ++ t1 ++ ⟨#[10]⟩).size ≤ 44054 := by rw [ByteArray.size_append]; omega
            clear zjk0 zjk1 zjk2 zjk3 zjk4
            clear HEq q1 q2 q3 q4 q5 hz sz0 sz1 sz2 sz3 sz4 sz5 sz6 sz7
            go_wp2_with fail
            refine (C1.out _).mono ?_
            rintro rr V1 ⟨rfl, hb⟩
            have HX1 := Lib.hid (HBw.out.trans (hb.mono HBw.out.size))
            have HE1 := Lib.hid ((hb.block _ (lt_of_some HE.out)).trans HE.out)
            clear hb d0 d1 d2 d3 d4 d5 e0 e1 e2 e3 e4 e5 HA HE HBw
            generalize wr.heap.size = g at *
            obtain ⟨d0, d1, d2, d3, d4, d5⟩ := sc_cells HE1.out
            go_wp2_with fail
            clear d0 d1 d2 d3 d4 d5
            refine (C2.out _).mono ?_
            rintro rr V2 ⟨rfl, hb⟩
            have HX2 := Lib.hid (HX1.out.trans (hb.mono HX1.out.size))
            clear hb
            go_wp2_with fail
            go_roundw
            case rel => exact ⟨k' + 1, by go_num, by omega, by rw [HFin.out], HX2.out⟩
            case measure => simp [intOf]; omega
        · have HB7 : Hid (Below sb w wr) := HB6.out.trans (hb'.out.mono (by have := HB6.out.size; have := HSB.out; omega))
          have HPf : Hid (evs.foldl evA O = P) := Lib.hid (by
            rw [← HP.out, List.take_of_length_le (by omega)])
          go_wp2_with fail
          go_ret
          refine ⟨?_, by rw [HSB.out]; exact HB7.out⟩
          unfold scoreT
          rw [HHd.out, HOf.out, HPf.out]
          rfl
end Go.Proofs.YtndnfhhdflmfcaaGreat

/-
Regions that draw their order, whose operations may draw from the tape and whose calls may lay new blocks: one walk of the text's order, at every world that is Below the given one.
-/
namespace Go.Proofs.YtndnfhhdflmfcaaGreat
open Go Go.RowKit

section
variable {P : Program} {ops : Array Oper} {W : World} {Q : Act → Prop} {a : Act} {o : Oper} {rest : List Oper} {Rs : List (Value → Prop)}
theorem wp_region_b {id : Nat} {Q : Exit → Act → World → Prop} {a : Act} {w : World} {l : List Oper} (W : World) (hW : Below W.heap.size W w) (hm : P.follows .mixedOrders = true) (hB : Region.lexB .any l.toArray = true)
    (h : ∃ Rs, wpR P l.toArray (Below W.heap.size W) (fun a' => ∀ w', Below W.heap.size W w' → Q .normal a' w') Rs l a) : (Code.region id l.toArray true).wp P Q a w := by
  obtain ⟨Rs, h⟩ := h
  simp only [Region.lexB, Bool.and_eq_true] at hB
  refine wp_region_any hm (wpAny_of_r (C := Below W.heap.size W) (Rf := fun i => (Rs[i]?).getD fun _ => True) (Q := fun a' => ∀ w', Below W.heap.size W w' → Q .normal a' w') (fun _ w' hw' h => h w' hw') _ _ _ _ hW.drew ?_)
  have := wpAnyR_lex (C := Below W.heap.size W) (md := .any) (Rf := fun i => (Rs[i]?).getD fun _ => True) ⟨w, hW⟩ hB.1 l Rs 0 (Array.replicate l.toArray.size false) a (by simp) (fun j R hj => by simp [hj]) (by simpa using hB.2) h
  simpa using this
theorem wpB_skip (h1 : Region.wanted o (yielded ops a.tmps) = false) (h2 : wpR P ops (Below W.heap.size W) Q Rs rest (a.put o.dst undef)) : wpR P ops (Below W.heap.size W) Q ((fun _ => True) :: Rs) (o :: rest) a := by
  unfold wpR
  rw [h1]
  simpa using h2
theorem wpB_val (v : Value) (h1 : Region.wanted o (yielded ops a.tmps) = true) (h2 : ∀ w', Below W.heap.size W w' → rAt P o a (Below W.heap.size W) w' (· = v)) (h3 : wpR P ops (Below W.heap.size W) Q Rs rest (a.put o.dst v)) :
    wpR P ops (Below W.heap.size W) Q ((· = v) :: Rs) (o :: rest) a := by
  unfold wpR
  rw [if_pos h1]
  exact ⟨h2, fun u hu => hu ▸ h3⟩
theorem wpB_any (R : Value → Prop) (h1 : Region.wanted o (yielded ops a.tmps) = true) (h2 : ∀ w', Below W.heap.size W w' → rAt P o a (Below W.heap.size W) w' R) (h3 : ∀ v, R v → wpR P ops (Below W.heap.size W) Q Rs rest (a.put o.dst v)) :
    wpR P ops (Below W.heap.size W) Q (R :: Rs) (o :: rest) a := by
  unfold wpR
  rw [if_pos h1]
  exact ⟨h2, h3⟩
/-- A callee that lays new blocks only. -/
theorem bcall {f : FuncId} {args : Array Value} {w' : World} {v : Value} (hw : Below W.heap.size W w') (h : Calls P f args w' fun e w'' => e = .returned v ∧ Below w'.heap.size w' w'') :
    Calls P f args w' fun e w'' => ∃ u, e = .returned u ∧ u = v ∧ Below W.heap.size W w'' :=
  h.mono fun _ _ ⟨he, hb⟩ => ⟨v, he, rfl, hw.trans (hb.mono hw.size)⟩
theorem bcall_same {f : FuncId} {args : Array Value} {w' : World} {v : Value} (hw : Below W.heap.size W w') (h : Calls P f args w' fun e w'' => e = .returned v ∧ w' = w'') :
    Calls P f args w' fun e w'' => ∃ u, e = .returned u ∧ u = v ∧ Below W.heap.size W w'' :=
  h.mono fun _ _ ⟨he, hb⟩ => ⟨v, he, rfl, hb ▸ hw⟩
theorem bcall_drew {f : FuncId} {args : Array Value} {w' : World} {v : Value} (hw : Below W.heap.size W w') (h : Calls P f args w' fun e w'' => e = .returned v ∧ ∃ n, w'.drewN n = w'') :
    Calls P f args w' fun e w'' => ∃ u, e = .returned u ∧ u = v ∧ Below W.heap.size W w'' :=
  h.mono fun _ _ ⟨he, n, hb⟩ => ⟨v, he, rfl, hb ▸ below_drewN hw n⟩
end
end Go.Proofs.YtndnfhhdflmfcaaGreat

/-
spec.l8SameComplex, spec.l8SameVoice, spec.MakeSame at streams of one content.
-/
namespace Go.Proofs.YtndnfhhdflmfcaaGreat
open Go Go.RowKit Ieee

set_option maxHeartbeats 400000 in
theorem l8SameC_refl (x y : Nat) (w : World) (hx : wfk .f32 x) (hy : wfk .f32 y) :
    Calls Tryz.prog 59 #[.complex .f32 x y, .complex .f32 x y] w fun e w' => e = .returned (.bool true) ∧ ∃ n, w.drewN n = w' := by
  have hs : ∀ z, sameB .f32 z z = true := fun z => by simp [sameB]
  go_enter Tryz.func59, Tryz.ntmps59
  go_wp2_with fail
  refine (l8Same_wid hx hx (cR_lt hx _) (cR_lt hx _) (nrm_wid _ _) (nrm_wid _ _) _).mono ?_
  rintro e w' ⟨rfl, rfl⟩
  rw [hs]
  go_wp2_with fail
  refine (l8Same_wid hy hy (cR_lt hy _) (cR_lt hy _) (nrm_wid _ _) (nrm_wid _ _) _).mono ?_
  rintro e w' ⟨rfl, rfl⟩
  rw [hs]
  go_wp2_with fail
  go_ret
  exact ⟨rfl, _, rfl⟩
theorem cell_grow {w w' : World} {A : Addr} {v : Value} (hb : Below w.heap.size w w') (h : w.cell? A = some v) : w'.cell? A = some v := by
  have hl : A.block < w.heap.size := by
    rcases Nat.lt_or_ge A.block w.heap.size with q | q
    · exact q
    · simp [World.cell?, Array.getElem?_eq_none q] at h
  exact (World.cell?_of_block (hb.block _ hl)).trans h
theorem l8Same_refl {x r1 r2 : Nat} (hx : wfk .f32 x) (h1 : nrm .f64 r1 = wid x ∧ wfk .f64 r1) (h2 : nrm .f64 r2 = wid x ∧ wfk .f64 r2) (w : World) :
    Calls Tryz.prog 22 #[.float .f64 r1, .float .f64 r2] w fun e w' => e = .returned (.bool true) ∧ w = w' :=
  (l8Same_wid hx hx h1.2 h2.2 h1.1 h2.1 w).mono fun e w' ⟨he, hw⟩ => ⟨he.trans (by simp [sameB]), hw⟩
/-- Numbers that have been widened. -/
def WidR (x : Nat) (v : Value) : Prop := ∃ r, v = .float .f64 r ∧ nrm .f64 r = wid x ∧ wfk .f64 r
set_option maxRecDepth 100000 in
set_option maxHeartbeats 1600000 in
theorem l8SameVoice_refl (v : Vp) (lo1 hi1 lo2 hi2 mc1 mc2 sc1 sc2 ic1 ic2 : Nat) (M1 M2 S1 S2 I1 I2 : Option Addr) (w : World) (h1 : VcIn w lo1 hi1 v M1 mc1 S1 I1) (h2 : VcIn w lo2 hi2 v M2 mc2 S2 I2) (hw : VcWf v) :
    Calls Tryz.prog 23 #[.agg #[.int .i64 v.body, .slice M1 v.ms.length mc1, .slice S1 v.ms.length sc1, .slice I1 v.xs.length ic1], .agg #[.int .i64 v.body, .slice M2 v.ms.length mc2, .slice S2 v.ms.length sc2, .slice I2 v.xs.length ic2]] w fun e w' => e = .returned (.bool true) ∧ Below w.heap.size w w' := by
  have HB : Hid (Below w.heap.size w ((w.alloc (.cells #[.int .i64 v.body, .slice M1 v.ms.length mc1, .slice S1 v.ms.length sc1, .slice I1 v.xs.length ic1] 59)).alloc (.cells #[.int .i64 v.body, .slice M2 v.ms.length mc2, .slice S2 v.ms.length sc2, .slice I2 v.xs.length ic2] 59))) := ((Below.refl w.heap.size w).alloc (Nat.le_refl _) _).alloc (by simp) _
  have HX : Hid (((w.alloc (.cells #[.int .i64 v.body, .slice M1 v.ms.length mc1, .slice S1 v.ms.length sc1, .slice I1 v.xs.length ic1] 59)).alloc (.cells #[.int .i64 v.body, .slice M2 v.ms.length mc2, .slice S2 v.ms.length sc2, .slice I2 v.xs.length ic2] 59)).heap[w.heap.size]? = some (.cells #[.int .i64 v.body, .slice M1 v.ms.length mc1, .slice S1 v.ms.length sc1, .slice I1 v.xs.length ic1] 59 (0, 0))) := (Below.heap_alloc _ _ _ (by simp)).trans (heap_alloc_new w (.cells #[.int .i64 v.body, .slice M1 v.ms.length mc1, .slice S1 v.ms.length sc1, .slice I1 v.xs.length ic1] 59))
  have HN : Hid (((w.alloc (.cells #[.int .i64 v.body, .slice M1 v.ms.length mc1, .slice S1 v.ms.length sc1, .slice I1 v.xs.length ic1] 59)).alloc (.cells #[.int .i64 v.body, .slice M2 v.ms.length mc2, .slice S2 v.ms.length sc2, .slice I2 v.xs.length ic2] 59)).heap[w.heap.size + 1]? = some (.cells #[.int .i64 v.body, .slice M2 v.ms.length mc2, .slice S2 v.ms.length sc2, .slice I2 v.xs.length ic2] 59 (0, 0))) := Lib.hid (by
    have := heap_alloc_new (w.alloc (.cells #[.int .i64 v.body, .slice M1 v.ms.length mc1, .slice S1 v.ms.length sc1, .slice I1 v.xs.length ic1] 59)) (.cells #[.int .i64 v.body, .slice M2 v.ms.length mc2, .slice S2 v.ms.length sc2, .slice I2 v.xs.length ic2] 59)
    rwa [show (w.alloc (.cells #[.int .i64 v.body, .slice M1 v.ms.length mc1, .slice S1 v.ms.length sc1, .slice I1 v.xs.length ic1] 59)).heap.size = w.heap.size + 1 by simp] at this)
  have H1 := Lib.hid (h1.new HB.out)
  have H2 := Lib.hid (h2.new HB.out)
  have HW := Lib.hid hw
  have hlm := hw.lm
  have hlx := hw.lx
  clear h1 h2 hw
  go_enter Tryz.func23, Tryz.ntmps23
  obtain ⟨c0, c1, c2, c3⟩ := vo_cells HX.out
  obtain ⟨d0, d1, d2, d3⟩ := vo_cells HN.out
  go_wp2_with fail
  clear c0 c1 c2 c3 d0 d1 d2 d3
  generalize (w.alloc (.cells #[.int .i64 v.body, .slice M1 v.ms.length mc1, .slice S1 v.ms.length sc1, .slice I1 v.xs.length ic1] 59)).alloc (.cells #[.int .i64 v.body, .slice M2 v.ms.length mc2, .slice S2 v.ms.length sc2, .slice I2 v.xs.length ic2] 59) = W at *
  generalize hsb : w.heap.size = sb at *
  have HSB := Lib.hid hsb
  clear hsb
  have CA : Hid (∀ w', Below W.heap.size W w' → (w'.cell? ⟨sb, 1, none⟩ = some (.slice M1 v.ms.length mc1) ∧ w'.cell? ⟨sb, 2, none⟩ = some (.slice S1 v.ms.length sc1) ∧ w'.cell? ⟨sb, 3, none⟩ = some (.slice I1 v.xs.length ic1)) ∧
      (w'.cell? ⟨sb + 1, 1, none⟩ = some (.slice M2 v.ms.length mc2) ∧ w'.cell? ⟨sb + 1, 2, none⟩ = some (.slice S2 v.ms.length sc2) ∧ w'.cell? ⟨sb + 1, 3, none⟩ = some (.slice I2 v.xs.length ic2))) := Lib.hid (fun w' hb => by
    have k1 := vo_cells ((hb.block _ (lt_of_some HX.out)).trans HX.out)
    have k2 := vo_cells ((hb.block _ (lt_of_some HN.out)).trans HN.out)
    exact ⟨⟨k1.2.1, k1.2.2.1, k1.2.2.2⟩, k2.2.1, k2.2.2.1, k2.2.2.2⟩)
  go_loopw [43] (fun i wr => ∃ k : Nat, i = .int .i64 (k : Int) ∧ k ≤ v.ms.length ∧ Hid (Below W.heap.size W wr)) (fun i _ => v.ms.length - (intOf i).toNat)
  case atStart => exact ⟨0, rfl, by omega, Below.refl _ _⟩
  case round =>
    obtain ⟨k, rfl, hk, hb'⟩ := hrel
    by_cases hlt : k < v.ms.length
    · obtain ⟨b, rfl, _, _, _, _, hcell⟩ := (H1.out.mod.below hb'.out H1.out.hh).cells (by omega)
      obtain ⟨b2, rfl, _, _, _, _, hcell2⟩ := (H2.out.mod.below hb'.out H2.out.hh).cells (by omega)
      obtain ⟨e1, e2⟩ := hcell k hlt
      obtain ⟨e3, e4⟩ := hcell2 k hlt
      have HM := Lib.hid (HW.out.ms.at_ hlt)
      clear hcell hcell2
      go_wp2_with fail
      have CB : ∀ w', Below wr.heap.size wr w' → (w'.cell? ⟨sb, 1, none⟩ = some (.slice (some ⟨b, 0, none⟩) v.ms.length mc1) ∧ w'.cell? ⟨sb + 1, 1, none⟩ = some (.slice (some ⟨b2, 0, none⟩) v.ms.length mc2)) ∧ (w'.cell? ⟨b, k * 2, none⟩ = some (.complex .f32 (v.ms.getD k (0, 0, 0, 0)).1 (v.ms.getD k (0, 0, 0, 0)).2.1) ∧ w'.cell? ⟨b, k * 2 + 1, none⟩ = some (.complex .f32 (v.ms.getD k (0, 0, 0, 0)).2.2.1 (v.ms.getD k (0, 0, 0, 0)).2.2.2)) ∧
          w'.cell? ⟨b2, k * 2, none⟩ = some (.complex .f32 (v.ms.getD k (0, 0, 0, 0)).1 (v.ms.getD k (0, 0, 0, 0)).2.1) ∧ w'.cell? ⟨b2, k * 2 + 1, none⟩ = some (.complex .f32 (v.ms.getD k (0, 0, 0, 0)).2.2.1 (v.ms.getD k (0, 0, 0, 0)).2.2.2) := fun w' h => by
        have k1 := CA.out w' (hb'.out.trans (h.mono hb'.out.size))
        exact ⟨⟨k1.1.1, k1.2.1⟩, ⟨cell_grow h e1, cell_grow h e2⟩, cell_grow h e3, cell_grow h e4⟩
      clear e1 e2 e3 e4
      generalize v.ms.getD k (0, 0, 0, 0) = m at *
      obtain ⟨a, b', c', d⟩ := m
      simp only at CB HM
      refine wp_region_b _ (Below.refl _ _) (by kernel_rfl) (by kernel_rfl) ?_; apply Exists.intro
      repeat (first | (apply wpB_val; (· go_simp); (· intro wB hwB; go_simp; rfl); (try simp only [Act.put, List.setIfInBounds_toArray, List.set_cons_zero, List.set_cons_succ])) | (apply wpB_skip; (· go_simp); (try simp only [Act.put, List.setIfInBounds_toArray, List.set_cons_zero, List.set_cons_succ])))
      apply wpB_val; (· go_simp); intro wB hwB; go_simp
      · exact bcall_drew hwB (l8SameC_refl a b' wB HM.out.wa HM.out.wb)
      (try simp only [Act.put, List.setIfInBounds_toArray, List.set_cons_zero, List.set_cons_succ])
      repeat (first | (apply wpB_val; (· go_simp); (· intro wB hwB; go_simp; rfl); (try simp only [Act.put, List.setIfInBounds_toArray, List.set_cons_zero, List.set_cons_succ])) | (apply wpB_skip; (· go_simp); (try simp only [Act.put, List.setIfInBounds_toArray, List.set_cons_zero, List.set_cons_succ])))
      apply wpB_val; (· go_simp); intro wB hwB; go_simp
      · exact bcall_drew hwB (l8SameC_refl c' d wB HM.out.wc HM.out.wd)
      (try simp only [Act.put, List.setIfInBounds_toArray, List.set_cons_zero, List.set_cons_succ])
      repeat (first | (apply wpB_val; (· go_simp); (· intro wB hwB; go_simp; rfl); (try simp only [Act.put, List.setIfInBounds_toArray, List.set_cons_zero, List.set_cons_succ])) | (apply wpB_skip; (· go_simp); (try simp only [Act.put, List.setIfInBounds_toArray, List.set_cons_zero, List.set_cons_succ])))
      apply wpR_nil (Rs := []); intro wE hwE
      have HE : Hid (Below W.heap.size W wE) := hb'.out.trans (hwE.mono hb'.out.size)
      clear CB hwE
      go_wp2_with fail
      go_roundw
      case rel => exact ⟨k + 1, by go_num, by omega, HE⟩
      case measure => simp [intOf]; omega
    · have HB1 := Lib.hid hb'.out
      clear hb'
      have k1 := CA.out wr HB1.out
      go_wp2_with fail
      clear k1
      clear hk hlt
      go_loopw [80] (fun i wr => ∃ k : Nat, i = .int .i64 (k : Int) ∧ k ≤ v.ms.length ∧ Hid (Below W.heap.size W wr)) (fun i _ => v.ms.length - (intOf i).toNat)
      case atStart => exact ⟨0, rfl, by omega, HB1.out⟩
      case round =>
        obtain ⟨k, rfl, hk, hb'⟩ := hrel
        by_cases hlt : k < v.ms.length
        · obtain ⟨b, o1, rfl, _, hcell⟩ := (H1.out.sts.below hb'.out) (by simp; omega)
          obtain ⟨b2, o2, rfl, _, hcell2⟩ := (H2.out.sts.below hb'.out) (by simp; omega)
          have e1 := hcell k _ (sVs_at (F := fun i => sAt v.ss i) hlt)
          have e2 := hcell2 k _ (sVs_at (F := fun i => sAt v.ss i) hlt)
          have HM := Lib.hid (HW.out.ss k hlt)
          clear hcell hcell2
          go_wp2_with fail
          have CB : ∀ w', Below wr.heap.size wr w' → (w'.cell? ⟨sb, 2, none⟩ = some (.slice (some ⟨b, o1, none⟩) v.ms.length sc1) ∧ w'.cell? ⟨sb + 1, 2, none⟩ = some (.slice (some ⟨b2, o2, none⟩) v.ms.length sc2)) ∧ w'.cell? ⟨b, o1 + k, none⟩ = some (.complex .f32 (sAt v.ss k).1 (sAt v.ss k).2) ∧
              w'.cell? ⟨b2, o2 + k, none⟩ = some (.complex .f32 (sAt v.ss k).1 (sAt v.ss k).2) := fun w' h => by
            have k1 := CA.out w' (hb'.out.trans (h.mono hb'.out.size))
            exact ⟨⟨k1.1.2.1, k1.2.2.1⟩, cell_grow h e1, cell_grow h e2⟩
          clear e1 e2
          generalize sAt v.ss k = m at *
          obtain ⟨x, y⟩ := m
          simp only at CB HM
          refine wp_region_b _ (Below.refl _ _) (by kernel_rfl) (by kernel_rfl) ?_; apply Exists.intro
          repeat (first | (apply wpB_val; (· go_simp); (· intro wB hwB; go_simp; rfl); (try simp only [Act.put, List.setIfInBounds_toArray, List.set_cons_zero, List.set_cons_succ])) | (apply wpB_skip; (· go_simp); (try simp only [Act.put, List.setIfInBounds_toArray, List.set_cons_zero, List.set_cons_succ])))
          apply wpB_val; (· go_simp); intro wB hwB; go_simp
          · exact bcall_drew hwB (l8SameC_refl x y wB HM.out.1 HM.out.2)
          (try simp only [Act.put, List.setIfInBounds_toArray, List.set_cons_zero, List.set_cons_succ])
          repeat (first | (apply wpB_val; (· go_simp); (· intro wB hwB; go_simp; rfl); (try simp only [Act.put, List.setIfInBounds_toArray, List.set_cons_zero, List.set_cons_succ])) | (apply wpB_skip; (· go_simp); (try simp only [Act.put, List.setIfInBounds_toArray, List.set_cons_zero, List.set_cons_succ])))
          apply wpR_nil (Rs := []); intro wE hwE
          have HE : Hid (Below W.heap.size W wE) := hb'.out.trans (hwE.mono hb'.out.size)
          clear CB hwE
          go_wp2_with fail
          go_roundw
          case rel => exact ⟨k + 1, by go_num, by omega, HE⟩
          case measure => simp [intOf]; omega
        · have HB2 := Lib.hid hb'.out
          clear hb' HB1
          have k1 := CA.out wr HB2.out
          go_wp2_with fail
          clear k1
          clear hk hlt
          go_loopw [99] (fun i wr => ∃ k : Nat, i = .int .i64 (k : Int) ∧ k ≤ v.xs.length ∧ Hid (Below W.heap.size W wr)) (fun i _ => v.xs.length - (intOf i).toNat)
          case atStart => exact ⟨0, rfl, by omega, HB2.out⟩
          case round =>
            obtain ⟨k, rfl, hk, hb'⟩ := hrel
            by_cases hlt : k < v.xs.length
            · obtain ⟨b, o1, rfl, _, hcell⟩ := (H1.out.inp.below hb'.out) (by simp; omega)
              obtain ⟨b2, o2, rfl, _, hcell2⟩ := (H2.out.inp.below hb'.out) (by simp; omega)
              have e1 := hcell k _ (f32s_at hlt)
              have e2 := hcell2 k _ (f32s_at hlt)
              have HM := Lib.hid (HW.out.xs k hlt)
              clear hcell hcell2
              go_wp2_with fail
              have CB : ∀ w', Below wr.heap.size wr w' → (w'.cell? ⟨sb, 3, none⟩ = some (.slice (some ⟨b, o1, none⟩) v.xs.length ic1) ∧ w'.cell? ⟨sb + 1, 3, none⟩ = some (.slice (some ⟨b2, o2, none⟩) v.xs.length ic2)) ∧ w'.cell? ⟨b, o1 + k, none⟩ = some (.float .f32 (v.xs.getD k 0)) ∧
                  w'.cell? ⟨b2, o2 + k, none⟩ = some (.float .f32 (v.xs.getD k 0)) := fun w' h => by
                have k1 := CA.out w' (hb'.out.trans (h.mono hb'.out.size))
                exact ⟨⟨k1.1.2.2, k1.2.2.2⟩, cell_grow h e1, cell_grow h e2⟩
              clear e1 e2
              generalize v.xs.getD k 0 = x at *
              refine wp_region_b _ (Below.refl _ _) (by kernel_rfl) (by kernel_rfl) ?_; apply Exists.intro
              repeat (first | (apply wpB_val; (· go_simp); (· intro wB hwB; go_simp; rfl); (try simp only [Act.put, List.setIfInBounds_toArray, List.set_cons_zero, List.set_cons_succ])) | (apply wpB_skip; (· go_simp); (try simp only [Act.put, List.setIfInBounds_toArray, List.set_cons_zero, List.set_cons_succ])))
              apply wpB_any (R := WidR x)
              · go_simp
              · intro wB hwB
                go_simp
                exact ⟨below_drewN hwB _, _, rfl, nrm_wid _ _, cR_lt HM.out _⟩
              rintro _ ⟨r1, rfl, hr1, wr1⟩
              have Kr1 := Lib.hid (And.intro hr1 wr1)
              clear hr1 wr1
              (try simp only [Act.put, List.setIfInBounds_toArray, List.set_cons_zero, List.set_cons_succ])
              repeat (first | (apply wpB_val; (· go_simp); (· intro wB hwB; go_simp; rfl); (try simp only [Act.put, List.setIfInBounds_toArray, List.set_cons_zero, List.set_cons_succ])) | (apply wpB_skip; (· go_simp); (try simp only [Act.put, List.setIfInBounds_toArray, List.set_cons_zero, List.set_cons_succ])))
              apply wpB_any (R := WidR x)
              · go_simp
              · intro wB hwB
                go_simp
                exact ⟨below_drewN hwB _, _, rfl, nrm_wid _ _, cR_lt HM.out _⟩
              rintro _ ⟨r2, rfl, hr2, wr2⟩
              have Kr2 := Lib.hid (And.intro hr2 wr2)
              clear hr2 wr2
              (try simp only [Act.put, List.setIfInBounds_toArray, List.set_cons_zero, List.set_cons_succ])
              repeat (first | (apply wpB_val; (· go_simp); (· intro wB hwB; go_simp; rfl); (try simp only [Act.put, List.setIfInBounds_toArray, List.set_cons_zero, List.set_cons_succ])) | (apply wpB_skip; (· go_simp); (try simp only [Act.put, List.setIfInBounds_toArray, List.set_cons_zero, List.set_cons_succ])))
              apply wpB_val; (· go_simp); intro wB hwB; go_simp
              · exact bcall_same hwB (l8Same_refl HM.out Kr1.out Kr2.out _)
              (try simp only [Act.put, List.setIfInBounds_toArray, List.set_cons_zero, List.set_cons_succ])
              repeat (first | (apply wpB_val; (· go_simp); (· intro wB hwB; go_simp; rfl); (try simp only [Act.put, List.setIfInBounds_toArray, List.set_cons_zero, List.set_cons_succ])) | (apply wpB_skip; (· go_simp); (try simp only [Act.put, List.setIfInBounds_toArray, List.set_cons_zero, List.set_cons_succ])))
              apply wpR_nil (Rs := []); intro wE hwE
              have HE : Hid (Below W.heap.size W wE) := hb'.out.trans (hwE.mono hb'.out.size)
              clear CB hwE
              go_wp2_with fail
              go_roundw
              case rel => exact ⟨k + 1, by go_num, by omega, HE⟩
              case measure => simp [intOf]; omega
            · have HB3 : Hid (Below sb w wr) := HB.out.trans (hb'.out.mono (by have := HB.out.size; have := HSB.out; omega))
              go_wp2_with fail
              go_ret
              exact ⟨rfl, by rw [HSB.out]; exact HB3.out⟩
set_option maxRecDepth 100000 in
set_option maxHeartbeats 3200000 in
theorem makeSame_any (s : Sh) (B1 B2 : Option Addr) (cb1 cb2 : Nat) (bs1 bs2 : List Bd) (E1 E2 : Option Addr) (ce1 ce2 lo1 hi1 lo2 hi2 lo3 hi3 lo4 hi4 : Nat) (evs : List Ev) (now done : Nat) (V1 V2 : Option Addr) (nv vc1 vc2 env1 env2 : Nat) (qs1 qs2 : List Vq) (w : World)
    (h1 : ScIn w lo1 hi1 B1 cb1 bs1 E1 ce1 evs) (h2 : ScIn w lo2 hi2 B2 cb2 bs2 E2 ce2 evs) (hm : modesB bs1 = modesB bs2) (ho1 : ScAsk s bs1 evs) (ho2 : ScAsk s bs2 evs) (q1 : QsIn w lo3 hi3 V1 qs1) (q2 : QsIn w lo4 hi4 V2 qs2) (hn1 : qs1.length = nv) (hn2 : qs2.length = nv)
    (hq : qs1.map Vq.v = qs2.map Vq.v) (hwf : ∀ q ∈ qs1, VcWf q.v) (hl : nv ≤ 1048576) (he : sameB .f32 env1 env2 = true) (we : wfk .f32 env1 ∧ wfk .f32 env2) :
    Calls Tryz.prog 9 #[.agg #[.int .i64 s.1, .int .i64 s.2.1, .float .f32 s.2.2.1, .float .f32 s.2.2.2, .slice B1 bs1.length cb1, .slice E1 evs.length ce1, .int .i64 now, .int .i64 done, .slice V1 nv vc1, .float .f32 env1], .agg #[.int .i64 s.1, .int .i64 s.2.1, .float .f32 s.2.2.1, .float .f32 s.2.2.2, .slice B2 bs2.length cb2, .slice E2 evs.length ce2, .int .i64 now, .int .i64 done, .slice V2 nv vc2, .float .f32 env2]] w fun e w' => e = .returned (.bool true) ∧ Below w.heap.size w w' := by
  have HB : Hid (Below w.heap.size w ((w.alloc (.cells #[.int .i64 s.1, .int .i64 s.2.1, .float .f32 s.2.2.1, .float .f32 s.2.2.2, .slice B1 bs1.length cb1, .slice E1 evs.length ce1, .int .i64 now, .int .i64 done, .slice V1 nv vc1, .float .f32 env1] 31)).alloc (.cells #[.int .i64 s.1, .int .i64 s.2.1, .float .f32 s.2.2.1, .float .f32 s.2.2.2, .slice B2 bs2.length cb2, .slice E2 evs.length ce2, .int .i64 now, .int .i64 done, .slice V2 nv vc2, .float .f32 env2] 31))) := ((Below.refl w.heap.size w).alloc (Nat.le_refl _) _).alloc (by simp) _
  have HX : Hid (((w.alloc (.cells #[.int .i64 s.1, .int .i64 s.2.1, .float .f32 s.2.2.1, .float .f32 s.2.2.2, .slice B1 bs1.length cb1, .slice E1 evs.length ce1, .int .i64 now, .int .i64 done, .slice V1 nv vc1, .float .f32 env1] 31)).alloc (.cells #[.int .i64 s.1, .int .i64 s.2.1, .float .f32 s.2.2.1, .float .f32 s.2.2.2, .slice B2 bs2.length cb2, .slice E2 evs.length ce2, .int .i64 now, .int .i64 done, .slice V2 nv vc2, .float .f32 env2] 31)).heap[w.heap.size]? = some (.cells #[.int .i64 s.1, .int .i64 s.2.1, .float .f32 s.2.2.1, .float .f32 s.2.2.2, .slice B1 bs1.length cb1, .slice E1 evs.length ce1, .int .i64 now, .int .i64 done, .slice V1 nv vc1, .float .f32 env1] 31 (0, 0))) := (Below.heap_alloc _ _ _ (by simp)).trans (heap_alloc_new w (.cells #[.int .i64 s.1, .int .i64 s.2.1, .float .f32 s.2.2.1, .float .f32 s.2.2.2, .slice B1 bs1.length cb1, .slice E1 evs.length ce1, .int .i64 now, .int .i64 done, .slice V1 nv vc1, .float .f32 env1] 31))
  have HN : Hid (((w.alloc (.cells #[.int .i64 s.1, .int .i64 s.2.1, .float .f32 s.2.2.1, .float .f32 s.2.2.2, .slice B1 bs1.length cb1, .slice E1 evs.length ce1, .int .i64 now, .int .i64 done, .slice V1 nv vc1, .float .f32 env1] 31)).alloc (.cells #[.int .i64 s.1, .int .i64 s.2.1, .float .f32 s.2.2.1, .float .f32 s.2.2.2, .slice B2 bs2.length cb2, .slice E2 evs.length ce2, .int .i64 now, .int .i64 done, .slice V2 nv vc2, .float .f32 env2] 31)).heap[w.heap.size + 1]? = some (.cells #[.int .i64 s.1, .int .i64 s.2.1, .float .f32 s.2.2.1, .float .f32 s.2.2.2, .slice B2 bs2.length cb2, .slice E2 evs.length ce2, .int .i64 now, .int .i64 done, .slice V2 nv vc2, .float .f32 env2] 31 (0, 0))) := Lib.hid (by
    have := heap_alloc_new (w.alloc (.cells #[.int .i64 s.1, .int .i64 s.2.1, .float .f32 s.2.2.1, .float .f32 s.2.2.2, .slice B1 bs1.length cb1, .slice E1 evs.length ce1, .int .i64 now, .int .i64 done, .slice V1 nv vc1, .float .f32 env1] 31)) (.cells #[.int .i64 s.1, .int .i64 s.2.1, .float .f32 s.2.2.1, .float .f32 s.2.2.2, .slice B2 bs2.length cb2, .slice E2 evs.length ce2, .int .i64 now, .int .i64 done, .slice V2 nv vc2, .float .f32 env2] 31)
    rwa [show (w.alloc (.cells #[.int .i64 s.1, .int .i64 s.2.1, .float .f32 s.2.2.1, .float .f32 s.2.2.2, .slice B1 bs1.length cb1, .slice E1 evs.length ce1, .int .i64 now, .int .i64 done, .slice V1 nv vc1, .float .f32 env1] 31)).heap.size = w.heap.size + 1 by simp] at this)
  have H1 := Lib.hid (h1.below HB.out)
  have H2 := Lib.hid (h2.below HB.out)
  have Q1 := Lib.hid (q1.new HB.out)
  have Q2 := Lib.hid (q2.new HB.out)
  have HO1 := Lib.hid ho1
  have HO2 := Lib.hid ho2
  have HM := Lib.hid hm
  have HQ := Lib.hid hq
  have HN1 := Lib.hid hn1
  have HN2 := Lib.hid hn2
  have HWf := Lib.hid hwf
  have HEs := Lib.hid he
  have HWe := Lib.hid we
  clear h1 h2 q1 q2 ho1 ho2 hm hq hn1 hn2 hwf he we
  go_enter Tryz.func9, Tryz.ntmps9
  go_wp2_with fail
  generalize ((w.alloc (.cells #[.int .i64 s.1, .int .i64 s.2.1, .float .f32 s.2.2.1, .float .f32 s.2.2.2, .slice B1 bs1.length cb1, .slice E1 evs.length ce1, .int .i64 now, .int .i64 done, .slice V1 nv vc1, .float .f32 env1] 31)).alloc (.cells #[.int .i64 s.1, .int .i64 s.2.1, .float .f32 s.2.2.1, .float .f32 s.2.2.2, .slice B2 bs2.length cb2, .slice E2 evs.length ce2, .int .i64 now, .int .i64 done, .slice V2 nv vc2, .float .f32 env2] 31)) = W at *
  generalize hsb : w.heap.size = sb at *
  have HSB := Lib.hid hsb
  clear hsb
  have CA : Hid (∀ w', Below W.heap.size W w' → (w'.cell? ⟨sb, 0, none⟩ = some (.int .i64 s.1) ∧ w'.cell? ⟨sb, 1, none⟩ = some (.int .i64 s.2.1) ∧ w'.cell? ⟨sb, 2, none⟩ = some (.float .f32 s.2.2.1) ∧ w'.cell? ⟨sb, 3, none⟩ = some (.float .f32 s.2.2.2) ∧ w'.cell? ⟨sb, 4, none⟩ = some (.slice B1 bs1.length cb1) ∧ w'.cell? ⟨sb, 5, none⟩ = some (.slice E1 evs.length ce1) ∧ w'.cell? ⟨sb, 6, none⟩ = some (.int .i64 now) ∧ w'.cell? ⟨sb, 7, none⟩ = some (.int .i64 done) ∧ w'.cell? ⟨sb, 8, none⟩ = some (.slice V1 nv vc1) ∧ w'.cell? ⟨sb, 9, none⟩ = some (.float .f32 env1)) ∧
      (w'.cell? ⟨sb + 1, 0, none⟩ = some (.int .i64 s.1) ∧ w'.cell? ⟨sb + 1, 1, none⟩ = some (.int .i64 s.2.1) ∧ w'.cell? ⟨sb + 1, 2, none⟩ = some (.float .f32 s.2.2.1) ∧ w'.cell? ⟨sb + 1, 3, none⟩ = some (.float .f32 s.2.2.2) ∧ w'.cell? ⟨sb + 1, 4, none⟩ = some (.slice B2 bs2.length cb2) ∧ w'.cell? ⟨sb + 1, 5, none⟩ = some (.slice E2 evs.length ce2) ∧ w'.cell? ⟨sb + 1, 6, none⟩ = some (.int .i64 now) ∧ w'.cell? ⟨sb + 1, 7, none⟩ = some (.int .i64 done) ∧ w'.cell? ⟨sb + 1, 8, none⟩ = some (.slice V2 nv vc2) ∧ w'.cell? ⟨sb + 1, 9, none⟩ = some (.float .f32 env2))) := Lib.hid (fun w' hb => 
    ⟨st_cells ((hb.block _ (lt_of_some HX.out)).trans HX.out), st_cells ((hb.block _ (lt_of_some HN.out)).trans HN.out)⟩)
  have CB := CA.out
  have T1 := Lib.hid (fun (w' : World) (hb : Below W.heap.size W w') => fmtScore_any s B1 cb1 bs1 E1 ce1 lo1 hi1 evs w' (H1.out.below hb) HO1.out)
  have T2 := Lib.hid (fun (w' : World) (hb : Below W.heap.size W w') => fmtScore_any s B2 cb2 bs2 E2 ce2 lo2 hi2 evs w' (H2.out.below hb) HO2.out)
  rw [← HM.out] at T2
  generalize scoreT s (modesB bs1) evs = T at *
  refine wp_region_b _ (Below.refl _ _) (by kernel_rfl) (by kernel_rfl) ?_; apply Exists.intro
  repeat (first | (apply wpB_val; (· go_simp); (· intro wB hwB; go_simp; rfl); (try simp only [Act.put, List.setIfInBounds_toArray, List.set_cons_zero, List.set_cons_succ])) | (apply wpB_skip; (· go_simp); (try simp only [Act.put, List.setIfInBounds_toArray, List.set_cons_zero, List.set_cons_succ])))
  apply wpB_val; (· go_simp); intro wB hwB; go_simp
  · exact bcall hwB (T1.out wB hwB)
  (try simp only [Act.put, List.setIfInBounds_toArray, List.set_cons_zero, List.set_cons_succ])
  repeat (first | (apply wpB_val; (· go_simp); (· intro wB hwB; go_simp; rfl); (try simp only [Act.put, List.setIfInBounds_toArray, List.set_cons_zero, List.set_cons_succ])) | (apply wpB_skip; (· go_simp); (try simp only [Act.put, List.setIfInBounds_toArray, List.set_cons_zero, List.set_cons_succ])))
  apply wpB_val; (· go_simp); intro wB hwB; go_simp
  · exact bcall hwB (T2.out wB hwB)
  (try simp only [Act.put, List.setIfInBounds_toArray, List.set_cons_zero, List.set_cons_succ])
  repeat (first | (apply wpB_val; (· go_simp); (· intro wB hwB; go_simp; rfl); (try simp only [Act.put, List.setIfInBounds_toArray, List.set_cons_zero, List.set_cons_succ])) | (apply wpB_skip; (· go_simp); (try simp only [Act.put, List.setIfInBounds_toArray, List.set_cons_zero, List.set_cons_succ])))
  apply wpB_any (R := WidR env1)
  · go_simp
  · intro wB hwB
    go_simp
    exact ⟨below_drewN hwB _, _, rfl, nrm_wid _ _, cR_lt HWe.out.1 _⟩
  rintro _ ⟨r1, rfl, hr, wr'⟩
  have Kr1 := Lib.hid (And.intro hr wr')
  clear hr wr'
  (try simp only [Act.put, List.setIfInBounds_toArray, List.set_cons_zero, List.set_cons_succ])
  repeat (first | (apply wpB_val; (· go_simp); (· intro wB hwB; go_simp; rfl); (try simp only [Act.put, List.setIfInBounds_toArray, List.set_cons_zero, List.set_cons_succ])) | (apply wpB_skip; (· go_simp); (try simp only [Act.put, List.setIfInBounds_toArray, List.set_cons_zero, List.set_cons_succ])))
  apply wpB_any (R := WidR env2)
  · go_simp
  · intro wB hwB
    go_simp
    exact ⟨below_drewN hwB _, _, rfl, nrm_wid _ _, cR_lt HWe.out.2 _⟩
  rintro _ ⟨r2, rfl, hr, wr'⟩
  have Kr2 := Lib.hid (And.intro hr wr')
  clear hr wr'
  (try simp only [Act.put, List.setIfInBounds_toArray, List.set_cons_zero, List.set_cons_succ])
  repeat (first | (apply wpB_val; (· go_simp); (· intro wB hwB; go_simp; rfl); (try simp only [Act.put, List.setIfInBounds_toArray, List.set_cons_zero, List.set_cons_succ])) | (apply wpB_skip; (· go_simp); (try simp only [Act.put, List.setIfInBounds_toArray, List.set_cons_zero, List.set_cons_succ])))
  apply wpB_val; (· go_simp); intro wB hwB; go_simp
  · exact bcall_same hwB ((l8Same_wid HWe.out.1 HWe.out.2 Kr1.out.2 Kr2.out.2 Kr1.out.1 Kr2.out.1 _).mono fun e w' ⟨he, hw⟩ => ⟨he.trans (by rw [HEs.out]), hw⟩)
  (try simp only [Act.put, List.setIfInBounds_toArray, List.set_cons_zero, List.set_cons_succ])
  repeat (first | (apply wpB_val; (· go_simp); (· intro wB hwB; go_simp; rfl); (try simp only [Act.put, List.setIfInBounds_toArray, List.set_cons_zero, List.set_cons_succ])) | (apply wpB_skip; (· go_simp); (try simp only [Act.put, List.setIfInBounds_toArray, List.set_cons_zero, List.set_cons_succ])))
  apply wpR_nil (Rs := []); intro wE hwE
  have HE := Lib.hid hwE
  have k0 := CA.out wE hwE
  clear hwE CB
  go_wp2_with fail
  clear k0
  go_loopw [49] (fun i wr => ∃ k : Nat, i = .int .i64 (k : Int) ∧ k ≤ nv ∧ Hid (Below W.heap.size W wr)) (fun i _ => nv - (intOf i).toNat)
  case atStart => exact ⟨0, rfl, by omega, HE.out⟩
  case round =>
    obtain ⟨k, rfl, hk, hb'⟩ := hrel
    have HBt : Hid (Below W.heap.size W wr) := hb'
    by_cases hlt : k < nv
    · have hkq : k < qs1.length := by have := HN1.out; omega
      obtain ⟨q, hq⟩ : ∃ q, qs1[k]? = some q := ⟨qs1[k], List.getElem?_eq_getElem hkq⟩
      obtain ⟨r, hr, hv⟩ : ∃ r, qs2[k]? = some r ∧ q.v = r.v := by
        have h3 := congrArg (fun l => l[k]?) HQ.out
        simp only [List.getElem?_map, hq, Option.map_some] at h3
        cases hr : qs2[k]? with
        | none => rw [hr] at h3; cases h3
        | some r =>
          rw [hr] at h3
          injection h3 with h3
          exact ⟨r, rfl, h3⟩
      obtain ⟨b, off, rfl, _, e0, e1, e2, e3⟩ := (Q1.out.new hb'.out).cells hq
      obtain ⟨b2, off2, rfl, _, f0, f1, f2, f3⟩ := (Q2.out.new hb'.out).cells hr
      have HV1 := Lib.hid ((Q1.out.new hb'.out).vc q (List.mem_of_getElem? hq))
      have HV2 := Lib.hid ((Q2.out.new hb'.out).vc r (List.mem_of_getElem? hr))
      have HWv := Lib.hid (HWf.out q (List.mem_of_getElem? hq))
      rw [← hv] at f0 f1 f2 f3 HV2
      clear hq hr hv hkq
      obtain ⟨v, M, mc, S, sc, I, ic⟩ := q
      obtain ⟨v', M', mc', S', sc', I', ic'⟩ := r
      simp only at e0 e1 e2 e3 f0 f1 f2 f3 HV1 HV2 HWv
      have CB : ∀ w', Below wr.heap.size wr w' → (w'.cell? ⟨sb, 8, none⟩ = some (.slice (some ⟨b, off, none⟩) nv vc1) ∧ w'.cell? ⟨sb + 1, 8, none⟩ = some (.slice (some ⟨b2, off2, none⟩) nv vc2)) ∧
          (w'.cell? ⟨b, off + k * 4, none⟩ = some (.int .i64 v.body) ∧ w'.cell? ⟨b, off + k * 4 + 1, none⟩ = some (.slice M v.ms.length mc) ∧ w'.cell? ⟨b, off + k * 4 + 2, none⟩ = some (.slice S v.ms.length sc) ∧ w'.cell? ⟨b, off + k * 4 + 3, none⟩ = some (.slice I v.xs.length ic)) ∧
          w'.cell? ⟨b2, off2 + k * 4, none⟩ = some (.int .i64 v.body) ∧ w'.cell? ⟨b2, off2 + k * 4 + 1, none⟩ = some (.slice M' v.ms.length mc') ∧ w'.cell? ⟨b2, off2 + k * 4 + 2, none⟩ = some (.slice S' v.ms.length sc') ∧ w'.cell? ⟨b2, off2 + k * 4 + 3, none⟩ = some (.slice I' v.xs.length ic') := fun w' h => by
        obtain ⟨k1, k2⟩ := CA.out w' (HBt.out.trans (h.mono HBt.out.size))
        exact ⟨⟨k1.2.2.2.2.2.2.2.2.1, k2.2.2.2.2.2.2.2.2.1⟩, ⟨cell_grow h e0, cell_grow h e1, cell_grow h e2, cell_grow h e3⟩, cell_grow h f0, cell_grow h f1, cell_grow h f2, cell_grow h f3⟩
      clear e0 e1 e2 e3 f0 f1 f2 f3
      go_wp2_with fail
      refine wp_region_b _ (Below.refl _ _) (by kernel_rfl) (by kernel_rfl) ?_; apply Exists.intro
      repeat (first | (apply wpB_val; (· go_simp); (· intro wB hwB; go_simp; rfl); (try simp only [Act.put, List.setIfInBounds_toArray, List.set_cons_zero, List.set_cons_succ])) | (apply wpB_skip; (· go_simp); (try simp only [Act.put, List.setIfInBounds_toArray, List.set_cons_zero, List.set_cons_succ])))
      apply wpB_val; (· go_simp); intro wB hwB; go_simp
      · exact bcall hwB (l8SameVoice_refl v _ _ _ _ mc mc' sc sc' ic ic' M M' S S' I I' wB (HV1.out.new hwB) (HV2.out.new hwB) HWv.out)
      (try simp only [Act.put, List.setIfInBounds_toArray, List.set_cons_zero, List.set_cons_succ])
      repeat (first | (apply wpB_val; (· go_simp); (· intro wB hwB; go_simp; rfl); (try simp only [Act.put, List.setIfInBounds_toArray, List.set_cons_zero, List.set_cons_succ])) | (apply wpB_skip; (· go_simp); (try simp only [Act.put, List.setIfInBounds_toArray, List.set_cons_zero, List.set_cons_succ])))
      apply wpR_nil (Rs := []); intro wE hwE
      have HE2 : Hid (Below W.heap.size W wE) := hb'.out.trans (hwE.mono hb'.out.size)
      clear CB hwE
      go_wp2_with fail
      go_roundw
      case rel => exact ⟨k + 1, by go_num, by omega, HE2⟩
      case measure => simp [intOf]; omega
    · have HB3 : Hid (Below sb w wr) := HB.out.trans (hb'.out.mono (by have := HB.out.size; have := HSB.out; omega))
      go_wp2_with fail
      go_ret
      exact ⟨rfl, by rw [HSB.out]; exact HB3.out⟩
end Go.Proofs.YtndnfhhdflmfcaaGreat

/-
spec.l7Body, spec.l7Copy, spec.OpenStream.
-/
namespace Go.Proofs.YtndnfhhdflmfcaaGreat
open Go Go.RowKit Ieee

/-- 'append' of an owned row onto a row of the call's own. -/
theorem wpList_appO {P : Program} {w : World} {ops : Array Oper} {rest : List Oper} {o : Oper} {a : Act} {Q : Exit → Act → World → Prop} (hgd : o.guard = none) (s x : Operand) (t : TypeId)
    (ho : o.op = .call { callee := .builtin .append, args := #[s, x], argTypes := #[t, t] })
    (B : Nat) (e : TypeId) (z : Value) (k bytes : Nat) (ht : P.underlying t = some (.slice e)) (hinfo : (P.info? e).map (fun i => (i.zero, i.size, i.bytes)) = some (some z, k, bytes)) (hzs : z.cells.size = k) (hk : 0 < k)
    (v : Value) (n : Nat) (xs : List Value) (lo2 : Nat) (A : Option Addr) (m c : Nat) (news : List Value) (hs : a.eval s = v) (hx : a.eval x = .slice A m c) (hu : ∀ u ∈ news, u.oneCell' = true) (hown : w.ownsRow B e k v n xs) (hB : B ≤ w.heap.size)
    (hr : w.ownsRow lo2 e k (.slice A m c) m news) (h63 : n + m ≤ 1048576) (hby : bytes ≤ 1024)
    (h : ∀ v' w', w'.ownsRow B e k v' (n + m) (xs ++ news) → Below B w w' → wpList P ops Q rest (a.put o.dst v') w') : wpList P ops Q (o :: rest) a w := by
  rcases hr.2 with ⟨q, hm0⟩ | ⟨g, cap, cur, q, _, hg, hnc, _, hsz, htk⟩
  · injection q with q1 q2 q3
    subst q1 q2
    have hn : news = [] := List.eq_nil_of_length_eq_zero (by have := hr.1; simpa using this)
    subst hn
    obtain ⟨i, hi, hzz⟩ := Option.map_eq_some_iff.1 hinfo
    refine wpList_plain hgd fun K hK => ?_
    have hrun := run_append_none (P := P) w t o.type e i ht hi hown c
    unfold Oper.wp execOp
    simp only [ho, resolve, invoke, builtin, Sem.run_bind, Sem.run_pure, Result.andThen_ok, List.map_toArray, List.map_cons, List.map_nil, hs, hx, hrun]
    exact hK _ _ (h v w (by simpa using hown) (Below.refl _ _))
  · injection q with q1 _ q2
    subst q1 q2
    have hc : ∀ j u, news[j]? = some u → w.cell? ⟨g, j, none⟩ = some u := fun j u hu' => by
      rw [cell_of_row w g j _ _ (0, 0) hg]
      rw [← htk, List.getElem?_take] at hu'
      split at hu'
      · simpa using hu'
      · cases hu'
    exact wpList_appE hgd s x t ho B e z k bytes ht hinfo hzs hk v n xs g m c news hs hx hu hown hB hc hr.1 h63 hby h
set_option maxRecDepth 100000 in
set_option maxHeartbeats 400000 in
theorem l7Body_any (A : Option Addr) (c lo hi : Nat) (ms : List MW) (w : World) (h : OwnM w lo hi A c ms) (hh : hi ≤ w.heap.size) (hl : ms.length ≤ 16) :
    Calls Tryz.prog 33 #[.agg #[.slice A ms.length c]] w fun e w' => ∃ (A' : Option Addr) (c' : Nat), e = .returned (.agg #[.slice A' ms.length c']) ∧ OwnM w' w.heap.size w'.heap.size A' c' ms ∧ Below w.heap.size w w' := by
  have HB : Hid (Below w.heap.size w (((w.alloc (.cells #[.slice A ms.length c] 68)).alloc (.cells #[.slice none 0 0] 68)).alloc (.cells #[] 87))) := (((Below.refl w.heap.size w).alloc (Nat.le_refl _) _).alloc (by simp) _).alloc (by simp; omega) _
  have H : Hid (OwnM (((w.alloc (.cells #[.slice A ms.length c] 68)).alloc (.cells #[.slice none 0 0] 68)).alloc (.cells #[] 87)) lo hi A c ms) := h.below HB.out hh
  have hR : (((w.alloc (.cells #[.slice A ms.length c] 68)).alloc (.cells #[.slice none 0 0] 68)).alloc (.cells #[] 87)).heap[w.heap.size + 1]? = some (.cells #[.slice none 0 0] 68 (0, 0)) := by
    have := heap_alloc_new (w.alloc (.cells #[.slice A ms.length c] 68)) (.cells #[.slice none 0 0] 68)
    exact (Below.heap_alloc _ _ _ (by simp)).trans (by simpa using this)
  have hX : (((w.alloc (.cells #[.slice A ms.length c] 68)).alloc (.cells #[.slice none 0 0] 68)).alloc (.cells #[] 87)).heap[w.heap.size]? = some (.cells #[.slice A ms.length c] 68 (0, 0)) :=
    (Below.heap_alloc _ _ _ (by simp; omega)).trans ((Below.heap_alloc _ _ _ (by simp)).trans (heap_alloc_new w _))
  have own0 : (((w.alloc (.cells #[.slice A ms.length c] 68)).alloc (.cells #[.slice none 0 0] 68)).alloc (.cells #[] 87)).ownsRow (w.heap.size + 2) 87 2 (.slice (some ⟨w.heap.size + 2, 0, none⟩) 0 0) 0 [] := by
    have h1 := heap_alloc_new ((w.alloc (.cells #[.slice A ms.length c] 68)).alloc (.cells #[.slice none 0 0] 68)) (.cells #[] 87)
    have h2 : ((w.alloc (.cells #[.slice A ms.length c] 68)).alloc (.cells #[.slice none 0 0] 68)).heap.size = w.heap.size + 2 := by simp
    rw [h2] at h1
    exact ⟨by simp, .inr ⟨w.heap.size + 2, 0, #[], rfl, Nat.le_refl _, h1, Nat.le_refl _, by simp [maxLen], by simp, by simp⟩⟩
  have hsz : w.heap.size + 2 < (((w.alloc (.cells #[.slice A ms.length c] 68)).alloc (.cells #[.slice none 0 0] 68)).alloc (.cells #[] 87)).heap.size := by simp
  have x0 := cell_of_row _ w.heap.size 0 _ _ (0, 0) hX
  have HR := Lib.hid hR
  clear h hR hX
  go_enter Tryz.func33, Tryz.ntmps33
  go_wp2_with (at_builtin; refine wpList_appO rfl (.tmp 3) (.tmp 5) 56 rfl (w.heap.size + 2) 87 (.agg #[.complex .f32 0 0, .complex .f32 0 0]) 2 16 Tryz.underlying56 mode_info rfl (by decide) (.slice (some ⟨w.heap.size + 2, 0, none⟩) 0 0) 0 [] lo A ms.length c (flatM ms) rfl rfl (flatM_one ms) own0 (by omega) H.out.1 (by omega) (by omega) ?_; intro v1 w2 hown1 hbel1; rw [Nat.zero_add, List.nil_append] at hown1; obtain ⟨A', c', hvv⟩ := owns_form hown1; subst hvv; have hR2 := (hbel1.block _ (show w.heap.size + 1 < w.heap.size + 2 by omega)).trans HR.out; have r0 := cell_of_row w2 (w.heap.size + 1) 0 _ _ (0, 0) hR2; have r1 := free_cells hR2 0; have HO := Lib.hid hown1; have HR2 := Lib.hid hR2; have HB2 : Hid (Below w.heap.size w w2) := HB.out.trans (hbel1.mono (by omega)); clear hown1 hbel1 hR2 own0)
  have HRes : Hid ((w2.setCell ⟨w.heap.size + 1, 0, none⟩ (.slice A' ms.length c')).heap[w.heap.size + 1]? = some (.cells #[.slice A' ms.length c'] 68 (0, 0))) := Lib.hid (by
    have := HR2.out
    simp [World.setCell, Array.getElem?_modify, this])
  refine bodyPost_ret (results_cell_row rfl _ _ (w.heap.size + 1) 68 #[.slice A' ms.length c'] (0, 0) _ rfl HRes.out Tryz.underlying68 rfl (by kernel_rfl)) rfl ?_
  refine ⟨A', c', rfl, OwnM.of (owns_lower (owns_stay HO.out fun k e => Below.heap_setCell _ _ _ _ (by have := (HO.out.lt k e).1; show k ≠ w.heap.size + 1; omega)) (by omega)), HB2.out.setCell (by show w.heap.size ≤ w.heap.size + 1; omega) _⟩
/-- Where the walk of l7Copy is. -/
structure C7In (w wr : World) (X : Array Value) (s : Sh) (k : Nat) (v : Value) (bs bs1 : List Bd) : Prop where
  bel : Below w.heap.size w wr
  box : wr.heap[w.heap.size]? = some (.cells X 27 (0, 0))
  res : wr.heap[w.heap.size + 1]? = some (.cells #[.int .i64 0, .int .i64 0, .float .f32 0, .float .f32 0, .slice none 0 0, .slice none 0 0] 27 (0, 0))
  out : wr.heap[w.heap.size + 2]? = some (.cells #[.int .i64 s.1, .int .i64 s.2.1, .float .f32 s.2.2.1, .float .f32 s.2.2.2, v, .slice none 0 0] 27 (0, 0))
  own : BodsOwn wr (w.heap.size + 3) wr.heap.size v bs1
  len : bs1.length = k
  eq : modesB bs1 = (modesB bs).take k
theorem C7In.new {w wr w' : World} {X : Array Value} {s : Sh} {k : Nat} {v : Value} {bs bs1 : List Bd} (h : C7In w wr X s k v bs bs1) (hb : Below wr.heap.size wr w') : C7In w w' X s k v bs bs1 :=
  ⟨h.bel.trans (hb.mono h.bel.size), (hb.block _ (lt_of_some h.box)).trans h.box, (hb.block _ (lt_of_some h.res)).trans h.res, (hb.block _ (lt_of_some h.out)).trans h.out, (h.own.keep fun j _ hj => hb.block j hj).raise hb.size, h.len, h.eq⟩
set_option maxRecDepth 100000 in
set_option maxHeartbeats 1600000 in
theorem l7Copy_any (s : Sh) (B : Option Addr) (cb : Nat) (bs : List Bd) (E : Option Addr) (ce lo hi : Nat) (evs : List Ev) (w : World) (h : ScIn w lo hi B cb bs E ce evs) (hbo : BodsOk bs 16 8) (hl : evs.length ≤ 60) :
    Calls Tryz.prog 14 #[.agg #[.int .i64 s.1, .int .i64 s.2.1, .float .f32 s.2.2.1, .float .f32 s.2.2.2, .slice B bs.length cb, .slice E evs.length ce]] w (CopyP s bs evs w) := by
  obtain ⟨len, vo, c, r⟩ := s
  have HK := Lib.hid hbo
  have hbl := hbo.1
  have HH := Lib.hid h.hh
  have HE := Lib.hid h.evs
  have HBI := Lib.hid h.bodsIn
  have HC0 : Hid (C7In w (((w.alloc (.cells #[.int .i64 len, .int .i64 vo, .float .f32 c, .float .f32 r, .slice B bs.length cb, .slice E evs.length ce] 27)).alloc (.cells #[.int .i64 0, .int .i64 0, .float .f32 0, .float .f32 0, .slice none 0 0, .slice none 0 0] 27)).alloc (.cells #[.int .i64 len, .int .i64 vo, .float .f32 c, .float .f32 r, .slice none 0 0, .slice none 0 0] 27)) #[.int .i64 len, .int .i64 vo, .float .f32 c, .float .f32 r, .slice B bs.length cb, .slice E evs.length ce] (len, vo, c, r) 0 (.slice none 0 0) bs []) := by
    have b1 : Below w.heap.size w (w.alloc (.cells #[.int .i64 len, .int .i64 vo, .float .f32 c, .float .f32 r, .slice B bs.length cb, .slice E evs.length ce] 27)) := (Below.refl w.heap.size w).alloc (Nat.le_refl _) _
    have n1 := heap_alloc_new w (.cells #[.int .i64 len, .int .i64 vo, .float .f32 c, .float .f32 r, .slice B bs.length cb, .slice E evs.length ce] 27)
    generalize hW1 : w.alloc (.cells #[.int .i64 len, .int .i64 vo, .float .f32 c, .float .f32 r, .slice B bs.length cb, .slice E evs.length ce] 27) = W1 at *
    have s1 : W1.heap.size = w.heap.size + 1 := by rw [← hW1]; simp
    have b2 : Below W1.heap.size W1 (W1.alloc (.cells #[.int .i64 0, .int .i64 0, .float .f32 0, .float .f32 0, .slice none 0 0, .slice none 0 0] 27)) := (Below.refl W1.heap.size W1).alloc (Nat.le_refl _) _
    have n2 := heap_alloc_new W1 (.cells #[.int .i64 0, .int .i64 0, .float .f32 0, .float .f32 0, .slice none 0 0, .slice none 0 0] 27)
    generalize hW2 : W1.alloc (.cells #[.int .i64 0, .int .i64 0, .float .f32 0, .float .f32 0, .slice none 0 0, .slice none 0 0] 27) = W2 at *
    have s2 : W2.heap.size = w.heap.size + 2 := by rw [← hW2]; simp [s1]
    have b3 : Below W2.heap.size W2 (W2.alloc (.cells #[.int .i64 len, .int .i64 vo, .float .f32 c, .float .f32 r, .slice none 0 0, .slice none 0 0] 27)) := (Below.refl W2.heap.size W2).alloc (Nat.le_refl _) _
    have n3 := heap_alloc_new W2 (.cells #[.int .i64 len, .int .i64 vo, .float .f32 c, .float .f32 r, .slice none 0 0, .slice none 0 0] 27)
    rw [s2] at n3
    rw [s1] at n2
    exact ⟨(b1.trans (b2.mono (by omega))).trans (b3.mono (by omega)), (b3.block _ (by omega)).trans ((b2.block _ (by omega)).trans n1), (b3.block _ (by omega)).trans n2, n3, BodsOwn.nil _ _ _, rfl, rfl⟩
  clear h hbo
  go_enter Tryz.func14, Tryz.ntmps14
  obtain ⟨c0, c1, c2, c3, c4, c5⟩ := sc_cells HC0.out.box
  have HZ : Hid (w.heap.size < w.heap.size + 1) := Nat.lt_succ_self _
  go_wp2_with fail
  clear c0 c1 c2 c3 c4 c5
  rw [show w.heap.size + 1 + 1 = w.heap.size + 2 from rfl]
  generalize ((w.alloc (.cells #[.int .i64 len, .int .i64 vo, .float .f32 c, .float .f32 r, .slice B bs.length cb, .slice E evs.length ce] 27)).alloc (.cells #[.int .i64 0, .int .i64 0, .float .f32 0, .float .f32 0, .slice none 0 0, .slice none 0 0] 27)).alloc (.cells #[.int .i64 len, .int .i64 vo, .float .f32 c, .float .f32 r, .slice none 0 0, .slice none 0 0] 27) = Wa at *
  go_loopw [18] (fun i wr => ∃ (k : Nat) (v : Value) (bs1 : List Bd), i = .int .i64 (k : Int) ∧ k ≤ bs.length ∧ Hid (C7In w wr #[.int .i64 len, .int .i64 vo, .float .f32 c, .float .f32 r, .slice B bs.length cb, .slice E evs.length ce] (len, vo, c, r) k v bs bs1)) (fun i _ => bs.length - (intOf i).toNat)
  case atStart => exact ⟨0, _, [], rfl, by omega, HC0⟩
  case round =>
    clear HC0
    obtain ⟨k, v, bs1, rfl, hk, HC⟩ := hrel
    by_cases hlt : k < bs.length
    · have H1 := Lib.hid (HBI.out.below HC.out.bel)
      obtain ⟨b, off, hB', hbb, hc⟩ := H1.out.rd (by simp; omega)
      subst hB'
      have e1 := hc k (bodV (bodAt bs k)) (by simp [bodAt, List.getD, List.getElem?_eq_getElem hlt])
      have HM := Lib.hid (H1.out.row k hlt)
      have HT : Hid (modesB bs1 ++ [(bodAt bs k).2.2] = (modesB bs).take (k + 1)) := Lib.hid (by rw [HC.out.eq, modesB_take hlt])
      have HK1 := Lib.hid ((HK.out).2 k hlt)
      have hm16 : (bodAt bs k).2.2.length ≤ 16 := HK1.out.2
      have hhi := HH.out
      have hsz := HC.out.bel.size
      have b7 : ∀ x, Below wr.heap.size wr (wr.alloc x) := fun x => (Below.refl wr.heap.size wr).alloc (Nat.le_refl _) x
      clear hc H1
      unfold bodV at e1
      generalize bodAt bs k = m at *
      have HN7 := Lib.hid (heap_alloc_new wr (.cells #[.slice m.1 m.2.2.length m.2.1] 68))
      have HC7 := Lib.hid (HC.out.new (b7 (.cells #[.slice m.1 m.2.2.length m.2.1] 68)))
      have HM7 : Hid (OwnM (wr.alloc (.cells #[.slice m.1 m.2.2.length m.2.1] 68)) lo hi m.1 m.2.1 m.2.2) := Lib.hid (HM.out.below (b7 _) (by omega))
      have HVB : Hid (∀ j, v.ownBlock = some j → j < wr.heap.size) := Lib.hid (fun j e => HC.out.own.vlt j e)
      clear b7 HM HC
      go_wp2_with fail
      clear e1
      obtain ⟨VB, vb, hvf⟩ := owns_form HC7.out.own.own
      subst hvf
      have HCc : Hid (∀ W' : World, W'.heap[w.heap.size + 2]? = some (.cells #[.int .i64 len, .int .i64 vo, .float .f32 c, .float .f32 r, .slice VB bs1.length vb, .slice none 0 0] 27 (0, 0)) → W'.heap[wr.heap.size]? = some (.cells #[.slice m.1 m.2.2.length m.2.1] 68 (0, 0)) → W'.cell? ⟨w.heap.size + 2, 4, none⟩ = some (.slice VB bs1.length vb) ∧ W'.cell? ⟨wr.heap.size, 0, none⟩ = some (.slice m.1 m.2.2.length m.2.1)) := Lib.hid (fun W' h1 h2 =>
        ⟨(sc_cells h1).2.2.2.2.1, cell_of_row _ _ 0 _ _ (0, 0) h2⟩)
      have HC8 : Hid (C7In w (wr.alloc (.cells #[.slice m.1 m.2.2.length m.2.1] 68)).drew #[.int .i64 len, .int .i64 vo, .float .f32 c, .float .f32 r, .slice (some ⟨b, off, none⟩) bs.length cb, .slice E evs.length ce] (len, vo, c, r) k (.slice VB bs1.length vb) bs bs1) := Lib.hid (HC7.out.new (below_drewN (Below.refl _ _) 1))
      have HN8 : Hid ((wr.alloc (.cells #[.slice m.1 m.2.2.length m.2.1] 68)).drew.heap[wr.heap.size]? = some (.cells #[.slice m.1 m.2.2.length m.2.1] 68 (0, 0))) := HN7.out
      have HM8 : Hid (OwnM (wr.alloc (.cells #[.slice m.1 m.2.2.length m.2.1] 68)).drew lo hi m.1 m.2.1 m.2.2) := HM7.out
      have hz8 : hi ≤ (wr.alloc (.cells #[.slice m.1 m.2.2.length m.2.1] 68)).drew.heap.size := by show hi ≤ (wr.alloc _).heap.size; simp; omega
      have hb8 : bs1.length ≤ 8 := by have := HC8.out.len; omega
      refine wp_region_last (fun W' => W'.cell? ⟨w.heap.size + 2, 4, none⟩ = some (.slice VB bs1.length vb) ∧ W'.cell? ⟨wr.heap.size, 0, none⟩ = some (.slice m.1 m.2.2.length m.2.1)) 7 (by kernel_rfl) (HCc.out _ HC8.out.out HN8.out) (fun hHeld => ?_)
      clear HC7 HN7 HM7
      generalize (wr.alloc (.cells #[.slice m.1 m.2.2.length m.2.1] 68)).drew = W8 at *
      generalize wr.heap.size = vbx at *
      refine wpAnyX_take [0, 1, 5, 7] (i := 0) (oi := _) (v := ?_) rfl (by kernel_rfl) (by kernel_rfl) (by kernel_rfl) (by kernel_rfl) (fun _ _ _ h => h) (Or.inl ⟨by rfl, ?_⟩) (by assumption) ?_
      rotate_left
      · (intro w hSw; (try dsimp only at hSw); go_simp; try (with_reducible rfl))
      (try simp only [Act.put, List.setIfInBounds_toArray, List.set_cons_zero, List.set_cons_succ, List.getElem_toArray, List.getElem_cons_succ, List.getElem_cons_zero])
      refine wpAnyX_take [1, 5, 7] (i := 1) (oi := _) (v := ?_) rfl (by kernel_rfl) (by kernel_rfl) (by kernel_rfl) (by kernel_rfl) (fun _ _ _ h => h) (Or.inl ⟨by rfl, ?_⟩) (by assumption) ?_
      rotate_left
      · (intro w hSw; (try dsimp only at hSw); go_simp; try (with_reducible rfl))
      (try simp only [Act.put, List.setIfInBounds_toArray, List.set_cons_zero, List.set_cons_succ, List.getElem_toArray, List.getElem_cons_succ, List.getElem_cons_zero])
      refine wpAnyX_take [2, 3, 4, 5, 7] (i := 2) (oi := _) (v := ?_) rfl (by kernel_rfl) (by kernel_rfl) (by kernel_rfl) (by kernel_rfl) (fun _ _ _ h => h) (Or.inl ⟨by rfl, ?_⟩) (by assumption) ?_
      rotate_left
      · (intro w hSw; (try dsimp only at hSw); go_simp; try (with_reducible rfl))
      (try simp only [Act.put, List.setIfInBounds_toArray, List.set_cons_zero, List.set_cons_succ, List.getElem_toArray, List.getElem_cons_succ, List.getElem_cons_zero])
      refine wpAnyX_ready (i := 3) (o := _) (by kernel_rfl) rfl (fun K hK => ?_)
      go_simp
      refine (l7Body_any m.1 m.2.1 lo hi m.2.2 W8 HM8.out hz8 hm16).mono ?_
      rintro rr W9 ⟨MA, mc, rfl, hO, hb⟩
      have HC9 := Lib.hid (HC8.out.new hb)
      have HO9 := Lib.hid hO
      have HN9 := Lib.hid ((hb.block _ (lt_of_some HN8.out)).trans HN8.out)
      have HZ9 : Hid (w.heap.size + 3 ≤ W8.heap.size) := Lib.hid (by have := lt_of_some HC8.out.out; omega)
      have HBo : Hid (BodsOwn W9 (w.heap.size + 3) W8.heap.size (.slice VB bs1.length vb) bs1) := Lib.hid (HC8.out.own.keep fun j _ hj => hb.block j hj)
      have hz89 := hb.size
      clear hO hb HC8 HN8 HM8
      go_wp2_with fail
      refine hK.out _ _ ?_ (fun hHeldN => ?_)
      · exact HCc.out _ HC9.out.out HN9.out
      clear hHeld hK K
      have hHeld := hHeldN
      clear hHeldN
      (try simp only [Act.put, List.setIfInBounds_toArray, List.set_cons_zero, List.set_cons_succ, List.getElem_toArray, List.getElem_cons_succ, List.getElem_cons_zero])
      refine wpAnyX_ready (i := 4) (o := _) (by kernel_rfl) rfl (fun K hK => ?_)
      go_simp
      have b10 : Below W9.heap.size W9 (W9.alloc (.cells #[.slice MA m.2.2.length mc] 68)) := (Below.refl W9.heap.size W9).alloc (Nat.le_refl _) _
      have HC10 := Lib.hid (HC9.out.new b10)
      have HO10 := Lib.hid (HO9.out.below b10 (Nat.le_refl _))
      have HN10 := Lib.hid ((b10.block _ (lt_of_some HN9.out)).trans HN9.out)
      have NN10 := Lib.hid (heap_alloc_new W9 (.cells #[.slice MA m.2.2.length mc] 68))
      have HBo10 : Hid (BodsOwn (W9.alloc (.cells #[.slice MA m.2.2.length mc] 68)) (w.heap.size + 3) W8.heap.size (.slice VB bs1.length vb) bs1) := Lib.hid (HBo.out.keep fun j _ hj => b10.block j (by omega))
      have hz10 : W8.heap.size ≤ (W9.alloc (.cells #[.slice MA m.2.2.length mc] 68)).heap.size := by show _ ≤ (W9.alloc _).heap.size; simp; omega
      clear b10 HC9 HO9 HN9 HBo
      refine hK.out _ _ ?_ (fun hHeldN => ?_)
      · exact HCc.out _ HC10.out.out HN10.out
      clear hHeld hK K
      have hHeld := hHeldN
      clear hHeldN
      (try simp only [Act.put, List.setIfInBounds_toArray, List.set_cons_zero, List.set_cons_succ, List.getElem_toArray, List.getElem_cons_succ, List.getElem_cons_zero])
      generalize W9.alloc (.cells #[.slice MA m.2.2.length mc] 68) = W10 at *
      have hz10' : w.heap.size + 3 ≤ W10.heap.size := by have := HZ9.out; omega
      obtain ⟨i0, hi0, hz0, hz1, hz2⟩ := info_parts body_info
      refine wpAnyX_ready (i := 5) (o := _) (by kernel_rfl) rfl (fun K hK => ?_)
      refine step_append_lies _ (by rfl) (.tmp 23) (.tmp 26) 24 (by rfl) (w.heap.size + 3) 68 i0 _ 1 24 Tryz.underlying24 hi0 hz0 hz1 hz2 rfl (by omega) (.slice VB bs1.length vb) bs1.length (bs1.map bodV) (by rfl) HC10.out.own.own ⟨W9.heap.size, 0, none⟩ 1 1 [.slice MA m.2.2.length mc] (by rfl) (by rfl) (World.news_of_block (t := 68) (fr := (0, 0)) NN10.out) (by simp [Value.oneCell']) (by omega) (by simp only [maxLen]; omega) (by omega) hz10' _ rfl ?_
      intro gg cap W11 hown11 hgrow11 hat11 hlt11
      have hne : ∀ j, j < w.heap.size + 3 → W11.heap[j]? = W10.heap[j]? := fun j hj => hgrow11.block j (by omega) (fun q => by have := (HC10.out.own.own.lt j q.symm).1; omega)
      have HP11 : Hid (W11.heap[w.heap.size + 2]? = some (.cells #[.int .i64 len, .int .i64 vo, .float .f32 c, .float .f32 r, .slice VB bs1.length vb, .slice none 0 0] 27 (0, 0))) := Lib.hid ((hne _ (by omega)).trans HC10.out.out)
      have HN11 : Hid (W11.heap[vbx]? = some (.cells #[.slice m.1 m.2.2.length m.2.1] 68 (0, 0))) := Lib.hid ((hgrow11.block vbx (lt_of_some HN10.out) (fun e => by have := HVB.out vbx e.symm; omega)).trans HN10.out)
      have HC12 : Hid (C7In w (W11.setCell ⟨w.heap.size + 2, 4, none⟩ (.slice (some ⟨gg, 0, none⟩) (bs1.length + 1) cap)) #[.int .i64 len, .int .i64 vo, .float .f32 c, .float .f32 r, .slice (some ⟨b, off, none⟩) bs.length cb, .slice E evs.length ce] (len, vo, c, r) (k + 1) (.slice (some ⟨gg, 0, none⟩) (bs1.length + 1) cap) bs (bs1 ++ [(MA, mc, m.2.2)])) := by
        have hb := HC10.out
        have hs : ∀ j, j ≠ w.heap.size + 2 → (W11.setCell ⟨w.heap.size + 2, 4, none⟩ (.slice (some ⟨gg, 0, none⟩) (bs1.length + 1) cap)).heap[j]? = W11.heap[j]? := fun j hj => Below.heap_setCell _ _ _ _ hj
        have happ := HBo10.out.app (r := (MA, mc, m.2.2)) (lo1 := W8.heap.size) HZ9.out (Nat.le_refl _) HO10.out.1 hown11 hgrow11 (by rcases hat11 with q | q; exact .inl q; exact .inr (by omega)) hlt11 (by omega)
        refine ⟨(hb.bel.grown hgrow11 (by omega) (fun j q => by have := (hb.own.own.lt j q).1; omega)).setCell (by show w.heap.size ≤ w.heap.size + 2; omega) _, (hs _ (by omega)).trans ((hne _ (by omega)).trans hb.box), (hs _ (by omega)).trans ((hne _ (by omega)).trans hb.res), ?_, ?_, by simp [hb.len], by rw [← HT.out]; simp [modesB]⟩
        · have := HP11.out
          simp [World.setCell, Array.getElem?_modify, this]
        · have hz : (W11.setCell ⟨w.heap.size + 2, 4, none⟩ (.slice (some ⟨gg, 0, none⟩) (bs1.length + 1) cap)).heap.size = W11.heap.size := by simp
          rw [hz]
          exact happ.keep fun j h1 _ => hs j (by omega)
      have f4 := free_cells HP11.out 4
      clear hown11 hgrow11 hat11 hlt11 hne HC10 HO10 HN10 NN10 HBo10 HT
      refine hK.out _ _ ?_ (fun hHeldN => ?_)
      · exact HCc.out _ HP11.out HN11.out
      clear hHeld hK K
      have hHeld := hHeldN
      clear hHeldN
      (try simp only [Act.put, List.setIfInBounds_toArray, List.set_cons_zero, List.set_cons_succ, List.getElem_toArray, List.getElem_cons_succ, List.getElem_cons_zero])
      refine wpAnyX_take [6, 7] (i := 6) (oi := _) (v := ?_) rfl (by kernel_rfl) (by kernel_rfl) (by kernel_rfl) (by kernel_rfl) (fun _ _ _ h => h) (Or.inl ⟨by rfl, ?_⟩) (by assumption) ?_
      rotate_left
      · (intro w hSw; (try dsimp only at hSw); go_simp; try (with_reducible rfl))
      (try simp only [Act.put, List.setIfInBounds_toArray, List.set_cons_zero, List.set_cons_succ, List.getElem_toArray, List.getElem_cons_succ, List.getElem_cons_zero])
      refine wpAnyX_last (o := _) (by kernel_rfl) rfl (fun K hK => ?_)
      go_simp
      refine hK.out _ _ ?_
      clear hK K
      (try simp only [Act.put, List.setIfInBounds_toArray, List.set_cons_zero, List.set_cons_succ, List.getElem_toArray, List.getElem_cons_succ, List.getElem_cons_zero])
      refine wpAnyX_done (by kernel_rfl) ?_ _
      clear f4 HP11 HN11 hHeld
      generalize W11.setCell ⟨w.heap.size + 2, 4, none⟩ (.slice (some ⟨gg, 0, none⟩) (bs1.length + 1) cap) = W12 at *
      go_wp2_with fail
      go_roundw
      case rel => exact ⟨k + 1, _, _, by go_num, by omega, HC12⟩
      case measure => simp [intOf]; omega
    · obtain rfl : bs.length = k := by omega
      have hlen : bs1.length = bs.length := HC.out.len
      have HEQ : Hid (modesB bs1 = modesB bs) := by
        have := HC.out.eq
        rwa [show bs.length = (modesB bs).length by simp [modesB], List.take_length] at this
      obtain ⟨A1, c1, hv⟩ := owns_form HC.out.own.own
      subst hv
      have HE1 := Lib.hid (HE.out.below HC.out.bel HH.out)
      have c5 := cell_of_row _ w.heap.size 5 _ _ (0, 0) HC.out.box
      have d5 := cell_of_row _ (w.heap.size + 2) 5 _ _ (0, 0) HC.out.out
      have hzz : w.heap.size + 3 ≤ wr.heap.size := by have := lt_of_some HC.out.out; omega
      have HZ3 := Lib.hid hzz
      clear hzz
      have HLEN := Lib.hid hlen
      clear hlen
      go_wp2_with (at_builtin; refine wpList_appO rfl (.tmp 31) (.tmp 33) 25 rfl wr.heap.size 71 (.agg #[.int .i64 0, .int .i64 0, .int .i64 0, .int .i64 0, .int .i64 0, .float .f32 0]) 6 48 Tryz.underlying25 ev_info rfl (by decide) (.slice none 0 0) 0 [] lo E evs.length ce (flatE evs) rfl rfl (flatE_one evs) ⟨rfl, .inl ⟨rfl, rfl⟩⟩ (Nat.le_refl _) HE1.out.1 (by omega) (by omega) ?_; intro v1 w2 hown1 hbel1; rw [Nat.zero_add, List.nil_append] at hown1; obtain ⟨E', ce', hvv⟩ := owns_form hown1; subst hvv; have HC2 := Lib.hid (HC.out.new hbel1); have HO2 := Lib.hid (owns_lower hown1 HZ3.out); have f5 := free_cells HC2.out.out 5; obtain ⟨d0, d1, d2, d3, d4, d5⟩ := sc_cells HC2.out.out; obtain ⟨a0, a1, a2, a3, a4, a5⟩ := sc_cells HC2.out.res; obtain ⟨g0, g1, g2, g3, g4, g5⟩ := sc_free HC2.out.res; clear hown1 hbel1 HC)
      have hs5 : ∀ j, j ≠ w.heap.size + 2 → (w2.setCell ⟨w.heap.size + 2, 5, none⟩ (.slice E' evs.length ce')).heap[j]? = w2.heap[j]? := fun j hj => Below.heap_setCell _ _ _ _ hj
      have hR5 := (hs5 (w.heap.size + 1) (by omega)).trans HC2.out.res
      have hQx : ((((((((w2.setCell ⟨w.heap.size + 2, 5, none⟩ (.slice E' evs.length ce')).setCell ⟨w.heap.size + 1, 0, none⟩ (.int .i64 len)).setCell ⟨w.heap.size + 1, 1, none⟩ (.int .i64 vo)).setCell ⟨w.heap.size + 1, 2, none⟩ (.float .f32 c)).setCell ⟨w.heap.size + 1, 3, none⟩ (.float .f32 r)).setCell ⟨w.heap.size + 1, 4, none⟩ (.slice A1 bs1.length c1)).setCell ⟨w.heap.size + 1, 5, none⟩ (.slice E' evs.length ce'))).heap[w.heap.size + 1]? = some (.cells #[.int .i64 len, .int .i64 vo, .float .f32 c, .float .f32 r, .slice A1 bs1.length c1, .slice E' evs.length ce'] 27 (0, 0)) := by
        generalize w2.setCell ⟨w.heap.size + 2, 5, none⟩ (.slice E' evs.length ce') = W5 at *
        simp [World.setCell, Array.getElem?_modify, hR5]
      have hPk : ∀ j, j ≠ w.heap.size + 1 → j ≠ w.heap.size + 2 → ((((((((w2.setCell ⟨w.heap.size + 2, 5, none⟩ (.slice E' evs.length ce')).setCell ⟨w.heap.size + 1, 0, none⟩ (.int .i64 len)).setCell ⟨w.heap.size + 1, 1, none⟩ (.int .i64 vo)).setCell ⟨w.heap.size + 1, 2, none⟩ (.float .f32 c)).setCell ⟨w.heap.size + 1, 3, none⟩ (.float .f32 r)).setCell ⟨w.heap.size + 1, 4, none⟩ (.slice A1 bs1.length c1)).setCell ⟨w.heap.size + 1, 5, none⟩ (.slice E' evs.length ce'))).heap[j]? = w2.heap[j]? := fun j hj hj2 => (put6_else hj _ _ _ _ _ _).trans (hs5 j hj2)
      have hPb : Below w.heap.size w ((((((((w2.setCell ⟨w.heap.size + 2, 5, none⟩ (.slice E' evs.length ce')).setCell ⟨w.heap.size + 1, 0, none⟩ (.int .i64 len)).setCell ⟨w.heap.size + 1, 1, none⟩ (.int .i64 vo)).setCell ⟨w.heap.size + 1, 2, none⟩ (.float .f32 c)).setCell ⟨w.heap.size + 1, 3, none⟩ (.float .f32 r)).setCell ⟨w.heap.size + 1, 4, none⟩ (.slice A1 bs1.length c1)).setCell ⟨w.heap.size + 1, 5, none⟩ (.slice E' evs.length ce'))) :=
        ((((((HC2.out.bel.setCell (by show w.heap.size ≤ w.heap.size + 2; omega) _).setCell (Nat.le_succ _) _).setCell (Nat.le_succ _) _).setCell (Nat.le_succ _) _).setCell (Nat.le_succ _) _).setCell (Nat.le_succ _) _).setCell (Nat.le_succ _) _
      have hPz : ((((((((w2.setCell ⟨w.heap.size + 2, 5, none⟩ (.slice E' evs.length ce')).setCell ⟨w.heap.size + 1, 0, none⟩ (.int .i64 len)).setCell ⟨w.heap.size + 1, 1, none⟩ (.int .i64 vo)).setCell ⟨w.heap.size + 1, 2, none⟩ (.float .f32 c)).setCell ⟨w.heap.size + 1, 3, none⟩ (.float .f32 r)).setCell ⟨w.heap.size + 1, 4, none⟩ (.slice A1 bs1.length c1)).setCell ⟨w.heap.size + 1, 5, none⟩ (.slice E' evs.length ce'))).heap.size = w2.heap.size := by simp
      generalize (((((((w2.setCell ⟨w.heap.size + 2, 5, none⟩ (.slice E' evs.length ce')).setCell ⟨w.heap.size + 1, 0, none⟩ (.int .i64 len)).setCell ⟨w.heap.size + 1, 1, none⟩ (.int .i64 vo)).setCell ⟨w.heap.size + 1, 2, none⟩ (.float .f32 c)).setCell ⟨w.heap.size + 1, 3, none⟩ (.float .f32 r)).setCell ⟨w.heap.size + 1, 4, none⟩ (.slice A1 bs1.length c1)).setCell ⟨w.heap.size + 1, 5, none⟩ (.slice E' evs.length ce')) = W4 at *
      refine bodyPost_ret (results_cell_row rfl _ _ (w.heap.size + 1) 27 #[.int .i64 len, .int .i64 vo, .float .f32 c, .float .f32 r, .slice A1 bs1.length c1, .slice E' evs.length ce'] (0, 0) _ rfl hQx Tryz.underlying27 rfl (by kernel_rfl)) rfl ?_
      refine ⟨A1, c1, bs1, E', ce', rfl, ⟨?_, ?_, Nat.le_refl _⟩, HEQ.out, hPb⟩
      · rw [hPz]
        exact (HC2.out.own.keep fun j h1 _ => hPk j (by omega) (by omega)).lower (by omega)
      · have := owns_lower (owns_stay HO2.out fun j e => hPk j (by have := (HO2.out.lt j e).1; omega) (by have := (HO2.out.lt j e).1; omega)) (show w.heap.size ≤ w.heap.size + 3 by omega)
        exact ⟨this, fun k e => (this.lt k e).2⟩
/-- What spec.OpenStream returns. -/
def OpenP (w : World) (s : Sh) (bs : List Bd) (evs : List Ev) (r : Ending) (w' : World) : Prop :=
  ∃ (B' : Option Addr) (cb' : Nat) (bs' : List Bd) (E' : Option Addr) (ce' : Nat), r = .returned (.tuple #[.agg #[.int .i64 s.1, .int .i64 s.2.1, .float .f32 s.2.2.1, .float .f32 s.2.2.2, .slice B' bs'.length cb', .slice E' evs.length ce', .int .i64 0, .int .i64 0, .slice none 0 0, .float .f32 0], .bool true]) ∧
    ScIn w' w.heap.size w'.heap.size B' cb' bs' E' ce' evs ∧ modesB bs' = modesB bs ∧ Below w.heap.size w w'
set_option maxRecDepth 100000 in
set_option maxHeartbeats 1600000 in
theorem openStream_any (s : Sh) (B : Option Addr) (cb : Nat) (bs : List Bd) (E : Option Addr) (ce lo hi : Nat) (evs : List Ev) (w : World) (h : ScIn w lo hi B cb bs E ce evs) (hok : ScAsk s bs evs) :
    Calls Tryz.prog 5 #[.agg #[.int .i64 s.1, .int .i64 s.2.1, .float .f32 s.2.2.1, .float .f32 s.2.2.2, .slice B bs.length cb, .slice E evs.length ce]] w (OpenP w s bs evs) := by
  have HOK := Lib.hid hok
  have hel := hok.evs.1
  have HB : Hid (Below w.heap.size w ((w.alloc (.cells #[.int .i64 s.1, .int .i64 s.2.1, .float .f32 s.2.2.1, .float .f32 s.2.2.2, .slice B bs.length cb, .slice E evs.length ce] 27)).alloc (.cells #[.int .i64 0, .int .i64 0, .float .f32 0, .float .f32 0, .slice none 0 0, .slice none 0 0, .int .i64 0, .int .i64 0, .slice none 0 0, .float .f32 0] 31))) := ((Below.refl w.heap.size w).alloc (Nat.le_refl _) _).alloc (by simp) _
  have HN : Hid (((w.alloc (.cells #[.int .i64 s.1, .int .i64 s.2.1, .float .f32 s.2.2.1, .float .f32 s.2.2.2, .slice B bs.length cb, .slice E evs.length ce] 27)).alloc (.cells #[.int .i64 0, .int .i64 0, .float .f32 0, .float .f32 0, .slice none 0 0, .slice none 0 0, .int .i64 0, .int .i64 0, .slice none 0 0, .float .f32 0] 31)).heap[w.heap.size]? = some (.cells #[.int .i64 s.1, .int .i64 s.2.1, .float .f32 s.2.2.1, .float .f32 s.2.2.2, .slice B bs.length cb, .slice E evs.length ce] 27 (0, 0))) := Lib.hid ((Below.heap_alloc _ _ _ (by simp)).trans (heap_alloc_new w _))
  have HR : Hid (((w.alloc (.cells #[.int .i64 s.1, .int .i64 s.2.1, .float .f32 s.2.2.1, .float .f32 s.2.2.2, .slice B bs.length cb, .slice E evs.length ce] 27)).alloc (.cells #[.int .i64 0, .int .i64 0, .float .f32 0, .float .f32 0, .slice none 0 0, .slice none 0 0, .int .i64 0, .int .i64 0, .slice none 0 0, .float .f32 0] 31)).heap[w.heap.size + 1]? = some (.cells #[.int .i64 0, .int .i64 0, .float .f32 0, .float .f32 0, .slice none 0 0, .slice none 0 0, .int .i64 0, .int .i64 0, .slice none 0 0, .float .f32 0] 31 (0, 0))) := Lib.hid (by
    have := heap_alloc_new (w.alloc (.cells #[.int .i64 s.1, .int .i64 s.2.1, .float .f32 s.2.2.1, .float .f32 s.2.2.2, .slice B bs.length cb, .slice E evs.length ce] 27)) (.cells #[.int .i64 0, .int .i64 0, .float .f32 0, .float .f32 0, .slice none 0 0, .slice none 0 0, .int .i64 0, .int .i64 0, .slice none 0 0, .float .f32 0] 31)
    simpa using this)
  have HI := Lib.hid (h.below HB.out)
  clear h hok
  go_enter Tryz.func5, Tryz.ntmps5
  obtain ⟨c0, c1, c2, c3, c4, c5⟩ := sc_cells HN.out
  go_wp2_with fail
  clear c0 c1 c2 c3 c4 c5
  generalize (w.alloc (.cells #[.int .i64 s.1, .int .i64 s.2.1, .float .f32 s.2.2.1, .float .f32 s.2.2.2, .slice B bs.length cb, .slice E evs.length ce] 27)).alloc (.cells #[.int .i64 0, .int .i64 0, .float .f32 0, .float .f32 0, .slice none 0 0, .slice none 0 0, .int .i64 0, .int .i64 0, .slice none 0 0, .float .f32 0] 31) = W at *
  refine (specScore_any s B cb bs E ce lo hi evs W HI.out HOK.out).mono ?_
  rintro rr W2 ⟨rfl, hb⟩
  have HI2 := Lib.hid (HI.out.below hb)
  have HB2 := Lib.hid (HB.out.trans (hb.mono HB.out.size))
  have HN2 := Lib.hid ((hb.block _ (lt_of_some HN.out)).trans HN.out)
  have HR2 := Lib.hid ((hb.block _ (lt_of_some HR.out)).trans HR.out)
  clear hb HI HB HN HR
  obtain ⟨c0, c1, c2, c3, c4, c5⟩ := sc_cells HN2.out
  go_wp2_with fail
  clear c0 c1 c2 c3 c4 c5
  refine (l7Copy_any s B cb bs E ce lo hi evs W2 HI2.out HOK.out.bods (by omega)).mono ?_
  intro rr W3 hp
  unfold CopyP at hp
  obtain ⟨B', cb', bs', E', ce', rfl, hsc, hmo, hb3⟩ := hp
  have HSc := Lib.hid hsc
  have HMo := Lib.hid hmo
  have HB3 := Lib.hid (HB2.out.trans (hb3.mono HB2.out.size))
  have HR3 := Lib.hid ((hb3.block _ (lt_of_some HR2.out)).trans HR2.out)
  have HZ2 : Hid (w.heap.size + 1 < W2.heap.size) := Lib.hid (lt_of_some HR2.out)
  clear hsc hmo hb3 HI2 HB2 HN2 HR2
  unfold scV
  obtain ⟨a0, a1, a2, a3, a4, a5, a6, a7, a8, a9⟩ := st_cells HR3.out
  obtain ⟨f0, f1, f2, f3, f4, f5, f6, f7, f8, f9⟩ := st_free HR3.out
  go_wp2_with fail
  clear a0 a1 a2 a3 a4 a5 a6 a7 a8 a9 f0 f1 f2 f3 f4 f5 f6 f7 f8 f9
  have e : ((((((((((W3.setCell ⟨w.heap.size + 1, 0, none⟩ (.int .i64 s.1)).setCell ⟨w.heap.size + 1, 1, none⟩ (.int .i64 s.2.1)).setCell ⟨w.heap.size + 1, 2, none⟩ (.float .f32 s.2.2.1)).setCell ⟨w.heap.size + 1, 3, none⟩ (.float .f32 s.2.2.2)).setCell ⟨w.heap.size + 1, 4, none⟩ (.slice B' bs'.length cb')).setCell ⟨w.heap.size + 1, 5, none⟩ (.slice E' evs.length ce')).setCell ⟨w.heap.size + 1, 6, none⟩ (.int .i64 0)).setCell ⟨w.heap.size + 1, 7, none⟩ (.int .i64 0)).setCell ⟨w.heap.size + 1, 8, none⟩ (.slice none 0 0)).setCell ⟨w.heap.size + 1, 9, none⟩ (.float .f32 0)) = put10 W3 (w.heap.size + 1) (.int .i64 s.1) (.int .i64 s.2.1) (.float .f32 s.2.2.1) (.float .f32 s.2.2.2) (.slice B' bs'.length cb') (.slice E' evs.length ce') (.int .i64 0) (.int .i64 0) (.slice none 0 0) (.float .f32 0) := rfl
  have hR6 := put10_new (.int .i64 s.1) (.int .i64 s.2.1) (.float .f32 s.2.2.1) (.float .f32 s.2.2.2) (.slice B' bs'.length cb') (.slice E' evs.length ce') (.int .i64 0) (.int .i64 0) (.slice none 0 0) (.float .f32 0) HR3.out
  have hk4 : ∀ j, j ≠ w.heap.size + 1 → ((((((((((W3.setCell ⟨w.heap.size + 1, 0, none⟩ (.int .i64 s.1)).setCell ⟨w.heap.size + 1, 1, none⟩ (.int .i64 s.2.1)).setCell ⟨w.heap.size + 1, 2, none⟩ (.float .f32 s.2.2.1)).setCell ⟨w.heap.size + 1, 3, none⟩ (.float .f32 s.2.2.2)).setCell ⟨w.heap.size + 1, 4, none⟩ (.slice B' bs'.length cb')).setCell ⟨w.heap.size + 1, 5, none⟩ (.slice E' evs.length ce')).setCell ⟨w.heap.size + 1, 6, none⟩ (.int .i64 0)).setCell ⟨w.heap.size + 1, 7, none⟩ (.int .i64 0)).setCell ⟨w.heap.size + 1, 8, none⟩ (.slice none 0 0)).setCell ⟨w.heap.size + 1, 9, none⟩ (.float .f32 0)).heap[j]? = W3.heap[j]? := fun j hj => by rw [e]; exact put10_else _ _ _ _ _ _ _ _ _ _ hj
  have hz4 : ((((((((((W3.setCell ⟨w.heap.size + 1, 0, none⟩ (.int .i64 s.1)).setCell ⟨w.heap.size + 1, 1, none⟩ (.int .i64 s.2.1)).setCell ⟨w.heap.size + 1, 2, none⟩ (.float .f32 s.2.2.1)).setCell ⟨w.heap.size + 1, 3, none⟩ (.float .f32 s.2.2.2)).setCell ⟨w.heap.size + 1, 4, none⟩ (.slice B' bs'.length cb')).setCell ⟨w.heap.size + 1, 5, none⟩ (.slice E' evs.length ce')).setCell ⟨w.heap.size + 1, 6, none⟩ (.int .i64 0)).setCell ⟨w.heap.size + 1, 7, none⟩ (.int .i64 0)).setCell ⟨w.heap.size + 1, 8, none⟩ (.slice none 0 0)).setCell ⟨w.heap.size + 1, 9, none⟩ (.float .f32 0)).heap.size = W3.heap.size := by rw [e]; exact put10_size _ _ _ _ _ _ _ _ _ _
  have hb4 : Below w.heap.size w ((((((((((W3.setCell ⟨w.heap.size + 1, 0, none⟩ (.int .i64 s.1)).setCell ⟨w.heap.size + 1, 1, none⟩ (.int .i64 s.2.1)).setCell ⟨w.heap.size + 1, 2, none⟩ (.float .f32 s.2.2.1)).setCell ⟨w.heap.size + 1, 3, none⟩ (.float .f32 s.2.2.2)).setCell ⟨w.heap.size + 1, 4, none⟩ (.slice B' bs'.length cb')).setCell ⟨w.heap.size + 1, 5, none⟩ (.slice E' evs.length ce')).setCell ⟨w.heap.size + 1, 6, none⟩ (.int .i64 0)).setCell ⟨w.heap.size + 1, 7, none⟩ (.int .i64 0)).setCell ⟨w.heap.size + 1, 8, none⟩ (.slice none 0 0)).setCell ⟨w.heap.size + 1, 9, none⟩ (.float .f32 0)) := by rw [e]; exact put10_below _ _ _ _ _ _ _ _ _ _ HB3.out (by omega)
  rw [← e] at hR6
  generalize (((((((((W3.setCell ⟨w.heap.size + 1, 0, none⟩ (.int .i64 s.1)).setCell ⟨w.heap.size + 1, 1, none⟩ (.int .i64 s.2.1)).setCell ⟨w.heap.size + 1, 2, none⟩ (.float .f32 s.2.2.1)).setCell ⟨w.heap.size + 1, 3, none⟩ (.float .f32 s.2.2.2)).setCell ⟨w.heap.size + 1, 4, none⟩ (.slice B' bs'.length cb')).setCell ⟨w.heap.size + 1, 5, none⟩ (.slice E' evs.length ce')).setCell ⟨w.heap.size + 1, 6, none⟩ (.int .i64 0)).setCell ⟨w.heap.size + 1, 7, none⟩ (.int .i64 0)).setCell ⟨w.heap.size + 1, 8, none⟩ (.slice none 0 0)).setCell ⟨w.heap.size + 1, 9, none⟩ (.float .f32 0) = W4 at *
  refine bodyPost_ret (results_cell_tmp_row rfl _ _ (w.heap.size + 1) 31 #[.int .i64 s.1, .int .i64 s.2.1, .float .f32 s.2.2.1, .float .f32 s.2.2.2, .slice B' bs'.length cb', .slice E' evs.length ce', .int .i64 0, .int .i64 0, .slice none 0 0, .float .f32 0] (0, 0) _ rfl hR6 Tryz.underlying31 rfl (by kernel_rfl)) rfl ?_
  exact ⟨B', cb', bs', E', ce', rfl, (HSc.out.keep (fun j h1 h2 => hk4 j (by have := HZ2.out; omega)) (by omega)).low (by have := HZ2.out; omega) (by omega) (Nat.le_refl _), HMo.out, hb4⟩
end Go.Proofs.YtndnfhhdflmfcaaGreat
