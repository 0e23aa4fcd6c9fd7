/-
Part 3 of 4 of the proof of the law FnReciprocal: it returns true for all codes. No condition.
-/
import Derived.Test.YtndnfhhdflmfcaaLawReciprocalM2
import Derived.Laws.BytesArg
import Derived.Laws.Concat
import Derived.ProofKit
import Derived.OpenShut
import Derived.Deep.Slices
import Derived.Deep.CutRange
import Derived.Deep.RegionHeld3
import Derived.Deep.AppendLies
import Derived.Laws.ResultCell
import Derived.Lib.SliceRun
import Derived.Deep.RegionWith

/-
spec.l1Parts, for numbers from 0 to 1 of single precision.
-/
namespace Go.Proofs.Ytndnfhhdflmfcaa
open Go Go.RowKit Ieee

theorem parts_le {N k : Nat} (h1 : N < 2 ^ 24) : (N : Rat) * pw (-(k : Int)) ≤ 2 ^ 24 ∧ 0 ≤ (N : Rat) * pw (-(k : Int)) := by
  have hp : pw (-(k : Int)) ≤ 1 := by rw [← pw_zero]; exact pw_mono (by omega)
  have h0 := Rat.le_of_lt (pw_pos (-(k : Int)))
  have hN : (0 : Rat) ≤ N := Rat.natCast_nonneg
  have hN2 : (N : Rat) ≤ 2 ^ 24 := by
    have := Rat.natCast_le_natCast.2 (Nat.le_of_lt h1)
    have e : ((2 ^ 24 : Nat) : Rat) = 2 ^ 24 := by simp; grind
    rw [e] at this; exact this
  have := Rat.mul_le_mul_of_nonneg_left hp hN
  have h3 := Rat.mul_nonneg hN h0
  grind
theorem dbl {r N k : Nat} (hr : fin .f64 r) (hv : fv .f64 r = (N : Rat) * pw (-((k + 1 : Nat) : Int))) (h1 : N < 2 ^ 24) (hk : k ≤ 149) (w : World) :
    fin .f64 (fR .mul .f64 r 4611686018427387904 w) ∧ fv .f64 (fR .mul .f64 r 4611686018427387904 w) = (N : Rat) * pw (-(k : Int)) := by
  obtain ⟨t1, t2⟩ := two_fin
  have e : fv .f64 r * 2 = (N : Rat) * pw (-(k : Int)) := by
    have := pw_succ (-((k + 1 : Nat) : Int))
    rw [show -((k + 1 : Nat) : Int) + 1 = -(k : Int) by omega] at this
    rw [hv, this]; grind
  obtain ⟨p1, p2⟩ := parts_le (k := k) h1
  have ht := top210
  have hm := mul_spec hr t1 (by rw [t2, e, ab_of_nonneg p2]; grind)
  rw [t2, e] at hm
  have hf : Few .f64 ((N : Rat) * pw (-(k : Int))) := by
    refine ⟨(N : Int), -(k : Int), by rw [Rat.intCast_natCast], ?_, ?_⟩
    · have : FloatKind.f64.format.binade = 4503599627370496 := by decide +kernel
      rw [this]; omega
    · have : FloatKind.f64.format.leastPlace = -1074 := by decide +kernel
      rw [this]; omega
  have hx := hm.few hf (by rw [ab_of_nonneg p2]; grind)
  have hn := nrm_fin_eq (nrm_fR .mul .f64 r 4611686018427387904 w) hm.1
  rw [hn]
  exact ⟨hm.1, hx⟩
theorem big53 : fin .f64 4845873199050653696 ∧ fv .f64 4845873199050653696 = 2 ^ 53 := by
  have h : FloatKind.f64.format.read 4845873199050653696 = .number false 4503599627370496 1 := by decide +kernel
  obtain ⟨h1, h2⟩ := fin_of_read h
  refine ⟨h1, ?_⟩
  rw [h2, dval_num]
  unfold mval pw
  simp only [Bool.false_eq_true, if_false]
  grind
theorem not_big {r : Nat} (hr : fin .f64 r) (h : fv .f64 r ≤ 2 ^ 24) : fge .f64 r 4845873199050653696 = false := by
  obtain ⟨b1, b2⟩ := big53
  cases hc : fge .f64 r 4845873199050653696
  · rfl
  · have := (fge_iff hr b1).1 hc
    rw [b2] at this; grind
/-- int(x), and whether x is whole. -/
theorem whole {r N k : Nat} (hr : fin .f64 r) (hv : fv .f64 r = (N : Rat) * pw (-(k : Int))) (h0 : 0 < N) (h1 : N < 2 ^ 24) :
    ∃ n : Nat, floatToIntVal .f64 r .i64 = some (n : Int) ∧ n ≤ 2 ^ 24 ∧ (feq .f64 r (floatOfInt .f64 n) = true → 1 ≤ n) ∧ (k = 0 → feq .f64 r (floatOfInt .f64 n) = true) := by
  obtain ⟨p1, p2⟩ := parts_le (k := k) h1
  obtain ⟨n, q1, q2, q3, q4⟩ := to_int hr (by rw [hv]; exact p2) (by rw [hv]; grind)
  have hx := int_exact .f64 (n : Int) (by have : FloatKind.f64.format.binade = 4503599627370496 := by decide +kernel
                                          rw [this]; omega)
  have hxv : fv .f64 (floatOfInt .f64 n) = (n : Rat) := by rw [hx.2, Rat.intCast_natCast]
  refine ⟨n, q1, ?_, fun h => ?_, fun h => ?_⟩
  · rw [hv] at q2
    have h3 : (n : Rat) ≤ ((2 ^ 24 : Nat) : Rat) := by
      have e : ((2 ^ 24 : Nat) : Rat) = 2 ^ 24 := by simp; grind
      rw [e]; grind
    exact Rat.natCast_le_natCast.1 h3
  · have := (feq_iff hr hx.1).1 h
    rw [hxv, hv] at this
    rcases Nat.eq_zero_or_pos n with hz | hz
    · exfalso
      subst hz
      have hp := pw_pos (-(k : Int))
      have hN : (0 : Rat) < N := by have := Rat.natCast_lt_natCast.2 h0; simpa using this
      have := Rat.mul_pos hN hp
      simp at *
      grind
    · exact hz
  · subst h
    have e : fv .f64 r = (N : Rat) := by rw [hv, show -((0 : Nat) : Int) = 0 from rfl, pw_zero]; grind
    rw [e] at q2 q3
    have h2 := Rat.natCast_le_natCast.1 q2
    have h3 : N < n + 1 := Rat.natCast_lt_natCast.1 (by simpa using q3)
    obtain rfl : n = N := by omega
    exact (feq_iff hr hx.1).2 (by rw [hxv, e])
theorem half_ok {a n c : Nat} (h : a * 2 ^ c = n) (hn : n ≤ 2 ^ 24) (ha : 1 ≤ a) : c ≤ 24 := by
  have h1 : 2 ^ c ≤ 2 ^ 24 := by
    have := Nat.mul_le_mul_right (2 ^ c) ha
    omega
  exact (Nat.pow_le_pow_iff_right (by decide)).1 h1

set_option maxHeartbeats 400000 in
theorem parts_any (x N k0 : Nat) (w : World) (hx : fin .f64 x) (hv : fv .f64 x = (N : Rat) * pw (-(k0 : Int))) (h0 : 0 < N) (h1 : N < 2 ^ 24) (hk0 : k0 ≤ 149) : Calls Try.prog 135 #[.float .f64 x] w fun e w' =>
    ∃ (m j : Int) (n : Nat), e = .returned (.tuple #[.int .i64 m, .int .i64 j]) ∧ 1 ≤ m ∧ m ≤ 16777216 ∧ -200 ≤ j ∧ j ≤ 200 ∧ w.drewN n = w' := by
  have hbig := not_big hx (by rw [hv]; exact (parts_le h1).1)
  have HX := Lib.hid (And.intro hx hv)
  clear hx hv
  go_enter Try.func135, Try.ntmps135
  go_wp2_with fail
  go_loopw [0, 4] (fun y j wr => y = .float .f64 x ∧ j = .int .i64 0 ∧ wr = w) (fun _ _ _ => 0)
  case atStart => exact ⟨rfl, rfl, rfl⟩
  case round =>
    obtain ⟨rfl, rfl, rfl⟩ := hrel
    go_wp2_with fail
    go_loopw [0, 4] (fun y j w2 => ∃ (r k n : Nat) (i : Int), y = .float .f64 r ∧ j = .int .i64 i ∧ Hid (fin .f64 r ∧ fv .f64 r = (N : Rat) * pw (-(k : Int))) ∧ (k : Int) - 149 ≤ i ∧ i ≤ 0 ∧ k ≤ 149 ∧ w2 = wr.drewN n) (fun _ j _ => (intOf j + 149).toNat)
    case atStart => exact ⟨x, k0, 0, 0, rfl, rfl, HX, by omega, by omega, hk0, rfl⟩
    case round =>
      obtain ⟨r, k, n, i, rfl, rfl, hr, hi1, hi2, hk, rfl⟩ := hrel
      obtain ⟨q, q1, q2, q3, q4⟩ := whole hr.out.1 hr.out.2 h0 h1
      have hc := fun W => run_convert_float_int (P := Try.prog) W 103 3 .f64 .i64 r q (by kernel_rfl) (by kernel_rfl) q1
      have Q3 := Lib.hid q3
      have Q4 := Lib.hid q4
      clear q1 q3 q4
      cases t : feq .f64 r (floatOfInt .f64 q)
      · obtain ⟨k', rfl⟩ : ∃ k', k = k' + 1 := by
          rcases Nat.eq_zero_or_pos k with hz | hz
          · rw [Q4.out hz] at t; cases t
          · exact ⟨k - 1, by omega⟩
        have D := Lib.hid (fun w => dbl hr.out.1 hr.out.2 h1 (by omega) w)
        go_wp2_with fail
        go_roundw
        case rel => exact ⟨_, k', _, i - 1, rfl, by go_num, D.out _, by omega, by omega, by omega, rfl⟩
        case measure => simp [intOf]; omega
      · have hq1 := Q3.out t
        clear Q3 Q4
        go_wp2_with fail
        go_loopw [4, 5] (fun j m w3 => ∃ (a c : Nat), m = .int .i64 (a : Int) ∧ j = .int .i64 (i + c) ∧ a * 2 ^ c = q ∧ 1 ≤ a ∧ w3 = wr.drewN n) (fun _ m _ => (intOf m).toNat)
        case atStart => exact ⟨q, 0, rfl, by simp, by simp, hq1, rfl⟩
        case round =>
          obtain ⟨a, c, rfl, rfl, ha, ha1, rfl⟩ := hrel
          have hc24 := half_ok ha q2 ha1
          have hle : a ≤ q := by rw [← ha]; exact Nat.le_mul_of_pos_right a (Nat.two_pow_pos c)
          clear hc t
          by_cases hp : a % 2 = 0
          · obtain ⟨b, rfl⟩ : ∃ b, a = 2 * b := ⟨a / 2, by omega⟩
            have hm : decide (((2 * b : Nat) : Int) % 2 = 0) = true := by simp
            go_wp2_with fail
            go_roundw
            case rel => exact ⟨b, c + 1, by go_num, by go_num, by rw [Nat.pow_succ, ← ha, Nat.mul_comm 2 b, Nat.mul_assoc, Nat.mul_comm (2 ^ c)], by omega, trivial⟩
            case measure => simp [intOf]; omega
          · have hm : decide (((a : Nat) : Int) % 2 = 0) = false := by simp; omega
            go_wp2_with fail
            go_ret2
            exact ⟨_, _, _, rfl, by omega, by omega, by omega, by omega, rfl⟩
end Go.Proofs.Ytndnfhhdflmfcaa

/-
spec.l1Number: its text is not empty.
-/
namespace Go.Proofs.Ytndnfhhdflmfcaa
open Go Go.RowKit Ieee

theorem byte_text (b : Int) (W : World) : (convert 22 9 (.slice (some ⟨W.heap.size, 0, none⟩) 1 1)).run Try.prog (W.alloc (.cells #[.int .u8 b] 5)) = .ok (.string (strOfNums [b])) (W.alloc (.cells #[.int .u8 b] 5)) := by
  refine run_convert_bytes_arg _ 22 5 (by kernel_rfl) (by kernel_rfl) W.heap.size 0 1 1 [b] rfl (fun i hi => ?_) 9 (by kernel_rfl)
  have hb : (W.alloc (.cells #[.int .u8 b] 5)).heap[W.heap.size]? = some (.cells #[.int .u8 b] 5 (0, 0)) := heap_alloc_new W _
  obtain rfl : i = 0 := by omega
  exact (cell_of_row _ _ 0 _ _ (0, 0) hb).trans (by simp)
theorem join_text {a b : ByteArray} (ha : a.size ≤ 1000) (hb : b.size ≤ 1000) (W : World) : (Op.stringOp .add a b).run Try.prog W = .ok (.string (a ++ b)) W := run_string_add W a b (by omega) (by omega)

set_option maxRecDepth 100000 in
set_option maxHeartbeats 400000 in
theorem number_pos (n0 : Nat) (w : World) (h1 : n0 ≤ 1152921504606846976) : Calls Try.prog 136 #[.int .i64 n0] w fun e w' =>
    ∃ s : ByteArray, e = .returned (.string s) ∧ 1 ≤ s.size ∧ s.size ≤ 21 ∧ Below w.heap.size w w' := by
  have hconv := byte_text
  go_enter Try.func136, Try.ntmps136
  go_wp2_with fail
  have hB0 : Hid (Below w.heap.size w (w.alloc (.cells #[.int .u8 (48 + (n0 : Int) % 10)] 5))) := (Below.refl w.heap.size w).alloc (Nat.le_refl _) _
  generalize w.alloc (.cells #[.int .u8 (48 + (n0 : Int) % 10)] 5) = W0 at *
  go_loopw [0, 3] (fun n o wr => ∃ (k d : Nat) (s : ByteArray), n = .int .i64 (k : Int) ∧ o = .string s ∧ k ≤ n0 ∧ Hid (k < 10 ^ d ∧ s.size + d ≤ 21 ∧ 1 ≤ s.size) ∧ Hid (Below w.heap.size w wr)) (fun n _ _ => (intOf n).toNat)
  case atStart => exact ⟨n0 / 10, 18, _, by go_num, rfl, by omega, ⟨by omega, by rw [strOfNums_size]; simp, by rw [strOfNums_size]; simp⟩, hB0⟩
  case round =>
    obtain ⟨k, d, s, rfl, rfl, hk, hs, hb⟩ := hrel
    have hadd := fun b => join_text (a := strOfNums [b]) (b := s) (by rw [strOfNums_size]; simp) (by have := hs.out; omega)
    by_cases h0 : 0 < k
    · go_wp2_with fail
      go_roundw
      case rel =>
        obtain ⟨hs1, hs2, hs3⟩ := hs.out
        obtain ⟨d, rfl⟩ : ∃ e, d = e + 1 := by
          rcases Nat.eq_zero_or_pos d with hz | hz
          · subst hz; omega
          · exact ⟨d - 1, by omega⟩
        refine ⟨k / 10, d, _, by go_num, rfl, by omega, ⟨?_, ?_, ?_⟩, hb.out.alloc hb.out.size _⟩
        · rw [Nat.pow_succ] at hs1; omega
        · rw [ByteArray.size_append, strOfNums_size]; simp; omega
        · rw [ByteArray.size_append, strOfNums_size]; simp
      case measure => simp [intOf]; omega
    · go_wp2_with fail
      go_ret
      exact ⟨s, rfl, hs.out.2.2, by have := hs.out; omega, hb.out⟩

set_option maxRecDepth 100000 in
set_option maxHeartbeats 400000 in
theorem number_any (n : Int) (w : World) (h0 : -1152921504606846976 ≤ n) (h1 : n ≤ 1152921504606846976) : Calls Try.prog 136 #[.int .i64 n] w fun e w' =>
    ∃ s : ByteArray, e = .returned (.string s) ∧ 1 ≤ s.size ∧ s.size ≤ 22 ∧ Below w.heap.size w w' := by
  by_cases hn : 0 ≤ n
  · obtain ⟨k, rfl⟩ := Int.eq_ofNat_of_zero_le hn
    refine (number_pos k w (by omega)).mono ?_
    rintro e w' ⟨s, rfl, h2, h3, hb⟩
    exact ⟨s, rfl, h2, by omega, hb⟩
  · obtain ⟨k, hk⟩ : ∃ k : Nat, -n = k := Int.eq_ofNat_of_zero_le (by omega)
    have hneg : decide (n < 0) = true := by simp; omega
    go_enter Try.func136, Try.ntmps136
    go_wp2_with fail
    refine (number_pos k _ (by omega)).mono ?_
    rintro e w' ⟨s, rfl, h2, h3, hb⟩
    have hadd := join_text (a := ⟨#[45]⟩) (b := s) (by decide) (by omega)
    go_wp2_with fail
    go_ret
    exact ⟨_, rfl, by rw [ByteArray.size_append]; omega, by rw [ByteArray.size_append]; have : (ByteArray.mk #[45]).size = 1 := rfl; omega, hb⟩
end Go.Proofs.Ytndnfhhdflmfcaa

/-
spec.FormatSingle of a number from 0 to 1; spec.l7Limits.
-/
namespace Go.Proofs.Ytndnfhhdflmfcaa
open Go Go.RowKit Ieee

/-- A positive number of single precision that is at most 1. -/
theorem pos_parts {r : Nat} (hr : fin .f32 r) (h0 : 0 < fv .f32 r) (h1 : fv .f32 r ≤ 1) : ∃ N k : Nat, fv .f32 r = (N : Rat) * pw (-(k : Int)) ∧ 0 < N ∧ N < 2 ^ 24 ∧ k ≤ 149 := by
  obtain ⟨s, m, e, hrd⟩ := hr
  obtain ⟨b1, b2, b3, b4, _⟩ := read_bounds FloatKind.f32.format (by decide) hrd
  have e1 : FloatKind.f32.format.leastPlace = -149 := by decide +kernel
  have e2 : FloatKind.f32.format.binade = 8388608 := by decide +kernel
  rw [e1] at b1
  rw [e2] at b2
  have hv : fv .f32 r = if s = true then -mval m e else mval m e := by unfold fv; rw [hrd, dval_num]
  have hm0 := mval_nonneg m e
  have hs : s = false := by
    cases s
    · rfl
    · simp only [if_true] at hv; exfalso; grind
  subst hs
  simp only [Bool.false_eq_true, if_false] at hv
  rw [hv] at h0 h1
  have hm : 0 < m := by
    rcases Nat.eq_zero_or_pos m with hz | hz
    · subst hz; rw [mval_zero] at h0; grind
    · exact hz
  have he : e ≤ 0 := by
    rcases Int.lt_or_le 0 e with h | h
    · exfalso
      have h2 : mval 1 1 ≤ mval m e := by
        refine Rat.le_trans (mval_le (e := 1) hm) ?_
        exact Rat.mul_le_mul_of_nonneg_left (pw_mono (by omega)) Rat.natCast_nonneg
      have h3 : mval 1 1 = 2 := by unfold mval pw; grind
      grind
    · exact h
  refine ⟨m, (-e).toNat, ?_, hm, by omega, by omega⟩
  rw [hv, show -(((-e).toNat : Nat) : Int) = e by omega]; rfl

theorem sign_flt (w : World) : flt .f64 (fR .quo .f64 4607182418800017408 0 w) 0 = false ∧ flt .f64 (fR .quo .f64 4607182418800017408 9223372036854775808 w) 0 = true := by
  have h1 : floatBits .quo .f64 4607182418800017408 0 = some 9218868437227405312 := by decide +kernel
  have h2 : floatBits .quo .f64 4607182418800017408 9223372036854775808 = some 18442240474082181120 := by decide +kernel
  constructor
  · unfold fR; rw [h1]
    show flt .f64 9218868437227405312 0 = false
    decide +kernel
  · unfold fR; rw [h2]
    show flt .f64 18442240474082181120 0 = true
    decide +kernel

/-- What FormatDouble returns: the text of -0, or another. -/
def TextPost (x : Nat) (w : World) (e : Ending) (w' : World) : Prop :=
  ∃ s : ByteArray, e = .returned (.string s) ∧ (s.toList == [45, 48]) = signB x ∧ Below w.heap.size w w'
theorem not_minus {s : ByteArray} (h : s.size ≠ 2) : (s.toList == [45, 48]) = false := by
  cases hc : (s.toList == [45, 48])
  · rfl
  · exfalso
    have := eq_of_beq hc
    rw [ByteArray.toList_eq] at this
    have h2 := congrArg List.length this
    simp at h2
    exact h h2
theorem sign_pos {x : Nat} (hx : fin .f64 x) (hw : wfk .f64 x) (h : 0 < fv .f64 x) : signB x = false := by
  obtain ⟨s, m, e, hr⟩ := hx
  obtain ⟨_, _, _, _, _, h6⟩ := read_bounds FloatKind.f64.format (by decide) hr
  have hs : FloatKind.f64.format.signWeight = 9223372036854775808 := by decide +kernel
  rw [hs] at h6
  have hm0 := mval_nonneg m e
  have hv : fv .f64 x = if s = true then -mval m e else mval m e := by unfold fv; rw [hr, dval_num]
  cases hc : signB x
  · rfl
  · exfalso
    have h1 : 9223372036854775808 ≤ x := of_decide_eq_true hc
    rw [wfk_64] at hw
    have : s = true := by rw [h6]; simp; omega
    subst this
    simp only [if_true] at hv
    grind

set_option maxRecDepth 100000 in
set_option maxHeartbeats 400000 in
theorem format_any (x r : Nat) (w : World) (hx : fin .f64 x) (hw : wfk .f64 x) (hv : fv .f64 x = fv .f32 r) (hr : fin .f32 r) (h0 : 0 ≤ fv .f32 r) (h1 : fv .f32 r ≤ 1) :
    Calls Try.prog 129 #[.float .f64 x] w (TextPost x w) := by
  obtain ⟨z1, z2⟩ := zero_fin .f64
  have hfin : feq .f64 (fo .sub .f64 x x) 0 = true := by rw [fin_sub]; exact (finB_iff x).2 hx
  cases t : feq .f64 x 0
  · have hpos : 0 < fv .f32 r := by
      rcases Rat.le_iff_lt_or_eq.1 h0 with h | h
      · exact h
      · have : feq .f64 x 0 = true := (feq_iff hx z1).2 (by rw [hv, z2, ← h])
        rw [this] at t; cases t
    have hsg : signB x = false := sign_pos hx hw (by rw [hv]; exact hpos)
    have hlt : flt .f64 x 0 = false := by
      cases hc : flt .f64 x 0
      · rfl
      · have := (flt_iff hx z1).1 hc
        rw [z2, hv] at this; grind
    obtain ⟨N, k, p1, p2, p3, p4⟩ := pos_parts hr hpos h1
    obtain ⟨a1, a2⟩ := absB_fin hx
    have a3 : fv .f64 (absB x) = (N : Rat) * pw (-(k : Int)) := by rw [a2, hv, ab_of_nonneg h0, p1]
    have PA := Lib.hid (fun w => parts_any (absB x) N k w a1 a3 p2 p3 p4)
    have SG := Lib.hid hsg
    clear a1 a2 a3 p1 p2 p3 p4 hsg hv hr h0 h1 hpos hx
    go_enter Try.func129, Try.ntmps129
    go_wp2_with fail
    refine (l1Finite_any x _).mono ?_
    rintro e w' ⟨n1, rfl, rfl⟩
    rw [hfin]
    go_wp2_with fail
    refine (l1Abs_any x _).mono ?_
    rintro e w' ⟨rfl, rfl⟩
    go_wp2_with fail
    refine (PA.out _).mono ?_
    rintro e w' ⟨m, j, n2, rfl, m1, m2, j1, j2, rfl⟩
    go_wp2_with fail
    refine (number_any m _ (by omega) (by omega)).mono ?_
    rintro e w1 ⟨s1, rfl, l1, l2, hb1⟩
    have HB1 : Hid (Below w.heap.size w w1) := (below_drewN (Below.refl _ _) _).trans hb1
    have hadd1 := join_text (a := ⟨#[]⟩) (b := s1) (by decide) (by omega)
    have hsz1 : ((⟨#[]⟩ : ByteArray) ++ s1).size = s1.size := by rw [ByteArray.size_append]; have : (ByteArray.mk #[]).size = 0 := rfl; omega
    generalize (⟨#[]⟩ : ByteArray) ++ s1 = u1 at *
    have hadd2 := join_text (a := u1) (b := ⟨#[112]⟩) (by omega) (by decide)
    have hsz2 : (u1 ++ (⟨#[112]⟩ : ByteArray)).size = u1.size + 1 := by rw [ByteArray.size_append]; rfl
    generalize u1 ++ (⟨#[112]⟩ : ByteArray) = u2 at *
    clear hb1
    go_wp2_with fail
    refine (number_any j _ (by omega) (by omega)).mono ?_
    rintro e w2 ⟨s2, rfl, l3, l4, hb2⟩
    have HB2 : Hid (Below w.heap.size w w2) := HB1.out.trans (hb2.mono HB1.out.size)
    have hadd3 := join_text (a := u2) (b := s2) (by omega) (by omega)
    have hsz3 : (u2 ++ s2).size = u2.size + s2.size := ByteArray.size_append
    generalize u2 ++ s2 = u3 at *
    clear hb2
    go_wp2_with fail
    go_ret
    exact ⟨u3, rfl, by rw [SG.out]; exact not_minus (by omega), HB2.out⟩
  · rcases feq_zero hw t with rfl | rfl
    · have s0 := fun w => (sign_flt w).1
      go_enter Try.func129, Try.ntmps129
      go_wp2_with fail
      refine (l1Finite_any _ _).mono ?_
      rintro e w' ⟨n1, rfl, rfl⟩
      rw [hfin]
      go_wp2_with fail
      go_ret
      exact ⟨_, rfl, by rw [not_minus (by decide)]; decide, below_drewN (Below.refl _ _) _⟩
    · have s0 := fun w => (sign_flt w).2
      go_enter Try.func129, Try.ntmps129
      go_wp2_with fail
      refine (l1Finite_any _ _).mono ?_
      rintro e w' ⟨n1, rfl, rfl⟩
      rw [hfin]
      go_wp2_with fail
      go_ret
      exact ⟨_, rfl, by rw [ByteArray.toList_eq]; decide, below_drewN (Below.refl _ _) _⟩
end Go.Proofs.Ytndnfhhdflmfcaa

/-
spec.l7Limits, spec.LimitSamples.
-/
namespace Go.Proofs.Ytndnfhhdflmfcaa
open Go Go.RowKit Ieee

theorem range_val {r : Nat} (h1 : fge .f32 r 0 = true) (h2 : fle .f32 r 1065353216 = true) : 0 ≤ fv .f32 r ∧ fv .f32 r ≤ 1 := by
  have hr := fin_range h1 h2
  obtain ⟨z1, z2⟩ := zero_fin .f32
  have ho : FloatKind.f32.format.read 1065353216 = .number false 8388608 (-23) := by decide +kernel
  obtain ⟨o1, o2⟩ := fin_of_read (k := .f32) ho
  have o3 : fv .f32 1065353216 = 1 := by
    rw [o2, dval_num]
    unfold mval pw
    simp only [Bool.false_eq_true, if_false]
    grind
  have g1 := (fge_iff hr z1).1 h1
  have g2 := (fle_iff hr o1).1 h2
  rw [z2] at g1
  rw [o3] at g2
  exact ⟨g1, g2⟩

set_option maxHeartbeats 400000 in
theorem single_text (r : Nat) (w : World) (_hw : wfk .f32 r) (h1 : fge .f32 r 0 = true) (h2 : fle .f32 r 1065353216 = true) : Calls Try.prog 107 #[.float .f32 r] w fun e w' =>
    ∃ s : ByteArray, e = .returned (.string s) ∧ (s.toList == [45, 48]) = signB (wid r) ∧ Below w.heap.size w w' := by
  have hr := fin_range h1 h2
  obtain ⟨v1, v2⟩ := range_val h1 h2
  have hc := cR_wid_fin hr
  have F := Lib.hid (fun w => format_any (wid r) r w (wid_fin hr).1 (wid_lt _) (wid_fin hr).2 hr v1 v2)
  clear h1 h2 hr v1 v2
  go_enter Try.func107, Try.ntmps107
  go_wp2_with fail
  refine (F.out _).mono ?_
  rintro e w' ⟨s, rfl, hs, hb⟩
  go_wp2_with fail
  go_ret
  exact ⟨s, rfl, hs, (below_drewN (Below.refl _ _) _).trans hb⟩

set_option maxHeartbeats 400000 in
theorem limits_any (c r : Nat) (w : World) (_hcw : wfk .f32 c) (hrw : wfk .f32 r) :
    Calls Try.prog 81 #[.float .f32 c, .float .f32 r] w fun e w' => e = .returned (.bool (limOk c r)) ∧ Below w.heap.size w w' := by
  have HL : Hid (limOk c r = (finB (wid c) && fgt .f32 c 0 && fge .f32 r 0 && fle .f32 r 1065353216 && !signB (wid r))) := rfl
  have Hf := Lib.hid (fun w => (by rw [fin_sub, finB_nrm (by rw [nrm_wid, nrm_cv (by decide)] : nrm .f64 (cR .f32 c .f64 w) = nrm .f64 (wid c))] : feq .f64 (fo .sub .f64 (cR .f32 c .f64 w) (cR .f32 c .f64 w)) 0 = finB (wid c)))
  cases h2 : fgt .f32 c 0
  · have e3 : limOk c r = false := by rw [HL.out, h2, Bool.and_false]; rfl
    have E3 := Lib.hid e3
    clear HL e3
    go_enter Try.func81, Try.ntmps81
    go_wp2_with fail
    go_ret
    exact ⟨by rw [E3.out]; rfl, Below.refl _ _⟩
  cases h1 : finB (wid c)
  · have e3 : limOk c r = false := by rw [HL.out, h1]; rfl
    have E3 := Lib.hid e3
    clear HL e3
    go_enter Try.func81, Try.ntmps81
    go_wp2_with fail
    refine (l1Finite_any _ _).mono ?_
    rintro e w' ⟨n1, rfl, rfl⟩
    rw [Hf.out, h1]
    go_wp2_with fail
    go_ret
    exact ⟨by rw [E3.out]; rfl, below_drewN (Below.refl _ _) _⟩
  cases h3 : fge .f32 r 0
  · have e3 : limOk c r = false := by rw [HL.out, h1, h2, h3]; rfl
    have E3 := Lib.hid e3
    clear HL e3
    go_enter Try.func81, Try.ntmps81
    go_wp2_with fail
    refine (l1Finite_any _ _).mono ?_
    rintro e w' ⟨n1, rfl, rfl⟩
    rw [Hf.out, h1]
    go_wp2_with fail
    go_ret
    exact ⟨by rw [E3.out]; rfl, below_drewN (Below.refl _ _) _⟩
  cases h4 : fle .f32 r 1065353216
  · have e3 : limOk c r = false := by rw [HL.out, h1, h2, h3, h4]; rfl
    have E3 := Lib.hid e3
    clear HL e3
    go_enter Try.func81, Try.ntmps81
    go_wp2_with fail
    refine (l1Finite_any _ _).mono ?_
    rintro e w' ⟨n1, rfl, rfl⟩
    rw [Hf.out, h1]
    go_wp2_with fail
    go_ret
    exact ⟨by rw [E3.out]; rfl, below_drewN (Below.refl _ _) _⟩
  · have e3 : limOk c r = !signB (wid r) := by rw [HL.out, h1, h2, h3, h4]; rfl
    have E3 := Lib.hid e3
    have T := Lib.hid (fun w => single_text r w hrw h3 h4)
    clear HL e3
    go_enter Try.func81, Try.ntmps81
    go_wp2_with fail
    refine (l1Finite_any _ _).mono ?_
    rintro e w' ⟨n1, rfl, rfl⟩
    rw [Hf.out, h1]
    go_wp2_with fail
    refine (T.out _).mono ?_
    rintro e w' ⟨s, rfl, hs, hb⟩
    have HB : Hid (Below w.heap.size w w') := (below_drewN (Below.refl _ _) _).trans hb
    clear hb
    go_wp2_with fail
    go_ret
    exact ⟨by rw [E3.out]; rfl, HB.out⟩

end Go.Proofs.Ytndnfhhdflmfcaa

/-
Rows of the call's own: marked, held, kept.
-/
namespace Go.Proofs.Ytndnfhhdflmfcaa
open Go Go.RowKit Ieee

theorem some_lt {W : World} {i : Nat} {o : Obj} (h : W.heap[i]? = some o) : i < W.heap.size := by
  rcases Nat.lt_or_ge i W.heap.size with h1 | h1
  · exact h1
  · rw [Array.getElem?_eq_none h1] at h; cases h
/-- A slice of single precision whose block lies from 'lo' on and below 'hi'. -/
def Own (w : World) (lo hi : Nat) (A : Option Addr) (c : Nat) (xs : List Nat) : Prop :=
  w.ownsRow lo 31 1 (.slice A xs.length c) xs.length (f32s xs) ∧ ∀ k, (Value.slice A xs.length c).ownBlock = some k → k < hi
theorem Own.keep {w w' : World} {lo hi : Nat} {A : Option Addr} {c : Nat} {xs : List Nat} (h : Own w lo hi A c xs) (hk : ∀ j, lo ≤ j → j < hi → w'.heap[j]? = w.heap[j]?) : Own w' lo hi A c xs := by
  obtain ⟨⟨h1, h2⟩, h3⟩ := h
  refine ⟨⟨h1, ?_⟩, h3⟩
  rcases h2 with h2 | ⟨g, cap, cur, e1, e2, e3, e4⟩
  · exact .inl h2
  · refine .inr ⟨g, cap, cur, e1, e2, (hk g e2 (h3 g (by rw [e1]; rfl))).trans e3, e4⟩
theorem Own.below {w w' : World} {lo hi B : Nat} {A : Option Addr} {c : Nat} {xs : List Nat} (h : Own w lo hi A c xs) (hb : Below B w w') (hB : hi ≤ B) : Own w' lo hi A c xs :=
  h.keep fun j _ hj => hb.block j (by omega)
theorem Own.drewN {w : World} {lo hi : Nat} {A : Option Addr} {c : Nat} {xs : List Nat} (h : Own w lo hi A c xs) (n : Nat) : Own (w.drewN n) lo hi A c xs := h
theorem Own.of {w : World} {lo : Nat} {A : Option Addr} {c n : Nat} {xs : List Nat} (h : w.ownsRow lo 31 1 (.slice A n c) n (f32s xs)) (hn : xs.length = n) : Own w lo w.heap.size A c xs := by
  subst hn
  refine ⟨h, fun k hk => ?_⟩
  rcases h.2 with ⟨e, _⟩ | ⟨g, cap, cur, e1, e2, e3, e4⟩
  · rw [e] at hk; cases hk
  · rw [e1] at hk
    have : g = k := by injection hk
    subst this
    exact some_lt e3
theorem Own.rd {w : World} {lo hi : Nat} {A : Option Addr} {c : Nat} {xs : List Nat} (h : Own w lo hi A c xs) : Rd w A (f32s xs) := by
  obtain ⟨A', cap, e, _, hr⟩ := own_rd h.1
  injection e with e1 e2 e3
  subst e1
  exact hr
theorem MadeRow.own {w w' : World} {xs : List Nat} (h : MadeRow w w' 31 (f32s xs)) (hm : xs.length ≤ 1048576) : Own w' w.heap.size w'.heap.size (some ⟨w.heap.size, 0, none⟩) xs.length xs := by
  obtain ⟨cs, rfl, hc⟩ := h
  have hs : cs.size = xs.length := by rw [← Array.length_toList, hc]; simp
  refine Own.of (n := xs.length) ⟨by simp, .inr ⟨w.heap.size, xs.length, cs, rfl, Nat.le_refl _, heap_alloc_new w _, Nat.le_refl _, ?_, by rw [hs]; simp, ?_⟩⟩ rfl
  · simp only [maxLen]; omega
  · rw [hc, List.take_of_length_le (by simp)]
/-- The marks: k, k + 1, ... -/
def marks (k n : Nat) : List Nat := (List.range n).map fun (j : Nat) => floatOfInt .f32 ((k : Int) + (j : Int))
theorem marks_len (k n : Nat) : (marks k n).length = n := by simp [marks]
theorem marks_at {k n j : Nat} (h : j < n) : (marks k n).getD j 0 = floatOfInt .f32 ((k : Int) + (j : Int)) := by simp [marks, List.getD, h]
theorem mark_fin {k : Nat} (h : k ≤ 2000000) (j : Nat) (hj : j ≤ 2000000) : feq .f32 (floatOfInt .f32 ((k : Int) + (j : Int))) (floatOfInt .f32 ((k : Int) + (j : Int))) = true := by
  rw [feq_self, fin_num (int_exact .f32 _ (by have : FloatKind.f32.format.binade = 8388608 := by decide +kernel
                                              rw [this]; omega)).1]
  rfl

end Go.Proofs.Ytndnfhhdflmfcaa

/-
Arguments opened: slices of floats, floats.
-/
namespace Go.Proofs.Ytndnfhhdflmfcaa
open Go Go.RowKit Go.ChangeShapes Go.WideShapes

theorem own : ownKnob Try.prog.godebug = none := by kernel_rfl
theorem laidOut : laidOutB Try.prog = true := by kernel_rfl

section
variable {H : Type} {enc : TypeId × Value → H} {P : Program} {w : World} {base fuel : Nat} {spare : Nat → Bool} {held : Bool} {t e : TypeId} {cs : List Value} {x : DataW H × List MemPlace}

theorem trod_float {k : FloatKind} (ht : P.underlying t = some (.float k)) (h : DataW.trod enc P w base spare held fuel t cs = some x) :
    ∃ b, cs = [.float k b] ∧ x = (.lit (.float k b), []) ∧ (Lit.float k b).wf = true := by
  cases fuel with
  | zero => simp [DataW.trod] at h
  | succ n =>
    unfold DataW.trod at h
    rw [ht] at h
    split at h <;> simp_all

theorem addr_add_spot (a : Addr) (hs : a.spot = none) (i : Nat) : a.add i = ⟨a.block, a.off + i, none⟩ := by
  obtain ⟨b, o, s⟩ := a
  subst hs
  unfold Addr.add
  by_cases h : i = 0
  · subst h; simp
  · simp [h]

theorem cell_lt {w : World} {p : Addr} {v : Value} (h : w.cell? p = some v) : p.block < w.heap.size := by
  unfold World.cell? at h
  rcases Nat.lt_or_ge p.block w.heap.size with h1 | h1
  · exact h1
  · rw [Array.getElem?_eq_none h1] at h; cases h

/-- A slice of floats that came in. -/
theorem open_floats {k : FloatKind} {v : Value} {d : DataW H} {ps : List MemPlace} {A : Option Addr} {len cap : Nat} (hv : v = .slice A len cap) (ht : P.underlying t = some (.slice e)) (he : P.underlying e = some (.float k)) (hc : P.cellsOf e = 1)
    (h : DataW.Trod enc P w base spare held t v d ps) : ∃ bs : List Nat, bs.length = len ∧ len ≤ maxLen ∧ Rd w A (bs.map (.float k)) ∧ ∀ i, i < len → wfk k (bs.getD i 0) := by
  obtain ⟨fuel, hf⟩ := h
  subst hv
  rcases Deep.open_slice1 ht hc hf with ⟨hcs, _⟩ | ⟨a, l, c, m, n, V, D, Pl, hcs, hb, hl, hm, hmm, _, hx⟩
  · simp [Value.cells] at hcs
    obtain ⟨rfl, rfl, rfl⟩ := hcs
    exact ⟨[], rfl, by simp, fun h => by simp at h, fun i hi => absurd hi (Nat.not_lt_zero _)⟩
  · simp [Value.cells] at hcs
    obtain ⟨rfl, rfl, rfl⟩ := hcs
    have hlm : len ≤ m := by rw [hmm]; split <;> omega
    obtain ⟨F, hF⟩ := Deep.choose_lt (n := len) (p := fun i b => V i = .float k b ∧ (Lit.float k b).wf = true) (fun i hi => by
      obtain ⟨_, h2⟩ := hx i (by omega)
      obtain ⟨b, h3, _, h4⟩ := trod_float he h2
      exact ⟨b, by simpa using h3, h4⟩)
    refine ⟨(List.range len).map F, by simp, by omega, fun h0 => ?_, fun i hi => ?_⟩
    · have h0 : 0 < len := by simpa using h0
      have hs : a.spot = none := by
        have := World.cell?_spot (hx 0 (by omega)).1
        simpa [Addr.add] using this
      have hcell := (hx 0 (by omega)).1
      rw [addr_add_spot a hs] at hcell
      refine ⟨a.block, a.off, ?_, cell_lt (p := ⟨a.block, a.off + 0, none⟩) hcell, fun j u hu => ?_⟩
      · obtain ⟨b, o, s⟩ := a
        subst hs; rfl
      · have hj : j < len := by
          rcases Nat.lt_or_ge j len with h1 | h1
          · exact h1
          · rw [List.getElem?_eq_none (by simpa using h1)] at hu; cases hu
        have h1 := (hx j (by omega)).1
        rw [addr_add_spot a hs, (hF j hj).1] at h1
        rw [h1]
        simpa [List.getElem?_range hj] using hu
    · have := (hF i hi).2
      have e1 : ((List.range len).map F).getD i 0 = F i := by simp [List.getD, hi]
      rw [e1]
      exact wfk_lit this

/-- A slice of bytes that came in. -/
theorem open_bytes {v : Value} {d : DataW H} {ps : List MemPlace} {A : Option Addr} {len cap : Nat} (hv : v = .slice A len cap) (ht : P.underlying t = some (.slice e)) (he : P.underlying e = some (.int .u8)) (hc : P.cellsOf e = 1)
    (h : DataW.Trod enc P w base spare held t v d ps) : ∃ bs : List Int, bs.length = len ∧ len ≤ maxLen ∧ Rd w A (bs.map (.int .u8)) ∧ ∀ i, i < len → 0 ≤ bs.getD i 0 ∧ bs.getD i 0 ≤ 255 := by
  obtain ⟨fuel, hf⟩ := h
  subst hv
  rcases Deep.open_slice1 ht hc hf with ⟨hcs, _⟩ | ⟨a, l, c, m, n, V, D, Pl, hcs, hb, hl, hm, hmm, _, hx⟩
  · simp [Value.cells] at hcs
    obtain ⟨rfl, rfl, rfl⟩ := hcs
    exact ⟨[], rfl, by simp, fun h => by simp at h, fun i hi => absurd hi (Nat.not_lt_zero _)⟩
  · simp [Value.cells] at hcs
    obtain ⟨rfl, rfl, rfl⟩ := hcs
    have hlm : len ≤ m := by rw [hmm]; split <;> omega
    obtain ⟨F, hF⟩ := Deep.choose_lt (n := len) (p := fun i b => V i = .int .u8 b ∧ (Lit.int .u8 b).wf = true) (fun i hi => by
      obtain ⟨_, h2⟩ := hx i (by omega)
      obtain ⟨b, h3, _, h4⟩ := DataW.trod_int he h2
      exact ⟨b, by simpa using h3, h4⟩)
    refine ⟨(List.range len).map F, by simp, by omega, fun h0 => ?_, fun i hi => ?_⟩
    · have h0 : 0 < len := by simpa using h0
      have hs : a.spot = none := by
        have := World.cell?_spot (hx 0 (by omega)).1
        simpa [Addr.add] using this
      have hcell := (hx 0 (by omega)).1
      rw [addr_add_spot a hs] at hcell
      refine ⟨a.block, a.off, ?_, cell_lt (p := ⟨a.block, a.off + 0, none⟩) hcell, fun j u hu => ?_⟩
      · obtain ⟨b, o, s⟩ := a
        subst hs; rfl
      · have hj : j < len := by
          rcases Nat.lt_or_ge j len with h1 | h1
          · exact h1
          · rw [List.getElem?_eq_none (by simpa using h1)] at hu; cases hu
        have h1 := (hx j (by omega)).1
        rw [addr_add_spot a hs, (hF j hj).1] at h1
        rw [h1]
        simpa [List.getElem?_range hj] using hu
    · have h1 := (hF i hi).2
      have e1 : ((List.range len).map F).getD i 0 = F i := by simp [List.getD, hi]
      rw [e1]
      simpa [Lit.wf, IntKind.min, IntKind.max, IntKind.signed, IntKind.bits] using h1
end
end Go.Proofs.Ytndnfhhdflmfcaa

/-
A slice of slices of single precision that came in.
-/
namespace Go.Proofs.Ytndnfhhdflmfcaa
open Go Go.RowKit Ieee

/-- A row: where it lies, its capacity, its words. -/
abbrev Row := Option Addr × Nat × List Nat
def rowV (r : Row) : Value := .slice r.1 r.2.2.length r.2.1
def rowAt (rs : List Row) (i : Nat) : Row := rs.getD i (none, 0, [])
def RdSS (w : World) (A : Option Addr) (rs : List Row) : Prop := Rd w A (rs.map rowV) ∧ ∀ i, i < rs.length → Rd w (rowAt rs i).1 (f32s (rowAt rs i).2.2)
theorem RdSS.below {w w' : World} {A : Option Addr} {rs : List Row} (h : RdSS w A rs) (hb : Below w.heap.size w w') : RdSS w' A rs := ⟨h.1.below hb, fun i hi => (h.2 i hi).below hb⟩
theorem rowV_at {rs : List Row} {k : Nat} (h : k < rs.length) : (rs.map rowV)[k]? = some (rowV (rowAt rs k)) := by
  simp [rowAt, List.getD, List.getElem?_eq_getElem h]

section
variable {H : Type} {enc : TypeId × Value → H} {P : Program} {w : World} {base : Nat} {spare : Nat → Bool} {held : Bool} {t e q : TypeId}
theorem open_rows {v : Value} {d : DataW H} {ps : List MemPlace} {A : Option Addr} {len cap : Nat} (hv : v = .slice A len cap) (ht : P.underlying t = some (.slice e)) (he : P.underlying e = some (.slice q)) (hq : P.underlying q = some (.float .f32))
    (ce : P.cellsOf e = 1) (cq : P.cellsOf q = 1)
    (h : DataW.Trod enc P w base spare held t v d ps) : ∃ rs : List Row, rs.length = len ∧ len ≤ maxLen ∧ RdSS w A rs ∧ ∀ i, i < len → (rowAt rs i).2.2.length ≤ maxLen ∧ ∀ j, j < (rowAt rs i).2.2.length → wfk .f32 ((rowAt rs i).2.2.getD j 0) := by
  obtain ⟨fuel, hf⟩ := h
  subst hv
  rcases Deep.open_slice1 ht ce hf with ⟨hcs, _⟩ | ⟨a, l, c, m, n, V, D, Pl, hcs, hb, hl, hm, hmm, _, hx⟩
  · simp [Value.cells] at hcs
    obtain ⟨rfl, rfl, rfl⟩ := hcs
    exact ⟨[], rfl, by simp, ⟨fun h => by simp at h, fun i hi => by simp at hi⟩, fun i hi => absurd hi (Nat.not_lt_zero _)⟩
  · simp [Value.cells] at hcs
    obtain ⟨rfl, rfl, rfl⟩ := hcs
    have hlm : len ≤ m := by rw [hmm]; split <;> omega
    obtain ⟨F, hF⟩ := Deep.choose_lt (n := len) (p := fun i (r : Row) => V i = rowV r ∧ Rd w r.1 (f32s r.2.2) ∧ r.2.2.length ≤ maxLen ∧ ∀ j, j < r.2.2.length → wfk .f32 (r.2.2.getD j 0)) (fun i hi => by
      obtain ⟨_, h2⟩ := hx i (by omega)
      obtain ⟨A', l', c', hV⟩ : ∃ A' l' c', V i = .slice A' l' c' := by
        rcases Deep.open_slice1 he cq h2 with ⟨h3, _⟩ | ⟨a', l', c', _, _, _, _, _, h3, _⟩
        · exact ⟨none, 0, 0, by simpa using h3⟩
        · exact ⟨some a', l', c', by simpa using h3⟩
      have hT : DataW.Trod enc P w base spare held e (.slice A' l' c') (D i) (Pl i) := ⟨n, by rw [hV] at h2; simpa [Value.cells] using h2⟩
      obtain ⟨bs, hb1, hb2, hb3, hb4⟩ := open_floats rfl he hq cq hT
      exact ⟨(A', c', bs), by rw [hV]; simp [rowV, hb1], hb3, by simpa [hb1] using hb2, fun j hj => hb4 j (by simpa [hb1] using hj)⟩)
    have hat : ∀ i, i < len → rowAt ((List.range len).map F) i = F i := fun i hi => by simp [rowAt, List.getD, hi]
    refine ⟨(List.range len).map F, by simp, by omega, ⟨fun h0 => ?_, fun i hi => ?_⟩, fun i hi => ?_⟩
    · have h0 : 0 < len := by simpa using h0
      have hs : a.spot = none := by
        have := World.cell?_spot (hx 0 (by omega)).1
        simpa [Addr.add] using this
      have hcell := (hx 0 (by omega)).1
      rw [addr_add_spot a hs] at hcell
      refine ⟨a.block, a.off, ?_, cell_lt (p := ⟨a.block, a.off + 0, none⟩) hcell, fun j u hu => ?_⟩
      · obtain ⟨b, o, s⟩ := a
        subst hs; rfl
      · have hj : j < len := by
          rcases Nat.lt_or_ge j len with h1 | h1
          · exact h1
          · rw [List.getElem?_eq_none (by simpa using h1)] at hu; cases hu
        have h1 := (hx j (by omega)).1
        rw [addr_add_spot a hs, (hF j hj).1] at h1
        rw [h1]
        simpa [List.getElem?_range hj] using hu
    · have hi : i < len := by simpa using hi
      rw [hat i hi]; exact (hF i hi).2.1
    · rw [hat i hi]; exact (hF i hi).2.2
end
end Go.Proofs.Ytndnfhhdflmfcaa

/-
Slices of slices of single precision: laws.szFloat32SS, toFloat32SS, eqFloat32SS, markFloat32SS.
-/
namespace Go.Proofs.Ytndnfhhdflmfcaa
open Go Go.RowKit Ieee

theorem setCell_size (W : World) (a : Addr) (v : Value) : (W.setCell a v).heap.size = W.heap.size := by simp
/-- How many words the first rows have. -/
def totL (rs : List Row) : Nat → Nat
  | 0 => 0
  | k + 1 => totL rs k + (rowAt rs k).2.2.length
theorem totL_mono (rs : List Row) {j k : Nat} (h : j ≤ k) : totL rs j ≤ totL rs k := by
  induction k with
  | zero => obtain rfl : j = 0 := by omega
            exact Nat.le_refl _
  | succ k ih =>
    rcases Nat.lt_or_ge j (k + 1) with h1 | h1
    · have := ih (by omega); show _ ≤ totL rs k + _; omega
    · obtain rfl : j = k + 1 := by omega
      exact Nat.le_refl _
theorem totL_row (rs : List Row) {i n : Nat} (h : i < n) : (rowAt rs i).2.2.length ≤ totL rs n := by
  have := totL_mono rs (show i + 1 ≤ n by omega)
  have e : totL rs (i + 1) = totL rs i + (rowAt rs i).2.2.length := rfl
  omega

theorem row_info : (Try.prog.info? 28).map (fun i => (i.zero, i.size, i.bytes)) = some (some (.slice none 0 0), 1, 24) := by kernel_rfl
/-- The rows of a copy whose outer block is b. -/
def copyRows (b : Nat) (rs : List Row) : List Row := (List.range rs.length).map fun i => (some ⟨b + 1 + i, 0, none⟩, (rowAt rs i).2.2.length, (rowAt rs i).2.2)
theorem copyRows_len (b : Nat) (rs : List Row) : (copyRows b rs).length = rs.length := by simp [copyRows]
theorem copyRows_at {b : Nat} {rs : List Row} {i : Nat} (h : i < rs.length) : rowAt (copyRows b rs) i = (some ⟨b + 1 + i, 0, none⟩, (rowAt rs i).2.2.length, (rowAt rs i).2.2) := by
  show (copyRows b rs).getD i (none, 0, []) = _
  simp [copyRows, List.getD, h]
/-- A copy: the outer block b, then a block a row. -/
structure CopySS (w : World) (b : Nat) (rs : List Row) : Prop where
  top : w.rowIs b 28 rs.length (fun i => rowV (rowAt (copyRows b rs) i))
  rows : ∀ i, i < rs.length → Own w (b + 1 + i) (b + 2 + i) (some ⟨b + 1 + i, 0, none⟩) (rowAt rs i).2.2.length (rowAt rs i).2.2
theorem CopySS.rd {w : World} {b : Nat} {rs : List Row} (h : CopySS w b rs) : RdSS w (some ⟨b, 0, none⟩) (copyRows b rs) := by
  refine ⟨fun h0 => ⟨b, 0, rfl, h.top.lt, fun k u hu => ?_⟩, fun i hi => ?_⟩
  · have hk : k < rs.length := by
      rcases Nat.lt_or_ge k rs.length with h1 | h1
      · exact h1
      · rw [List.getElem?_eq_none (by simpa [copyRows] using h1)] at hu; cases hu
    rw [rowV_at (by rw [copyRows_len]; exact hk)] at hu
    rw [Nat.zero_add, h.top.cell hk]; exact hu
  · rw [copyRows_len] at hi
    rw [copyRows_at hi]
    exact (h.rows i hi).rd
theorem CopySS.keep {w w' : World} {b : Nat} {rs : List Row} (h : CopySS w b rs) (hk : ∀ j, b ≤ j → j < b + 1 + rs.length → w'.heap[j]? = w.heap[j]?) : CopySS w' b rs :=
  ⟨h.top.of_block (hk b (Nat.le_refl _) (by omega)), fun i hi => (h.rows i hi).keep fun j h1 h2 => hk j (by omega) (by omega)⟩
theorem CopySS.below {w w' : World} {b B : Nat} {rs : List Row} (h : CopySS w b rs) (hb : Below B w w') (hB : b + 1 + rs.length ≤ B) : CopySS w' b rs :=
  h.keep fun j _ hj => hb.block j (by omega)

end Go.Proofs.Ytndnfhhdflmfcaa

/-
MixTracks of both packages.
-/
namespace Go.Proofs.Ytndnfhhdflmfcaa
open Go Go.RowKit Ieee

/-- The sum of the first rows at a place. -/
def sumAt (rs : List Row) : Nat → Nat → Nat
  | 0, _ => 0
  | k + 1, j => fo .add .f32 (sumAt rs k j) ((rowAt rs k).2.2.getD j 0)
theorem nrm_sumAt (rs : List Row) (k j : Nat) : nrm .f32 (sumAt rs k j) = sumAt rs k j := by
  cases k with
  | zero => exact (nrm_of_num (by decide +kernel) : nrm .f32 0 = 0)
  | succ k => exact nrm_fo _ _ _ _
def rowLen (rs : List Row) (i : Nat) : Nat := (rowAt rs i).2.2.length
/-- The row k added to the first m of the sums. -/
def Part (rs : List Row) (k L m : Nat) (ts : List Nat) : Prop :=
  ts.length = L ∧ ∀ j, j < L → nrm .f32 (ts.getD j 0) = (if j < m then sumAt rs (k + 1) j else sumAt rs k j) ∧ wfk .f32 (ts.getD j 0)
theorem getD_set {ts : List Nat} {m v j : Nat} (hm : m < ts.length) : (ts.set m v).getD j 0 = if j = m then v else ts.getD j 0 := by
  simp only [List.getD, List.getElem?_set]
  by_cases h : m = j
  · subst h; simp [hm]
  · rw [if_neg h, if_neg (fun e => h e.symm)]
theorem Part.set {rs : List Row} {k L m : Nat} {ts : List Nat} (h : Part rs k L m ts) (hm : m < L) {a x : Nat} (ha : nrm .f32 a = nrm .f32 (ts.getD m 0)) (hx : (rowAt rs k).2.2.getD m 0 = x) (w : World) :
    Part rs k L (m + 1) (ts.set m (fR .add .f32 a x w)) := by
  obtain ⟨h1, h2⟩ := h
  refine ⟨by simpa using h1, fun j hj => ?_⟩
  rw [getD_set (by omega)]
  by_cases e : j = m
  · subst e
    rw [if_pos rfl, if_pos (by omega)]
    refine ⟨?_, fR_lt _ _ _ _ _⟩
    have h3 := (h2 j hj).1
    rw [if_neg (by omega)] at h3
    rw [nrm_fR]
    show _ = fo .add .f32 (sumAt rs k j) ((rowAt rs k).2.2.getD j 0)
    rw [hx]
    exact fo_congr (by rw [ha, h3, nrm_sumAt]) rfl
  · rw [if_neg e]
    by_cases e' : j < m
    · rw [if_pos (by omega)]; have := h2 j hj; rwa [if_pos e'] at this
    · rw [if_neg (by omega)]; have := h2 j hj; rwa [if_neg e'] at this
theorem Part.next {rs : List Row} {k L : Nat} {ts : List Nat} (h : Part rs k L L ts) : Part rs (k + 1) L 0 ts :=
  ⟨h.1, fun j hj => by have := h.2 j hj; rw [if_pos hj] at this; rwa [if_neg (by omega)]⟩
theorem Part.zero (rs : List Row) (L : Nat) : Part rs 0 L 0 (List.replicate L 0) :=
  ⟨by simp, fun j hj => by
    rw [if_neg (by omega)]
    have e : (List.replicate L 0).getD j 0 = 0 := by simp [List.getD, hj]
    rw [e]
    exact ⟨nrm_of_num (by decide +kernel), by rw [wfk_32]; omega⟩⟩
theorem rowIs_rd {w : World} {g L : Nat} {ts : List Nat} (h : w.rowIs g 31 L (fun j => .float .f32 (ts.getD j 0))) (hl : ts.length = L) : Rd w (some ⟨g, 0, none⟩) (f32s ts) := fun _ =>
  ⟨g, 0, rfl, h.lt, fun k u hu => by
    have hk : k < ts.length := by
      rcases Nat.lt_or_ge k ts.length with h1 | h1
      · exact h1
      · rw [List.getElem?_eq_none (by simpa using h1)] at hu; cases hu
    rw [f32s_at hk] at hu
    rw [Nat.zero_add, h.cell (by omega)]; exact hu⟩
theorem rowIs_upd {w : World} {g L m v : Nat} {ts : List Nat} (h : w.rowIs g 31 L (fun j => .float .f32 (ts.getD j 0))) (hl : ts.length = L) (hm : m < L) :
    (w.setCell ⟨g, m, none⟩ (.float .f32 v)).rowIs g 31 L (fun j => .float .f32 ((ts.set m v).getD j 0)) :=
  (h.set m (.float .f32 v)).congr fun i hi => by
    show (if i = m then _ else _) = _
    rw [getD_set (by omega)]
    by_cases e : i = m
    · rw [if_pos e, if_pos e]
    · rw [if_neg e, if_neg e]

/-- What MixTracks returns. -/
def MixRes (c r : Nat) (rs : List Row) (ok : Bool) (ys : List Nat) : Prop :=
  ((∀ i, i < rs.length → rowLen rs i = rowLen rs 0) ∧ ok = limOk c r ∧ ∃ ss, Part rs rs.length (if rs.length = 0 then 0 else rowLen rs 0) 0 ss ∧ (if limOk c r = true then limited ss c r ys ss.length else ys = [])) ∨
  ((∃ i, i < rs.length ∧ rowLen rs i ≠ rowLen rs 0) ∧ ok = false ∧ ys = [])
def MixPost (c r : Nat) (rs : List Row) (w : World) (e : Ending) (w' : World) : Prop :=
  ∃ (A' : Option Addr) (c' : Nat) (ys : List Nat) (ok : Bool), e = .returned (.tuple #[.slice A' ys.length c', .bool ok]) ∧ Own w' w.heap.size w'.heap.size A' c' ys ∧ MixRes c r rs ok ys ∧ Below w.heap.size w w'
/-- The sums after so many rows. -/
structure Summed (w W : World) (rs : List Row) (k : Nat) (v : Value) (L : Nat) : Prop where
  below : Below w.heap.size w W
  row : ∃ g ss, v = .slice (some ⟨g, 0, none⟩) L L ∧ w.heap.size ≤ g ∧ W.rowIs g 31 L (fun j => .float .f32 (ss.getD j 0)) ∧ Part rs k L 0 ss

theorem owns_low {w : World} {lo lo' n : Nat} {e : TypeId} {v : Value} {xs : List Value} (h : w.ownsRow lo e 1 v n xs) (hl : lo' ≤ lo) : w.ownsRow lo' e 1 v n xs := by
  obtain ⟨h1, h2⟩ := h
  refine ⟨h1, ?_⟩
  rcases h2 with h2 | ⟨g, cap, cur, e1, e2, e3⟩
  · exact .inl h2
  · exact .inr ⟨g, cap, cur, e1, by omega, e3⟩
theorem mix_bad (c r : Nat) {rs : List Row} {k : Nat} {w W : World} (hk : k < rs.length) (hne : rowLen rs k ≠ rowLen rs 0) (hb : Below w.heap.size w W) : MixPost c r rs w (.returned (.tuple #[.slice none 0 0, .bool false])) W :=
  ⟨none, 0, [], false, rfl, ⟨⟨rfl, .inl ⟨rfl, rfl⟩⟩, fun k hk => by cases hk⟩, .inr ⟨⟨k, hk, hne⟩, rfl, rfl⟩, hb⟩
theorem mix_good {c r : Nat} {rs : List Row} {w W W' : World} {ss : List Nat} {e : Ending} (hsame : ∀ i, i < rs.length → rowLen rs i = rowLen rs 0) (hL : (if rs.length = 0 then 0 else rowLen rs 0) = ss.length) (hP : Part rs rs.length ss.length 0 ss) (hb : Below w.heap.size w W)
    (h : LimitPost c r ss W e W') : MixPost c r rs w e W' := by
  obtain ⟨A', c', ys, he, ho, hy, hb2⟩ := h
  exact ⟨A', c', ys, _, he, Own.of (owns_low ho hb.size) rfl, .inl ⟨hsame, rfl, ss, by rw [hL]; exact hP, hy⟩, hb.trans (hb2.mono hb.size)⟩

end Go.Proofs.Ytndnfhhdflmfcaa

/-
impl.RingBody at valid modes, where no step overflows.
-/
namespace Go.Proofs.Ytndnfhhdflmfcaa
open Go Go.RowKit Ieee

/-- An element of an input, or 0. -/
def inAt (xs : List Nat) (i : Nat) : Nat := if i < xs.length then xs.getD i 0 else 0
/-- The states after so many steps. -/
def stAt (ms : List MW) (xs : List Nat) : Nat → List (Nat × Nat)
  | 0 => List.replicate ms.length (0, 0)
  | i + 1 => nextS ms (stAt ms xs i) (inAt xs i)
theorem stAt_len (ms : List MW) (xs : List Nat) (i : Nat) : (stAt ms xs i).length = ms.length := by
  induction i with
  | zero => simp [stAt]
  | succ i ih => simp [stAt, nextS, ih]
/-- What a body rings: pointwise, a NaN made the one NaN. -/
def Rung (ms : List MW) (xs ys : List Nat) (n : Nat) : Prop :=
  ys.length = n ∧ ∀ i, i < n → nrm .f32 (ys.getD i 0) = outAt ms (stAt ms xs i) (inAt xs i) ms.length ∧ wfk .f32 (ys.getD i 0)
theorem rung_snoc {ms : List MW} {xs ys : List Nat} {k r : Nat} (h : Rung ms xs ys k) (hr : nrm .f32 r = outAt ms (stAt ms xs k) (inAt xs k) ms.length) (hw : wfk .f32 r) : Rung ms xs (ys ++ [r]) (k + 1) := by
  obtain ⟨hl, h⟩ := h
  refine ⟨by simp [hl], fun i hi => ?_⟩
  rcases Nat.lt_or_ge i k with h1 | h1
  · have e : (ys ++ [r]).getD i 0 = ys.getD i 0 := by
      simp only [List.getD]; rw [List.getElem?_append_left (by omega)]
    rw [e]; exact h i h1
  · obtain rfl : i = k := by omega
    have e : (ys ++ [r]).getD i 0 = r := by
      simp only [List.getD]; rw [List.getElem?_append_right (by omega), hl]; simp
    rw [e]; exact ⟨hr, hw⟩
/-- A row is as it was where its blocks are. -/
theorem owns_keep {w w' : World} {lo n : Nat} {e : TypeId} {v : Value} {xs : List Value} (h : w.ownsRow lo e 1 v n xs) (hk : ∀ j, lo ≤ j → j < w.heap.size → w'.heap[j]? = w.heap[j]?) : w'.ownsRow lo e 1 v n xs := by
  obtain ⟨h1, h2⟩ := h
  refine ⟨h1, ?_⟩
  rcases h2 with h2 | ⟨g, cap, cur, e1, e2, e3, e4⟩
  · exact .inl h2
  · exact .inr ⟨g, cap, cur, e1, e2, (hk g e2 (some_lt e3)).trans e3, e4⟩
/-- No step overflows. -/
def Calm (ms : List MW) (xs : List Nat) (n : Nat) : Prop := ∀ i, i < n → ∀ k, k < ms.length → StepOk (mAt ms k) (sAt (stAt ms xs i) k) (inAt xs i)

theorem c64_info : (Try.prog.info? 72).map (fun i => (i.zero, i.size, i.bytes)) = some (some (.complex .f32 0 0), 1, 8) := by kernel_rfl
set_option maxHeartbeats 400000 in
theorem element_any (A : Option Addr) (c : Nat) (xs : List Nat) (i : Nat) (w : World) (hr : Rd w A (f32s xs)) (hm : xs.length ≤ 1048576) (hi : i ≤ 2000) :
    Calls Try.prog 38 #[.slice A xs.length c, .int .i64 i] w fun e w' => e = .returned (.float .f32 (inAt xs i)) ∧ w = w' := by
  by_cases h : i < xs.length
  · obtain ⟨b, off, rfl, hb1, hc⟩ := hr (by simp; omega)
    have e1 := hc i _ (f32s_at h)
    have He : Hid (inAt xs i = xs.getD i 0) := if_pos h
    clear hc hr
    generalize xs.getD i 0 = x at *
    go_enter Try.func38, Try.ntmps38
    go_wp2
    go_ret
    exact ⟨by rw [He.out]; rfl, rfl⟩
  · have He : Hid (inAt xs i = 0) := if_neg h
    clear hr
    go_enter Try.func38, Try.ntmps38
    go_wp2
    go_ret
    exact ⟨by rw [He.out]; rfl, rfl⟩

set_option maxRecDepth 100000 in
set_option maxHeartbeats 600000 in
theorem ringBody_any (A B : Option Addr) (c d lo hi : Nat) (ms : List MW) (xs : List Nat) (n : Nat) (w : World) (h : OwnM w lo hi A c ms) (hh : hi ≤ w.heap.size) (hok : ModesOk ms) (hl : ms.length ≤ 16)
    (hr : Rd w B (f32s xs)) (hm : xs.length ≤ 1048576) (hn : n ≤ 2000) (hcalm : Calm ms xs n) :
    Calls Try.prog 29 #[.agg #[.slice A ms.length c], .slice B xs.length d, .int .i64 n] w fun e w' => ∃ (A' : Option Addr) (c' : Nat) (ys : List Nat), e = .returned (.tuple #[.slice A' ys.length c', .bool true]) ∧
      w'.ownsRow w.heap.size 31 1 (.slice A' ys.length c') ys.length (f32s ys) ∧ Rung ms xs ys n ∧ Below w.heap.size w w' := by
  have HB : Hid (Below w.heap.size w (w.alloc (.cells #[.slice A ms.length c] 62))) := (Below.refl w.heap.size w).alloc (Nat.le_refl _) _
  have hin : (decide ((0 : Int) ≤ (n : Int)) && decide ((n : Int) ≤ 2000)) = true := by simp; omega
  have H : Hid (OwnM (w.alloc (.cells #[.slice A ms.length c] 62)) lo hi A c ms) := h.below HB.out hh
  have HR : Hid (Rd (w.alloc (.cells #[.slice A ms.length c] 62)) B (f32s xs)) := hr.below HB.out
  have hBd : (w.alloc (.cells #[.slice A ms.length c] 62)).heap[w.heap.size]? = some (.cells #[.slice A ms.length c] 62 (0, 0)) := heap_alloc_new w _
  have hsz : hi ≤ (w.alloc (.cells #[.slice A ms.length c] 62)).heap.size := by simp; omega
  have hbs : w.heap.size < (w.alloc (.cells #[.slice A ms.length c] 62)).heap.size := by simp
  have HK := Lib.hid hok
  have HC := Lib.hid hcalm
  have H0 := Lib.hid h
  have Hr0 := Lib.hid hr
  clear h hr hok hcalm
  have hmk := fun W => run_make_row' (P := Try.prog) 76 72 (.complex .f32 0 0) 8 Try.underlying76 c64_info rfl .i64 .i64 ms.length (by omega) (by omega) W
  go_enter Try.func29, Try.ntmps29
  go_wp2_with fail
  have c0 := cell_of_row _ w.heap.size 0 _ _ (0, 0) hBd
  generalize w.alloc (.cells #[.slice A ms.length c] 62) = W at *
  refine (isBody_any A c lo hi ms _ H.out hsz HK.out hl).mono ?_
  rintro e W1 ⟨rfl, hb1⟩
  have HB1 : Hid (Below w.heap.size w W1) := HB.out.trans (hb1.mono (by omega))
  have hBd1 : W1.heap[w.heap.size]? = some (.cells #[.slice A ms.length c] 62 (0, 0)) := (hb1.block _ hbs).trans hBd
  have c1 := cell_of_row W1 w.heap.size 0 _ _ (0, 0) hBd1
  have hw1 : w.heap.size < W1.heap.size := some_lt hBd1
  clear c0 hb1 hBd H HR HB
  go_wp2_with fail
  refine (count_any n _).mono ?_
  rintro e w' ⟨rfl, rfl⟩
  rw [hin]
  have hz1 : (W1.alloc (.cells (madeCells #[.complex .f32 0 0] ms.length) 72)).heap.size = W1.heap.size + 1 := by simp
  have hz2 : ((W1.alloc (.cells (madeCells #[.complex .f32 0 0] ms.length) 72)).alloc (.cells #[] 31)).heap.size = W1.heap.size + 2 := by simp
  have S0 : ((W1.alloc (.cells (madeCells #[.complex .f32 0 0] ms.length) 72)).alloc (.cells #[] 31)).rowIs W1.heap.size 72 ms.length (fun i => sV (sAt (stAt ms xs 0) i)) :=
    ((World.rowIs_made W1 (.complex .f32 0 0) ms.length 72).alloc _).congr fun i hi => by simp [stAt, sAt, sV, List.getD, hi]
  have own0 : ((W1.alloc (.cells (madeCells #[.complex .f32 0 0] ms.length) 72)).alloc (.cells #[] 31)).ownsRow (W1.heap.size + 1) 31 1 (.slice (some ⟨W1.heap.size + 1, 0, none⟩) 0 0) 0 (f32s []) := by
    have := owns_empty (W1.alloc (.cells (madeCells #[.complex .f32 0 0] ms.length) 72)) 31
    rw [hz1] at this; exact this
  have B0 : Hid (Below w.heap.size w ((W1.alloc (.cells (madeCells #[.complex .f32 0 0] ms.length) 72)).alloc (.cells #[] 31))) := (HB1.out.alloc HB1.out.size _).alloc (by rw [hz1]; omega) _
  have D0 : ((W1.alloc (.cells (madeCells #[.complex .f32 0 0] ms.length) 72)).alloc (.cells #[] 31)).heap[w.heap.size]? = some (.cells #[.slice A ms.length c] 62 (0, 0)) :=
    (Below.heap_alloc _ _ _ (by rw [hz1]; omega)).trans ((Below.heap_alloc _ _ _ hw1).trans hBd1)
  go_wp2_with fail
  generalize (W1.alloc (.cells (madeCells #[.complex .f32 0 0] ms.length) 72)).alloc (.cells #[] 31) = W2 at *
  generalize W1.heap.size = g at *
  have D1 := Lib.hid D0
  have S1 := Lib.hid S0
  clear D0 S0 hBd1 c1 hz1
  go_loopw [9, 25] (fun v i wr => ∃ (k : Nat) (ys : List Nat), i = .int .i64 (k : Int) ∧ k ≤ n ∧ wr.ownsRow (g + 1) 31 1 v k (f32s ys) ∧ Hid (Rung ms xs ys k) ∧ Hid (wr.rowIs g 72 ms.length (fun i => sV (sAt (stAt ms xs k) i))) ∧
    Hid (Below w.heap.size w wr) ∧ Hid (wr.heap[w.heap.size]? = some (.cells #[.slice A ms.length c] 62 (0, 0))) ∧ g + 2 ≤ wr.heap.size) (fun _ i _ => n - (intOf i).toNat)
  case atStart => exact ⟨0, [], rfl, by omega, own0, ⟨rfl, fun i hi => absurd hi (Nat.not_lt_zero _)⟩, S1, B0, D1, by omega⟩
  case round =>
    clear own0 S1 B0 D1
    obtain ⟨k, ys, rfl, hk, hown, hrg, hrow, hbel, hbd, hgs⟩ := hrel
    by_cases hlt : k < n
    · have d0 := cell_of_row wr w.heap.size 0 _ _ (0, 0) hbd.out
      have HOM := Lib.hid (H0.out.below hbel.out hh)
      have HRD := Lib.hid (Hr0.out.below hbel.out)
      have hcm := Lib.hid (HC.out k hlt)
      have hng : ∀ q, (u9 : Value).ownBlock = some q → g + 1 ≤ q := fun q hq => (hown.lt q hq).1
      have HNG := Lib.hid hng
      clear hng
      go_wp2_with fail
      refine wp_region_held_drew (S := fun w' => w'.cell? ⟨w.heap.size, 0, none⟩ = some (.slice A ms.length c)) (by kernel_rfl) d0 (fun hHeld => ?_)
      refine wpAnyH_take (i := 0) (oi := _) (v := ?_) rfl (by kernel_rfl) (by kernel_rfl) (by kernel_rfl) (fun _ _ _ h => h) (Or.inl ⟨by rfl, ?_⟩) (by assumption) ?_
      rotate_left
      · (intro w hSw; (try dsimp only at hSw); go_simp; try (with_reducible rfl))
      (try simp only [Act.put, List.setIfInBounds_toArray])
      refine wpAnyH_take (i := 1) (oi := _) (v := ?_) rfl (by kernel_rfl) (by kernel_rfl) (by kernel_rfl) (fun _ _ _ h => h) (Or.inl ⟨by rfl, ?_⟩) (by assumption) ?_
      rotate_left
      · (intro w hSw; (try dsimp only at hSw); go_simp; try (with_reducible rfl))
      (try simp only [Act.put])
      refine wpAnyH_take (i := 2) (oi := _) (v := ?_) rfl (by kernel_rfl) (by kernel_rfl) (by kernel_rfl) (fun _ _ _ h => h) (Or.inl ⟨by rfl, ?_⟩) (by assumption) ?_
      rotate_left
      · (intro w hSw; (try dsimp only at hSw); go_simp; try (with_reducible rfl))
      (try simp only [Act.put])
      refine wpAnyH_take (i := 3) (oi := _) (v := ?_) rfl (by kernel_rfl) (by kernel_rfl) (by kernel_rfl) (fun _ _ _ h => h) (Or.inl ⟨by rfl, ?_⟩) (by assumption) ?_
      rotate_left
      · (intro w hSw; (try dsimp only at hSw); go_simp; try (with_reducible rfl))
      (try simp only [Act.put])
      refine wpAnyH_take (i := 4) (oi := _) (v := ?_) rfl (by kernel_rfl) (by kernel_rfl) (by kernel_rfl) (fun _ _ _ h => h) (Or.inl ⟨by rfl, ?_⟩) (by assumption) ?_
      rotate_left
      · (intro w hSw; (try dsimp only at hSw); go_simp; try (with_reducible rfl))
      (try simp only [Act.put])
      refine wpAnyH_take (i := 5) (oi := _) (v := ?_) rfl (by kernel_rfl) (by kernel_rfl) (by kernel_rfl) (fun _ _ _ h => h) (Or.inl ⟨by rfl, ?_⟩) (by assumption) ?_
      rotate_left
      · (intro w hSw; (try dsimp only at hSw); go_simp; try (with_reducible rfl))
      (try simp only [Act.put])
      refine wpAnyH_ready (rs := [6]) (by kernel_rfl) (by simp) ?_
      refine AllReadyH.cons (o := _) rfl (fun K hK => ?_) AllReadyH.nil
      go_simp
      refine (element_any B d xs k _ (HRD.out.drewN 1) hm (by omega)).mono ?_
      rintro e w' ⟨rfl, rfl⟩
      go_wp2_with fail
      refine hK.out _ _ ?_ (fun hHeld2 => ?_)
      · exact hHeld
      clear hK K
      (try simp only [Act.put, List.setIfInBounds_toArray, List.set_cons_zero, List.set_cons_succ])
      refine wpAnyH_ready (rs := [7]) (by kernel_rfl) (by simp) ?_
      refine AllReadyH.cons (o := _) rfl (fun K hK => ?_) AllReadyH.nil
      go_simp
      refine (step_any A c lo hi g ms (stAt ms xs k) (inAt xs k) (wr.drewN 1) ⟨HOM.out.1, HOM.out.2⟩ (by omega) HK.out hl (stAt_len _ _ _) hrow.out hcm.out).mono ?_
      rintro e W3 ⟨r, rfl, hr1, hr2, hrow3, hgr3⟩
      have hsz3 : wr.heap.size ≤ W3.heap.size := hgr3.size
      have blk3 : Hid (∀ j, j < wr.heap.size → j ≠ g → W3.heap[j]? = wr.heap[j]?) := fun j hj hn => hgr3.block j hj (by intro e; injection e with e; exact hn e)
      have hbd3 : Hid (W3.heap[w.heap.size]? = some (.cells #[.slice A ms.length c] 62 (0, 0))) := (blk3.out _ (by omega) (by omega)).trans hbd.out
      have hown3 : Hid (W3.ownsRow (g + 1) 31 1 u9 k (f32s ys)) := owns_keep hown fun j h1 h2 => blk3.out j h2 (by omega)
      have HR := Lib.hid (And.intro hr1 hr2)
      have HROW := Lib.hid hrow3
      have B3 : Hid (Below w.heap.size w W3) := ⟨hgr3.os.trans hbel.out.os, hgr3.tape.trans hbel.out.tape, hgr3.output.trans hbel.out.output, Nat.le_trans hbel.out.size hsz3, fun j hj => (blk3.out j (by omega) (by omega)).trans (hbel.out.block j hj)⟩
      clear hr1 hr2 hrow3 hgr3 hHeld hHeld2 d0
      go_wp2_with fail
      refine hK.out _ _ ?_ (fun hHeld3 => ?_)
      · exact cell_of_row W3 w.heap.size 0 _ _ (0, 0) hbd3.out
      clear hK K
      (try simp only [Act.put, List.setIfInBounds_toArray, List.set_cons_zero, List.set_cons_succ])
      refine wpAnyH_ready (rs := [8]) (by kernel_rfl) (by simp) ?_
      refine AllReadyH.cons (o := _) rfl (fun K hK => ?_) AllReadyH.nil
      go_simp
      refine hK.out _ _ ?_ (fun hHeld4 => ?_)
      · exact (World.cell?_of_block (w := W3) (w' := W3.alloc _) (Below.heap_alloc W3 _ w.heap.size (by omega))).trans hHeld3
      clear hK K
      (try simp only [Act.put, List.setIfInBounds_toArray, List.set_cons_zero, List.set_cons_succ])
      obtain ⟨i0, hi0, hz0, hz1, hz2'⟩ := info_parts f32_info
      refine wpAnyH_ready (rs := [9]) (by kernel_rfl) (by simp) ?_
      refine AllReadyH.cons (o := _) rfl (fun K hK => ?_) AllReadyH.nil
      refine step_append_lies _ (by rfl) (.tmp 28) (.tmp 36) 28 (by rfl) (g + 1) 31 i0 _ 1 4 Try.underlying28 hi0 hz0 hz1 hz2' rfl (by omega) u9 k (f32s ys) (by rfl) (hown3.out.alloc _) ⟨W3.heap.size, 0, none⟩ 1 1 [.float .f32 r] (by rfl) (by rfl) (World.news_of_block (cs := #[.float .f32 r]) (t := 31) (fr := (0, 0)) (heap_alloc_new W3 _)) (by simp [Value.oneCell']) (by omega) (by simp only [maxLen]; omega) (by omega) (by simp; omega) (W3.heap.size + 1) (by simp) ?_
      intro gg cap w4 hown4 hgrow hat hlt4
      have hne1 : some w.heap.size ≠ (u9 : Value).ownBlock := fun e => by have := HNG.out _ e.symm; omega
      have hne2 : some g ≠ (u9 : Value).ownBlock := fun e => by have := HNG.out _ e.symm; omega
      have hs4 : W3.heap.size + 1 ≤ w4.heap.size := by have := hgrow.size; simpa using this
      have hbd4 : Hid (w4.heap[w.heap.size]? = some (.cells #[.slice A ms.length c] 62 (0, 0))) := (hgrow.block _ (by simp; omega) hne1).trans ((Below.heap_alloc W3 _ _ (by omega)).trans hbd3.out)
      refine hK.out _ _ ?_ (fun hHeld5 => ?_)
      · exact cell_of_row w4 w.heap.size 0 _ _ (0, 0) hbd4.out
      clear hK K
      (try simp only [Act.put, List.setIfInBounds_toArray])
      refine wpAnyH_take (i := 10) (oi := _) (v := ?_) rfl (by kernel_rfl) (by kernel_rfl) (by kernel_rfl) (fun _ _ _ h => h) (Or.inl ⟨by rfl, ?_⟩) (by assumption) ?_
      rotate_left
      · (intro w hSw; (try dsimp only at hSw); go_simp; try (with_reducible rfl))
      (try simp only [Act.put])
      refine wpAnyH_done (by kernel_rfl) ?_ _
      go_wp2_with fail
      go_roundw
      case rel =>
        refine ⟨k + 1, ys ++ [r], by go_num, by omega, by simpa [f32s] using hown4, rung_snoc hrg.out HR.out.1 HR.out.2, ?_, ?_, hbd4, by omega⟩
        · exact HROW.out.of_block ((hgrow.block g (by simp; omega) hne2).trans (Below.heap_alloc W3 _ g (by omega)))
        · exact (B3.out.alloc B3.out.size _).grown hgrow (by simp; omega) (fun q hq => by have := HNG.out q hq; omega)
      case measure => simp [intOf]; omega
    · obtain rfl : k = n := by omega
      go_wp2_with fail
      go_ret2
      obtain ⟨A', cap, hv, hl', hrd⟩ := own_rd hown
      subst hv
      have e := hrg.out.1
      exact ⟨A', cap, ys, by rw [e]; rfl, by rw [e]; exact owns_low hown (by omega), hrg.out, hbel.out⟩
end Go.Proofs.Ytndnfhhdflmfcaa

/-
Small inputs: no step overflows. (Plain arithmetic.)
-/
namespace Go.Proofs.Ytndnfhhdflmfcaa
open Go Go.RowKit Ieee

def pw3 (i : Nat) : Rat := 2 ^ 14 * ((3 ^ i : Nat) : Rat)
theorem pw3_succ (i : Nat) : pw3 i * 3 = pw3 (i + 1) := by
  unfold pw3
  rw [Nat.pow_succ, Rat.natCast_mul]
  have : ((3 : Nat) : Rat) = 3 := by simp
  rw [this]; grind
theorem pw3_lo (i : Nat) : 2 ^ 14 ≤ pw3 i := by
  have h : 1 ≤ 3 ^ i := Nat.one_le_pow _ _ (by decide)
  have := Rat.natCast_le_natCast.2 h
  have e : ((1 : Nat) : Rat) = 1 := by simp
  rw [e] at this
  unfold pw3; grind
theorem pw3_hi (i : Nat) (h : i ≤ 61) : pw3 i ≤ 2 ^ 112 := by
  have h1 : 3 ^ i ≤ 3 ^ 61 := Nat.pow_le_pow_right (by decide) h
  have h2 : 3 ^ 61 ≤ 2 ^ 97 := by decide
  have h3 := Rat.natCast_le_natCast.2 (Nat.le_trans h1 h2)
  have e : ((2 ^ 97 : Nat) : Rat) = 2 ^ 97 := by simp; grind
  rw [e] at h3
  unfold pw3; grind
theorem zero_ok {L : Rat} (hL : 0 ≤ L) : StOk L (0, 0) := by
  obtain ⟨z1, z2⟩ := zero_fin .f32
  exact ⟨z1, z1, by rw [wfk_32]; omega, by rw [wfk_32]; omega, by rw [z2, ab_of_nonneg Rat.le_refl]; exact hL, by rw [z2, ab_of_nonneg Rat.le_refl]; exact hL⟩
/-- Inputs that are finite and at most 8. -/
def Low (xs : List Nat) : Prop := ∀ i, i < xs.length → fin .f32 (xs.getD i 0) ∧ ab (fv .f32 (xs.getD i 0)) ≤ 8
theorem Low.at_ {xs : List Nat} (h : Low xs) (i : Nat) : fin .f32 (inAt xs i) ∧ ab (fv .f32 (inAt xs i)) ≤ 8 := by
  unfold inAt
  split
  · exact h i ‹_›
  · obtain ⟨z1, z2⟩ := zero_fin .f32
    exact ⟨z1, by rw [z2, ab_of_nonneg Rat.le_refl]; grind⟩
theorem states_ok {ms : List MW} {xs : List Nat} (hm : ModesOk ms) (hx : Low xs) (i : Nat) (hi : i ≤ 61) : ∀ k, k < ms.length → StOk (pw3 i) (sAt (stAt ms xs i) k) := by
  induction i with
  | zero =>
    intro k hk
    have e : sAt (stAt ms xs 0) k = (0, 0) := by simp [stAt, sAt, List.getD, hk]
    rw [e]
    exact zero_ok (by have := pw3_lo 0; grind)
  | succ i ih =>
    intro k hk
    have h := ih (by omega) k hk
    have e : sAt (stAt ms xs (i + 1)) k = stepW (mAt ms k) (sAt (stAt ms xs i) k) (inAt xs i) := nextS_at (by rw [stAt_len]; exact hk)
    rw [e, ← pw3_succ]
    obtain ⟨x1, x2⟩ := hx.at_ i
    exact (step_ok (hm.at_ hk) h x1 x2 (pw3_lo i) (pw3_hi i (by omega))).1
theorem calm_of {ms : List MW} {xs : List Nat} (hm : ModesOk ms) (hx : Low xs) (n : Nat) (hn : n ≤ 61) : Calm ms xs n := fun i hi k hk => by
  obtain ⟨x1, x2⟩ := hx.at_ i
  exact (step_ok (hm.at_ hk) (states_ok hm hx i (by omega) k hk) x1 x2 (pw3_lo i) (pw3_hi i (by omega))).2
/-- What a body rings does not depend on how long it rings. -/
theorem rung_prefix {ms : List MW} {xs ys zs : List Nat} {n k : Nat} (hy : Rung ms xs ys n) (hz : Rung ms xs zs k) (hk : k ≤ n) : ∀ i, i < k → sameB .f32 (zs.getD i 0) (ys.getD i 0) = true := fun i hi => by
  unfold sameB
  rw [(hy.2 i (by omega)).1, (hz.2 i hi).1]
  simp
end Go.Proofs.Ytndnfhhdflmfcaa

/-
A late input rings late, in equal numbers. (Plain arithmetic.)
-/
namespace Go.Proofs.Ytndnfhhdflmfcaa
open Go Ieee

def EqvS (s t : Nat × Nat) : Prop := Eqv .f32 s.1 t.1 ∧ Eqv .f32 s.2 t.2
theorem prod_top {x y L : Rat} (hx : ab x ≤ L) (hy : ab y ≤ 1 + 1 / 2 ^ 40) (_ : 1 ≤ L) (hL2 : L ≤ 2 ^ 112) : ab (x * y) ≤ top .f64 := by
  have ht := top210
  rw [ab_mul]
  have h1 := Rat.mul_le_mul_of_nonneg_left hy (ab_nonneg x)
  grind
theorem sub_top {x y L : Rat} (hx : ab x ≤ L * (1 + 1 / 2 ^ 30)) (hy : ab y ≤ L * (1 + 1 / 2 ^ 30)) (_ : 1 ≤ L) (hL2 : L ≤ 2 ^ 112) : ab (x - y) ≤ top .f64 ∧ ab (x + y) ≤ top .f64 := by
  have ht := top210
  obtain ⟨x1, x2⟩ := le_ab x
  obtain ⟨y1, y2⟩ := le_ab y
  exact ⟨ab_le (by grind) (by grind), ab_le (by grind) (by grind)⟩
theorem times_eqv {a b c d a' b' : Nat} {L : Rat} (W : World) (ha : Eqv .f32 a a') (hb : Eqv .f32 b b') (fc : fin .f32 c) (fd : fin .f32 d) (wc : wfk .f32 c) (wd : wfk .f32 d) (la : ab (fv .f32 a) ≤ L) (lb : ab (fv .f32 b) ≤ L) (hL : 1 ≤ L) (hL2 : L ≤ 2 ^ 112)
    (hc : ab (fv .f32 c) ≤ 1 + 1 / 2 ^ 40) (hd : ab (fv .f32 d) ≤ 1 + 1 / 2 ^ 40) : Eqv .f32 (sRe a b c d) (sRe a' b' c d) ∧ Eqv .f32 (sIm a b c d) (sIm a' b' c d) := by
  obtain ⟨M, _, _, _, _⟩ := wide_mild ha.fa hb.fa fc fd la lb hL hL2 hc hd
  have A := ha.wid
  have B := hb.wid
  have C := (Eqv.refl fc wc).wid
  have D := (Eqv.refl fd wd).wid
  have la' : ab (fv .f64 (wid a)) ≤ L := by rw [(wid_fin ha.fa).2]; exact la
  have lb' : ab (fv .f64 (wid b)) ≤ L := by rw [(wid_fin hb.fa).2]; exact lb
  have hc' : ab (fv .f64 (wid c)) ≤ 1 + 1 / 2 ^ 40 := by rw [(wid_fin fc).2]; exact hc
  have hd' : ab (fv .f64 (wid d)) ≤ 1 + 1 / 2 ^ 40 := by rw [(wid_fin fd).2]; exact hd
  have P1 := A.mul C (prod_top la' hc' hL hL2)
  have P2 := B.mul D (prod_top lb' hd' hL hL2)
  have P3 := A.mul D (prod_top la' hd' hL hL2)
  have P4 := B.mul C (prod_top lb' hc' hL hL2)
  have e1 := (part_mul A.fa C.fa la' hL hL2 hc').2
  have e2 := (part_mul B.fa D.fa lb' hL hL2 hd').2
  have e3 := (part_mul A.fa D.fa la' hL hL2 hd').2
  have e4 := (part_mul B.fa C.fa lb' hL hL2 hc').2
  exact ⟨(P1.sub P2 (sub_top e1 e2 hL hL2).1).nar M.tr W, (P3.add P4 (sub_top e3 e4 hL hL2).2).nar M.ti W⟩
theorem pole_le {m : MW} (hm : ModeOk m.1 m.2.1 m.2.2.1 m.2.2.2) : ab (fv .f32 m.1) ≤ 1 + 1 / 2 ^ 40 ∧ ab (fv .f32 m.2.1) ≤ 1 + 1 / 2 ^ 40 := by
  have hsq := hm.square
  have q1 := sq_nonneg (fv .f32 m.1)
  have q2 := sq_nonneg (fv .f32 m.2.1)
  exact ⟨ab_le_of_sq (by grind) (by grind), ab_le_of_sq (by grind) (by grind)⟩
theorem add_top {s g : Nat} {L : Rat} (hs : ab (fv .f32 s) ≤ L * (9 / 4)) (hg : ab (fv .f32 g) ≤ 8193) (_ : 2 ^ 14 ≤ L) (hL2 : L ≤ 2 ^ 112) : ab (fv .f32 s + fv .f32 g) ≤ top .f32 := by
  have ht2 := top32
  have g1 := ab_add (fv .f32 s) (fv .f32 g)
  grind
theorem gain_part {g x : Nat} (fg : fin .f32 g) (fx : fin .f32 x) (hg : ab (fv .f32 g) ≤ 1024) (hx : ab (fv .f32 x) ≤ 8) : ab (fv .f32 (fo .mul .f32 g x)) ≤ 8193 := by
  obtain ⟨u1, u2, _⟩ := consts32
  have ht2 := top32
  have n1 := ab_nonneg (fv .f32 g)
  have h1 := Rat.mul_le_mul_of_nonneg_left hx n1
  have h2 : ab (fv .f32 g * fv .f32 x) ≤ 8192 := by rw [ab_mul]; grind
  have hm := mul_spec fg fx (by grind)
  have e := hm.2.1
  rw [u1] at e
  have t := ab_tri (fv .f32 (fo .mul .f32 g x)) (fv .f32 g * fv .f32 x)
  grind
theorem step_eqv {m : MW} {s t : Nat × Nat} {x : Nat} {L : Rat} (W : World) (hm : ModeOk m.1 m.2.1 m.2.2.1 m.2.2.2) (hs : StOk L s) (h : EqvS s t) (fx : fin .f32 x) (hx : ab (fv .f32 x) ≤ 8) (hL : 2 ^ 14 ≤ L) (hL2 : L ≤ 2 ^ 112) :
    EqvS (stepW m s x) (stepW m t x) := by
  obtain ⟨p1, p2⟩ := pole_le hm
  obtain ⟨_, n1, n2, c1, c2⟩ := wide_mild hs.f1 hs.f2 (fin_of_wid hm.fa) (fin_of_wid hm.fb) hs.b1 hs.b2 (by grind) hL2 p1 p2
  have S := (step_ok hm hs fx hx hL hL2).2
  obtain ⟨e1, e2⟩ := times_eqv W h.1 h.2 (fin_of_wid hm.fa) (fin_of_wid hm.fb) hm.wa hm.wb hs.b1 hs.b2 (by grind) hL2 p1 p2
  have g1 := gain_part (fin_of_wid hm.fc) fx (gain_le hm.fc hm.gain.1) hx
  have g2 := gain_part (fin_of_wid hm.fd) fx (gain_le hm.fd hm.gain.2) hx
  exact ⟨e1.add (Eqv.refl S.g1 (fo_lt _ _ _ _)) (add_top c1 g1 hL hL2), e2.add (Eqv.refl S.g2 (fo_lt _ _ _ _)) (add_top c2 g2 hL hL2)⟩

/-- A state of zeros stays so without an input. -/
theorem rest_eqv {m : MW} (_ : World) (hm : ModeOk m.1 m.2.1 m.2.2.1 m.2.2.2) : EqvS (stepW m (0, 0) 0) (0, 0) := by
  obtain ⟨z1, z2⟩ := zero_fin .f32
  have z3 : ab (fv .f32 0) ≤ 8 := by rw [z2, ab_of_nonneg Rat.le_refl]; grind
  have hs : StOk (2 ^ 14) (0, 0) := zero_ok (by grind)
  obtain ⟨hs', S⟩ := step_ok hm hs z1 z3 (Rat.le_refl) (by grind)
  obtain ⟨p1, p2⟩ := pole_le hm
  obtain ⟨w1, w2⟩ := wid_fin z1
  rw [z2] at w2
  have fa := hm.fa
  have fb := hm.fb
  have zt : ab (0 : Rat) ≤ top .f64 := by rw [ab_of_nonneg Rat.le_refl]; exact top_pos _
  have zt2 : ab (0 : Rat) ≤ top .f32 := by rw [ab_of_nonneg Rat.le_refl]; exact top_pos _
  have mz : ∀ {c : Nat}, fin .f64 c → fin .f64 (fo .mul .f64 (wid 0) c) ∧ fv .f64 (fo .mul .f64 (wid 0) c) = 0 := fun {c} hc => by
    have e : fv .f64 (wid 0) * fv .f64 c = 0 := by rw [w2, Rat.zero_mul]
    have r := mul_spec w1 hc (by rw [e]; exact zt)
    exact ⟨r.1, round_zero r e⟩
  have re : fv .f64 (mulRe (wid 0) (wid 0) (wid m.1) (wid m.2.1)) = 0 := by
    have e : fv .f64 (fo .mul .f64 (wid 0) (wid m.1)) - fv .f64 (fo .mul .f64 (wid 0) (wid m.2.1)) = 0 := by rw [(mz fa).2, (mz fb).2]; grind
    exact round_zero (sub_spec (mz fa).1 (mz fb).1 (by rw [e]; exact zt)) e
  have im : fv .f64 (mulIm (wid 0) (wid 0) (wid m.1) (wid m.2.1)) = 0 := by
    have e : fv .f64 (fo .mul .f64 (wid 0) (wid m.2.1)) + fv .f64 (fo .mul .f64 (wid 0) (wid m.1)) = 0 := by rw [(mz fa).2, (mz fb).2]; grind
    exact round_zero (add_spec (mz fb).1 (mz fa).1 (by rw [e]; exact zt)) e
  have M := S.mild
  have R1 := (nar_ok M.fr M.tr).2
  have R2 := (nar_ok M.fi M.ti).2
  have v1 := round_zero R1 re
  have v2 := round_zero R2 im
  have g : ∀ {c : Nat}, fin .f32 c → fv .f32 (fo .mul .f32 c 0) = 0 := fun {c} hc => by
    have e : fv .f32 c * fv .f32 0 = 0 := by rw [z2, Rat.mul_zero]
    exact round_zero (mul_spec hc z1 (by rw [e]; exact zt2)) e
  have k1 : fv .f32 (stepW m (0, 0) 0).1 = 0 := by
    have e : fv .f32 (sRe 0 0 m.1 m.2.1) + fv .f32 (fo .mul .f32 m.2.2.1 0) = 0 := by
      rw [show fv .f32 (sRe 0 0 m.1 m.2.1) = 0 from v1, g (fin_of_wid hm.fc)]; grind
    exact round_zero (add_spec R1.1 S.g1 (by rw [e]; exact zt2)) e
  have k2 : fv .f32 (stepW m (0, 0) 0).2 = 0 := by
    have e : fv .f32 (sIm 0 0 m.1 m.2.1) + fv .f32 (fo .mul .f32 m.2.2.2 0) = 0 := by
      rw [show fv .f32 (sIm 0 0 m.1 m.2.1) = 0 from v2, g (fin_of_wid hm.fd)]; grind
    exact round_zero (add_spec R2.1 S.g2 (by rw [e]; exact zt2)) e
  exact ⟨⟨S.n1, z1, hs'.w1, by rw [wfk_32]; omega, by rw [k1, z2]⟩, ⟨S.n2, z1, hs'.w2, by rw [wfk_32]; omega, by rw [k2, z2]⟩⟩

theorem low_late {xs : List Nat} (h : Low xs) : Low (0 :: xs) := fun i hi => by
  cases i with
  | zero =>
    obtain ⟨z1, z2⟩ := zero_fin .f32
    exact ⟨z1, by show ab (fv .f32 0) ≤ 8; rw [z2, ab_of_nonneg Rat.le_refl]; grind⟩
  | succ i =>
    simp at hi
    have := h i hi
    simpa using this
theorem inAt_late (xs : List Nat) (i : Nat) : inAt (0 :: xs) (i + 1) = inAt xs i := by
  unfold inAt
  simp
theorem inAt_late0 (xs : List Nat) : inAt (0 :: xs) 0 = 0 := by unfold inAt; simp
theorem late_states {ms : List MW} {xs : List Nat} (W : World) (hm : ModesOk ms) (hx : Low xs) (i : Nat) (hi : i ≤ 60) : ∀ k, k < ms.length → EqvS (sAt (stAt ms (0 :: xs) (i + 1)) k) (sAt (stAt ms xs i) k) := by
  induction i with
  | zero =>
    intro k hk
    have e0 : sAt (stAt ms (0 :: xs) 0) k = (0, 0) := by simp [stAt, sAt, List.getD, hk]
    have e1 : sAt (stAt ms xs 0) k = (0, 0) := by simp [stAt, sAt, List.getD, hk]
    have e : sAt (stAt ms (0 :: xs) (0 + 1)) k = stepW (mAt ms k) (sAt (stAt ms (0 :: xs) 0) k) (inAt (0 :: xs) 0) := nextS_at (by rw [stAt_len]; exact hk)
    rw [e, e0, e1, inAt_late0]
    exact rest_eqv W (hm.at_ hk)
  | succ i ih =>
    intro k hk
    have h := ih (by omega) k hk
    have e : sAt (stAt ms (0 :: xs) (i + 1 + 1)) k = stepW (mAt ms k) (sAt (stAt ms (0 :: xs) (i + 1)) k) (inAt (0 :: xs) (i + 1)) := nextS_at (by rw [stAt_len]; exact hk)
    have e' : sAt (stAt ms xs (i + 1)) k = stepW (mAt ms k) (sAt (stAt ms xs i) k) (inAt xs i) := nextS_at (by rw [stAt_len]; exact hk)
    rw [e, e', inAt_late]
    obtain ⟨x1, x2⟩ := hx.at_ i
    exact step_eqv W (hm.at_ hk) (states_ok hm (low_late hx) (i + 1) (by omega) k hk) h x1 x2 (pw3_lo _) (pw3_hi _ (by omega))
theorem out_eqv {ms : List MW} {ss ts : List (Nat × Nat)} {x : Nat} (h : ∀ k, k < ms.length → EqvS (stepW (mAt ms k) (sAt ss k) x) (stepW (mAt ms k) (sAt ts k) x) ∧ ab (fv .f32 (stepW (mAt ms k) (sAt ss k) x).1) ≤ 2 ^ 114) (k : Nat) (hk : k ≤ ms.length) (h5 : k ≤ 5) :
    Eqv .f32 (outAt ms ss x k) (outAt ms ts x k) ∧ ab (fv .f32 (outAt ms ss x k)) ≤ (k : Rat) * 2 ^ 115 := by
  induction k with
  | zero =>
    obtain ⟨z1, z2⟩ := zero_fin .f32
    refine ⟨Eqv.refl z1 (by show (0 : Nat) < 4294967296; omega), ?_⟩
    show ab (fv .f32 0) ≤ _
    rw [z2, ab_of_nonneg Rat.le_refl]; simp
  | succ k ih =>
    obtain ⟨e, b⟩ := ih (by omega) (by omega)
    obtain ⟨hs, hb⟩ := h k (by omega)
    have hk5 : (k : Rat) ≤ 5 := by
      have := Rat.natCast_le_natCast.2 (show k ≤ 5 by omega)
      simpa using this
    have hk0 : (0 : Rat) ≤ (k : Rat) := Rat.natCast_nonneg
    have ht2 := top32
    obtain ⟨u1, u2, u3⟩ := consts32
    have t1 := ab_add (fv .f32 (outAt ms ss x k)) (fv .f32 (stepW (mAt ms k) (sAt ss k) x).1)
    have t2 : ab (fv .f32 (outAt ms ss x k) + fv .f32 (stepW (mAt ms k) (sAt ss k) x).1) ≤ top .f32 := by grind
    refine ⟨e.add hs.1 t2, ?_⟩
    have r := (add_spec e.fa hs.1.fa t2).2.1
    rw [u1] at r
    have t3 := ab_tri (fv .f32 (fo .add .f32 (outAt ms ss x k) (stepW (mAt ms k) (sAt ss k) x).1)) (fv .f32 (outAt ms ss x k) + fv .f32 (stepW (mAt ms k) (sAt ss k) x).1)
    have ec : ((k + 1 : Nat) : Rat) = (k : Rat) + 1 := by simp
    rw [ec]
    show ab (fv .f32 (fo .add .f32 (outAt ms ss x k) (stepW (mAt ms k) (sAt ss k) x).1)) ≤ _
    grind
/-- **A LATE INPUT RINGS LATE.** -/
theorem late_out {ms : List MW} {xs ys zs : List Nat} {n : Nat} (W : World) (hm : ModesOk ms) (h5 : ms.length ≤ 5) (hx : Low xs) (hn : n ≤ 60) (hy : Rung ms xs ys n) (hz : Rung ms (0 :: xs) zs (n + 1)) : ∀ i, i < n → feq .f32 (zs.getD (i + 1) 0) (ys.getD i 0) = true := fun i hi => by
  obtain ⟨x1, x2⟩ := hx.at_ i
  have hst := late_states W hm hx i (by omega)
  have key := out_eqv (ms := ms) (ss := stAt ms (0 :: xs) (i + 1)) (ts := stAt ms xs i) (x := inAt xs i) (fun k hk => by
    have s0 := states_ok hm (low_late hx) (i + 1) (by omega) k hk
    refine ⟨step_eqv W (hm.at_ hk) s0 (hst k hk) x1 x2 (pw3_lo _) (pw3_hi _ (by omega)), ?_⟩
    have b := (step_ok (hm.at_ hk) s0 x1 x2 (pw3_lo _) (pw3_hi _ (by omega))).1.b1
    have := pw3_hi (i + 1) (by omega)
    have b' : ab (fv .f32 (stepW (mAt ms k) (sAt (stAt ms (0 :: xs) (i + 1)) k) (inAt xs i)).1) ≤ pw3 (i + 1) * 3 := b
    grind) ms.length (Nat.le_refl _) h5
  have e1 := (hz.2 (i + 1) (by omega)).1
  have e2 := (hy.2 i hi).1
  rw [inAt_late] at e1
  have f1 := nrm_fin_eq e1 key.1.fa
  have f2 := nrm_fin_eq e2 key.1.fb
  rw [f1, f2]
  exact (feq_iff key.1.fa key.1.fb).2 key.1.v
end Go.Proofs.Ytndnfhhdflmfcaa

/-
impl.forced: a shape times a force.
-/
namespace Go.Proofs.Ytndnfhhdflmfcaa
open Go Go.RowKit Ieee

/-- The samples, each multiplied by a force. -/
def ForcedL (xs : List Nat) (f : Nat) (ys : List Nat) (k : Nat) : Prop := ys.length = k ∧ ∀ i, i < k → nrm .f32 (ys.getD i 0) = fo .mul .f32 (xs.getD i 0) f ∧ wfk .f32 (ys.getD i 0)
theorem forced_snoc {xs ys : List Nat} {f k s : Nat} (h : ForcedL xs f ys k) (hs : nrm .f32 s = fo .mul .f32 (xs.getD k 0) f) (hw : wfk .f32 s) : ForcedL xs f (ys ++ [s]) (k + 1) := by
  obtain ⟨hl, h⟩ := h
  refine ⟨by simp [hl], fun i hi => ?_⟩
  rcases Nat.lt_or_ge i k with h1 | h1
  · have e : (ys ++ [s]).getD i 0 = ys.getD i 0 := by
      simp only [List.getD]; rw [List.getElem?_append_left (by omega)]
    rw [e]; exact h i h1
  · obtain rfl : i = k := by omega
    have e : (ys ++ [s]).getD i 0 = s := by
      simp only [List.getD]; rw [List.getElem?_append_right (by omega), hl]; simp
    rw [e]; exact ⟨hs, hw⟩

set_option maxRecDepth 100000 in
set_option maxHeartbeats 600000 in
theorem forced_any (A : Option Addr) (cp f : Nat) (xs : List Nat) (w : World) (hrd : Rd w A (f32s xs)) (hm : xs.length ≤ 1048576) :
    Calls Try.prog 41 #[.slice A xs.length cp, .float .f32 f] w fun e w' => ∃ (A' : Option Addr) (c' : Nat) (ys : List Nat), e = .returned (.slice A' ys.length c') ∧ w'.ownsRow w.heap.size 31 1 (.slice A' ys.length c') ys.length (f32s ys) ∧ ForcedL xs f ys xs.length ∧ Below w.heap.size w w' := by
  have hown0 := owns_empty w 31
  have hb0 : Below w.heap.size w (w.alloc (.cells #[] 31)) := (Below.refl w.heap.size w).alloc (Nat.le_refl _) _
  go_enter Try.func41, Try.ntmps41
  go_wp2_with fail
  generalize w.alloc (.cells #[] 31) = W0 at *
  go_loopw [5, 11] (fun v i wr => ∃ (k : Nat) (ys : List Nat), i = .int .i64 (k : Int) ∧ k ≤ xs.length ∧ Hid (ForcedL xs f ys k) ∧ wr.ownsRow w.heap.size 31 1 v k (f32s ys) ∧ Below w.heap.size w wr) (fun _ i _ => xs.length - (intOf i).toNat)
  case atStart => exact ⟨0, [], rfl, by omega, ⟨rfl, fun i hi => absurd hi (Nat.not_lt_zero _)⟩, hown0, hb0⟩
  case round =>
    clear hown0 hb0
    obtain ⟨k, ys, rfl, hk, HF, hown, hb⟩ := hrel
    by_cases hlt : k < xs.length
    · obtain ⟨b, off, rfl, hbk, hcell⟩ := (hrd.below hb) (by simp; omega)
      have e1 := hcell k _ (f32s_at hlt)
      obtain ⟨x, hx⟩ : ∃ x, xs.getD k 0 = x := ⟨_, rfl⟩
      rw [hx] at e1
      have Hx := Lib.hid hx
      have hsz := hb.size
      have HS := Lib.hid (fun W => forced_snoc HF.out (s := fR .mul .f32 x f W) (by rw [Hx.out]; exact nrm_fR _ _ _ _ _) (fR_lt _ _ _ _ _))
      have hown2 : (wr.drewN (fN .mul .f32 x f)).ownsRow w.heap.size 31 1 u5 k (f32s ys) := hown
      have hb2 := below_drewN hb (fN .mul .f32 x f)
      clear hcell hx
      go_wp2_with (at_builtin; refine wpList_app1 rfl (.tmp 15) (.tmp 19) 28 rfl w.heap.size 31 (.float .f32 0) 4 Try.underlying28 f32_info rfl u5 k (f32s ys) _ rfl rfl rfl hown2 hsz (by omega) (by omega) ?_; intro v' w' hown' hbel')
      go_roundw
      case rel => exact ⟨k + 1, ys ++ [_], by go_num, by omega, HS.out _, by simpa [f32s] using hown', hb2.trans hbel'⟩
      case measure => simp [intOf]; omega
    · obtain rfl : k = xs.length := by omega
      go_wp2_with fail
      go_ret
      obtain ⟨A', cap, hv, hl', hrd2⟩ := own_rd hown
      subst hv
      have e := HF.out.1
      exact ⟨A', cap, ys, by rw [e]; rfl, by rw [e]; exact hown, HF.out, hb⟩
/-- One times a number is the number, to the bit. -/
theorem mul_one {x : Nat} (hx : fin .f32 x) (hw : wfk .f32 x) : fo .mul .f32 x 1065353216 = x := by
  have ho : FloatKind.f32.format.read 1065353216 = .number false 8388608 (-23) := by decide +kernel
  obtain ⟨s, m, e, hr⟩ := hx
  have h1 : fo .mul .f32 x 1065353216 = FloatKind.f32.format.write (.number (s ^^ false) (m * 8388608) (e + -23)) := fo_some (by
    show ((FloatKind.f32.format.read x).product (FloatKind.f32.format.read 1065353216)).map FloatKind.f32.format.write = _
    rw [hr, ho]; rfl)
  rw [h1]
  have h2 := nearest_scale FloatKind.f32.format s m e 23
  have h3 := write_read FloatKind.f32.format (by decide) hw (by rw [hr]; rfl)
  rw [hr] at h3
  show FloatKind.f32.format.nearest (s ^^ false) (m * 8388608) (e + -23) = x
  rw [Bool.xor_false]
  exact h2.trans h3
end Go.Proofs.Ytndnfhhdflmfcaa

/-
Weights of rooms; modes whose gains are scaled. (Plain arithmetic.)
-/
namespace Go.Proofs.Ytndnfhhdflmfcaa
open Go Ieee

/-- A weight: a number, at most 1. -/
structure Wt (x : Nat) : Prop where
  f : fin .f32 x
  w : wfk .f32 x
  l : ab (fv .f32 x) ≤ 1
def wt (j : Int) : Nat := fo .quo .f32 (floatOfInt .f32 j) 1107296256
def wtOk (x : Nat) : Bool := (match FloatKind.f32.format.read x with | .number _ _ _ => true | _ => false) && fle .f32 x 1065353216 && fge .f32 x 3212836864
theorem wts : (List.range 65).all (fun (n : Nat) => wtOk (wt ((n : Int) - 32))) = true := by decide +kernel
theorem minus_one : fin .f32 3212836864 ∧ fv .f32 3212836864 = -1 := by
  have h : FloatKind.f32.format.read 3212836864 = .number true 8388608 (-23) := by decide +kernel
  obtain ⟨h1, h2⟩ := fin_of_read h
  refine ⟨h1, ?_⟩
  rw [h2, dval_num]
  have e : mval 8388608 (-23) = 1 := by unfold mval pw; grind
  rw [e]; simp
theorem wt_ok {j : Int} (h0 : -32 ≤ j) (h1 : j ≤ 32) : Wt (wt j) := by
  obtain ⟨n, rfl⟩ : ∃ n : Nat, j = (n : Int) - 32 := ⟨(j + 32).toNat, by omega⟩
  have h := List.all_eq_true.1 wts n (List.mem_range.2 (by omega))
  unfold wtOk at h
  simp only [Bool.and_eq_true] at h
  obtain ⟨⟨h2, h3⟩, h4⟩ := h
  have ff : fin .f32 (wt ((n : Int) - 32)) := by
    split at h2
    · exact ⟨_, _, _, ‹_›⟩
    · cases h2
  have l1 := (fle_iff ff one32.1).1 h3
  have l2 := (fge_iff ff minus_one.1).1 h4
  rw [one32.2] at l1
  rw [minus_one.2] at l2
  exact ⟨ff, fo_lt _ _ _ _, ab_le l1 (by grind)⟩
theorem wt_one : Wt 1065353216 := ⟨one32.1, by rw [wfk_32]; omega, by rw [one32.2, ab_of_nonneg (by grind)]; exact Rat.le_refl⟩
/-- A number times a weight is no greater. -/
theorem mul_wt {c x : Nat} (fc : fin .f32 c) (hc : ab (fv .f32 c) ≤ 1024) (hx : Wt x) : fin .f32 (fo .mul .f32 c x) ∧ ab (fv .f32 (fo .mul .f32 c x)) ≤ ab (fv .f32 c) := by
  have ht2 := top32
  have n1 := ab_nonneg (fv .f32 c)
  have p := Rat.mul_le_mul_of_nonneg_left hx.l n1
  have hp : ab (fv .f32 c * fv .f32 x) ≤ ab (fv .f32 c) := by rw [ab_mul]; grind
  have hm := mul_spec fc hx.f (by grind)
  obtain ⟨a1, a2⟩ := abs32_fin fc
  obtain ⟨b1, b2⟩ := neg_fin a1
  have u := (hm.2.2 _ a1).2
  have l := (hm.2.2 _ b1).1
  rw [a2] at u
  rw [b2, a2] at l
  obtain ⟨q1, q2⟩ := le_ab (fv .f32 c * fv .f32 x)
  exact ⟨hm.1, ab_le (u (by grind)) (by have := l (by grind); grind)⟩
theorem Wt.mul {a b : Nat} (ha : Wt a) (hb : Wt b) : Wt (fo .mul .f32 a b) := by
  have := mul_wt ha.f (by have := ha.l; grind) hb
  exact ⟨this.1, fo_lt _ _ _ _, by have := ha.l; grind⟩
theorem mul_comm_fin {a b : Nat} (ha : fin .f32 a) (hb : fin .f32 b) : fo .mul .f32 a b = fo .mul .f32 b a := by
  obtain ⟨s, m, e, hr⟩ := ha
  obtain ⟨t, n, f, hq⟩ := hb
  have h1 : fo .mul .f32 a b = FloatKind.f32.format.write (.number (s ^^ t) (m * n) (e + f)) := fo_some (by
    show ((FloatKind.f32.format.read a).product (FloatKind.f32.format.read b)).map FloatKind.f32.format.write = _
    rw [hr, hq]; rfl)
  have h2 : fo .mul .f32 b a = FloatKind.f32.format.write (.number (t ^^ s) (n * m) (f + e)) := fo_some (by
    show ((FloatKind.f32.format.read b).product (FloatKind.f32.format.read a)).map FloatKind.f32.format.write = _
    rw [hr, hq]; rfl)
  rw [h1, h2, Bool.xor_comm, Nat.mul_comm, Int.add_comm]
/-- A mode whose gain is scaled. -/
def gainM (x : Nat) (m : MW) : MW := (m.1, m.2.1, fo .mul .f32 m.2.2.1 x, fo .mul .f32 m.2.2.2 x)
theorem gain_fin {m : MW} {x : Nat} (hm : ModeOk m.1 m.2.1 m.2.2.1 m.2.2.2) (hx : Wt x) : fin .f32 (fo .mul .f32 m.2.2.1 x) ∧ fin .f32 (fo .mul .f32 m.2.2.2 x) :=
  ⟨(mul_wt (fin_of_wid hm.fc) (gain_le hm.fc hm.gain.1) hx).1, (mul_wt (fin_of_wid hm.fd) (gain_le hm.fd hm.gain.2) hx).1⟩
theorem gain_back {y : Nat} (hy : fin .f32 y) (h : ab (fv .f32 y) ≤ 1024) : fle .f64 (absB (wid y)) 4652218415073722368 = true := by
  obtain ⟨w1, w2⟩ := wid_fin hy
  obtain ⟨a1, a2⟩ := absB_fin w1
  obtain ⟨g1, g2⟩ := gain_val
  refine (fle_iff a1 g1).2 ?_
  rw [a2, g2, w2]
  exact h
theorem gain_ok {m : MW} {x : Nat} (hm : ModeOk m.1 m.2.1 m.2.2.1 m.2.2.2) (hx : Wt x) : ModeOk (gainM x m).1 (gainM x m).2.1 (gainM x m).2.2.1 (gainM x m).2.2.2 := by
  have c1 := gain_le hm.fc hm.gain.1
  have c2 := gain_le hm.fd hm.gain.2
  obtain ⟨f1, l1⟩ := mul_wt (fin_of_wid hm.fc) c1 hx
  obtain ⟨f2, l2⟩ := mul_wt (fin_of_wid hm.fd) c2 hx
  exact ⟨hm.wa, hm.wb, fo_lt _ _ _ _, fo_lt _ _ _ _, hm.fa, hm.fb, (wid_fin f1).1, (wid_fin f2).1, hm.sq, gain_back f1 (Rat.le_trans l1 c1), gain_back f2 (Rat.le_trans l2 c2)⟩
/-- The modes of a room's body. -/
def roomM (ms : List MW) (ws : Nat → Nat) : List MW := (List.range ms.length).map fun k => gainM (ws k) (mAt ms k)
theorem roomM_len (ms : List MW) (ws : Nat → Nat) : (roomM ms ws).length = ms.length := by simp [roomM]
theorem roomM_at {ms : List MW} {ws : Nat → Nat} {k : Nat} (h : k < ms.length) : mAt (roomM ms ws) k = gainM (ws k) (mAt ms k) := by
  show (roomM ms ws).getD k (0, 0, 0, 0) = _
  simp [roomM, List.getD, h]
theorem roomM_congr {ms : List MW} {ws vs : Nat → Nat} (h : ∀ k, k < ms.length → ws k = vs k) : roomM ms ws = roomM ms vs := by
  unfold roomM
  exact List.map_congr_left fun k hk => by rw [h k (List.mem_range.1 hk)]
theorem roomM_ok {ms : List MW} {ws : Nat → Nat} (hm : ModesOk ms) (hw : ∀ k, k < ms.length → Wt (ws k)) : ModesOk (roomM ms ws) := fun m h => by
  unfold roomM at h
  obtain ⟨k, hk, rfl⟩ := List.mem_map.1 h
  have hk := List.mem_range.1 hk
  exact gain_ok (hm.at_ hk) (hw k hk)
end Go.Proofs.Ytndnfhhdflmfcaa

/-
'append(out, xs...)': a slice that reads as a list onto a row of the call's own.
-/
namespace Go.Proofs.Ytndnfhhdflmfcaa
open Go Go.RowKit

theorem run_append_none {P : Program} (w : World) (t ty e : TypeId) (i : TypeInfo) (ht : P.underlying t = some (.slice e)) (hi : P.info? e = some i) {base n size : Nat} {v : Value} {xs : List Value}
    (hown : w.ownsRow base e size v n xs) (c : Nat) : (Builtin.append_ #[t, t] ty #[v, .slice none 0 c]).run P w = .ok v w := by
  rcases hown.2 with ⟨rfl, rfl⟩ | ⟨g, cap, cur, rfl, _, _, hnc, _⟩
  · simp [Builtin.append_, run_underlying ht, sizeOf, typeInfo, hi, Builtin.lenOf, Builtin.firstCells]
  · simp [Builtin.append_, run_underlying ht, sizeOf, typeInfo, hi, Builtin.lenOf, Builtin.firstCells, hnc, storeCells]

theorem wpList_appRd {P : Program} {w : World} {ops : Array Oper} {rest : List Oper} {o : Oper} {a : Act} {Q : Exit → Act → World → Prop} (hgd : o.guard = none) (s x : Operand) (t : TypeId)
    (ho : o.op = .call { callee := .builtin .append, args := #[s, x], argTypes := #[t, t] })
    (B : Nat) (e : TypeId) (z : Value) (bytes : Nat) (ht : P.underlying t = some (.slice e)) (hinfo : (P.info? e).map (fun i => (i.zero, i.size, i.bytes)) = some (some z, 1, bytes)) (hzs : z.cells.size = 1)
    (v : Value) (n : Nat) (xs : List Value) (A : Option Addr) (m c : Nat) (news : List Value) (hs : a.eval s = v) (hx : a.eval x = .slice A m c) (hu : ∀ u ∈ news, u.oneCell' = true) (hown : w.ownsRow B e 1 v n xs) (hB : B ≤ w.heap.size)
    (hr : Rd w A news) (hm : news.length = m) (h63 : n + m ≤ 1048576) (hby : bytes ≤ 1024)
    (h : ∀ v' w', w'.ownsRow B e 1 v' (n + m) (xs ++ news) → Below B w w' → wpList P ops Q rest (a.put o.dst v') w') : wpList P ops Q (o :: rest) a w := by
  obtain ⟨i, hi, hzz⟩ := Option.map_eq_some_iff.1 hinfo
  simp only [Prod.mk.injEq] at hzz
  obtain ⟨hz, hsz, hb⟩ := hzz
  rcases A with _ | ad
  · have hm0 : news = [] := by
      rcases Nat.eq_zero_or_pos news.length with h0 | h0
      · exact List.eq_nil_of_length_eq_zero h0
      · obtain ⟨b, off, h1, _⟩ := hr h0; cases h1
    subst hm0
    simp at hm; subst hm
    refine wpList_plain hgd fun K hK => ?_
    have hrun := run_append_none (P := P) w t o.type e i ht hi hown c
    unfold Oper.wp execOp
    simp only [ho, resolve, invoke, builtin, Sem.run_bind, Sem.run_pure, Result.andThen_ok, List.map_toArray, List.map_cons, List.map_nil, hs, hx, hrun]
    exact hK _ _ (h v w (by simpa using hown) (Below.refl _ _))
  · have hcells : ∀ j u, news[j]? = some u → w.cell? (ad.add j) = some u := fun j u hj => by
      have hpos : 0 < news.length := by
        rcases Nat.eq_zero_or_pos news.length with h0 | h0
        · rw [List.eq_nil_of_length_eq_zero h0] at hj; simp at hj
        · exact h0
      obtain ⟨b, off, h1, _, hc⟩ := hr hpos
      injection h1 with h1
      subst h1
      have := hc j u hj
      rw [← this]
      congr 1
      unfold Addr.add
      by_cases h0 : j = 0 <;> simp [h0]
    refine wpList_append_own _ hgd s x t ho B e i z 1 bytes ht hi hz hsz hb hzs (by decide) v n xs hs hown ad m c news hx (by omega) hcells hu ?_ ?_ hB ?_
    · simp only [maxLen]; omega
    · have := Nat.mul_le_mul h63 hby; omega
    · intro v' w' h2 h3 _
      exact h v' w' h2 ((Below.refl _ _).grown h3 hB (fun k hk => (hown.lt k hk).1))
/-- The same, at one operation of a region. -/
theorem step_appRd {P : Program} {w : World} {ops : Array Oper} {o : Oper} {a : Act} {K : Act → World → Prop} {Q : Exit → Act → World → Prop} {E : Prop} (hgd : o.guard = none) (s x : Operand) (t : TypeId)
    (ho : o.op = .call { callee := .builtin .append, args := #[s, x], argTypes := #[t, t] })
    (B : Nat) (e : TypeId) (z : Value) (bytes : Nat) (ht : P.underlying t = some (.slice e)) (hinfo : (P.info? e).map (fun i => (i.zero, i.size, i.bytes)) = some (some z, 1, bytes)) (hzs : z.cells.size = 1)
    (v : Value) (n : Nat) (xs : List Value) (A : Option Addr) (m c : Nat) (news : List Value) (hs : a.eval s = v) (hx : a.eval x = .slice A m c) (hu : ∀ u ∈ news, u.oneCell' = true) (hown : w.ownsRow B e 1 v n xs) (hB : B ≤ w.heap.size)
    (hr : Rd w A news) (hm : news.length = m) (h63 : n + m ≤ 1048576) (hby : bytes ≤ 1024)
    (h : ∀ A' c' w', w'.ownsRow B e 1 (.slice A' (n + m) c') (n + m) (xs ++ news) → Below B w w' → K (a.put o.dst (.slice A' (n + m) c')) w') : if Region.wanted o (yielded ops a.tmps) = true then Oper.wp P o a w K Q else E := by
  have hw : Region.wanted o (yielded ops a.tmps) = true := by simp [Region.wanted, hgd]
  rw [if_pos hw]
  obtain ⟨i, hi, hzz⟩ := Option.map_eq_some_iff.1 hinfo
  simp only [Prod.mk.injEq] at hzz
  obtain ⟨hz, hsz, hb⟩ := hzz
  rcases A with _ | ad
  · have hm0 : news = [] := by
      rcases Nat.eq_zero_or_pos news.length with h0 | h0
      · exact List.eq_nil_of_length_eq_zero h0
      · obtain ⟨b, off, h1, _⟩ := hr h0; cases h1
    subst hm0
    simp at hm; subst hm
    have hrun := run_append_none (P := P) w t o.type e i ht hi hown c
    unfold Oper.wp execOp
    simp only [ho, resolve, invoke, builtin, Sem.run_bind, Sem.run_pure, Result.andThen_ok, List.map_toArray, List.map_cons, List.map_nil, hs, hx, hrun]
    obtain ⟨A', c', rfl, _, _⟩ := own_rd hown
    exact h A' c' w (by simpa using hown) (Below.refl _ _)
  · have hcells : ∀ j u, news[j]? = some u → w.cell? (ad.add j) = some u := fun j u hj => by
      have hpos : 0 < news.length := by
        rcases Nat.eq_zero_or_pos news.length with h0 | h0
        · rw [List.eq_nil_of_length_eq_zero h0] at hj; simp at hj
        · exact h0
      obtain ⟨b, off, h1, _, hc⟩ := hr hpos
      injection h1 with h1
      subst h1
      have := hc j u hj
      rw [← this]
      congr 1
      unfold Addr.add
      by_cases h0 : j = 0 <;> simp [h0]
    refine wp_append_own _ s x t ho B e i z 1 bytes ht hi hz hsz hb hzs (by decide) v n xs hs hown ad m c news hx (by omega) hcells hu ?_ ?_ hB ?_
    · simp only [maxLen]; omega
    · have := Nat.mul_le_mul h63 hby; omega
    · intro v' w' h2 h3 _
      obtain ⟨A', c', rfl, _, _⟩ := own_rd h2
      exact h A' c' w' h2 ((Below.refl _ _).grown h3 hB (fun k hk => (hown.lt k hk).1))
end Go.Proofs.Ytndnfhhdflmfcaa

/-
slices.Clone of modes, impl.copyBody.
-/
namespace Go.Proofs.Ytndnfhhdflmfcaa
open Go Go.RowKit Ieee

theorem results_cell_tmp_row {P : Program} {fn : Func} {p u : Tmp} {ty : TypeId} (h : fn.results = #[.cell p ty, .tmp u]) (tmps : Array Value) (w : World) (g : Nat) (t : TypeId) (cs : Array Value) (fr : Nat × Nat) (d : TypeDesc)
    (hp : tmps.getD p undef = .pointer (some ⟨g, 0, none⟩)) (hg : w.heap[g]? = some (.cells cs t fr))
    (hu : P.underlying ty = some d) (hd : (match d with | .struct _ | .array _ _ => true | _ => false) = true) (hi : (P.info? ty).map (·.size) = some cs.size) :
    (results fn tmps).run P w = .ok (.tuple #[.agg cs, tmps.getD u undef]) w := by
  rw [results_cell_tmp h]
  have hp' : tmps[p]?.getD undef = .pointer (some ⟨g, 0, none⟩) := by simpa using hp
  simp [hp', asAddr, run_loadVar_row w g t ty cs fr d hg hu hd hi]

theorem own_size {w : World} {base n : Nat} {e : TypeId} {v : Value} {xs : List Value} (h : w.ownsRow base e 1 v (n + 1) xs) : base < w.heap.size := by
  rcases h.2 with ⟨_, h⟩ | ⟨g, cap, cur, e1, e2, e3, e4⟩
  · omega
  · have := lt_of_some e3; omega

/-- Append of all modes of a row onto a row of the call's own. -/
theorem wpList_appM {P : Program} {w : World} {ops : Array Oper} {rest : List Oper} {o : Oper} {a : Act} {Q : Exit → Act → World → Prop} (hgd : o.guard = none) (s x : Operand) (t : TypeId)
    (ho : o.op = .call { callee := .builtin .append, args := #[s, x], argTypes := #[t, t] })
    (B : Nat) (e : TypeId) (z : Value) (bytes : Nat) (ht : P.underlying t = some (.slice e)) (hinfo : (P.info? e).map (fun i => (i.zero, i.size, i.bytes)) = some (some z, 2, bytes)) (hzs : z.cells.size = 2)
    (v : Value) (n : Nat) (xs : List Value) (b m c : Nat) (news : List Value) (hs : a.eval s = v) (hx : a.eval x = .slice (some ⟨b, 0, none⟩) m c) (hu : ∀ u ∈ news, u.oneCell' = true) (hown : w.ownsRow B e 2 v n xs) (hB : B ≤ w.heap.size)
    (hr : ∀ j u, news[j]? = some u → w.cell? ⟨b, j, none⟩ = some u) (hm : news.length = m * 2) (h63 : n + m ≤ 1048576) (hby : bytes ≤ 1024)
    (h : ∀ v' w', w'.ownsRow B e 2 v' (n + m) (xs ++ news) → Below B w w' → wpList P ops Q rest (a.put o.dst v') w') : wpList P ops Q (o :: rest) a w := by
  obtain ⟨i, hi, hzz⟩ := Option.map_eq_some_iff.1 hinfo
  simp only [Prod.mk.injEq] at hzz
  obtain ⟨hz, hsz, hb⟩ := hzz
  have hcells : ∀ j u, news[j]? = some u → w.cell? ((⟨b, 0, none⟩ : Addr).add j) = some u := fun j u hj => by
    rw [← hr j u hj]
    congr 1
    unfold Addr.add
    by_cases h0 : j = 0 <;> simp [h0]
  refine wpList_append_own _ hgd s x t ho B e i z 2 bytes ht hi hz hsz hb hzs (by decide) v n xs hs hown ⟨b, 0, none⟩ m c news hx (by omega) hcells hu ?_ ?_ hB ?_
  · simp only [maxLen]; omega
  · have := Nat.mul_le_mul h63 hby; omega
  · intro v' w' h2 h3 _
    exact h v' w' h2 ((Below.refl _ _).grown h3 hB (fun k hk => (hown.lt k hk).1))

theorem flatM_one (ms : List MW) : ∀ u ∈ flatM ms, u.oneCell' = true := fun u hu => by
  obtain ⟨m, _, h⟩ := List.mem_flatMap.1 hu
  simp [modeV] at h
  rcases h with rfl | rfl <;> rfl
theorem OwnM.flat {w : World} {lo hi b c : Nat} {ms : List MW} (h : OwnM w lo hi (some ⟨b, 0, none⟩) c ms) : ∀ j u, (flatM ms)[j]? = some u → w.cell? ⟨b, j, none⟩ = some u := fun j u hu => by
  obtain ⟨⟨h1, h2⟩, h3⟩ := h
  rcases h2 with ⟨h2, _⟩ | ⟨g, cap, cur, e1, e2, e3, e4, e5, e6, e7⟩
  · cases h2
  · injection e1 with q1 q2 q3
    injection q1 with q1
    injection q1 with q1
    subst q1
    have hj : j < ms.length * 2 := by
      rcases Nat.lt_or_ge j (flatM ms).length with h | h
      · omega
      · rw [List.getElem?_eq_none h] at hu; cases hu
    rw [cell_of_row w b j _ _ (0, 0) e3]
    rw [← e7, List.getElem?_take, if_pos hj] at hu
    simpa using hu

def CloneP (lo : Nat) (ms : List MW) (w : World) (e : Ending) (w' : World) : Prop :=
  ∃ (A' : Option Addr) (c' : Nat), e = .returned (.slice A' ms.length c') ∧ OwnM w' lo w'.heap.size A' c' ms ∧ Below w.heap.size w w'
set_option maxRecDepth 100000 in
set_option maxHeartbeats 400000 in
theorem clone_any (A : Option Addr) (c lo hi : Nat) (ms : List MW) (w : World) (h : OwnM w lo hi A c ms) (hl : ms.length ≤ 16) :
    Calls Try.prog 35 #[.slice A ms.length c] w (CloneP w.heap.size ms w) := by
  have h2 := h.1.2
  rcases h2 with ⟨h2, h0⟩ | ⟨g, cap, cur, e1, _⟩
  · injection h2 with q1 q2 q3
    subst q1 q3
    have hn : ms = [] := List.eq_nil_of_length_eq_zero h0
    subst hn
    clear h0 q2
    have hq := fun W => Lib.run_eql_slice_nil (P := Try.prog) W 23 74 none 0 0 0 0 Try.underlying23
    go_enter Try.func35, Try.ntmps35
    go_wp2_with fail
    go_ret
    exact ⟨none, 0, rfl, ⟨⟨rfl, .inl ⟨rfl, rfl⟩⟩, fun k hk => by cases hk⟩, Below.refl _ _⟩
  · injection e1 with q1 q2 q3
    subst q1 q3
    have HC : Hid (∀ o j u, (flatM ms)[j]? = some u → (w.alloc o).cell? ⟨g, j, none⟩ = some u) := fun o j u hu => by
      have hg : g < w.heap.size := h.1.lt g rfl |>.2
      exact (World.cell?_of_block (Below.heap_alloc w o g hg)).trans (h.flat j u hu)
    have own0 : (w.alloc (.cells #[] 74)).ownsRow w.heap.size 74 2 (.slice (some ⟨w.heap.size, 0, none⟩) 0 0) 0 [] := ⟨by simp, .inr ⟨w.heap.size, 0, #[], rfl, Nat.le_refl _, heap_alloc_new w _, Nat.le_refl _, by simp [maxLen], by simp, by simp⟩⟩
    have b0 : Below w.heap.size w (w.alloc (.cells #[] 74)) := (Below.refl w.heap.size w).alloc (Nat.le_refl _) _
    have hl2 : (flatM ms).length = ms.length * 2 := flatM_len ms
    have HL2 := Lib.hid hl2
    clear h hl2
    have hq := fun W => Lib.run_eql_slice_nil (P := Try.prog) W 23 74 (some ⟨g, 0, none⟩) ms.length c 0 0 Try.underlying23
    go_enter Try.func35, Try.ntmps35
    go_wp2_with (at_builtin; refine wpList_appM rfl (.tmp 5) (.tmp 6) 23 rfl w.heap.size 74 (.agg #[.complex .f32 0 0, .complex .f32 0 0]) 16 Try.underlying23 mode_info rfl (.slice (some ⟨w.heap.size, 0, none⟩) 0 0) 0 [] g ms.length c (flatM ms) rfl rfl (flatM_one ms) own0 b0.size (HC.out _) HL2.out (by omega) (by omega) ?_; intro v1 w2 hown1 hbel1)
    go_ret
    rw [Nat.zero_add, List.nil_append] at hown1
    have hv : ∃ A' c', v1 = .slice A' ms.length c' := by
      rcases hown1.2 with ⟨rfl, h0⟩ | ⟨G, cap', cur', rfl, _⟩
      · exact ⟨none, 0, by rw [h0]⟩
      · exact ⟨_, _, rfl⟩
    obtain ⟨A', c', rfl⟩ := hv
    exact ⟨A', c', rfl, OwnM.of hown1, b0.trans hbel1⟩

set_option maxRecDepth 100000 in
set_option maxHeartbeats 400000 in
theorem copyBody_any (A : Option Addr) (c lo hi : Nat) (ms : List MW) (w : World) (h : OwnM w lo hi A c ms) (hh : hi ≤ w.heap.size) (hl : ms.length ≤ 16) :
    Calls Try.prog 79 #[.agg #[.slice A ms.length c]] w fun e w' => ∃ (A' : Option Addr) (c' : Nat), e = .returned (.agg #[.slice A' ms.length c']) ∧ OwnM w' w.heap.size w'.heap.size A' c' ms ∧ Below w.heap.size w w' := by
  have HB : Hid (Below w.heap.size w ((w.alloc (.cells #[.slice A ms.length c] 62)).alloc (.cells #[.slice none 0 0] 62))) := ((Below.refl w.heap.size w).alloc (Nat.le_refl _) _).alloc (by simp) _
  have H : Hid (OwnM ((w.alloc (.cells #[.slice A ms.length c] 62)).alloc (.cells #[.slice none 0 0] 62)) lo hi A c ms) := h.below HB.out hh
  have hR : ((w.alloc (.cells #[.slice A ms.length c] 62)).alloc (.cells #[.slice none 0 0] 62)).heap[w.heap.size + 1]? = some (.cells #[.slice none 0 0] 62 (0, 0)) := by
    have := heap_alloc_new (w.alloc (.cells #[.slice A ms.length c] 62)) (.cells #[.slice none 0 0] 62)
    simpa using this
  have hsz : w.heap.size + 1 < ((w.alloc (.cells #[.slice A ms.length c] 62)).alloc (.cells #[.slice none 0 0] 62)).heap.size := by simp
  clear h
  go_enter Try.func79, Try.ntmps79
  go_wp2_with fail
  generalize (w.alloc (.cells #[.slice A ms.length c] 62)).alloc (.cells #[.slice none 0 0] 62) = W at *
  refine (clone_any A c lo hi ms _ H.out hl).mono ?_
  intro e w2 hp
  unfold CloneP at hp
  obtain ⟨A', c', rfl, ho, hb⟩ := hp
  have hR2 := (hb.block _ hsz).trans hR
  have r0 := cell_of_row w2 (w.heap.size + 1) 0 _ _ (0, 0) hR2
  have r1 : w2.frozen? ⟨w.heap.size + 1, 0, none⟩ = false := by unfold World.frozen?; simp only [hR2]; simp
  have HRes : Hid (∀ v, (w2.setCell ⟨w.heap.size + 1, 0, none⟩ v).heap[w.heap.size + 1]? = some (.cells #[v] 62 (0, 0))) := fun v => by
    simp [World.setCell, Array.getElem?_modify, hR2]
  have HB2 : Hid (Below w.heap.size w w2) := HB.out.trans (hb.mono (by omega))
  have HO : Hid (OwnM (w2.setCell ⟨w.heap.size + 1, 0, none⟩ (.slice A' ms.length c')) w.heap.size (w2.setCell ⟨w.heap.size + 1, 0, none⟩ (.slice A' ms.length c')).heap.size A' c' ms) := by
    refine OwnM.of ?_
    obtain ⟨p1, p2⟩ := ho.1
    refine ⟨p1, ?_⟩
    rcases p2 with p2 | ⟨G, cap, cur, q1, q2, q3, q4⟩
    · exact .inl p2
    · exact .inr ⟨G, cap, cur, q1, by omega, (Below.heap_setCell _ _ _ _ (by show G ≠ w.heap.size + 1; omega)).trans q3, q4⟩
  clear ho hb hR hR2
  go_wp2_with fail
  refine bodyPost_ret (results_cell_row rfl _ _ (w.heap.size + 1) 62 #[.slice A' ms.length c'] (0, 0) _ rfl (HRes.out _) Try.underlying62 rfl (by kernel_rfl)) rfl ?_
  exact ⟨A', c', rfl, HO.out, HB2.out.setCell (by show w.heap.size ≤ w.heap.size + 1; omega) _⟩
end Go.Proofs.Ytndnfhhdflmfcaa

/-
Rows of rows that a call has built by append; rooms as they lie in memory.
-/
namespace Go.Proofs.Ytndnfhhdflmfcaa
open Go Go.RowKit Ieee

theorem row_info2 : (Try.prog.info? 28).map (fun i => (i.zero, i.size, i.bytes)) = some (some (.slice none 0 0), 1, 24) := by kernel_rfl
theorem owns_stay {w w' : World} {lo n s : Nat} {e : TypeId} {v : Value} {xs : List Value} (h : w.ownsRow lo e s v n xs) (hb : ∀ k, v.ownBlock = some k → w'.heap[k]? = w.heap[k]?) : w'.ownsRow lo e s v n xs := by
  obtain ⟨h1, h2⟩ := h
  refine ⟨h1, ?_⟩
  rcases h2 with h2 | ⟨g, cap, cur, e1, e2, e3, e4⟩
  · exact .inl h2
  · exact .inr ⟨g, cap, cur, e1, e2, (hb g (by rw [e1]; rfl)).trans e3, e4⟩
theorem owns_lower {w : World} {lo lo' n s : Nat} {e : TypeId} {v : Value} {xs : List Value} (h : w.ownsRow lo e s v n xs) (hl : lo' ≤ lo) : w.ownsRow lo' e s v n xs := by
  obtain ⟨h1, h2⟩ := h
  refine ⟨h1, ?_⟩
  rcases h2 with h2 | ⟨g, cap, cur, e1, e2, e3⟩
  · exact .inl h2
  · exact .inr ⟨g, cap, cur, e1, by omega, e3⟩
/-- Rows of numbers, each in a block of its own, gathered in the row 'v'; all blocks from 'lo' on and below 'hi'. -/
structure RowsOwn (w : World) (lo hi : Nat) (v : Value) (rs : List Row) : Prop where
  own : w.ownsRow lo 28 1 v rs.length (rs.map rowV)
  vlt : ∀ k, v.ownBlock = some k → k < hi
  row : ∀ i, i < rs.length → w.ownsRow lo 31 1 (rowV (rowAt rs i)) (rowAt rs i).2.2.length (f32s (rowAt rs i).2.2) ∧ ∀ k, (rowV (rowAt rs i)).ownBlock = some k → k < hi ∧ v.ownBlock ≠ some k
theorem RowsOwn.keep {w w' : World} {lo hi : Nat} {v : Value} {rs : List Row} (h : RowsOwn w lo hi v rs) (hk : ∀ j, lo ≤ j → j < hi → w'.heap[j]? = w.heap[j]?) : RowsOwn w' lo hi v rs :=
  ⟨owns_stay h.own fun k e => hk k (h.own.lt k e).1 (h.vlt k e), h.vlt, fun i hi => ⟨owns_stay (h.row i hi).1 fun k e => hk k ((h.row i hi).1.lt k e).1 ((h.row i hi).2 k e).1, (h.row i hi).2⟩⟩
theorem RowsOwn.raise {w : World} {lo hi hi' : Nat} {v : Value} {rs : List Row} (h : RowsOwn w lo hi v rs) (hh : hi ≤ hi') : RowsOwn w lo hi' v rs :=
  ⟨h.own, fun k e => Nat.lt_of_lt_of_le (h.vlt k e) hh, fun i hi => ⟨(h.row i hi).1, fun k e => ⟨Nat.lt_of_lt_of_le ((h.row i hi).2 k e).1 hh, ((h.row i hi).2 k e).2⟩⟩⟩
theorem RowsOwn.lower {w : World} {lo lo' hi : Nat} {v : Value} {rs : List Row} (h : RowsOwn w lo hi v rs) (hl : lo' ≤ lo) : RowsOwn w lo' hi v rs := ⟨owns_lower h.own hl, h.vlt, fun i hi => ⟨owns_lower (h.row i hi).1 hl, (h.row i hi).2⟩⟩
theorem RowsOwn.nil (w : World) (lo hi : Nat) : RowsOwn w lo hi (.slice none 0 0) [] := ⟨⟨rfl, .inl ⟨rfl, rfl⟩⟩, fun k h => by (cases h), fun i hi => absurd hi (Nat.not_lt_zero _)⟩
theorem rowAt_snoc {rs : List Row} {r : Row} {i : Nat} (hi : i < rs.length) : rowAt (rs ++ [r]) i = rowAt rs i := by
  unfold rowAt
  simp only [List.getD]; rw [List.getElem?_append_left hi]
theorem rowAt_last {rs : List Row} {r : Row} : rowAt (rs ++ [r]) rs.length = r := by
  unfold rowAt
  simp
/-- A row appended. -/
theorem RowsOwn.app {w w' : World} {lo lo1 hi g cap : Nat} {v : Value} {rs : List Row} {r : Row} (h : RowsOwn w lo hi v rs) (h1 : lo ≤ lo1) (h2 : hi ≤ lo1) (hr : w.ownsRow lo1 31 1 (rowV r) r.2.2.length (f32s r.2.2))
    (hown : w'.ownsRow lo 28 1 (.slice (some ⟨g, 0, none⟩) (rs.length + 1) cap) (rs.length + 1) (rs.map rowV ++ [rowV r])) (hg : w.grownBy w' v.ownBlock) (hor : v.ownBlock = some g ∨ w.heap.size ≤ g) (hlt : g < w'.heap.size) (hh : hi ≤ w.heap.size) :
    RowsOwn w' lo w'.heap.size (.slice (some ⟨g, 0, none⟩) (rs.length + 1) cap) (rs ++ [r]) := by
  refine ⟨by simpa using hown, fun k e => ?_, fun i hi => ?_⟩
  · injection e with e
    subst e; exact hlt
  · have hsz := hg.size
    rcases Nat.lt_or_ge i rs.length with hi' | hi'
    · rw [rowAt_snoc hi']
      obtain ⟨o, b⟩ := h.row i hi'
      refine ⟨owns_stay o fun k e => hg.block k (by have := (b k e).1; omega) (fun q => (b k e).2 q.symm), fun k e => ⟨by have := (b k e).1; omega, fun q => ?_⟩⟩
      injection q with q
      rcases hor with hor | hor
      · exact (b k e).2 (by rw [hor, ← q])
      · have q' : g = k := q
        have := (b k e).1; omega
    · have hn : i = rs.length := by simp at hi; omega
      subst hn
      rw [rowAt_last]
      have ne : ∀ k, (rowV r).ownBlock = some k → v.ownBlock ≠ some k := fun k e q => by have := h.vlt k q; have := (hr.lt k e).1; omega
      refine ⟨owns_lower (owns_stay hr fun k e => hg.block k (hr.lt k e).2 (fun q => ne k e q.symm)) h1, fun k e => ⟨by have := (hr.lt k e).2; omega, fun q => ?_⟩⟩
      injection q with q
      have q' : g = k := q
      rcases hor with hor | hor
      · exact ne k e (by rw [hor, q'])
      · have := (hr.lt k e).2; omega
theorem RowsOwn.form {w : World} {lo hi : Nat} {v : Value} {rs : List Row} (h : RowsOwn w lo hi v rs) : ∃ A c, v = .slice A rs.length c ∧ RdSS w A rs ∧ ((A = none ∧ rs.length = 0 ∧ c = 0) ∨ ∃ g, A = some ⟨g, 0, none⟩ ∧ rs.length ≤ c ∧ c ≤ maxLen) := by
  obtain ⟨A, c, hv, _, hr⟩ := own_rd h.own
  refine ⟨A, c, hv, ⟨hr, fun i hi => ?_⟩, ?_⟩
  · obtain ⟨o, _⟩ := h.row i hi
    obtain ⟨A', c', q, _, rd⟩ := own_rd o
    unfold rowV at q
    injection q with q1 _ _
    rw [q1]; exact rd
  · rcases h.own.2 with ⟨q, h0⟩ | ⟨g, cap, cur, q, _, _, h1, h2, _⟩
    · rw [hv] at q
      injection q with q1 q2 q3
      exact .inl ⟨q1, h0, q3⟩
    · rw [hv] at q
      injection q with q1 q2 q3
      exact .inr ⟨g, q1, by omega, by omega⟩

/-- Rows of weights, one for each mode. -/
def Shaped (ms : List MW) (rs : List Row) : Prop := ∀ i, i < rs.length → (rowAt rs i).2.2.length = ms.length ∧ ∀ k, k < ms.length → Wt ((rowAt rs i).2.2.getD k 0)
def roomV (A : Option Addr) (c : Nat) (ms : List MW) (B : Option Addr) (d : Nat) (rs : List Row) : Value := .agg #[.slice A ms.length c, .slice B rs.length d]
/-- A valid room. -/
structure RoomIn (w : World) (lo hi : Nat) (A : Option Addr) (c : Nat) (ms : List MW) (B : Option Addr) (rs : List Row) : Prop where
  own : OwnM w lo hi A c ms
  hh : hi ≤ w.heap.size
  rows : RdSS w B rs
theorem RoomIn.below {w w' : World} {lo hi : Nat} {A : Option Addr} {c : Nat} {ms : List MW} {B : Option Addr} {rs : List Row} (h : RoomIn w lo hi A c ms B rs) (hb : Below w.heap.size w w') : RoomIn w' lo hi A c ms B rs :=
  ⟨h.own.below hb h.hh, Nat.le_trans h.hh hb.size, h.rows.below hb⟩
theorem RoomIn.drewN {w : World} {lo hi : Nat} {A : Option Addr} {c : Nat} {ms : List MW} {B : Option Addr} {rs : List Row} (h : RoomIn w lo hi A c ms B rs) (n : Nat) : RoomIn (w.drewN n) lo hi A c ms B rs := h.below (below_drewN (Below.refl _ _) n)
structure RoomOk (ms : List MW) (rs : List Row) (m n : Nat) : Prop where
  ok : ModesOk ms
  lm : ms.length ≤ m
  ln : rs.length ≤ n
  sh : Shaped ms rs
theorem r_cells {W : World} {M : Nat} {x y : Value} {t : TypeId} (h : W.heap[M]? = some (.cells #[x, y] t (0, 0))) :
    W.cell? ⟨M, 0, none⟩ = some x ∧ W.cell? ⟨M, 1, none⟩ = some y ∧ W.frozen? ⟨M, 0, none⟩ = false ∧ W.frozen? ⟨M, 1, none⟩ = false :=
  ⟨cell_of_row W M 0 _ _ (0, 0) h, cell_of_row W M 1 _ _ (0, 0) h, by unfold World.frozen?; simp only [h]; simp, by unfold World.frozen?; simp only [h]; simp⟩
end Go.Proofs.Ytndnfhhdflmfcaa

/-
Damped modes are valid. (Plain arithmetic.)
-/
namespace Go.Proofs.Ytndnfhhdflmfcaa
open Go Ieee

/-- A mode whose pole is scaled. -/
def dampM (f : Nat) (m : MW) : MW := (fo .mul .f32 m.1 f, fo .mul .f32 m.2.1 f, m.2.2.1, m.2.2.2)
/-- A factor that is 1, or at most 255/256. -/
structure FacOk (f : Nat) : Prop where
  ff : fin .f32 f
  wf : wfk .f32 f
  lo : 0 ≤ fv .f32 f
  hi : f = 1065353216 ∨ fv .f32 f ≤ 255 / 256
theorem FacOk.le {f : Nat} (h : FacOk f) : fv .f32 f ≤ 1 := by
  rcases h.hi with e | e
  · rw [e, one32.2]; exact Rat.le_refl
  · grind
theorem dampM_one {m : MW} (hm : ModeOk m.1 m.2.1 m.2.2.1 m.2.2.2) : dampM 1065353216 m = m := by
  unfold dampM
  rw [mul_one (fin_of_wid hm.fa) hm.wa, mul_one (fin_of_wid hm.fb) hm.wb]
theorem damp_part {a f : Nat} (fa : fin .f32 a) (la : ab (fv .f32 a) ≤ 1 + 1 / 2 ^ 40) (hf : fin .f32 f) (h0 : 0 ≤ fv .f32 f) (h1 : fv .f32 f ≤ 255 / 256) :
    fin .f32 (fo .mul .f32 a f) ∧ fv .f32 (fo .mul .f32 a f) * fv .f32 (fo .mul .f32 a f) ≤ fv .f32 a * fv .f32 a * (511 / 512) + 1 / 2 ^ 100 ∧ ab (fv .f32 (fo .mul .f32 a f)) ≤ 2 := by
  obtain ⟨u1, u2, _⟩ := consts32
  have ht2 := top32
  have n1 := ab_nonneg (fv .f32 a)
  have hf' : ab (fv .f32 f) ≤ 255 / 256 := by rw [ab_of_nonneg h0]; exact h1
  have p := Rat.mul_le_mul_of_nonneg_left hf' n1
  have hp : ab (fv .f32 a * fv .f32 f) ≤ ab (fv .f32 a) * (255 / 256) := by rw [ab_mul]; exact p
  have hm := mul_spec fa hf (by grind)
  have e := hm.2.1
  rw [u1] at e
  have t := ab_tri (fv .f32 (fo .mul .f32 a f)) (fv .f32 a * fv .f32 f)
  have hr : ab (fv .f32 (fo .mul .f32 a f)) ≤ ab (fv .f32 a) * (255 / 256 + 1 / 2 ^ 20) + 1 / 2 ^ 149 := by grind
  have sq := sq_le_of_ab hr
  have ea := ab_sq (fv .f32 a)
  refine ⟨hm.1, ?_, by grind⟩
  have n2 := Rat.mul_le_mul_of_nonneg_left la n1
  have n3 := sq_nonneg (ab (fv .f32 a))
  rw [ea] at n3
  generalize ab (fv .f32 a) = A at *
  grind
theorem damp_sum {r s : Nat} {V : Rat} (fr : fin .f32 r) (fs : fin .f32 s) (h : fv .f32 r * fv .f32 r + fv .f32 s * fv .f32 s ≤ V) (hV : V ≤ 1 - 1 / 2 ^ 20) :
    fle .f64 (fo .add .f64 (fo .mul .f64 (wid r) (wid r)) (fo .mul .f64 (wid s) (wid s))) 4607182418800017408 = true := by
  obtain ⟨a1, a2⟩ := wid_fin fr
  obtain ⟨b1, b2⟩ := wid_fin fs
  obtain ⟨k1, k2, k3⟩ := consts64
  have q1 := sq_nonneg (fv .f32 r)
  have q2 := sq_nonneg (fv .f32 s)
  have t1 : ab (fv .f64 (wid r) * fv .f64 (wid r)) = fv .f32 r * fv .f32 r := by rw [a2, ab_of_nonneg q1]
  have t2 : ab (fv .f64 (wid s) * fv .f64 (wid s)) = fv .f32 s * fv .f32 s := by rw [b2, ab_of_nonneg q2]
  have m1 := mul_spec a1 a1 (by rw [t1]; grind)
  have m2 := mul_spec b1 b1 (by rw [t2]; grind)
  have e1 := m1.2.1
  have e2 := m2.2.1
  rw [t1, k1] at e1
  rw [t2, k1] at e2
  rw [a2] at e1
  rw [b2] at e2
  have l1 := le_ab (fv .f64 (fo .mul .f64 (wid r) (wid r)) - fv .f32 r * fv .f32 r)
  have l2 := le_ab (fv .f64 (fo .mul .f64 (wid s) (wid s)) - fv .f32 s * fv .f32 s)
  have bd : ab (fv .f64 (fo .mul .f64 (wid r) (wid r)) + fv .f64 (fo .mul .f64 (wid s) (wid s))) ≤ 1 - 1 / 2 ^ 22 := ab_le (by grind) (by grind)
  have ad := add_spec m1.1 m2.1 (by grind)
  have e3 := ad.2.1
  rw [k1] at e3
  have l3 := le_ab (fv .f64 (fo .add .f64 (fo .mul .f64 (wid r) (wid r)) (fo .mul .f64 (wid s) (wid s))) - (fv .f64 (fo .mul .f64 (wid r) (wid r)) + fv .f64 (fo .mul .f64 (wid s) (wid s))))
  have l4 := le_ab (fv .f64 (fo .mul .f64 (wid r) (wid r)) + fv .f64 (fo .mul .f64 (wid s) (wid s)))
  refine (fle_iff ad.1 one_val.1).2 ?_
  rw [one_val.2]
  grind
theorem damp_ok {f : Nat} {m : MW} (hm : ModeOk m.1 m.2.1 m.2.2.1 m.2.2.2) (hf : FacOk f) : ModeOk (dampM f m).1 (dampM f m).2.1 (dampM f m).2.2.1 (dampM f m).2.2.2 := by
  rcases hf.hi with rfl | h1
  · rw [dampM_one hm]; exact hm
  obtain ⟨p1, p2⟩ := pole_le hm
  have hsq := hm.square
  obtain ⟨f1, s1, _⟩ := damp_part (fin_of_wid hm.fa) p1 hf.ff hf.lo h1
  obtain ⟨f2, s2, _⟩ := damp_part (fin_of_wid hm.fb) p2 hf.ff hf.lo h1
  have hs : fv .f32 (fo .mul .f32 m.1 f) * fv .f32 (fo .mul .f32 m.1 f) + fv .f32 (fo .mul .f32 m.2.1 f) * fv .f32 (fo .mul .f32 m.2.1 f) ≤ 1 - 1 / 2 ^ 20 := by grind
  exact ⟨fo_lt _ _ _ _, fo_lt _ _ _ _, hm.wc, hm.wd, (wid_fin f1).1, (wid_fin f2).1, hm.fc, hm.fd, damp_sum f1 f2 hs Rat.le_refl, hm.gain⟩
theorem damps_ok {f : Nat} {ms : List MW} (hm : ModesOk ms) (hf : FacOk f) : ModesOk (ms.map (dampM f)) := fun m h => by
  obtain ⟨m', h1, rfl⟩ := List.mem_map.1 h
  exact damp_ok (hm m' h1) hf
theorem damps_one {ms : List MW} (hm : ModesOk ms) : ms.map (dampM 1065353216) = ms := by
  have : ms.map (dampM 1065353216) = ms.map id := List.map_congr_left fun m h => dampM_one (hm m h)
  rw [this, List.map_id]

/-- A byte by 255. -/
def fac (q : Int) : Nat := fo .quo .f32 (floatOfInt .f32 q) 1132396544
def facOk (f : Nat) : Bool := (match FloatKind.f32.format.read f with | .number _ _ _ => true | _ => false) && fge .f32 f 0 && (f == 1065353216 || fle .f32 f 1065287680)
theorem facs : (List.range 256).all (fun (q : Nat) => facOk (fac (q : Int))) = true := by decide +kernel
theorem fac_ok {q : Int} (h0 : 0 ≤ q) (h1 : q ≤ 255) : FacOk (fac q) := by
  obtain ⟨n, rfl⟩ : ∃ n : Nat, q = n := ⟨q.toNat, by omega⟩
  have h := List.all_eq_true.1 facs n (List.mem_range.2 (by omega))
  unfold facOk at h
  simp only [Bool.and_eq_true, Bool.or_eq_true, beq_iff_eq] at h
  obtain ⟨⟨h2, h3⟩, h4⟩ := h
  have ff : fin .f32 (fac (n : Int)) := by
    split at h2
    · exact ⟨_, _, _, ‹_›⟩
    · cases h2
  have hr : FloatKind.f32.format.read 1065287680 = .number false 16711680 (-24) := by decide +kernel
  obtain ⟨c1, c2⟩ := fin_of_read hr
  refine ⟨ff, fo_lt _ _ _ _, ?_, ?_⟩
  · have := (fge_iff ff (zero_fin .f32).1).1 h3
    rwa [(zero_fin .f32).2] at this
  · rcases h4 with h4 | h4
    · exact .inl h4
    · have := (fle_iff ff c1).1 h4
      rw [c2, dval_num] at this
      have e : mval 16711680 (-24) = 255 / 256 := by unfold mval pw; grind
      rw [e] at this
      exact .inr (by simpa using this)
end Go.Proofs.Ytndnfhhdflmfcaa

/-
impl.DampBody at a valid body and a factor from 0 to 1.
-/
namespace Go.Proofs.Ytndnfhhdflmfcaa
open Go Go.RowKit Ieee

/-- The first k modes are damped. -/
def Damped (f : Nat) (ms : List MW) (k : Nat) (L : List MW) : Prop := L.length = ms.length ∧ ∀ i, i < ms.length → mAt L i = if i < k then dampM f (mAt ms i) else mAt ms i
theorem Damped.zero (f : Nat) (ms : List MW) : Damped f ms 0 ms := ⟨rfl, fun i _ => by rw [if_neg (by omega)]⟩
theorem mAt_set {L : List MW} {k i : Nat} {m : MW} (hk : k < L.length) : mAt (L.set k m) i = if i = k then m else mAt L i := by
  unfold mAt
  simp only [List.getD, List.getElem?_set]
  by_cases e : i = k
  · subst e; simp [hk]
  · rw [if_neg (fun h => e h.symm), if_neg e]
theorem Damped.set {f : Nat} {ms L : List MW} {k : Nat} (h : Damped f ms k L) (hk : k < ms.length) : Damped f ms (k + 1) (L.set k (dampM f (mAt ms k))) := by
  refine ⟨by simpa using h.1, fun i hi => ?_⟩
  rw [mAt_set (by rw [h.1]; exact hk)]
  by_cases e : i = k
  · subst e; rw [if_pos rfl, if_pos (by omega)]
  · rw [if_neg e, h.2 i hi]
    by_cases e' : i < k
    · rw [if_pos e', if_pos (by omega)]
    · rw [if_neg e', if_neg (by omega)]
theorem Damped.done {f : Nat} {ms L : List MW} (h : Damped f ms ms.length L) : L = ms.map (dampM f) := by
  refine List.ext_getElem (by simpa using h.1) fun i h1 h2 => ?_
  have hi : i < ms.length := by rw [← h.1]; exact h1
  have := h.2 i hi
  rw [if_pos hi] at this
  simpa [mAt, List.getD, List.getElem?_eq_getElem h1, List.getElem?_eq_getElem hi] using this
theorem flatM_set (L : List MW) (k p q : Nat) (hk : k < L.length) : flatM (L.set k (p, q, (mAt L k).2.2)) = (flatM L).set (k * 2) (.complex .f32 p q) := by
  induction L generalizing k with
  | nil => simp at hk
  | cons m L ih =>
    cases k with
    | zero => simp [flatM, modeV, mAt]
    | succ k =>
      have := ih k (by simpa using hk)
      have e : (k + 1) * 2 = k * 2 + 1 + 1 := by omega
      rw [e]
      simp only [flatM, modeV, List.set_cons_succ, List.flatMap_cons, List.cons_append, List.nil_append] at this ⊢
      have em : mAt (m :: L) (k + 1) = mAt L k := by simp [mAt, List.getD]
      rw [em, this]
/-- A pole is stored in a row of modes. -/
theorem OwnM.setPole {w : World} {lo hi b c k p q : Nat} {L : List MW} (h : OwnM w lo hi (some ⟨b, 0, none⟩) c L) (hk : k < L.length) :
    OwnM (w.setCell ⟨b, k * 2, none⟩ (.complex .f32 p q)) lo hi (some ⟨b, 0, none⟩) c (L.set k (p, q, (mAt L k).2.2)) := by
  obtain ⟨⟨h1, h2⟩, h3⟩ := h
  rcases h2 with ⟨h2, _⟩ | ⟨g, cap, cur, e1, e2, e3, e4, e5, e6, e7⟩
  · cases h2
  injection e1 with q1 q2 q3
  injection q1 with q1
  injection q1 with q1
  subst q1 q3
  have hl : (L.set k (p, q, (mAt L k).2.2)).length = L.length := by simp
  refine ⟨⟨by rw [flatM_len], .inr ⟨b, c, cur.setIfInBounds (k * 2) (.complex .f32 p q), by rw [hl], e2, ?_, by rw [hl]; exact e4, e5, by simpa using e6, ?_⟩⟩, fun j hj => h3 j (by simpa [Value.ownBlock] using hj)⟩
  · simp [World.setCell, Array.getElem?_modify, e3]
  · rw [hl, flatM_set L k p q hk, ← e7]
    apply List.ext_getElem?
    intro i
    simp only [List.getElem?_take, List.getElem?_set, Array.toList_setIfInBounds, List.length_take]
    have hsz : cur.toList.length = c * 2 := by simpa using e6
    by_cases hi : i < L.length * 2
    · simp only [hi, if_true]
      by_cases e : k * 2 = i
      · subst e
        rw [if_pos rfl, if_pos rfl, if_pos (by omega), if_pos (by omega)]
      · rw [if_neg e, if_neg e]
    · simp only [hi, if_false]
      rw [if_neg (by omega)]
theorem OwnM.frozen {w : World} {lo hi b c : Nat} {L : List MW} (h : OwnM w lo hi (some ⟨b, 0, none⟩) c L) (k : Nat) : w.frozen? ⟨b, k, none⟩ = false := by
  obtain ⟨⟨h1, h2⟩, h3⟩ := h
  rcases h2 with ⟨h2, _⟩ | ⟨g, cap, cur, e1, e2, e3, e4, e5, e6, e7⟩
  · cases h2
  injection e1 with q1 q2 q3
  injection q1 with q1
  injection q1 with q1
  subst q1
  unfold World.frozen?; simp only [e3]; simp

/-- The words of a damped pole are numbers. -/
theorem damp_fin {f : Nat} {m : MW} (hm : ModeOk m.1 m.2.1 m.2.2.1 m.2.2.2) (hf : FacOk f) : fin .f32 (fo .mul .f32 m.1 f) ∧ fin .f32 (fo .mul .f32 m.2.1 f) := by
  have := damp_ok hm hf
  exact ⟨fin_of_wid this.fa, fin_of_wid this.fb⟩
end Go.Proofs.Ytndnfhhdflmfcaa

/-
impl.DampBody: the walk.
-/
namespace Go.Proofs.Ytndnfhhdflmfcaa
open Go Go.RowKit Ieee

theorem OwnM.keepOut {w : World} {lo hi g : Nat} {v : Value} {A : Option Addr} {c : Nat} {L : List MW} (h : OwnM w lo hi A c L) (hg : g < lo) : OwnM (w.setCell ⟨g, 0, none⟩ v) lo hi A c L := by
  refine h.keep fun j hj _ => Below.heap_setCell _ _ _ _ (by show j ≠ g; omega)
theorem OwnM.low {w : World} {lo lo' hi hi' : Nat} {A : Option Addr} {c : Nat} {L : List MW} (h : OwnM w lo hi A c L) (h1 : lo' ≤ lo) (h2 : hi ≤ hi') : OwnM w lo' hi' A c L :=
  ⟨⟨h.1.1, by
    rcases h.1.2 with q | ⟨g, cap, cur, e1, e2, e3⟩
    · exact .inl q
    · exact .inr ⟨g, cap, cur, e1, by omega, e3⟩⟩, fun k hk => by have := h.2 k hk; omega⟩

end Go.Proofs.Ytndnfhhdflmfcaa

/-
spec.l4Room, spec.MakeRoom: a valid room.
-/
namespace Go.Proofs.Ytndnfhhdflmfcaa
open Go Go.RowKit Ieee

/-- The state of spec.l4Room. -/
structure RLt (w wr : World) (g q L : Nat) (A : Option Addr) (c : Nat) (ms : List MW) (v : Value) (rs : List Row) : Prop where
  cur : Cur wr g
  gr : w.grownBy wr (some g)
  hg : g < w.heap.size
  q0 : w.heap.size < q
  qL : q < L
  Ls : L ≤ wr.heap.size
  r : wr.heap[w.heap.size]? = some (.cells #[.slice none 0 0, .slice none 0 0] 26 (0, 0))
  b : wr.heap[q]? = some (.cells #[.slice A ms.length c, v] 26 (0, 0))
  own : OwnM wr (w.heap.size + 1) q A c ms
  rows : RowsOwn wr (q + 1) L v rs
  sh : Shaped ms rs
section
variable {w wr wr' : World} {g q L : Nat} {A : Option Addr} {c : Nat} {ms : List MW} {v : Value} {rs : List Row}
theorem RLt.keep (h : RLt w wr g q L A c ms v rs) (hcur : Cur wr' g) (hgr : w.grownBy wr' (some g)) (hs : L ≤ wr'.heap.size) (hk : ∀ j, j < L → j ≠ g → wr'.heap[j]? = wr.heap[j]?) : RLt w wr' g q L A c ms v rs := by
  have hg := h.hg
  have q0 := h.q0
  have qL := h.qL
  exact ⟨hcur, hgr, hg, q0, qL, hs, (hk _ (by omega) (by omega)).trans h.r, (hk _ (by omega) (by omega)).trans h.b, h.own.keep fun j h1 h2 => hk j (by omega) (by omega), h.rows.keep fun j h1 h2 => hk j (by omega) (by omega), h.sh⟩
theorem RLt.step (h : RLt w wr g q L A c ms v rs) (s : CurStep wr wr' g) : RLt w wr' g q L A c ms v rs :=
  h.keep s.1 (grown_trans h.gr s.2) (Nat.le_trans h.Ls s.2.size) fun j hj hn => s.2.block j (Nat.lt_of_lt_of_le hj h.Ls) (by intro e; injection e with e; exact hn e)
theorem RLt.below {B : Nat} (h : RLt w wr g q L A c ms v rs) (hb : Below B wr wr') (hB : L ≤ B) : RLt w wr' g q L A c ms v rs := by
  have hg := h.hg
  have q0 := h.q0
  have qL := h.qL
  exact h.keep (h.cur.below hb (by omega)) ⟨hb.os.trans h.gr.os, hb.tape.trans h.gr.tape, hb.output.trans h.gr.output, Nat.le_trans h.gr.size hb.size, fun i hi hn => (hb.block i (by omega)).trans (h.gr.block i hi hn)⟩ (Nat.le_trans h.Ls hb.size) fun j hj _ => hb.block j (by omega)
theorem RLt.raise (h : RLt w wr g q L A c ms v rs) : RLt w wr g q wr.heap.size A c ms v rs :=
  ⟨h.cur, h.gr, h.hg, h.q0, Nat.lt_of_lt_of_le h.qL h.Ls, Nat.le_refl _, h.r, h.b, h.own, h.rows.raise h.Ls, h.sh⟩
theorem RLt.cells (h : RLt w wr g q L A c ms v rs) : wr.cell? ⟨q, 0, none⟩ = some (.slice A ms.length c) ∧ wr.cell? ⟨q, 1, none⟩ = some v ∧ wr.frozen? ⟨q, 0, none⟩ = false ∧ wr.frozen? ⟨q, 1, none⟩ = false := r_cells h.b
/-- A row appended, and the slice stored. -/
theorem RLt.app {lo1 g' cap : Nat} {r : Row} {o : Obj} (h : RLt w wr g q L A c ms v rs) (hl : L ≤ lo1) (hr : wr.ownsRow lo1 31 1 (rowV r) r.2.2.length (f32s r.2.2)) (h1 : r.2.2.length = ms.length) (h2 : ∀ k, k < ms.length → Wt (r.2.2.getD k 0))
    (hown : wr'.ownsRow (q + 1) 28 1 (.slice (some ⟨g', 0, none⟩) (rs.length + 1) cap) (rs.length + 1) (rs.map rowV ++ [rowV r])) (hg : (wr.alloc o).grownBy wr' v.ownBlock) (hor : v.ownBlock = some g' ∨ g' = wr.heap.size + 1) (hlt : g' < wr'.heap.size) :
    RLt w (wr'.setCell ⟨q, 1, none⟩ (.slice (some ⟨g', 0, none⟩) (rs.length + 1) cap)) g q (wr'.setCell ⟨q, 1, none⟩ (.slice (some ⟨g', 0, none⟩) (rs.length + 1) cap)).heap.size A c ms (.slice (some ⟨g', 0, none⟩) (rs.length + 1) cap) (rs ++ [r]) := by
  have hg0 := h.hg
  have q0 := h.q0
  have qL := h.qL
  have Ls := h.Ls
  have G : wr.grownBy wr' v.ownBlock := grown_trans (b := wr.alloc o) ⟨rfl, rfl, rfl, by simp, fun i hi _ => Below.heap_alloc wr o i hi⟩ hg
  have hs := G.size
  have far : ∀ j, j ≤ q → some j ≠ v.ownBlock := fun j hj e => by have := (h.rows.own.lt j e.symm).1; omega
  have k : ∀ j, j ≠ q → (wr'.setCell ⟨q, 1, none⟩ (.slice (some ⟨g', 0, none⟩) (rs.length + 1) cap)).heap[j]? = wr'.heap[j]? := fun j hj => Below.heap_setCell _ _ _ _ hj
  have hb1 : wr'.heap[q]? = some (.cells #[.slice A ms.length c, v] 26 (0, 0)) := (G.block q (by omega) (far q (Nat.le_refl _))).trans h.b
  have R := RowsOwn.app (w := wr) (w' := wr') (lo := q + 1) (lo1 := lo1) (hi := L) h.rows (by omega) hl hr hown G (hor.imp id fun e => by omega) hlt Ls
  refine ⟨cur_set (h.cur.grown G fun k e => by have := (h.rows.own.lt k e).1; omega) _ _ _ (by omega) (by omega), ?_, hg0, q0, by simp; omega, Nat.le_refl _, ?_, ?_, ?_, ?_, ?_⟩
  · exact grown_set' ⟨G.os.trans h.gr.os, G.tape.trans h.gr.tape, G.output.trans h.gr.output, Nat.le_trans h.gr.size hs, fun i hi hn => (G.block i (by have := h.gr.size; omega) (far i (by omega))).trans (h.gr.block i hi hn)⟩ (by omega)
  · exact (k _ (by omega)).trans ((G.block _ (by omega) (far _ (by omega))).trans h.r)
  · simp [World.setCell, Array.getElem?_modify, hb1]
  · exact h.own.keep fun j j1 j2 => (k j (by omega)).trans (G.block j (by omega) (far j (by omega)))
  · exact (R.keep fun j j1 j2 => k j (by omega)).raise (by simp)
  · intro i hi
    rcases Nat.lt_or_ge i rs.length with hi' | hi'
    · rw [rowAt_snoc hi']; exact h.sh i hi'
    · have hn : i = rs.length := by simp at hi; omega
      subst hn
      rw [rowAt_last]; exact ⟨h1, h2⟩
end
/-- What l4Room and MakeRoom return. -/
def RoomPost (most : Nat) (w : World) (e : Ending) (w' : World) : Prop :=
  ∃ (A : Option Addr) (c : Nat) (ms : List MW) (B : Option Addr) (d : Nat) (rs : List Row), e = .returned (roomV A c ms B d rs) ∧ (OwnM w' w.heap.size w'.heap.size A c ms ∧ RowsOwn w' w.heap.size w'.heap.size (.slice B rs.length d) rs) ∧ RoomOk ms rs most 4
theorem getD_snoc {xs : List Nat} {x k : Nat} (hk : k < xs.length) : (xs ++ [x]).getD k 0 = xs.getD k 0 := by
  simp only [List.getD]; rw [List.getElem?_append_left hk]
theorem wts_snoc {xs : List Nat} {x : Nat} (h : ∀ k, k < xs.length → Wt (xs.getD k 0)) (hx : Wt x) : ∀ k, k < (xs ++ [x]).length → Wt ((xs ++ [x]).getD k 0) := fun k hk => by
  rcases Nat.lt_or_ge k xs.length with h1 | h1
  · rw [getD_snoc h1]; exact h k h1
  · have hn : k = xs.length := by simp at hk; omega
    subst hn
    have : (xs ++ [x]).getD xs.length 0 = x := by simp
    rw [this]; exact hx

set_option maxRecDepth 100000 in
set_option maxHeartbeats 1600000 in
theorem l4Room_any (g : Nat) (most : Nat) (w : World) (h : Cur w g) (h1 : most ≤ 4) :
    Calls Try.prog 25 #[.pointer (some ⟨g, 0, none⟩), .int .i64 most] w fun e w' => RoomPost most w e w' ∧ CurStep w w' g := by
  have hgl := h.lt
  have C0 : Hid (Cur (w.alloc (.cells #[.slice none 0 0, .slice none 0 0] 26)) g) := h.alloc _
  have G0 : Hid (w.grownBy (w.alloc (.cells #[.slice none 0 0, .slice none 0 0] 26)) (some g)) := ⟨rfl, rfl, rfl, by simp, fun i hi _ => Below.heap_alloc _ _ i hi⟩
  have R0 : Hid ((w.alloc (.cells #[.slice none 0 0, .slice none 0 0] 26)).heap[w.heap.size]? = some (.cells #[.slice none 0 0, .slice none 0 0] 26 (0, 0))) := heap_alloc_new w _
  have Z0 : (w.alloc (.cells #[.slice none 0 0, .slice none 0 0] 26)).heap.size = w.heap.size + 1 := by simp
  have hfd : ∀ (W : World) (A : Option Addr) (n c : Nat), (Instr.field 62 (.agg #[.slice A n c]) 0).run Try.prog W = .ok (.slice A n c) W := fun _ _ _ _ => by kernel_rfl
  clear h
  go_enter Try.func25, Try.ntmps25
  go_wp2_with fail
  generalize w.alloc (.cells #[.slice none 0 0, .slice none 0 0] 26) = W0 at *
  refine (l2Body_any g most W0 C0.out (by omega) (by omega)).mono ?_
  rintro e W1 ⟨⟨A, c, ms, rfl, ho, hok, hl⟩, s1⟩
  rw [Z0] at ho
  have HO := Lib.hid ho
  have HK := Lib.hid hok
  have hlm : ms.length ≤ most := by omega
  have C1 := Lib.hid s1.1
  have G1 := Lib.hid (grown_trans G0.out s1.2)
  have R1 := Lib.hid ((s1.2.block w.heap.size (by omega) (by intro e; injection e with e; omega)).trans R0.out)
  have hs1 := s1.2.size
  clear ho hok hl s1 C0 G0 R0
  have S0 : Hid (RLt w (W1.alloc (.cells #[.slice A ms.length c, .slice none 0 0] 26)) g W1.heap.size (W1.heap.size + 1) A c ms (.slice none 0 0) []) :=
    ⟨C1.out.alloc _, grown_trans G1.out ⟨rfl, rfl, rfl, by simp, fun i hi _ => Below.heap_alloc W1 _ i hi⟩, hgl, by omega, by omega, by simp, (Below.heap_alloc W1 _ _ (by omega)).trans R1.out, heap_alloc_new W1 _,
      ((OwnM.of HO.out).below ((Below.refl W1.heap.size W1).alloc (Nat.le_refl _) _) (Nat.le_refl _)).low (by omega) (Nat.le_refl _), RowsOwn.nil _ _ _, fun i hi => absurd hi (Nat.not_lt_zero _)⟩
  clear HO C1 G1 R1
  go_wp2_with fail
  generalize W1.alloc (.cells #[.slice A ms.length c, .slice none 0 0] 26) = W2 at *
  generalize W1.heap.size = q at *
  refine (below_any g 5 _ S0.out.cur (by omega) (by omega)).mono ?_
  rintro e W3 ⟨k0, rfl, ⟨hk0, hk1⟩, s3⟩
  have S3 := Lib.hid (S0.out.step s3)
  clear S0 s3
  go_wp2_with fail
  go_loopw [6, 7] (fun kk _ wr => ∃ (j : Int) (v : Value) (rs : List Row) (L : Nat), kk = .int .i64 j ∧ 0 ≤ j ∧ j + rs.length ≤ 4 ∧ Hid (RLt w wr g q L A c ms v rs)) (fun kk _ _ => (intOf kk).toNat)
  case atStart => exact ⟨k0, _, [], _, rfl, hk0, by simp; omega, S3⟩
  case round =>
    obtain ⟨j, v, rs, L, rfl, hj0, hjm, hS⟩ := hrel
    by_cases hp : 0 < j
    · have S4 : Hid (RLt w (wr.alloc (.cells #[] 31)) g q L A c ms v rs) := hS.out.below ((Below.refl wr.heap.size wr).alloc (Nat.le_refl _) _) hS.out.Ls
      have O4 := owns_empty wr 31
      have Z4 : wr.heap.size + 1 ≤ (wr.alloc (.cells #[] 31)).heap.size := by simp
      have hLs := hS.out.Ls
      have hqB := Nat.lt_of_lt_of_le hS.out.qL hLs
      have c4 := S4.out.cells
      obtain ⟨c5, _, _, _⟩ := c4
      clear hS
      go_wp2_with fail
      generalize wr.alloc (.cells #[] 31) = W4 at *
      generalize wr.heap.size = B at *
      go_loopw [7, 23] (fun vv i wr => ∃ (k : Nat) (xs : List Nat), i = .int .i64 (k : Int) ∧ k ≤ ms.length ∧ xs.length = k ∧ Hid (∀ k, k < xs.length → Wt (xs.getD k 0)) ∧ wr.ownsRow B 31 1 vv k (f32s xs) ∧ B ≤ wr.heap.size ∧ Hid (RLt w wr g q L A c ms v rs)) (fun _ i _ => ms.length - (intOf i).toNat)
      case atStart => exact ⟨0, [], rfl, by omega, rfl, fun k hk => absurd hk (Nat.not_lt_zero _), O4, by omega, S4⟩
      case round =>
        clear S4 O4 c5 Z4
        obtain ⟨k, xs, rfl, hk, hxk, HW, hown, hB, hS⟩ := hrel
        by_cases hlt : k < ms.length
        · go_wp2_with fail
          refine (below_any g 65 _ hS.out.cur (by omega) (by omega)).mono ?_
          rintro e W5 ⟨j3, rfl, ⟨hj30, hj31⟩, s5⟩
          have S5 := Lib.hid (hS.out.step s5)
          have O5 : W5.ownsRow B 31 1 u7 k (f32s xs) := owns_stay hown fun q' e => s5.2.block q' (hown.lt q' e).2 (by intro e2; injection e2 with e2; have := (hown.lt q' e).1; omega)
          have hB5 : B ≤ W5.heap.size := Nat.le_trans hB s5.2.size
          have hwt := wt_ok (j := j3 - 32) (by omega) (by omega)
          obtain ⟨fq, hfq⟩ : ∃ fq, floatOfInt .f32 (j3 - 32) = fq := ⟨_, rfl⟩
          unfold wt at hwt
          rw [hfq] at hwt
          obtain ⟨F, hF⟩ : ∃ F, fo .quo .f32 fq 1107296256 = F := ⟨_, rfl⟩
          have hR : ∀ W, fR .quo .f32 fq 1107296256 W = F := fun W => by rw [← hF]; exact rnd_eq hwt.f W
          rw [hF] at hwt
          have HWt := Lib.hid hwt
          clear hF hwt s5 hS hown hB
          have O6 : (W5.drewN (fN .quo .f32 fq 1107296256)).ownsRow B 31 1 u7 k (f32s xs) := O5
          have hB6 : B ≤ (W5.drewN (fN .quo .f32 fq 1107296256)).heap.size := hB5
          have S6 : Hid (RLt w (W5.drewN (fN .quo .f32 fq 1107296256)) g q L A c ms v rs) := S5.out.below (below_drewN (Below.refl B W5) _) hLs
          clear O5 hB5 S5
          go_wp2_with (at_builtin; refine wpList_app1 rfl (.tmp 25) (.tmp 31) 28 rfl B 31 (.float .f32 0) 4 Try.underlying28 f32_info rfl u7 k (f32s xs) _ rfl rfl rfl O6 hB6 (by omega) (by omega) ?_; intro v' w' hown' hbel')
          go_roundw
          case rel => exact ⟨k + 1, xs ++ [_], by go_num, by omega, by simp [hxk], wts_snoc HW.out HWt.out, by simpa [f32s] using hown', Nat.le_trans hB6 hbel'.size, S6.out.below hbel' hLs⟩
          case measure => simp [intOf]; omega
        · obtain rfl : k = ms.length := by omega
          obtain ⟨A7, c7, hv7, _, _⟩ := own_rd hown
          subst hv7
          obtain ⟨b0, b1, b2, b3⟩ := hS.out.cells
          have HV := Lib.hid hS.out.rows
          have HOW : Hid ((wr.alloc (.cells #[.slice A7 ms.length c7] 28)).ownsRow (q + 1) 28 1 v rs.length (rs.map rowV)) := hS.out.rows.own.alloc _
          have HH : Hid ((wr.alloc (.cells #[.slice A7 ms.length c7] 28)).heap.size = wr.heap.size + 1) := by show (wr.alloc _).heap.size = _; simp
          have hqw : q + 1 ≤ wr.heap.size := by omega
          have HN : Hid (∀ j u, [Value.slice A7 ms.length c7][j]? = some u → (wr.alloc (.cells #[.slice A7 ms.length c7] 28)).cell? ((⟨wr.heap.size, 0, none⟩ : Addr).add j) = some u) := World.news_of_block (cs := #[.slice A7 ms.length c7]) (t := 28) (fr := (0, 0)) (heap_alloc_new wr _)
          obtain ⟨i0, hi0, hz0, hz1, hz2⟩ := info_parts row_info2
          have hr4 : rs.length + 1 ≤ 16 := by omega
          have HNE : Hid (some q ≠ v.ownBlock) := fun e => by have := (HV.out.own.lt q e.symm).1; omega
          have HQ : Hid (q < (wr.alloc (.cells #[.slice A7 ms.length c7] 28)).heap.size) := by show q < (wr.alloc _).heap.size; simp; omega
          have HBk : Hid (∀ w' : World, w'.heap[q]? = (wr.alloc (.cells #[.slice A7 ms.length c7] 28)).heap[q]? → w'.heap[q]? = some (.cells #[.slice A ms.length c, v] 26 (0, 0))) := fun w' e => e.trans ((Below.heap_alloc wr _ q (by omega)).trans hS.out.b)
          have HRow : Hid (wr.ownsRow B 31 1 (rowV (A7, c7, xs)) xs.length (f32s xs)) := by
            show wr.ownsRow B 31 1 (.slice A7 xs.length c7) xs.length (f32s xs)
            rw [hxk]; exact hown
          go_wp2_with (at_builtin; refine wpList_append_lies _ rfl (.tmp 35) (.tmp 37) 24 rfl (q + 1) 28 i0 _ 1 24 Try.underlying24 hi0 hz0 hz1 hz2 rfl (by omega) v rs.length (rs.map rowV) rfl HOW.out ⟨wr.heap.size, 0, none⟩ 1 1 [.slice A7 ms.length c7] rfl rfl HN.out (by simp [Value.oneCell']) (by omega) (by simp only [maxLen]; omega) (by omega) (by simp; omega) (wr.heap.size + 1) HH.out ?_; intro gg cap w' hown' hgrow hor hlt'; have hB1 := HBk.out w' (hgrow.block q HQ.out HNE.out); obtain ⟨_, c3, _, f3⟩ := r_cells hB1)
          go_roundw
          case rel =>
            have hv : rowV (A7, c7, xs) = .slice A7 ms.length c7 := by rw [← hxk]; rfl
            exact ⟨j - 1, _, rs ++ [(A7, c7, xs)], _, by go_num, by omega, by simp; omega, hS.out.app (r := (A7, c7, xs)) hLs HRow.out hxk (fun k hk => HW.out k (by rw [hxk]; exact hk)) (by rw [hv]; exact hown') hgrow hor hlt'⟩
          case measure => simp [intOf]; omega
    · obtain ⟨b0, b1, b2, b3⟩ := hS.out.cells
      obtain ⟨r0, r1, r2, r3⟩ := r_cells hS.out.r
      obtain ⟨B', d, rfl, _, _⟩ := hS.out.rows.form
      have HRes : Hid (∀ x y : Value, ((wr.setCell ⟨w.heap.size, 0, none⟩ x).setCell ⟨w.heap.size, 1, none⟩ y).heap[w.heap.size]? = some (.cells #[x, y] 26 (0, 0))) := fun x y => by
        simp [World.setCell, Array.getElem?_modify, hS.out.r]
      have HC : Hid (∀ x y : Value, CurStep w ((wr.setCell ⟨w.heap.size, 0, none⟩ x).setCell ⟨w.heap.size, 1, none⟩ y) g) := fun x y =>
        ⟨cur_set (cur_set hS.out.cur _ _ _ (by omega) (by omega)) _ _ _ (by omega) (by omega), grown_set' (grown_set' hS.out.gr (Nat.le_refl _)) (Nat.le_refl _)⟩
      have HB : ∀ x y : Value, ∀ j, w.heap.size < j → ((wr.setCell ⟨w.heap.size, 0, none⟩ x).setCell ⟨w.heap.size, 1, none⟩ y).heap[j]? = wr.heap[j]? := fun x y j hj =>
        (Below.heap_setCell _ _ _ _ (by show j ≠ w.heap.size; omega)).trans (Below.heap_setCell _ _ _ _ (by show j ≠ w.heap.size; omega))
      have HI : Hid (∀ x y : Value, OwnM ((wr.setCell ⟨w.heap.size, 0, none⟩ x).setCell ⟨w.heap.size, 1, none⟩ y) w.heap.size ((wr.setCell ⟨w.heap.size, 0, none⟩ x).setCell ⟨w.heap.size, 1, none⟩ y).heap.size A c ms ∧ RowsOwn ((wr.setCell ⟨w.heap.size, 0, none⟩ x).setCell ⟨w.heap.size, 1, none⟩ y) w.heap.size ((wr.setCell ⟨w.heap.size, 0, none⟩ x).setCell ⟨w.heap.size, 1, none⟩ y).heap.size (.slice B' rs.length d) rs) := fun x y => by
        have q0 := hS.out.q0
        have qL := hS.out.qL
        have Ls := hS.out.Ls
        have O := (hS.out.own.keep fun j h1 _ => HB x y j (by omega)).low (lo' := w.heap.size) (hi' := ((wr.setCell ⟨w.heap.size, 0, none⟩ x).setCell ⟨w.heap.size, 1, none⟩ y).heap.size) (by omega) (by simp; omega)
        have R := hS.out.rows.keep fun j h1 _ => HB x y j (by omega)
        exact ⟨O, (R.raise (by simp; omega)).lower (by omega)⟩
      have hsh := Lib.hid hS.out.sh
      clear HB
      go_wp2_with fail
      refine bodyPost_ret (results_cell_row rfl _ _ w.heap.size 26 #[.slice A ms.length c, .slice B' rs.length d] (0, 0) _ rfl (HRes.out _ _) Try.underlying26 rfl (by kernel_rfl)) rfl ?_
      exact ⟨⟨A, c, ms, B', d, rs, rfl, HI.out _ _, ⟨HK.out, hlm, by omega, hsh.out⟩⟩, HC.out _ _⟩

set_option maxRecDepth 100000 in
set_option maxHeartbeats 800000 in
theorem makeRoom_any (A : Option Addr) (cp : Nat) (bs : List Int) (w : World) (hr : Rd w A (bs.map (.int .u8))) (hm : bs.length ≤ 1048576) :
    Calls Try.prog 8 #[.slice A bs.length cp, .int .i64 4] w fun e w' => RoomPost 4 w e w' ∧ Below w.heap.size w w' := by
  have Hr := Lib.hid (fun o => hr.below ((Below.refl w.heap.size w).alloc (Nat.le_refl _) o))
  clear hr
  go_enter Try.func8, Try.ntmps8
  go_wp2_with fail
  refine (new_any A cp bs _ (Hr.out _) hm).mono ?_
  rintro e w1 ⟨g, rfl, hg, hcur, hb1⟩
  have hgs : w.heap.size < g := by simp at hg; omega
  have hs1 : w.heap.size + 1 ≤ w1.heap.size := by have := hb1.size; simpa using this
  have HC := Lib.hid hcur
  have HB1 := Lib.hid (((Below.refl w.heap.size w).alloc (Nat.le_refl _) (.cells #[.slice none 0 0, .slice none 0 0] 26)).trans (hb1.mono (by simp)))
  have HR := Lib.hid ((hb1.block w.heap.size (by simp)).trans (heap_alloc_new w _))
  have hgl := hcur.lt
  clear hg hcur hb1 Hr
  go_wp2_with fail
  refine (l4Room_any g 4 _ HC.out (by omega)).mono ?_
  rintro e w2 ⟨⟨A', c', ms, B', d, rs, rfl, hin, hok⟩, hs⟩
  have HR2 := Lib.hid ((hs.2.block w.heap.size (by omega) (by intro e; injection e with e; omega)).trans HR.out)
  have HB2 := Lib.hid (HB1.out.trans (below_of_step hs (by omega) (by omega)))
  have HI := Lib.hid hin
  have HK := Lib.hid hok
  obtain ⟨r0, r1, r2, r3⟩ := r_cells HR2.out
  have HRes : Hid (∀ x y : Value, ((w2.setCell ⟨w.heap.size, 0, none⟩ x).setCell ⟨w.heap.size, 1, none⟩ y).heap[w.heap.size]? = some (.cells #[x, y] 26 (0, 0))) := fun x y => by
    simp [World.setCell, Array.getElem?_modify, HR2.out]
  clear HR HB1 HC hin hok hs
  have HO : Hid (∀ x y : Value, OwnM ((w2.setCell ⟨w.heap.size, 0, none⟩ x).setCell ⟨w.heap.size, 1, none⟩ y) w.heap.size ((w2.setCell ⟨w.heap.size, 0, none⟩ x).setCell ⟨w.heap.size, 1, none⟩ y).heap.size A' c' ms ∧ RowsOwn ((w2.setCell ⟨w.heap.size, 0, none⟩ x).setCell ⟨w.heap.size, 1, none⟩ y) w.heap.size ((w2.setCell ⟨w.heap.size, 0, none⟩ x).setCell ⟨w.heap.size, 1, none⟩ y).heap.size (.slice B' rs.length d) rs) := fun x y => by
    have HB : ∀ j, w.heap.size < j → ((w2.setCell ⟨w.heap.size, 0, none⟩ x).setCell ⟨w.heap.size, 1, none⟩ y).heap[j]? = w2.heap[j]? := fun j hj =>
      (Below.heap_setCell _ _ _ _ (by show j ≠ w.heap.size; omega)).trans (Below.heap_setCell _ _ _ _ (by show j ≠ w.heap.size; omega))
    exact ⟨(HI.out.1.keep fun j h1 _ => HB j (by omega)).low (by omega) (by simp), ((HI.out.2.keep fun j h1 _ => HB j (by omega)).raise (by simp)).lower (by omega)⟩
  unfold roomV
  go_wp2_with fail
  refine bodyPost_ret (results_cell_row rfl _ _ w.heap.size 26 #[.slice A' ms.length c', .slice B' rs.length d] (0, 0) _ rfl (HRes.out _ _) Try.underlying26 rfl (by kernel_rfl)) rfl ?_
  exact ⟨⟨A', c', ms, B', d, rs, rfl, HO.out _ _, HK.out⟩, (HB2.out.setCell (Nat.le_refl _) _).setCell (Nat.le_refl _) _⟩
end Go.Proofs.Ytndnfhhdflmfcaa

/-
Rows of wide modes; impl.widened.
-/
namespace Go.Proofs.Ytndnfhhdflmfcaa
open Go Go.RowKit Ieee

/-- The words of a wide mode: pole, gain. -/
abbrev DW := Nat × Nat × Nat × Nat
def modeD (m : DW) : List Value := [.complex .f64 m.1 m.2.1, .complex .f64 m.2.2.1 m.2.2.2]
def flatD (ms : List DW) : List Value := ms.flatMap modeD
theorem flatD_len (ms : List DW) : (flatD ms).length = ms.length * 2 := by
  induction ms with
  | nil => rfl
  | cons m ms ih => simp [flatD, modeD] at ih ⊢; omega
theorem flatD_snoc (ms : List DW) (m : DW) : flatD ms ++ modeD m = flatD (ms ++ [m]) := by simp [flatD]
theorem flatD_at {ms : List DW} {i : Nat} (h : i < ms.length) : (flatD ms)[i * 2]? = some (.complex .f64 (ms.getD i (0, 0, 0, 0)).1 (ms.getD i (0, 0, 0, 0)).2.1) ∧ (flatD ms)[i * 2 + 1]? = some (.complex .f64 (ms.getD i (0, 0, 0, 0)).2.2.1 (ms.getD i (0, 0, 0, 0)).2.2.2) := by
  induction ms generalizing i with
  | nil => simp at h
  | cons m ms ih =>
    cases i with
    | zero => exact ⟨rfl, rfl⟩
    | succ i =>
      have h2 := ih (i := i) (by simpa using h)
      have e1 : (i + 1) * 2 = i * 2 + 2 := by omega
      rw [e1]
      exact h2
/-- A mode, widened. -/
def widM (m : MW) : DW := (wid m.1, wid m.2.1, wid m.2.2.1, wid m.2.2.2)
/-- At numbers widening neither draws nor turns. -/
theorem widFin {b : Nat} (h : fin .f64 (wid b)) : (∀ W, cR .f32 b .f64 W = wid b) ∧ cN .f32 b .f64 = 0 := by
  refine ⟨fun W => nrm_fin_eq (nrm_wid b W) h, ?_⟩
  have hn : isN .f32 b = false := by rw [← isN_wid]; exact fin_num h
  unfold cN
  rw [widen_some hn]
set_option maxHeartbeats 400000 in
theorem widenFin_any (a b : Nat) (w : World) (ha : fin .f64 (wid a)) (hb : fin .f64 (wid b)) : Calls Try.prog 120 #[.complex .f32 a b] w fun e w' => e = .returned (.complex .f64 (wid a) (wid b)) ∧ w = w' := by
  obtain ⟨h1, h2⟩ := widFin ha
  obtain ⟨h3, h4⟩ := widFin hb
  obtain ⟨A, hA⟩ : ∃ A, wid a = A := ⟨_, rfl⟩
  obtain ⟨B, hB⟩ : ∃ B, wid b = B := ⟨_, rfl⟩
  rw [hA] at h1 ⊢
  rw [hB] at h3 ⊢
  clear hA hB ha hb
  go_enter Try.func120, Try.ntmps120
  go_wp2_with fail
  go_ret
  exact ⟨rfl, rfl⟩
end Go.Proofs.Ytndnfhhdflmfcaa

/-
Facts that stay while only new memory is made.
-/
namespace Go.Proofs.Ytndnfhhdflmfcaa
open Go Go.RowKit

/-- A fact that holds of this world and of every world that has grown out of it, the blocks below 'L' as they were. -/
def Kp (L : Nat) (P : World → Prop) (W : World) : Prop := L ≤ W.heap.size ∧ ∀ W', Below L W W' → P W'
theorem Kp.here {L : Nat} {P : World → Prop} {W : World} (h : Kp L P W) : P W := h.2 W (Below.refl _ _)
theorem Kp.step {L B : Nat} {P : World → Prop} {W W' : World} (h : Kp L P W) (hb : Below B W W') (hB : L ≤ B) : Kp L P W' :=
  ⟨Nat.le_trans h.1 hb.size, fun W'' h2 => h.2 W'' ((hb.mono hB).trans h2)⟩
theorem Kp.next {L : Nat} {P : World → Prop} {W W' : World} (h : Kp L P W) (hb : Below W.heap.size W W') : Kp L P W' := h.step hb h.1
theorem Kp.raise {L L' : Nat} {P : World → Prop} {W : World} (h : Kp L P W) (h1 : L ≤ L') (h2 : L' ≤ W.heap.size) : Kp L' P W := ⟨h2, fun W' hb => h.2 W' (hb.mono h1)⟩
theorem Kp.top {L : Nat} {P : World → Prop} {W : World} (h : Kp L P W) : Kp W.heap.size P W := h.raise h.1 (Nat.le_refl _)
theorem Kp.alloc {L : Nat} {P : World → Prop} {W : World} (h : Kp L P W) (o : Obj) : Kp L P (W.alloc o) := h.next ((Below.refl W.heap.size W).alloc (Nat.le_refl _) o)
theorem Kp.drewN {L : Nat} {P : World → Prop} {W : World} (h : Kp L P W) (n : Nat) : Kp L P (W.drewN n) := h.next (below_drewN (Below.refl _ _) n)
theorem Kp.and {L M : Nat} {P Q : World → Prop} {W : World} (h : Kp L P W) (k : Kp M Q W) : Kp W.heap.size (fun W => P W ∧ Q W) W := ⟨Nat.le_refl _, fun W' hb => ⟨h.2 W' (hb.mono h.1), k.2 W' (hb.mono k.1)⟩⟩
theorem Kp.imp {L : Nat} {P Q : World → Prop} {W : World} (h : Kp L P W) (k : ∀ W, P W → Q W) : Kp L Q W := ⟨h.1, fun W' hb => k W' (h.2 W' hb)⟩
theorem kp_ownM {W : World} {lo hi c : Nat} {A : Option Addr} {ms : List MW} (h : OwnM W lo hi A c ms) (hh : hi ≤ W.heap.size) : Kp hi (fun W => OwnM W lo hi A c ms) W := ⟨hh, fun _ hb => h.below hb (Nat.le_refl _)⟩
theorem kp_block {W : World} {g : Nat} {o : Obj} (h : W.heap[g]? = some o) : Kp (g + 1) (fun W => W.heap[g]? = some o) W := ⟨lt_of_some h, fun _ hb => (hb.block g (Nat.lt_succ_self g)).trans h⟩
theorem kp_rd {W : World} {A : Option Addr} {xs : List Value} (h : Rd W A xs) : Kp W.heap.size (fun W => Rd W A xs) W := ⟨Nat.le_refl _, fun _ hb => h.below hb⟩
theorem kp_below {w W : World} {L : Nat} (h : Below L w W) (hl : L ≤ W.heap.size) : Kp L (fun W => Below L w W) W := ⟨hl, fun _ hb => h.trans hb⟩
theorem kp_new (W : World) (o : Obj) : Kp (W.heap.size + 1) (fun V => V.heap[W.heap.size]? = some o) (W.alloc o) := kp_block (heap_alloc_new W o)
theorem cell_one {W : World} {g : Nat} {v : Value} {t : TypeId} (h : W.heap[g]? = some (.cells #[v] t (0, 0))) : W.cell? ⟨g, 0, none⟩ = some v := cell_of_row W g 0 _ _ (0, 0) h
end Go.Proofs.Ytndnfhhdflmfcaa

/-
impl.IsRoom, impl.isPlace at a valid room.
-/
namespace Go.Proofs.Ytndnfhhdflmfcaa
open Go Go.RowKit Ieee

theorem sixteen : fin .f64 4625196817309499392 ∧ fv .f64 4625196817309499392 = 16 := by
  have h : FloatKind.f64.format.read 4625196817309499392 = .number false 4503599627370496 (-48) := by decide +kernel
  obtain ⟨h1, h2⟩ := fin_of_read h
  refine ⟨h1, ?_⟩
  rw [h2, dval_num]
  have e : mval 4503599627370496 (-48) = 16 := by unfold mval pw; grind
  rw [e]; simp
set_option maxHeartbeats 400000 in
theorem notWeight_any (x : Nat) (w : World) (h : Wt x) : Calls Try.prog 59 #[.float .f32 x] w fun e w' => e = .returned (.bool false) ∧ w = w' := by
  obtain ⟨f1, f2⟩ := wid_fin h.f
  obtain ⟨a1, a2⟩ := abs64_fin f1
  have hle : fle .f64 (abs64 (wid x)) 4625196817309499392 = true := (fle_iff a1 sixteen.1).2 (by rw [a2, f2, sixteen.2]; have := h.l; grind)
  obtain ⟨c1, c2⟩ := widFin f1
  have hw : wfk .f64 (wid x) := wid_lt _
  clear h f1 f2 a1 a2
  obtain ⟨y, hy⟩ : ∃ y, wid x = y := ⟨_, rfl⟩
  rw [hy] at hle c1 hw
  clear hy
  go_enter Try.func59, Try.ntmps59
  go_wp2_with fail
  refine (mathAbs_any y _ hw).mono ?_
  rintro e w' ⟨rfl, rfl⟩
  go_wp2_with fail
  go_ret
  exact ⟨rfl, rfl⟩

set_option maxRecDepth 100000 in
set_option maxHeartbeats 400000 in
theorem indexW_any (A : Option Addr) (c : Nat) (xs : List Nat) (w : World) (h : Rd w A (f32s xs)) (hx : ∀ k, k < xs.length → Wt (xs.getD k 0)) (hl : xs.length ≤ 16) :
    Calls Try.prog 89 #[.slice A xs.length c, .func (.func 59) #[] #[]] w fun e w' => e = .returned (.int .i64 (-1)) ∧ w = w' := by
  have H := Lib.hid h
  have HX := Lib.hid hx
  clear h hx
  go_enter Try.func89, Try.ntmps89
  go_wp2_with fail
  go_loopw [8] (fun i wr => ∃ k : Nat, i = .int .i64 (k : Int) ∧ k ≤ xs.length ∧ w = wr) (fun i _ => xs.length - (intOf i).toNat)
  case atStart => exact ⟨0, rfl, by omega, rfl⟩
  case round =>
    obtain ⟨k, rfl, hk, rfl⟩ := hrel
    by_cases hlt : k < xs.length
    · obtain ⟨b, off, rfl, hbl, hc⟩ := H.out (by simp; omega)
      have e1 := hc k _ (f32s_at hlt)
      have HW := Lib.hid (HX.out k hlt)
      clear hc
      generalize xs.getD k 0 = x at *
      go_wp2_with fail
      refine (notWeight_any x _ HW.out).mono ?_
      rintro e w' ⟨rfl, rfl⟩
      go_wp2_with fail
      go_roundw
      case rel => exact ⟨k + 1, by go_num, by omega, trivial⟩
      case measure => simp [intOf]; omega
    · go_wp2_with fail
      go_ret
      exact ⟨rfl, rfl⟩

set_option maxRecDepth 100000 in
set_option maxHeartbeats 400000 in
theorem containsW_any (A : Option Addr) (c : Nat) (xs : List Nat) (w : World) (h : Rd w A (f32s xs)) (hx : ∀ k, k < xs.length → Wt (xs.getD k 0)) (hl : xs.length ≤ 16) :
    Calls Try.prog 58 #[.slice A xs.length c, .func (.func 59) #[] #[]] w fun e w' => e = .returned (.bool false) ∧ w = w' := by
  have H := Lib.hid h
  have HX := Lib.hid hx
  clear h hx
  go_enter Try.func58, Try.ntmps58
  go_wp2_with fail
  refine (indexW_any A c xs _ H.out HX.out hl).mono ?_
  rintro e w' ⟨rfl, rfl⟩
  go_wp2_with fail
  go_ret
  exact ⟨rfl, rfl⟩

set_option maxRecDepth 100000 in
set_option maxHeartbeats 800000 in
theorem isRoom_any (A : Option Addr) (c lo hi : Nat) (ms : List MW) (B : Option Addr) (d : Nat) (rs : List Row) (w : World) (h : RoomIn w lo hi A c ms B rs) (hok : RoomOk ms rs 16 16) :
    Calls Try.prog 31 #[.agg #[.slice A ms.length c, .slice B rs.length d]] w fun e w' => e = .returned (.bool true) ∧ Below w.heap.size w w' := by
  have hl := hok.lm
  have hn := hok.ln
  have HK := Lib.hid hok
  have HB : Hid (Below w.heap.size w (w.alloc (.cells #[.slice A ms.length c, .slice B rs.length d] 26))) := (Below.refl w.heap.size w).alloc (Nat.le_refl _) _
  have HR := Lib.hid (h.below HB.out)
  have HX : Hid ((w.alloc (.cells #[.slice A ms.length c, .slice B rs.length d] 26)).heap[w.heap.size]? = some (.cells #[.slice A ms.length c, .slice B rs.length d] 26 (0, 0))) := heap_alloc_new w _
  obtain ⟨r0, r1, _, _⟩ := r_cells HX.out
  clear h hok
  go_enter Try.func31, Try.ntmps31
  go_wp2_with fail
  generalize w.alloc (.cells #[.slice A ms.length c, .slice B rs.length d] 26) = W at *
  refine (isBody_any A c lo hi ms W HR.out.own HR.out.hh HK.out.ok hl).mono ?_
  rintro e W1 ⟨rfl, hb⟩
  have HB1 : Hid (Below w.heap.size w W1) := HB.out.trans (hb.mono HB.out.size)
  have HR1 := Lib.hid (HR.out.below hb)
  have HX1 := Lib.hid ((hb.block _ (lt_of_some HX.out)).trans HX.out)
  obtain ⟨r0, r1, _, _⟩ := r_cells HX1.out
  clear r0 HB HR HX hb
  go_wp2_with fail
  go_loopw [4, 19] (fun _ i wr => ∃ k : Nat, i = .int .i64 (k : Int) ∧ k ≤ rs.length ∧ Hid (Below W1.heap.size W1 wr)) (fun _ i _ => rs.length - (intOf i).toNat)
  case atStart => exact ⟨0, rfl, by omega, Below.refl _ _⟩
  case round =>
    clear r1
    obtain ⟨k, rfl, hk, hb⟩ := hrel
    have HR2 := Lib.hid (HR1.out.below hb.out)
    have HX2 := Lib.hid ((hb.out.block _ (lt_of_some HX1.out)).trans HX1.out)
    by_cases hlt : k < rs.length
    · obtain ⟨b, off, rfl, hbl, hc⟩ := HR2.out.rows.1 (by simp; omega)
      have e1 := hc k _ (rowV_at hlt)
      have HRw := Lib.hid (HR2.out.rows.2 k hlt)
      obtain ⟨hsl, hsw⟩ := HK.out.sh k hlt
      have HW : Hid (∀ j, j < (rowAt rs k).2.2.length → Wt ((rowAt rs k).2.2.getD j 0)) := fun j hj => hsw j (by omega)
      clear hc hsw
      unfold rowV at e1
      obtain ⟨r0, r1, _, _⟩ := r_cells HX2.out
      generalize (rowAt rs k).1 = A' at *
      generalize (rowAt rs k).2.1 = c' at *
      generalize (rowAt rs k).2.2 = xs at *
      go_wp2_with fail
      have hcon := containsW_any A' c' xs wr HRw.out HW.out (by omega)
      rw [hsl] at hcon
      refine hcon.mono ?_
      clear hcon
      rintro e w' ⟨rfl, rfl⟩
      go_wp2_with fail
      go_roundw
      case rel => exact ⟨k + 1, by go_num, by omega, hb.out⟩
      case measure => simp [intOf]; omega
    · go_wp2_with fail
      go_ret
      exact ⟨rfl, HB1.out.trans (hb.out.mono HB1.out.size)⟩

set_option maxRecDepth 100000 in
set_option maxHeartbeats 400000 in
theorem isPlace_any (V : Value) (B : Option Addr) (d n : Nat) (p : Nat) (w : World) (hp : p < n) (_ : n ≤ 17) :
    Calls Try.prog 32 #[.agg #[V, .slice B n d], .int .i64 p] w fun e w' => e = .returned (.bool true) ∧ Below w.heap.size w w' := by
  have HB : Hid (Below w.heap.size w (w.alloc (.cells #[V, .slice B n d] 26))) := (Below.refl w.heap.size w).alloc (Nat.le_refl _) _
  have HX : Hid ((w.alloc (.cells #[V, .slice B n d] 26)).heap[w.heap.size]? = some (.cells #[V, .slice B n d] 26 (0, 0))) := heap_alloc_new w _
  obtain ⟨_, r1, _, _⟩ := r_cells HX.out
  go_enter Try.func32, Try.ntmps32
  go_wp2_with fail
  go_ret
  exact ⟨by simp, HB.out⟩
end Go.Proofs.Ytndnfhhdflmfcaa

/-
impl.checked at a valid body.
-/
namespace Go.Proofs.Ytndnfhhdflmfcaa
open Go Go.RowKit Ieee

set_option maxRecDepth 100000 in
set_option maxHeartbeats 600000 in
theorem checked_any (A : Option Addr) (c lo hi : Nat) (ms : List MW) (w : World) (h : OwnM w lo hi A c ms) (hh : hi ≤ w.heap.size) (hok : ModesOk ms) (hl : ms.length ≤ 16) :
    Calls Try.prog 54 #[.agg #[.slice A ms.length c]] w fun e w' => ∃ (A' : Option Addr) (c' : Nat), e = .returned (.tuple #[.agg #[.slice A' ms.length c'], .bool true]) ∧ OwnM w' w.heap.size w'.heap.size A' c' ms ∧ Below w.heap.size w w' := by
  have HK := Lib.hid hok
  have HB : Hid (Below w.heap.size w ((w.alloc (.cells #[.slice A ms.length c] 62)).alloc (.cells #[.slice none 0 0] 62))) := ((Below.refl w.heap.size w).alloc (Nat.le_refl _) _).alloc (by simp) _
  have H : Hid (OwnM ((w.alloc (.cells #[.slice A ms.length c] 62)).alloc (.cells #[.slice none 0 0] 62)) lo hi A c ms) := h.below HB.out hh
  have HP : Hid (((w.alloc (.cells #[.slice A ms.length c] 62)).alloc (.cells #[.slice none 0 0] 62)).heap[w.heap.size]? = some (.cells #[.slice A ms.length c] 62 (0, 0))) :=
    (Below.heap_alloc _ _ _ (by simp)).trans (heap_alloc_new w _)
  have HR : Hid (((w.alloc (.cells #[.slice A ms.length c] 62)).alloc (.cells #[.slice none 0 0] 62)).heap[w.heap.size + 1]? = some (.cells #[.slice none 0 0] 62 (0, 0))) := by
    show _ = _
    have := heap_alloc_new (w.alloc (.cells #[.slice A ms.length c] 62)) (.cells #[.slice none 0 0] 62)
    simpa using this
  have hsz : w.heap.size + 1 < ((w.alloc (.cells #[.slice A ms.length c] 62)).alloc (.cells #[.slice none 0 0] 62)).heap.size := by simp
  have c0 := cell_of_row _ w.heap.size 0 _ _ (0, 0) HP.out
  clear h hok
  go_enter Try.func54, Try.ntmps54
  go_wp2_with fail
  generalize (w.alloc (.cells #[.slice A ms.length c] 62)).alloc (.cells #[.slice none 0 0] 62) = W1 at *
  refine (isBody_any A c lo hi ms _ H.out (by omega) HK.out hl).mono ?_
  rintro e W2 ⟨rfl, hb2⟩
  have hs2 : w.heap.size + 1 < W2.heap.size := Nat.lt_of_lt_of_le hsz hb2.size
  have H2 : Hid (OwnM W2 lo hi A c ms) := H.out.below hb2 (by omega)
  have HP2 := Lib.hid ((hb2.block _ (by omega)).trans HP.out)
  have HR2 := Lib.hid ((hb2.block _ hsz).trans HR.out)
  have HB2 : Hid (Below w.heap.size w W2) := HB.out.trans (hb2.mono (by omega))
  clear c0 hb2 H HP HR HB hsz
  have c2 := cell_of_row _ w.heap.size 0 _ _ (0, 0) HP2.out
  go_wp2_with fail
  refine (copyBody_any A c lo hi ms W2 H2.out (by omega) hl).mono ?_
  rintro e W3 ⟨A', c', rfl, ho, hb3⟩
  have hs3 : W2.heap.size ≤ W3.heap.size := hb3.size
  have HR3 : Hid (W3.heap[w.heap.size + 1]? = some (.cells #[.slice none 0 0] 62 (0, 0))) := (hb3.block _ hs2).trans HR2.out
  have HB3 : Hid (Below w.heap.size w W3) := HB2.out.trans (hb3.mono (by omega))
  have HO3 := Lib.hid ho
  clear c2 ho hb3 H2 HP2 HR2 HB2
  have r0 := cell_of_row W3 (w.heap.size + 1) 0 _ _ (0, 0) HR3.out
  have r1 : W3.frozen? ⟨w.heap.size + 1, 0, none⟩ = false := by unfold World.frozen?; simp only [HR3.out]; simp
  have HRes : Hid (∀ v, (W3.setCell ⟨w.heap.size + 1, 0, none⟩ v).heap[w.heap.size + 1]? = some (.cells #[v] 62 (0, 0))) := fun v => by
    simp [World.setCell, Array.getElem?_modify, HR3.out]
  go_wp2_with fail
  refine bodyPost_ret (results_cell_tmp_row rfl _ _ (w.heap.size + 1) 62 #[.slice A' ms.length c'] (0, 0) _ rfl (HRes.out _) Try.underlying62 rfl (by kernel_rfl)) rfl ?_
  exact ⟨A', c', rfl, (HO3.out.keepOut (by omega)).low (by omega) (by simp), HB3.out.setCell (by show w.heap.size ≤ w.heap.size + 1; omega) _⟩
end Go.Proofs.Ytndnfhhdflmfcaa

/-
impl.RoomBody at a valid room and its places.
-/
namespace Go.Proofs.Ytndnfhhdflmfcaa
open Go Go.RowKit Ieee

/-- The gains of the first k modes are scaled. -/
def Gained (ws : Nat → Nat) (ms : List MW) (k : Nat) (L : List MW) : Prop := L.length = ms.length ∧ ∀ i, i < ms.length → mAt L i = if i < k then gainM (ws i) (mAt ms i) else mAt ms i
theorem Gained.zero (ws : Nat → Nat) (ms : List MW) : Gained ws ms 0 ms := ⟨rfl, fun i _ => by rw [if_neg (by omega)]⟩
theorem Gained.set {ws : Nat → Nat} {ms L : List MW} {k : Nat} (h : Gained ws ms k L) (hk : k < ms.length) : Gained ws ms (k + 1) (L.set k (gainM (ws k) (mAt ms k))) := by
  refine ⟨by simpa using h.1, fun i hi => ?_⟩
  rw [mAt_set (by rw [h.1]; exact hk)]
  by_cases e : i = k
  · subst e; rw [if_pos rfl, if_pos (by omega)]
  · rw [if_neg e, h.2 i hi]
    by_cases e' : i < k
    · rw [if_pos e', if_pos (by omega)]
    · rw [if_neg e', if_neg (by omega)]
theorem Gained.done {ws : Nat → Nat} {ms L : List MW} (h : Gained ws ms ms.length L) : L = roomM ms ws := by
  refine List.ext_getElem (by simpa [roomM] using h.1) fun i h1 h2 => ?_
  have hi : i < ms.length := by rw [← h.1]; exact h1
  have := h.2 i hi
  rw [if_pos hi] at this
  simpa [roomM, mAt, List.getD, List.getElem?_eq_getElem h1, List.getElem?_eq_getElem hi] using this
theorem flatM_setG (L : List MW) (k p q : Nat) (hk : k < L.length) : flatM (L.set k ((mAt L k).1, (mAt L k).2.1, p, q)) = (flatM L).set (k * 2 + 1) (.complex .f32 p q) := by
  induction L generalizing k with
  | nil => simp at hk
  | cons m L ih =>
    cases k with
    | zero => simp [flatM, modeV, mAt]
    | succ k =>
      have := ih k (by simpa using hk)
      have e : (k + 1) * 2 + 1 = k * 2 + 1 + 1 + 1 := by omega
      rw [e]
      simp only [flatM, modeV, List.set_cons_succ, List.flatMap_cons, List.cons_append, List.nil_append] at this ⊢
      have em : mAt (m :: L) (k + 1) = mAt L k := by simp [mAt, List.getD]
      rw [em, this]
/-- A gain is stored in a row of modes. -/
theorem OwnM.setGain {w : World} {lo hi b c k p q : Nat} {L : List MW} (h : OwnM w lo hi (some ⟨b, 0, none⟩) c L) (hk : k < L.length) :
    OwnM (w.setCell ⟨b, k * 2 + 1, none⟩ (.complex .f32 p q)) lo hi (some ⟨b, 0, none⟩) c (L.set k ((mAt L k).1, (mAt L k).2.1, p, q)) := by
  obtain ⟨⟨h1, h2⟩, h3⟩ := h
  rcases h2 with ⟨h2, _⟩ | ⟨g, cap, cur, e1, e2, e3, e4, e5, e6, e7⟩
  · cases h2
  injection e1 with q1 q2 q3
  injection q1 with q1
  injection q1 with q1
  subst q1 q3
  have hl : (L.set k ((mAt L k).1, (mAt L k).2.1, p, q)).length = L.length := by simp
  refine ⟨⟨by rw [flatM_len], .inr ⟨b, c, cur.setIfInBounds (k * 2 + 1) (.complex .f32 p q), by rw [hl], e2, ?_, by rw [hl]; exact e4, e5, by simpa using e6, ?_⟩⟩, fun j hj => h3 j (by simpa [Value.ownBlock] using hj)⟩
  · simp [World.setCell, Array.getElem?_modify, e3]
  · rw [hl, flatM_setG L k p q hk, ← e7]
    apply List.ext_getElem?
    intro i
    simp only [List.getElem?_take, List.getElem?_set, Array.toList_setIfInBounds, List.length_take]
    have hsz : cur.toList.length = c * 2 := by simpa using e6
    by_cases hi : i < L.length * 2
    · simp only [hi, if_true]
      by_cases e : k * 2 + 1 = i
      · subst e
        rw [if_pos rfl, if_pos rfl, if_pos (by omega), if_pos (by omega)]
      · rw [if_neg e, if_neg e]
    · simp only [hi, if_false]
      rw [if_neg (by omega)]
/-- A weight. -/
def rW (rs : List Row) (i k : Nat) : Nat := (rowAt rs i).2.2.getD k 0
def placeW (rs : List Row) (s e : Nat) : Nat → Nat := fun k => fo .mul .f32 (rW rs s k) (rW rs e k)
theorem place_wt {ms : List MW} {rs : List Row} {s e k : Nat} (h : Shaped ms rs) (hs : s < rs.length) (he : e < rs.length) (hk : k < ms.length) : Wt (placeW rs s e k) := ((h s hs).2 k hk).mul ((h e he).2 k hk)
/-- What a row's cells hold. -/
theorem RoomIn.row {w : World} {lo hi c : Nat} {A B : Option Addr} {ms : List MW} {rs : List Row} (h : RoomIn w lo hi A c ms B rs) (hsh : Shaped ms rs) {i k : Nat} (hi' : i < rs.length) (hk : k < ms.length) :
    ∃ b off b' off' c', B = some ⟨b, off, none⟩ ∧ w.cell? ⟨b, off + i, none⟩ = some (.slice (some ⟨b', off', none⟩) ms.length c') ∧ w.cell? ⟨b', off' + k, none⟩ = some (.float .f32 (rW rs i k)) := by
  obtain ⟨b, off, e, _, hc⟩ := h.rows.1 (by simp; omega)
  have e1 := hc i _ (rowV_at hi')
  obtain ⟨hl, _⟩ := hsh i hi'
  obtain ⟨b', off', e', _, hc'⟩ := h.rows.2 i hi' (by simp; omega)
  have e2 := hc' k _ (f32s_at (by omega))
  unfold rowV at e1
  rw [e', hl] at e1
  exact ⟨b, off, b', off', (rowAt rs i).2.1, e, e1, e2⟩

/-- What stays in RoomBody: the room, its box, the result's cell. -/
structure RCx (w W : World) (lo hi : Nat) (A : Option Addr) (c : Nat) (ms : List MW) (B : Option Addr) (d : Nat) (rs : List Row) : Prop where
  room : RoomIn W lo hi A c ms B rs
  p : W.heap[w.heap.size]? = some (.cells #[.slice A ms.length c, .slice B rs.length d] 26 (0, 0))
  q : W.heap[w.heap.size + 1]? = some (.cells #[.slice none 0 0] 62 (0, 0))
  bel : Below w.heap.size w W
section
variable {w W W' : World} {lo hi c d : Nat} {A B : Option Addr} {ms : List MW} {rs : List Row}
theorem RCx.below (h : RCx w W lo hi A c ms B d rs) (hb : Below W.heap.size W W') : RCx w W' lo hi A c ms B d rs :=
  ⟨h.room.below hb, (hb.block _ (lt_of_some h.p)).trans h.p, (hb.block _ (lt_of_some h.q)).trans h.q, h.bel.trans (hb.mono h.bel.size)⟩
theorem RCx.sz (h : RCx w W lo hi A c ms B d rs) : w.heap.size + 1 < W.heap.size := lt_of_some h.q
theorem RCx.cells (h : RCx w W lo hi A c ms B d rs) : W.cell? ⟨w.heap.size, 0, none⟩ = some (.slice A ms.length c) ∧ W.cell? ⟨w.heap.size, 1, none⟩ = some (.slice B rs.length d) := ⟨(r_cells h.p).1, (r_cells h.p).2.1⟩
end
theorem RCx.start (w : World) {lo hi c d : Nat} {A B : Option Addr} {ms : List MW} {rs : List Row} (h : RoomIn w lo hi A c ms B rs) :
    RCx w ((w.alloc (.cells #[.slice A ms.length c, .slice B rs.length d] 26)).alloc (.cells #[.slice none 0 0] 62)) lo hi A c ms B d rs := by
  have hb : Below w.heap.size w ((w.alloc (.cells #[.slice A ms.length c, .slice B rs.length d] 26)).alloc (.cells #[.slice none 0 0] 62)) := ((Below.refl w.heap.size w).alloc (Nat.le_refl _) _).alloc (by simp) _
  refine ⟨h.below hb, (Below.heap_alloc _ _ _ (by simp)).trans (heap_alloc_new w _), ?_, hb⟩
  have := heap_alloc_new (w.alloc (.cells #[.slice A ms.length c, .slice B rs.length d] 26)) (.cells #[.slice none 0 0] 62)
  simpa using this

set_option maxRecDepth 100000 in
set_option maxHeartbeats 1600000 in
theorem roomBody_any (A : Option Addr) (c lo hi : Nat) (ms : List MW) (B : Option Addr) (d : Nat) (rs : List Row) (s e : Nat) (w : World) (h : RoomIn w lo hi A c ms B rs) (hok : RoomOk ms rs 16 16) (hs : s < rs.length) (he : e < rs.length) :
    Calls Try.prog 28 #[.agg #[.slice A ms.length c, .slice B rs.length d], .int .i64 s, .int .i64 e] w fun r w' => ∃ (A' : Option Addr) (c' : Nat), r = .returned (.tuple #[.agg #[.slice A' ms.length c'], .bool true]) ∧ OwnM w' w.heap.size w'.heap.size A' c' (roomM ms (placeW rs s e)) ∧ Below w.heap.size w w' := by
  have hl := hok.lm
  have hn := hok.ln
  have HK := Lib.hid hok
  have S1 := Lib.hid (RCx.start w (d := d) h)
  obtain ⟨r0, r1⟩ := S1.out.cells
  clear h hok
  go_enter Try.func28, Try.ntmps28
  go_wp2_with fail
  generalize (w.alloc (.cells #[.slice A ms.length c, .slice B rs.length d] 26)).alloc (.cells #[.slice none 0 0] 62) = W1 at *
  refine (isRoom_any A c lo hi ms B d rs W1 S1.out.room HK.out).mono ?_
  rintro r W2 ⟨rfl, hb⟩
  have S2 := Lib.hid (S1.out.below hb)
  clear r0 r1 hb S1
  obtain ⟨r0, r1⟩ := S2.out.cells
  go_wp2_with fail
  refine (isPlace_any _ B d rs.length s W2 hs (by omega)).mono ?_
  rintro r W3 ⟨rfl, hb⟩
  have S3 := Lib.hid (S2.out.below hb)
  clear r0 r1 hb S2
  obtain ⟨r0, r1⟩ := S3.out.cells
  go_wp2_with fail
  refine (isPlace_any _ B d rs.length e W3 he (by omega)).mono ?_
  rintro r W4 ⟨rfl, hb⟩
  have S4 := Lib.hid (S3.out.below hb)
  clear r0 r1 hb S3
  obtain ⟨r0, r1⟩ := S4.out.cells
  go_wp2_with fail
  refine (clone_any A c lo hi ms W4 S4.out.room.own hl).mono ?_
  intro r W5 hp
  unfold CloneP at hp
  obtain ⟨A', c', rfl, ho, hb⟩ := hp
  have hsz4 := S4.out.sz
  have hsz5 := hb.size
  have B5 : Below W5.heap.size W5 (W5.alloc (.cells #[.slice A' ms.length c'] 62)) := (Below.refl W5.heap.size W5).alloc (Nat.le_refl _) _
  have S6 : Hid (Below W4.heap.size W4 (W5.alloc (.cells #[.slice A' ms.length c'] 62))) := hb.trans (B5.mono hb.size)
  have HO6 : Hid (OwnM (W5.alloc (.cells #[.slice A' ms.length c'] 62)) W4.heap.size W5.heap.size A' c' ms) := ho.below B5 (Nat.le_refl _)
  have HC6 : Hid ((W5.alloc (.cells #[.slice A' ms.length c'] 62)).heap[W5.heap.size]? = some (.cells #[.slice A' ms.length c'] 62 (0, 0))) := heap_alloc_new W5 _
  have co := cell_of_row _ W5.heap.size 0 _ _ (0, 0) HC6.out
  clear r0 r1 hb ho B5
  go_wp2_with fail
  generalize W5.alloc (.cells #[.slice A' ms.length c'] 62) = Wa at *
  generalize W5.heap.size = o at *
  go_loopw [9, 10, 34] (fun _ _ i wr => ∃ (k : Nat) (L : List MW), i = .int .i64 (k : Int) ∧ k ≤ ms.length ∧ Hid (Gained (placeW rs s e) ms k L) ∧ Hid (OwnM wr W4.heap.size o A' c' L) ∧ Hid (Below W4.heap.size W4 wr) ∧
    Hid (wr.heap[o]? = some (.cells #[.slice A' ms.length c'] 62 (0, 0)))) (fun _ _ i _ => ms.length - (intOf i).toNat)
  case atStart => exact ⟨0, ms, rfl, by omega, Gained.zero _ ms, HO6.out, S6.out, HC6.out⟩
  case round =>
    clear co HO6 HC6 S6
    obtain ⟨k, L, rfl, hk, HD, HO, HSb, HC⟩ := hrel
    have HS := Lib.hid (S4.out.below HSb.out)
    have co := cell_of_row _ o 0 _ _ (0, 0) HC.out
    obtain ⟨r0, r1⟩ := HS.out.cells
    by_cases hlt : k < ms.length
    · have hLl : k < L.length := by rw [HD.out.1]; exact hlt
      obtain ⟨bs, os, bs', os', cs', rfl, es1, es2⟩ := HS.out.room.row HK.out.sh hs hlt
      obtain ⟨be, oe, be', oe', ce', ee, ee1, ee2⟩ := HS.out.room.row HK.out.sh he hlt
      injection ee with ee
      injection ee with q1 q2
      subst q1 q2
      obtain ⟨b, rfl, hb1, hb2, hlc, hmx, hcell⟩ := HO.out.cells (by omega)
      have hm : mAt L k = mAt ms k := by have := HD.out.2 k hlt; rwa [if_neg (by omega)] at this
      have e1 : wr.cell? ⟨b, k * 2 + 1, none⟩ = some (.complex .f32 (mAt ms k).2.2.1 (mAt ms k).2.2.2) := by rw [← hm]; exact (hcell k hLl).2
      have f0 := HO.out.frozen (k * 2 + 1)
      have hbo : b < o := HO.out.2 b rfl
      have hwt := place_wt HK.out.sh hs he hlt
      have hPg : fo .mul .f32 (rW rs s k) (rW rs e k) = placeW rs s e k := rfl
      obtain ⟨g, hg⟩ : ∃ g, placeW rs s e k = g := ⟨_, rfl⟩
      rw [hg] at hwt hPg
      have hR : ∀ W, fR .mul .f32 (rW rs s k) (rW rs e k) W = g := fun W => by rw [← hPg]; exact rnd_eq (by rw [hPg]; exact hwt.f) W
      have hgf := gain_fin (HK.out.ok.at_ hlt) hwt
      have T := Lib.hid (fun W => implScaleS_any (mAt ms k).2.2.1 (mAt ms k).2.2.2 g W hgf.1 hgf.2)
      have HD2 := Lib.hid (HD.out.set hlt)
      clear hPg hcell
      generalize rW rs s k = xs at *
      generalize rW rs e k = xe at *
      go_wp2_with fail
      refine wp_region_rx (by kernel_rfl) (by kernel_rfl) ?_; apply Exists.intro
      repeat (first | (apply wpR_val; intro K hK; go_simp; refine ⟨rfl, hK _ ?_⟩; clear hK K) | (apply wpR_skip; intro K hK; go_simp; refine hK _ ?_; clear hK K))
      apply wpR_nil (Rs := []); rintro _ ⟨nq, rfl⟩
      go_wp2_with fail
      have HOd : Hid (OwnM (wr.drewN nq) W4.heap.size o (some ⟨b, 0, none⟩) c' L) := HO.out
      have HSd : Hid (Below W4.heap.size W4 (wr.drewN nq)) := below_drewN HSb.out _
      have HCd : Hid ((wr.drewN nq).heap[o]? = some (.cells #[.slice (some ⟨b, 0, none⟩) ms.length c'] 62 (0, 0))) := HC.out
      have e1d : (wr.drewN nq).cell? ⟨b, k * 2 + 1, none⟩ = some (.complex .f32 (mAt ms k).2.2.1 (mAt ms k).2.2.2) := e1
      have f0d : (wr.drewN nq).frozen? ⟨b, k * 2 + 1, none⟩ = false := f0
      have cod : (wr.drewN nq).cell? ⟨o, 0, none⟩ = some (.slice (some ⟨b, 0, none⟩) ms.length c') := co
      clear e1 f0 co r0 r1 es1 es2 ee1 ee2 HO HS HSb HC hR hgf
      generalize wr.drewN nq = wd at *
      have HO2 : Hid (∀ n, OwnM ((wd.drewN n).setCell ⟨b, k * 2 + 1, none⟩ (.complex .f32 (fo .mul .f32 (mAt ms k).2.2.1 g) (fo .mul .f32 (mAt ms k).2.2.2 g))) W4.heap.size o (some ⟨b, 0, none⟩) c' (L.set k (gainM (placeW rs s e k) (mAt ms k)))) := fun n => by
        have h0 : OwnM (wd.drewN n) W4.heap.size o (some ⟨b, 0, none⟩) c' L := HOd.out
        have := h0.setGain (p := fo .mul .f32 (mAt ms k).2.2.1 g) (q := fo .mul .f32 (mAt ms k).2.2.2 g) hLl
        rw [hm] at this
        rw [hg]
        exact this
      have HS2 : Hid (∀ n V, Below W4.heap.size W4 ((wd.drewN n).setCell ⟨b, k * 2 + 1, none⟩ V)) := fun n V => (below_drewN HSd.out n).setCell hb1 V
      clear hm
      generalize (mAt ms k).2.2.1 = p at *
      generalize (mAt ms k).2.2.2 = q at *
      have hlen : L.length = ms.length := HD.out.1
      go_wp2_with fail
      go_region_with (first
        | (go_at_call 36
           refine (T.out _).mono ?_
           rintro e w' ⟨rfl, nq2, rfl⟩))
      all_goals
       go_wp2_with fail
       go_roundw
       case rel =>
        refine ⟨k + 1, _, by go_num, by omega, HD2.out, HO2.out _, HS2.out _ _, ?_⟩
        exact (Below.heap_setCell _ _ _ _ (by show o ≠ b; omega)).trans HCd.out
       case measure => simp [intOf]; omega
    · obtain rfl : k = ms.length := by omega
      have hL := HD.out.done
      subst hL
      have hok' : ModesOk (roomM ms (placeW rs s e)) := roomM_ok HK.out.ok fun k hk => place_wt HK.out.sh hs he hk
      have hrl := roomM_len ms (placeW rs s e)
      have hcon := checked_any A' c' W4.heap.size o (roomM ms (placeW rs s e)) wr HO.out (Nat.le_of_lt (lt_of_some HC.out)) hok' (by rw [hrl]; exact hl)
      rw [hrl] at hcon
      have HCo := Lib.hid hcon
      clear hok' hcon
      go_wp2_with fail
      refine HCo.out.mono ?_
      rintro r W7 ⟨A7, c7, rfl, ho, hb⟩
      have S7 := Lib.hid (HS.out.below hb)
      have hs7 := HS.out.bel.size
      obtain ⟨q0, _, q1, _⟩ : W7.cell? ⟨w.heap.size + 1, 0, none⟩ = some (.slice none 0 0) ∧ True ∧ W7.frozen? ⟨w.heap.size + 1, 0, none⟩ = false ∧ True := ⟨cell_of_row W7 _ 0 _ _ (0, 0) S7.out.q, trivial, by unfold World.frozen?; simp only [S7.out.q]; simp, trivial⟩
      have HRes : Hid (∀ v, (W7.setCell ⟨w.heap.size + 1, 0, none⟩ v).heap[w.heap.size + 1]? = some (.cells #[v] 62 (0, 0))) := fun v => by
        simp [World.setCell, Array.getElem?_modify, S7.out.q]
      have HO7 := Lib.hid ho
      have hsw := HS.out.sz
      clear ho hb r0 r1 co
      go_wp2_with fail
      refine bodyPost_ret (results_cell_tmp_row rfl _ _ (w.heap.size + 1) 62 #[.slice A7 ms.length c7] (0, 0) _ rfl (HRes.out _) Try.underlying62 rfl (by kernel_rfl)) rfl ?_
      exact ⟨A7, c7, rfl, (HO7.out.keepOut (by omega)).low (by omega) (by simp), S7.out.bel.setCell (by show w.heap.size ≤ w.heap.size + 1; omega) _⟩
end Go.Proofs.Ytndnfhhdflmfcaa

/-
impl.RingRoom at a valid room and its places.
-/
namespace Go.Proofs.Ytndnfhhdflmfcaa
open Go Go.RowKit Ieee

set_option maxRecDepth 100000 in
set_option maxHeartbeats 800000 in
theorem ringRoom_any (A : Option Addr) (c lo hi : Nat) (ms : List MW) (B : Option Addr) (d : Nat) (rs : List Row) (s e : Nat) (C : Option Addr) (cc : Nat) (xs : List Nat) (n : Nat) (w : World) (h : RoomIn w lo hi A c ms B rs) (hok : RoomOk ms rs 16 16) (hs : s < rs.length) (he : e < rs.length)
    (hr : Rd w C (f32s xs)) (hx : xs.length ≤ 1048576) (hlow : Low xs) (hn : n ≤ 61) :
    Calls Try.prog 12 #[.agg #[.slice A ms.length c, .slice B rs.length d], .int .i64 s, .int .i64 e, .slice C xs.length cc, .int .i64 n] w fun r w' => ∃ (A' : Option Addr) (c' : Nat) (ys : List Nat), r = .returned (.tuple #[.slice A' ys.length c', .bool true]) ∧
      w'.ownsRow w.heap.size 31 1 (.slice A' ys.length c') ys.length (f32s ys) ∧ Rung (roomM ms (placeW rs s e)) xs ys n ∧ Below w.heap.size w w' := by
  have hl := hok.lm
  have HK := Lib.hid hok
  have HL := Lib.hid hlow
  have hb1 : Below w.heap.size w (w.alloc (.cells #[.slice A ms.length c, .slice B rs.length d] 26)) := (Below.refl w.heap.size w).alloc (Nat.le_refl _) _
  have HB1 := Lib.hid hb1
  have HR := Lib.hid (h.below hb1)
  have HX := Lib.hid (hr.below hb1)
  obtain ⟨r0, r1, _, _⟩ := r_cells (heap_alloc_new w (.cells #[.slice A ms.length c, .slice B rs.length d] 26))
  clear h hr hok hlow hb1
  go_enter Try.func12, Try.ntmps12
  go_wp2_with fail
  generalize w.alloc (.cells #[.slice A ms.length c, .slice B rs.length d] 26) = W1 at *
  refine (roomBody_any A c lo hi ms B d rs s e W1 HR.out HK.out hs he).mono ?_
  rintro r W2 ⟨A', c', rfl, ho, hb⟩
  have hb2 : Below W2.heap.size W2 (W2.alloc (.cells #[.slice A' ms.length c'] 62)) := (Below.refl W2.heap.size W2).alloc (Nat.le_refl _) _
  have HB2 := Lib.hid ((HB1.out.trans (hb.mono HB1.out.size)).trans (hb2.mono (Nat.le_trans HB1.out.size hb.size)))
  have HO := Lib.hid (ho.below hb2 (Nat.le_refl _))
  have HX2 := Lib.hid ((HX.out.below hb).below hb2)
  have c2 := cell_one (heap_alloc_new W2 (.cells #[.slice A' ms.length c'] 62))
  have hsz : W2.heap.size ≤ (W2.alloc (.cells #[.slice A' ms.length c'] 62)).heap.size := by simp
  clear r0 r1 ho hb hb2 HR HX
  go_wp2_with fail
  generalize W2.alloc (.cells #[.slice A' ms.length c'] 62) = W3 at *
  have hrl := roomM_len ms (placeW rs s e)
  have hok' : ModesOk (roomM ms (placeW rs s e)) := roomM_ok HK.out.ok fun k hk => place_wt HK.out.sh hs he hk
  have hcon := ringBody_any A' C c' cc W1.heap.size W2.heap.size (roomM ms (placeW rs s e)) xs n W3 HO.out hsz hok' (by rw [hrl]; exact hl) HX2.out hx (by omega) (calm_of hok' HL.out n hn)
  rw [hrl] at hcon
  refine hcon.mono ?_
  clear hcon c2
  rintro r W4 ⟨A4, c4, ys, rfl, ho, hr4, hb⟩
  have HO4 := Lib.hid ho
  have HR4 := Lib.hid hr4
  have HB4 := Lib.hid (HB2.out.trans (hb.mono HB2.out.size))
  have hs2 := HB2.out.size
  clear ho hr4 hb
  go_wp2_with fail
  go_ret2
  exact ⟨A4, c4, ys, rfl, owns_lower HO4.out hs2, HR4.out, HB4.out⟩
end Go.Proofs.Ytndnfhhdflmfcaa

/-
impl.ListenAlong at a valid room, where all weights at the one place that is listened at are 1.
-/
namespace Go.Proofs.Ytndnfhhdflmfcaa
open Go Go.RowKit Ieee

/-- What stays in ListenAlong: the room, its box, the ears, the input. -/
structure LCx (w W : World) (lo hi : Nat) (A : Option Addr) (c : Nat) (ms : List MW) (B : Option Addr) (d : Nat) (rs : List Row) (E : Option Addr) (es : List Int) (C : Option Addr) (xs : List Nat) : Prop where
  room : RoomIn W lo hi A c ms B rs
  p : W.heap[w.heap.size]? = some (.cells #[.slice A ms.length c, .slice B rs.length d] 26 (0, 0))
  ears : Rd W E (es.map (.int .i64))
  inp : Rd W C (f32s xs)
  bel : Below w.heap.size w W
section
variable {w W W' : World} {lo hi c d : Nat} {A B E C : Option Addr} {ms : List MW} {rs : List Row} {es : List Int} {xs : List Nat}
theorem LCx.below (h : LCx w W lo hi A c ms B d rs E es C xs) (hb : Below W.heap.size W W') : LCx w W' lo hi A c ms B d rs E es C xs :=
  ⟨h.room.below hb, (hb.block _ (lt_of_some h.p)).trans h.p, h.ears.below hb, h.inp.below hb, h.bel.trans (hb.mono h.bel.size)⟩
theorem LCx.cells (h : LCx w W lo hi A c ms B d rs E es C xs) : W.cell? ⟨w.heap.size, 0, none⟩ = some (.slice A ms.length c) ∧ W.cell? ⟨w.heap.size, 1, none⟩ = some (.slice B rs.length d) := ⟨(r_cells h.p).1, (r_cells h.p).2.1⟩
end
theorem LCx.start (w : World) {lo hi c d : Nat} {A B E C : Option Addr} {ms : List MW} {rs : List Row} {es : List Int} {xs : List Nat} (h : RoomIn w lo hi A c ms B rs) (he : Rd w E (es.map (.int .i64))) (hx : Rd w C (f32s xs)) :
    LCx w (w.alloc (.cells #[.slice A ms.length c, .slice B rs.length d] 26)) lo hi A c ms B d rs E es C xs := by
  have hb : Below w.heap.size w (w.alloc (.cells #[.slice A ms.length c, .slice B rs.length d] 26)) := (Below.refl w.heap.size w).alloc (Nat.le_refl _) _
  exact ⟨h.below hb, heap_alloc_new w _, he.below hb, hx.below hb, hb⟩

set_option maxRecDepth 100000 in
set_option maxHeartbeats 400000 in
theorem notPlace_any (V : Value) (B : Option Addr) (d n g : Nat) (p : Nat) (w : World) (hp : p < n) (hn : n ≤ 17) (hg : w.heap[g]? = some (.cells #[V, .slice B n d] 26 (0, 0))) (_ : V.oneCell' = true) :
    Calls Try.prog 34 #[.int .i64 p, .pointer (some ⟨g, 0, none⟩)] w fun e w' => e = .returned (.bool false) ∧ Below w.heap.size w w' := by
  obtain ⟨r0, r1, _, _⟩ := r_cells hg
  clear hg
  go_enter Try.func34, Try.ntmps34
  go_wp2_with fail
  refine (isPlace_any V B d n p w hp hn).mono ?_
  rintro e w' ⟨rfl, hb⟩
  have HB := Lib.hid hb
  clear hb r0 r1
  go_wp2_with fail
  go_ret
  exact ⟨rfl, HB.out⟩

set_option maxRecDepth 100000 in
set_option maxHeartbeats 400000 in
theorem indexEar_any (V : Value) (B : Option Addr) (d n g t : Nat) (E : Option Addr) (ce : Nat) (es : List Int) (w : World) (hp : t < n) (hn : n ≤ 17) (hg : w.heap[g]? = some (.cells #[V, .slice B n d] 26 (0, 0))) (hV : V.oneCell' = true)
    (h : Rd w E (es.map (.int .i64))) (hes : ∀ i, i < es.length → es.getD i 0 = t) (hl : es.length ≤ 2000) :
    Calls Try.prog 61 #[.slice E es.length ce, .func (.func 34) #[] #[.pointer (some ⟨g, 0, none⟩)]] w fun e w' => e = .returned (.int .i64 (-1)) ∧ Below w.heap.size w w' := by
  have H := Lib.hid h
  have HE := Lib.hid hes
  have HG := Lib.hid hg
  clear h hes hg
  go_enter Try.func61, Try.ntmps61
  go_wp2_with fail
  go_loopw [8] (fun i wr => ∃ k : Nat, i = .int .i64 (k : Int) ∧ k ≤ es.length ∧ Hid (Below w.heap.size w wr)) (fun i _ => es.length - (intOf i).toNat)
  case atStart => exact ⟨0, rfl, by omega, Below.refl _ _⟩
  case round =>
    obtain ⟨k, rfl, hk, hb⟩ := hrel
    by_cases hlt : k < es.length
    · obtain ⟨b, off, rfl, hbl, hc⟩ := (H.out.below hb.out) (by simp; omega)
      have e1 := hc k (.int .i64 (es.getD k 0)) (by simp [List.getD, List.getElem?_eq_getElem hlt])
      rw [HE.out k hlt] at e1
      have hgl := lt_of_some HG.out
      have HG2 := Lib.hid ((hb.out.block g hgl).trans HG.out)
      clear hc
      go_wp2_with fail
      refine (notPlace_any V B d n g t _ hp hn HG2.out hV).mono ?_
      rintro e w' ⟨rfl, hb2⟩
      have HB := Lib.hid (hb.out.trans (hb2.mono hb.out.size))
      clear hb2 e1
      go_wp2_with fail
      go_roundw
      case rel => exact ⟨k + 1, by go_num, by omega, HB.out⟩
      case measure => simp [intOf]; omega
    · go_wp2_with fail
      go_ret
      exact ⟨rfl, hb.out⟩

set_option maxRecDepth 100000 in
set_option maxHeartbeats 400000 in
theorem containsEar_any (V : Value) (B : Option Addr) (d n g t : Nat) (E : Option Addr) (ce : Nat) (es : List Int) (w : World) (hp : t < n) (hn : n ≤ 17) (hg : w.heap[g]? = some (.cells #[V, .slice B n d] 26 (0, 0))) (hV : V.oneCell' = true)
    (h : Rd w E (es.map (.int .i64))) (hes : ∀ i, i < es.length → es.getD i 0 = t) (hl : es.length ≤ 2000) :
    Calls Try.prog 33 #[.slice E es.length ce, .func (.func 34) #[] #[.pointer (some ⟨g, 0, none⟩)]] w fun e w' => e = .returned (.bool false) ∧ Below w.heap.size w w' := by
  have H := Lib.hid h
  have HE := Lib.hid hes
  have HG := Lib.hid hg
  clear h hes hg
  go_enter Try.func33, Try.ntmps33
  go_wp2_with fail
  refine (indexEar_any V B d n g t E ce es _ hp hn HG.out hV H.out HE.out hl).mono ?_
  rintro e w' ⟨rfl, hb⟩
  have HB := Lib.hid hb
  clear hb
  go_wp2_with fail
  go_ret
  exact ⟨rfl, HB.out⟩
end Go.Proofs.Ytndnfhhdflmfcaa

/-
impl.ListenAlong: the walk.
-/
namespace Go.Proofs.Ytndnfhhdflmfcaa
open Go Go.RowKit Ieee

theorem state_one {m : MW} {s : Nat × Nat} {x i : Nat} (hm : ModeOk m.1 m.2.1 m.2.2.1 m.2.2.2) (hs : StOk (pw3 i) s) (hi : i ≤ 61) (fx : fin .f32 x) (hx : ab (fv .f32 x) ≤ 8) : ∀ W, fR .mul .f32 (stepW m s x).1 1065353216 W = (stepW m s x).1 := fun W => by
  obtain ⟨S, T⟩ := step_ok hm hs fx hx (pw3_lo i) (pw3_hi i hi)
  have e := mul_one T.n1 S.w1
  have := rnd_eq (op := .mul) (k := .f32) (x := (stepW m s x).1) (y := 1065353216) (by rw [e]; exact T.n1) W
  rw [e] at this
  exact this

set_option maxRecDepth 100000 in
set_option maxHeartbeats 1600000 in
theorem listenAlong_any (A : Option Addr) (c lo hi : Nat) (ms : List MW) (B : Option Addr) (d : Nat) (rs : List Row) (s t : Nat) (E : Option Addr) (ce : Nat) (es : List Int) (C : Option Addr) (cc : Nat) (xs : List Nat) (n : Nat) (w : World) (h : RoomIn w lo hi A c ms B rs) (hok : RoomOk ms rs 16 16) (hs : s < rs.length) (ht : t < rs.length)
    (hears : Rd w E (es.map (.int .i64))) (hes : ∀ i, i < es.length → es.getD i 0 = t) (hen : es.length = n) (hone : ∀ k, k < ms.length → rW rs t k = 1065353216) (hr : Rd w C (f32s xs)) (hx : xs.length ≤ 1048576) (hlow : Low xs) (hn : n ≤ 61) :
    Calls Try.prog 14 #[.agg #[.slice A ms.length c, .slice B rs.length d], .int .i64 s, .slice E es.length ce, .slice C xs.length cc] w fun r w' => ∃ (A' : Option Addr) (c' : Nat) (ys : List Nat), r = .returned (.tuple #[.slice A' ys.length c', .bool true]) ∧
      w'.ownsRow w.heap.size 31 1 (.slice A' ys.length c') ys.length (f32s ys) ∧ Rung (roomM ms (rW rs s)) xs ys n ∧ Below w.heap.size w w' := by
  subst hen
  have hl := hok.lm
  have hln := hok.ln
  have HK := Lib.hid hok
  have HL := Lib.hid hlow
  have HE := Lib.hid hes
  have HOne := Lib.hid hone
  have S1 := Lib.hid (LCx.start w (d := d) h hears hr)
  obtain ⟨r0, r1⟩ := S1.out.cells
  clear h hok hears hes hr hlow hone
  go_enter Try.func14, Try.ntmps14
  go_wp2_with fail
  generalize w.alloc (.cells #[.slice A ms.length c, .slice B rs.length d] 26) = W1 at *
  refine (isRoom_any A c lo hi ms B d rs W1 S1.out.room HK.out).mono ?_
  rintro r W2 ⟨rfl, hb⟩
  have S2 := Lib.hid (S1.out.below hb)
  clear r0 r1 hb S1
  obtain ⟨r0, r1⟩ := S2.out.cells
  go_wp2_with fail
  refine (isPlace_any _ B d rs.length s W2 hs (by omega)).mono ?_
  rintro r W3 ⟨rfl, hb⟩
  have S3 := Lib.hid (S2.out.below hb)
  clear r0 r1 hb S2
  obtain ⟨r0, r1⟩ := S3.out.cells
  go_wp2_with fail
  refine (containsEar_any _ B d rs.length w.heap.size t E ce es W3 ht (by omega) S3.out.p rfl S3.out.ears HE.out (by omega)).mono ?_
  rintro r W4 ⟨rfl, hb⟩
  have S4 := Lib.hid (S3.out.below hb)
  clear r0 r1 hb S3
  obtain ⟨r0, r1⟩ := S4.out.cells
  go_wp2_with fail
  refine (clone_any A c lo hi ms W4 S4.out.room.own hl).mono ?_
  intro r W5 hp
  unfold CloneP at hp
  obtain ⟨A', c', rfl, ho, hb⟩ := hp
  have hsz5 := hb.size
  have B5 := Lib.hid hb
  have HO5 := Lib.hid ho
  clear r0 r1 hb ho
  go_wp2_with fail
  generalize hoo : W5.heap.size = o at *
  go_loopw [11, 44] (fun _ i wr => ∃ (k : Nat) (L : List MW), i = .int .i64 (k : Int) ∧ k ≤ ms.length ∧ Hid (Gained (rW rs s) ms k L) ∧ Hid (OwnM wr W4.heap.size o A' c' L) ∧ Hid (Below W4.heap.size W4 wr) ∧ Hid (o ≤ wr.heap.size)) (fun _ i _ => ms.length - (intOf i).toNat)
  case atStart => exact ⟨0, ms, rfl, by omega, Gained.zero _ ms, HO5.out, B5.out, Nat.le_of_eq hoo.symm⟩
  case round =>
    clear HO5 B5
    obtain ⟨k, L, rfl, hk, HD, HO, HSb, HZ⟩ := hrel
    have HS := Lib.hid (S4.out.below HSb.out)
    obtain ⟨r0, r1⟩ := HS.out.cells
    by_cases hlt : k < ms.length
    · have hLl : k < L.length := by rw [HD.out.1]; exact hlt
      obtain ⟨bs, os, bs', os', cs', rfl, es1, es2⟩ := HS.out.room.row HK.out.sh hs hlt
      obtain ⟨b, rfl, hb1, hb2, hlc, hmx, hcell⟩ := HO.out.cells (by omega)
      have hm : mAt L k = mAt ms k := by have := HD.out.2 k hlt; rwa [if_neg (by omega)] at this
      have e1 : wr.cell? ⟨b, k * 2 + 1, none⟩ = some (.complex .f32 (mAt ms k).2.2.1 (mAt ms k).2.2.2) := by rw [← hm]; exact (hcell k hLl).2
      have f0 := HO.out.frozen (k * 2 + 1)
      have hwt := (HK.out.sh s hs).2 k hlt
      have hgf := gain_fin (HK.out.ok.at_ hlt) hwt
      have HD2 := Lib.hid (HD.out.set hlt)
      obtain ⟨g, hg⟩ : ∃ g, rW rs s k = g := ⟨_, rfl⟩
      have hg' : (rowAt rs s).2.2.getD k 0 = g := hg
      rw [hg'] at hgf
      rw [hg] at es2
      have T := Lib.hid (fun W => implScaleS_any (mAt ms k).2.2.1 (mAt ms k).2.2.2 g W hgf.1 hgf.2)
      have HO2 : Hid (∀ n, OwnM ((wr.drewN n).setCell ⟨b, k * 2 + 1, none⟩ (.complex .f32 (fo .mul .f32 (mAt ms k).2.2.1 g) (fo .mul .f32 (mAt ms k).2.2.2 g))) W4.heap.size o (some ⟨b, 0, none⟩) c' (L.set k (gainM (rW rs s k) (mAt ms k)))) := fun n => by
        have h0 : OwnM (wr.drewN n) W4.heap.size o (some ⟨b, 0, none⟩) c' L := HO.out
        have := h0.setGain (p := fo .mul .f32 (mAt ms k).2.2.1 g) (q := fo .mul .f32 (mAt ms k).2.2.2 g) hLl
        rw [hm] at this
        rw [hg]
        exact this
      have HS2 : Hid (∀ n V, Below W4.heap.size W4 ((wr.drewN n).setCell ⟨b, k * 2 + 1, none⟩ V)) := fun n V => (below_drewN HSb.out n).setCell hb1 V
      have hlen : L.length = ms.length := HD.out.1
      clear hm hcell hgf hg' hwt hg
      generalize (mAt ms k).2.2.1 = p at *
      generalize (mAt ms k).2.2.2 = q at *
      go_wp2_with fail
      go_region_with (first
        | (go_at_call 36
           refine (T.out _).mono ?_
           rintro e w' ⟨rfl, nq2, rfl⟩))
      all_goals
       go_wp2_with fail
       go_roundw
       case rel => exact ⟨k + 1, _, by go_num, by omega, HD2.out, HO2.out _, HS2.out _ _, by show o ≤ _; have := HZ.out; simpa using this⟩
       case measure => simp [intOf]; omega
    · obtain rfl : k = ms.length := by omega
      have hL := HD.out.done
      subst hL
      have HMl := Lib.hid (roomM_len ms (rW rs s))
      have HMo : Hid (ModesOk (roomM ms (rW rs s))) := roomM_ok HK.out.ok fun k hk => (HK.out.sh s hs).2 k hk
      obtain ⟨M, hM⟩ : ∃ M, roomM ms (rW rs s) = M := ⟨_, rfl⟩
      have hMl : M.length = ms.length := by rw [← hM]; exact HMl.out
      rw [hM] at HMo HO HD
      have HMs := Lib.hid hM
      clear hM HMl HD
      have HMl := Lib.hid hMl
      have hmk := fun W => run_make_row' (P := Try.prog) 76 72 (.complex .f32 0 0) 8 Try.underlying76 c64_info rfl .i64 .i64 ms.length (by omega) (by omega) W
      have hz1 : (wr.alloc (.cells (madeCells #[.complex .f32 0 0] ms.length) 72)).heap.size = wr.heap.size + 1 := by simp
      have hz2 : ((wr.alloc (.cells (madeCells #[.complex .f32 0 0] ms.length) 72)).alloc (.cells #[] 31)).heap.size = wr.heap.size + 2 := by simp
      have Row0 : Hid (((wr.alloc (.cells (madeCells #[.complex .f32 0 0] ms.length) 72)).alloc (.cells #[] 31)).rowIs wr.heap.size 72 ms.length (fun i => sV (sAt (stAt M xs 0) i))) :=
        ((World.rowIs_made wr (.complex .f32 0 0) ms.length 72).alloc _).congr fun i hi => by
          have : i < M.length := by rw [HMl.out]; exact hi
          simp [stAt, sAt, sV, List.getD, this]
      have Own0 : Hid (((wr.alloc (.cells (madeCells #[.complex .f32 0 0] ms.length) 72)).alloc (.cells #[] 31)).ownsRow (wr.heap.size + 1) 31 1 (.slice (some ⟨wr.heap.size + 1, 0, none⟩) 0 0) 0 (f32s [])) := by
        have := owns_empty (wr.alloc (.cells (madeCells #[.complex .f32 0 0] ms.length) 72)) 31
        rw [hz1] at this; exact this
      have hb0 : Below wr.heap.size wr ((wr.alloc (.cells (madeCells #[.complex .f32 0 0] ms.length) 72)).alloc (.cells #[] 31)) := ((Below.refl wr.heap.size wr).alloc (Nat.le_refl _) _).alloc (by rw [hz1]; omega) _
      have B0 : Hid (Below W4.heap.size W4 ((wr.alloc (.cells (madeCells #[.complex .f32 0 0] ms.length) 72)).alloc (.cells #[] 31))) := HSb.out.trans (hb0.mono HSb.out.size)
      have OM0 : Hid (OwnM ((wr.alloc (.cells (madeCells #[.complex .f32 0 0] ms.length) 72)).alloc (.cells #[] 31)) W4.heap.size o A' c' M) := HO.out.below hb0 HZ.out
      have hog : o ≤ wr.heap.size := HZ.out
      have h4g : W4.heap.size ≤ wr.heap.size := HSb.out.size
      clear hMl hb0 hz1
      go_wp2_with fail
      generalize (wr.alloc (.cells (madeCells #[.complex .f32 0 0] ms.length) 72)).alloc (.cells #[] 31) = W6 at *
      clear HSb HS HO HZ r0 r1
      generalize wr.heap.size = g at *
      go_loopw [13, 14, 15, 16, 17, 18, 19, 72] (fun v _ _ _ _ _ _ i wr => ∃ (k : Nat) (ys : List Nat), i = .int .i64 (k : Int) ∧ k ≤ es.length ∧ wr.ownsRow (g + 1) 31 1 v k (f32s ys) ∧ Hid (Rung M xs ys k) ∧ Hid (wr.rowIs g 72 ms.length (fun i => sV (sAt (stAt M xs k) i))) ∧
        Hid (OwnM wr W4.heap.size o A' c' M) ∧ Hid (Below W4.heap.size W4 wr) ∧ g + 2 ≤ wr.heap.size) (fun _ _ _ _ _ _ _ i _ => es.length - (intOf i).toNat)
      case atStart => exact ⟨0, [], rfl, by omega, Own0.out, ⟨rfl, fun i hi => absurd hi (Nat.not_lt_zero _)⟩, Row0.out, OM0.out, B0.out, by omega⟩
      case round =>
        clear Own0 Row0 OM0 B0 hz2
        obtain ⟨k, ys, rfl, hk, hown, HRg, HRow, HOM, HBl, hg2⟩ := hrel
        have HS := Lib.hid (S4.out.below HBl.out)
        obtain ⟨r0, r1⟩ := HS.out.cells
        by_cases hlt : k < es.length
        · obtain ⟨b, off, rfl, hbl, hc⟩ := HS.out.ears (by simp; omega)
          have e1 := hc k (.int .i64 (es.getD k 0)) (by simp [List.getD, List.getElem?_eq_getElem hlt])
          rw [HE.out k hlt] at e1
          clear hc
          have hlow := Lib.hid (HL.out.at_ k)
          have hcm := Lib.hid (calm_of HMo.out HL.out (k + 1) (by omega) k (by omega))
          go_wp2_with fail
          refine (element_any C cc xs k _ HS.out.inp hx (by omega)).mono ?_
          rintro r w' ⟨rfl, rfl⟩
          go_wp2_with fail
          have hstep := step_any A' c' W4.heap.size o g M (stAt M xs k) (inAt xs k) wr HOM.out hog HMo.out (by rw [HMl.out]; exact hl) (stAt_len _ _ _) (by rw [HMl.out]; exact HRow.out) hcm.out
          rw [HMl.out] at hstep
          refine hstep.mono ?_
          clear hstep
          rintro r W7 ⟨r7, rfl, _, _, hrow7, hgr7⟩
          have hs7 : wr.heap.size ≤ W7.heap.size := hgr7.size
          have blk7 : ∀ j, j < wr.heap.size → j ≠ g → W7.heap[j]? = wr.heap[j]? := fun j hj hn => hgr7.block j hj (by intro e; injection e with e; exact hn e)
          have Row7 := Lib.hid hrow7
          have OM7 : Hid (OwnM W7 W4.heap.size o A' c' M) := HOM.out.keep fun j _ hj => blk7 j (by omega) (by omega)
          have B7 : Hid (Below W4.heap.size W4 W7) := ⟨hgr7.os.trans HBl.out.os, hgr7.tape.trans HBl.out.tape, hgr7.output.trans HBl.out.output, Nat.le_trans HBl.out.size hs7, fun j hj => (blk7 j (by omega) (by omega)).trans (HBl.out.block j hj)⟩
          have Own7 : Hid (W7.ownsRow (g + 1) 31 1 u13 k (f32s ys)) := owns_keep hown fun j h1 h2 => blk7 j h2 (by omega)
          have hg7 : g + 2 ≤ W7.heap.size := by omega
          have HS7 := Lib.hid (S4.out.below B7.out)
          clear hrow7 hgr7 blk7 hown HRow HOM HBl HS r0 r1 e1 hlow hcm
          go_wp2_with fail
          go_loopw [16, 17, 18, 19, 85] (fun sm _ _ _ jj wr2 => ∃ (j r m : Nat), jj = .int .i64 (j : Int) ∧ sm = .float .f32 r ∧ j ≤ ms.length ∧ Hid (nrm .f32 r = outAt M (stAt M xs k) (inAt xs k) j ∧ wfk .f32 r) ∧ wr2 = W7.drewN m) (fun _ _ _ _ jj _ => ms.length - (intOf jj).toNat)
          case atStart => exact ⟨0, 0, 0, rfl, rfl, by omega, ⟨nrm_of_num (by decide +kernel), by rw [wfk_32]; omega⟩, (World.drewN_zero W7).symm⟩
          case round =>
            obtain ⟨j, r, m, rfl, rfl, hj, hr, rfl⟩ := hrel
            by_cases hltj : j < ms.length
            · have s0 := Row7.out.cell hltj
              rw [nextS_at (by rw [stAt_len, HMl.out]; exact hltj)] at s0
              have hjM : j < M.length := by rw [HMl.out]; exact hltj
              have hone := state_one (HMo.out.at_ hjM) (states_ok HMo.out HL.out k (by omega) j hjM) (by omega) (HL.out.at_ k).1 (HL.out.at_ k).2
              have HO : Hid (outAt M (stAt M xs k) (inAt xs k) (j + 1) = fo .add .f32 (outAt M (stAt M xs k) (inAt xs k) j) (stepW (mAt M j) (sAt (stAt M xs k) j) (inAt xs k)).1) := rfl
              change ∀ W, fR .mul .f32 (stepW (mAt M j) (sAt (stAt M xs k) j) (inAt xs k)).1 1065353216 W = (stepW (mAt M j) (sAt (stAt M xs k) j) (inAt xs k)).1 at hone
              obtain ⟨z, hz⟩ : ∃ z, stepW (mAt M j) (sAt (stAt M xs k) j) (inAt xs k) = z := ⟨_, rfl⟩
              rw [hz] at s0 hone HO
              clear hz
              obtain ⟨z1, z2⟩ := z
              unfold sV at s0
              simp only at s0 hone HO
              obtain ⟨bt, ot, bt', ot', ct', eB, et1, et2⟩ := HS7.out.room.row HK.out.sh ht hltj
              rw [HOne.out j hltj] at et2
              obtain ⟨q0, q1⟩ := HS7.out.cells
              rw [eB] at q1
              have hgw := Row7.out.lt
              go_wp2_with fail
              go_roundw
              case rel => exact ⟨j + 1, _, _, by go_num, rfl, by omega, ⟨by rw [nrm_fR, HO.out]; exact fo_congr (by rw [hr.out.1, nrm_outAt]) rfl, fR_lt _ _ _ _ _⟩, rfl⟩
              case measure => simp [intOf]; omega
            · obtain rfl : j = ms.length := by omega
              have Own8 : (W7.drewN m).ownsRow (g + 1) 31 1 u13 k (f32s ys) := Own7.out
              have hg8 : g + 1 ≤ (W7.drewN m).heap.size := by show g + 1 ≤ W7.heap.size; omega
              go_wp2_with (at_builtin; refine wpList_app1 rfl (.tmp 105) (.tmp 107) 28 rfl (g + 1) 31 (.float .f32 0) 4 Try.underlying28 f32_info rfl u13 k (f32s ys) _ rfl rfl rfl Own8 hg8 (by omega) (by omega) ?_; intro v' w' hown' hbel')
              go_roundw
              case rel =>
                have hbl : Below W7.heap.size W7 (W7.drewN m) := below_drewN (Below.refl _ _) m
                refine ⟨k + 1, ys ++ [r], by go_num, by omega, by simpa [f32s] using hown', rung_snoc HRg.out (by rw [hr.out.1, HMl.out]) hr.out.2, ?_, ?_, ?_, ?_⟩
                · exact Row7.out.of_block (hbel'.block g (by omega))
                · exact OM7.out.keep fun j _ hj => hbel'.block j (by omega)
                · exact (below_drewN B7.out m).trans (hbel'.mono (by omega))
                · have := hbel'.size
                  have e : (W7.drewN m).heap.size = W7.heap.size := rfl
                  omega
              case measure => simp [intOf]; omega
        · obtain rfl : k = es.length := by omega
          obtain ⟨A9, c9, hv, _, _⟩ := own_rd hown
          subst hv
          have hwL : w.heap.size ≤ W4.heap.size := S4.out.bel.size
          go_wp2_with fail
          go_ret2
          have e := HRg.out.1
          have el : (f32s ys).length = es.length := by simp [f32s, e]
          exact ⟨A9, c9, ys, by rw [e]; rfl, by rw [e]; exact owns_lower hown (by omega), by rw [HMs.out]; exact HRg.out, HS.out.bel⟩
end Go.Proofs.Ytndnfhhdflmfcaa
