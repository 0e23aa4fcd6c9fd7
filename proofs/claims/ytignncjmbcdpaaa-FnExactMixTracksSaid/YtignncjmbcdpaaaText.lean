/-
spec.FormatSingle of a number from 0 to 1; spec.l7Limits.
-/
import Derived.Test.YtignncjmbcdpaaaNumber
import Derived.Test.YtignncjmbcdpaaaLimitAny
import Derived.Test.YtignncjmbcdpaaaAny
import Derived.Test.YtignncjmbcdpaaaCplxWalk
namespace Go.Proofs.Ytignncjmbcdpaaa
open Go Go.RowKit Ieee

/-- A positive number of single precision that is at most 1. -/
theorem pos_parts {r : Nat} (hr : fin .f32 r) (h0 : 0 < fv .f32 r) (h1 : fv .f32 r ≤ 1) : ∃ N k : Nat, fv .f32 r = (N : Rat) * pw (-(k : Int)) ∧ 0 < N ∧ N < 2 ^ 24 ∧ k ≤ 149 := by
  obtain ⟨s, m, e, hrd⟩ := hr
  obtain ⟨b1, b2, b3, b4, _⟩ := read_bounds FloatKind.f32.format (by decide) hrd
  have e1 : FloatKind.f32.format.leastPlace = -149 := by decide +kernel
  have e2 : FloatKind.f32.format.binade = 8388608 := by decide +kernel
  rw [e1] at b1
  rw [e2] at b2
  have hv : fv .f32 r = if s = true then -mval m e else mval m e := by unfold fv; rw [hrd, dval_num]
  have hm0 := mval_nonneg m e
  have hs : s = false := by
    cases s
    · rfl
    · simp only [if_true] at hv; exfalso; grind
  subst hs
  simp only [Bool.false_eq_true, if_false] at hv
  rw [hv] at h0 h1
  have hm : 0 < m := by
    rcases Nat.eq_zero_or_pos m with hz | hz
    · subst hz; rw [mval_zero] at h0; grind
    · exact hz
  have he : e ≤ 0 := by
    rcases Int.lt_or_le 0 e with h | h
    · exfalso
      have h2 : mval 1 1 ≤ mval m e := by
        refine Rat.le_trans (mval_le (e := 1) hm) ?_
        exact Rat.mul_le_mul_of_nonneg_left (pw_mono (by omega)) Rat.natCast_nonneg
      have h3 : mval 1 1 = 2 := by unfold mval pw; grind
      grind
    · exact h
  refine ⟨m, (-e).toNat, ?_, hm, by omega, by omega⟩
  rw [hv, show -(((-e).toNat : Nat) : Int) = e by omega]; rfl

theorem sign_flt (w : World) : flt .f64 (fR .quo .f64 4607182418800017408 0 w) 0 = false ∧ flt .f64 (fR .quo .f64 4607182418800017408 9223372036854775808 w) 0 = true := by
  have h1 : floatBits .quo .f64 4607182418800017408 0 = some 9218868437227405312 := by decide +kernel
  have h2 : floatBits .quo .f64 4607182418800017408 9223372036854775808 = some 18442240474082181120 := by decide +kernel
  constructor
  · unfold fR; rw [h1]
    show flt .f64 9218868437227405312 0 = false
    decide +kernel
  · unfold fR; rw [h2]
    show flt .f64 18442240474082181120 0 = true
    decide +kernel

/-- What FormatDouble returns: the text of -0, or another. -/
def TextPost (x : Nat) (w : World) (e : Ending) (w' : World) : Prop :=
  ∃ s : ByteArray, e = .returned (.string s) ∧ (s.toList == [45, 48]) = signB x ∧ Below w.heap.size w w'
theorem not_minus {s : ByteArray} (h : s.size ≠ 2) : (s.toList == [45, 48]) = false := by
  cases hc : (s.toList == [45, 48])
  · rfl
  · exfalso
    have := eq_of_beq hc
    rw [ByteArray.toList_eq] at this
    have h2 := congrArg List.length this
    simp at h2
    exact h h2
theorem sign_pos {x : Nat} (hx : fin .f64 x) (hw : wfk .f64 x) (h : 0 < fv .f64 x) : signB x = false := by
  obtain ⟨s, m, e, hr⟩ := hx
  obtain ⟨_, _, _, _, _, h6⟩ := read_bounds FloatKind.f64.format (by decide) hr
  have hs : FloatKind.f64.format.signWeight = 9223372036854775808 := by decide +kernel
  rw [hs] at h6
  have hm0 := mval_nonneg m e
  have hv : fv .f64 x = if s = true then -mval m e else mval m e := by unfold fv; rw [hr, dval_num]
  cases hc : signB x
  · rfl
  · exfalso
    have h1 : 9223372036854775808 ≤ x := of_decide_eq_true hc
    rw [wfk_64] at hw
    have : s = true := by rw [h6]; simp; omega
    subst this
    simp only [if_true] at hv
    grind

set_option maxRecDepth 100000 in
set_option maxHeartbeats 400000 in
theorem format_any (x r : Nat) (w : World) (hx : fin .f64 x) (hw : wfk .f64 x) (hv : fv .f64 x = fv .f32 r) (hr : fin .f32 r) (h0 : 0 ≤ fv .f32 r) (h1 : fv .f32 r ≤ 1) :
    Calls Try.prog 159 #[.float .f64 x] w (TextPost x w) := by
  obtain ⟨z1, z2⟩ := zero_fin .f64
  have hfin : feq .f64 (fo .sub .f64 x x) 0 = true := by rw [fin_sub]; exact (finB_iff x).2 hx
  cases t : feq .f64 x 0
  · have hpos : 0 < fv .f32 r := by
      rcases Rat.le_iff_lt_or_eq.1 h0 with h | h
      · exact h
      · have : feq .f64 x 0 = true := (feq_iff hx z1).2 (by rw [hv, z2, ← h])
        rw [this] at t; cases t
    have hsg : signB x = false := sign_pos hx hw (by rw [hv]; exact hpos)
    have hlt : flt .f64 x 0 = false := by
      cases hc : flt .f64 x 0
      · rfl
      · have := (flt_iff hx z1).1 hc
        rw [z2, hv] at this; grind
    obtain ⟨N, k, p1, p2, p3, p4⟩ := pos_parts hr hpos h1
    obtain ⟨a1, a2⟩ := absB_fin hx
    have a3 : fv .f64 (absB x) = (N : Rat) * pw (-(k : Int)) := by rw [a2, hv, ab_of_nonneg h0, p1]
    have PA := Lib.hid (fun w => parts_any (absB x) N k w a1 a3 p2 p3 p4)
    have SG := Lib.hid hsg
    clear a1 a2 a3 p1 p2 p3 p4 hsg hv hr h0 h1 hpos hx
    go_enter Try.func159, Try.ntmps159
    go_wp2_with fail
    refine (l1Finite_any x _).mono ?_
    rintro e w' ⟨n1, rfl, rfl⟩
    rw [hfin]
    go_wp2_with fail
    refine (l1Abs_any x _).mono ?_
    rintro e w' ⟨rfl, rfl⟩
    go_wp2_with fail
    refine (PA.out _).mono ?_
    rintro e w' ⟨m, j, n2, rfl, m1, m2, j1, j2, rfl⟩
    go_wp2_with fail
    refine (number_any m _ (by omega) (by omega)).mono ?_
    rintro e w1 ⟨s1, rfl, l1, l2, hb1⟩
    have HB1 : Hid (Below w.heap.size w w1) := (below_drewN (Below.refl _ _) _).trans hb1
    have hadd1 := join_text (a := ⟨#[]⟩) (b := s1) (by decide) (by omega)
    have hsz1 : ((⟨#[]⟩ : ByteArray) ++ s1).size = s1.size := by rw [ByteArray.size_append]; have : (ByteArray.mk #[]).size = 0 := rfl; omega
    generalize (⟨#[]⟩ : ByteArray) ++ s1 = u1 at *
    have hadd2 := join_text (a := u1) (b := ⟨#[112]⟩) (by omega) (by decide)
    have hsz2 : (u1 ++ (⟨#[112]⟩ : ByteArray)).size = u1.size + 1 := by rw [ByteArray.size_append]; rfl
    generalize u1 ++ (⟨#[112]⟩ : ByteArray) = u2 at *
    clear hb1
    go_wp2_with fail
    refine (number_any j _ (by omega) (by omega)).mono ?_
    rintro e w2 ⟨s2, rfl, l3, l4, hb2⟩
    have HB2 : Hid (Below w.heap.size w w2) := HB1.out.trans (hb2.mono HB1.out.size)
    have hadd3 := join_text (a := u2) (b := s2) (by omega) (by omega)
    have hsz3 : (u2 ++ s2).size = u2.size + s2.size := ByteArray.size_append
    generalize u2 ++ s2 = u3 at *
    clear hb2
    go_wp2_with fail
    go_ret
    exact ⟨u3, rfl, by rw [SG.out]; exact not_minus (by omega), HB2.out⟩
  · rcases feq_zero hw t with rfl | rfl
    · have s0 := fun w => (sign_flt w).1
      go_enter Try.func159, Try.ntmps159
      go_wp2_with fail
      refine (l1Finite_any _ _).mono ?_
      rintro e w' ⟨n1, rfl, rfl⟩
      rw [hfin]
      go_wp2_with fail
      go_ret
      exact ⟨_, rfl, by rw [not_minus (by decide)]; decide, below_drewN (Below.refl _ _) _⟩
    · have s0 := fun w => (sign_flt w).2
      go_enter Try.func159, Try.ntmps159
      go_wp2_with fail
      refine (l1Finite_any _ _).mono ?_
      rintro e w' ⟨n1, rfl, rfl⟩
      rw [hfin]
      go_wp2_with fail
      go_ret
      exact ⟨_, rfl, by rw [ByteArray.toList_eq]; decide, below_drewN (Below.refl _ _) _⟩
end Go.Proofs.Ytignncjmbcdpaaa
