/-
The values of FnPair: all numbers are exact but the two quotients. (Plain arithmetic.)
-/
import Derived.Test.YtignncjmbcdpaaaFitPair
namespace Go.Proofs.Ytignncjmbcdpaaa
open Go Go.RowKit Ieee

/-- int(x), cut towards zero. -/
theorem to_int_any {x : Nat} (hx : fin .f64 x) (h1 : ab (fv .f64 x) < 2 ^ 53) : ∃ n : Int, floatToIntVal .f64 x .i64 = some n ∧ ((n.natAbs : Nat) : Rat) ≤ ab (fv .f64 x) := by
  obtain ⟨s, m, i, hr⟩ := hx
  have hd : FloatKind.f64.decode x = .number s m i := hr
  have hv : ab (fv .f64 x) = mval m i := by unfold fv; rw [hr, dval_ab]
  have key : mval m i = mval (m * 2 ^ i.toNat) (-(((-i).toNat : Nat) : Int)) := by
    rw [mval_scale']; congr 1; omega
  obtain ⟨f1, f2⟩ := floor_val (m * 2 ^ i.toNat) (-i).toNat
  rw [← key, ← hv] at f1 f2
  have hi : (FloatKind.f64.decode x).toInt .zero = some (signed s (m * 2 ^ i.toNat / 2 ^ (-i).toNat) 0) := by
    rw [hd]; unfold Datum.toInt Datum.integral
    simp only [cut_zero, Nat.shiftLeft_eq]
  generalize m * 2 ^ i.toNat / 2 ^ (-i).toNat = q at *
  have hq : q < 2 ^ 53 := by
    have h2 : (q : Rat) < ((2 ^ 53 : Nat) : Rat) := by
      have : ((2 ^ 53 : Nat) : Rat) = 2 ^ 53 := by simp; grind
      rw [this]; grind
    exact Rat.natCast_lt_natCast.1 h2
  have hs : (signed s q 0).natAbs = q := by cases s <;> simp [signed]
  refine ⟨signed s q 0, ?_, by rw [hs]; exact f1⟩
  unfold floatToIntVal
  rw [hi]
  have e1 : IntKind.i64.min = -9223372036854775808 := by decide
  have e2 : IntKind.i64.max = 9223372036854775807 := by decide
  simp only [e1, e2]
  rw [if_pos (by omega)]
theorem Ex.eq {x y : Nat} {n m : Int} {e B C : Nat} (h : Ex x n e B) (g : Ex y m e C) : feq .f64 x y = decide (n = m) := by
  have hp := pw_pos (-(e : Int))
  by_cases hn : n = m
  · subst hn
    rw [(feq_iff h.f g.f).2 (by rw [h.v, g.v])]; simp
  · cases hc : feq .f64 x y
    · simp [hn]
    · exfalso
      have := (feq_iff h.f g.f).1 hc
      rw [h.v, g.v] at this
      have hne : ((n - m : Int) : Rat) ≠ 0 := fun h => hn (Int.sub_eq_zero.1 (by exact_mod_cast h))
      have h0 : ((n - m : Int) : Rat) * pw (-(e : Int)) = 0 := by rw [Rat.intCast_sub]; grind
      rcases Rat.mul_eq_zero.1 h0 with h | h
      · exact hne h
      · grind
theorem ex16 : Ex 4625196817309499392 16 0 16 := ⟨w16.1, by rw [w16.2, show -((0 : Nat) : Int) = 0 from rfl, pw_zero]; simp, by decide⟩
/-- A part made a whole number of sixteenths. -/
theorem sixteenth {x : Nat} {n : Int} (h : Ex x n 6 64) : ∃ k : Int, floatToIntVal .f64 (fo .mul .f64 x 4625196817309499392) .i64 = some k ∧ fin .f64 (fo .mul .f64 x 4625196817309499392) ∧ Ex (fo .quo .f64 (floatOfInt .f64 k) 4625196817309499392) k 4 16 := by
  have hm := h.mul ex16 (by omega) (by omega)
  have hb := hm.v
  have e : ab (fv .f64 (fo .mul .f64 x 4625196817309499392)) ≤ 16 := by
    rw [hb, ab_mul, ab_of_nonneg (Rat.le_of_lt (pw_pos _))]
    have hn := h.b
    have h2 : ab ((n * 16 : Int) : Rat) ≤ 1024 := by
      have h3 : ((n * 16 : Int) : Rat) ≤ ((1024 : Int) : Rat) := Rat.intCast_le_intCast.2 (by omega)
      have h4 : ((-(n * 16) : Int) : Rat) ≤ ((1024 : Int) : Rat) := Rat.intCast_le_intCast.2 (by omega)
      rw [Rat.intCast_neg] at h4
      have e : ((1024 : Int) : Rat) = 1024 := by simp
      rw [e] at h3 h4
      exact ab_le h3 h4
    have hp : pw (-((6 + 0 : Nat) : Int)) = 1 / 64 := by unfold pw; grind
    rw [hp]
    grind
  obtain ⟨k, k1, k2⟩ := to_int_any hm.f (by grind)
  have hk : k.natAbs ≤ 16 := by
    have : ((k.natAbs : Nat) : Rat) ≤ ((16 : Nat) : Rat) := by
      have e16 : ((16 : Nat) : Rat) = 16 := by simp
      rw [e16]; grind
    exact Rat.natCast_le_natCast.1 this
  exact ⟨k, k1, hm.f, (Ex.int k 16 hk (by omega)).quo w16.1 p16 (by omega) (by omega)⟩

/-- The whole numbers of a mode that rings. -/
def gz (p1 p2 a1 a2 : Int) : Nat → Int × Int
  | 0 => (a1, a2)
  | k + 1 => ((gz p1 p2 a1 a2 k).1 * p1 - (gz p1 p2 a1 a2 k).2 * p2, (gz p1 p2 a1 a2 k).1 * p2 + (gz p1 p2 a1 a2 k).2 * p1)
theorem zC_ex {p a : Nat × Nat} {p1 p2 a1 a2 : Int} (hp : CEx p.1 p.2 p1 p2 4 16) (ha : CEx a.1 a.2 a1 a2 4 64) (k : Nat) (hk : k ≤ 5) :
    CEx (zC p a k).1 (zC p a k).2 (gz p1 p2 a1 a2 k).1 (gz p1 p2 a1 a2 k).2 (4 + 4 * k) (64 * 32 ^ k) := by
  induction k with
  | zero => exact ha
  | succ k ih =>
    have h := ih (by omega)
    have hb : 32 ^ k ≤ 32 ^ 4 := Nat.pow_le_pow_right (by decide) (by omega)
    have hm := h.mul hp (by omega) (by omega)
    have e1 : 2 * (64 * 32 ^ k * 16) = 64 * 32 ^ (k + 1) := by rw [Nat.pow_succ]; omega
    have e2 : 4 + 4 * k + 4 = 4 + 4 * (k + 1) := by omega
    rw [e1, e2] at hm
    exact hm
/-- The sums. -/
def sumZ (p a q b : Nat × Nat) (k : Nat) : Nat × Nat := (fo .add .f64 (zC p a k).1 (zC q b k).1, fo .add .f64 (zC p a k).2 (zC q b k).2)
def sumL (p a q b : Nat × Nat) (n : Nat) : List (Nat × Nat) := (List.range n).map (sumZ p a q b)
theorem sumL_at {p a q b : Nat × Nat} {n k : Nat} (h : k < n) : cgetD (sumL p a q b n) k = sumZ p a q b k := by
  simp [cgetD, sumL, List.getD, h]
theorem sumZ_ex {p a q b : Nat × Nat} {p1 p2 a1 a2 q1 q2 b1 b2 : Int} (hp : CEx p.1 p.2 p1 p2 4 16) (ha : CEx a.1 a.2 a1 a2 4 64) (hq : CEx q.1 q.2 q1 q2 4 16) (hb : CEx b.1 b.2 b1 b2 4 64) (k : Nat) (hk : k ≤ 4) :
    CEx (sumZ p a q b k).1 (sumZ p a q b k).2 ((gz p1 p2 a1 a2 k).1 + (gz q1 q2 b1 b2 k).1) ((gz p1 p2 a1 a2 k).2 + (gz q1 q2 b1 b2 k).2) (4 + 4 * k) (128 * 32 ^ k) := by
  have hb2 : 32 ^ k ≤ 32 ^ 4 := Nat.pow_le_pow_right (by decide) (by omega)
  have h := (zC_ex hp ha k (by omega)).add (zC_ex hq hb k (by omega)) (by omega) (by omega)
  have e1 : 64 * 32 ^ k + 64 * 32 ^ k = 128 * 32 ^ k := by omega
  rw [e1] at h
  exact h
theorem CEx.fin {x y : Nat} {n m : Int} {e B : Nat} (h : CEx x y n m e B) : finC (x, y) := ⟨h.re.f, h.im.f⟩
/-- A quotient that is exactly (s1, s2) / 2^g, within 2^-42. -/
theorem near_quot {x y c d : Nat} {n m k l s1 s2 : Int} {e f g B C : Nat} (h : CEx x y n m e B) (hd : CEx c d k l f C) (he : e = f + g) (hne : ¬(k = 0 ∧ l = 0)) (h1 : n = s1 * k - s2 * l) (h2 : m = s1 * l + s2 * k)
    (hB : B < 2 ^ 53) (hC : C < 2 ^ 53) (hf : f ≤ 100) (hs1 : ab ((s1 : Rat) * pw (-(g : Int))) ≤ 2) (hs2 : ab ((s2 : Rat) * pw (-(g : Int))) ≤ 2) :
    (fin .f64 (quoRe x y c d) ∧ ab (fv .f64 (quoRe x y c d) - (s1 : Rat) * pw (-(g : Int))) ≤ 1 / 2 ^ 42) ∧ (fin .f64 (quoIm x y c d) ∧ ab (fv .f64 (quoIm x y c d) - (s2 : Rat) * pw (-(g : Int))) ≤ 1 / 2 ^ 42) := by
  subst he
  have hpw : pw (-((f + g : Nat) : Int)) = pw (-(f : Int)) * pw (-(g : Int)) := by rw [← pw_add]; congr 1; omega
  have b1 := h.re.b
  have b2 := h.im.b
  have b3 := hd.re.b
  have b4 := hd.im.b
  have big : ∀ j : Int, j ≠ 0 → pw (-300) ≤ ab ((j : Rat) * pw (-(f : Int))) := fun j hj => by
    rw [ab_mul, ab_of_nonneg (Rat.le_of_lt (pw_pos _))]
    have hj1 : 1 ≤ ab (j : Rat) := by
      rcases Int.lt_or_gt_of_ne hj with h | h
      · have : ((1 : Int) : Rat) ≤ ((-j : Int) : Rat) := Rat.intCast_le_intCast.2 (by omega)
        rw [Rat.intCast_neg] at this
        have l := le_ab (j : Rat)
        have e : ((1 : Int) : Rat) = 1 := by simp
        rw [e] at this; grind
      · have : ((1 : Int) : Rat) ≤ (j : Rat) := Rat.intCast_le_intCast.2 (by omega)
        have l := le_ab (j : Rat)
        have e : ((1 : Int) : Rat) = 1 := by simp
        rw [e] at this; grind
    have h1 : pw (-300) ≤ pw (-(f : Int)) := pw_mono (by omega)
    have h2 := Rat.mul_le_mul_of_nonneg_right hj1 (Rat.le_of_lt (pw_pos (-(f : Int))))
    grind
  have hX := quot_err (X := (s1 : Rat) * pw (-(g : Int))) (Y := (s2 : Rat) * pw (-(g : Int))) (M := 2) h.re.f h.im.f hd.re.f hd.im.f (by
      rw [hd.re.v, hd.im.v]
      by_cases hk : k = 0
      · exact .inr (big l (fun hl => hne ⟨hk, hl⟩))
      · exact .inl (big k hk))
    (by rw [hd.re.v]; have := (ex_top (n := k) (e := f) (by omega)).2; grind) (by rw [hd.im.v]; have := (ex_top (n := l) (e := f) (by omega)).2; grind) hs1 hs2 (by grind)
    (by rw [h.re.v, hd.re.v, hd.im.v, h1, hpw, Rat.intCast_sub, Rat.intCast_mul, Rat.intCast_mul]; grind)
    (by rw [h.im.v, hd.re.v, hd.im.v, h2, hpw, Rat.intCast_add, Rat.intCast_mul, Rat.intCast_mul]; grind)
    (by rw [h.re.v]; have := (ex_top (n := n) (e := f + g) (by omega)).2; grind) (by rw [h.im.v]; have := (ex_top (n := m) (e := f + g) (by omega)).2; grind)
  refine ⟨⟨hX.1.1, ?_⟩, ⟨hX.2.1, ?_⟩⟩
  · have := hX.1.2; grind
  · have := hX.2.2; grind
/-- Near, as the law asks it. -/
theorem small_ok {u v x y : Nat} (fu : fin .f64 u) (fv' : fin .f64 v) (fx : fin .f64 x) (fy : fin .f64 y) (h1 : ab (fv .f64 u - fv .f64 x) ≤ 1 / 2 ^ 42) (h2 : ab (fv .f64 v - fv .f64 y) ≤ 1 / 2 ^ 42) :
    fin .f64 (fo .sub .f64 u x) ∧ fin .f64 (fo .sub .f64 v y) ∧ ∀ r, nrm .f64 r = fo .add .f64 (absB (fo .sub .f64 u x)) (absB (fo .sub .f64 v y)) → ∀ p, fin .f64 p → fv .f64 p = pw (-40) → fle .f64 r p = true := by
  obtain ⟨k1, k2, k3⟩ := consts64
  have ht := top210
  have hu := sub_spec fu fx (by grind)
  have hv := sub_spec fv' fy (by grind)
  refine ⟨hu.1, hv.1, fun r hr p hp pv => ?_⟩
  obtain ⟨a1, a2⟩ := absB_fin hu.1
  obtain ⟨b1, b2⟩ := absB_fin hv.1
  have e1 := hu.2.1
  have e2 := hv.2.1
  rw [k1] at e1 e2
  have t1 := ab_tri (fv .f64 (fo .sub .f64 u x)) (fv .f64 u - fv .f64 x)
  have t2 := ab_tri (fv .f64 (fo .sub .f64 v y)) (fv .f64 v - fv .f64 y)
  have n3 := ab_nonneg (fv .f64 (fo .sub .f64 u x))
  have n4 := ab_nonneg (fv .f64 (fo .sub .f64 v y))
  have hsz := size_spec n3 n4 (by grind) a1 b1 a2 b2
  obtain rfl : r = _ := nrm_fin_eq hr hsz.1
  refine (fle_iff hsz.1 hp).2 ?_
  have z2 := hsz.2.1
  rw [k1, ab_of_nonneg (x := ab (fv .f64 (fo .sub .f64 u x)) + ab (fv .f64 (fo .sub .f64 v y))) (by grind)] at z2
  have z3 := le_ab (fv .f64 (fo .add .f64 (absB (fo .sub .f64 u x)) (absB (fo .sub .f64 v y))) - (ab (fv .f64 (fo .sub .f64 u x)) + ab (fv .f64 (fo .sub .f64 v y))))
  have e40 : pw (-40) = 1 / 2 ^ 40 := by unfold pw; grind
  rw [pv, e40]
  grind
end Go.Proofs.Ytignncjmbcdpaaa
