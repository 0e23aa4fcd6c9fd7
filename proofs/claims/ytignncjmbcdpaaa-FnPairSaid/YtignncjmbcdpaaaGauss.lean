/-
Exact arithmetic: numbers that are whole multiples of a power of two; complex whole numbers. (Plain arithmetic.)
-/
import Derived.Test.YtignncjmbcdpaaaQuotVal
import Derived.Test.YtignncjmbcdpaaaTimes
namespace Go.Proofs.Ytignncjmbcdpaaa
open Go Ieee

/-- The word's value is n / 2^e, |n| at most B. -/
structure Ex (x : Nat) (n : Int) (e B : Nat) : Prop where
  f : fin .f64 x
  v : fv .f64 x = (n : Rat) * pw (-(e : Int))
  b : n.natAbs ≤ B
theorem ex_top {n : Int} {e : Nat} (h : n.natAbs < 2 ^ 53) : ab ((n : Rat) * pw (-(e : Int))) ≤ top .f64 ∧ ab ((n : Rat) * pw (-(e : Int))) ≤ 2 ^ 53 := by
  have hp : pw (-(e : Int)) ≤ 1 := by rw [← pw_zero]; exact pw_mono (by omega)
  have h0 := Rat.le_of_lt (pw_pos (-(e : Int)))
  have hn : ab (n : Rat) ≤ 2 ^ 53 := by
    have e1 : ((2 ^ 53 : Int) : Rat) = 2 ^ 53 := by simp; grind
    have h1 : (n : Rat) ≤ ((2 ^ 53 : Int) : Rat) := Rat.intCast_le_intCast.2 (by omega)
    have h2 : ((-n : Int) : Rat) ≤ ((2 ^ 53 : Int) : Rat) := Rat.intCast_le_intCast.2 (by omega)
    rw [e1] at h1 h2
    rw [Rat.intCast_neg] at h2
    exact ab_le h1 h2
  have ht := top210
  have hx : ab ((n : Rat) * pw (-(e : Int))) ≤ 2 ^ 53 := by
    rw [ab_mul, ab_of_nonneg h0]
    have := Rat.mul_le_mul_of_nonneg_left hp (ab_nonneg (n : Rat))
    grind
  exact ⟨by grind, hx⟩
theorem ex_few {n : Int} {e : Nat} (h : n.natAbs < 2 ^ 53) (he : e ≤ 1000) : Few .f64 ((n : Rat) * pw (-(e : Int))) := by
  refine ⟨n, -(e : Int), rfl, ?_, ?_⟩
  · have : FloatKind.f64.format.binade = 4503599627370496 := by decide +kernel
    rw [this]; omega
  · have : FloatKind.f64.format.leastPlace = -1074 := by decide +kernel
    rw [this]; omega
theorem Ex.of {x : Nat} {v : Rat} {n : Int} {e B : Nat} (h : RoundOf .f64 v x) (hv : v = (n : Rat) * pw (-(e : Int))) (hb : n.natAbs ≤ B) (hB : B < 2 ^ 53) (he : e ≤ 1000) : Ex x n e B := by
  subst hv
  exact ⟨h.1, h.few (ex_few (by omega) he) (ex_top (by omega)).1, hb⟩
theorem Ex.mul {x y : Nat} {n m : Int} {e f B C : Nat} (hx : Ex x n e B) (hy : Ex y m f C) (hB : B * C < 2 ^ 53) (he : e + f ≤ 1000) : Ex (fo .mul .f64 x y) (n * m) (e + f) (B * C) := by
  have hb : (n * m).natAbs ≤ B * C := by rw [Int.natAbs_mul]; exact Nat.mul_le_mul hx.b hy.b
  have e1 : fv .f64 x * fv .f64 y = ((n * m : Int) : Rat) * pw (-((e + f : Nat) : Int)) := by
    rw [hx.v, hy.v, show -((e + f : Nat) : Int) = -(e : Int) + -(f : Int) by omega, pw_add, Rat.intCast_mul]; grind
  exact Ex.of (mul_spec hx.f hy.f (by rw [e1]; exact (ex_top (by omega)).1)) e1 hb hB he
theorem Ex.add {x y : Nat} {n m : Int} {e B C : Nat} (hx : Ex x n e B) (hy : Ex y m e C) (hB : B + C < 2 ^ 53) (he : e ≤ 1000) : Ex (fo .add .f64 x y) (n + m) e (B + C) := by
  have hb : (n + m).natAbs ≤ B + C := by have := hx.b; have := hy.b; omega
  have e1 : fv .f64 x + fv .f64 y = ((n + m : Int) : Rat) * pw (-(e : Int)) := by rw [hx.v, hy.v, Rat.intCast_add]; grind
  exact Ex.of (add_spec hx.f hy.f (by rw [e1]; exact (ex_top (by omega)).1)) e1 hb hB he
theorem Ex.sub {x y : Nat} {n m : Int} {e B C : Nat} (hx : Ex x n e B) (hy : Ex y m e C) (hB : B + C < 2 ^ 53) (he : e ≤ 1000) : Ex (fo .sub .f64 x y) (n - m) e (B + C) := by
  have hb : (n - m).natAbs ≤ B + C := by have := hx.b; have := hy.b; omega
  have e1 : fv .f64 x - fv .f64 y = ((n - m : Int) : Rat) * pw (-(e : Int)) := by rw [hx.v, hy.v, Rat.intCast_sub]; grind
  exact Ex.of (sub_spec hx.f hy.f (by rw [e1]; exact (ex_top (by omega)).1)) e1 hb hB he
theorem Ex.wid {x : Nat} {n : Int} {e B C : Nat} (hx : Ex x n e B) (h : B ≤ C) : Ex x n e C := ⟨hx.f, hx.v, Nat.le_trans hx.b h⟩

/-- Two words, a complex number. -/
structure CEx (x y : Nat) (n m : Int) (e B : Nat) : Prop where
  re : Ex x n e B
  im : Ex y m e B
theorem CEx.mul {x y u v : Nat} {n m k l : Int} {e f B C : Nat} (h : CEx x y n m e B) (g : CEx u v k l f C) (hB : 2 * (B * C) < 2 ^ 53) (he : e + f ≤ 1000) :
    CEx (mulRe x y u v) (mulIm x y u v) (n * k - m * l) (n * l + m * k) (e + f) (2 * (B * C)) := by
  unfold mulRe mulIm
  have h1 := h.re.mul g.re (by omega) he
  have h2 := h.im.mul g.im (by omega) he
  have h3 := h.re.mul g.im (by omega) he
  have h4 := h.im.mul g.re (by omega) he
  exact ⟨(h1.sub h2 (by omega) he).wid (by omega), (h3.add h4 (by omega) he).wid (by omega)⟩
theorem CEx.add {x y u v : Nat} {n m k l : Int} {e B C : Nat} (h : CEx x y n m e B) (g : CEx u v k l e C) (hB : B + C < 2 ^ 53) (he : e ≤ 1000) :
    CEx (fo .add .f64 x u) (fo .add .f64 y v) (n + k) (m + l) e (B + C) := ⟨h.re.add g.re hB he, h.im.add g.im hB he⟩
theorem CEx.sub {x y u v : Nat} {n m k l : Int} {e B C : Nat} (h : CEx x y n m e B) (g : CEx u v k l e C) (hB : B + C < 2 ^ 53) (he : e ≤ 1000) :
    CEx (fo .sub .f64 x u) (fo .sub .f64 y v) (n - k) (m - l) e (B + C) := ⟨h.re.sub g.re hB he, h.im.sub g.im hB he⟩

/-! Complex whole numbers. -/
/-- The recurrence, part by part, gives the quotients. -/
theorem pair_sum (s1 s2 t1 t2 x0 y0 x1 y1 x2 y2 x3 y3 : Int) (h2 : x2 = (s1 * x1 - s2 * y1) - (t1 * x0 - t2 * y0)) (g2 : y2 = (s1 * y1 + s2 * x1) - (t1 * y0 + t2 * x0))
    (h3 : x3 = (s1 * x2 - s2 * y2) - (t1 * x1 - t2 * y1)) (g3 : y3 = (s1 * y2 + s2 * x2) - (t1 * y1 + t2 * x1)) (d1 d2 : Int) (hd1 : d1 = (x1 * x1 - y1 * y1) - (x0 * x2 - y0 * y2)) (hd2 : d2 = (x1 * y1 + y1 * x1) - (x0 * y2 + y0 * x2)) :
    (x1 * x2 - y1 * y2) - (x0 * x3 - y0 * y3) = s1 * d1 - s2 * d2 ∧ (x1 * y2 + y1 * x2) - (x0 * y3 + y0 * x3) = s1 * d2 + s2 * d1 ∧
    (x2 * x2 - y2 * y2) - (x1 * x3 - y1 * y3) = t1 * d1 - t2 * d2 ∧ (x2 * y2 + y2 * x2) - (x1 * y3 + y1 * x3) = t1 * d2 + t2 * d1 := by
  subst h2 g2
  subst h3 g3
  subst hd1 hd2
  refine ⟨by grind, by grind, by grind, by grind⟩
theorem norm_mul (a b c d : Int) : (a * c - b * d) * (a * c - b * d) + (a * d + b * c) * (a * d + b * c) = (a * a + b * b) * (c * c + d * d) := by grind
theorem int_sq (a : Int) : 0 ≤ a * a := by
  rcases Int.le_total 0 a with h | h
  · exact Int.mul_nonneg h h
  · have := Int.mul_nonneg (show 0 ≤ -a by omega) (show 0 ≤ -a by omega)
    rwa [Int.neg_mul_neg] at this
theorem norm_pos {a b : Int} (h : ¬(a = 0 ∧ b = 0)) : 0 < a * a + b * b := by
  by_cases ha : a = 0
  · have hb : b ≠ 0 := fun hb => h ⟨ha, hb⟩
    subst ha
    have := int_sq b
    have h2 : b * b ≠ 0 := Int.mul_ne_zero hb hb
    omega
  · have h1 := int_sq a
    have h2 := int_sq b
    have h3 : a * a ≠ 0 := Int.mul_ne_zero ha ha
    omega
/-- The determinant of the two modes, not 0. -/
theorem pair_det (a1 a2 b1 b2 p1 p2 q1 q2 : Int) (ha : ¬(a1 = 0 ∧ a2 = 0)) (hb : ¬(b1 = 0 ∧ b2 = 0)) (hpq : ¬(p1 = q1 ∧ p2 = q2)) (u1 u2 v1 v2 x1 y1 x2 y2 : Int)
    (hu1 : u1 = a1 * p1 - a2 * p2) (hu2 : u2 = a1 * p2 + a2 * p1) (hv1 : v1 = b1 * q1 - b2 * q2) (hv2 : v2 = b1 * q2 + b2 * q1)
    (hx1 : x1 = u1 + v1) (hy1 : y1 = u2 + v2) (hx2 : x2 = (u1 * p1 - u2 * p2) + (v1 * q1 - v2 * q2)) (hy2 : y2 = (u1 * p2 + u2 * p1) + (v1 * q2 + v2 * q1)) :
    ¬((x1 * x1 - y1 * y1) - ((a1 + b1) * x2 - (a2 + b2) * y2) = 0 ∧ (x1 * y1 + y1 * x1) - ((a1 + b1) * y2 + (a2 + b2) * x2) = 0) := by
  rintro ⟨h1, h2⟩
  have hr : ¬(p1 - q1 = 0 ∧ p2 - q2 = 0) := fun h => hpq ⟨by omega, by omega⟩
  have n1 := norm_pos ha
  have n2 := norm_pos hb
  have n3 := norm_pos hr
  -- the product of the starts, and of the differences
  have e1 : (a1 * b1 - a2 * b2) * ((p1 - q1) * (p1 - q1) - (p2 - q2) * (p2 - q2)) - (a1 * b2 + a2 * b1) * ((p1 - q1) * (p2 - q2) + (p2 - q2) * (p1 - q1)) = 0 := by
    subst hx1 hy1 hx2 hy2 hu1 hu2 hv1 hv2
    grind
  have e2 : (a1 * b1 - a2 * b2) * ((p1 - q1) * (p2 - q2) + (p2 - q2) * (p1 - q1)) + (a1 * b2 + a2 * b1) * ((p1 - q1) * (p1 - q1) - (p2 - q2) * (p2 - q2)) = 0 := by
    subst hx1 hy1 hx2 hy2 hu1 hu2 hv1 hv2
    grind
  have m1 := norm_mul a1 a2 b1 b2
  have m2 := norm_mul (p1 - q1) (p2 - q2) (p1 - q1) (p2 - q2)
  have m3 := norm_mul (a1 * b1 - a2 * b2) (a1 * b2 + a2 * b1) ((p1 - q1) * (p1 - q1) - (p2 - q2) * (p2 - q2)) ((p1 - q1) * (p2 - q2) + (p2 - q2) * (p1 - q1))
  rw [e1, e2, m1, m2] at m3
  have k1 := Int.mul_pos n1 n2
  have k2 := Int.mul_pos n3 n3
  have k3 := Int.mul_pos k1 k2
  omega
end Go.Proofs.Ytignncjmbcdpaaa
