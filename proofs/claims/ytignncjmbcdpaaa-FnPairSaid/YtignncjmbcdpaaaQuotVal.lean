/-
The error of the quotient of complex numbers. (Plain arithmetic.)
-/
import Derived.Test.YtignncjmbcdpaaaUnitWalk
import Derived.Test.YtignncjmbcdpaaaTimesVal
namespace Go.Proofs.Ytignncjmbcdpaaa
open Go Ieee

theorem quot_pos {c d a b X Y M r rd den br ne q κ : Rat} (hκ : 0 ≤ κ) (hc : 0 < c) (hcd : ab d ≤ c) (hX : ab X ≤ M) (hY : ab Y ≤ M) (ha : a = X * c - Y * d) (hb : b = X * d + Y * c)
    (hq : q * c = d) (e1 : ab (r - q) ≤ 1 / 2 ^ 51) (e2 : ab (rd - r * d) ≤ c / 2 ^ 51) (e3 : ab (den - (c + rd)) ≤ c / 2 ^ 50) (e4 : ab (br - b * r) ≤ ab b / 2 ^ 51 + κ)
    (e5 : ab (ne - (a + br)) ≤ (ab a + ab b) / 2 ^ 50 + κ) :
    c / 2 ≤ den ∧ ab (ne - X * den) ≤ M * c / 2 ^ 46 + 2 * κ := by
  have hc' : ab c = c := ab_of_nonneg (Rat.le_of_lt hc)
  have n1 := ab_nonneg d
  have n2 := ab_nonneg X
  have n3 := ab_nonneg Y
  have n4 := ab_nonneg b
  have h1 := ab_mul q c
  rw [hq, hc'] at h1
  have h2 : ab q ≤ 1 := by
    rcases rat_lt_or_le 1 (ab q) with h | h
    · exfalso
      have := Rat.mul_lt_mul_of_pos_right h hc
      grind
    · exact h
  have h3 : ab (r * d - q * d) ≤ c / 2 ^ 51 := by
    rw [show r * d - q * d = (r - q) * d by grind, ab_mul]
    have := Rat.mul_le_mul_of_nonneg_right e1 n1
    grind
  have h4 : ab (rd - q * d) ≤ c / 2 ^ 50 := by
    have := ab_add (rd - r * d) (r * d - q * d)
    rw [show rd - r * d + (r * d - q * d) = rd - q * d by grind] at this
    grind
  have h5 : 0 ≤ q * d := by
    rw [← hq, show q * (q * c) = q * q * c by grind]
    exact Rat.mul_nonneg (sq_nonneg q) (Rat.le_of_lt hc)
  have h6 : ab (den - (c + q * d)) ≤ c / 2 ^ 49 := by
    have := ab_add (den - (c + rd)) (rd - q * d)
    rw [show den - (c + rd) + (rd - q * d) = den - (c + q * d) by grind] at this
    grind
  have h7 := le_ab (den - (c + q * d))
  have m1 := Rat.mul_le_mul_of_nonneg_right hX (Rat.le_of_lt hc)
  have m2 := Rat.mul_le_mul_of_nonneg_right hY (Rat.le_of_lt hc)
  have m3 : ab X * ab d ≤ M * c := by
    have := Rat.mul_le_mul_of_nonneg_left hcd n2
    grind
  have m4 : ab Y * ab d ≤ M * c := by
    have := Rat.mul_le_mul_of_nonneg_left hcd n3
    grind
  have hA : ab a ≤ 2 * (M * c) := by
    have := ab_add (X * c) (-(Y * d))
    rw [ab_neg, ab_mul, ab_mul, hc', show X * c + -(Y * d) = a by grind] at this
    grind
  have hB : ab b ≤ 2 * (M * c) := by
    have := ab_add (X * d) (Y * c)
    rw [ab_mul, ab_mul, hc', ← hb] at this
    grind
  have h8 : ab (br - b * q) ≤ ab b / 2 ^ 50 + κ := by
    have t := ab_add (br - b * r) (b * r - b * q)
    rw [show br - b * r + (b * r - b * q) = br - b * q by grind, show b * r - b * q = b * (r - q) by grind, ab_mul] at t
    have := Rat.mul_le_mul_of_nonneg_left e1 n4
    grind
  have h9 : ab (ne - (a + b * q)) ≤ 6 * (M * c) / 2 ^ 50 + 2 * κ := by
    have t := ab_add (ne - (a + br)) (br - b * q)
    rw [show ne - (a + br) + (br - b * q) = ne - (a + b * q) by grind] at t
    grind
  have hid : a + b * q = X * (c + q * d) := by rw [ha, hb, ← hq]; grind
  have h10 : ab (X * (c + q * d) - X * den) ≤ M * c / 2 ^ 49 := by
    rw [show X * (c + q * d) - X * den = X * -(den - (c + q * d)) by grind, ab_mul, ab_neg]
    have := Rat.mul_le_mul_of_nonneg_left h6 n2
    grind
  constructor
  · grind
  · have t := ab_add (ne - (a + b * q)) (X * (c + q * d) - X * den)
    rw [hid] at t h9
    rw [show ne - X * (c + q * d) + (X * (c + q * d) - X * den) = ne - X * den by grind] at t
    have : 0 ≤ M * c := Rat.mul_nonneg (by grind) (Rat.le_of_lt hc)
    grind
/-- One part of the quotient, the first case: the exact part is X; a = X c - Y d, b = X d + Y c, |d| <= |c|. -/
theorem quot_core {c d a b X Y M r rd den br ne q κ : Rat} (hκ : 0 ≤ κ) (hc : 0 < ab c) (hcd : ab d ≤ ab c) (hX : ab X ≤ M) (hY : ab Y ≤ M) (ha : a = X * c - Y * d) (hb : b = X * d + Y * c)
    (hq : q * c = d) (e1 : ab (r - q) ≤ 1 / 2 ^ 51) (e2 : ab (rd - r * d) ≤ ab c / 2 ^ 51) (e3 : ab (den - (c + rd)) ≤ ab c / 2 ^ 50) (e4 : ab (br - b * r) ≤ ab b / 2 ^ 51 + κ)
    (e5 : ab (ne - (a + br)) ≤ (ab a + ab b) / 2 ^ 50 + κ) :
    ab c / 2 ≤ ab den ∧ ab (ne - X * den) ≤ M * ab c / 2 ^ 46 + 2 * κ := by
  rcases rat_lt_or_le c 0 with h | h
  · have hc' : ab c = -c := by rw [← ab_neg]; exact ab_of_nonneg (by grind)
    rw [hc'] at hc hcd e2 e3 ⊢
    obtain ⟨g1, g2⟩ := quot_pos (c := -c) (d := -d) (a := -a) (b := -b) (X := X) (Y := Y) (M := M) (r := r) (rd := -rd) (den := -den) (br := -br) (ne := -ne) (q := q) hκ hc (by rw [ab_neg]; exact hcd) hX hY (by rw [ha]; grind) (by rw [hb]; grind)
      (by grind) e1 (by rw [show -rd - r * -d = -(rd - r * d) by grind, ab_neg]; exact e2) (by rw [show -den - (-c + -rd) = -(den - (c + rd)) by grind, ab_neg]; exact e3)
      (by rw [show -br - -b * r = -(br - b * r) by grind, ab_neg, ab_neg]; exact e4) (by rw [show -ne - (-a + -br) = -(ne - (a + br)) by grind, ab_neg, ab_neg, ab_neg]; exact e5)
    have l := le_ab den
    rw [show -ne - X * -den = -(ne - X * den) by grind, ab_neg] at g2
    exact ⟨by grind, g2⟩
  · rw [ab_of_nonneg h] at hc hcd e2 e3 ⊢
    obtain ⟨g1, g2⟩ := quot_pos hκ hc hcd hX hY ha hb hq e1 e2 e3 e4 e5
    have l := le_ab den
    exact ⟨by grind, g2⟩

theorem eta_tiny {C : Rat} (h : pw (-300) ≤ C) : eta .f64 ≤ C / 2 ^ 100 ∧ eta .f64 ≤ C * (1 / 2 ^ 110) ∧ 0 ≤ eta .f64 := by
  have h1 : eta .f64 ≤ pw (-300 + -200) := pw_mono (by decide)
  rw [pw_add] at h1
  have h2 : pw (-200) = 1 / 2 ^ 200 := by unfold pw; grind
  have h3 := pw_pos (-300)
  rw [h2] at h1
  refine ⟨by grind, by grind, eta_nonneg _⟩
/-- The ratio of the lesser part to the greater one, and the divisor made of it. -/
theorem ratio_ok {c d : Nat} (fc : fin .f64 c) (fd : fin .f64 d) (hcd : ab (fv .f64 d) ≤ ab (fv .f64 c)) (lo : pw (-300) ≤ ab (fv .f64 c)) (hi : ab (fv .f64 c) ≤ 2 ^ 60) :
    ∃ q : Rat, q * fv .f64 c = fv .f64 d ∧ fin .f64 (fo .quo .f64 d c) ∧ ab (fv .f64 (fo .quo .f64 d c) - q) ≤ 1 / 2 ^ 51 ∧ ab (fv .f64 (fo .quo .f64 d c)) ≤ 2 ∧
      fin .f64 (fo .mul .f64 (fo .quo .f64 d c) d) ∧ ab (fv .f64 (fo .mul .f64 (fo .quo .f64 d c) d) - fv .f64 (fo .quo .f64 d c) * fv .f64 d) ≤ ab (fv .f64 c) / 2 ^ 51 ∧
      fin .f64 (fo .add .f64 c (fo .mul .f64 (fo .quo .f64 d c) d)) ∧ ab (fv .f64 (fo .add .f64 c (fo .mul .f64 (fo .quo .f64 d c) d)) - (fv .f64 c + fv .f64 (fo .mul .f64 (fo .quo .f64 d c) d))) ≤ ab (fv .f64 c) / 2 ^ 50 := by
  obtain ⟨k1, k2, k3⟩ := consts64
  obtain ⟨t1, t2, t3⟩ := eta_tiny lo
  have ht := top210
  have hp := pw_pos (-300)
  have nc := ab_nonneg (fv .f64 c)
  have nd := ab_nonneg (fv .f64 d)
  have hc0 : fv .f64 c ≠ 0 := by
    intro h; rw [h, ab_of_nonneg Rat.le_refl] at lo; grind
  have hq : fv .f64 d / fv .f64 c * fv .f64 c = fv .f64 d := Rat.div_mul_cancel hc0
  obtain ⟨q, hqd⟩ : ∃ q, fv .f64 d / fv .f64 c = q := ⟨_, rfl⟩
  rw [hqd] at hq
  have h1 := ab_mul q (fv .f64 c)
  rw [hq] at h1
  have hq1 : ab q ≤ 1 := by
    rcases rat_lt_or_le 1 (ab q) with h | h
    · exfalso
      have := Rat.mul_lt_mul_of_pos_right h (show 0 < ab (fv .f64 c) by grind)
      grind
    · exact h
  have nq := ab_nonneg q
  have hd := div_spec fd fc hc0 (by rw [hqd]; grind)
  rw [hqd] at hd
  have e1 := hd.2.1
  rw [k1] at e1
  have g1 : ab (fv .f64 (fo .quo .f64 d c) - q) ≤ 1 / 2 ^ 51 := by grind
  have g2 : ab (fv .f64 (fo .quo .f64 d c)) ≤ 2 := by
    have := ab_tri (fv .f64 (fo .quo .f64 d c)) q
    grind
  have f1 := hd.1
  generalize fo .quo .f64 d c = r at *
  have nr := ab_nonneg (fv .f64 r)
  have m1 : ab (fv .f64 r * fv .f64 d) ≤ 2 * ab (fv .f64 c) := by
    rw [ab_mul]
    have a1 := Rat.mul_le_mul_of_nonneg_right g2 nd
    grind
  have hm := mul_spec f1 fd (by grind)
  have e2 := hm.2.1
  rw [k1] at e2
  have f2 := hm.1
  have g3 : ab (fv .f64 (fo .mul .f64 r d) - fv .f64 r * fv .f64 d) ≤ ab (fv .f64 c) / 2 ^ 51 := by grind
  generalize fo .mul .f64 r d = rd at *
  have m2 : ab (fv .f64 rd) ≤ 3 * ab (fv .f64 c) := by
    have := ab_tri (fv .f64 rd) (fv .f64 r * fv .f64 d)
    grind
  have m3 := ab_add (fv .f64 c) (fv .f64 rd)
  have ha := add_spec fc f2 (by grind)
  have e3 := ha.2.1
  rw [k1] at e3
  exact ⟨q, hq, f1, g1, g2, f2, g3, ha.1, by grind⟩
/-- A numerator: a sum, a difference. -/
theorem num_ok {x y r : Nat} (fx : fin .f64 x) (fy : fin .f64 y) (fr : fin .f64 r) (hr : ab (fv .f64 r) ≤ 2) (hx : ab (fv .f64 x) ≤ 2 ^ 100) (hy : ab (fv .f64 y) ≤ 2 ^ 100) :
    fin .f64 (fo .mul .f64 y r) ∧ ab (fv .f64 (fo .mul .f64 y r) - fv .f64 y * fv .f64 r) ≤ ab (fv .f64 y) / 2 ^ 51 + 2 * eta .f64 ∧
    (fin .f64 (fo .add .f64 x (fo .mul .f64 y r)) ∧ ab (fv .f64 (fo .add .f64 x (fo .mul .f64 y r)) - (fv .f64 x + fv .f64 (fo .mul .f64 y r))) ≤ (ab (fv .f64 x) + ab (fv .f64 y)) / 2 ^ 50 + 2 * eta .f64) ∧
    (fin .f64 (fo .add .f64 (fo .mul .f64 y r) x) ∧ ab (fv .f64 (fo .add .f64 (fo .mul .f64 y r) x) - (fv .f64 x + fv .f64 (fo .mul .f64 y r))) ≤ (ab (fv .f64 x) + ab (fv .f64 y)) / 2 ^ 50 + 2 * eta .f64) ∧
    (fin .f64 (fo .sub .f64 x (fo .mul .f64 y r)) ∧ ab (fv .f64 (fo .sub .f64 x (fo .mul .f64 y r)) - (fv .f64 x + -fv .f64 (fo .mul .f64 y r))) ≤ (ab (fv .f64 x) + ab (fv .f64 y)) / 2 ^ 50 + 2 * eta .f64) ∧
    (fin .f64 (fo .sub .f64 (fo .mul .f64 y r) x) ∧ ab (fv .f64 (fo .sub .f64 (fo .mul .f64 y r) x) - (-fv .f64 x + fv .f64 (fo .mul .f64 y r))) ≤ (ab (fv .f64 x) + ab (fv .f64 y)) / 2 ^ 50 + 2 * eta .f64) := by
  obtain ⟨k1, k2, k3⟩ := consts64
  have t3 := eta_nonneg .f64
  have ht := top210
  have nx := ab_nonneg (fv .f64 x)
  have ny := ab_nonneg (fv .f64 y)
  have nr := ab_nonneg (fv .f64 r)
  have m1 : ab (fv .f64 y * fv .f64 r) ≤ 2 * ab (fv .f64 y) := by
    rw [ab_mul]
    have a1 := Rat.mul_le_mul_of_nonneg_left hr ny
    grind
  have hm := mul_spec fy fr (by grind)
  have e2 := hm.2.1
  rw [k1] at e2
  have f2 := hm.1
  have g3 : ab (fv .f64 (fo .mul .f64 y r) - fv .f64 y * fv .f64 r) ≤ ab (fv .f64 y) / 2 ^ 51 + 2 * eta .f64 := by grind
  have m2 : ab (fv .f64 (fo .mul .f64 y r)) ≤ 3 * ab (fv .f64 y) + 2 * eta .f64 := by
    have := ab_tri (fv .f64 (fo .mul .f64 y r)) (fv .f64 y * fv .f64 r)
    grind
  generalize fo .mul .f64 y r = z at *
  have c1 := ab_add (fv .f64 x) (fv .f64 z)
  have c2 := ab_add (fv .f64 x) (-fv .f64 z)
  rw [ab_neg] at c2
  have c3 : ab (fv .f64 z - fv .f64 x) = ab (fv .f64 x + -fv .f64 z) := by rw [← ab_neg, show -(fv .f64 z - fv .f64 x) = fv .f64 x + -fv .f64 z by grind]
  have q1 := add_spec fx f2 (by grind)
  have q2 := add_spec f2 fx (by rw [show fv .f64 z + fv .f64 x = fv .f64 x + fv .f64 z by grind]; grind)
  have q3 := sub_spec fx f2 (by rw [show fv .f64 x - fv .f64 z = fv .f64 x + -fv .f64 z by grind]; grind)
  have q4 := sub_spec f2 fx (by rw [c3]; grind)
  have d1 := q1.2.1
  have d2 := q2.2.1
  have d3 := q3.2.1
  have d4 := q4.2.1
  rw [k1] at d1 d2 d3 d4
  rw [show fv .f64 z + fv .f64 x = fv .f64 x + fv .f64 z by grind] at d2
  rw [show fv .f64 x - fv .f64 z = fv .f64 x + -fv .f64 z by grind] at d3
  rw [c3] at d4
  rw [show fv .f64 z - fv .f64 x = -fv .f64 x + fv .f64 z by grind] at d4
  exact ⟨f2, g3, ⟨q1.1, by grind⟩, ⟨q2.1, by grind⟩, ⟨q3.1, by grind⟩, ⟨q4.1, by grind⟩⟩
/-- One part of the quotient. -/
theorem quo_part {c d ne : Nat} {a b X Y M br : Rat} (fc : fin .f64 c) (fd : fin .f64 d) (hcd : ab (fv .f64 d) ≤ ab (fv .f64 c)) (lo : pw (-300) ≤ ab (fv .f64 c)) (hi : ab (fv .f64 c) ≤ 2 ^ 60)
    (hX : ab X ≤ M) (hY : ab Y ≤ M) (hM : M ≤ 2 ^ 30) (ha : a = X * fv .f64 c - Y * fv .f64 d) (hb : b = X * fv .f64 d + Y * fv .f64 c) (fn : fin .f64 ne)
    (e4 : ab (br - b * fv .f64 (fo .quo .f64 d c)) ≤ ab b / 2 ^ 51 + 2 * eta .f64) (e5 : ab (fv .f64 ne - (a + br)) ≤ (ab a + ab b) / 2 ^ 50 + 2 * eta .f64) :
    fin .f64 (fo .quo .f64 ne (fo .add .f64 c (fo .mul .f64 (fo .quo .f64 d c) d))) ∧ ab (fv .f64 (fo .quo .f64 ne (fo .add .f64 c (fo .mul .f64 (fo .quo .f64 d c) d))) - X) ≤ M / 2 ^ 44 + 1 / 2 ^ 90 := by
  obtain ⟨k1, k2, k3⟩ := consts64
  obtain ⟨t1, t2, t3⟩ := eta_tiny lo
  have ht := top210
  have hp := pw_pos (-300)
  obtain ⟨q, hq, f1, g1, g2, f2, g3, f3, g4⟩ := ratio_ok fc fd hcd lo hi
  have hc0 : 0 < ab (fv .f64 c) := by grind
  obtain ⟨h1, h2⟩ := quot_core (κ := 2 * eta .f64) (by grind) hc0 hcd hX hY ha hb hq g1 g3 g4 e4 e5
  generalize fo .add .f64 c (fo .mul .f64 (fo .quo .f64 d c) d) = den at *
  have hdn : 0 < ab (fv .f64 den) := by grind
  have hd0 : fv .f64 den ≠ 0 := by
    intro h; rw [h, ab_of_nonneg Rat.le_refl] at hdn; grind
  obtain ⟨v, hv⟩ : ∃ v, fv .f64 ne / fv .f64 den = v := ⟨_, rfl⟩
  have hvd : v * fv .f64 den = fv .f64 ne := by rw [← hv]; exact Rat.div_mul_cancel hd0
  have nX := ab_nonneg X
  have hvX : ab (v - X) ≤ M / 2 ^ 45 + 1 / 2 ^ 95 := by
    have e : (v - X) * fv .f64 den = fv .f64 ne - X * fv .f64 den := by rw [← hvd]; grind
    have h3 := ab_mul (v - X) (fv .f64 den)
    rw [e] at h3
    rcases rat_lt_or_le (M / 2 ^ 45 + 1 / 2 ^ 95) (ab (v - X)) with h | h
    · exfalso
      have h4 := Rat.mul_lt_mul_of_pos_right h hdn
      have h5 := Rat.mul_le_mul_of_nonneg_left h1 (show 0 ≤ M / 2 ^ 45 + 1 / 2 ^ 95 by grind)
      have h6 : (M / 2 ^ 45 + 1 / 2 ^ 95) * (ab (fv .f64 c) / 2) = M * ab (fv .f64 c) / 2 ^ 46 + ab (fv .f64 c) / 2 ^ 96 := by grind
      grind
    · exact h
  have hvb : ab v ≤ 2 * M + 1 / 2 ^ 95 := by
    have := ab_tri v X
    grind
  have hd := div_spec fn f3 hd0 (by rw [hv]; grind)
  rw [hv] at hd
  have e6 := hd.2.1
  rw [k1] at e6
  have hM0 : 0 ≤ M := by grind
  clear e4 e5 g1 g2 g3 g4 hcd hq ha hb hvd hd0 hX hY
  refine ⟨hd.1, ?_⟩
  have t := ab_add (fv .f64 (fo .quo .f64 ne den) - v) (v - X)
  rw [show fv .f64 (fo .quo .f64 ne den) - v + (v - X) = fv .f64 (fo .quo .f64 ne den) - X by grind] at t
  grind
/-- **THE QUOTIENT**, both parts. -/
theorem quot_err {a b c d : Nat} {X Y M : Rat} (fa : fin .f64 a) (fb : fin .f64 b) (fc : fin .f64 c) (fd : fin .f64 d) (lo : pw (-300) ≤ ab (fv .f64 c) ∨ pw (-300) ≤ ab (fv .f64 d)) (hc : ab (fv .f64 c) ≤ 2 ^ 60) (hd : ab (fv .f64 d) ≤ 2 ^ 60)
    (hX : ab X ≤ M) (hY : ab Y ≤ M) (hM : M ≤ 2 ^ 30) (ha : fv .f64 a = X * fv .f64 c - Y * fv .f64 d) (hb : fv .f64 b = X * fv .f64 d + Y * fv .f64 c) (ha2 : ab (fv .f64 a) ≤ 2 ^ 100) (hb2 : ab (fv .f64 b) ≤ 2 ^ 100) :
    (fin .f64 (quoRe a b c d) ∧ ab (fv .f64 (quoRe a b c d) - X) ≤ M / 2 ^ 44 + 1 / 2 ^ 90) ∧ (fin .f64 (quoIm a b c d) ∧ ab (fv .f64 (quoIm a b c d) - Y) ≤ M / 2 ^ 44 + 1 / 2 ^ 90) := by
  obtain ⟨c1, c2⟩ := abs64_fin fc
  obtain ⟨d1, d2⟩ := abs64_fin fd
  have nY : ab (-Y) ≤ M := by rw [ab_neg]; exact hY
  have nX : ab (-X) ≤ M := by rw [ab_neg]; exact hX
  unfold quoRe quoIm
  by_cases h : fge .f64 (abs64 c) (abs64 d) = true
  · rw [if_pos h, if_pos h]
    have hcd := (fge_iff c1 d1).1 h
    rw [c2, d2] at hcd
    have lo' : pw (-300) ≤ ab (fv .f64 c) := by rcases lo with h | h <;> grind
    obtain ⟨q, hq, f1, g1, g2, f2, g3, f3, g4⟩ := ratio_ok fc fd hcd lo' hc
    obtain ⟨n1, n2, n3, _, _, _⟩ := num_ok fa fb f1 g2 ha2 hb2
    obtain ⟨m1, m2, _, _, m3, _⟩ := num_ok fb fa f1 g2 hb2 ha2
    refine ⟨quo_part fc fd hcd lo' hc hX hY hM ha hb n3.1 n2 n3.2, ?_⟩
    refine quo_part (a := fv .f64 b) (b := -fv .f64 a) (br := -fv .f64 (fo .mul .f64 a (fo .quo .f64 d c))) fc fd hcd lo' hc hY nX hM (by rw [hb]; grind) (by rw [ha]; grind) m3.1 ?_ ?_
    · rw [show -fv .f64 (fo .mul .f64 a (fo .quo .f64 d c)) - -fv .f64 a * fv .f64 (fo .quo .f64 d c) = -(fv .f64 (fo .mul .f64 a (fo .quo .f64 d c)) - fv .f64 a * fv .f64 (fo .quo .f64 d c)) by grind, ab_neg, ab_neg]; exact m2
    · rw [ab_neg]; exact m3.2
  · rw [if_neg h, if_neg h]
    have hcd : ab (fv .f64 c) ≤ ab (fv .f64 d) := by
      rcases rat_lt_or_le (ab (fv .f64 d)) (ab (fv .f64 c)) with h2 | h2
      · exact absurd ((fge_iff c1 d1).2 (by rw [c2, d2]; grind)) h
      · exact h2
    have lo' : pw (-300) ≤ ab (fv .f64 d) := by rcases lo with h | h <;> grind
    obtain ⟨q, hq, f1, g1, g2, f2, g3, f3, g4⟩ := ratio_ok fd fc hcd lo' hd
    obtain ⟨n1, n2, _, n3, _, _⟩ := num_ok fb fa f1 g2 hb2 ha2
    obtain ⟨m1, m2, _, _, _, m3⟩ := num_ok fa fb f1 g2 ha2 hb2
    refine ⟨?_, ?_⟩
    · exact quo_part (a := fv .f64 b) (b := fv .f64 a) (br := fv .f64 (fo .mul .f64 a (fo .quo .f64 c d))) fd fc hcd lo' hd hX nY hM (by rw [hb]; grind) (by rw [ha]; grind) n3.1 n2 n3.2
    · refine quo_part (a := -fv .f64 a) (b := fv .f64 b) (br := fv .f64 (fo .mul .f64 b (fo .quo .f64 c d))) fd fc hcd lo' hd hY hX hM (by rw [ha]; grind) (by rw [hb]; grind) m3.1 m2 ?_
      rw [ab_neg]; exact m3.2
end Go.Proofs.Ytignncjmbcdpaaa
