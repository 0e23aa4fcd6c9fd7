/-
Products in single precision: bounds. (Plain arithmetic.)
-/
import Derived.Test.YtignncjmbcdpaaaTimes
namespace Go.Proofs.Ytignncjmbcdpaaa
open Go Ieee

/-- A small word of single precision: its value is at most B. -/
theorem prod_part {x y : Nat} (hx : fin .f64 x) (hy : fin .f64 y) (bx : ab (fv .f64 x) ≤ 2 ^ 13) (by_ : ab (fv .f64 y) ≤ 2) :
    fin .f64 (fo .mul .f64 x y) ∧ ab (fv .f64 (fo .mul .f64 x y) - fv .f64 x * fv .f64 y) ≤ ab (fv .f64 x) * ab (fv .f64 y) / 2 ^ 53 + eta .f64 ∧ ab (fv .f64 x * fv .f64 y) ≤ 2 ^ 14 := by
  obtain ⟨k1, k2, k3⟩ := consts64
  have h0 := ab_nonneg (fv .f64 x)
  have h1 : ab (fv .f64 x * fv .f64 y) ≤ 2 ^ 14 := by
    rw [ab_mul]
    have := Rat.mul_le_mul_of_nonneg_right bx (ab_nonneg (fv .f64 y))
    grind
  have hm := mul_spec hx hy (by grind)
  refine ⟨hm.1, ?_, h1⟩
  have := hm.2.1
  rw [k1, ab_mul] at this
  grind

theorem prod_bound {x y : Nat} (hx : fin .f64 x) (hy : fin .f64 y) (bx : ab (fv .f64 x) ≤ 2 ^ 13) (by_ : ab (fv .f64 y) ≤ 2) : fin .f64 (fo .mul .f64 x y) ∧ ab (fv .f64 (fo .mul .f64 x y)) ≤ 2 ^ 15 := by
  obtain ⟨h1, h2, h3⟩ := prod_part hx hy bx by_
  obtain ⟨k1, k2, k3⟩ := consts64
  have t := ab_tri (fv .f64 (fo .mul .f64 x y)) (fv .f64 x * fv .f64 y)
  rw [ab_mul] at t h3
  refine ⟨h1, by grind⟩
theorem mild_of {a b c d : Nat} (fa : fin .f64 (wid a)) (fb : fin .f64 (wid b)) (fc : fin .f64 (wid c)) (fd : fin .f64 (wid d)) (ba : ab (fv .f64 (wid a)) ≤ 2 ^ 13) (bb : ab (fv .f64 (wid b)) ≤ 2 ^ 13)
    (bc : ab (fv .f64 (wid c)) ≤ 2) (bd : ab (fv .f64 (wid d)) ≤ 2) : Mild a b c d := by
  obtain ⟨k1, k2, k3⟩ := consts64
  have ct := consts32.2.2
  have p1 := prod_bound fa fc ba bc
  have p2 := prod_bound fb fd bb bd
  have p3 := prod_bound fa fd ba bd
  have p4 := prod_bound fb fc bb bc
  have l1 := le_ab (fv .f64 (fo .mul .f64 (wid a) (wid c)))
  have l2 := le_ab (fv .f64 (fo .mul .f64 (wid b) (wid d)))
  have l3 := le_ab (fv .f64 (fo .mul .f64 (wid a) (wid d)))
  have l4 := le_ab (fv .f64 (fo .mul .f64 (wid b) (wid c)))
  have b1 : ab (fv .f64 (fo .mul .f64 (wid a) (wid c)) - fv .f64 (fo .mul .f64 (wid b) (wid d))) ≤ 2 ^ 16 := ab_le (by grind) (by grind)
  have b2 : ab (fv .f64 (fo .mul .f64 (wid a) (wid d)) + fv .f64 (fo .mul .f64 (wid b) (wid c))) ≤ 2 ^ 16 := ab_le (by grind) (by grind)
  have s1 := sub_spec p1.1 p2.1 (by grind)
  have s2 := add_spec p3.1 p4.1 (by grind)
  have e1 := s1.2.1
  have e2 := s2.2.1
  rw [k1] at e1 e2
  have t1 := ab_tri (fv .f64 (fo .sub .f64 (fo .mul .f64 (wid a) (wid c)) (fo .mul .f64 (wid b) (wid d)))) (fv .f64 (fo .mul .f64 (wid a) (wid c)) - fv .f64 (fo .mul .f64 (wid b) (wid d)))
  have t2 := ab_tri (fv .f64 (fo .add .f64 (fo .mul .f64 (wid a) (wid d)) (fo .mul .f64 (wid b) (wid c)))) (fv .f64 (fo .mul .f64 (wid a) (wid d)) + fv .f64 (fo .mul .f64 (wid b) (wid c)))
  refine ⟨s1.1, s2.1, ?_, ?_⟩
  · unfold mulRe; rw [ct]; grind
  · unfold mulIm; rw [ct]; grind

theorem sq_nonneg (x : Rat) : 0 ≤ x * x := by
  rcases Rat.le_total (a := 0) (b := x) with h | h
  · exact Rat.mul_nonneg h h
  · have := Rat.mul_nonneg (show 0 ≤ -x by grind) (show 0 ≤ -x by grind)
    grind
theorem sq_le_of_ab {x y : Rat} (h : ab x ≤ y) : x * x ≤ y * y := by
  obtain ⟨h1, h2⟩ := le_ab x
  have := Rat.mul_nonneg (show 0 ≤ y - x by grind) (show 0 ≤ y + x by grind)
  grind
theorem ab_sq (x : Rat) : ab x * ab x = x * x := by
  rcases Rat.le_total (a := 0) (b := x) with h | h
  · rw [ab_of_nonneg h]
  · rw [← ab_neg, ab_of_nonneg (x := -x) (by grind)]; grind

/-- The square of the size grows little. -/
theorem norm_step {A B C D X Y N : Rat} (hN : A * A + B * B ≤ N) (hN1 : 1 ≤ N) (hp : C * C + D * D ≤ 1 + 1 / 2 ^ 40)
    (hx : ab (X - (A * C - B * D)) ≤ (ab A + ab B) / 2 ^ 22 + 1 / 2 ^ 90) (hy : ab (Y - (A * D + B * C)) ≤ (ab A + ab B) / 2 ^ 22 + 1 / 2 ^ 90) : X * X + Y * Y ≤ N + N / 2 ^ 18 := by
  obtain ⟨R, hR⟩ : ∃ R, A * C - B * D = R := ⟨_, rfl⟩
  obtain ⟨I, hI⟩ : ∃ I, A * D + B * C = I := ⟨_, rfl⟩
  rw [hR] at hx
  rw [hI] at hy
  have hRI : R * R + I * I = (A * A + B * B) * (C * C + D * D) := by rw [← hR, ← hI]; grind
  have h0 : 0 ≤ A * A + B * B := by have := sq_nonneg A; have := sq_nonneg B; grind
  have h1 : R * R + I * I ≤ N * (1 + 1 / 2 ^ 40) := by
    rw [hRI]
    have a1 := Rat.mul_le_mul_of_nonneg_left hp h0
    have a2 := Rat.mul_le_mul_of_nonneg_right hN (show (0 : Rat) ≤ 1 + 1 / 2 ^ 40 by grind)
    grind
  obtain ⟨M, hM⟩ : ∃ M, ab A + ab B = M := ⟨_, rfl⟩
  have hM2 : M * M ≤ 2 * N := by
    have a1 := ab_sq A
    have a2 := ab_sq B
    have a3 := sq_nonneg (ab A - ab B)
    rw [← hM]; grind
  rw [hM] at hx hy
  have ex := sq_le_of_ab hx
  have ey := sq_le_of_ab hy
  have m3 := sq_nonneg (M / 2 ^ 22 - 1 / 2 ^ 90)
  have g1 : (M / 2 ^ 22 + 1 / 2 ^ 90) * (M / 2 ^ 22 + 1 / 2 ^ 90) ≤ N / 2 ^ 41 := by grind
  have q1 := sq_nonneg (R / 2 ^ 10 - (X - R) * 2 ^ 10)
  have q2 := sq_nonneg (I / 2 ^ 10 - (Y - I) * 2 ^ 10)
  grind

/-- The error of one part: two products, their sum, narrowed. -/
theorem part_err {p q s r P Q : Rat} {S : Rat} (hp : ab (p - P) ≤ ab P / 2 ^ 53 + 1 / 2 ^ 200) (hq : ab (q - Q) ≤ ab Q / 2 ^ 53 + 1 / 2 ^ 200) (hs : ab (s - (p + q)) ≤ ab (p + q) / 2 ^ 53 + 1 / 2 ^ 200)
    (hr : ab (r - s) ≤ ab s / 2 ^ 24 + 1 / 2 ^ 149) (hS : ab P + ab Q ≤ S) : ab (r - (P + Q)) ≤ S / 2 ^ 23 + 1 / 2 ^ 100 := by
  have t1 := ab_tri p P
  have t2 := ab_tri q Q
  have t3 := ab_add p q
  have t4 := ab_tri s (p + q)
  have t5 := ab_add (r - s) (s - (p + q))
  have t6 := ab_add (r - (p + q)) ((p - P) + (q - Q))
  have t7 := ab_add (p - P) (q - Q)
  have e1 : r - s + (s - (p + q)) = r - (p + q) := by grind
  have e2 : r - (p + q) + ((p - P) + (q - Q)) = r - (P + Q) := by grind
  rw [e1] at t5
  rw [e2] at t6
  have n1 := ab_nonneg P
  have n2 := ab_nonneg Q
  clear e1 e2
  generalize ab (p - P) = x1 at *
  generalize ab (q - Q) = x2 at *
  generalize ab (s - (p + q)) = x3 at *
  generalize ab (r - s) = x4 at *
  generalize ab (r - (p + q)) = x5 at *
  generalize ab (p - P + (q - Q)) = x6 at *
  generalize ab (r - (P + Q)) = x7 at *
  generalize ab (p + q) = x8 at *
  generalize ab p = x9 at *
  generalize ab q = x10 at *
  generalize ab s = x11 at *
  generalize ab P = x12 at *
  generalize ab Q = x13 at *
  grind

theorem ab_le_of_sq {x y : Rat} (hy : 0 ≤ y) (h : x * x ≤ y * y) : ab x ≤ y := by
  rcases rat_lt_or_le y (ab x) with h1 | h1
  · exfalso
    have a1 := Rat.mul_lt_mul_of_pos_right h1 (show 0 < ab x by grind)
    have a2 := Rat.mul_le_mul_of_nonneg_left (Rat.le_of_lt h1) hy
    have a3 := ab_sq x
    grind
  · exact h1
end Go.Proofs.Ytignncjmbcdpaaa
