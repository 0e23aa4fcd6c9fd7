/-
One step of a mode in single precision: the words and their bound. (Plain arithmetic.)
-/
import Derived.Test.YtignncjmbcdpaaaTimesVal
namespace Go.Proofs.Ytignncjmbcdpaaa
open Go Ieee

theorem single_step {a b c d : Nat} {N : Rat} (fa : fin .f32 a) (fb : fin .f32 b) (fc : fin .f32 c) (fd : fin .f32 d) (hN : fv .f32 a * fv .f32 a + fv .f32 b * fv .f32 b ≤ N) (hN1 : 1 ≤ N) (hN2 : N ≤ 2 ^ 26)
    (hp : fv .f32 c * fv .f32 c + fv .f32 d * fv .f32 d ≤ 1 + 1 / 2 ^ 40) :
    Mild a b c d ∧ fin .f32 (sRe a b c d) ∧ fin .f32 (sIm a b c d) ∧ fv .f32 (sRe a b c d) * fv .f32 (sRe a b c d) + fv .f32 (sIm a b c d) * fv .f32 (sIm a b c d) ≤ N + N / 2 ^ 18 := by
  obtain ⟨a1, a2⟩ := wid_fin fa
  obtain ⟨b1, b2⟩ := wid_fin fb
  obtain ⟨c1, c2⟩ := wid_fin fc
  obtain ⟨d1, d2⟩ := wid_fin fd
  obtain ⟨k1, k2, k3⟩ := consts64
  obtain ⟨u1, u2, u3⟩ := consts32
  have sA := sq_nonneg (fv .f32 a)
  have sB := sq_nonneg (fv .f32 b)
  have sC := sq_nonneg (fv .f32 c)
  have sD := sq_nonneg (fv .f32 d)
  have bA : ab (fv .f32 a) ≤ 2 ^ 13 := ab_le_of_sq (by grind) (by grind)
  have bB : ab (fv .f32 b) ≤ 2 ^ 13 := ab_le_of_sq (by grind) (by grind)
  have bC : ab (fv .f32 c) ≤ 1 + 1 / 2 ^ 40 := ab_le_of_sq (by grind) (by grind)
  have bD : ab (fv .f32 d) ≤ 1 + 1 / 2 ^ 40 := ab_le_of_sq (by grind) (by grind)
  have M := mild_of a1 b1 c1 d1 (by rw [a2]; exact bA) (by rw [b2]; exact bB) (by rw [c2]; grind) (by rw [d2]; grind)
  refine ⟨M, (nar_ok M.fr M.tr).2.1, (nar_ok M.fi M.ti).2.1, ?_⟩
  obtain ⟨p1, e1, _⟩ := prod_part a1 c1 (by rw [a2]; exact bA) (by rw [c2]; grind)
  obtain ⟨p2, e2, _⟩ := prod_part b1 d1 (by rw [b2]; exact bB) (by rw [d2]; grind)
  obtain ⟨p3, e3, _⟩ := prod_part a1 d1 (by rw [a2]; exact bA) (by rw [d2]; grind)
  obtain ⟨p4, e4, _⟩ := prod_part b1 c1 (by rw [b2]; exact bB) (by rw [c2]; grind)
  have q1 := prod_bound a1 c1 (by rw [a2]; exact bA) (by rw [c2]; grind)
  have q2 := prod_bound b1 d1 (by rw [b2]; exact bB) (by rw [d2]; grind)
  have q3 := prod_bound a1 d1 (by rw [a2]; exact bA) (by rw [d2]; grind)
  have q4 := prod_bound b1 c1 (by rw [b2]; exact bB) (by rw [c2]; grind)
  have l1 := le_ab (fv .f64 (fo .mul .f64 (wid a) (wid c)))
  have l2 := le_ab (fv .f64 (fo .mul .f64 (wid b) (wid d)))
  have l3 := le_ab (fv .f64 (fo .mul .f64 (wid a) (wid d)))
  have l4 := le_ab (fv .f64 (fo .mul .f64 (wid b) (wid c)))
  have s1 := (sub_spec p1 p2 (Rat.le_trans (ab_le (y := 2 ^ 17) (by grind) (by grind)) (by grind))).2.1
  have s2 := (add_spec p3 p4 (Rat.le_trans (ab_le (y := 2 ^ 17) (by grind) (by grind)) (by grind))).2.1
  have r1 := (nar_ok M.fr M.tr).2.2.1
  have r2 := (nar_ok M.fi M.ti).2.2.1
  rw [k1] at s1 s2
  rw [u1] at r1 r2
  rw [a2, c2] at e1
  rw [b2, d2] at e2
  rw [a2, d2] at e3
  rw [b2, c2] at e4
  have nA := ab_nonneg (fv .f32 a)
  have nB := ab_nonneg (fv .f32 b)
  have g1 := Rat.mul_le_mul_of_nonneg_left bC nA
  have g2 := Rat.mul_le_mul_of_nonneg_left bD nB
  have g3 := Rat.mul_le_mul_of_nonneg_left bD nA
  have g4 := Rat.mul_le_mul_of_nonneg_left bC nB
  have m1 := ab_mul (fv .f32 a) (fv .f32 c)
  have m2 := ab_mul (fv .f32 b) (fv .f32 d)
  have m3 := ab_mul (fv .f32 a) (fv .f32 d)
  have m4 := ab_mul (fv .f32 b) (fv .f32 c)
  have x1 : ab (fv .f32 (sRe a b c d) - (fv .f32 a * fv .f32 c + -(fv .f32 b * fv .f32 d))) ≤ ((ab (fv .f32 a) + ab (fv .f32 b)) * (1 + 1 / 2 ^ 40)) / 2 ^ 23 + 1 / 2 ^ 100 := by
    refine part_err (p := fv .f64 (fo .mul .f64 (wid a) (wid c))) (q := -fv .f64 (fo .mul .f64 (wid b) (wid d))) (s := fv .f64 (mulRe (wid a) (wid b) (wid c) (wid d))) ?_ ?_ ?_ ?_ ?_
    · rw [m1]; grind
    · rw [ab_neg, m2, show -fv .f64 (fo .mul .f64 (wid b) (wid d)) - -(fv .f32 b * fv .f32 d) = -(fv .f64 (fo .mul .f64 (wid b) (wid d)) - fv .f32 b * fv .f32 d) by grind, ab_neg]; grind
    · rw [show fv .f64 (fo .mul .f64 (wid a) (wid c)) + -fv .f64 (fo .mul .f64 (wid b) (wid d)) = fv .f64 (fo .mul .f64 (wid a) (wid c)) - fv .f64 (fo .mul .f64 (wid b) (wid d)) by grind]
      unfold mulRe; grind
    · unfold sRe; grind
    · rw [ab_neg, m1, m2]; grind
  have x2 : ab (fv .f32 (sIm a b c d) - (fv .f32 a * fv .f32 d + fv .f32 b * fv .f32 c)) ≤ ((ab (fv .f32 a) + ab (fv .f32 b)) * (1 + 1 / 2 ^ 40)) / 2 ^ 23 + 1 / 2 ^ 100 := by
    refine part_err (p := fv .f64 (fo .mul .f64 (wid a) (wid d))) (q := fv .f64 (fo .mul .f64 (wid b) (wid c))) (s := fv .f64 (mulIm (wid a) (wid b) (wid c) (wid d))) ?_ ?_ ?_ ?_ ?_
    · rw [m3]; grind
    · rw [m4]; grind
    · unfold mulIm; grind
    · unfold sIm; grind
    · rw [m3, m4]; grind
  refine norm_step hN hN1 hp ?_ ?_
  · rw [show fv .f32 a * fv .f32 c - fv .f32 b * fv .f32 d = fv .f32 a * fv .f32 c + -(fv .f32 b * fv .f32 d) by grind]; grind
  · grind

/-- The state of a mode after so many steps: pole (a, b), gain (c, d). -/
def zAt (a b c d : Nat) : Nat → Nat × Nat
  | 0 => (c, d)
  | n + 1 => (sRe (zAt a b c d n).1 (zAt a b c d n).2 a b, sIm (zAt a b c d n).1 (zAt a b c d n).2 a b)
theorem zAt_ok {a b c d : Nat} (fa : fin .f32 a) (fb : fin .f32 b) (fc : fin .f32 c) (fd : fin .f32 d) (hp : fv .f32 a * fv .f32 a + fv .f32 b * fv .f32 b ≤ 1 + 1 / 2 ^ 40)
    (hg : fv .f32 c * fv .f32 c + fv .f32 d * fv .f32 d ≤ 2 ^ 21) (n : Nat) (hn : n ≤ 3000) :
    fin .f32 (zAt a b c d n).1 ∧ fin .f32 (zAt a b c d n).2 ∧ Mild (zAt a b c d n).1 (zAt a b c d n).2 a b ∧
    fv .f32 (zAt a b c d n).1 * fv .f32 (zAt a b c d n).1 + fv .f32 (zAt a b c d n).2 * fv .f32 (zAt a b c d n).2 ≤ 2 ^ 21 + (n : Rat) * 64 := by
  have hnn : ∀ k : Nat, k ≤ 3000 → (0 : Rat) ≤ (k : Rat) ∧ (k : Rat) ≤ 3000 := fun k hk => ⟨Rat.natCast_nonneg, by have := Rat.natCast_le_natCast.2 hk; simpa using this⟩
  induction n with
  | zero =>
    have h := single_step fc fd fa fb (N := 2 ^ 21) hg (by grind) (by grind) hp
    exact ⟨fc, fd, h.1, by show _ ≤ _; simp only [zAt]; grind⟩
  | succ n ih =>
    obtain ⟨i1, i2, i3, i4⟩ := ih (by omega)
    obtain ⟨k0, k1⟩ := hnn n (by omega)
    have h := single_step i1 i2 fa fb i4 (by grind) (by grind) hp
    have e : ((n + 1 : Nat) : Rat) = (n : Rat) + 1 := by simp
    have hb : fv .f32 (zAt a b c d (n + 1)).1 * fv .f32 (zAt a b c d (n + 1)).1 + fv .f32 (zAt a b c d (n + 1)).2 * fv .f32 (zAt a b c d (n + 1)).2 ≤ 2 ^ 21 + ((n + 1 : Nat) : Rat) * 64 := by
      have := h.2.2.2
      rw [e]; simp only [zAt]; grind
    obtain ⟨j0, j1⟩ := hnn (n + 1) (by omega)
    have h2 := single_step h.2.1 h.2.2.1 fa fb hb (by grind) (by grind) hp
    exact ⟨h.2.1, h.2.2.1, h2.1, hb⟩
end Go.Proofs.Ytignncjmbcdpaaa
