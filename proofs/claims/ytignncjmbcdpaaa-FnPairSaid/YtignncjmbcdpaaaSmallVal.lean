/-
The samples that spec.MakeSmall draws are finite, and not greater than told. (Plain arithmetic.)
-/
import Derived.Test.YtignncjmbcdpaaaSmall
import Derived.Test.YtignncjmbcdpaaaFloatDiv
namespace Go.Proofs.Ytignncjmbcdpaaa
open Go Ieee

theorem nrm_fin_eq {k : FloatKind} {b z : Nat} (h : nrm k b = z) (hz : fin k z) : b = z := by
  cases hn : isN k b
  · rw [nrm_of_num hn] at h; exact h
  · have := fin_num hz
    rw [← h, isN_nrm, hn] at this; cases this
theorem fin_of_read {k : FloatKind} {b : Nat} {s : Bool} {m : Nat} {e : Int} (h : k.format.read b = .number s m e) : fin k b ∧ fv k b = dval (.number s m e) :=
  ⟨⟨s, m, e, h⟩, by unfold fv; rw [h]⟩
theorem ab_tri (x y : Rat) : ab x ≤ ab (x - y) + ab y := by
  have := ab_add (x - y) y
  rwa [show x - y + y = x by grind] at this
theorem thousand : fin .f32 1148846080 ∧ fv .f32 1148846080 = 1000 := by
  have h : FloatKind.f32.format.read 1148846080 = .number false 16384000 (-14) := by decide +kernel
  obtain ⟨h1, h2⟩ := fin_of_read h
  refine ⟨h1, ?_⟩
  rw [h2, dval_num]
  unfold mval pw
  simp only [Bool.false_eq_true, if_false]
  grind
theorem consts32 : uu .f32 = 1 / 16777216 ∧ eta .f32 ≤ 1 / 2 ^ 149 ∧ top .f32 = 2 ^ 120 := by
  refine ⟨?_, ?_, ?_⟩ <;> (simp only [uu, eta, top]; unfold pw; grind)

theorem consts64 : uu .f64 = 1 / 2 ^ 53 ∧ eta .f64 ≤ 1 / 2 ^ 200 ∧ (2 : Rat) ^ 200 ≤ top .f64 := by
  have h1 : pw (-1075) ≤ pw (-200) := pw_mono (by omega)
  have h2 : pw 200 ≤ pw 1000 := pw_mono (by omega)
  have e1 : pw (-200) = 1 / 2 ^ 200 := by unfold pw; grind
  have e2 : pw 200 = 2 ^ 200 := by unfold pw; grind
  refine ⟨?_, ?_, ?_⟩
  · simp only [uu]; unfold pw; grind
  · show pw (-1075) ≤ _; grind
  · show _ ≤ pw 1000; grind
theorem ab_div_pos (x : Rat) {c : Rat} (hc : 0 < c) : ab (x / c) = ab x / c := by
  have hi : 0 < c⁻¹ := Rat.inv_pos.2 hc
  rw [Rat.div_def, Rat.div_def, ab_mul, ab_of_nonneg (x := c⁻¹) (by grind)]

theorem sm_spec {m : Nat} {j : Int} {X : Rat} (hm : fin .f32 m) (hX : ab (fv .f32 m) ≤ X) (h61 : X ≤ 2 ^ 61) (h1 : -1000 ≤ j) (h2 : j ≤ 1000) :
    fin .f32 (sm m j) ∧ ab (fv .f32 (sm m j)) ≤ X + X / 1048576 + 1 / 2 ^ 100 := by
  obtain ⟨cu, ce, ct⟩ := consts32
  have hj : ab (j : Rat) ≤ 1000 := by
    have a1 : (j : Rat) ≤ ((1000 : Int) : Rat) := Rat.intCast_le_intCast.2 h2
    have a2 : ((-1000 : Int) : Rat) ≤ (j : Rat) := Rat.intCast_le_intCast.2 h1
    refine ab_le ?_ ?_
    · simpa using a1
    · have : ((-1000 : Int) : Rat) = -1000 := by simp
      grind
  have hX0 : 0 ≤ X := Rat.le_trans (ab_nonneg _) hX
  -- the whole number
  obtain ⟨f1, f2⟩ := int_exact .f32 j (by
    have e : FloatKind.f32.format.binade = 8388608 := by decide +kernel
    rw [e]; omega)
  -- the product
  obtain ⟨M, hM⟩ : ∃ M, fv .f32 m * (j : Rat) = M := ⟨_, rfl⟩
  have p0 : ab M ≤ X * 1000 := by
    rw [← hM, ab_mul]
    have a1 := Rat.mul_le_mul_of_nonneg_right hX (ab_nonneg (j : Rat))
    have a2 := Rat.mul_le_mul_of_nonneg_left hj hX0
    grind
  have hp := mul_spec hm f1 (by rw [f2, hM, ct]; grind)
  rw [f2, hM] at hp
  obtain ⟨g1, g2, _⟩ := hp
  have g3 := ab_tri (fv .f32 (fo .mul .f32 m (floatOfInt .f32 j))) M
  rw [cu] at g2
  generalize hP : fv .f32 (fo .mul .f32 m (floatOfInt .f32 j)) = P at *
  have g4 : ab P ≤ X * 1000 + X / 16384 + 1 / 2 ^ 149 := by grind
  -- the quotient
  have tp := thousand
  have hq : ab (P / 1000) = ab P / 1000 := ab_div_pos P (by grind)
  have hd := div_spec g1 tp.1 (by rw [tp.2]; grind) (by rw [tp.2, hP, hq, ct]; grind)
  rw [tp.2, hP] at hd
  obtain ⟨d1, d2, _⟩ := hd
  have d3 := ab_tri (fv .f32 (sm m j)) (P / 1000)
  have d4 : ab (fv .f32 (sm m j) - P / 1000) ≤ 2 * uu .f32 * ab (P / 1000) + eta .f32 := d2
  rw [cu] at d4
  refine ⟨d1, ?_⟩
  rw [hq] at d3 d4
  grind
theorem small_spec {m b : Nat} {X : Rat} (hm : fin .f32 m) (hX : ab (fv .f32 m) ≤ X) (h61 : X ≤ 2 ^ 61) (h : SmallAt m b) : fin .f32 b ∧ ab (fv .f32 b) ≤ X + X / 1048576 + 1 / 2 ^ 100 := by
  obtain ⟨j, h1, h2, h3, _⟩ := h
  have hs := sm_spec hm hX h61 h1 h2
  obtain rfl := nrm_fin_eq h3 hs.1
  exact hs
end Go.Proofs.Ytignncjmbcdpaaa
