/-
What a valid mode's words mean. (Plain arithmetic.)
-/
import Derived.Test.YtignncjmbcdpaaaSingleStep
namespace Go.Proofs.Ytignncjmbcdpaaa
open Go Ieee

theorem fin_of_wid {a : Nat} (h : fin .f64 (wid a)) : fin .f32 a := by
  cases hr : FloatKind.f32.format.read a with
  | number s m e => exact ⟨s, m, e, hr⟩
  | infinity s =>
    exfalso
    have hd : FloatKind.f32.decode a = .infinity s := hr
    have e : wid a = FloatKind.f64.format.word s FloatKind.f64.format.infRung := by
      show (floatToFloatBits .f32 a .f64).getD _ = _
      unfold floatToFloatBits
      rw [if_neg (by decide), hd]; rfl
    rw [e] at h
    obtain ⟨t, m, j, h⟩ := h
    have hi : ∀ s, FloatKind.f64.format.read (FloatKind.f64.format.word s FloatKind.f64.format.infRung) = .infinity s := by decide +kernel
    rw [hi s] at h; cases h
  | nan s t =>
    exfalso
    have hd : FloatKind.f32.decode a = .nan s t := hr
    have e : wid a = qn .f64 := by
      show (floatToFloatBits .f32 a .f64).getD _ = _
      unfold floatToFloatBits
      rw [if_neg (by decide), hd]; rfl
    rw [e] at h
    have := fin_num h
    rw [isN_qn] at this; cases this

theorem one_val : fin .f64 4607182418800017408 ∧ fv .f64 4607182418800017408 = 1 := one_fin
theorem gain_val : fin .f64 4652218415073722368 ∧ fv .f64 4652218415073722368 = 1024 := by
  have h : FloatKind.f64.format.read 4652218415073722368 = .number false 4503599627370496 (-42) := by decide +kernel
  obtain ⟨h1, h2⟩ := fin_of_read h
  refine ⟨h1, ?_⟩
  rw [h2, dval_num]
  unfold mval pw
  simp only [Bool.false_eq_true, if_false]
  grind
theorem gain_le {x : Nat} (hx : fin .f64 (wid x)) (h : fle .f64 (absB (wid x)) 4652218415073722368 = true) : ab (fv .f32 x) ≤ 1024 := by
  obtain ⟨a1, a2⟩ := absB_fin hx
  obtain ⟨g1, g2⟩ := gain_val
  have := (fle_iff a1 g1).1 h
  rw [a2, g2, (wid_fin (fin_of_wid hx)).2] at this
  exact this
theorem ModeOk.gains {a b c d : Nat} (h : ModeOk a b c d) : fv .f32 c * fv .f32 c + fv .f32 d * fv .f32 d ≤ 2 ^ 21 := by
  have h1 := sq_le_of_ab (gain_le h.fc h.gain.1)
  have h2 := sq_le_of_ab (gain_le h.fd h.gain.2)
  grind

theorem single_bound {x : Nat} (hx : fin .f32 x) : ab (fv .f32 x) ≤ 2 ^ 130 := by
  obtain ⟨s, m, e, hr⟩ := hx
  obtain ⟨b1, b2, b3, b4, _⟩ := read_bounds FloatKind.f32.format (by decide) hr
  have e1 : FloatKind.f32.format.leastPlace = -149 := by decide +kernel
  have e2 : FloatKind.f32.format.binade = 8388608 := by decide +kernel
  have e3 : FloatKind.f32.format.infRung = 2139095040 := by decide +kernel
  rw [e1] at b1 b3 b4
  rw [e2] at b2 b3 b4
  rw [e3] at b4
  have he : e ≤ 104 := by
    rcases Int.lt_or_le 104 e with h | h
    · exfalso; have := b3 (by omega); omega
    · exact h
  unfold fv
  rw [hr, dval_ab]
  have h1 : mval m e ≤ mval 16777216 e := mval_le (by omega)
  have h2 : mval 16777216 e ≤ mval 16777216 104 := Rat.mul_le_mul_of_nonneg_left (pw_mono he) Rat.natCast_nonneg
  have h3 : mval 16777216 104 ≤ 2 ^ 130 := by unfold mval pw; grind
  exact Rat.le_trans h1 (Rat.le_trans h2 h3)

theorem top600 : (2 : Rat) ^ 130 * 2 ^ 130 * 4 ≤ top .f64 := by
  have h2 : pw (131 + 131) ≤ pw 1000 := pw_mono (by omega)
  have e2 : pw 131 = 2 ^ 131 := by unfold pw; grind
  rw [pw_add, e2] at h2
  show _ ≤ pw 1000; grind
theorem ModeOk.square {a b c d : Nat} (h : ModeOk a b c d) : fv .f32 a * fv .f32 a + fv .f32 b * fv .f32 b ≤ 1 + 1 / 2 ^ 40 := by
  have fa := fin_of_wid h.fa
  have fb := fin_of_wid h.fb
  obtain ⟨a1, a2⟩ := wid_fin fa
  obtain ⟨b1, b2⟩ := wid_fin fb
  obtain ⟨k1, k2, k3⟩ := consts64
  obtain ⟨o1, o2⟩ := one_val
  have ht := top600
  have sA := sq_nonneg (fv .f32 a)
  have sB := sq_nonneg (fv .f32 b)
  have qA := sq_le_of_ab (single_bound fa)
  have qB := sq_le_of_ab (single_bound fb)
  have p1 := mul_spec a1 a1 (by rw [a2, ab_of_nonneg sA]; grind)
  have p2 := mul_spec b1 b1 (by rw [b2, ab_of_nonneg sB]; grind)
  have e1 := p1.2.1
  have e2 := p2.2.1
  rw [a2, k1, ab_of_nonneg (x := fv .f32 a * fv .f32 a) sA] at e1
  rw [b2, k1, ab_of_nonneg (x := fv .f32 b * fv .f32 b) sB] at e2
  have l1 := le_ab (fv .f64 (fo .mul .f64 (wid a) (wid a)) - fv .f32 a * fv .f32 a)
  have l2 := le_ab (fv .f64 (fo .mul .f64 (wid b) (wid b)) - fv .f32 b * fv .f32 b)
  have s1 := add_spec p1.1 p2.1 (ab_le (by grind) (by grind))
  have hle := (fle_iff s1.1 o1).1 h.sq
  rw [o2] at hle
  have e3 := s1.2.1
  rw [k1] at e3
  have l3 := le_ab (fv .f64 (fo .add .f64 (fo .mul .f64 (wid a) (wid a)) (fo .mul .f64 (wid b) (wid b))) - (fv .f64 (fo .mul .f64 (wid a) (wid a)) + fv .f64 (fo .mul .f64 (wid b) (wid b))))
  have l4 : ab (fv .f64 (fo .mul .f64 (wid a) (wid a)) + fv .f64 (fo .mul .f64 (wid b) (wid b))) ≤ (fv .f64 (fo .mul .f64 (wid a) (wid a)) + fv .f64 (fo .mul .f64 (wid b) (wid b))) + 1 / 2 ^ 100 := ab_le (by grind) (by grind)
  grind
end Go.Proofs.Ytignncjmbcdpaaa
