/-
Quotients of floats as rational numbers. (Plain arithmetic: no program stands here.)
-/
import Derived.Test.YtignncjmbcdpaaaFloatVal
namespace Go.Proofs.Ytignncjmbcdpaaa
open Go Ieee

/-- 'r' is 'v' rounded, within two units of the last place's half. -/
def DivOf (k : FloatKind) (v : Rat) (r : Nat) : Prop :=
  fin k r ∧ ab (fv k r - v) ≤ 2 * uu k * ab v + eta k ∧ ∀ b, fin k b → (fv k b ≤ v → fv k b ≤ fv k r) ∧ (v ≤ fv k b → fv k r ≤ fv k b)
theorem DivOf.exact {k : FloatKind} {v : Rat} {r b : Nat} (h : DivOf k v r) (hb : fin k b) (hv : fv k b = v) : fv k r = v := by
  obtain ⟨_, _, h3⟩ := h
  have h4 := h3 b hb
  have h5 := h4.1 (by rw [hv]; exact Rat.le_refl)
  have h6 := h4.2 (by rw [hv]; exact Rat.le_refl)
  rw [hv] at h5 h6
  exact Rat.le_antisymm h6 h5

/-- The quotient that is written: its magnitude against the true one ('V': the true quotient in units of 2^p). -/
theorem quo_mag (fb m n : Nat) (hm : m ≠ 0) (hn : n ≠ 0) :
    let more := fb + 2 + n.log2 - m.log2
    let q := (m <<< more) / n
    let r := (m <<< more) % n
    n * q + r = m * 2 ^ more ∧ r < n ∧ 2 ^ (fb + 1) ≤ q := by
  intro more q r
  have hnp : 0 < n := Nat.pos_of_ne_zero hn
  refine ⟨by rw [← Nat.shiftLeft_eq]; exact Nat.div_add_mod _ _, Nat.mod_lt _ hnp, ?_⟩
  rw [Nat.le_div_iff_mul_le hnp, Nat.shiftLeft_eq]
  have h1 := Nat.log2_self_le hm
  have h2 := Nat.lt_log2_self (n := n)
  have h3 : 2 ^ m.log2 * 2 ^ more ≤ m * 2 ^ more := Nat.mul_le_mul_right _ h1
  have h4 : 2 ^ (fb + 1) * n ≤ 2 ^ (fb + 1) * 2 ^ (n.log2 + 1) := Nat.mul_le_mul_left _ (Nat.le_of_lt h2)
  rw [← Nat.pow_add] at h3 h4
  refine Nat.le_trans h4 (Nat.le_trans (Nat.pow_le_pow_right (by omega) ?_) h3)
  show fb + 1 + (n.log2 + 1) ≤ m.log2 + more
  omega

theorem rat_lt_or_le (a b : Rat) : a < b ∨ b ≤ a := by
  rcases Rat.le_total (a := b) (b := a) with h | h
  · exact .inr h
  · rcases Rat.le_iff_lt_or_eq.1 h with h | h
    · exact .inl h
    · exact .inr (by rw [h]; exact Rat.le_refl)

/-- **QUOTIENTS.** -/
theorem div_spec {k : FloatKind} {a b : Nat} (ha : fin k a) (hb : fin k b) (h0 : fv k b ≠ 0) (h : 2 * ab (fv k a / fv k b) ≤ top k) : DivOf k (fv k a / fv k b) (fo .quo k a b) := by
  obtain ⟨s, m, i, ha⟩ := ha
  obtain ⟨t, n, j, hb⟩ := hb
  have hva : fv k a = dval (.number s m i) := by unfold fv; rw [ha]
  have hvb : fv k b = dval (.number t n j) := by unfold fv; rw [hb]
  have hn : n ≠ 0 := by
    rintro rfl
    apply h0; rw [hvb, dval_num, mval_zero]; cases t <;> simp
  have he := eta_nonneg k
  have hu := uu_nonneg k
  by_cases hm : m = 0
  · subst hm
    have hv0 : fv k a = 0 := by rw [hva, dval_num, mval_zero]; cases s <;> simp
    have hz : fv k a / fv k b = 0 := by rw [hv0, Rat.div_def, Rat.zero_mul]
    have : ∃ p, fo .quo k a b = k.format.write (.number (s ^^ t) 0 p) := ⟨_, fo_some (by
      show (Datum.quotient _ (k.format.read a) (k.format.read b)).map k.format.write = _
      rw [ha, hb]
      unfold Datum.quotient
      simp only [if_neg hn, Nat.zero_shiftLeft, Nat.zero_div, Nat.zero_mod]
      rfl)⟩
    obtain ⟨p, hp⟩ := this
    have hd : dval (.number (s ^^ t) 0 p) = 0 := by rw [dval_num, mval_zero]; cases (s ^^ t) <;> simp
    have hs := write_spec k (s ^^ t) 0 p (by rw [hd, ab_of_nonneg Rat.le_refl]; cases k <;> exact Rat.le_of_lt (pw_pos _))
    rw [hd] at hs
    rw [hp, hz]
    refine ⟨hs.1, ?_, hs.2.2⟩
    have := hs.2.1
    have e : ab (0 : Rat) = 0 := ab_of_nonneg Rat.le_refl
    rw [e] at this ⊢
    grind
  · obtain ⟨more, hmore⟩ : ∃ x, k.format.fractionBits + 2 + n.log2 - m.log2 = x := ⟨_, rfl⟩
    have hq := quo_mag k.format.fractionBits m n hm hn
    simp only [hmore] at hq
    obtain ⟨q, hqd⟩ : ∃ x, (m <<< more) / n = x := ⟨_, rfl⟩
    obtain ⟨r, hrd⟩ : ∃ x, (m <<< more) % n = x := ⟨_, rfl⟩
    rw [hqd, hrd] at hq
    obtain ⟨q1, q2, q3⟩ := hq
    obtain ⟨p, hp⟩ : ∃ p : Int, p = i - j - more := ⟨_, rfl⟩
    have hfo : fo .quo k a b = k.format.write (.number (s ^^ t) (2 * q + (r != 0).toNat) (p - 1)) := fo_some (by
      show (Datum.quotient _ (k.format.read a) (k.format.read b)).map k.format.write = _
      rw [ha, hb]
      unfold Datum.quotient
      simp only [if_neg hn]
      rw [hmore, hqd, hrd, hp]
      rfl)
    -- the magnitudes
    obtain ⟨V, hV⟩ : ∃ V : Rat, V = mval m i / mval n j := ⟨_, rfl⟩
    have hnv : 0 < mval n j := by
      have := mval_lt (e := j) (Nat.pos_of_ne_zero hn)
      rwa [mval_zero] at this
    have hnn : mval n j ≠ 0 := by grind
    have hVn : V * mval n j = mval m i := by rw [hV]; exact Rat.div_mul_cancel hnn
    have hsgn : dval (.number s m i) / dval (.number t n j) = if (s ^^ t) = true then -V else V := by
      rw [dval_num, dval_num, Rat.div_def, hV, Rat.div_def]
      have inv_neg : (-mval n j)⁻¹ = -(mval n j)⁻¹ := by
        apply Rat.inv_eq_of_mul_eq_one
        have := Rat.mul_inv_cancel _ hnn
        grind
      cases s <;> cases t <;> simp [inv_neg] <;> grind
    have hnR : (0 : Rat) < (n : Rat) := Rat.natCast_pos.2 (Nat.pos_of_ne_zero hn)
    -- V in units of 2^p
    obtain ⟨y, hy⟩ : ∃ y : Rat, y * (n : Rat) = (r : Rat) := ⟨(r : Rat) / n, Rat.div_mul_cancel (by grind)⟩
    have hVu : V = ((q : Rat) + y) * pw p := by
      have e1 : ((q : Rat) + y) * (n : Rat) = ((m * 2 ^ more : Nat) : Rat) := by
        rw [← q1, Rat.natCast_add, Rat.natCast_mul]; grind
      have e2 : mval m i = ((m * 2 ^ more : Nat) : Rat) * pw (p + j) := by
        have := mval_scale m more i
        unfold mval at this ⊢
        rw [← this]; congr 2; omega
      have e3 : (((q : Rat) + y) * pw p) * mval n j = mval m i := by
        rw [e2, ← e1, pw_add]; unfold mval; grind
      have e4 : V * mval n j = (((q : Rat) + y) * pw p) * mval n j := by rw [hVn, e3]
      rcases rat_lt_or_le V (((q : Rat) + y) * pw p) with hl | hl
      · have := Rat.mul_lt_mul_of_pos_right hl hnv; grind
      · rcases Rat.le_iff_lt_or_eq.1 hl with hl | hl
        · have := Rat.mul_lt_mul_of_pos_right hl hnv; grind
        · exact hl.symm
    have hy0 : 0 ≤ y := by
      rcases rat_lt_or_le y 0 with hl | hl
      · have := Rat.mul_lt_mul_of_pos_right hl hnR
        have h5 : (0 : Rat) ≤ (r : Rat) := Rat.natCast_nonneg
        grind
      · exact hl
    have hy1 : y < 1 := by
      rcases rat_lt_or_le y 1 with hl | hl
      · exact hl
      · have := Rat.mul_le_mul_of_nonneg_right hl (Rat.le_of_lt hnR)
        have h5 : (r : Rat) < (n : Rat) := Rat.natCast_lt_natCast.2 q2
        grind
    have hyr : r = 0 → y = 0 := by
      rintro rfl
      rcases Rat.le_iff_lt_or_eq.1 hy0 with hl | hl
      · have := Rat.mul_lt_mul_of_pos_right hl hnR
        simp at hy; grind
      · exact hl.symm
    have hpp := pw_pos p
    have hhalf : pw p = 2 * pw (p - 1) := by rw [← pw_succ]; congr 1; omega
    have hpq := pw_pos (p - 1)
    -- what is written
    obtain ⟨Q, hQ⟩ : ∃ Q, Q = 2 * q + (r != 0).toNat := ⟨_, rfl⟩
    have hQv : mval Q (p - 1) ≤ V + pw (p - 1) ∧ V ≤ mval Q (p - 1) + pw (p - 1) ∧ (r = 0 → mval Q (p - 1) = V) ∧ (r ≠ 0 → mval Q (p - 1) = (q : Rat) * pw p + pw (p - 1)) := by
      have hyp : y * pw p ≤ pw p := by
        have := Rat.mul_le_mul_of_nonneg_right (Rat.le_of_lt hy1) (Rat.le_of_lt hpp); grind
      have hyp0 : 0 ≤ y * pw p := Rat.mul_nonneg hy0 (Rat.le_of_lt hpp)
      by_cases hr0 : r = 0
      · have hy := hyr hr0
        have hb : (r != 0).toNat = 0 := by rw [hr0]; rfl
        have e : mval Q (p - 1) = V := by
          rw [hQ, hb, hVu, hy]; unfold mval; rw [Nat.add_zero, Rat.natCast_mul]
          rw [hhalf]; simp; grind
        refine ⟨by grind, by grind, fun _ => e, fun h => absurd hr0 h⟩
      · have hb : (r != 0).toNat = 1 := by simp [hr0]
        have e : mval Q (p - 1) = (q : Rat) * pw p + pw (p - 1) := by
          rw [hQ, hb]; unfold mval; rw [Rat.natCast_add, Rat.natCast_mul]
          rw [hhalf]; simp; grind
        refine ⟨by rw [e, hVu]; grind, by rw [e, hVu]; grind, fun h => absurd h hr0, fun _ => e⟩
    -- q is great
    have hqp : pw (k.format.fractionBits + 1 : Nat) * pw p ≤ (q : Rat) * pw p := by
      rw [pw_nat]
      exact Rat.mul_le_mul_of_nonneg_right (Rat.natCast_le_natCast.2 q3) (Rat.le_of_lt hpp)
    have hqV : (q : Rat) * pw p ≤ V := by
      rw [hVu]
      have := Rat.mul_nonneg hy0 (Rat.le_of_lt hpp)
      grind
    have huV : pw (p - 1) ≤ uu k / 2 * V := by
      have e : uu k * (pw (k.format.fractionBits + 1 : Nat)) = 1 := by
        cases k
        · show pw (-24) * pw ((24 : Nat) : Int) = 1
          rw [← pw_add]; exact pw_zero
        · show pw (-53) * pw ((53 : Nat) : Int) = 1
          rw [← pw_add]; exact pw_zero
      have h1 : pw (k.format.fractionBits + 1 : Nat) * pw p ≤ V := by grind
      have h2 := Rat.mul_le_mul_of_nonneg_left h1 hu
      have h3 : uu k * (pw (k.format.fractionBits + 1 : Nat) * pw p) = pw p := by rw [← Rat.mul_assoc, e]; grind
      rw [h3, hhalf] at h2
      grind
    have hV0 : 0 ≤ V := by
      have h5 : (0 : Rat) ≤ (q : Rat) := Rat.natCast_nonneg
      have := Rat.mul_nonneg h5 (Rat.le_of_lt hpp)
      grind
    have hu1 : uu k ≤ 1 / 8 := by cases k <;> (show pw _ ≤ _; unfold pw; grind)
    have habV : ab (fv k a / fv k b) = V := by
      rw [hva, hvb, hsgn]
      split
      · rw [ab_neg, ab_of_nonneg hV0]
      · exact ab_of_nonneg hV0
    rw [habV] at h
    have huV2 : uu k / 2 * V ≤ V / 16 := by
      have := Rat.mul_le_mul_of_nonneg_right hu1 hV0
      grind
    have hws := write_spec k (s ^^ t) Q (p - 1) (by rw [dval_ab]; grind)
    rw [hfo, ← hQ]
    generalize hR : k.format.write (.number (s ^^ t) Q (p - 1)) = R at *
    obtain ⟨w1, w2, w3⟩ := hws
    rw [dval_ab] at w2
    have hdv : fv k a / fv k b = if (s ^^ t) = true then -V else V := by rw [hva, hvb, hsgn]
    refine ⟨w1, ?_, ?_⟩
    · rw [habV, hdv]
      rw [dval_num] at w2
      have hx := le_ab (fv k R - if (s ^^ t) = true then -mval Q (p - 1) else mval Q (p - 1))
      have h7 : uu k * mval Q (p - 1) ≤ uu k * V + uu k / 2 * V / 8 := by
        have h8 : mval Q (p - 1) ≤ V + uu k / 2 * V := by grind
        have h9 := Rat.mul_le_mul_of_nonneg_left h8 hu
        have h10 : 0 ≤ uu k / 2 * V := Rat.mul_nonneg (by grind) hV0
        have h11 := Rat.mul_le_mul_of_nonneg_right hu1 h10
        grind
      have h12 : 0 ≤ uu k * V := Rat.mul_nonneg hu hV0
      cases hst : (s ^^ t)
      · rw [hst] at hx w2
        simp only [Bool.false_eq_true, if_false] at hx w2 ⊢
        exact ab_le (by grind) (by grind)
      · rw [hst] at hx w2
        simp only [if_true] at hx w2 ⊢
        exact ab_le (by grind) (by grind)
    · intro z hz
      have hT := w3 z hz
      obtain ⟨s', m', e', hz⟩ := hz
      have hzv : fv k z = dval (.number s' m' e') := by unfold fv; rw [hz]
      obtain ⟨b1, b2, _⟩ := read_bounds k.format (eb_ge k) hz
      -- magnitudes on the same side of V are on the same side of Q
      have side : (mval m' e' ≤ V → mval m' e' ≤ mval Q (p - 1)) ∧ (V ≤ mval m' e' → mval Q (p - 1) ≤ mval m' e') := by
        by_cases hr0 : r = 0
        · rw [hQv.2.2.1 hr0]; exact ⟨id, id⟩
        · have e := hQv.2.2.2 hr0
          rw [e]
          by_cases hep : p ≤ e'
          · obtain ⟨c, hc⟩ : ∃ c : Nat, e' = p + c := ⟨(e' - p).toNat, by omega⟩
            have hzm : mval m' e' = ((m' * 2 ^ c : Nat) : Rat) * pw p := by
              have := mval_scale' m' c p
              rw [hc, ← this]; rfl
            rw [hzm, hVu]
            generalize m' * 2 ^ c = N
            constructor
            · intro h
              have : N ≤ q := by
                rcases Nat.lt_or_ge q N with h1 | h1
                · exfalso
                  have h2 : ((q + 1 : Nat) : Rat) ≤ (N : Rat) := Rat.natCast_le_natCast.2 h1
                  have h3 := Rat.mul_le_mul_of_nonneg_right h2 (Rat.le_of_lt hpp)
                  have h4 := Rat.mul_lt_mul_of_pos_right hy1 hpp
                  rw [Rat.natCast_add] at h3
                  simp at h3
                  grind
                · exact h1
              have h2 := Rat.mul_le_mul_of_nonneg_right (Rat.natCast_le_natCast.2 this) (Rat.le_of_lt hpp)
              grind
            · intro h
              have hypos : 0 < y := by
                rcases Rat.le_iff_lt_or_eq.1 hy0 with hl | hl
                · exact hl
                · exfalso
                  rw [← hl, Rat.zero_mul] at hy
                  have : ((0 : Nat) : Rat) = (r : Rat) := hy
                  have := Rat.natCast_inj.1 this
                  omega
              have : q + 1 ≤ N := by
                rcases Nat.lt_or_ge q N with h1 | h1
                · exact h1
                · exfalso
                  have h2 : (N : Rat) ≤ (q : Rat) := Rat.natCast_le_natCast.2 h1
                  have h3 := Rat.mul_le_mul_of_nonneg_right h2 (Rat.le_of_lt hpp)
                  have h4 := Rat.mul_pos hypos hpp
                  grind
              have h2 := Rat.mul_le_mul_of_nonneg_right (Rat.natCast_le_natCast.2 this) (Rat.le_of_lt hpp)
              rw [Rat.natCast_add] at h2
              simp at h2
              grind
          · have hzlt : mval m' e' < (q : Rat) * pw p := by
              have h1 : mval m' e' < mval (2 * k.format.binade) e' := mval_lt b2
              have h2 : mval (2 * k.format.binade) e' ≤ pw (k.format.fractionBits + 1 : Nat) * pw p := by
                have : 2 * k.format.binade = 2 ^ (k.format.fractionBits + 1) := by unfold Format.binade; rw [Nat.pow_succ, Nat.mul_comm]
                rw [this]
                unfold mval
                rw [← pw_nat]
                exact Rat.mul_le_mul_of_nonneg_left (pw_mono (by omega)) (Rat.le_of_lt (pw_pos _))
              grind
            constructor
            · intro _; grind
            · intro h; exfalso; grind
      have n1 := mval_nonneg m' e'
      have n2 := mval_nonneg Q (p - 1)
      have Vpos : 0 < V := by
        have h5 := pw_pos (k.format.fractionBits + 1 : Nat)
        have := Rat.mul_pos h5 hpp
        grind
      rw [dval_num] at hT
      rw [hzv] at hT
      rw [hdv, hzv]
      rw [dval_num] at hT ⊢
      cases hst : (s ^^ t) <;> cases s' <;> rw [hst] at hT <;> simp only [Bool.false_eq_true, if_false, if_true] at hT ⊢
      · exact ⟨fun h => hT.1 (side.1 h), fun h => hT.2 (side.2 h)⟩
      · exact ⟨fun h => hT.1 (by grind), fun h => by exfalso; grind⟩
      · exact ⟨fun h => by exfalso; grind, fun h => hT.2 (by grind)⟩
      · exact ⟨fun h => hT.1 (by have := side.2 (by grind); grind), fun h => hT.2 (by have := side.1 (by grind); grind)⟩
end Go.Proofs.Ytignncjmbcdpaaa
