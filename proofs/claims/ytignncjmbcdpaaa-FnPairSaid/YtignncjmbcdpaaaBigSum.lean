/-
Sums too great for the bounded laws: infinite, or great. (Plain arithmetic.)
-/
import Derived.Test.YtignncjmbcdpaaaExact
namespace Go.Proofs.Ytignncjmbcdpaaa
open Go Ieee
section
variable (f : Format)
theorem nearest_rung (neg : Bool) (mag : Nat) (place : Int) (h0 : mag ≠ 0) :
    ∃ j c : Nat, f.nearest neg mag place = f.word neg (min (j * f.binade + c) f.infRung) ∧ lastOf f mag place = f.leastPlace + j ∧ c ≤ 2 * f.binade ∧ (j = 0 ∨ f.binade ≤ c) := by
  have hsl := Nat.log2_self_le h0
  have hself := Nat.lt_log2_self (n := mag)
  rw [nearest_eq f neg mag place h0]
  have hLdef : lastOf f mag place = max (place + mag.log2 - f.fractionBits) f.leastPlace := rfl
  generalize lastOf f mag place = L at *
  obtain ⟨j, hj⟩ : ∃ j : Nat, L = f.leastPlace + j := ⟨(L - f.leastPlace).toNat, by omega⟩
  -- n, d: the number in units of 2^(L - d)
  obtain ⟨d, hd⟩ : ∃ d : Nat, (L - place).toNat = d := ⟨_, rfl⟩
  obtain ⟨up, hup⟩ : ∃ up : Nat, (place - L).toNat = up := ⟨_, rfl⟩
  rw [hd, hup, Nat.shiftLeft_eq, show (L - f.leastPlace).toNat = j by omega]
  have hn0 : mag * 2 ^ up ≠ 0 := Nat.mul_ne_zero h0 (by have := Nat.two_pow_pos up; omega)
  have hval : mval mag place = mval (mag * 2 ^ up) (L - d) := by
    rw [mval_scale']; congr 1; omega
  have hlogn : (mag * 2 ^ up).log2 = mag.log2 + up := log2_mul_pow mag up h0
  obtain ⟨c1, c2, c3, c4⟩ := cut_spec neg (mag * 2 ^ up) d
  have hnb : mag * 2 ^ up < 2 * f.binade * 2 ^ d := by
    have h1 := Nat.lt_log2_self (n := mag * 2 ^ up)
    rw [hlogn] at h1
    have h2 : 2 * f.binade * 2 ^ d = 2 ^ (f.fractionBits + 1 + d) := by
      unfold Format.binade; rw [Nat.pow_add, Nat.pow_succ, Nat.mul_comm 2]
    rw [h2]
    exact Nat.lt_of_lt_of_le h1 (Nat.pow_le_pow_right (by omega) (by omega))
  have hlo : f.leastPlace < L → f.binade * 2 ^ d ≤ mag * 2 ^ up := fun h => by
    have h1 := Nat.log2_self_le hn0
    rw [hlogn] at h1
    have h2 : f.binade * 2 ^ d = 2 ^ (f.fractionBits + d) := by unfold Format.binade; rw [Nat.pow_add]
    rw [h2]
    exact Nat.le_trans (Nat.pow_le_pow_right (by omega) (by omega)) h1
  generalize hn : mag * 2 ^ up = n at *
  have hcb : Toward.even.cut neg n d ≤ 2 * f.binade := c4 _ (by omega)
  have hcl : j = 0 ∨ f.binade ≤ Toward.even.cut neg n d := by
    rcases Nat.eq_zero_or_pos j with h | h
    · exact .inl h
    · exact .inr (c3 _ (hlo (by omega)))
  exact ⟨j, _, rfl, hj, hcb, hcl⟩
theorem nearest_big (neg : Bool) (mag : Nat) (place q : Int) (h0 : mag ≠ 0) (hv : pw q ≤ mval mag place) (hq : f.leastPlace + f.fractionBits < q) :
    f.nearest neg mag place = f.word neg f.infRung ∨ ∃ m e, f.read (f.nearest neg mag place) = .number neg m e ∧ pw q ≤ mval m e := by
  obtain ⟨j, c, h1, h2, h3, h4⟩ := nearest_rung f neg mag place h0
  have hlog : q ≤ place + mag.log2 := by
    rcases Int.lt_or_le (place + mag.log2) q with h | h
    · exfalso
      have a1 : mval mag place < mval (2 ^ (mag.log2 + 1)) place := mval_lt Nat.lt_log2_self
      have a2 : mval (2 ^ (mag.log2 + 1)) place = pw (place + mag.log2 + 1) := by
        unfold mval; rw [← pw_nat, ← pw_add]; congr 1; omega
      have a3 : pw (place + mag.log2 + 1) ≤ pw q := pw_mono (by omega)
      grind
    · exact h
  have hL : q - f.fractionBits ≤ lastOf f mag place := by unfold lastOf; omega
  have hc : f.binade ≤ c := by
    rcases h4 with h | h
    · omega
    · exact h
  rcases Nat.lt_or_ge (j * f.binade + c) f.infRung with hR | hR
  · right
    rw [h1, Nat.min_eq_left (Nat.le_of_lt hR)]
    obtain ⟨m, e, hr, hme⟩ := read_rung f neg j c h3 h4 hR
    refine ⟨m, e, hr, ?_⟩
    rw [hme]
    have b1 : mval f.binade (f.leastPlace + j) ≤ mval c (f.leastPlace + j) := mval_le hc
    have b2 : mval f.binade (f.leastPlace + j) = pw (f.leastPlace + j + f.fractionBits) := by
      unfold mval Format.binade; rw [← pw_nat, ← pw_add]; congr 1; omega
    have b3 : pw q ≤ pw (f.leastPlace + j + f.fractionBits) := pw_mono (by omega)
    grind
  · left
    rw [h1, Nat.min_eq_right hR]
end
theorem inf_read : FloatKind.f64.format.read (FloatKind.f64.format.word false FloatKind.f64.format.infRung) = .infinity false := by decide +kernel

/-- A great sum is greater than any bound. -/
theorem big_sum {a b c : Nat} (ha : fin .f64 a) (hb : fin .f64 b) (h : pw 900 ≤ fv .f64 a + fv .f64 b) (hc : fin .f64 c) (hcv : fv .f64 c < pw 900) : fgt .f64 (fo .add .f64 a b) c = true := by
  obtain ⟨s, m, i, ha⟩ := ha
  obtain ⟨t, n, j, hb⟩ := hb
  obtain ⟨s', m', e', h1, h2⟩ := sum_val s t m n i j
  have hp := pw_pos 900
  unfold fv at h
  rw [ha, hb, ← h2] at h
  have hs : s' = false := by
    cases s'
    · rfl
    · exfalso
      rw [dval_num] at h
      have := mval_nonneg m' e'
      simp only [if_true] at h
      grind
  subst hs
  rw [dval_num] at h
  simp only [Bool.false_eq_true, if_false] at h
  have h0 : m' ≠ 0 := by rintro rfl; rw [mval_zero] at h; grind
  have : fo .add .f64 a b = FloatKind.f64.format.write (.number false m' e') := fo_some (by
    show ((FloatKind.f64.format.read a).sum (FloatKind.f64.format.read b)).map FloatKind.f64.format.write = _
    rw [ha, hb, h1]; rfl)
  rw [this]
  show fgt .f64 (FloatKind.f64.format.nearest false m' e') c = true
  rcases nearest_big FloatKind.f64.format false m' e' 900 h0 h (by decide +kernel) with h3 | ⟨m2, e2, hr, hv⟩
  · rw [h3]
    obtain ⟨u, k, l, hc⟩ := hc
    unfold fgt Format.order
    rw [inf_read, hc]; rfl
  · refine (fgt_iff ⟨_, _, _, hr⟩ hc).2 ?_
    have e : fv .f64 (FloatKind.f64.format.nearest false m' e') = mval m2 e2 := by unfold fv; rw [hr, dval_num]; rfl
    rw [e]; grind
end Go.Proofs.Ytignncjmbcdpaaa
