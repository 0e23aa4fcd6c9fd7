/-
Binary floating point: what is written is read back; a number that the format has is not turned by writing it. (Plain arithmetic: no program stands here.)
-/
import Ieee.Arith
import Derived.Laws.FloatBits
namespace Go.Proofs.Ytignncjmbcdpaaa
open Ieee

theorem log2_mul_pow (m k : Nat) (h : m ≠ 0) : (m * 2 ^ k).log2 = m.log2 + k := by
  induction k with
  | zero => simp
  | succ k ih =>
    have h2 : m * 2 ^ k ≠ 0 := Nat.mul_ne_zero h (by have := Nat.two_pow_pos k; omega)
    rw [Nat.pow_succ, ← Nat.mul_assoc, Nat.mul_comm _ 2, Nat.log2_two_mul h2, ih]; omega

theorem cut_even_zero (neg : Bool) (n : Nat) : Toward.even.cut neg n 0 = n := by
  simp [Toward.cut, Nat.mod_one]

/-- A multiple of the gap is cut exactly. -/
theorem cut_even_mul (neg : Bool) (n d : Nat) (hn : n ≠ 0) : Toward.even.cut neg (n * 2 ^ d) d = n := by
  have hl : min d ((n * 2 ^ d).log2 + 2) = d := by rw [log2_mul_pow n d hn]; omega
  have hp := Nat.two_pow_pos d
  simp only [Toward.cut, hl, Nat.shiftLeft_eq, Nat.one_mul, Nat.mul_div_cancel _ hp, Nat.mul_mod_left]
  have e1 : decide (2 ^ d < 2 * 0) = false := by simp
  have e2 : (2 ^ d == 2 * 0) = false := by simp
  rw [e1, e2]; simp

/-- Scaling a number and what is dropped of it alike changes nothing. -/
theorem cut_even_scale (neg : Bool) (n d k : Nat) (hn : n ≠ 0) : Toward.even.cut neg (n * 2 ^ k) (d + k) = Toward.even.cut neg n d := by
  have hl := log2_mul_pow n k hn
  have hm : min (d + k) ((n * 2 ^ k).log2 + 2) = min d (n.log2 + 2) + k := by rw [hl]; omega
  simp only [Toward.cut, hm, Nat.shiftLeft_eq, Nat.one_mul, Nat.pow_add]
  generalize 2 ^ min d (n.log2 + 2) = g
  have hp := Nat.two_pow_pos k
  have hd : n * 2 ^ k / (g * 2 ^ k) = n / g := Nat.mul_div_mul_right _ _ hp
  have hr : n * 2 ^ k % (g * 2 ^ k) = n % g * 2 ^ k := Nat.mul_mod_mul_right _ _ _
  rw [hd, hr]
  have c1 : decide (g * 2 ^ k < 2 * (n % g * 2 ^ k)) = decide (g < 2 * (n % g)) := by
    rw [← Nat.mul_assoc]; simp [Nat.mul_lt_mul_right hp]
  have c2 : (g * 2 ^ k == 2 * (n % g * 2 ^ k)) = (g == 2 * (n % g)) := by
    rw [← Nat.mul_assoc, Bool.eq_iff_iff]; simp [Nat.mul_left_inj (Nat.ne_of_gt hp)]
  rw [c1, c2]

section
variable (f : Format)

/-- The place of the last digit kept. -/
def lastOf (mag : Nat) (place : Int) : Int := max (place + mag.log2 - f.fractionBits) f.leastPlace

theorem nearest_eq (neg : Bool) (mag : Nat) (place : Int) (h : mag ≠ 0) : f.nearest neg mag place =
    f.word neg (min ((lastOf f mag place - f.leastPlace).toNat * f.binade + Toward.even.cut neg (mag <<< (place - lastOf f mag place).toNat) (lastOf f mag place - place).toNat) f.infRung) := by
  simp [Format.nearest, h, lastOf]

theorem lastOf_scale (mag : Nat) (place : Int) (k : Nat) (h : mag ≠ 0) : lastOf f (mag * 2 ^ k) (place - k) = lastOf f mag place := by
  unfold lastOf
  rw [log2_mul_pow mag k h]
  have : place - (k : Int) + ((mag.log2 + k : Nat) : Int) - (f.fractionBits : Int) = place + (mag.log2 : Int) - f.fractionBits := by omega
  rw [this]

/-- The word nearest to a number goes by its value alone. -/
theorem nearest_scale (neg : Bool) (mag : Nat) (place : Int) (k : Nat) : f.nearest neg (mag * 2 ^ k) (place - k) = f.nearest neg mag place := by
  by_cases h : mag = 0
  · subst h; simp [Format.nearest]
  · have hk : mag * 2 ^ k ≠ 0 := Nat.mul_ne_zero h (by have := Nat.two_pow_pos k; omega)
    rw [nearest_eq f neg _ _ hk, nearest_eq f neg _ _ h, lastOf_scale f mag place k h]
    generalize lastOf f mag place = L
    congr 3
    by_cases h1 : place ≤ L
    · rw [show (place - (k : Int) - L).toNat = 0 by omega, show (place - L).toNat = 0 by omega, show (L - (place - (k : Int))).toNat = (L - place).toNat + k by omega]
      simp only [Nat.shiftLeft_zero]
      exact cut_even_scale neg mag _ k h
    · by_cases h2 : place - k ≤ L
      · obtain ⟨d, hd⟩ : ∃ d : Nat, (d : Int) = L - (place - k) := ⟨(L - (place - k)).toNat, by omega⟩
        rw [show (place - (k : Int) - L).toNat = 0 by omega, show (L - (place - (k : Int))).toNat = d by omega, show (L - place).toNat = 0 by omega, show (place - L).toNat = k - d by omega]
        have e : mag * 2 ^ k = mag * 2 ^ (k - d) * 2 ^ d := by rw [Nat.mul_assoc, ← Nat.pow_add]; congr 2; omega
        rw [e]
        simp only [Nat.shiftLeft_eq, cut_even_zero, Nat.pow_zero, Nat.mul_one]
        exact cut_even_mul neg _ d (Nat.mul_ne_zero h (by have := Nat.two_pow_pos (k - d); omega))
      · rw [show (L - (place - (k : Int))).toNat = 0 by omega, show (L - place).toNat = 0 by omega]
        simp only [Nat.shiftLeft_eq, cut_even_zero]
        rw [Nat.mul_assoc, ← Nat.pow_add]
        congr 2; omega

/-- A number that the format has: its word, read, is that number in the format's own way of writing it. -/
theorem read_nearest_exact (neg : Bool) (mag : Nat) (place : Int) (h : mag ≠ 0) (hx : lastOf f mag place ≤ place)
    (hr : (lastOf f mag place - f.leastPlace).toNat * f.binade + mag * 2 ^ (place - lastOf f mag place).toNat < f.infRung) :
    f.read (f.nearest neg mag place) = .number neg (mag * 2 ^ (place - lastOf f mag place).toNat) (lastOf f mag place) := by
  rw [nearest_eq f neg _ _ h]
  have hL : f.leastPlace ≤ lastOf f mag place := by unfold lastOf; omega
  have hM2 : mag * 2 ^ (place - lastOf f mag place).toNat < 2 * f.binade := by
    have : (mag * 2 ^ (place - lastOf f mag place).toNat).log2 ≤ f.fractionBits := by
      rw [log2_mul_pow _ _ h]; unfold lastOf at hx ⊢; omega
    have h0 : mag * 2 ^ (place - lastOf f mag place).toNat ≠ 0 := Nat.mul_ne_zero h (by have := Nat.two_pow_pos (place - lastOf f mag place).toNat; omega)
    have := (Nat.log2_lt h0).1 (Nat.lt_succ_of_le this)
    unfold Format.binade
    rw [Nat.pow_succ] at this; omega
  have hM1 : f.leastPlace < lastOf f mag place → f.binade ≤ mag * 2 ^ (place - lastOf f mag place).toNat := fun hlt => by
    have h0 : mag * 2 ^ (place - lastOf f mag place).toNat ≠ 0 := Nat.mul_ne_zero h (by have := Nat.two_pow_pos (place - lastOf f mag place).toNat; omega)
    have : f.fractionBits ≤ (mag * 2 ^ (place - lastOf f mag place).toNat).log2 := by
      rw [log2_mul_pow _ _ h]; unfold lastOf at hx hlt ⊢; omega
    exact (Nat.le_log2 h0).1 this
  rw [show (lastOf f mag place - place).toNat = 0 by omega, cut_even_zero, Nat.shiftLeft_eq]
  generalize hLn : lastOf f mag place = L at *
  generalize mag * 2 ^ (place - L).toNat = M at *
  obtain ⟨j, hj⟩ : ∃ j : Nat, L = f.leastPlace + j := ⟨(L - f.leastPlace).toNat, by omega⟩
  rw [show (L - f.leastPlace).toNat = j by omega] at hr ⊢
  rw [Nat.min_eq_left (Nat.le_of_lt hr)]
  have hlt := f.infRung_lt
  have hsw : j * f.binade + M < f.signWeight := by omega
  have hneg : (f.word neg (j * f.binade + M) / f.signWeight % 2 == 1) = neg := by
    unfold Format.word
    cases neg
    · simp [Nat.div_eq_of_lt hsw]
    · have hp : 0 < f.signWeight := by omega
      simp only [if_true]
      rw [Nat.add_comm, Nat.add_div_right _ hp, Nat.div_eq_of_lt hsw]; rfl
  have hmod : f.word neg (j * f.binade + M) % f.signWeight = j * f.binade + M := by
    unfold Format.word
    split
    · rw [Nat.add_mod_left, Nat.mod_eq_of_lt hsw]
    · exact Nat.mod_eq_of_lt hsw
  have hb : 0 < f.binade := Nat.two_pow_pos _
  unfold Format.read
  simp only [hneg, hmod]
  by_cases hsub : j * f.binade + M < f.binade
  · have hj0 : j = 0 := by
      rcases Nat.eq_zero_or_pos j with h0 | h0
      · exact h0
      · have : f.binade ≤ j * f.binade := Nat.le_mul_of_pos_left _ h0
        omega
    rw [if_pos hsub, hj, hj0]; simp
  · rw [if_neg hsub, if_pos hr]
    have hMb : f.binade ≤ M := by
      by_cases hj0 : j = 0
      · subst hj0; omega
      · exact hM1 (by omega)
    have hdiv : (j * f.binade + M) / f.binade = j + 1 := by
      rw [Nat.add_comm, Nat.add_mul_div_right _ _ hb, show M / f.binade = 1 from by
        rw [Nat.div_eq_iff hb]; omega]; omega
    have hmod' : (j * f.binade + M) % f.binade = M - f.binade := by
      rw [Nat.add_comm, Nat.add_mul_mod_self_right, Nat.mod_eq_sub_mod hMb, Nat.mod_eq_of_lt (by omega)]
    rw [hdiv, hmod', hj]
    congr 1
    · omega

theorem read_word (neg : Bool) (rung : Nat) (h : rung < f.infRung) : f.read (f.word neg rung) =
    if rung < f.binade then .number neg rung f.leastPlace else .number neg (f.binade + rung % f.binade) (f.leastPlace + (rung / f.binade - 1 : Nat)) := by
  have hlt := f.infRung_lt
  have hsw : rung < f.signWeight := by omega
  have hneg : (f.word neg rung / f.signWeight % 2 == 1) = neg := by
    unfold Format.word
    cases neg
    · simp [Nat.div_eq_of_lt hsw]
    · have hp : 0 < f.signWeight := by omega
      simp only [if_true]
      rw [Nat.add_comm, Nat.add_div_right _ hp, Nat.div_eq_of_lt hsw]; rfl
  have hmod : f.word neg rung % f.signWeight = rung := by
    unfold Format.word
    split
    · rw [Nat.add_mod_left, Nat.mod_eq_of_lt hsw]
    · exact Nat.mod_eq_of_lt hsw
  unfold Format.read
  simp only [hneg, hmod]
  split <;> rfl

theorem binade_le (hf : 1 ≤ f.exponentBits) : f.binade ≤ f.infRung := by
  unfold Format.infRung
  have h1 : 2 ^ 1 ≤ 2 ^ f.exponentBits := Nat.pow_le_pow_right (by omega) hf
  exact Nat.le_mul_of_pos_left _ (by omega)

/-- What a word that is a number reads as lies within the format. -/
theorem read_bounds (hf : 1 ≤ f.exponentBits) {b : Nat} {neg : Bool} {mag : Nat} {place : Int} (h : f.read b = .number neg mag place) :
    f.leastPlace ≤ place ∧ mag < 2 * f.binade ∧ (f.leastPlace < place → f.binade ≤ mag) ∧ (place - f.leastPlace).toNat * f.binade + mag < f.infRung ∧
      (place - f.leastPlace).toNat * f.binade + mag = b % f.signWeight ∧ neg = (b / f.signWeight % 2 == 1) := by
  unfold Format.read at h
  simp only at h
  have hb : 0 < f.binade := Nat.two_pow_pos _
  split at h
  · rename_i hlt
    injection h with h1 h2 h3
    subst h2 h3
    have := binade_le f hf
    refine ⟨Int.le_refl _, by omega, fun h => by omega, by simp; omega, by simp, h1.symm⟩
  · split at h
    · rename_i hge hlt
      injection h with h1 h2 h3
      subst h2 h3
      have hm := Nat.mod_lt (b % f.signWeight) hb
      have hd := Nat.div_add_mod (b % f.signWeight) f.binade
      have hq : 1 ≤ b % f.signWeight / f.binade := (Nat.one_le_div_iff hb).2 (by omega)
      obtain ⟨q, hq'⟩ : ∃ q, b % f.signWeight / f.binade = q + 1 := ⟨b % f.signWeight / f.binade - 1, by omega⟩
      rw [hq'] at hd ⊢
      have e : f.binade * (q + 1) = q * f.binade + f.binade := by rw [Nat.mul_comm, Nat.add_mul, Nat.one_mul]
      refine ⟨by omega, by omega, fun _ => by omega, ?_, ?_, h1.symm⟩
      · rw [show (f.leastPlace + ((q + 1 - 1 : Nat) : Int) - f.leastPlace).toNat = q by omega]; omega
      · rw [show (f.leastPlace + ((q + 1 - 1 : Nat) : Int) - f.leastPlace).toNat = q by omega]; omega
    · split at h <;> cases h

theorem lastOf_read (hf : 1 ≤ f.exponentBits) {b : Nat} {neg : Bool} {mag : Nat} {place : Int} (h : f.read b = .number neg mag place) (h0 : mag ≠ 0) : lastOf f mag place = place := by
  obtain ⟨h1, h2, h3, _⟩ := read_bounds f hf h
  have hlt : mag.log2 < f.fractionBits + 1 := (Nat.log2_lt h0).2 (by unfold Format.binade at h2; rw [Nat.pow_succ]; omega)
  unfold lastOf
  by_cases hp : f.leastPlace < place
  · have : f.fractionBits ≤ mag.log2 := (Nat.le_log2 h0).2 (h3 hp)
    omega
  · omega

theorem zero_place (hf : 1 ≤ f.exponentBits) {b : Nat} {neg : Bool} {place : Int} (h : f.read b = .number neg 0 place) : place = f.leastPlace := by
  obtain ⟨h1, h2, h3, _⟩ := read_bounds f hf h
  have hb : 0 < f.binade := Nat.two_pow_pos _
  by_cases hp : f.leastPlace < place
  · have := h3 hp; omega
  · omega

theorem word_of_parts {b : Nat} (hb : b < 2 ^ f.width) : f.word (b / f.signWeight % 2 == 1) (b % f.signWeight) = b := by
  have two : 2 ^ f.width = 2 * f.signWeight := by
    unfold Format.width Format.signWeight
    rw [Nat.add_assoc, Nat.add_comm 1, Nat.pow_succ, Nat.mul_comm]
  have hp : 0 < f.signWeight := Nat.two_pow_pos _
  rw [two] at hb
  have hd := Nat.div_add_mod b f.signWeight
  have hq : b / f.signWeight < 2 := (Nat.div_lt_iff_lt_mul hp).2 hb
  unfold Format.word
  generalize b % f.signWeight = r at *
  generalize b / f.signWeight = q at *
  rcases (by omega : q = 0 ∨ q = 1) with h | h
  · rw [h] at hd ⊢; simp at hd; simpa using hd
  · rw [h] at hd ⊢; simp at hd; simpa using hd

/-- What is read is written back as it was. -/
theorem write_read (hf : 1 ≤ f.exponentBits) {b : Nat} (hb : b < 2 ^ f.width) (hn : (f.read b).isNaN = false) : f.write (f.read b) = b := by
  cases hr : f.read b with
  | nan s t => rw [hr] at hn; cases hn
  | number neg mag place =>
    obtain ⟨h1, h2, h3, h4, h5, h6⟩ := read_bounds f hf hr
    show f.nearest neg mag place = b
    by_cases h0 : mag = 0
    · subst h0
      have := zero_place f hf hr
      rw [this] at h5
      simp only [Format.nearest, if_true]
      rw [← word_of_parts f hb, ← h6, ← h5]; simp
    · rw [nearest_eq f _ _ _ h0, lastOf_read f hf hr h0, Int.sub_self]
      simp only [Int.toNat_zero, Nat.shiftLeft_zero, cut_even_zero]
      rw [Nat.min_eq_left (Nat.le_of_lt h4), h5, h6, word_of_parts f hb]
  | infinity s =>
    unfold Format.read at hr
    simp only at hr
    split at hr
    · cases hr
    · split at hr
      · cases hr
      · split at hr
        · rename_i h
          injection hr with h1
          show f.word s f.infRung = b
          rw [← h1, ← h, word_of_parts f hb]
        · cases hr

theorem read_infinity (hf : 1 ≤ f.exponentBits) (s : Bool) : f.read (f.word s f.infRung) = .infinity s := by
  have hsw := f.infRung_lt
  have hneg : (f.word s f.infRung / f.signWeight % 2 == 1) = s := by
    unfold Format.word
    cases s
    · simp [Nat.div_eq_of_lt hsw]
    · have hp : 0 < f.signWeight := by omega
      simp only [if_true]
      rw [Nat.add_comm, Nat.add_div_right _ hp, Nat.div_eq_of_lt hsw]; rfl
  have hmod : f.word s f.infRung % f.signWeight = f.infRung := by
    unfold Format.word
    split
    · rw [Nat.add_mod_left, Nat.mod_eq_of_lt hsw]
    · exact Nat.mod_eq_of_lt hsw
  have hb := binade_le f hf
  unfold Format.read
  simp only [hneg, hmod]
  rw [if_neg (by omega), if_neg (by omega)]; simp
end

/-! ### The two widths -/
theorem widen_read {b : Nat} {neg : Bool} {mag : Nat} {place : Int} (h : single.read b = .number neg mag place) :
    ∃ k : Nat, double.read (double.write (.number neg mag place)) = .number neg (mag * 2 ^ k) (place - k) := by
  obtain ⟨h1, h2, h3, h4, h5, h6⟩ := read_bounds single (by decide) h
  by_cases h0 : mag = 0
  · subst h0
    have hp := zero_place single (by decide) h
    refine ⟨925, ?_⟩
    rw [hp]
    cases neg <;> decide +kernel
  · have e1 : single.leastPlace = -149 := by decide +kernel
    have e2 : single.binade = 8388608 := by decide +kernel
    have e3 : single.infRung = 2139095040 := by decide +kernel
    have d1 : double.leastPlace = -1074 := by decide +kernel
    have d2 : double.binade = 4503599627370496 := by decide +kernel
    have d3 : double.infRung = 9218868437227405312 := by decide +kernel
    rw [e1] at h1 h3 h4
    rw [e2] at h2 h3 h4
    rw [e3] at h4
    have hlog : mag.log2 < 24 := (Nat.log2_lt h0).2 (by omega)
    have hpl : place ≤ 105 := by omega
    have hlast : lastOf double mag place = place + mag.log2 - 52 := by
      unfold lastOf
      rw [d1, show (double.fractionBits : Int) = 52 from rfl]; omega
    have hself := Nat.lt_log2_self (n := mag)
    have hk : (place - lastOf double mag place).toNat = 52 - mag.log2 := by rw [hlast]; omega
    have hM : mag * 2 ^ (52 - mag.log2) < 9007199254740992 := by
      have : mag * 2 ^ (52 - mag.log2) < 2 ^ (mag.log2 + 1) * 2 ^ (52 - mag.log2) := Nat.mul_lt_mul_of_pos_right hself (Nat.two_pow_pos _)
      rw [← Nat.pow_add, show mag.log2 + 1 + (52 - mag.log2) = 53 by omega] at this
      exact this
    refine ⟨52 - mag.log2, ?_⟩
    have hj : (lastOf double mag place - double.leastPlace).toNat ≤ 1151 := by rw [hlast, d1]; omega
    have hall : (lastOf double mag place - double.leastPlace).toNat * double.binade + mag * 2 ^ (place - lastOf double mag place).toNat < double.infRung := by
      rw [hk]
      have := Nat.mul_le_mul_right double.binade hj
      generalize double.binade = B at *
      generalize double.infRung = I at *
      generalize (lastOf double mag place - double.leastPlace).toNat * B = X at *
      omega
    have key := read_nearest_exact double neg mag place h0 (by rw [hlast]; omega) hall
    rw [hk, hlast] at key
    rw [show place - ((52 - mag.log2 : Nat) : Int) = place + mag.log2 - 52 by omega]
    exact key
end Go.Proofs.Ytignncjmbcdpaaa
