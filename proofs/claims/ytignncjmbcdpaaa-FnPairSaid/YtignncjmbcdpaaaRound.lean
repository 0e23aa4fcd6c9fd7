/-
Rounding: what an operation of binary floating point gives, as rational numbers: errors, thresholds, order. (Plain arithmetic: no program stands here.)
-/
import Derived.Test.YtignncjmbcdpaaaFloats2
namespace Go.Proofs.Ytignncjmbcdpaaa
open Go Ieee

/-! ### Powers of two -/
def pw (e : Int) : Rat := (2 : Rat) ^ e
theorem pw_pos (e : Int) : 0 < pw e := Rat.zpow_pos (by decide)
theorem pw_add (a b : Int) : pw (a + b) = pw a * pw b := Rat.zpow_add (by decide) a b
theorem pw_zero : pw 0 = 1 := Rat.zpow_zero 2
theorem pw_nat (n : Nat) : pw (n : Int) = ((2 ^ n : Nat) : Rat) := by
  unfold pw
  rw [Rat.zpow_natCast, Rat.natCast_pow]; rfl
theorem pw_sub (a b : Int) : pw (a - b) * pw b = pw a := by rw [← pw_add]; congr 1; omega
theorem pw_nat_ge (n : Nat) : 1 ≤ pw (n : Int) := by
  rw [pw_nat]
  have : (1 : Nat) ≤ 2 ^ n := Nat.two_pow_pos n
  exact_mod_cast this
theorem pw_mono {a b : Int} (h : a ≤ b) : pw a ≤ pw b := by
  obtain ⟨n, rfl⟩ : ∃ n : Nat, b = a + n := ⟨(b - a).toNat, by omega⟩
  rw [pw_add]
  have h1 := pw_nat_ge n
  have h2 := pw_pos a
  have := Rat.mul_le_mul_of_nonneg_left h1 (Rat.le_of_lt h2)
  grind
theorem pw_succ (a : Int) : pw (a + 1) = 2 * pw a := by
  rw [pw_add]
  have : pw 1 = 2 := Rat.zpow_one 2
  grind

/-- A magnitude's value. -/
def mval (m : Nat) (e : Int) : Rat := (m : Rat) * pw e
theorem mval_nonneg (m : Nat) (e : Int) : 0 ≤ mval m e := Rat.mul_nonneg Rat.natCast_nonneg (Rat.le_of_lt (pw_pos e))
theorem mval_scale (m k : Nat) (e : Int) : mval (m * 2 ^ k) (e - k) = mval m e := by
  unfold mval
  rw [Rat.natCast_mul, ← pw_nat, Rat.mul_assoc, ← pw_add]
  congr 2; omega
theorem mval_scale' (m k : Nat) (e : Int) : mval (m * 2 ^ k) e = mval m (e + k) := by
  have := mval_scale m k (e + k)
  rwa [show e + (k : Int) - k = e by omega] at this
theorem mval_le {a b : Nat} {e : Int} (h : a ≤ b) : mval a e ≤ mval b e :=
  Rat.mul_le_mul_of_nonneg_right (Rat.natCast_le_natCast.2 h) (Rat.le_of_lt (pw_pos e))
theorem mval_lt {a b : Nat} {e : Int} (h : a < b) : mval a e < mval b e :=
  Rat.mul_lt_mul_of_pos_right (Rat.natCast_lt_natCast.2 h) (pw_pos e)
theorem le_of_mval {a b : Nat} {e : Int} (h : mval a e ≤ mval b e) : a ≤ b := by
  rcases Nat.lt_or_ge b a with h1 | h1
  · exact absurd (mval_lt (e := e) h1) (Rat.not_lt.2 h)
  · exact h1
theorem mval_zero (e : Int) : mval 0 e = 0 := by unfold mval; simp
theorem mval_eq_zero {m : Nat} {e : Int} (h : mval m e = 0) : m = 0 := by
  rcases Nat.eq_zero_or_pos m with h1 | h1
  · exact h1
  · have := mval_lt (e := e) h1
    rw [mval_zero, h] at this
    exact absurd this (by grind)

/-- The value of a datum; of what is no number, 0. -/
def dval : Datum → Rat
  | .number s m e => if s = true then -mval m e else mval m e
  | _ => 0

/-! ### One cut -/
theorem cut_spec (neg : Bool) (n d : Nat) :
    2 * (Toward.even.cut neg n d * 2 ^ d) ≤ 2 * n + 2 ^ d ∧ 2 * n ≤ 2 * (Toward.even.cut neg n d * 2 ^ d) + 2 ^ d ∧
    (∀ j, j * 2 ^ d ≤ n → j ≤ Toward.even.cut neg n d) ∧ (∀ j, n ≤ j * 2 ^ d → Toward.even.cut neg n d ≤ j) := by
  have hself := Nat.lt_log2_self (n := n)
  by_cases hd : d ≤ n.log2 + 2
  · have hm : min d (n.log2 + 2) = d := by omega
    have hp := Nat.two_pow_pos d
    have hda := Nat.div_add_mod n (2 ^ d)
    have hr := Nat.mod_lt n hp
    have hc : ∃ m : Nat, Toward.even.cut neg n d = n / 2 ^ d + m ∧ m ≤ 1 ∧ (m = 0 → 2 * (n % 2 ^ d) ≤ 2 ^ d) ∧ (m = 1 → 2 ^ d ≤ 2 * (n % 2 ^ d)) := by
      refine ⟨(decide (2 ^ d < 2 * (n % 2 ^ d)) || (2 ^ d == 2 * (n % 2 ^ d) && n / 2 ^ d % 2 == 1)).toNat, ?_, ?_, ?_, ?_⟩
      · simp only [Toward.cut, hm, Nat.shiftLeft_eq, Nat.one_mul]
      · cases (decide (2 ^ d < 2 * (n % 2 ^ d)) || (2 ^ d == 2 * (n % 2 ^ d) && n / 2 ^ d % 2 == 1)) <;> simp
      · intro h
        have : (decide (2 ^ d < 2 * (n % 2 ^ d)) || (2 ^ d == 2 * (n % 2 ^ d) && n / 2 ^ d % 2 == 1)) = false := by
          cases hb : (decide (2 ^ d < 2 * (n % 2 ^ d)) || (2 ^ d == 2 * (n % 2 ^ d) && n / 2 ^ d % 2 == 1))
          · rfl
          · rw [hb] at h; cases h
        simp at this; omega
      · intro h
        have : (decide (2 ^ d < 2 * (n % 2 ^ d)) || (2 ^ d == 2 * (n % 2 ^ d) && n / 2 ^ d % 2 == 1)) = true := by
          cases hb : (decide (2 ^ d < 2 * (n % 2 ^ d)) || (2 ^ d == 2 * (n % 2 ^ d) && n / 2 ^ d % 2 == 1))
          · rw [hb] at h; cases h
          · rfl
        simp at this; omega
    obtain ⟨m, hc, hm1, hm2, hm3⟩ := hc
    rw [hc]
    generalize 2 ^ d = g at *
    generalize n % g = r at *
    generalize n / g = q at *
    have e1 : (q + m) * g = g * q + m * g := by rw [Nat.add_mul, Nat.mul_comm]
    refine ⟨?_, ?_, ?_, ?_⟩
    · rw [e1]
      rcases (by omega : m = 0 ∨ m = 1) with rfl | rfl
      · omega
      · have := hm3 rfl; omega
    · rw [e1]
      rcases (by omega : m = 0 ∨ m = 1) with rfl | rfl
      · have := hm2 rfl; omega
      · omega
    · intro j hj
      rcases Nat.lt_or_ge q j with h | h
      · exfalso
        have : (q + 1) * g ≤ j * g := Nat.mul_le_mul_right g h
        rw [Nat.add_mul, Nat.one_mul, Nat.mul_comm] at this
        omega
      · omega
    · intro j hj
      rcases Nat.lt_or_ge j (q + m) with h | h
      · exfalso
        rcases (by omega : m = 0 ∨ m = 1) with rfl | rfl
        · have : (j + 1) * g ≤ q * g := Nat.mul_le_mul_right g h
          rw [Nat.add_mul, Nat.one_mul, Nat.mul_comm q] at this
          omega
        · have : j * g ≤ q * g := Nat.mul_le_mul_right g (by omega)
          rw [Nat.mul_comm q] at this
          have := hm3 rfl
          omega
      · exact h
  · have hm : min d (n.log2 + 2) = n.log2 + 2 := by omega
    have hlt : 2 * n < 2 ^ (n.log2 + 2) := by rw [show n.log2 + 2 = (n.log2 + 1) + 1 from rfl, Nat.pow_succ]; omega
    have hle : 2 ^ (n.log2 + 2) ≤ 2 ^ d := Nat.pow_le_pow_right (by omega) (by omega)
    have hc : Toward.even.cut neg n d = 0 := by
      simp only [Toward.cut, hm, Nat.shiftLeft_eq, Nat.one_mul]
      rw [Nat.div_eq_of_lt (by omega), Nat.mod_eq_of_lt (by omega)]
      have h1 : decide (2 ^ (n.log2 + 2) < 2 * n) = false := by simp; omega
      have h2 : (2 ^ (n.log2 + 2) == 2 * n) = false := by simp; omega
      rw [h1, h2]; rfl
    rw [hc]
    refine ⟨by omega, by omega, fun j hj => ?_, fun j _ => Nat.zero_le _⟩
    rcases Nat.eq_zero_or_pos j with h | h
    · omega
    · have : 1 * 2 ^ d ≤ j * 2 ^ d := Nat.mul_le_mul_right _ h
      omega

section
variable (f : Format)

/-- What stands at a rung. -/
theorem read_rung (neg : Bool) (j c : Nat) (hc : c ≤ 2 * f.binade) (hj : j = 0 ∨ f.binade ≤ c) (hR : j * f.binade + c < f.infRung) :
    ∃ m e, f.read (f.word neg (j * f.binade + c)) = .number neg m e ∧ mval m e = mval c (f.leastPlace + j) := by
  have hb : 0 < f.binade := Nat.two_pow_pos _
  rw [read_word f neg _ hR]
  by_cases hlt : j * f.binade + c < f.binade
  · have hj0 : j = 0 := by
      rcases Nat.eq_zero_or_pos j with h | h
      · exact h
      · have := Nat.le_mul_of_pos_left f.binade h; omega
    subst hj0
    rw [if_pos hlt]
    exact ⟨_, _, rfl, by simp⟩
  · rw [if_neg hlt]
    refine ⟨_, _, rfl, ?_⟩
    have hcb : f.binade ≤ c := by
      rcases hj with rfl | h
      · omega
      · exact h
    rcases Nat.lt_or_ge c (2 * f.binade) with h | h
    · have hdiv : (j * f.binade + c) / f.binade = j + 1 := by
        rw [Nat.add_comm, Nat.add_mul_div_right _ _ hb, show c / f.binade = 1 from by rw [Nat.div_eq_iff hb]; omega]; omega
      have hmod : (j * f.binade + c) % f.binade = c - f.binade := by
        rw [Nat.add_comm, Nat.add_mul_mod_self_right, Nat.mod_eq_sub_mod hcb, Nat.mod_eq_of_lt (by omega)]
      rw [hdiv, hmod]
      congr 1
      omega
    · have hc2 : c = 2 * f.binade := by omega
      subst hc2
      have e : j * f.binade + 2 * f.binade = (j + 2) * f.binade := by rw [Nat.add_mul]
      rw [e, Nat.mul_div_cancel _ hb, Nat.mul_mod_left]
      have := mval_scale' f.binade 1 (f.leastPlace + j)
      rw [Nat.pow_one, Nat.mul_comm] at this
      rw [this]
      congr 1
      omega

/-- The half of the last place's unit. -/
def half (mag : Nat) (place : Int) : Rat := pw (lastOf f mag place) / 2

/-- 'q': a power of two that the format can bear, and more. -/
def Bears (q : Int) : Prop := (q - f.fractionBits - f.leastPlace).toNat + 2 < 2 ^ f.exponentBits - 1

theorem log2_le_of_mval {mag : Nat} {place q : Int} (h0 : mag ≠ 0) (h : mval mag place ≤ pw q) : place + mag.log2 ≤ q := by
  rcases Int.lt_or_le q (place + mag.log2) with hlt | hle
  · exfalso
    have h1 : mval (2 ^ mag.log2) place ≤ mval mag place := mval_le (Nat.log2_self_le h0)
    have h2 : mval (2 ^ mag.log2) place = pw (place + mag.log2) := by
      unfold mval; rw [← pw_nat, ← pw_add]; congr 1; omega
    have h3 : pw (q + 1) ≤ pw (place + mag.log2) := pw_mono (by omega)
    rw [pw_succ] at h3
    have := pw_pos q
    grind
  · exact hle

/-- **ROUNDING.** A number that the format can bear is written as a number that is within half a unit of its last place; and on the same side of every number of the format. -/
theorem nearest_spec (neg : Bool) (mag : Nat) (place q : Int) (h0 : mag ≠ 0) (hq : Bears f q) (hv : mval mag place ≤ pw q) :
    ∃ m e, f.read (f.nearest neg mag place) = .number neg m e ∧
      mval m e ≤ mval mag place + half f mag place ∧ mval mag place ≤ mval m e + half f mag place ∧
      (∀ (b : Nat) s m' e', 1 ≤ f.exponentBits → f.read b = .number s m' e' → (mval m' e' ≤ mval mag place → mval m' e' ≤ mval m e) ∧ (mval mag place ≤ mval m' e' → mval m e ≤ mval m' e')) := by
  have hlog := log2_le_of_mval h0 hv
  have hsl := Nat.log2_self_le h0
  have hself := Nat.lt_log2_self (n := mag)
  rw [nearest_eq f neg mag place h0]
  have hLdef : lastOf f mag place = max (place + mag.log2 - f.fractionBits) f.leastPlace := rfl
  unfold half
  generalize lastOf f mag place = L at *
  obtain ⟨j, hj⟩ : ∃ j : Nat, L = f.leastPlace + j := ⟨(L - f.leastPlace).toNat, by omega⟩
  -- n, d: the number in units of 2^(L - d)
  obtain ⟨d, hd⟩ : ∃ d : Nat, (L - place).toNat = d := ⟨_, rfl⟩
  obtain ⟨up, hup⟩ : ∃ up : Nat, (place - L).toNat = up := ⟨_, rfl⟩
  rw [hd, hup, Nat.shiftLeft_eq, show (L - f.leastPlace).toNat = j by omega]
  have hn0 : mag * 2 ^ up ≠ 0 := Nat.mul_ne_zero h0 (by have := Nat.two_pow_pos up; omega)
  have hval : mval mag place = mval (mag * 2 ^ up) (L - d) := by
    rw [mval_scale']; congr 1; omega
  have hlogn : (mag * 2 ^ up).log2 = mag.log2 + up := log2_mul_pow mag up h0
  obtain ⟨c1, c2, c3, c4⟩ := cut_spec neg (mag * 2 ^ up) d
  have hnb : mag * 2 ^ up < 2 * f.binade * 2 ^ d := by
    have h1 := Nat.lt_log2_self (n := mag * 2 ^ up)
    rw [hlogn] at h1
    have h2 : 2 * f.binade * 2 ^ d = 2 ^ (f.fractionBits + 1 + d) := by
      unfold Format.binade; rw [Nat.pow_add, Nat.pow_succ, Nat.mul_comm 2]
    rw [h2]
    exact Nat.lt_of_lt_of_le h1 (Nat.pow_le_pow_right (by omega) (by omega))
  have hlo : f.leastPlace < L → f.binade * 2 ^ d ≤ mag * 2 ^ up := fun h => by
    have h1 := Nat.log2_self_le hn0
    rw [hlogn] at h1
    have h2 : f.binade * 2 ^ d = 2 ^ (f.fractionBits + d) := by unfold Format.binade; rw [Nat.pow_add]
    rw [h2]
    exact Nat.le_trans (Nat.pow_le_pow_right (by omega) (by omega)) h1
  generalize hn : mag * 2 ^ up = n at *
  have hcb : Toward.even.cut neg n d ≤ 2 * f.binade := c4 _ (by omega)
  have hcl : j = 0 ∨ f.binade ≤ Toward.even.cut neg n d := by
    rcases Nat.eq_zero_or_pos j with h | h
    · exact .inl h
    · exact .inr (c3 _ (hlo (by omega)))
  generalize hc : Toward.even.cut neg n d = c at *
  have hR : j * f.binade + c < f.infRung := by
    unfold Bears at hq
    have : j + 2 < 2 ^ f.exponentBits - 1 ∨ j = 0 := by
      rcases Nat.eq_zero_or_pos j with h | h
      · exact .inr h
      · left; omega
    have hjj : j + 2 < 2 ^ f.exponentBits - 1 := by
      rcases this with h | h
      · exact h
      · omega
    have h1 : (j + 3) * f.binade ≤ (2 ^ f.exponentBits - 1) * f.binade := Nat.mul_le_mul_right _ hjj
    have hbp : 0 < f.binade := Nat.two_pow_pos _
    unfold Format.infRung
    rw [Nat.add_mul] at h1
    omega
  rw [Nat.min_eq_left (Nat.le_of_lt hR)]
  obtain ⟨m, e, hr, hme⟩ := read_rung f neg j c hcb hcl hR
  have hW : mval m e = mval (c * 2 ^ d) (L - d) := by rw [hme, mval_scale', ← hj]; congr 1; omega
  have hpL : pw L = mval (2 ^ d) (L - d) := by
    unfold mval; rw [← pw_nat, ← pw_add]; congr 1; omega
  refine ⟨m, e, hr, ?_, ?_, ?_⟩
  · rw [hW, hval, hpL]
    have h1 := mval_le (e := L - d) c1
    unfold mval at *
    simp only [Rat.natCast_add, Rat.natCast_mul] at h1 ⊢
    grind
  · rw [hW, hval, hpL]
    have h1 := mval_le (e := L - d) c2
    unfold mval at *
    simp only [Rat.natCast_add, Rat.natCast_mul] at h1 ⊢
    grind
  · intro b s m' e' heb hb
    obtain ⟨b1, b2, b3, _⟩ := read_bounds f heb hb
    by_cases hL : L ≤ e'
    · obtain ⟨k, hk⟩ : ∃ k : Nat, e' = L + k := ⟨(e' - L).toNat, by omega⟩
      have hz : mval m' e' = mval (m' * 2 ^ k * 2 ^ d) (L - d) := by
        rw [mval_scale', mval_scale']; congr 1; omega
      constructor
      · intro h
        rw [hz, hval] at h
        have := c3 _ (le_of_mval h)
        rw [hz, hW]
        exact mval_le (Nat.mul_le_mul_right _ this)
      · intro h
        rw [hz, hval] at h
        have := c4 _ (le_of_mval h)
        rw [hz, hW]
        exact mval_le (Nat.mul_le_mul_right _ this)
    · have hlow := hlo (by omega)
      have hz : mval m' e' < mval (f.binade * 2 ^ d) (L - d) := by
        have h1 : mval m' e' < mval (2 * f.binade) e' := mval_lt b2
        have h2 : mval (2 * f.binade) e' ≤ mval f.binade L := by
          rw [Nat.mul_comm, ← Nat.pow_one 2, mval_scale']
          exact Rat.mul_le_mul_of_nonneg_left (pw_mono (by omega)) Rat.natCast_nonneg
        have h3 : mval (f.binade * 2 ^ d) (L - d) = mval f.binade L := by rw [mval_scale']; congr 1; omega
        grind
      have hcb' := c3 _ hlow
      have hv' : mval (f.binade * 2 ^ d) (L - d) ≤ mval mag place := by rw [hval]; exact mval_le hlow
      have hw' : mval (f.binade * 2 ^ d) (L - d) ≤ mval m e := by rw [hW]; exact mval_le (Nat.mul_le_mul_right _ hcb')
      constructor
      · intro _; grind
      · intro h; exfalso; grind

/-- Half a unit of the last place, in terms of the number. -/
theorem half_le (mag : Nat) (place : Int) (h0 : mag ≠ 0) : half f mag place ≤ mval mag place * pw (-f.fractionBits - 1) + pw (f.leastPlace - 1) := by
  unfold half
  have h1 : mval (2 ^ mag.log2) place ≤ mval mag place := mval_le (Nat.log2_self_le h0)
  have h2 : mval (2 ^ mag.log2) place = pw (place + mag.log2) := by
    unfold mval; rw [← pw_nat, ← pw_add]; congr 1; omega
  have p1 := pw_pos (f.leastPlace - 1)
  have p2 := pw_pos (-f.fractionBits - 1 : Int)
  have h3 := Rat.mul_le_mul_of_nonneg_right h1 (Rat.le_of_lt p2)
  have hL : lastOf f mag place = place + mag.log2 - f.fractionBits ∨ lastOf f mag place = f.leastPlace := by unfold lastOf; omega
  have h4 := mval_nonneg mag place
  have h5 := Rat.mul_nonneg h4 (Rat.le_of_lt p2)
  rcases hL with hL | hL
  · have : pw (lastOf f mag place) = 2 * (pw (place + mag.log2) * pw (-f.fractionBits - 1)) := by
      rw [hL, ← pw_add, ← pw_succ]; congr 1; omega
    rw [h2] at h3
    grind
  · have : pw (lastOf f mag place) = 2 * pw (f.leastPlace - 1) := by rw [hL, ← pw_succ]; congr 1; omega
    grind
end
end Go.Proofs.Ytignncjmbcdpaaa
