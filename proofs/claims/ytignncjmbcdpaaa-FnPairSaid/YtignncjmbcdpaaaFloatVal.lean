/-
Floats as rational numbers: the operations, the comparisons, the conversions. (Plain arithmetic: no program stands here.)
-/
import Derived.Test.YtignncjmbcdpaaaRound
namespace Go.Proofs.Ytignncjmbcdpaaa
open Go Ieee

def ab (x : Rat) : Rat := max x (-x)
theorem ab_nonneg (x : Rat) : 0 ≤ ab x := by unfold ab; grind
theorem ab_le {x y : Rat} (h : x ≤ y) (h' : -x ≤ y) : ab x ≤ y := by unfold ab; grind
theorem le_ab (x : Rat) : x ≤ ab x ∧ -x ≤ ab x := by unfold ab; constructor <;> grind
theorem ab_of_nonneg {x : Rat} (h : 0 ≤ x) : ab x = x := by unfold ab; grind
theorem ab_neg (x : Rat) : ab (-x) = ab x := by unfold ab; grind
theorem ab_add (x y : Rat) : ab (x + y) ≤ ab x + ab y := by unfold ab; grind
theorem ab_mul (x y : Rat) : ab (x * y) = ab x * ab y := by
  have h : ∀ x y : Rat, 0 ≤ x → ab (x * y) = ab x * ab y := fun x y hx => by
    rw [ab_of_nonneg hx]
    rcases Rat.le_total (a := 0) (b := y) with hy | hy
    · rw [ab_of_nonneg hy, ab_of_nonneg (Rat.mul_nonneg hx hy)]
    · have hn : 0 ≤ x * -y := Rat.mul_nonneg hx (by grind)
      rw [← ab_neg y, ab_of_nonneg (x := -y) (by grind), ← ab_neg, ab_of_nonneg (x := -(x * y)) (by grind)]
      grind
  rcases Rat.le_total (a := 0) (b := x) with hx | hx
  · exact h x y hx
  · have := h (-x) y (by grind)
    rw [← ab_neg x, ← this, ← ab_neg (x * y)]
    congr 1
    grind

theorem dval_num (s : Bool) (m : Nat) (e : Int) : dval (.number s m e) = if s = true then -mval m e else mval m e := rfl

/-- A word that is a number; its value. -/
def fin (k : FloatKind) (b : Nat) : Prop := ∃ s m e, k.format.read b = .number s m e
def fv (k : FloatKind) (b : Nat) : Rat := dval (k.format.read b)
def uu (k : FloatKind) : Rat := match k with | .f32 => pw (-24) | .f64 => pw (-53)
def eta (k : FloatKind) : Rat := match k with | .f32 => pw (-150) | .f64 => pw (-1075)
def top (k : FloatKind) : Rat := match k with | .f32 => pw 120 | .f64 => pw 1000

theorem fin_num {k : FloatKind} {b : Nat} (h : fin k b) : isN k b = false := by
  obtain ⟨s, m, e, h⟩ := h
  unfold isN; rw [h]; rfl
theorem nrm_fin {k : FloatKind} {b : Nat} (h : fin k b) : nrm k b = b := nrm_of_num (fin_num h)

/-- 'r' is 'v' rounded. -/
def RoundOf (k : FloatKind) (v : Rat) (r : Nat) : Prop :=
  fin k r ∧ ab (fv k r - v) ≤ uu k * ab v + eta k ∧ ∀ b, fin k b → (fv k b ≤ v → fv k b ≤ fv k r) ∧ (v ≤ fv k b → fv k r ≤ fv k b)

/-- A number of the format is not turned by rounding. -/
theorem RoundOf.exact {k : FloatKind} {v : Rat} {r b : Nat} (h : RoundOf k v r) (hb : fin k b) (hv : fv k b = v) : fv k r = v := by
  obtain ⟨_, _, h3⟩ := h
  have h4 := h3 b hb
  have h5 := h4.1 (by rw [hv]; exact Rat.le_refl)
  have h6 := h4.2 (by rw [hv]; exact Rat.le_refl)
  rw [hv] at h5 h6
  exact Rat.le_antisymm h6 h5

theorem bears_top (k : FloatKind) : ∃ q : Int, top k = pw q ∧ Bears k.format q := by
  cases k
  · exact ⟨120, rfl, by unfold Bears; decide +kernel⟩
  · exact ⟨1000, rfl, by unfold Bears; decide +kernel⟩
theorem half_uu (k : FloatKind) {mag : Nat} {place : Int} (h0 : mag ≠ 0) : half k.format mag place ≤ uu k * mval mag place + eta k := by
  have h := half_le k.format mag place h0
  cases k
  · have e1 : pw (-(FloatKind.f32.format.fractionBits : Int) - 1) = uu .f32 := rfl
    have e2 : pw (FloatKind.f32.format.leastPlace - 1) = eta .f32 := by unfold eta; congr 1
    rw [e1, e2] at h
    rw [Rat.mul_comm]; exact h
  · have e1 : pw (-(FloatKind.f64.format.fractionBits : Int) - 1) = uu .f64 := rfl
    have e2 : pw (FloatKind.f64.format.leastPlace - 1) = eta .f64 := by unfold eta; congr 1
    rw [e1, e2] at h
    rw [Rat.mul_comm]; exact h
theorem uu_nonneg (k : FloatKind) : 0 ≤ uu k := by cases k <;> exact Rat.le_of_lt (pw_pos _)
theorem eta_nonneg (k : FloatKind) : 0 ≤ eta k := by cases k <;> exact Rat.le_of_lt (pw_pos _)

theorem dval_ab (s : Bool) (m : Nat) (e : Int) : ab (dval (.number s m e)) = mval m e := by
  have := mval_nonneg m e
  cases s
  · exact ab_of_nonneg this
  · show ab (-mval m e) = _
    rw [ab_neg, ab_of_nonneg this]

/-- **WRITING A NUMBER.** -/
theorem write_spec (k : FloatKind) (s : Bool) (m : Nat) (e : Int) (h : ab (dval (.number s m e)) ≤ top k) : RoundOf k (dval (.number s m e)) (k.format.write (.number s m e)) := by
  obtain ⟨q, hq, hB⟩ := bears_top k
  have he := eta_nonneg k
  have hu := uu_nonneg k
  by_cases h0 : m = 0
  · subst h0
    have hr : k.format.read (k.format.write (.number s 0 e)) = .number s 0 k.format.leastPlace := by
      have : k.format.write (.number s 0 e) = k.format.word s 0 := by simp [Format.write, Format.nearest]
      rw [this, read_word k.format s 0 (by cases k <;> decide +kernel), if_pos (show 0 < k.format.binade from Nat.two_pow_pos _)]
    have hv : fv k (k.format.write (.number s 0 e)) = 0 := by unfold fv; rw [hr]; cases s <;> simp [dval, mval_zero]
    have hd : dval (.number s 0 e) = 0 := by cases s <;> simp [dval, mval_zero]
    refine ⟨⟨_, _, _, hr⟩, ?_, fun b _ => ?_⟩
    · rw [hv, hd]
      have : ab (0 - 0 : Rat) = 0 := by rw [ab_of_nonneg] <;> grind
      rw [this, ab_of_nonneg Rat.le_refl]; grind
    · rw [hv, hd]; exact ⟨id, id⟩
  · rw [dval_ab, hq] at h
    obtain ⟨m', e', hr, h1, h2, h3⟩ := nearest_spec k.format s m e q h0 hB h
    have hw : k.format.write (.number s m e) = k.format.nearest s m e := rfl
    rw [hw]
    have hhalf := half_uu k (place := e) h0
    have n1 := mval_nonneg m e
    have n2 := mval_nonneg m' e'
    refine ⟨⟨_, _, _, hr⟩, ?_, ?_⟩
    · rw [dval_ab]
      unfold fv
      rw [hr]
      cases s
      · simp only [dval]; exact ab_le (by grind) (by grind)
      · simp only [dval]; exact ab_le (by grind) (by grind)
    · intro b hb
      obtain ⟨t, n, j, hb⟩ := hb
      have hT := h3 b t n j (eb_ge k) hb
      have n3 := mval_nonneg n j
      have pos : 0 < mval m e := by
        have := mval_lt (e := e) (Nat.pos_of_ne_zero h0)
        rwa [mval_zero] at this
      unfold fv
      rw [hr, hb]
      cases s <;> cases t <;> simp only [dval, Bool.false_eq_true, if_false, if_true]
      · exact hT
      · exact ⟨fun _ => by grind, fun h => by exfalso; grind⟩
      · exact ⟨fun h => by exfalso; grind, fun _ => by grind⟩
      · exact ⟨fun h => by have := hT.2 (by grind); grind, fun h => by have := hT.1 (by grind); grind⟩

theorem signed_val (s : Bool) (m : Nat) (i base : Int) (h : base ≤ i) : ((signed s m (i - base).toNat : Int) : Rat) * pw base = dval (.number s m i) := by
  have e : ((m <<< (i - base).toNat : Nat) : Rat) * pw base = mval m i := by
    rw [Nat.shiftLeft_eq]
    have := mval_scale' m (i - base).toNat base
    unfold mval at this ⊢
    rw [this]; congr 2; omega
  unfold signed dval
  cases s
  · simp only [Bool.false_eq_true, if_false]
    rw [← e, Rat.intCast_natCast]
  · simp only [if_true]
    rw [← e, Rat.intCast_neg, Rat.intCast_natCast]; grind

theorem sum_val (s t : Bool) (m n : Nat) (i j : Int) : ∃ s' m' e', (Datum.number s m i).sum (.number t n j) = some (.number s' m' e') ∧ dval (.number s' m' e') = dval (.number s m i) + dval (.number t n j) := by
  refine ⟨_, _, _, rfl, ?_⟩
  have h1 := signed_val s m i (min i j) (by omega)
  have h2 := signed_val t n j (min i j) (by omega)
  generalize signed s m (i - min i j).toNat = x at *
  generalize signed t n (j - min i j).toNat = y at *
  rw [← h1, ← h2, dval_num]
  unfold mval
  by_cases h0 : x + y = 0
  · have hy : ((y : Int) : Rat) = -(x : Rat) := by
      have : y = -x := by omega
      rw [this, Rat.intCast_neg]
    rw [if_pos h0, h0, hy]
    have e0 : ((Int.natAbs 0 : Nat) : Rat) = 0 := by simp
    rw [e0]
    split <;> grind
  · rw [if_neg h0]
    by_cases hneg : x + y < 0
    · have e1 : (((x + y).natAbs : Nat) : Rat) = -((x : Rat) + (y : Rat)) := by
        rw [← Rat.intCast_natCast, ← Rat.intCast_add, ← Rat.intCast_neg]
        congr 1; omega
      rw [e1]; simp only [hneg, decide_true, if_true]; grind
    · have e1 : (((x + y).natAbs : Nat) : Rat) = (x : Rat) + (y : Rat) := by
        rw [← Rat.intCast_natCast, ← Rat.intCast_add]
        congr 1; omega
      rw [e1]; simp only [hneg, decide_false, Bool.false_eq_true, if_false]; grind

theorem product_val (s t : Bool) (m n : Nat) (i j : Int) : dval (.number (s ^^ t) (m * n) (i + j)) = dval (.number s m i) * dval (.number t n j) := by
  have e : mval (m * n) (i + j) = mval m i * mval n j := by
    unfold mval; rw [Rat.natCast_mul, pw_add]; grind
  cases s <;> cases t <;> simp [dval, e] <;> grind

theorem fo_some {op : BinOp} {k : FloatKind} {a b r : Nat} (h : floatBits op k a b = some r) : fo op k a b = r := by unfold fo; rw [h]; rfl

theorem add_spec {k : FloatKind} {a b : Nat} (ha : fin k a) (hb : fin k b) (h : ab (fv k a + fv k b) ≤ top k) : RoundOf k (fv k a + fv k b) (fo .add k a b) := by
  obtain ⟨s, m, i, ha⟩ := ha
  obtain ⟨t, n, j, hb⟩ := hb
  obtain ⟨s', m', e', h1, h2⟩ := sum_val s t m n i j
  unfold fv at h ⊢
  rw [ha, hb] at h ⊢
  rw [← h2] at h ⊢
  have : fo .add k a b = k.format.write (.number s' m' e') := fo_some (by
    show ((k.format.read a).sum (k.format.read b)).map k.format.write = _
    rw [ha, hb, h1]; rfl)
  rw [this]
  exact write_spec k s' m' e' h

theorem dval_opposite (s : Bool) (m : Nat) (e : Int) : dval (.number (!s) m e) = -dval (.number s m e) := by
  cases s <;> simp [dval] <;> grind
theorem sub_spec {k : FloatKind} {a b : Nat} (ha : fin k a) (hb : fin k b) (h : ab (fv k a - fv k b) ≤ top k) : RoundOf k (fv k a - fv k b) (fo .sub k a b) := by
  obtain ⟨s, m, i, ha⟩ := ha
  obtain ⟨t, n, j, hb⟩ := hb
  obtain ⟨s', m', e', h1, h2⟩ := sum_val s (!t) m n i j
  rw [dval_opposite, ← Rat.sub_eq_add_neg] at h2
  unfold fv at h ⊢
  rw [ha, hb] at h ⊢
  rw [← h2] at h ⊢
  have : fo .sub k a b = k.format.write (.number s' m' e') := fo_some (by
    show ((k.format.read a).sum (k.format.read b).opposite).map k.format.write = _
    rw [ha, hb]
    show ((Datum.number s m i).sum (.number (!t) n j)).map _ = _
    rw [h1]; rfl)
  rw [this]
  exact write_spec k s' m' e' h

theorem mul_spec {k : FloatKind} {a b : Nat} (ha : fin k a) (hb : fin k b) (h : ab (fv k a * fv k b) ≤ top k) : RoundOf k (fv k a * fv k b) (fo .mul k a b) := by
  obtain ⟨s, m, i, ha⟩ := ha
  obtain ⟨t, n, j, hb⟩ := hb
  have h2 := product_val s t m n i j
  unfold fv at h ⊢
  rw [ha, hb] at h ⊢
  rw [← h2] at h ⊢
  have : fo .mul k a b = k.format.write (.number (s ^^ t) (m * n) (i + j)) := fo_some (by
    show ((k.format.read a).product (k.format.read b)).map k.format.write = _
    rw [ha, hb]; rfl)
  rw [this]
  exact write_spec k _ _ _ h

theorem zero_fin (k : FloatKind) : fin k 0 ∧ fv k 0 = 0 := by
  obtain ⟨p, hp⟩ := zero_read k
  exact ⟨⟨_, _, _, hp⟩, by unfold fv; rw [hp]; simp [dval, mval_zero]⟩

/-! ### Comparisons -/
theorem order_fin {k : FloatKind} {a b : Nat} (ha : fin k a) (hb : fin k b) : ∃ o, k.format.order a b = some o ∧ (o = .lt ↔ fv k a < fv k b) ∧ (o = .eq ↔ fv k a = fv k b) ∧ (o = .gt ↔ fv k b < fv k a) := by
  obtain ⟨s, m, i, ha⟩ := ha
  obtain ⟨t, n, j, hb⟩ := hb
  unfold fv Format.order
  rw [ha, hb]
  refine ⟨_, rfl, ?_⟩
  have h1 := signed_val s m i (min i j) (by omega)
  have h2 := signed_val t n j (min i j) (by omega)
  rw [← h1, ← h2]
  generalize signed s m (i - min i j).toNat = x at *
  generalize signed t n (j - min i j).toNat = y at *
  have hp := pw_pos (min i j)
  have lt : ∀ u v : Int, ((u : Rat) * pw (min i j) < (v : Rat) * pw (min i j)) ↔ u < v := fun u v => by
    rw [Rat.mul_lt_mul_right hp, Rat.intCast_lt_intCast]
  have eq : ∀ u v : Int, ((u : Rat) * pw (min i j) = (v : Rat) * pw (min i j)) ↔ u = v := fun u v => by
    constructor
    · intro h
      rcases Int.lt_trichotomy u v with h1 | h1 | h1
      · have := (lt u v).2 h1; grind
      · exact h1
      · have := (lt v u).2 h1; grind
    · rintro rfl; rfl
  rw [lt, lt, eq]
  simp only [compare, compareOfLessAndEq]
  by_cases h1 : x < y
  · rw [if_pos h1]; simp; omega
  · rw [if_neg h1]
    by_cases h2 : x = y
    · rw [if_pos h2]; simp; omega
    · rw [if_neg h2]; simp; omega
theorem flt_iff {k : FloatKind} {a b : Nat} (ha : fin k a) (hb : fin k b) : flt k a b = true ↔ fv k a < fv k b := by
  obtain ⟨o, ho, h1, h2, h3⟩ := order_fin ha hb
  unfold flt; rw [ho, ← h1]; simp
theorem feq_iff {k : FloatKind} {a b : Nat} (ha : fin k a) (hb : fin k b) : feq k a b = true ↔ fv k a = fv k b := by
  obtain ⟨o, ho, h1, h2, h3⟩ := order_fin ha hb
  unfold feq; rw [ho, ← h2]; simp
theorem fgt_iff {k : FloatKind} {a b : Nat} (ha : fin k a) (hb : fin k b) : fgt k a b = true ↔ fv k b < fv k a := by
  obtain ⟨o, ho, h1, h2, h3⟩ := order_fin ha hb
  unfold fgt; rw [ho, ← h3]; simp
theorem fle_iff {k : FloatKind} {a b : Nat} (ha : fin k a) (hb : fin k b) : fle k a b = true ↔ fv k a ≤ fv k b := by
  obtain ⟨o, ho, h1, h2, h3⟩ := order_fin ha hb
  unfold fle; rw [ho, Rat.le_iff_lt_or_eq, ← h1, ← h2]; simp
theorem fge_iff {k : FloatKind} {a b : Nat} (ha : fin k a) (hb : fin k b) : fge k a b = true ↔ fv k b ≤ fv k a := by
  obtain ⟨o, ho, h1, h2, h3⟩ := order_fin ha hb
  unfold fge; rw [ho, Rat.le_iff_lt_or_eq, ← h3, show (fv k b = fv k a) = (fv k a = fv k b) from propext ⟨Eq.symm, Eq.symm⟩, ← h2]; simp

/-! ### Signs, whole numbers, widths -/
theorem neg_fin {k : FloatKind} {a : Nat} (ha : fin k a) : fin k (Op.negFloat k a) ∧ fv k (Op.negFloat k a) = -fv k a := by
  obtain ⟨s, m, i, ha⟩ := ha
  have : k.format.read (Op.negFloat k a) = .number (!s) m i := by rw [read_neg, ha]; rfl
  exact ⟨⟨_, _, _, this⟩, by unfold fv; rw [this, ha, dval_opposite]⟩
theorem absB_fin {a : Nat} (ha : fin .f64 a) : fin .f64 (absB a) ∧ fv .f64 (absB a) = ab (fv .f64 a) := by
  obtain ⟨s, m, i, ha⟩ := ha
  have : FloatKind.f64.format.read (absB a) = .number false m i := by
    show double.read _ = _
    rw [read_absB, show double.read a = .number s m i from ha]; rfl
  exact ⟨⟨_, _, _, this⟩, by unfold fv; rw [this, ha, dval_ab]; rfl⟩
theorem abs32_fin {a : Nat} (ha : fin .f32 a) : fin .f32 (a % 2147483648) ∧ fv .f32 (a % 2147483648) = ab (fv .f32 a) := by
  obtain ⟨s, m, i, ha⟩ := ha
  have : FloatKind.f32.format.read (a % 2147483648) = .number false m i := by
    show single.read _ = _
    rw [read_abs32, show single.read a = .number s m i from ha]; rfl
  exact ⟨⟨_, _, _, this⟩, by unfold fv; rw [this, ha, dval_ab]; rfl⟩
theorem int_spec (k : FloatKind) (n : Int) (h : ab (n : Rat) ≤ top k) : RoundOf k (n : Rat) (floatOfInt k n) := by
  have e : dval (.number (decide (n < 0)) n.natAbs 0) = (n : Rat) := by
    rw [dval_num]
    unfold mval
    rw [pw_zero]
    by_cases hn : n < 0
    · simp only [hn, decide_true, if_true]
      have : (n : Rat) = -((n.natAbs : Nat) : Rat) := by rw [← Rat.intCast_natCast, ← Rat.intCast_neg]; congr 1; omega
      rw [this]; grind
    · simp only [hn, decide_false, Bool.false_eq_true, if_false]
      have : (n : Rat) = ((n.natAbs : Nat) : Rat) := by rw [← Rat.intCast_natCast]; congr 1; omega
      rw [this]; grind
  have := write_spec k (decide (n < 0)) n.natAbs 0 (by rw [e]; exact h)
  rw [e] at this
  exact this
/-- A whole number of not too many digits is not turned. -/
theorem int_exact (k : FloatKind) (n : Int) (h : n.natAbs < 2 * k.format.binade) : fin k (floatOfInt k n) ∧ fv k (floatOfInt k n) = (n : Rat) := by
  have hs := int_spec k n
  by_cases h0 : n = 0
  · subst h0
    have hz := zero_fin k
    have := hs (by
      have : ((0 : Int) : Rat) = 0 := by simp
      rw [this, ab_of_nonneg Rat.le_refl]; cases k <;> exact Rat.le_of_lt (pw_pos _))
    exact ⟨this.1, this.exact hz.1 (by rw [hz.2]; simp)⟩
  · have h0' : n.natAbs ≠ 0 := by omega
    have hlog : n.natAbs.log2 < k.format.fractionBits + 1 := (Nat.log2_lt h0').2 (by unfold Format.binade at h; rw [Nat.pow_succ]; omega)
    have hleast : k.format.leastPlace ≤ 0 := by cases k <;> decide +kernel
    have hlast : lastOf k.format n.natAbs 0 ≤ 0 := by unfold lastOf; omega
    have hM : n.natAbs * 2 ^ (0 - lastOf k.format n.natAbs 0).toNat < 2 * k.format.binade := by
      have hne : n.natAbs * 2 ^ (0 - lastOf k.format n.natAbs 0).toNat ≠ 0 := Nat.mul_ne_zero h0' (by have := Nat.two_pow_pos (0 - lastOf k.format n.natAbs 0).toNat; omega)
      have : (n.natAbs * 2 ^ (0 - lastOf k.format n.natAbs 0).toNat).log2 < k.format.fractionBits + 1 := by
        rw [log2_mul_pow _ _ h0']; unfold lastOf at hlast ⊢; omega
      have := (Nat.log2_lt hne).1 this
      unfold Format.binade; rw [Nat.pow_succ] at this; omega
    have hR : (lastOf k.format n.natAbs 0 - k.format.leastPlace).toNat * k.format.binade + n.natAbs * 2 ^ (0 - lastOf k.format n.natAbs 0).toNat < k.format.infRung := by
      have hj : (lastOf k.format n.natAbs 0 - k.format.leastPlace).toNat ≤ (-k.format.leastPlace).toNat := by omega
      have h2 := Nat.mul_le_mul_right k.format.binade hj
      have h3 : (-k.format.leastPlace).toNat * k.format.binade + 2 * k.format.binade ≤ k.format.infRung := by cases k <;> decide +kernel
      omega
    have key := read_nearest_exact k.format (decide (n < 0)) n.natAbs 0 h0' hlast hR
    have hk : k.format.read (floatOfInt k n) = _ := key
    refine ⟨⟨_, _, _, hk⟩, ?_⟩
    unfold fv
    rw [hk, dval_num, mval_scale']
    have e0 : lastOf k.format n.natAbs 0 + (((0 - lastOf k.format n.natAbs 0).toNat : Nat) : Int) = 0 := by omega
    rw [e0]
    unfold mval
    rw [pw_zero]
    by_cases hn : n < 0
    · simp only [hn, decide_true, if_true]
      have : (n : Rat) = -((n.natAbs : Nat) : Rat) := by rw [← Rat.intCast_natCast, ← Rat.intCast_neg]; congr 1; omega
      rw [this]; grind
    · simp only [hn, decide_false, Bool.false_eq_true, if_false]
      have : (n : Rat) = ((n.natAbs : Nat) : Rat) := by rw [← Rat.intCast_natCast]; congr 1; omega
      rw [this]; grind

theorem wid_fin {b : Nat} (h : fin .f32 b) : fin .f64 (wid b) ∧ fv .f64 (wid b) = fv .f32 b := by
  obtain ⟨s, m, e, h⟩ := h
  obtain ⟨k, hk⟩ := wid_num h
  have hk' : FloatKind.f64.format.read (wid b) = .number s (m * 2 ^ k) (e - k) := hk
  refine ⟨⟨_, _, _, hk'⟩, ?_⟩
  unfold fv
  rw [hk', h, dval_num, dval_num, mval_scale]
theorem top32_le : top .f32 ≤ top .f64 := pw_mono (by decide)
/-- Narrowing what is not too great. -/
theorem narrow_spec {b : Nat} (hb : fin .f64 b) (h : ab (fv .f64 b) ≤ top .f32) : ∃ r, floatToFloatBits .f64 b .f32 = some r ∧ RoundOf .f32 (fv .f64 b) r := by
  obtain ⟨s, m, e, hb⟩ := hb
  have hv : fv .f64 b = dval (.number s m e) := by unfold fv; rw [hb]
  rw [hv] at h ⊢
  have hs := write_spec .f32 s m e h
  refine ⟨_, ?_, hs⟩
  obtain ⟨⟨s', m', e', hr⟩, _⟩ := hs
  unfold floatToFloatBits
  rw [if_neg (by decide)]
  have hd : FloatKind.f64.decode b = .number s m e := hb
  have hd' : FloatKind.f32.decode (FloatKind.f32.encode (.number s m e)) = .number s' m' e' := hr
  rw [hd]
  simp only [hd', Datum.isInfinity]
  rfl
end Go.Proofs.Ytignncjmbcdpaaa
