/-
Floats: the two widths, signs, absolute values, 'the same number'.
-/
import Derived.Test.YtignncjmbcdpaaaFloats
import Derived.Test.YtignncjmbcdpaaaIeeeMore
namespace Go.Proofs.Ytignncjmbcdpaaa
open Go Go.RowKit Ieee

/-- A word fits its kind. -/
def wfk (k : FloatKind) (b : Nat) : Prop := b < 2 ^ k.format.width
theorem wfk_32 {b : Nat} : wfk .f32 b ↔ b < 4294967296 := Iff.rfl
theorem wfk_64 {b : Nat} : wfk .f64 b ↔ b < 18446744073709551616 := Iff.rfl
theorem wfk_lit {k : FloatKind} {b : Nat} (h : (Lit.float k b).wf = true) : wfk k b := by
  cases k <;> simpa [Lit.wf, wfk_32, wfk_64] using h
theorem eb_ge (k : FloatKind) : 1 ≤ k.format.exponentBits := by cases k <;> decide

theorem floatBits_lt {op : BinOp} {k : FloatKind} {x y r : Nat} (h : floatBits op k x y = some r) : wfk k r := wfk_lit (floatBits_wf h)
theorem cut_nan_lt (q : Question) (k : FloatKind) (t : Nat) (hq : (∃ x y, q = .nanBits k x y) ∨ ∃ b, q = .nanConv k b) : wfk k (q.cut t) := by
  cases k with
  | f32 =>
    have e : q.cut t = (t % 2) * 2 ^ 31 + 0x7f800000 + 1 + (t / 2) % (2 ^ 23 - 1) := by rcases hq with ⟨x, y, rfl⟩ | ⟨b, rfl⟩ <;> rfl
    rw [e, wfk_32]; omega
  | f64 =>
    have e : q.cut t = (t % 2) * 2 ^ 63 + 0x7ff0000000000000 + 1 + (t / 2) % (2 ^ 52 - 1) := by rcases hq with ⟨x, y, rfl⟩ | ⟨b, rfl⟩ <;> rfl
    rw [e, wfk_64]; omega
theorem fR_lt (op : BinOp) (k : FloatKind) (x y : Nat) (w : World) : wfk k (fR op k x y w) := by
  unfold fR
  cases h : floatBits op k x y with
  | some r => exact floatBits_lt h
  | none => exact cut_nan_lt _ k _ (.inl ⟨x, y, rfl⟩)
theorem qn_lt (k : FloatKind) : wfk k (qn k) := by
  cases k
  · rw [wfk_32]; decide
  · rw [wfk_64]; decide
theorem fo_lt (op : BinOp) (k : FloatKind) (x y : Nat) : wfk k (fo op k x y) := by
  unfold fo
  cases h : floatBits op k x y with
  | some r => exact floatBits_lt h
  | none => exact qn_lt k
theorem nrm_lt {k : FloatKind} {b : Nat} (h : wfk k b) : wfk k (nrm k b) := by unfold nrm; split; exact qn_lt k; exact h
theorem write_lt' (k : FloatKind) (d : Datum) : wfk k (k.format.write d) := k.format.write_lt d
theorem cR_lt {s k : FloatKind} {b : Nat} (h : wfk s b) (w : World) : wfk k (cR s b k w) := by
  unfold cR
  cases hc : floatToFloatBits s b k with
  | some r =>
    refine wfk_lit (floatToFloatBits_wf ?_ hc)
    cases s <;> simpa [Lit.wf, wfk_32, wfk_64] using h
  | none =>
    dsimp only
    split
    · exact cut_nan_lt _ k _ (.inr ⟨b, rfl⟩)
    · have : (Question.floatToFloat b).cut (w.tape w.drawn (.floatToFloat b)) < 2 ^ 32 := Nat.mod_lt _ (by decide)
      cases k
      · rw [wfk_32]; omega
      · rw [wfk_64]; omega

/-! ### Widening and narrowing -/
theorem f2f_nan {s k : FloatKind} {b : Nat} (hs : s ≠ k) (h : isN s b = true) : floatToFloatBits s b k = none := by
  obtain ⟨sg, t, hr⟩ := isN_read h
  have hr' : s.decode b = .nan sg t := hr
  simp [floatToFloatBits, hs, hr']
theorem f2f_not_nan {s k : FloatKind} {b r : Nat} (hs : s ≠ k) (h : floatToFloatBits s b k = some r) : isN k r = false ∧ isN s b = false := by
  have hb : isN s b = false := by
    cases hh : isN s b
    · rfl
    · rw [f2f_nan hs hh] at h; cases h
  refine ⟨?_, hb⟩
  unfold floatToFloatBits at h
  rw [if_neg hs] at h
  cases hr : s.decode b with
  | nan sg t => rw [hr] at h; cases h
  | infinity sg => rw [hr] at h; cases h; exact write_not_nan _ _ rfl
  | number sg m e =>
    rw [hr] at h
    simp only at h
    split at h
    · cases h
    · cases h; exact write_not_nan _ _ rfl

/-- A conversion that is no overflow gives what it gives, up to a NaN's bits. -/
theorem nrm_cR {s k : FloatKind} {b : Nat} {w : World} (hs : s ≠ k) (h : floatToFloatBits s b k = none → isN s b = true) : nrm k (cR s b k w) = cv s b k := by
  unfold cR cv
  cases hc : floatToFloatBits s b k with
  | some r => exact nrm_of_num (f2f_not_nan hs hc).1
  | none =>
    simp only [h hc, if_true]
    exact nrm_of_nan (cut_nan _ k _ (.inr ⟨b, rfl⟩))
theorem cv_nrm {s k : FloatKind} (hs : s ≠ k) (b : Nat) : cv s (nrm s b) k = cv s b k := by
  cases h : isN s b
  · rw [nrm_of_num h]
  · rw [nrm_of_nan h]; unfold cv; rw [f2f_nan hs h, f2f_nan hs (isN_qn s)]
theorem cv_congr {s k : FloatKind} {a b : Nat} (hs : s ≠ k) (h : nrm s a = nrm s b) : cv s a k = cv s b k := by rw [← cv_nrm hs, h, cv_nrm hs]
theorem nrm_cv {s k : FloatKind} (hs : s ≠ k) (b : Nat) : nrm k (cv s b k) = cv s b k := by
  unfold cv
  cases hc : floatToFloatBits s b k with
  | some r => exact nrm_of_num (f2f_not_nan hs hc).1
  | none => exact nrm_of_nan (isN_qn k)

theorem widen_some {b : Nat} (h : isN .f32 b = false) : floatToFloatBits .f32 b .f64 = some (double.write (single.read b)) := by
  unfold floatToFloatBits
  rw [if_neg (by decide)]
  have hd : FloatKind.f32.decode b = single.read b := rfl
  rw [hd]
  cases hr : single.read b with
  | nan s t =>
    unfold isN at h
    have : FloatKind.f32.format.read b = single.read b := rfl
    rw [this, hr] at h; cases h
  | infinity s => rfl
  | number s m e =>
    obtain ⟨k, hk⟩ := widen_read hr
    have : FloatKind.f64.decode (FloatKind.f64.encode (.number s m e)) = double.read (double.write (.number s m e)) := rfl
    simp only [this, hk, Datum.isInfinity]
    rfl
/-- Widening never asks for anything but a NaN's bits. -/
theorem nrm_wid (b : Nat) (w : World) : nrm .f64 (cR .f32 b .f64 w) = wid b := nrm_cR (by decide) (fun h => by
  cases hb : isN .f32 b
  · rw [widen_some hb] at h; cases h
  · rfl)
theorem wid_lt (b : Nat) : wfk .f64 (wid b) := by
  unfold wid cv
  cases hb : isN .f32 b
  · rw [widen_some hb]; exact write_lt' .f64 _
  · rw [f2f_nan (by decide) hb]; exact qn_lt _
theorem isN_wid (b : Nat) : isN .f64 (wid b) = isN .f32 b := by
  unfold wid cv
  cases hb : isN .f32 b
  · have := widen_some hb
    rw [this]; exact (f2f_not_nan (by decide) this).1
  · rw [f2f_nan (by decide) hb]; exact isN_qn _
theorem wid_inf {b : Nat} {s : Bool} (h : single.read b = .infinity s) : double.read (wid b) = .infinity s := by
  have hb : isN .f32 b = false := by
    show (single.read b).isNaN = false
    rw [h]; rfl
  unfold wid cv
  rw [widen_some hb, h]
  exact read_infinity double (by decide) s
theorem wid_num {b : Nat} {s : Bool} {m : Nat} {e : Int} (h : single.read b = .number s m e) : ∃ k : Nat, double.read (wid b) = .number s (m * 2 ^ k) (e - k) := by
  have hb : isN .f32 b = false := by
    show (single.read b).isNaN = false
    rw [h]; rfl
  unfold wid cv
  rw [widen_some hb, h]
  exact widen_read h

/-! ### Signs -/
theorem read_parts (f : Format) (b b' : Nat) (hq : b' / f.signWeight % 2 = 1 - b / f.signWeight % 2) (hr : b' % f.signWeight = b % f.signWeight) : f.read b' = (f.read b).opposite := by
  have hn : (b' / f.signWeight % 2 == 1) = !(b / f.signWeight % 2 == 1) := by
    rw [hq]
    rcases (by omega : b / f.signWeight % 2 = 0 ∨ b / f.signWeight % 2 = 1) with h | h <;> rw [h] <;> rfl
  unfold Format.read
  simp only [hn, hr]
  split
  · rfl
  · split
    · rfl
    · split <;> rfl

theorem xor_sign (n b : Nat) : (b ^^^ 2 ^ n) / 2 ^ n % 2 = 1 - b / 2 ^ n % 2 ∧ (b ^^^ 2 ^ n) % 2 ^ n = b % 2 ^ n := by
  have hp := Nat.two_pow_pos n
  constructor
  · rw [Nat.xor_div_two_pow, Nat.div_self hp]
    rcases Nat.mod_two_eq_zero_or_one (b / 2 ^ n) with h | h
    · have : (b / 2 ^ n ^^^ 1) % 2 = 1 := by rw [Nat.xor_mod_two_eq_one]; simp [h]
      omega
    · have : ¬ (b / 2 ^ n ^^^ 1) % 2 = 1 := by rw [Nat.xor_mod_two_eq_one]; simp [h]
      omega
  · rw [Nat.xor_mod_two_pow, Nat.mod_self, Nat.xor_zero]

theorem read_neg (k : FloatKind) (b : Nat) : k.format.read (Op.negFloat k b) = (k.format.read b).opposite := by
  unfold Op.negFloat
  exact read_parts _ _ _ (xor_sign _ b).1 (xor_sign _ b).2
theorem isN_neg (k : FloatKind) (b : Nat) : isN k (Op.negFloat k b) = isN k b := by
  unfold isN
  rw [read_neg]; cases k.format.read b <;> rfl
theorem neg_lt {k : FloatKind} {b : Nat} (h : wfk k b) : wfk k (Op.negFloat k b) := by
  unfold Op.negFloat wfk
  refine Nat.xor_lt_two_pow h ?_
  cases k <;> decide

/-- The absolute value, as the reference takes it. -/
def absB (b : Nat) : Nat := if flt .f64 b 0 = true then Op.negFloat .f64 b else if feq .f64 b 0 = true then 0 else b

theorem read_zero64 : FloatKind.f64.format.read 0 = .number false 0 (-1074) := by decide +kernel
theorem read_zero32 : FloatKind.f32.format.read 0 = .number false 0 (-149) := by decide +kernel

theorem signed_cases (s : Bool) (m u : Nat) : ∃ n : Nat, (n = 0 ↔ m = 0) ∧ signed s m u = if s = true then -(n : Int) else (n : Int) := by
  refine ⟨m * 2 ^ u, ⟨fun h => ?_, by rintro rfl; simp⟩, ?_⟩
  · have hp := Nat.two_pow_pos u
    rcases Nat.mul_eq_zero.1 h with h | h
    · exact h
    · omega
  · unfold signed; rw [Nat.shiftLeft_eq]
theorem signed_lt (s : Bool) (m u : Nat) : (signed s m u < 0) ↔ (s = true ∧ m ≠ 0) := by
  obtain ⟨n, h0, h⟩ := signed_cases s m u
  rw [h]
  cases s <;> simp <;> omega
theorem signed_eq (s : Bool) (m u : Nat) : (signed s m u = 0) ↔ m = 0 := by
  obtain ⟨n, h0, h⟩ := signed_cases s m u
  rw [h]
  cases s <;> simp <;> omega

theorem order_zero {k : FloatKind} {b : Nat} {s : Bool} {m : Nat} {e : Int} (h : k.format.read b = .number s m e) (h0 : ∃ p, k.format.read 0 = .number false 0 p) :
    k.format.order b 0 = some (if m = 0 then .eq else if s = true then .lt else .gt) := by
  obtain ⟨p, hp⟩ := h0
  have z : ∀ u, signed false 0 u = 0 := fun u => by simp [signed]
  unfold Format.order
  rw [h, hp]
  simp only [Datum.order, z]
  congr 1
  by_cases hm : m = 0
  · rw [if_pos hm, (signed_eq s m _).2 hm]; rfl
  · rw [if_neg hm]
    have hne : signed s m (e - min e p).toNat ≠ 0 := fun h => hm ((signed_eq _ _ _).1 h)
    cases s
    · have : ¬ signed false m (e - min e p).toNat < 0 := fun h => by have := (signed_lt _ _ _).1 h; simp at this
      simp only [Bool.false_eq_true, if_false, compare, compareOfLessAndEq]
      rw [if_neg this, if_neg hne]
    · have : signed true m (e - min e p).toNat < 0 := (signed_lt _ _ _).2 ⟨rfl, hm⟩
      simp only [if_true, compare, compareOfLessAndEq]
      rw [if_pos this]
theorem zero_read (k : FloatKind) : ∃ p, k.format.read 0 = .number false 0 p := by
  cases k
  · exact ⟨_, read_zero32⟩
  · exact ⟨_, read_zero64⟩
theorem order_zero_inf {k : FloatKind} {b : Nat} {s : Bool} (h : k.format.read b = .infinity s) : k.format.order b 0 = some (if s = true then .lt else .gt) := by
  obtain ⟨p, hp⟩ := zero_read k
  unfold Format.order
  rw [h, hp]
  rfl

/-- |b| as a datum. -/
def absD : Datum → Datum
  | .number _ m e => .number false m e
  | .infinity _ => .infinity false
  | d => d

theorem absB_read (b : Nat) : ∃ m e, (FloatKind.f64.format.read (absB b) = absD (FloatKind.f64.format.read b)) ∨
    (FloatKind.f64.format.read (absB b) = .number false 0 (-1074) ∧ ∃ s, FloatKind.f64.format.read b = .number s 0 (-1074) ∧ m = 0 ∧ e = (-1074 : Int)) := by
  refine ⟨0, -1074, ?_⟩
  unfold absB
  cases hr : FloatKind.f64.format.read b with
  | nan s t =>
    have hn : isN .f64 b = true := by unfold isN; rw [hr]; rfl
    have h1 : flt .f64 b 0 = false := by unfold flt; rw [order_nan_l hn]; rfl
    have h2 : feq .f64 b 0 = false := by unfold feq; rw [order_nan_l hn]; rfl
    left
    rw [h1, h2]; simp [hr, absD]
  | infinity s =>
    have ho := order_zero_inf hr
    left
    cases s
    · have h1 : flt .f64 b 0 = false := by unfold flt; rw [ho]; rfl
      have h2 : feq .f64 b 0 = false := by unfold feq; rw [ho]; rfl
      rw [h1, h2]; simp [hr, absD]
    · have h1 : flt .f64 b 0 = true := by unfold flt; rw [ho]; rfl
      rw [if_pos h1, read_neg, hr]; rfl
  | number s m e =>
    have ho := order_zero hr (zero_read _)
    by_cases hm : m = 0
    · subst hm
      have he : e = -1074 := zero_place _ (by decide) hr
      subst he
      right
      have h1 : flt .f64 b 0 = false := by unfold flt; rw [ho]; rfl
      have h2 : feq .f64 b 0 = true := by unfold feq; rw [ho]; rfl
      rw [h1, h2]
      exact ⟨read_zero64, s, rfl, rfl, rfl⟩
    · left
      rw [if_neg hm] at ho
      cases s
      · have h1 : flt .f64 b 0 = false := by unfold flt; rw [ho]; rfl
        have h2 : feq .f64 b 0 = false := by unfold feq; rw [ho]; rfl
        rw [h1, h2]; simp [hr, absD]
      · have h1 : flt .f64 b 0 = true := by unfold flt; rw [ho]; rfl
        rw [if_pos h1, read_neg, hr]; rfl

theorem read_absB (b : Nat) : double.read (absB b) = absD (double.read b) := by
  obtain ⟨m, e, h | ⟨h, s, hb, _⟩⟩ := absB_read b
  · exact h
  · show FloatKind.f64.format.read _ = absD (FloatKind.f64.format.read b)
    rw [h, hb]; rfl
theorem absB_lt {b : Nat} (h : wfk .f64 b) : wfk .f64 (absB b) := by
  unfold absB
  split
  · exact neg_lt h
  · split
    · rw [wfk_64]; decide
    · exact h
theorem isN_absB (b : Nat) : isN .f64 (absB b) = isN .f64 b := by
  show (double.read (absB b)).isNaN = (double.read b).isNaN
  rw [read_absB]; cases double.read b <;> rfl
theorem absB_congr {a b : Nat} (h : nrm .f64 a = nrm .f64 b) : nrm .f64 (absB a) = nrm .f64 (absB b) := by
  cases ha : isN .f64 a
  · have hb : isN .f64 b = false := by rw [← isN_nrm, ← h, isN_nrm]; exact ha
    rw [nrm_of_num ha, nrm_of_num hb] at h
    rw [h]
  · have hb : isN .f64 b = true := by rw [← isN_nrm, ← h, isN_nrm]; exact ha
    rw [nrm_of_nan (by rw [isN_absB]; exact ha), nrm_of_nan (by rw [isN_absB]; exact hb)]

/-- The absolute value of a number of single precision, as the program takes it: the sign bit struck. -/
theorem read_abs32 (b : Nat) : single.read (b % 2147483648) = absD (match single.read b with | .nan _ t => .nan false t | d => d) := by
  have hs : single.signWeight = 2147483648 := by decide +kernel
  unfold Format.read
  simp only [hs, Nat.mod_mod]
  have : b % 2147483648 / 2147483648 = 0 := Nat.div_eq_of_lt (Nat.mod_lt _ (by decide))
  simp only [this]
  split
  · rfl
  · split
    · rfl
    · split <;> rfl

/-- The reference's way to the absolute value, through double precision, comes to the same. -/
theorem narrow_abs {b : Nat} (hn : isN .f32 b = false) : floatToFloatBits .f64 (absB (wid b)) .f32 = some (b % 2147483648) := by
  have habs := read_abs32 b
  have hwr : single.write (single.read (b % 2147483648)) = b % 2147483648 := write_read single (by decide) (by
    have : single.width = 32 := by decide
    rw [this]; omega) (by
    rw [habs]
    unfold isN at hn
    have e : FloatKind.f32.format.read b = single.read b := rfl
    rw [e] at hn
    cases hr : single.read b with
    | nan s t => rw [hr] at hn; cases hn
    | number s m e => rfl
    | infinity s => rfl)
  unfold floatToFloatBits
  rw [if_neg (by decide)]
  have hd : FloatKind.f64.decode (absB (wid b)) = absD (double.read (wid b)) := read_absB _
  rw [hd]
  cases hr : single.read b with
  | nan s t =>
    unfold isN at hn
    have e : FloatKind.f32.format.read b = single.read b := rfl
    rw [e, hr] at hn; cases hn
  | infinity s =>
    rw [wid_inf hr]
    rw [hr] at habs
    show some (single.write (.infinity false)) = _
    rw [← hwr, habs]; rfl
  | number s m e =>
    obtain ⟨k, hk⟩ := wid_num hr
    rw [hr] at habs
    have henc : FloatKind.f32.encode (.number false (m * 2 ^ k) (e - k)) = b % 2147483648 := by
      show single.nearest false (m * 2 ^ k) (e - k) = _
      rw [nearest_scale, ← hwr, habs]; rfl
    have hdec : FloatKind.f32.decode (b % 2147483648) = .number false m e := by show single.read _ = _; rw [habs]; rfl
    rw [hk]
    simp only [absD, henc, hdec, Datum.isInfinity]
    rfl
theorem nrm_narrow_abs {b r : Nat} (hr : nrm .f64 r = wid b) (w : World) : nrm .f32 (cR .f64 (absB r) .f32 w) = nrm .f32 (b % 2147483648) := by
  have hrw : nrm .f64 r = nrm .f64 (wid b) := by rw [hr, nrm_cv (by decide)]
  have hab := absB_congr hrw
  cases hn : isN .f32 b
  · have hs := narrow_abs hn
    have hw : isN .f64 (wid b) = false := by rw [isN_wid]; exact hn
    have hr0 : isN .f64 r = false := by rw [← isN_nrm, hrw, isN_nrm]; exact hw
    rw [nrm_of_num hr0, nrm_of_num hw] at hrw
    subst hrw
    rw [nrm_cR (by decide) (fun h => by rw [hs] at h; cases h)]
    unfold cv
    rw [hs]
    exact (nrm_of_num (f2f_not_nan (by decide) hs).1).symm
  · have hw : isN .f64 (wid b) = true := by rw [isN_wid]; exact hn
    have hr0 : isN .f64 r = true := by rw [← isN_nrm, hrw, isN_nrm]; exact hw
    rw [nrm_cR (by decide) (fun _ => by rw [isN_absB]; exact hr0)]
    unfold cv
    rw [f2f_nan (by decide) (by rw [isN_absB]; exact hr0)]
    show qn .f32 = _
    refine (nrm_of_nan ?_).symm
    obtain ⟨s, t, hb⟩ := isN_read hn
    have hb' : single.read b = .nan s t := hb
    show (single.read _).isNaN = true
    rw [read_abs32 b, hb']; rfl

/-- Narrowing takes back what widening gives. -/
theorem narrow_wid {b : Nat} (h : wfk .f32 b) (hn : isN .f32 b = false) : floatToFloatBits .f64 (wid b) .f32 = some b := by
  have hwr : single.write (single.read b) = b := write_read single (by decide) h hn
  unfold floatToFloatBits
  rw [if_neg (by decide)]
  have hd : FloatKind.f64.decode (wid b) = double.read (wid b) := rfl
  rw [hd]
  cases hr : single.read b with
  | nan s t =>
    unfold isN at hn
    have e : FloatKind.f32.format.read b = single.read b := rfl
    rw [e, hr] at hn; cases hn
  | infinity s =>
    rw [wid_inf hr]
    rw [hr] at hwr
    show some (single.write (.infinity s)) = _
    rw [hwr]
  | number s m e =>
    obtain ⟨k, hk⟩ := wid_num hr
    have henc : FloatKind.f32.encode (.number s (m * 2 ^ k) (e - k)) = b := by
      show single.nearest s (m * 2 ^ k) (e - k) = _
      rw [nearest_scale, ← hwr, hr]; rfl
    have hdec : FloatKind.f32.decode b = .number s m e := hr
    rw [hk]
    simp only [henc, hdec, Datum.isInfinity]
    rfl

/-- A float known up to the bits of a NaN. -/
def isF (k : FloatKind) (z : Nat) (v : Value) : Prop := ∃ r, v = .float k r ∧ nrm k r = z ∧ wfk k r
theorem isF_wid {b : Nat} (h : wfk .f32 b) (w : World) : isF .f64 (wid b) (.float .f64 (cR .f32 b .f64 w)) := ⟨_, rfl, nrm_wid b w, cR_lt h w⟩
theorem isF_op (op : BinOp) (k : FloatKind) (x y : Nat) (w : World) : isF k (fo op k x y) (.float k (fR op k x y w)) := ⟨_, rfl, nrm_fR op k x y w, fR_lt op k x y w⟩

/-! ### The same number -/
def sameB (k : FloatKind) (a b : Nat) : Bool := decide (nrm k a = nrm k b)
end Go.Proofs.Ytignncjmbcdpaaa
