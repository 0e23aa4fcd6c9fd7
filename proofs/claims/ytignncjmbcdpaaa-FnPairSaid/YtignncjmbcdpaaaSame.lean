/-
'Are they the same number?': laws.sameFloat, spec.l8Same, impl.same64, impl.same32.
-/
import Derived.Test.YtignncjmbcdpaaaFloats2
namespace Go.Proofs.Ytignncjmbcdpaaa
open Go Go.RowKit Ieee

/-- 1 in double precision. -/
def one64 : Nat := 4607182418800017408
theorem one_read : double.read one64 = .number false 4503599627370496 (-52) := by decide +kernel

theorem quo_one_some {a : Nat} (h : isN .f64 a = false) : ∃ r, floatBits .quo .f64 one64 a = some r := by
  unfold floatBits
  show ∃ r, (Datum.quotient _ (double.read one64) (double.read a)).map _ = some r
  rw [one_read]
  have h' : (double.read a).isNaN = false := h
  cases hr : double.read a with
  | nan s t => rw [hr] at h'; cases h'
  | infinity s => exact ⟨_, rfl⟩
  | number s m e =>
    unfold Datum.quotient
    by_cases hm : m = 0
    · subst hm; exact ⟨_, rfl⟩
    · simp only [if_neg hm]; exact ⟨_, rfl⟩
theorem fN_one {a : Nat} (h : isN .f64 a = false) : fN .quo .f64 one64 a = 0 := by
  obtain ⟨r, hr⟩ := quo_one_some h
  simp [fN, hr]

theorem feq_zero {a : Nat} (hw : wfk .f64 a) (h : feq .f64 a 0 = true) : a = 0 ∨ a = 9223372036854775808 := by
  cases hr : FloatKind.f64.format.read a with
  | nan s t =>
    unfold feq at h
    rw [order_nan_l (by unfold isN; rw [hr]; rfl)] at h; cases h
  | infinity s =>
    unfold feq at h
    rw [order_zero_inf hr] at h; cases s <;> cases h
  | number s m e =>
    unfold feq at h
    rw [order_zero hr (zero_read _)] at h
    by_cases hm : m = 0
    · subst hm
      have hp := zero_place FloatKind.f64.format (by decide) hr
      obtain ⟨_, _, _, _, h5, h6⟩ := read_bounds FloatKind.f64.format (by decide) hr
      rw [hp] at h5
      have hs : FloatKind.f64.format.signWeight = 9223372036854775808 := by decide +kernel
      rw [hs] at h5
      rw [wfk_64] at hw
      simp at h5
      omega
    · rw [if_neg hm] at h; cases s <;> cases h
theorem sign_zero (w : World) : fgt .f64 (fR .quo .f64 one64 0 w) 0 = true ∧ fgt .f64 (fR .quo .f64 one64 9223372036854775808 w) 0 = false := by
  have h1 : floatBits .quo .f64 one64 0 = some 9218868437227405312 := by decide +kernel
  have h2 : floatBits .quo .f64 one64 9223372036854775808 = some 18442240474082181120 := by decide +kernel
  constructor
  · unfold fR; rw [h1]
    show fgt .f64 9218868437227405312 0 = true
    decide +kernel
  · unfold fR; rw [h2]
    show fgt .f64 18442240474082181120 0 = false
    decide +kernel
theorem same_zero {a b : Nat} (ha : wfk .f64 a) (hb : wfk .f64 b) (h : feq .f64 a 0 = true) (h' : feq .f64 b 0 = true) (w w' : World) :
    (fgt .f64 (fR .quo .f64 one64 a w) 0 == fgt .f64 (fR .quo .f64 one64 b w') 0) = sameB .f64 a b := by
  have e0 : isN .f64 0 = false := by decide +kernel
  have e1 : isN .f64 9223372036854775808 = false := by decide +kernel
  unfold sameB
  rcases feq_zero ha h with rfl | rfl <;> rcases feq_zero hb h' with rfl | rfl <;>
    simp only [nrm_of_num e0, nrm_of_num e1, (sign_zero _).1, (sign_zero _).2] <;> decide

theorem feq_nan {k : FloatKind} {a b : Nat} (h : feq k a b = true) : isN k a = false ∧ isN k b = false := by
  constructor
  · cases hh : isN k a
    · rfl
    · unfold feq at h; rw [order_nan_l hh] at h; cases h
  · cases hh : isN k b
    · rfl
    · unfold feq at h; rw [order_nan_r hh] at h; cases h
/-- Of two numbers that are equal and not both zero, the words are one. -/
theorem feq_word {k : FloatKind} {a b : Nat} (ha : wfk k a) (hb : wfk k b) (h : feq k a b = true) (h0 : feq k a 0 = false ∨ feq k b 0 = false) : a = b := by
  have na := (feq_nan h).1
  have nb := (feq_nan h).2
  have wa := write_read k.format (eb_ge k) ha na
  have wb := write_read k.format (eb_ge k) hb nb
  have ho : k.format.order a b = some .eq := by simpa [feq] using h
  unfold Format.order at ho
  rw [← wa, ← wb]
  cases hr : k.format.read a with
  | nan s t => unfold isN at na; rw [hr] at na; cases na
  | infinity s =>
    cases hr' : k.format.read b with
    | nan s t => unfold isN at nb; rw [hr'] at nb; cases nb
    | infinity t =>
      rw [hr, hr'] at ho
      cases s <;> cases t <;> first | rfl | exact absurd ho (by decide)
    | number t n j =>
      rw [hr, hr'] at ho
      cases s <;> cases ho
  | number s m i =>
    cases hr' : k.format.read b with
    | nan s t => unfold isN at nb; rw [hr'] at nb; cases nb
    | infinity t =>
      rw [hr, hr'] at ho
      cases t <;> cases ho
    | number t n j =>
      rw [hr, hr'] at ho
      have hz : m ≠ 0 ∨ n ≠ 0 := by
        rcases h0 with h0 | h0
        · left; rintro rfl
          unfold feq at h0; rw [order_zero hr (zero_read k)] at h0; cases h0
        · right; rintro rfl
          unfold feq at h0; rw [order_zero hr' (zero_read k)] at h0; cases h0
      simp only [Datum.order, Option.some.injEq] at ho
      have he : signed s m (i - min i j).toNat = signed t n (j - min i j).toNat := by
        simp only [compare, compareOfLessAndEq] at ho
        split at ho
        · cases ho
        · split at ho
          · assumption
          · cases ho
      have hs : s = t ∧ m * 2 ^ (i - min i j).toNat = n * 2 ^ (j - min i j).toNat := by
        simp only [signed, Nat.shiftLeft_eq] at he
        have pm : m ≠ 0 → 0 < m * 2 ^ (i - min i j).toNat := fun h => Nat.mul_pos (by omega) (Nat.two_pow_pos _)
        have pn : n ≠ 0 → 0 < n * 2 ^ (j - min i j).toNat := fun h => Nat.mul_pos (by omega) (Nat.two_pow_pos _)
        generalize m * 2 ^ (i - min i j).toNat = x at *
        generalize n * 2 ^ (j - min i j).toNat = y at *
        cases s <;> cases t <;> simp at he ⊢ <;> omega
      show k.format.nearest s m i = k.format.nearest t n j
      have e1 := nearest_scale k.format s m i (i - min i j).toNat
      have e2 := nearest_scale k.format t n j (j - min i j).toNat
      rw [← e1, ← e2, hs.1, hs.2]
      congr 1
      omega
theorem same_num {a b : Nat} (ha : wfk .f64 a) (hb : wfk .f64 b) (na : isN .f64 a = false) (nb : isN .f64 b = false) (h0 : feq .f64 a 0 = false ∨ feq .f64 b 0 = false) : feq .f64 a b = sameB .f64 a b := by
  unfold sameB
  rw [nrm_of_num na, nrm_of_num nb]
  by_cases h : a = b
  · subst h; rw [feq_self, na]; simp
  · rw [decide_eq_false h]
    cases hf : feq .f64 a b
    · rfl
    · exact absurd (feq_word ha hb hf h0) h
theorem same_nan_l {k : FloatKind} {a b : Nat} (h : isN k a = true) : sameB k a b = isN k b := by
  unfold sameB
  rw [nrm_of_nan h]
  cases hb : isN k b
  · rw [nrm_of_num hb, decide_eq_false]
    intro e; rw [← e, isN_qn] at hb; cases hb
  · rw [nrm_of_nan hb]; simp
theorem same_nan_r {k : FloatKind} {a b : Nat} (ha : isN k a = false) (h : isN k b = true) : sameB k a b = false := by
  unfold sameB
  rw [nrm_of_nan h, nrm_of_num ha, decide_eq_false]
  intro e; rw [e, isN_qn] at ha; cases ha

set_option maxHeartbeats 400000 in
theorem sameFloat_any (a b : Nat) (w : World) (ha : wfk .f64 a) (hb : wfk .f64 b) :
    Calls Try.prog 86 #[.float .f64 a, .float .f64 b] w fun e w' => e = .returned (.bool (sameB .f64 a b)) ∧ w = w' := by
  have fa := feq_self .f64 a
  have fb := feq_self .f64 b
  cases na : isN .f64 a
  · rw [na] at fa
    cases nb : isN .f64 b
    · rw [nb] at fb
      have n1 := Lib.hid (fN_one na)
      have n2 := Lib.hid (fN_one nb)
      have s0 := Lib.hid (fun h h' w w' => same_zero ha hb h h' w w')
      have s1 := Lib.hid (same_num ha hb na nb)
      clear na nb ha hb
      cases za : feq .f64 a 0
      · go_enter Try.func86, Try.ntmps86
        go_wp2
        go_ret
        exact ⟨ret_bool (s1.out (.inl za)), rfl⟩
      · cases zb : feq .f64 b 0
        · go_enter Try.func86, Try.ntmps86
          go_wp2
          go_ret
          exact ⟨ret_bool (s1.out (.inr zb)), rfl⟩
        · go_enter Try.func86, Try.ntmps86
          go_wp2
          go_ret
          exact ⟨ret_bool (s0.out za zb _ _), by show w = w.drewN (fN .quo .f64 one64 a + fN .quo .f64 one64 b); rw [n1.out, n2.out]; rfl⟩
    · rw [nb] at fb
      have s1 := Lib.hid (same_nan_r na nb)
      clear na nb ha hb
      go_enter Try.func86, Try.ntmps86
      go_wp2
      go_ret
      exact ⟨ret_bool s1.out.symm, rfl⟩
  · rw [na] at fa
    have s1 := Lib.hid (same_nan_l (b := b) na)
    clear na ha hb
    generalize isN .f64 b = nb at *
    go_enter Try.func86, Try.ntmps86
    go_wp2
    go_ret
    exact ⟨ret_bool (by rw [s1.out]), rfl⟩
set_option maxHeartbeats 400000 in
theorem l8Same_any (a b : Nat) (w : World) (ha : wfk .f64 a) (hb : wfk .f64 b) :
    Calls Try.prog 120 #[.float .f64 a, .float .f64 b] w fun e w' => e = .returned (.bool (sameB .f64 a b)) ∧ w = w' := by
  have fa := feq_self .f64 a
  have fb := feq_self .f64 b
  cases na : isN .f64 a
  · rw [na] at fa
    cases nb : isN .f64 b
    · rw [nb] at fb
      have n1 := Lib.hid (fN_one na)
      have n2 := Lib.hid (fN_one nb)
      have s0 := Lib.hid (fun h h' w w' => same_zero ha hb h h' w w')
      have s1 := Lib.hid (same_num ha hb na nb)
      clear na nb ha hb
      cases za : feq .f64 a 0
      · go_enter Try.func120, Try.ntmps120
        go_wp2
        go_ret
        exact ⟨ret_bool (s1.out (.inl za)), rfl⟩
      · cases zb : feq .f64 b 0
        · go_enter Try.func120, Try.ntmps120
          go_wp2
          go_ret
          exact ⟨ret_bool (s1.out (.inr zb)), rfl⟩
        · go_enter Try.func120, Try.ntmps120
          go_wp2
          go_ret
          exact ⟨ret_bool (s0.out za zb _ _), by show w = w.drewN (fN .quo .f64 one64 a + fN .quo .f64 one64 b); rw [n1.out, n2.out]; rfl⟩
    · rw [nb] at fb
      have s1 := Lib.hid (same_nan_r na nb)
      clear na nb ha hb
      go_enter Try.func120, Try.ntmps120
      go_wp2
      go_ret
      exact ⟨ret_bool s1.out.symm, rfl⟩
  · rw [na] at fa
    have s1 := Lib.hid (same_nan_l (b := b) na)
    clear na ha hb
    generalize isN .f64 b = nb at *
    go_enter Try.func120, Try.ntmps120
    go_wp2
    go_ret
    exact ⟨ret_bool (by rw [s1.out]), rfl⟩

theorem sameFloat_true (a b : Nat) (w : World) (ha : wfk .f64 a) (hb : wfk .f64 b) (h : nrm .f64 a = nrm .f64 b) :
    Calls Try.prog 86 #[.float .f64 a, .float .f64 b] w fun e w' => e = .returned (.bool true) ∧ w = w' :=
  (sameFloat_any a b w ha hb).mono fun e w' ⟨he, hw⟩ => ⟨he.trans (by simp [sameB, h]), hw⟩
/-- Of two words of single precision that are the same. -/
theorem wid_same {a b : Nat} (h : nrm .f32 a = nrm .f32 b) (w w' : World) : nrm .f64 (cR .f32 a .f64 w) = nrm .f64 (cR .f32 b .f64 w') := by
  rw [nrm_wid, nrm_wid]; exact cv_congr (by decide) h

/-! ### The program's own -/
theorem run_f64bits (b : Nat) (w : World) : (callFunc 132 #[.float .f64 b]).run Try.prog w = .ok (.value (.int .u64 b)) w := by
  rw [run_callFunc_extern Try.func132 (by kernel_rfl) (by kernel_rfl) (by kernel_rfl) (e := Extern.MathFloatBits.float64bits) (by kernel_rfl)]; rfl

def signB (b : Nat) : Bool := decide (9223372036854775808 ≤ b)

theorem sign_wrap {b : Nat} (hb : wfk .f64 b) : decide (wrap64 (b : Int) < 0) = signB b := by
  rw [wfk_64] at hb
  unfold wrap64 signB
  rw [decide_eq_decide]
  omega

set_option maxHeartbeats 400000 in
theorem signbit_any (b : Nat) (w : World) (hb : wfk .f64 b) :
    Calls Try.prog 124 #[.float .f64 b] w fun e w' => e = .returned (.bool (signB b)) ∧ w = w' := by
  have hf := fun w => run_f64bits b w
  go_enter Try.func124, Try.ntmps124
  go_wp2
  go_ret
  exact ⟨ret_bool (sign_wrap hb), rfl⟩

/-- Of two words of single precision: their widened words are the same where they are. -/
theorem same_wid {a b : Nat} (ha : wfk .f32 a) (hb : wfk .f32 b) : sameB .f64 (wid a) (wid b) = sameB .f32 a b := by
  cases na : isN .f32 a
  · cases nb : isN .f32 b
    · unfold sameB
      rw [nrm_of_num na, nrm_of_num nb, nrm_cv (by decide), nrm_cv (by decide), decide_eq_decide]
      constructor
      · intro h
        have h1 := narrow_wid ha na
        have h2 := narrow_wid hb nb
        rw [show wid a = wid b from h, h2] at h1
        exact (Option.some.inj h1).symm
      · rintro rfl; rfl
    · rw [same_nan_r na nb, same_nan_r (by rw [isN_wid]; exact na) (by rw [isN_wid]; exact nb)]
  · rw [same_nan_l na, same_nan_l (by rw [isN_wid]; exact na), isN_wid]

theorem same_of_wid {x y r1 r2 : Nat} (hx : wfk .f32 x) (hy : wfk .f32 y) (h1 : nrm .f64 r1 = wid x) (h2 : nrm .f64 r2 = wid y) : sameB .f64 r1 r2 = sameB .f32 x y := by
  rw [← same_wid hx hy]
  unfold sameB
  rw [h1, h2, nrm_cv (by decide), nrm_cv (by decide)]

theorem l8Same_wid {x y r1 r2 : Nat} (hx : wfk .f32 x) (hy : wfk .f32 y) (w1 : wfk .f64 r1) (w2 : wfk .f64 r2) (h1 : nrm .f64 r1 = wid x) (h2 : nrm .f64 r2 = wid y) (w : World) :
    Calls Try.prog 120 #[.float .f64 r1, .float .f64 r2] w fun e w' => e = .returned (.bool (sameB .f32 x y)) ∧ w = w' :=
  (l8Same_any r1 r2 w w1 w2).mono fun e w' ⟨he, hw⟩ => ⟨he.trans (by rw [same_of_wid hx hy h1 h2]), hw⟩

end Go.Proofs.Ytignncjmbcdpaaa
