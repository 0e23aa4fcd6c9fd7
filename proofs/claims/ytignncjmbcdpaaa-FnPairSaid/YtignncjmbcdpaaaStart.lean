/-
spec.MakeStart; a complex number divided by 4.
-/
import Derived.Test.YtignncjmbcdpaaaGauss
import Derived.Test.YtignncjmbcdpaaaSmall
import Derived.Test.YtignncjmbcdpaaaComplex
import Derived.Test.YtignncjmbcdpaaaLimitAny
namespace Go.Proofs.Ytignncjmbcdpaaa
open Go Go.RowKit Ieee

theorem pow_val (b : Nat) (m : Nat) (e : Int) (v : Rat) (h : double.read b = .number false m e) (hv : (m : Rat) * pw e = v) : fin .f64 b ∧ fv .f64 b = v := by
  obtain ⟨h1, h2⟩ := fin_of_read (k := .f64) h
  refine ⟨h1, ?_⟩
  rw [h2, dval_num]
  simpa [mval] using hv
theorem w16 : fin .f64 4625196817309499392 ∧ fv .f64 4625196817309499392 = 16 := pow_val _ 4503599627370496 (-48) _ (by decide +kernel) (by unfold pw; grind)
theorem w4 : fin .f64 4616189618054758400 ∧ fv .f64 4616189618054758400 = 4 := pow_val _ 4503599627370496 (-50) _ (by decide +kernel) (by unfold pw; grind)
theorem Ex.quo {x W : Nat} {n : Int} {e B k : Nat} (hx : Ex x n e B) (hW : fin .f64 W) (hv : fv .f64 W = pw (k : Int)) (hB : B < 2 ^ 53) (he : e + k ≤ 1000) : Ex (fo .quo .f64 x W) n (e + k) B := by
  have hp := pw_pos (k : Int)
  have e1 : fv .f64 x / fv .f64 W = (n : Rat) * pw (-((e + k : Nat) : Int)) := by
    rw [hx.v, hv]
    have : pw (-(e : Int)) = pw (-((e + k : Nat) : Int)) * pw (k : Int) := by rw [← pw_add]; congr 1; omega
    rw [this, ← Rat.mul_assoc]
    exact Rat.mul_div_cancel (by grind)
  have hb := hx.b
  obtain ⟨t1, t2⟩ := ex_top (n := n) (e := e + k) (by omega)
  have ht := top210
  have hd := div_spec hx.f hW (by rw [hv]; grind) (by rw [e1]; grind)
  rw [e1] at hd
  exact ⟨hd.1, hd.few (ex_few (by omega) he) t1, hb⟩
theorem p16 : fv .f64 4625196817309499392 = pw ((4 : Nat) : Int) := by rw [w16.2]; unfold pw; grind
theorem p4 : fv .f64 4616189618054758400 = pw ((2 : Nat) : Int) := by rw [w4.2]; unfold pw; grind
theorem Ex.int (n : Int) (B : Nat) (h : n.natAbs ≤ B) (hB : B < 2 ^ 53) : Ex (floatOfInt .f64 n) n 0 B := by
  have hx := int_exact .f64 n (by have : FloatKind.f64.format.binade = 4503599627370496 := by decide +kernel
                                  rw [this]; omega)
  exact ⟨hx.1, by rw [hx.2]; show _ = (n : Rat) * pw (-((0 : Nat) : Int)); rw [show -((0 : Nat) : Int) = 0 from rfl, pw_zero]; grind, h⟩
theorem Ex.zero (e : Nat) : Ex 0 0 e 0 := ⟨(zero_fin .f64).1, by rw [(zero_fin .f64).2]; simp, by simp⟩
theorem Ex.isZero {x : Nat} {n : Int} {e B : Nat} (h : Ex x n e B) : feq .f64 x 0 = decide (n = 0) := by
  obtain ⟨z1, z2⟩ := zero_fin .f64
  have hp := pw_pos (-(e : Int))
  by_cases hn : n = 0
  · subst hn
    rw [(feq_iff h.f z1).2 (by rw [h.v, z2]; simp)]; simp
  · cases hc : feq .f64 x 0
    · simp [hn]
    · exfalso
      have := (feq_iff h.f z1).1 hc
      rw [h.v, z2] at this
      have hne : (n : Rat) ≠ 0 := fun h => hn (by exact_mod_cast h)
      rcases Rat.mul_eq_zero.1 this with h | h
      · exact hne h
      · grind
theorem some_of_fin {op : BinOp} {k : FloatKind} {x y : Nat} (h : fin k (fo op k x y)) : floatBits op k x y = some (fo op k x y) := by
  unfold fo at h ⊢
  cases hb : floatBits op k x y with
  | some r => rfl
  | none =>
    rw [hb] at h
    have := fin_num h
    rw [show (none : Option Nat).getD (qn k) = qn k from rfl, isN_qn] at this; cases this
theorem run_arith {P : Program} {op : BinOp} {x y r : Nat} (hop : op = .add ∨ op = .sub ∨ op = .mul ∨ op = .quo) (h : floatBits op .f64 x y = some r) (w : World) : (Op.Complex.arith op .f64 x y).run P w = .ok r w := by
  unfold floatBits at h
  rcases hop with rfl | rfl | rfl | rfl <;> simp only at h <;> simp [Op.Complex.arith, Op.floatArith, h]
theorem nan_of_fin {x : Nat} (h : fin .f64 x) : Op.Complex.isNaN x = false := fin_num h
/-- A complex quotient whose divisor's first part is the greater one, no part of it a NaN. -/
theorem run_cquo {P : Program} {a b c d r p den z1 a1 e z2 b1 f : Nat} (h1 : floatBits .quo .f64 d c = some r) (h2 : floatBits .mul .f64 r d = some p) (h3 : floatBits .add .f64 c p = some den)
    (h4 : floatBits .mul .f64 b r = some z1) (h5 : floatBits .add .f64 a z1 = some a1) (h6 : floatBits .quo .f64 a1 den = some e) (h7 : floatBits .mul .f64 a r = some z2) (h8 : floatBits .sub .f64 b z2 = some b1)
    (h9 : floatBits .quo .f64 b1 den = some f) (hn : Op.Complex.isNaN e = false) (hge : ∀ w, (Op.Complex.cmp .geq .f64 (Op.Complex.abs c) (Op.Complex.abs d)).run P w = .ok true w)
    (hz : ∃ x y : Bool, (∀ w, (Op.Complex.cmp .eql .f64 c 0).run P w = .ok x w) ∧ ∀ w, (Op.Complex.cmp .eql .f64 d 0).run P w = .ok y w) (t : TypeId) (w : World) :
    (binOp .quo t (.complex .f64 a b) (.complex .f64 c d)).run P w = .ok (.complex .f64 e f) w := by
  obtain ⟨x, y, hx, hy⟩ := hz
  have g1 := fun w => run_arith (P := P) (.inr (.inr (.inr rfl))) h1 w
  have g2 := fun w => run_arith (P := P) (.inr (.inr (.inl rfl))) h2 w
  have g3 := fun w => run_arith (P := P) (.inl rfl) h3 w
  have g4 := fun w => run_arith (P := P) (.inr (.inr (.inl rfl))) h4 w
  have g5 := fun w => run_arith (P := P) (.inl rfl) h5 w
  have g6 := fun w => run_arith (P := P) (.inr (.inr (.inr rfl))) h6 w
  have g7 := fun w => run_arith (P := P) (.inr (.inr (.inl rfl))) h7 w
  have g8 := fun w => run_arith (P := P) (.inr (.inl rfl)) h8 w
  have g9 := fun w => run_arith (P := P) (.inr (.inr (.inr rfl))) h9 w
  have hcv : ∀ x w, (Op.Complex.conv .f64 x .f64).run P w = .ok x w := fun x w => by unfold Op.Complex.conv; rw [if_pos rfl]; exact Sem.run_pure ..
  have hq : ∀ w, (Op.Complex.quotient a b c d).run P w = .ok (e, f) w := fun w => by
    unfold Op.Complex.quotient Op.Complex.quo Op.Complex.mul Op.Complex.add Op.Complex.sub
    simp only [Sem.run_bind, Sem.run_pure, hge, Result.andThen_ok, if_true, g1, g2, g3, g4, g5, g6, g7, g8, g9, hx, hy]
    rw [if_pos (by rw [hn]; rfl)]
    exact Sem.run_pure ..
  show (Op.complexOp .quo .f64 a b c d).run P w = _
  unfold Op.complexOp
  simp only [Sem.run_bind, hcv, Result.andThen_ok]
  rw [if_neg (by decide)]
  simp only [Sem.run_bind, hq, hcv, Result.andThen_ok, Sem.run_pure]
theorem k4 : floatBits .quo .f64 0 4616189618054758400 = some 0 ∧ floatBits .mul .f64 0 0 = some 0 ∧ floatBits .add .f64 4616189618054758400 0 = some 4616189618054758400 :=
  ⟨by decide +kernel, by decide +kernel, by decide +kernel⟩
theorem cmp_run {P : Program} {op : BinOp} {x y : Nat} {v : Bool} (h : Op.floatCmp op .f64 x y = (pure (.bool v) : Sem Value)) (w : World) : (Op.Complex.cmp op .f64 x y).run P w = .ok v w := by
  simp [Op.Complex.cmp, h, asBool]
theorem g4 {P : Program} (w : World) : (Op.Complex.cmp .geq .f64 (Op.Complex.abs 4616189618054758400) (Op.Complex.abs 0)).run P w = .ok true w := cmp_run rfl w
theorem z4 {P : Program} : ∃ x y : Bool, (∀ w, (Op.Complex.cmp .eql .f64 4616189618054758400 0).run P w = .ok x w) ∧ ∀ w, (Op.Complex.cmp .eql .f64 0 0).run P w = .ok y w :=
  ⟨_, _, fun w => cmp_run rfl w, fun w => cmp_run rfl w⟩
/-- What is a quarter of a number, as the complex quotient gives it. -/
def q4 (a b : Nat) : Nat := fo .quo .f64 (fo .add .f64 a (fo .mul .f64 b 0)) 4616189618054758400
def q4i (a b : Nat) : Nat := fo .quo .f64 (fo .sub .f64 b (fo .mul .f64 a 0)) 4616189618054758400
theorem q4_ok {a b : Nat} {n m : Int} {e B : Nat} (h : CEx a b n m e B) (hB : B < 2 ^ 53) (he : e ≤ 900) : CEx (q4 a b) (q4i a b) n m (e + 2) B ∧
    ∀ (P : Program) (t : TypeId) (w : World), (binOp .quo t (.complex .f64 a b) (.complex .f64 4616189618054758400 0)).run P w = .ok (.complex .f64 (q4 a b) (q4i a b)) w := by
  have z1 := h.im.mul (Ex.zero 0) (by omega) (by omega)
  have z2 := h.re.mul (Ex.zero 0) (by omega) (by omega)
  have a1 := h.re.add (e := e) (z1 : Ex _ _ e _) (by omega) (by omega)
  have b1 := h.im.sub (e := e) (z2 : Ex _ _ e _) (by omega) (by omega)
  have a2 := a1.quo w4.1 p4 (by omega) (by omega)
  have b2 := b1.quo w4.1 p4 (by omega) (by omega)
  have e1 : n + m * 0 = n := by omega
  have e2 : m - n * 0 = m := by omega
  rw [e1] at a2
  rw [e2] at b2
  refine ⟨⟨⟨a2.f, a2.v, by have := h.re.b; omega⟩, ⟨b2.f, b2.v, by have := h.im.b; omega⟩⟩, fun P t w => ?_⟩
  exact run_cquo k4.1 k4.2.1 k4.2.2 (some_of_fin z1.f) (some_of_fin a1.f) (some_of_fin a2.f) (some_of_fin z2.f) (some_of_fin b1.f) (some_of_fin b2.f) (nan_of_fin a2.f) g4 z4 t w

set_option maxHeartbeats 400000 in
theorem start_any (A : Option Addr) (cp : Nat) (bs : List Int) (w : World) (hr : Rd w A (bs.map (.int .u8))) (hm : bs.length ≤ 1048576) :
    Calls Try.prog 20 #[.slice A bs.length cp] w fun e w' => ∃ (x y : Nat) (n m : Int), e = .returned (.complex .f64 x y) ∧ CEx x y n m 4 64 ∧ wfk .f64 x ∧ wfk .f64 y ∧ ¬(n = 0 ∧ m = 0) ∧ Below w.heap.size w w' := by
  go_enter Try.func20, Try.ntmps20
  go_wp2_with fail
  refine (new_any A cp bs _ hr hm).mono ?_
  rintro e w1 ⟨g, rfl, hg, hcur, hb1⟩
  go_wp2_with fail
  refine (below_any g 129 _ hcur (by omega) (by omega)).mono ?_
  rintro e w2 ⟨i, rfl, ⟨hi0, hi1⟩, hs1⟩
  have X := Lib.hid ((Ex.int (i - 64) 64 (by omega) (by omega)).quo w16.1 p16 (by omega) (by omega))
  have hx := fun w => rnd_eq X.out.f w
  go_wp2_with fail
  refine (below_any g 129 _ (hs1.drewN _).1 (by omega) (by omega)).mono ?_
  rintro e w3 ⟨j, rfl, ⟨hj0, hj1⟩, hs2⟩
  have Y := Lib.hid ((Ex.int (j - 64) 64 (by omega) (by omega)).quo w16.1 p16 (by omega) (by omega))
  have hy := fun w => rnd_eq Y.out.f w
  have HB : Hid (Below w.heap.size w w3) := hb1.trans ((below_of_step (B := w.heap.size) ((hs1.drewN _).trans hs2) (by omega) hb1.size))
  have Wx : Hid (wfk .f64 (fo .quo .f64 (floatOfInt .f64 (i - 64)) 4625196817309499392)) := fo_lt _ _ _ _
  have Wy : Hid (wfk .f64 (fo .quo .f64 (floatOfInt .f64 (j - 64)) 4625196817309499392)) := fo_lt _ _ _ _
  have Zx := X.out.isZero
  have Zy := Y.out.isZero
  clear hb1 hs1 hs2 hcur
  generalize fo .quo .f64 (floatOfInt .f64 (i - 64)) 4625196817309499392 = x at *
  generalize fo .quo .f64 (floatOfInt .f64 (j - 64)) 4625196817309499392 = y at *
  have ZX := Lib.hid Zx
  have ZY := Lib.hid Zy
  clear Zx Zy
  cases t : (feq .f64 x 0 && feq .f64 y 0)
  · have hne : ¬(i - 64 = 0 ∧ j - 64 = 0) := by
      rintro ⟨h1, h2⟩
      rw [ZX.out, ZY.out, h1, h2] at t; simp at t
    have HT := Lib.hid t
    go_wp2_with fail
    go_ret
    exact ⟨x, y, i - 64, j - 64, rfl, ⟨X.out, Y.out⟩, Wx.out, Wy.out, hne, below_drewN HB.out _⟩
  · rw [Bool.and_eq_true] at t
    obtain ⟨t1, t2⟩ := t
    go_wp2_with fail
    go_ret
    exact ⟨_, _, 16, 0, rfl, ⟨⟨one_fin.1, by rw [one_fin.2]; unfold pw; grind, by decide⟩, ⟨(zero_fin .f64).1, by rw [(zero_fin .f64).2]; simp, by decide⟩⟩, by rw [wfk_64]; decide, by rw [wfk_64]; decide, by omega, below_drewN HB.out _⟩
end Go.Proofs.Ytignncjmbcdpaaa
