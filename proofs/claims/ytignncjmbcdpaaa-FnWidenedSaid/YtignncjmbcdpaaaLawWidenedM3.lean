/-
Part 3 of 5 of the proof of the law FnWidened: it returns true for all codes. No condition.
-/
import Derived.Test.YtignncjmbcdpaaaLawWidenedM2
import Derived.Laws.BytesArg
import Derived.Laws.Concat
import Derived.ProofKit
import Derived.OpenShut
import Derived.Deep.Slices
import Derived.Deep.CutRange
import Derived.Deep.RegionHeld3
import Derived.Deep.AppendLies

/-
Exact arithmetic: numbers that are whole multiples of a power of two; complex whole numbers. (Plain arithmetic.)
-/
namespace Go.Proofs.Ytignncjmbcdpaaa
open Go Ieee

/-- The word's value is n / 2^e, |n| at most B. -/
structure Ex (x : Nat) (n : Int) (e B : Nat) : Prop where
  f : fin .f64 x
  v : fv .f64 x = (n : Rat) * pw (-(e : Int))
  b : n.natAbs ≤ B
theorem ex_top {n : Int} {e : Nat} (h : n.natAbs < 2 ^ 53) : ab ((n : Rat) * pw (-(e : Int))) ≤ top .f64 ∧ ab ((n : Rat) * pw (-(e : Int))) ≤ 2 ^ 53 := by
  have hp : pw (-(e : Int)) ≤ 1 := by rw [← pw_zero]; exact pw_mono (by omega)
  have h0 := Rat.le_of_lt (pw_pos (-(e : Int)))
  have hn : ab (n : Rat) ≤ 2 ^ 53 := by
    have e1 : ((2 ^ 53 : Int) : Rat) = 2 ^ 53 := by simp; grind
    have h1 : (n : Rat) ≤ ((2 ^ 53 : Int) : Rat) := Rat.intCast_le_intCast.2 (by omega)
    have h2 : ((-n : Int) : Rat) ≤ ((2 ^ 53 : Int) : Rat) := Rat.intCast_le_intCast.2 (by omega)
    rw [e1] at h1 h2
    rw [Rat.intCast_neg] at h2
    exact ab_le h1 h2
  have ht := top210
  have hx : ab ((n : Rat) * pw (-(e : Int))) ≤ 2 ^ 53 := by
    rw [ab_mul, ab_of_nonneg h0]
    have := Rat.mul_le_mul_of_nonneg_left hp (ab_nonneg (n : Rat))
    grind
  exact ⟨by grind, hx⟩
theorem ex_few {n : Int} {e : Nat} (h : n.natAbs < 2 ^ 53) (he : e ≤ 1000) : Few .f64 ((n : Rat) * pw (-(e : Int))) := by
  refine ⟨n, -(e : Int), rfl, ?_, ?_⟩
  · have : FloatKind.f64.format.binade = 4503599627370496 := by decide +kernel
    rw [this]; omega
  · have : FloatKind.f64.format.leastPlace = -1074 := by decide +kernel
    rw [this]; omega
theorem Ex.of {x : Nat} {v : Rat} {n : Int} {e B : Nat} (h : RoundOf .f64 v x) (hv : v = (n : Rat) * pw (-(e : Int))) (hb : n.natAbs ≤ B) (hB : B < 2 ^ 53) (he : e ≤ 1000) : Ex x n e B := by
  subst hv
  exact ⟨h.1, h.few (ex_few (by omega) he) (ex_top (by omega)).1, hb⟩
theorem Ex.mul {x y : Nat} {n m : Int} {e f B C : Nat} (hx : Ex x n e B) (hy : Ex y m f C) (hB : B * C < 2 ^ 53) (he : e + f ≤ 1000) : Ex (fo .mul .f64 x y) (n * m) (e + f) (B * C) := by
  have hb : (n * m).natAbs ≤ B * C := by rw [Int.natAbs_mul]; exact Nat.mul_le_mul hx.b hy.b
  have e1 : fv .f64 x * fv .f64 y = ((n * m : Int) : Rat) * pw (-((e + f : Nat) : Int)) := by
    rw [hx.v, hy.v, show -((e + f : Nat) : Int) = -(e : Int) + -(f : Int) by omega, pw_add, Rat.intCast_mul]; grind
  exact Ex.of (mul_spec hx.f hy.f (by rw [e1]; exact (ex_top (by omega)).1)) e1 hb hB he
theorem Ex.add {x y : Nat} {n m : Int} {e B C : Nat} (hx : Ex x n e B) (hy : Ex y m e C) (hB : B + C < 2 ^ 53) (he : e ≤ 1000) : Ex (fo .add .f64 x y) (n + m) e (B + C) := by
  have hb : (n + m).natAbs ≤ B + C := by have := hx.b; have := hy.b; omega
  have e1 : fv .f64 x + fv .f64 y = ((n + m : Int) : Rat) * pw (-(e : Int)) := by rw [hx.v, hy.v, Rat.intCast_add]; grind
  exact Ex.of (add_spec hx.f hy.f (by rw [e1]; exact (ex_top (by omega)).1)) e1 hb hB he
theorem Ex.sub {x y : Nat} {n m : Int} {e B C : Nat} (hx : Ex x n e B) (hy : Ex y m e C) (hB : B + C < 2 ^ 53) (he : e ≤ 1000) : Ex (fo .sub .f64 x y) (n - m) e (B + C) := by
  have hb : (n - m).natAbs ≤ B + C := by have := hx.b; have := hy.b; omega
  have e1 : fv .f64 x - fv .f64 y = ((n - m : Int) : Rat) * pw (-(e : Int)) := by rw [hx.v, hy.v, Rat.intCast_sub]; grind
  exact Ex.of (sub_spec hx.f hy.f (by rw [e1]; exact (ex_top (by omega)).1)) e1 hb hB he
theorem Ex.wid {x : Nat} {n : Int} {e B C : Nat} (hx : Ex x n e B) (h : B ≤ C) : Ex x n e C := ⟨hx.f, hx.v, Nat.le_trans hx.b h⟩

/-- Two words, a complex number. -/
structure CEx (x y : Nat) (n m : Int) (e B : Nat) : Prop where
  re : Ex x n e B
  im : Ex y m e B
theorem CEx.mul {x y u v : Nat} {n m k l : Int} {e f B C : Nat} (h : CEx x y n m e B) (g : CEx u v k l f C) (hB : 2 * (B * C) < 2 ^ 53) (he : e + f ≤ 1000) :
    CEx (mulRe x y u v) (mulIm x y u v) (n * k - m * l) (n * l + m * k) (e + f) (2 * (B * C)) := by
  unfold mulRe mulIm
  have h1 := h.re.mul g.re (by omega) he
  have h2 := h.im.mul g.im (by omega) he
  have h3 := h.re.mul g.im (by omega) he
  have h4 := h.im.mul g.re (by omega) he
  exact ⟨(h1.sub h2 (by omega) he).wid (by omega), (h3.add h4 (by omega) he).wid (by omega)⟩
theorem CEx.add {x y u v : Nat} {n m k l : Int} {e B C : Nat} (h : CEx x y n m e B) (g : CEx u v k l e C) (hB : B + C < 2 ^ 53) (he : e ≤ 1000) :
    CEx (fo .add .f64 x u) (fo .add .f64 y v) (n + k) (m + l) e (B + C) := ⟨h.re.add g.re hB he, h.im.add g.im hB he⟩
theorem CEx.sub {x y u v : Nat} {n m k l : Int} {e B C : Nat} (h : CEx x y n m e B) (g : CEx u v k l e C) (hB : B + C < 2 ^ 53) (he : e ≤ 1000) :
    CEx (fo .sub .f64 x u) (fo .sub .f64 y v) (n - k) (m - l) e (B + C) := ⟨h.re.sub g.re hB he, h.im.sub g.im hB he⟩

/-! Complex whole numbers. -/
/-- The recurrence, part by part, gives the quotients. -/
theorem pair_sum (s1 s2 t1 t2 x0 y0 x1 y1 x2 y2 x3 y3 : Int) (h2 : x2 = (s1 * x1 - s2 * y1) - (t1 * x0 - t2 * y0)) (g2 : y2 = (s1 * y1 + s2 * x1) - (t1 * y0 + t2 * x0))
    (h3 : x3 = (s1 * x2 - s2 * y2) - (t1 * x1 - t2 * y1)) (g3 : y3 = (s1 * y2 + s2 * x2) - (t1 * y1 + t2 * x1)) (d1 d2 : Int) (hd1 : d1 = (x1 * x1 - y1 * y1) - (x0 * x2 - y0 * y2)) (hd2 : d2 = (x1 * y1 + y1 * x1) - (x0 * y2 + y0 * x2)) :
    (x1 * x2 - y1 * y2) - (x0 * x3 - y0 * y3) = s1 * d1 - s2 * d2 ∧ (x1 * y2 + y1 * x2) - (x0 * y3 + y0 * x3) = s1 * d2 + s2 * d1 ∧
    (x2 * x2 - y2 * y2) - (x1 * x3 - y1 * y3) = t1 * d1 - t2 * d2 ∧ (x2 * y2 + y2 * x2) - (x1 * y3 + y1 * x3) = t1 * d2 + t2 * d1 := by
  subst h2 g2
  subst h3 g3
  subst hd1 hd2
  refine ⟨by grind, by grind, by grind, by grind⟩
theorem norm_mul (a b c d : Int) : (a * c - b * d) * (a * c - b * d) + (a * d + b * c) * (a * d + b * c) = (a * a + b * b) * (c * c + d * d) := by grind
theorem int_sq (a : Int) : 0 ≤ a * a := by
  rcases Int.le_total 0 a with h | h
  · exact Int.mul_nonneg h h
  · have := Int.mul_nonneg (show 0 ≤ -a by omega) (show 0 ≤ -a by omega)
    rwa [Int.neg_mul_neg] at this
theorem norm_pos {a b : Int} (h : ¬(a = 0 ∧ b = 0)) : 0 < a * a + b * b := by
  by_cases ha : a = 0
  · have hb : b ≠ 0 := fun hb => h ⟨ha, hb⟩
    subst ha
    have := int_sq b
    have h2 : b * b ≠ 0 := Int.mul_ne_zero hb hb
    omega
  · have h1 := int_sq a
    have h2 := int_sq b
    have h3 : a * a ≠ 0 := Int.mul_ne_zero ha ha
    omega
/-- The determinant of the two modes, not 0. -/
theorem pair_det (a1 a2 b1 b2 p1 p2 q1 q2 : Int) (ha : ¬(a1 = 0 ∧ a2 = 0)) (hb : ¬(b1 = 0 ∧ b2 = 0)) (hpq : ¬(p1 = q1 ∧ p2 = q2)) (u1 u2 v1 v2 x1 y1 x2 y2 : Int)
    (hu1 : u1 = a1 * p1 - a2 * p2) (hu2 : u2 = a1 * p2 + a2 * p1) (hv1 : v1 = b1 * q1 - b2 * q2) (hv2 : v2 = b1 * q2 + b2 * q1)
    (hx1 : x1 = u1 + v1) (hy1 : y1 = u2 + v2) (hx2 : x2 = (u1 * p1 - u2 * p2) + (v1 * q1 - v2 * q2)) (hy2 : y2 = (u1 * p2 + u2 * p1) + (v1 * q2 + v2 * q1)) :
    ¬((x1 * x1 - y1 * y1) - ((a1 + b1) * x2 - (a2 + b2) * y2) = 0 ∧ (x1 * y1 + y1 * x1) - ((a1 + b1) * y2 + (a2 + b2) * x2) = 0) := by
  rintro ⟨h1, h2⟩
  have hr : ¬(p1 - q1 = 0 ∧ p2 - q2 = 0) := fun h => hpq ⟨by omega, by omega⟩
  have n1 := norm_pos ha
  have n2 := norm_pos hb
  have n3 := norm_pos hr
  -- the product of the starts, and of the differences
  have e1 : (a1 * b1 - a2 * b2) * ((p1 - q1) * (p1 - q1) - (p2 - q2) * (p2 - q2)) - (a1 * b2 + a2 * b1) * ((p1 - q1) * (p2 - q2) + (p2 - q2) * (p1 - q1)) = 0 := by
    subst hx1 hy1 hx2 hy2 hu1 hu2 hv1 hv2
    grind
  have e2 : (a1 * b1 - a2 * b2) * ((p1 - q1) * (p2 - q2) + (p2 - q2) * (p1 - q1)) + (a1 * b2 + a2 * b1) * ((p1 - q1) * (p1 - q1) - (p2 - q2) * (p2 - q2)) = 0 := by
    subst hx1 hy1 hx2 hy2 hu1 hu2 hv1 hv2
    grind
  have m1 := norm_mul a1 a2 b1 b2
  have m2 := norm_mul (p1 - q1) (p2 - q2) (p1 - q1) (p2 - q2)
  have m3 := norm_mul (a1 * b1 - a2 * b2) (a1 * b2 + a2 * b1) ((p1 - q1) * (p1 - q1) - (p2 - q2) * (p2 - q2)) ((p1 - q1) * (p2 - q2) + (p2 - q2) * (p1 - q1))
  rw [e1, e2, m1, m2] at m3
  have k1 := Int.mul_pos n1 n2
  have k2 := Int.mul_pos n3 n3
  have k3 := Int.mul_pos k1 k2
  omega
end Go.Proofs.Ytignncjmbcdpaaa

/-
The limiter on finite samples. (Plain arithmetic.)
-/
namespace Go.Proofs.Ytignncjmbcdpaaa
open Go Ieee

theorem mul_le_self {E r : Rat} (hE : 0 ≤ E) (hr : r ≤ 1) : E * r ≤ E := by
  have := Rat.mul_le_mul_of_nonneg_left hr hE
  grind

theorem limE_spec {E x r : Nat} {X : Rat} (hE : fin .f32 E) (hE0 : 0 ≤ fv .f32 E) (hEX : fv .f32 E ≤ X) (hx : fin .f32 x) (hxX : ab (fv .f32 x) ≤ X) (hX : X ≤ 2 ^ 61)
    (hr : fin .f32 r) (hr0 : 0 ≤ fv .f32 r) (hr1 : fv .f32 r ≤ 1) :
    fin .f32 (limE E x r) ∧ ab (fv .f32 x) ≤ fv .f32 (limE E x r) ∧ fv .f32 (limE E x r) ≤ X ∧ (∀ C : Rat, ab (fv .f32 x) ≤ C → fv .f32 E ≤ C → fv .f32 (limE E x r) ≤ C) := by
  obtain ⟨cu, ce, ct⟩ := consts32
  obtain ⟨a1, a2⟩ := abs32_fin hx
  have hpos : 0 ≤ fv .f32 E * fv .f32 r := Rat.mul_nonneg hE0 hr0
  have hle := mul_le_self hE0 hr1
  obtain ⟨p1, p2, p3⟩ := mul_spec hE hr (by rw [ab_of_nonneg hpos, ct]; grind)
  have p4 := (p3 E hE).2 hle
  unfold limE
  rw [nrm_fin a1]
  cases t : fgt .f32 (x % 2147483648) (fo .mul .f32 E r)
  · rw [if_neg (by simp)]
    have hle2 : ab (fv .f32 x) ≤ fv .f32 (fo .mul .f32 E r) := by
      rcases rat_lt_or_le (fv .f32 (fo .mul .f32 E r)) (ab (fv .f32 x)) with h | h
      · have := (fgt_iff a1 p1).2 (by rw [a2]; exact h)
        rw [t] at this; cases this
      · exact h
    exact ⟨p1, hle2, by grind, fun C _ h2 => by grind⟩
  · rw [if_pos rfl, a2]
    exact ⟨a1, Rat.le_refl, hxX, fun C h1 _ => h1⟩

theorem limS_spec {E x c r : Nat} {X : Rat} (hE : fin .f32 E) (hE0 : 0 ≤ fv .f32 E) (hEX : fv .f32 E ≤ X) (hx : fin .f32 x) (hxX : ab (fv .f32 x) ≤ X) (hX : X ≤ 2 ^ 61)
    (hr : fin .f32 r) (hr0 : 0 ≤ fv .f32 r) (hr1 : fv .f32 r ≤ 1) (hc : fin .f32 c) (hc0 : 1 / 2 ^ 41 ≤ fv .f32 c) (hc1 : fv .f32 c ≤ 2 ^ 41) :
    fin .f32 (limS E x c r) ∧ ab (fv .f32 (limS E x c r)) ≤ fv .f32 c + fv .f32 c / 4194304 ∧ (ab (fv .f32 x) ≤ fv .f32 c → fv .f32 E ≤ fv .f32 c → limS E x c r = x) := by
  obtain ⟨cu, ce, ct⟩ := consts32
  obtain ⟨g1, g2, g3, g4⟩ := limE_spec hE hE0 hEX hx hxX hX hr hr0 hr1
  unfold limS
  cases t : fgt .f32 (limE E x r) c
  · rw [if_neg (by simp), nrm_fin hx]
    have hle : fv .f32 (limE E x r) ≤ fv .f32 c := by
      rcases rat_lt_or_le (fv .f32 c) (fv .f32 (limE E x r)) with h | h
      · have := (fgt_iff g1 hc).2 h
        rw [t] at this; cases this
      · exact h
    exact ⟨hx, by grind, fun _ _ => rfl⟩
  · rw [if_pos rfl]
    have hlt := (fgt_iff g1 hc).1 t
    obtain ⟨G, hG⟩ : ∃ G, fv .f32 (limE E x r) = G := ⟨_, rfl⟩
    obtain ⟨Cc, hCc⟩ : ∃ C, fv .f32 c = C := ⟨_, rfl⟩
    rw [hG] at g2 g3 hlt
    rw [hCc] at hlt hc0 hc1
    have hX0 : 0 ≤ X := Rat.le_trans (ab_nonneg _) hxX
    have hxc : ab (fv .f32 x * Cc) ≤ G * Cc := by
      rw [ab_mul, ab_of_nonneg (x := Cc) (by grind)]
      exact Rat.mul_le_mul_of_nonneg_right g2 (by grind)
    have hGC : G * Cc ≤ 2 ^ 102 := by
      have h1 := Rat.mul_le_mul_of_nonneg_right (Rat.le_trans g3 hX) (show 0 ≤ Cc by grind)
      have h2 := Rat.mul_le_mul_of_nonneg_left hc1 (show (0 : Rat) ≤ 2 ^ 61 by decide)
      grind
    have hm := mul_spec hx hc (by rw [hCc, ct]; grind)
    rw [hCc] at hm
    obtain ⟨m1, m2, _⟩ := hm
    have m3 := ab_tri (fv .f32 (fo .mul .f32 x c)) (fv .f32 x * Cc)
    obtain ⟨P, hP⟩ : ∃ P, fv .f32 (fo .mul .f32 x c) = P := ⟨_, rfl⟩
    rw [hP] at m2 m3
    rw [cu] at m2
    have hGpos : 0 < G := by grind
    -- |P| <= G Cc (1 + u) + eta
    have hPle : ab P ≤ G * Cc + G * Cc / 16777216 + 1 / 2 ^ 149 := by grind
    have hPG : ab (P / G) ≤ Cc + Cc / 16777216 + 1 / 2 ^ 100 := by
      rw [ab_div_pos P hGpos]
      rcases rat_lt_or_le (Cc + Cc / 16777216 + 1 / 2 ^ 100) (ab P / G) with h | h
      · exfalso
        have h2 := (Rat.lt_div_iff hGpos).1 h
        have h3 : 1 / 2 ^ 41 * (1 / 2 ^ 100) ≤ G * (1 / 2 ^ 100) := Rat.mul_le_mul_of_nonneg_right (by grind) (by grind)
        have h4 : (Cc + Cc / 16777216 + 1 / 2 ^ 100) * G = G * Cc + G * Cc / 16777216 + G * (1 / 2 ^ 100) := by grind
        have h5 : (1 : Rat) / 2 ^ 149 < 1 / 2 ^ 41 * (1 / 2 ^ 100) := by grind
        grind
      · exact h
    have hd := div_spec m1 g1 (by rw [hG]; grind) (by rw [hG, hP, ct]; grind)
    rw [hP, hG] at hd
    obtain ⟨d1, d2, _⟩ := hd
    have d3 := ab_tri (fv .f32 (fo .quo .f32 (fo .mul .f32 x c) (limE E x r))) (P / G)
    rw [cu] at d2
    refine ⟨d1, ?_, fun h1 h2 => ?_⟩
    · rw [hCc]; grind
    · exfalso
      have := g4 Cc (by rw [← hCc]; exact h1) (by rw [← hCc]; exact h2)
      rw [hG] at this; grind

/-- The envelope behind the first 'k' samples. -/
def envAt (xs : List Nat) (r : Nat) : Nat → Nat
  | 0 => 0
  | k + 1 => limE (envAt xs r k) (xs.getD k 0) r
end Go.Proofs.Ytignncjmbcdpaaa

/-
impl.isLimit, impl.LimitSamples: on finite samples.
-/
namespace Go.Proofs.Ytignncjmbcdpaaa
open Go Go.RowKit Ieee

theorem cR_wid_fin {c : Nat} (h : fin .f32 c) (w : World) : cR .f32 c .f64 w = wid c := nrm_fin_eq (nrm_wid c w) (wid_fin h).1

set_option maxHeartbeats 400000 in
theorem unit_any (b : Nat) (w : World) (h1 : fge .f32 b 0 = true) (h2 : fle .f32 b 1065353216 = true) : Calls Try.prog 123 #[.float .f32 b] w fun e w' => e = .returned (.bool true) ∧ w = w' := by
  go_enter Try.func123, Try.ntmps123
  go_wp2
  go_ret
  exact ⟨rfl, rfl⟩

set_option maxHeartbeats 400000 in
theorem isLimit_true (c r : Nat) (w : World) (hc : fin .f32 c) (hcw : wfk .f32 c) (hc0 : fgt .f32 c 0 = true) (hr : fin .f32 r) (hrw : wfk .f32 r) (h1 : fge .f32 r 0 = true) (h2 : fle .f32 r 1065353216 = true) (hs : signB (wid r) = false) :
    Calls Try.prog 73 #[.float .f32 c, .float .f32 r] w fun e w' => ∃ n, e = .returned (.bool true) ∧ w.drewN n = w' := by
  have Hc := Lib.hid (cR_wid_fin hc)
  have Hr := Lib.hid (cR_wid_fin hr)
  have Hcw := Lib.hid (fun w => cR_lt (s := .f32) (k := .f64) hcw w)
  have Hrw := Lib.hid (fun w => cR_lt (s := .f32) (k := .f64) hrw w)
  have Hf : finB (wid c) = true := (finB_iff _).2 (wid_fin hc).1
  go_enter Try.func73, Try.ntmps73
  go_wp2_with fail
  refine (finite_any _ _ (Hcw.out _)).mono ?_
  rintro e w' ⟨rfl, rfl⟩
  rw [Hc.out, Hf]
  go_wp2_with fail
  refine (unit_any r _ h1 h2).mono ?_
  rintro e w' ⟨rfl, rfl⟩
  go_wp2_with fail
  refine (signbit_any _ _ (Hrw.out _)).mono ?_
  rintro e w' ⟨rfl, rfl⟩
  rw [Hr.out, hs]
  go_wp2_with fail
  go_ret
  exact ⟨_, rfl, rfl⟩

/-- The samples limited. -/
def limited (xs : List Nat) (c r : Nat) (ys : List Nat) (k : Nat) : Prop :=
  ys.length = k ∧ ∀ i, i < k → nrm .f32 (ys.getD i 0) = limS (envAt xs r i) (xs.getD i 0) c r ∧ wfk .f32 (ys.getD i 0)

theorem limited_snoc {xs ys : List Nat} {c r k s : Nat} (h : limited xs c r ys k) (hs : nrm .f32 s = limS (envAt xs r k) (xs.getD k 0) c r) (hw : wfk .f32 s) : limited xs c r (ys ++ [s]) (k + 1) := by
  obtain ⟨hl, h⟩ := h
  refine ⟨by simp [hl], fun i hi => ?_⟩
  rcases Nat.lt_or_ge i k with h1 | h1
  · have e : (ys ++ [s]).getD i 0 = ys.getD i 0 := by
      simp only [List.getD]; rw [List.getElem?_append_left (by omega)]
    rw [e]; exact h i h1
  · obtain rfl : i = k := by omega
    have e : (ys ++ [s]).getD i 0 = s := by
      simp only [List.getD]; rw [List.getElem?_append_right (by omega), hl]; simp
    rw [e]; exact ⟨hs, hw⟩

set_option maxRecDepth 100000 in
set_option maxHeartbeats 600000 in
theorem limitSamples_any (A : Option Addr) (cp c r : Nat) (xs : List Nat) (w : World) (hc : fin .f32 c) (hcw : wfk .f32 c) (hc0 : fgt .f32 c 0 = true) (hr : fin .f32 r) (hrw : wfk .f32 r) (h1 : fge .f32 r 0 = true) (h2 : fle .f32 r 1065353216 = true)
    (hs : signB (wid r) = false) (hrd : Rd w A (f32s xs)) (hm : xs.length ≤ 1000000) (hwf : ∀ i, i < xs.length → wfk .f32 (xs.getD i 0)) (hen : ∀ i, i ≤ xs.length → fin .f32 (envAt xs r i)) :
    Calls Try.prog 17 #[.slice A xs.length cp, .float .f32 c, .float .f32 r] w fun e w' => ∃ (A' : Option Addr) (c' : Nat) (ys : List Nat), e = .returned (.tuple #[.slice A' ys.length c', .bool true]) ∧ Rd w' A' (f32s ys) ∧
      limited xs c r ys xs.length ∧ Below w.heap.size w w' := by
  go_enter Try.func17, Try.ntmps17
  go_wp2_with fail
  refine (isLimit_true c r _ hc hcw hc0 hr hrw h1 h2 hs).mono ?_
  rintro e w' ⟨n, rfl, rfl⟩
  go_wp2_with fail
  have hb0 : Below w.heap.size w ((w.drewN n).alloc (.cells #[] 25)) := (below_drewN (Below.refl _ _) n).alloc (Nat.le_refl _) _
  have hown0 := owns_empty (w.drewN n) 25
  have HE := Lib.hid hen
  have HW := Lib.hid hwf
  have H0 : Hid (limited xs c r [] 0) := ⟨rfl, fun i h => absurd h (Nat.not_lt_zero _)⟩
  clear hen hwf
  go_loopw [8, 9, 20] (fun v ev i wr => ∃ (k : Nat) (ys : List Nat), i = .int .i64 k ∧ k ≤ xs.length ∧ ev = .float .f32 (envAt xs r k) ∧ Hid (limited xs c r ys k) ∧ wr.ownsRow w.heap.size 25 1 v k (f32s ys) ∧ Below w.heap.size w wr) (fun _ _ i _ => xs.length - (intOf i).toNat)
  case atStart => exact ⟨0, [], rfl, by omega, rfl, H0, hown0, hb0⟩
  case round =>
    clear hb0 hown0 H0
    obtain ⟨k, ys, rfl, hk, rfl, Hl, hown, hb⟩ := hrel
    by_cases hlt : k < xs.length
    · have hrd' := hrd.below hb
      obtain ⟨b, off, rfl, hbk, hcell⟩ := hrd' (by simp; omega)
      have e1 := hcell k _ (f32s_at hlt)
      have hxk := HW.out k hlt
      have HE1 := Lib.hid (HE.out (k + 1) hlt)
      obtain ⟨x, hx⟩ : ∃ x, xs.getD k 0 = x := ⟨_, rfl⟩
      obtain ⟨E, hE⟩ : ∃ E, envAt xs r k = E := ⟨_, rfl⟩
      have Hst : Hid (envAt xs r (k + 1) = limE E x r) := by show envAt xs r (k + 1) = _; rw [← hE, ← hx]; rfl
      rw [hx] at e1 hxk
      rw [hE]
      have Hx := Lib.hid hx
      have HEE := Lib.hid hE
      have Hxk := Lib.hid hxk
      clear hcell hrd hrd' hx hE hxk
      go_wp2_with fail
      refine (impl_limitNext E x c r _ Hxk.out).mono ?_
      rintro e w' ⟨s, g, m, rfl, hs1, hg1, hs2, hg2, rfl⟩
      have hb2 := below_drewN hb m
      have hown2 : (wr.drewN m).ownsRow w.heap.size 25 1 u8 k (f32s ys) := hown
      have Hs1 := Lib.hid hs1
      have Hg1 := Lib.hid hg1
      clear hb hown hs1 hg1 e1 hbk
      generalize wr.drewN m = W2 at *
      have hsz := hb2.size
      have hE2 : g = envAt xs r (k + 1) := nrm_fin_eq (by rw [Hst.out]; exact Hg1.out) HE1.out
      rw [hE2]
      have hL2 : Hid (limited xs c r (ys ++ [s]) (k + 1)) := limited_snoc Hl.out (by rw [HEE.out, Hx.out]; exact Hs1.out) hs2
      clear hE2
      go_wp2_with (at_builtin; refine wpList_app1 rfl (.tmp 32) (.tmp 34) 23 rfl w.heap.size 25 (.float .f32 0) 4 Try.underlying23 f32_info rfl u8 k (f32s ys) _ rfl rfl rfl hown2 hsz (by omega) (by omega) ?_; intro v' w' hown' hbel')
      have hb3 := hb2.trans hbel'
      have hown3 : w'.ownsRow w.heap.size 25 1 v' (k + 1) (f32s (ys ++ [s])) := by simpa [f32s] using hown'
      clear hbel' hown' hb2 hown2 hsz
      go_roundw
      case rel => exact ⟨k + 1, ys ++ [s], by go_num, by omega, rfl, hL2, hown3, hb3⟩
      case measure => simp [intOf]; omega
    · obtain rfl : k = xs.length := by omega
      go_wp2
      go_ret2
      obtain ⟨A', cap, hv, hl, hrd2⟩ := own_rd hown
      subst hv
      have := Hl.out.1
      exact ⟨A', cap, ys, by rw [this]; rfl, hrd2, Hl.out, hb⟩
end Go.Proofs.Ytignncjmbcdpaaa

/-
A floating-point number as an integer: int(x), cut towards zero. (Plain arithmetic.)
-/
namespace Go.Proofs.Ytignncjmbcdpaaa
open Go Go.RowKit Ieee

theorem cut_zero (s : Bool) (n d : Nat) : Toward.zero.cut s n d = n / 2 ^ d := by
  unfold Toward.cut
  simp only [Bool.toNat_false, Nat.add_zero, Nat.shiftLeft_eq, Nat.one_mul]
  rcases Nat.le_total d (n.log2 + 2) with h | h
  · rw [Nat.min_eq_left h]
  · rw [Nat.min_eq_right h]
    have h1 : n < 2 ^ (n.log2 + 1) := Nat.lt_log2_self
    have h2 : 2 ^ (n.log2 + 1) ≤ 2 ^ (n.log2 + 2) := Nat.pow_le_pow_right (by decide) (by omega)
    have h3 : 2 ^ (n.log2 + 2) ≤ 2 ^ d := Nat.pow_le_pow_right (by decide) h
    rw [Nat.div_eq_of_lt (by omega), Nat.div_eq_of_lt (by omega)]
theorem floor_val (m d : Nat) : ((m / 2 ^ d : Nat) : Rat) ≤ mval m (-(d : Int)) ∧ mval m (-(d : Int)) < ((m / 2 ^ d : Nat) : Rat) + 1 := by
  have e : ∀ q : Nat, mval (q * 2 ^ d) (-(d : Int)) = (q : Rat) := fun q => by
    rw [mval_scale', show -(d : Int) + d = 0 by omega]; unfold mval; rw [pw_zero]; simp
  have hp : 0 < 2 ^ d := Nat.two_pow_pos d
  have h := Nat.div_add_mod m (2 ^ d)
  have hr := Nat.mod_lt m hp
  constructor
  · rw [← e (m / 2 ^ d)]
    exact mval_le (Nat.div_mul_le_self m (2 ^ d))
  · have := e (m / 2 ^ d + 1)
    rw [show ((m / 2 ^ d : Nat) : Rat) + 1 = ((m / 2 ^ d + 1 : Nat) : Rat) by simp, ← this]
    refine mval_lt ?_
    rw [Nat.add_mul, Nat.mul_comm (m / 2 ^ d)]
    omega
theorem to_int {x : Nat} (hx : fin .f64 x) (h0 : 0 ≤ fv .f64 x) (h1 : fv .f64 x < 2 ^ 53) : ∃ n : Nat, floatToIntVal .f64 x .i64 = some (n : Int) ∧ (n : Rat) ≤ fv .f64 x ∧ fv .f64 x < (n : Rat) + 1 ∧ n < 2 ^ 53 := by
  obtain ⟨s, m, i, hr⟩ := hx
  have hv : fv .f64 x = if s = true then -mval m i else mval m i := by unfold fv; rw [hr, dval_num]
  have hd : FloatKind.f64.decode x = .number s m i := hr
  have hm0 := mval_nonneg m i
  have key : mval m i = mval (m * 2 ^ i.toNat) (-(((-i).toNat : Nat) : Int)) := by
    rw [mval_scale']; congr 1; omega
  obtain ⟨f1, f2⟩ := floor_val (m * 2 ^ i.toNat) (-i).toNat
  rw [← key] at f1 f2
  have hi : (FloatKind.f64.decode x).toInt .zero = some (signed s (m * 2 ^ i.toNat / 2 ^ (-i).toNat) 0) := by
    rw [hd]; unfold Datum.toInt Datum.integral
    simp only [cut_zero, Nat.shiftLeft_eq]
  have hs : signed s (m * 2 ^ i.toNat / 2 ^ (-i).toNat) 0 = ((m * 2 ^ i.toNat / 2 ^ (-i).toNat : Nat) : Int) ∧ fv .f64 x = mval m i := by
    cases s
    · refine ⟨?_, by rw [hv]; simp⟩
      simp [signed]
    · simp only [if_true] at hv
      have hz : mval m i = 0 := by rw [hv] at h0; grind
      have := mval_eq_zero hz
      subst this
      refine ⟨?_, by rw [hv, hz]; simp⟩
      simp [signed]
  generalize m * 2 ^ i.toNat / 2 ^ (-i).toNat = q at *
  rw [hs.2]
  have hq : q < 2 ^ 53 := by
    rw [hs.2] at h1
    have h2 : (q : Rat) < ((2 ^ 53 : Nat) : Rat) := by
      have : ((2 ^ 53 : Nat) : Rat) = 2 ^ 53 := by simp; grind
      rw [this]; grind
    exact Rat.natCast_lt_natCast.1 h2
  refine ⟨q, ?_, f1, f2, hq⟩
  unfold floatToIntVal
  rw [hi, hs.1]
  have e1 : IntKind.i64.min = -9223372036854775808 := by decide
  have e2 : IntKind.i64.max = 9223372036854775807 := by decide
  simp only [e1, e2]
  rw [if_pos (by omega)]
end Go.Proofs.Ytignncjmbcdpaaa

/-
LimitSamples of both packages, on all samples; impl.isLimit.
-/
namespace Go.Proofs.Ytignncjmbcdpaaa
open Go Go.RowKit Ieee

/-- May a limiter have this ceiling and this release? -/
def limOk (c r : Nat) : Bool := finB (wid c) && fgt .f32 c 0 && fge .f32 r 0 && fle .f32 r 1065353216 && !signB (wid r)
theorem finB_nrm {a b : Nat} (h : nrm .f64 a = nrm .f64 b) : finB a = finB b := by
  cases ha : finB a
  · cases hb : finB b
    · rfl
    · have fb := (finB_iff b).1 hb
      have : a = b := nrm_fin_eq (h.trans (nrm_fin fb)) fb
      rw [this, hb] at ha; cases ha
  · have fa := (finB_iff a).1 ha
    have : b = a := nrm_fin_eq (h.symm.trans (nrm_fin fa)) fa
    rw [this, ha]
theorem fin_range {r : Nat} (h1 : fge .f32 r 0 = true) (h2 : fle .f32 r 1065353216 = true) : fin .f32 r := by
  have ho : FloatKind.f32.format.read 1065353216 = .number false 8388608 (-23) := by decide +kernel
  cases hr : FloatKind.f32.format.read r with
  | number s m e => exact ⟨s, m, e, hr⟩
  | nan s t =>
    exfalso
    unfold fge at h1
    rw [order_nan_l (by unfold isN; rw [hr]; rfl)] at h1; cases h1
  | infinity s =>
    exfalso
    cases s
    · unfold fle Format.order at h2
      rw [hr, ho] at h2; cases h2
    · unfold fge at h1
      rw [order_zero_inf hr] at h1; cases h1
theorem fin_sub (b : Nat) : feq .f64 (fo .sub .f64 b b) 0 = finB b := by
  cases h : finB b
  · cases h2 : feq .f64 (fo .sub .f64 b b) 0
    · rfl
    · rw [(finB_iff b).2 (fin_of_sub h2)] at h; cases h
  · have hx := (finB_iff b).1 h
    obtain ⟨z1, z2⟩ := zero_fin .f64
    have e : fv .f64 b - fv .f64 b = 0 := by grind
    have hs := sub_spec hx hx (by rw [e, ab_of_nonneg Rat.le_refl]; exact Rat.le_of_lt (pw_pos _))
    rw [e] at hs
    exact (feq_iff hs.1 z1).2 (by rw [hs.exact z1 z2, z2])

set_option maxHeartbeats 400000 in
theorem unit_gen (b : Nat) (w : World) : Calls Try.prog 123 #[.float .f32 b] w fun e w' => e = .returned (.bool (fge .f32 b 0 && fle .f32 b 1065353216)) ∧ w = w' := by
  cases h : fge .f32 b 0
  · go_enter Try.func123, Try.ntmps123
    go_wp2
    go_ret
    exact ⟨rfl, rfl⟩
  · go_enter Try.func123, Try.ntmps123
    go_wp2
    go_ret
    exact ⟨rfl, rfl⟩

set_option maxHeartbeats 400000 in
theorem isLimit_any (c r : Nat) (w : World) (hcw : wfk .f32 c) (hrw : wfk .f32 r) :
    Calls Try.prog 73 #[.float .f32 c, .float .f32 r] w fun e w' => ∃ n, e = .returned (.bool (limOk c r)) ∧ w.drewN n = w' := by
  have Hcw := Lib.hid (fun w => cR_lt (s := .f32) (k := .f64) hcw w)
  have Hrw := Lib.hid (fun w => cR_lt (s := .f32) (k := .f64) hrw w)
  have Hf := Lib.hid (fun w => (finB_nrm (by rw [nrm_wid, nrm_cv (by decide)]) : finB (cR .f32 c .f64 w) = finB (wid c)))
  have HL : Hid (limOk c r = (finB (wid c) && fgt .f32 c 0 && fge .f32 r 0 && fle .f32 r 1065353216 && !signB (wid r))) := rfl
  cases h1 : finB (wid c)
  · rw [h1] at HL
    go_enter Try.func73, Try.ntmps73
    go_wp2_with fail
    refine (finite_any _ _ (Hcw.out _)).mono ?_
    rintro e w' ⟨rfl, rfl⟩
    rw [Hf.out, h1]
    go_wp2_with fail
    go_ret
    exact ⟨_, by rw [HL.out]; rfl, rfl⟩
  cases h2 : fgt .f32 c 0
  · rw [h1, h2] at HL
    go_enter Try.func73, Try.ntmps73
    go_wp2_with fail
    refine (finite_any _ _ (Hcw.out _)).mono ?_
    rintro e w' ⟨rfl, rfl⟩
    rw [Hf.out, h1]
    go_wp2_with fail
    go_ret
    exact ⟨_, by rw [HL.out]; rfl, rfl⟩
  cases h3 : (fge .f32 r 0 && fle .f32 r 1065353216)
  · have e3 : limOk c r = false := by rw [HL.out, h1, h2, Bool.true_and, Bool.true_and, h3]; rfl
    have E3 := Lib.hid e3
    clear HL e3
    go_enter Try.func73, Try.ntmps73
    go_wp2_with fail
    refine (finite_any _ _ (Hcw.out _)).mono ?_
    rintro e w' ⟨rfl, rfl⟩
    rw [Hf.out, h1]
    go_wp2_with fail
    refine (unit_gen r _).mono ?_
    rintro e w' ⟨rfl, rfl⟩
    rw [h3]
    go_wp2_with fail
    go_ret
    exact ⟨_, by rw [E3.out]; rfl, rfl⟩
  · have e3 : limOk c r = !signB (wid r) := by rw [HL.out, h1, h2, Bool.true_and, Bool.true_and, h3]; rfl
    have E3 := Lib.hid e3
    rw [Bool.and_eq_true] at h3
    have Hr := Lib.hid (cR_wid_fin (fin_range h3.1 h3.2))
    have H3 := Lib.hid h3
    clear HL e3 h3
    go_enter Try.func73, Try.ntmps73
    go_wp2_with fail
    refine (finite_any _ _ (Hcw.out _)).mono ?_
    rintro e w' ⟨rfl, rfl⟩
    rw [Hf.out, h1]
    go_wp2_with fail
    refine (unit_gen r _).mono ?_
    rintro e w' ⟨rfl, rfl⟩
    rw [H3.out.1, H3.out.2]
    go_wp2_with fail
    refine (signbit_any _ _ (Hrw.out _)).mono ?_
    rintro e w' ⟨rfl, rfl⟩
    rw [Hr.out]
    go_wp2_with fail
    go_ret
    exact ⟨_, by rw [E3.out]; rfl, rfl⟩

theorem limE_congr {E E' x r : Nat} (h : nrm .f32 E = nrm .f32 E') : limE E x r = limE E' x r := by
  unfold limE; rw [show fo .mul .f32 E r = fo .mul .f32 E' r from fo_congr h rfl]
theorem limS_congr {E E' x c r : Nat} (h : nrm .f32 E = nrm .f32 E') : limS E x c r = limS E' x c r := by
  unfold limS; rw [limE_congr h]
theorem env_next {xs : List Nat} {r k E x g : Nat} (hE : nrm .f32 E = nrm .f32 (envAt xs r k)) (hx : xs.getD k 0 = x) (hg : nrm .f32 g = limE E x r) : nrm .f32 g = nrm .f32 (envAt xs r (k + 1)) := by
  show _ = nrm .f32 (limE (envAt xs r k) (xs.getD k 0) r)
  rw [nrm_limE, hx, hg, limE_congr hE]

/-- What LimitSamples returns. -/
def LimitPost (c r : Nat) (xs : List Nat) (w : World) (e : Ending) (w' : World) : Prop :=
  ∃ (A' : Option Addr) (c' : Nat) (ys : List Nat), e = .returned (.tuple #[.slice A' ys.length c', .bool (limOk c r)]) ∧ w'.ownsRow w.heap.size 25 1 (.slice A' ys.length c') ys.length (f32s ys) ∧
    (if limOk c r = true then limited xs c r ys xs.length else ys = []) ∧ Below w.heap.size w w'

set_option maxRecDepth 100000 in
set_option maxHeartbeats 600000 in
theorem implLimit_any (A : Option Addr) (cp c r : Nat) (xs : List Nat) (w : World) (hcw : wfk .f32 c) (hrw : wfk .f32 r) (hrd : Rd w A (f32s xs)) (hm : xs.length ≤ 1048576) (hwf : ∀ i, i < xs.length → wfk .f32 (xs.getD i 0)) :
    Calls Try.prog 17 #[.slice A xs.length cp, .float .f32 c, .float .f32 r] w (LimitPost c r xs w) := by
  cases hok : limOk c r
  · have HOK := Lib.hid hok
    clear hok
    go_enter Try.func17, Try.ntmps17
    go_wp2_with fail
    refine (isLimit_any c r _ hcw hrw).mono ?_
    rintro e w' ⟨n, rfl, rfl⟩
    rw [HOK.out]
    go_wp2_with fail
    go_ret2
    unfold LimitPost
    exact ⟨none, 0, [], by rw [HOK.out]; rfl, ⟨rfl, .inl ⟨rfl, rfl⟩⟩, by rw [HOK.out]; rfl, below_drewN (Below.refl _ _) _⟩
  have HOK := Lib.hid hok
  clear hok
  go_enter Try.func17, Try.ntmps17
  go_wp2_with fail
  refine (isLimit_any c r _ hcw hrw).mono ?_
  rintro e w' ⟨n, rfl, rfl⟩
  rw [HOK.out]
  go_wp2_with fail
  have hb0 : Below w.heap.size w ((w.drewN n).alloc (.cells #[] 25)) := (below_drewN (Below.refl _ _) n).alloc (Nat.le_refl _) _
  have hown0 := owns_empty (w.drewN n) 25
  have HW := Lib.hid hwf
  have H0 : Hid (limited xs c r [] 0) := ⟨rfl, fun i h => absurd h (Nat.not_lt_zero _)⟩
  clear hwf
  go_loopw [8, 9, 20] (fun v ev i wr => ∃ (k E : Nat) (ys : List Nat), i = .int .i64 k ∧ k ≤ xs.length ∧ ev = .float .f32 E ∧ Hid (nrm .f32 E = nrm .f32 (envAt xs r k)) ∧ Hid (limited xs c r ys k) ∧ wr.ownsRow w.heap.size 25 1 v k (f32s ys) ∧ Below w.heap.size w wr) (fun _ _ i _ => xs.length - (intOf i).toNat)
  case atStart => exact ⟨0, 0, [], rfl, by omega, rfl, rfl, H0, hown0, hb0⟩
  case round =>
    clear hb0 hown0 H0
    obtain ⟨k, E, ys, rfl, hk, rfl, HE, Hl, hown, hb⟩ := hrel
    by_cases hlt : k < xs.length
    · have hrd' := hrd.below hb
      obtain ⟨b, off, rfl, hbk, hcell⟩ := hrd' (by simp; omega)
      have e1 := hcell k _ (f32s_at hlt)
      have hxk := HW.out k hlt
      obtain ⟨x, hx⟩ : ∃ x, xs.getD k 0 = x := ⟨_, rfl⟩
      rw [hx] at e1 hxk
      have Hx := Lib.hid hx
      have Hxk := Lib.hid hxk
      clear hcell hrd hrd' hx hxk
      go_wp2_with fail
      refine (impl_limitNext E x c r _ Hxk.out).mono ?_
      rintro e w' ⟨s, g, m, rfl, hs1, hg1, hs2, hg2, rfl⟩
      have hb2 := below_drewN hb m
      have hown2 : (wr.drewN m).ownsRow w.heap.size 25 1 u8 k (f32s ys) := hown
      have Hs1 := Lib.hid hs1
      have HE2 := Lib.hid (env_next HE.out Hx.out hg1)
      clear hb hown hs1 hg1 e1 hbk
      generalize wr.drewN m = W2 at *
      have hsz := hb2.size
      have hL2 : Hid (limited xs c r (ys ++ [s]) (k + 1)) := limited_snoc Hl.out (by rw [Hs1.out, Hx.out]; exact limS_congr HE.out) hs2
      go_wp2_with (at_builtin; refine wpList_app1 rfl (.tmp 32) (.tmp 34) 23 rfl w.heap.size 25 (.float .f32 0) 4 Try.underlying23 f32_info rfl u8 k (f32s ys) _ rfl rfl rfl hown2 hsz (by omega) (by omega) ?_; intro v' w' hown' hbel')
      have hb3 := hb2.trans hbel'
      have hown3 : w'.ownsRow w.heap.size 25 1 v' (k + 1) (f32s (ys ++ [s])) := by simpa [f32s] using hown'
      clear hbel' hown' hb2 hown2 hsz
      go_roundw
      case rel => exact ⟨k + 1, g, ys ++ [s], by go_num, by omega, rfl, HE2, hL2, hown3, hb3⟩
      case measure => simp [intOf]; omega
    · obtain rfl : k = xs.length := by omega
      go_wp2
      go_ret2
      obtain ⟨A', cap, hv, hl, hrd2⟩ := own_rd hown
      subst hv
      have hl' := Hl.out.1
      unfold LimitPost
      exact ⟨A', cap, ys, by rw [hl', HOK.out]; rfl, by rw [hl']; exact hown, by rw [HOK.out]; exact Hl.out, hb⟩
end Go.Proofs.Ytignncjmbcdpaaa

/-
spec.MakeStart; a complex number divided by 4.
-/
namespace Go.Proofs.Ytignncjmbcdpaaa
open Go Go.RowKit Ieee

theorem pow_val (b : Nat) (m : Nat) (e : Int) (v : Rat) (h : double.read b = .number false m e) (hv : (m : Rat) * pw e = v) : fin .f64 b ∧ fv .f64 b = v := by
  obtain ⟨h1, h2⟩ := fin_of_read (k := .f64) h
  refine ⟨h1, ?_⟩
  rw [h2, dval_num]
  simpa [mval] using hv
theorem w16 : fin .f64 4625196817309499392 ∧ fv .f64 4625196817309499392 = 16 := pow_val _ 4503599627370496 (-48) _ (by decide +kernel) (by unfold pw; grind)
theorem w4 : fin .f64 4616189618054758400 ∧ fv .f64 4616189618054758400 = 4 := pow_val _ 4503599627370496 (-50) _ (by decide +kernel) (by unfold pw; grind)
theorem Ex.quo {x W : Nat} {n : Int} {e B k : Nat} (hx : Ex x n e B) (hW : fin .f64 W) (hv : fv .f64 W = pw (k : Int)) (hB : B < 2 ^ 53) (he : e + k ≤ 1000) : Ex (fo .quo .f64 x W) n (e + k) B := by
  have hp := pw_pos (k : Int)
  have e1 : fv .f64 x / fv .f64 W = (n : Rat) * pw (-((e + k : Nat) : Int)) := by
    rw [hx.v, hv]
    have : pw (-(e : Int)) = pw (-((e + k : Nat) : Int)) * pw (k : Int) := by rw [← pw_add]; congr 1; omega
    rw [this, ← Rat.mul_assoc]
    exact Rat.mul_div_cancel (by grind)
  have hb := hx.b
  obtain ⟨t1, t2⟩ := ex_top (n := n) (e := e + k) (by omega)
  have ht := top210
  have hd := div_spec hx.f hW (by rw [hv]; grind) (by rw [e1]; grind)
  rw [e1] at hd
  exact ⟨hd.1, hd.few (ex_few (by omega) he) t1, hb⟩
theorem p16 : fv .f64 4625196817309499392 = pw ((4 : Nat) : Int) := by rw [w16.2]; unfold pw; grind
theorem p4 : fv .f64 4616189618054758400 = pw ((2 : Nat) : Int) := by rw [w4.2]; unfold pw; grind
theorem Ex.int (n : Int) (B : Nat) (h : n.natAbs ≤ B) (hB : B < 2 ^ 53) : Ex (floatOfInt .f64 n) n 0 B := by
  have hx := int_exact .f64 n (by have : FloatKind.f64.format.binade = 4503599627370496 := by decide +kernel
                                  rw [this]; omega)
  exact ⟨hx.1, by rw [hx.2]; show _ = (n : Rat) * pw (-((0 : Nat) : Int)); rw [show -((0 : Nat) : Int) = 0 from rfl, pw_zero]; grind, h⟩
theorem Ex.zero (e : Nat) : Ex 0 0 e 0 := ⟨(zero_fin .f64).1, by rw [(zero_fin .f64).2]; simp, by simp⟩
theorem Ex.isZero {x : Nat} {n : Int} {e B : Nat} (h : Ex x n e B) : feq .f64 x 0 = decide (n = 0) := by
  obtain ⟨z1, z2⟩ := zero_fin .f64
  have hp := pw_pos (-(e : Int))
  by_cases hn : n = 0
  · subst hn
    rw [(feq_iff h.f z1).2 (by rw [h.v, z2]; simp)]; simp
  · cases hc : feq .f64 x 0
    · simp [hn]
    · exfalso
      have := (feq_iff h.f z1).1 hc
      rw [h.v, z2] at this
      have hne : (n : Rat) ≠ 0 := fun h => hn (by exact_mod_cast h)
      rcases Rat.mul_eq_zero.1 this with h | h
      · exact hne h
      · grind
theorem some_of_fin {op : BinOp} {k : FloatKind} {x y : Nat} (h : fin k (fo op k x y)) : floatBits op k x y = some (fo op k x y) := by
  unfold fo at h ⊢
  cases hb : floatBits op k x y with
  | some r => rfl
  | none =>
    rw [hb] at h
    have := fin_num h
    rw [show (none : Option Nat).getD (qn k) = qn k from rfl, isN_qn] at this; cases this
theorem run_arith {P : Program} {op : BinOp} {x y r : Nat} (hop : op = .add ∨ op = .sub ∨ op = .mul ∨ op = .quo) (h : floatBits op .f64 x y = some r) (w : World) : (Op.Complex.arith op .f64 x y).run P w = .ok r w := by
  unfold floatBits at h
  rcases hop with rfl | rfl | rfl | rfl <;> simp only at h <;> simp [Op.Complex.arith, Op.floatArith, h]
theorem nan_of_fin {x : Nat} (h : fin .f64 x) : Op.Complex.isNaN x = false := fin_num h
/-- A complex quotient whose divisor's first part is the greater one, no part of it a NaN. -/
theorem run_cquo {P : Program} {a b c d r p den z1 a1 e z2 b1 f : Nat} (h1 : floatBits .quo .f64 d c = some r) (h2 : floatBits .mul .f64 r d = some p) (h3 : floatBits .add .f64 c p = some den)
    (h4 : floatBits .mul .f64 b r = some z1) (h5 : floatBits .add .f64 a z1 = some a1) (h6 : floatBits .quo .f64 a1 den = some e) (h7 : floatBits .mul .f64 a r = some z2) (h8 : floatBits .sub .f64 b z2 = some b1)
    (h9 : floatBits .quo .f64 b1 den = some f) (hn : Op.Complex.isNaN e = false) (hge : ∀ w, (Op.Complex.cmp .geq .f64 (Op.Complex.abs c) (Op.Complex.abs d)).run P w = .ok true w)
    (hz : ∃ x y : Bool, (∀ w, (Op.Complex.cmp .eql .f64 c 0).run P w = .ok x w) ∧ ∀ w, (Op.Complex.cmp .eql .f64 d 0).run P w = .ok y w) (t : TypeId) (w : World) :
    (binOp .quo t (.complex .f64 a b) (.complex .f64 c d)).run P w = .ok (.complex .f64 e f) w := by
  obtain ⟨x, y, hx, hy⟩ := hz
  have g1 := fun w => run_arith (P := P) (.inr (.inr (.inr rfl))) h1 w
  have g2 := fun w => run_arith (P := P) (.inr (.inr (.inl rfl))) h2 w
  have g3 := fun w => run_arith (P := P) (.inl rfl) h3 w
  have g4 := fun w => run_arith (P := P) (.inr (.inr (.inl rfl))) h4 w
  have g5 := fun w => run_arith (P := P) (.inl rfl) h5 w
  have g6 := fun w => run_arith (P := P) (.inr (.inr (.inr rfl))) h6 w
  have g7 := fun w => run_arith (P := P) (.inr (.inr (.inl rfl))) h7 w
  have g8 := fun w => run_arith (P := P) (.inr (.inl rfl)) h8 w
  have g9 := fun w => run_arith (P := P) (.inr (.inr (.inr rfl))) h9 w
  have hcv : ∀ x w, (Op.Complex.conv .f64 x .f64).run P w = .ok x w := fun x w => by unfold Op.Complex.conv; rw [if_pos rfl]; exact Sem.run_pure ..
  have hq : ∀ w, (Op.Complex.quotient a b c d).run P w = .ok (e, f) w := fun w => by
    unfold Op.Complex.quotient Op.Complex.quo Op.Complex.mul Op.Complex.add Op.Complex.sub
    simp only [Sem.run_bind, Sem.run_pure, hge, Result.andThen_ok, if_true, g1, g2, g3, g4, g5, g6, g7, g8, g9, hx, hy]
    rw [if_pos (by rw [hn]; rfl)]
    exact Sem.run_pure ..
  show (Op.complexOp .quo .f64 a b c d).run P w = _
  unfold Op.complexOp
  simp only [Sem.run_bind, hcv, Result.andThen_ok]
  rw [if_neg (by decide)]
  simp only [Sem.run_bind, hq, hcv, Result.andThen_ok, Sem.run_pure]
theorem k4 : floatBits .quo .f64 0 4616189618054758400 = some 0 ∧ floatBits .mul .f64 0 0 = some 0 ∧ floatBits .add .f64 4616189618054758400 0 = some 4616189618054758400 :=
  ⟨by decide +kernel, by decide +kernel, by decide +kernel⟩
theorem cmp_run {P : Program} {op : BinOp} {x y : Nat} {v : Bool} (h : Op.floatCmp op .f64 x y = (pure (.bool v) : Sem Value)) (w : World) : (Op.Complex.cmp op .f64 x y).run P w = .ok v w := by
  simp [Op.Complex.cmp, h, asBool]
theorem g4 {P : Program} (w : World) : (Op.Complex.cmp .geq .f64 (Op.Complex.abs 4616189618054758400) (Op.Complex.abs 0)).run P w = .ok true w := cmp_run rfl w
theorem z4 {P : Program} : ∃ x y : Bool, (∀ w, (Op.Complex.cmp .eql .f64 4616189618054758400 0).run P w = .ok x w) ∧ ∀ w, (Op.Complex.cmp .eql .f64 0 0).run P w = .ok y w :=
  ⟨_, _, fun w => cmp_run rfl w, fun w => cmp_run rfl w⟩
/-- What is a quarter of a number, as the complex quotient gives it. -/
def q4 (a b : Nat) : Nat := fo .quo .f64 (fo .add .f64 a (fo .mul .f64 b 0)) 4616189618054758400
def q4i (a b : Nat) : Nat := fo .quo .f64 (fo .sub .f64 b (fo .mul .f64 a 0)) 4616189618054758400
theorem q4_ok {a b : Nat} {n m : Int} {e B : Nat} (h : CEx a b n m e B) (hB : B < 2 ^ 53) (he : e ≤ 900) : CEx (q4 a b) (q4i a b) n m (e + 2) B ∧
    ∀ (P : Program) (t : TypeId) (w : World), (binOp .quo t (.complex .f64 a b) (.complex .f64 4616189618054758400 0)).run P w = .ok (.complex .f64 (q4 a b) (q4i a b)) w := by
  have z1 := h.im.mul (Ex.zero 0) (by omega) (by omega)
  have z2 := h.re.mul (Ex.zero 0) (by omega) (by omega)
  have a1 := h.re.add (e := e) (z1 : Ex _ _ e _) (by omega) (by omega)
  have b1 := h.im.sub (e := e) (z2 : Ex _ _ e _) (by omega) (by omega)
  have a2 := a1.quo w4.1 p4 (by omega) (by omega)
  have b2 := b1.quo w4.1 p4 (by omega) (by omega)
  have e1 : n + m * 0 = n := by omega
  have e2 : m - n * 0 = m := by omega
  rw [e1] at a2
  rw [e2] at b2
  refine ⟨⟨⟨a2.f, a2.v, by have := h.re.b; omega⟩, ⟨b2.f, b2.v, by have := h.im.b; omega⟩⟩, fun P t w => ?_⟩
  exact run_cquo k4.1 k4.2.1 k4.2.2 (some_of_fin z1.f) (some_of_fin a1.f) (some_of_fin a2.f) (some_of_fin z2.f) (some_of_fin b1.f) (some_of_fin b2.f) (nan_of_fin a2.f) g4 z4 t w

set_option maxHeartbeats 400000 in
theorem start_any (A : Option Addr) (cp : Nat) (bs : List Int) (w : World) (hr : Rd w A (bs.map (.int .u8))) (hm : bs.length ≤ 1048576) :
    Calls Try.prog 20 #[.slice A bs.length cp] w fun e w' => ∃ (x y : Nat) (n m : Int), e = .returned (.complex .f64 x y) ∧ CEx x y n m 4 64 ∧ wfk .f64 x ∧ wfk .f64 y ∧ ¬(n = 0 ∧ m = 0) ∧ Below w.heap.size w w' := by
  go_enter Try.func20, Try.ntmps20
  go_wp2_with fail
  refine (new_any A cp bs _ hr hm).mono ?_
  rintro e w1 ⟨g, rfl, hg, hcur, hb1⟩
  go_wp2_with fail
  refine (below_any g 129 _ hcur (by omega) (by omega)).mono ?_
  rintro e w2 ⟨i, rfl, ⟨hi0, hi1⟩, hs1⟩
  have X := Lib.hid ((Ex.int (i - 64) 64 (by omega) (by omega)).quo w16.1 p16 (by omega) (by omega))
  have hx := fun w => rnd_eq X.out.f w
  go_wp2_with fail
  refine (below_any g 129 _ (hs1.drewN _).1 (by omega) (by omega)).mono ?_
  rintro e w3 ⟨j, rfl, ⟨hj0, hj1⟩, hs2⟩
  have Y := Lib.hid ((Ex.int (j - 64) 64 (by omega) (by omega)).quo w16.1 p16 (by omega) (by omega))
  have hy := fun w => rnd_eq Y.out.f w
  have HB : Hid (Below w.heap.size w w3) := hb1.trans ((below_of_step (B := w.heap.size) ((hs1.drewN _).trans hs2) (by omega) hb1.size))
  have Wx : Hid (wfk .f64 (fo .quo .f64 (floatOfInt .f64 (i - 64)) 4625196817309499392)) := fo_lt _ _ _ _
  have Wy : Hid (wfk .f64 (fo .quo .f64 (floatOfInt .f64 (j - 64)) 4625196817309499392)) := fo_lt _ _ _ _
  have Zx := X.out.isZero
  have Zy := Y.out.isZero
  clear hb1 hs1 hs2 hcur
  generalize fo .quo .f64 (floatOfInt .f64 (i - 64)) 4625196817309499392 = x at *
  generalize fo .quo .f64 (floatOfInt .f64 (j - 64)) 4625196817309499392 = y at *
  have ZX := Lib.hid Zx
  have ZY := Lib.hid Zy
  clear Zx Zy
  cases t : (feq .f64 x 0 && feq .f64 y 0)
  · have hne : ¬(i - 64 = 0 ∧ j - 64 = 0) := by
      rintro ⟨h1, h2⟩
      rw [ZX.out, ZY.out, h1, h2] at t; simp at t
    have HT := Lib.hid t
    go_wp2_with fail
    go_ret
    exact ⟨x, y, i - 64, j - 64, rfl, ⟨X.out, Y.out⟩, Wx.out, Wy.out, hne, below_drewN HB.out _⟩
  · rw [Bool.and_eq_true] at t
    obtain ⟨t1, t2⟩ := t
    go_wp2_with fail
    go_ret
    exact ⟨_, _, 16, 0, rfl, ⟨⟨one_fin.1, by rw [one_fin.2]; unfold pw; grind, by decide⟩, ⟨(zero_fin .f64).1, by rw [(zero_fin .f64).2]; simp, by decide⟩⟩, by rw [wfk_64]; decide, by rw [wfk_64]; decide, by omega, below_drewN HB.out _⟩
end Go.Proofs.Ytignncjmbcdpaaa

/-
HalfLife of both packages at a valid mode.
-/
namespace Go.Proofs.Ytignncjmbcdpaaa
open Go Go.RowKit Ieee

set_option maxHeartbeats 400000 in
theorem l1In_any (n lo hi : Int) (w : World) : Calls Try.prog 76 #[.int .i64 n, .int .i64 lo, .int .i64 hi] w fun e w' => e = .returned (.bool (decide (lo ≤ n) && decide (n ≤ hi))) ∧ w = w' := by
  by_cases h1 : lo ≤ n
  · by_cases h2 : n ≤ hi
    · go_enter Try.func76, Try.ntmps76
      go_wp2_with fail
      go_ret
      exact ⟨by simp [h1, h2], rfl⟩
    · go_enter Try.func76, Try.ntmps76
      go_wp2_with fail
      go_ret
      exact ⟨by simp [h2], rfl⟩
  · go_enter Try.func76, Try.ntmps76
    go_wp2_with fail
    go_ret
    exact ⟨by rw [decide_eq_false (Int.not_le.2 h1)]; rfl, rfl⟩

theorem zAt_succ (a b c d n : Nat) : zAt a b c d (n + 1) = (sRe (zAt a b c d n).1 (zAt a b c d n).2 a b, sIm (zAt a b c d n).1 (zAt a b c d n).2 a b) := rfl
theorem sizeW_any (x y : Nat) (w : World) {a b : Nat} (h : ZOk a b x y) : Calls Try.prog 28 #[.complex .f64 (wid x) (wid y)] w fun e w' => ∃ n, e = .returned (.float .f64 (sizeZ (x, y))) ∧ w.drewN n = w' := by
  refine (implSize_any _ _ w (wid_lt _) (wid_lt _)).mono ?_
  rintro e w' ⟨r, n, rfl, hr, _, rfl⟩
  exact ⟨n, by rw [nrm_fin_eq (show nrm .f64 r = sizeZ (x, y) from hr) (size_ok h).1], rfl⟩
theorem sizeS_any (x y : Nat) (p q : Nat) (w : World) {a b : Nat} (h : ZOk a b x y) (hp : p = wid x) (hq : q = wid y) : Calls Try.prog 56 #[.complex .f64 p q] w fun e w' => ∃ n, e = .returned (.float .f64 (sizeZ (x, y))) ∧ w.drewN n = w' := by
  subst hp hq
  refine (specSize_any _ _ w).mono ?_
  rintro e w' ⟨r, n, rfl, hr, _, rfl⟩
  rw [(size_ok h).2.1] at hr
  exact ⟨n, by rw [nrm_fin_eq (show nrm .f64 r = sizeZ (x, y) from hr) (size_ok h).1], rfl⟩
theorem halved_test {a b c d n x y : Nat} (h : ZOk a b x y) (hz : (x, y) = zAt a b c d n) (w : World) : fle .f64 (fR .mul .f64 4611686018427387904 (sizeZ (x, y)) w) (sizeZ (c, d)) = halved a b c d n := by
  rw [rnd_eq (size_ok h).2.2 w]; unfold halved; rw [hz]

/-- What HalfLife returns. -/
def HalfPost (a b c d : Nat) (most : Int) (w : World) (e : Ending) (w' : World) : Prop :=
  ∃ k t, e = .returned (.tuple #[.int .i64 k, .bool t]) ∧ Half a b c d most k t ∧ Below w.heap.size w w'
set_option maxRecDepth 100000 in
set_option maxHeartbeats 400000 in
theorem implHalf_any (a b c d : Nat) (most : Int) (w : World) (h : ModeOk a b c d) (h1 : 1 ≤ most) (h2 : most ≤ 2000) :
    Calls Try.prog 36 #[.agg #[.complex .f32 a b, .complex .f32 c d], .int .i64 most] w (HalfPost a b c d most w) := by
  have H := Lib.hid h
  have Z0 := Lib.hid (h.at w 0 (by omega))
  have F1 := Lib.hid (wid_fin (fin_of_wid h.fc)).1
  have F2 := Lib.hid (wid_fin (fin_of_wid h.fd)).1
  clear h
  go_enter Try.func36, Try.ntmps36
  go_wp2_with fail
  have HB : Hid (Below w.heap.size w (w.alloc (.cells #[.complex .f32 a b, .complex .f32 c d] 52))) := (Below.refl w.heap.size w).alloc (Nat.le_refl _) _
  have hm : (w.alloc (.cells #[.complex .f32 a b, .complex .f32 c d] 52)).heap[w.heap.size]? = some (.cells #[.complex .f32 a b, .complex .f32 c d] 52 (0, 0)) := heap_alloc_new w _
  have hlt : w.heap.size < (w.alloc (.cells #[.complex .f32 a b, .complex .f32 c d] 52)).heap.size := by simp
  have HM := Lib.hid hm
  obtain ⟨c0, c1, _, _⟩ := m_cells hm
  clear hm
  generalize w.alloc (.cells #[.complex .f32 a b, .complex .f32 c d] 52) = W at *
  refine (implMode_ok a b c d _ H.out).mono ?_
  rintro e W2 ⟨rfl, hb⟩
  have HM2 : Hid (W2.heap[w.heap.size]? = some (.cells #[.complex .f32 a b, .complex .f32 c d] 52 (0, 0))) := (hb.block w.heap.size hlt).trans HM.out
  have HB2 : Hid (Below w.heap.size w W2) := HB.out.trans (hb.mono (by omega))
  obtain ⟨d0, d1, _, _⟩ := m_cells HM2.out
  clear hb c0 c1 HB HM hlt
  go_wp2_with fail
  go_region_with (first
    | (go_at_call 90
       refine (implWiden_fin c d _ H.out.wc H.out.wd F1.out F2.out).mono ?_
       rintro e w' ⟨n1, rfl, rfl⟩)
    | (go_at_call 28
       refine (sizeW_any c d _ Z0.out).mono ?_
       rintro e w' ⟨n2, rfl, rfl⟩))
  all_goals
    go_wp2_with fail
    go_loopw [7, 8] (fun z i wr => ∃ (n x y m : Nat), z = .complex .f32 x y ∧ i = .int .i64 ((n : Int) + 1) ∧ (n : Int) ≤ most ∧ Hid ((x, y) = zAt a b c d n) ∧ Hid (∀ j : Nat, 1 ≤ j → j ≤ n → halved a b c d j = false) ∧ wr = W2.drewN m) (fun _ i _ => (most + 1 - intOf i).toNat)
    case atStart => exact ⟨0, c, d, _, rfl, rfl, by omega, rfl, fun j j1 j2 => by omega, rfl⟩
    case round =>
      obtain ⟨n, x, y, m, rfl, rfl, hn, hz, hno, rfl⟩ := hrel
      by_cases hj : (n : Int) < most
      · have Z1 : Hid (ZOk a b x y) := by have := H.out.at w n (by omega); rw [← hz.out] at this; exact this
        have hz2 : Hid ((sRe x y a b, sIm x y a b) = zAt a b c d (n + 1)) := by rw [zAt_succ, ← hz.out]; rfl
        have Z2 : Hid (ZOk a b (sRe x y a b) (sIm x y a b)) := by have := H.out.at w (n + 1) (by omega); rw [← hz2.out] at this; exact this
        have G1 := Lib.hid (wid_fin Z2.out.fx).1
        have G2 := Lib.hid (wid_fin Z2.out.fy).1
        have T0 := Lib.hid (halved_test Z2.out hz2.out)
        go_wp2_with fail
        refine (implSingle_any x y a b _ Z1.out.wx Z1.out.wy H.out.wa H.out.wb Z1.out.mild).mono ?_
        rintro e w' ⟨n3, rfl, rfl⟩
        go_wp2_with fail
        refine (implWiden_fin _ _ _ Z2.out.wx Z2.out.wy G1.out G2.out).mono ?_
        rintro e w' ⟨n4, rfl, rfl⟩
        go_wp2_with fail
        refine (sizeW_any _ _ _ Z2.out).mono ?_
        rintro e w' ⟨n5, rfl, rfl⟩
        cases t : halved a b c d (n + 1)
        · have T : ∀ w, fle .f64 (fR .mul .f64 4611686018427387904 (sizeZ (sRe x y a b, sIm x y a b)) w) (sizeZ (c, d)) = false := fun w => (T0.out w).trans t
          have N := Lib.hid t
          clear t
          go_wp2_with fail
          go_roundw
          case rel => exact ⟨n + 1, _, _, _, rfl, by go_num, by omega, hz2, fun j j1 j2 => (by
            rcases Nat.lt_or_ge n j with h | h
            · obtain rfl : j = n + 1 := by omega
              exact N.out
            · exact hno.out j j1 h), rfl⟩
          case measure => simp [intOf]; omega
        · have T : ∀ w, fle .f64 (fR .mul .f64 4611686018427387904 (sizeZ (sRe x y a b, sIm x y a b)) w) (sizeZ (c, d)) = true := fun w => (T0.out w).trans t
          have N := Lib.hid t
          clear t
          go_wp2_with fail
          go_ret2
          unfold HalfPost
          exact ⟨_, _, rfl, .inl ⟨rfl, by omega, by omega, by rw [show ((n : Int) + 1).toNat = n + 1 by omega]; exact N.out, fun j j1 j2 => hno.out j j1 (by omega)⟩, below_drewN HB2.out _⟩
      · go_wp2_with fail
        go_ret2
        unfold HalfPost
        exact ⟨_, _, rfl, .inr ⟨rfl, rfl, fun j j1 j2 => hno.out j j1 (by omega)⟩, below_drewN HB2.out _⟩
end Go.Proofs.Ytignncjmbcdpaaa

/-
RingMode: a mode of double precision that rings.
-/
namespace Go.Proofs.Ytignncjmbcdpaaa
open Go Go.RowKit Ieee

/-- The state after so many steps. -/
def zC (p a : Nat × Nat) : Nat → Nat × Nat
  | 0 => a
  | n + 1 => (mulRe (zC p a n).1 (zC p a n).2 p.1 p.2, mulIm (zC p a n).1 (zC p a n).2 p.1 p.2)
def finC (z : Nat × Nat) : Prop := fin .f64 z.1 ∧ fin .f64 z.2
def c64s (zs : List (Nat × Nat)) : List Value := zs.map fun z => .complex .f64 z.1 z.2
def zList (p a : Nat × Nat) (n : Nat) : List (Nat × Nat) := (List.range n).map (zC p a)
theorem zList_len (p a : Nat × Nat) (n : Nat) : (zList p a n).length = n := by simp [zList]
theorem zList_snoc (p a : Nat × Nat) (n : Nat) : c64s (zList p a n) ++ [.complex .f64 (zC p a n).1 (zC p a n).2] = c64s (zList p a (n + 1)) := by
  simp [c64s, zList, List.range_succ]
theorem c128_info : (Try.prog.info? 33).map (fun i => (i.zero, i.size, i.bytes)) = some (some (.complex .f64 0 0), 1, 16) := by kernel_rfl
theorem specTimes_fin (a b c d : Nat) (w : World) (h1 : fin .f64 (mulRe a b c d)) (h2 : fin .f64 (mulIm a b c d)) : Calls Try.prog 25 #[.complex .f64 a b, .complex .f64 c d] w fun e w' => ∃ n, e = .returned (.complex .f64 (mulRe a b c d) (mulIm a b c d)) ∧ w.drewN n = w' := by
  refine (specTimes_any a b c d w).mono ?_
  rintro e w' ⟨p, q, n, rfl, hp, hq, _, _, rfl⟩
  exact ⟨n, by rw [nrm_fin_eq (hp.trans (nrm_fin h1)) h1, nrm_fin_eq (hq.trans (nrm_fin h2)) h2], rfl⟩
theorem implTimes_fin (a b c d : Nat) (w : World) (h1 : fin .f64 (mulRe a b c d)) (h2 : fin .f64 (mulIm a b c d)) : Calls Try.prog 79 #[.complex .f64 a b, .complex .f64 c d] w fun e w' => ∃ n, e = .returned (.complex .f64 (mulRe a b c d) (mulIm a b c d)) ∧ w.drewN n = w' := by
  refine (implTimes_any a b c d w).mono ?_
  rintro e w' ⟨p, q, n, rfl, hp, hq, _, _, rfl⟩
  exact ⟨n, by rw [nrm_fin_eq (hp.trans (nrm_fin h1)) h1, nrm_fin_eq (hq.trans (nrm_fin h2)) h2], rfl⟩

/-- What RingMode returns. -/
def RingPost (p a : Nat × Nat) (n : Nat) (w : World) (e : Ending) (w' : World) : Prop :=
  ∃ A' c', e = .returned (.tuple #[.slice A' n c', .bool true]) ∧ w'.ownsRow w.heap.size 33 1 (.slice A' n c') n (c64s (zList p a n)) ∧ Below w.heap.size w w'

set_option maxRecDepth 100000 in
set_option maxHeartbeats 600000 in
theorem specRing_any (p a : Nat × Nat) (n : Nat) (w : World) (hn : n ≤ 2000) (hf : ∀ k, k ≤ n → finC (zC p a k)) :
    Calls Try.prog 22 #[.complex .f64 p.1 p.2, .complex .f64 a.1 a.2, .int .i64 n] w (RingPost p a n w) := by
  have HF := Lib.hid hf
  have hin : (decide ((0 : Int) ≤ (n : Int)) && decide ((n : Int) ≤ 2000)) = true := by simp; omega
  clear hf
  go_enter Try.func22, Try.ntmps22
  go_wp2_with fail
  refine (l1In_any n 0 2000 _).mono ?_
  rintro e w' ⟨rfl, rfl⟩
  rw [hin]
  go_wp2_with fail
  have hown0 := owns_empty w 33
  have hb0 : Below w.heap.size w (w.alloc (.cells #[] 33)) := (Below.refl w.heap.size w).alloc (Nat.le_refl _) _
  generalize w.alloc (.cells #[] 33) = W0 at *
  go_loopw [8, 9, 10] (fun v z i wr => ∃ k : Nat, i = .int .i64 (k : Int) ∧ k ≤ n ∧ z = .complex .f64 (zC p a k).1 (zC p a k).2 ∧ wr.ownsRow w.heap.size 33 1 v k (c64s (zList p a k)) ∧ Below w.heap.size w wr) (fun _ _ i _ => n - (intOf i).toNat)
  case atStart => exact ⟨0, rfl, by omega, rfl, hown0, hb0⟩
  case round =>
    clear hown0 hb0
    obtain ⟨k, rfl, hk, rfl, hown, hbel⟩ := hrel
    by_cases hlt : k < n
    · have hsz := hbel.size
      have F := HF.out (k + 1) (by omega)
      have hz : zC p a (k + 1) = (mulRe (zC p a k).1 (zC p a k).2 p.1 p.2, mulIm (zC p a k).1 (zC p a k).2 p.1 p.2) := rfl
      rw [hz] at F
      have HFk := Lib.hid F
      have HZ := Lib.hid hz
      have hsn := Lib.hid (zList_snoc p a k)
      clear F hz
      generalize (zC p a k).1 = x at *
      generalize (zC p a k).2 = y at *
      go_wp2_with (at_builtin; refine wpList_app1 rfl (.tmp 21) (.tmp 23) 36 rfl w.heap.size 33 (.complex .f64 0 0) 16 Try.underlying36 c128_info rfl u8 k (c64s (zList p a k)) _ rfl rfl rfl hown hsz (by omega) (by omega) ?_; intro v' w' hown' hbel')
      rw [hsn.out] at hown'
      have hb2 := hbel.trans hbel'
      clear hown hbel hbel' hsz
      refine (specTimes_fin x y p.1 p.2 _ HFk.out.1 HFk.out.2).mono ?_
      rintro e w'' ⟨m, rfl, rfl⟩
      go_wp2_with fail
      go_roundw
      case rel => exact ⟨k + 1, by go_num, by omega, by rw [HZ.out], hown', below_drewN hb2 _⟩
      case measure => simp [intOf]; omega
    · obtain rfl : k = n := by omega
      go_wp2_with fail
      go_ret2
      obtain ⟨A', cap, hv, hl, hrd⟩ := own_rd hown
      subst hv
      unfold RingPost
      exact ⟨A', cap, rfl, hown, hbel⟩
set_option maxHeartbeats 400000 in
theorem count_any (n : Int) (w : World) : Calls Try.prog 94 #[.int .i64 n] w fun e w' => e = .returned (.bool (decide (0 ≤ n) && decide (n ≤ 2000))) ∧ w = w' := by
  by_cases h1 : 0 ≤ n
  · by_cases h2 : n ≤ 2000
    · go_enter Try.func94, Try.ntmps94
      go_wp2_with fail
      go_ret
      exact ⟨by simp [h1, h2], rfl⟩
    · go_enter Try.func94, Try.ntmps94
      go_wp2_with fail
      go_ret
      exact ⟨by simp [h2], rfl⟩
  · go_enter Try.func94, Try.ntmps94
    go_wp2_with fail
    go_ret
    exact ⟨by rw [decide_eq_false (Int.not_le.2 h1)]; rfl, rfl⟩
set_option maxRecDepth 100000 in
set_option maxHeartbeats 600000 in
theorem implRing_any (p a : Nat × Nat) (n : Nat) (w : World) (hn : n ≤ 2000) (hf : ∀ k, k ≤ n → finC (zC p a k)) :
    Calls Try.prog 45 #[.complex .f64 p.1 p.2, .complex .f64 a.1 a.2, .int .i64 n] w (RingPost p a n w) := by
  have HF := Lib.hid hf
  have hin : (decide ((0 : Int) ≤ (n : Int)) && decide ((n : Int) ≤ 2000)) = true := by simp; omega
  clear hf
  go_enter Try.func45, Try.ntmps45
  go_wp2_with fail
  refine (count_any n _).mono ?_
  rintro e w' ⟨rfl, rfl⟩
  rw [hin]
  go_wp2_with fail
  have hown0 := owns_empty w 33
  have hb0 : Below w.heap.size w (w.alloc (.cells #[] 33)) := (Below.refl w.heap.size w).alloc (Nat.le_refl _) _
  generalize w.alloc (.cells #[] 33) = W0 at *
  go_loopw [8, 9, 16] (fun v z i wr => ∃ k : Nat, i = .int .i64 (k : Int) ∧ k ≤ n ∧ z = .complex .f64 (zC p a k).1 (zC p a k).2 ∧ wr.ownsRow w.heap.size 33 1 v k (c64s (zList p a k)) ∧ Below w.heap.size w wr) (fun _ _ i _ => n - (intOf i).toNat)
  case atStart => exact ⟨0, rfl, by omega, rfl, hown0, hb0⟩
  case round =>
    clear hown0 hb0
    obtain ⟨k, rfl, hk, rfl, hown, hbel⟩ := hrel
    by_cases hlt : k < n
    · have hsz := hbel.size
      have F := HF.out (k + 1) (by omega)
      have hz : zC p a (k + 1) = (mulRe (zC p a k).1 (zC p a k).2 p.1 p.2, mulIm (zC p a k).1 (zC p a k).2 p.1 p.2) := rfl
      rw [hz] at F
      have HFk := Lib.hid F
      have HZ := Lib.hid hz
      have hsn := Lib.hid (zList_snoc p a k)
      clear F hz
      generalize (zC p a k).1 = x at *
      generalize (zC p a k).2 = y at *
      go_wp2_with (at_builtin; refine wpList_app1 rfl (.tmp 18) (.tmp 20) 36 rfl w.heap.size 33 (.complex .f64 0 0) 16 Try.underlying36 c128_info rfl u8 k (c64s (zList p a k)) _ rfl rfl rfl hown hsz (by omega) (by omega) ?_; intro v' w' hown' hbel')
      rw [hsn.out] at hown'
      have hb2 := hbel.trans hbel'
      clear hown hbel hbel' hsz
      refine (implTimes_fin x y p.1 p.2 _ HFk.out.1 HFk.out.2).mono ?_
      rintro e w'' ⟨m, rfl, rfl⟩
      go_wp2_with fail
      go_roundw
      case rel => exact ⟨k + 1, by go_num, by omega, by rw [HZ.out], hown', below_drewN hb2 _⟩
      case measure => simp [intOf]; omega
    · obtain rfl : k = n := by omega
      go_wp2_with fail
      go_ret2
      obtain ⟨A', cap, hv, hl, hrd⟩ := own_rd hown
      subst hv
      unfold RingPost
      exact ⟨A', cap, rfl, hown, hbel⟩
end Go.Proofs.Ytignncjmbcdpaaa

/-
spec.l1Parts, for numbers from 0 to 1 of single precision.
-/
namespace Go.Proofs.Ytignncjmbcdpaaa
open Go Go.RowKit Ieee

theorem parts_le {N k : Nat} (h1 : N < 2 ^ 24) : (N : Rat) * pw (-(k : Int)) ≤ 2 ^ 24 ∧ 0 ≤ (N : Rat) * pw (-(k : Int)) := by
  have hp : pw (-(k : Int)) ≤ 1 := by rw [← pw_zero]; exact pw_mono (by omega)
  have h0 := Rat.le_of_lt (pw_pos (-(k : Int)))
  have hN : (0 : Rat) ≤ N := Rat.natCast_nonneg
  have hN2 : (N : Rat) ≤ 2 ^ 24 := by
    have := Rat.natCast_le_natCast.2 (Nat.le_of_lt h1)
    have e : ((2 ^ 24 : Nat) : Rat) = 2 ^ 24 := by simp; grind
    rw [e] at this; exact this
  have := Rat.mul_le_mul_of_nonneg_left hp hN
  have h3 := Rat.mul_nonneg hN h0
  grind
theorem dbl {r N k : Nat} (hr : fin .f64 r) (hv : fv .f64 r = (N : Rat) * pw (-((k + 1 : Nat) : Int))) (h1 : N < 2 ^ 24) (hk : k ≤ 149) (w : World) :
    fin .f64 (fR .mul .f64 r 4611686018427387904 w) ∧ fv .f64 (fR .mul .f64 r 4611686018427387904 w) = (N : Rat) * pw (-(k : Int)) := by
  obtain ⟨t1, t2⟩ := two_fin
  have e : fv .f64 r * 2 = (N : Rat) * pw (-(k : Int)) := by
    have := pw_succ (-((k + 1 : Nat) : Int))
    rw [show -((k + 1 : Nat) : Int) + 1 = -(k : Int) by omega] at this
    rw [hv, this]; grind
  obtain ⟨p1, p2⟩ := parts_le (k := k) h1
  have ht := top210
  have hm := mul_spec hr t1 (by rw [t2, e, ab_of_nonneg p2]; grind)
  rw [t2, e] at hm
  have hf : Few .f64 ((N : Rat) * pw (-(k : Int))) := by
    refine ⟨(N : Int), -(k : Int), by rw [Rat.intCast_natCast], ?_, ?_⟩
    · have : FloatKind.f64.format.binade = 4503599627370496 := by decide +kernel
      rw [this]; omega
    · have : FloatKind.f64.format.leastPlace = -1074 := by decide +kernel
      rw [this]; omega
  have hx := hm.few hf (by rw [ab_of_nonneg p2]; grind)
  have hn := nrm_fin_eq (nrm_fR .mul .f64 r 4611686018427387904 w) hm.1
  rw [hn]
  exact ⟨hm.1, hx⟩
theorem big53 : fin .f64 4845873199050653696 ∧ fv .f64 4845873199050653696 = 2 ^ 53 := by
  have h : FloatKind.f64.format.read 4845873199050653696 = .number false 4503599627370496 1 := by decide +kernel
  obtain ⟨h1, h2⟩ := fin_of_read h
  refine ⟨h1, ?_⟩
  rw [h2, dval_num]
  unfold mval pw
  simp only [Bool.false_eq_true, if_false]
  grind
theorem not_big {r : Nat} (hr : fin .f64 r) (h : fv .f64 r ≤ 2 ^ 24) : fge .f64 r 4845873199050653696 = false := by
  obtain ⟨b1, b2⟩ := big53
  cases hc : fge .f64 r 4845873199050653696
  · rfl
  · have := (fge_iff hr b1).1 hc
    rw [b2] at this; grind
/-- int(x), and whether x is whole. -/
theorem whole {r N k : Nat} (hr : fin .f64 r) (hv : fv .f64 r = (N : Rat) * pw (-(k : Int))) (h0 : 0 < N) (h1 : N < 2 ^ 24) :
    ∃ n : Nat, floatToIntVal .f64 r .i64 = some (n : Int) ∧ n ≤ 2 ^ 24 ∧ (feq .f64 r (floatOfInt .f64 n) = true → 1 ≤ n) ∧ (k = 0 → feq .f64 r (floatOfInt .f64 n) = true) := by
  obtain ⟨p1, p2⟩ := parts_le (k := k) h1
  obtain ⟨n, q1, q2, q3, q4⟩ := to_int hr (by rw [hv]; exact p2) (by rw [hv]; grind)
  have hx := int_exact .f64 (n : Int) (by have : FloatKind.f64.format.binade = 4503599627370496 := by decide +kernel
                                          rw [this]; omega)
  have hxv : fv .f64 (floatOfInt .f64 n) = (n : Rat) := by rw [hx.2, Rat.intCast_natCast]
  refine ⟨n, q1, ?_, fun h => ?_, fun h => ?_⟩
  · rw [hv] at q2
    have h3 : (n : Rat) ≤ ((2 ^ 24 : Nat) : Rat) := by
      have e : ((2 ^ 24 : Nat) : Rat) = 2 ^ 24 := by simp; grind
      rw [e]; grind
    exact Rat.natCast_le_natCast.1 h3
  · have := (feq_iff hr hx.1).1 h
    rw [hxv, hv] at this
    rcases Nat.eq_zero_or_pos n with hz | hz
    · exfalso
      subst hz
      have hp := pw_pos (-(k : Int))
      have hN : (0 : Rat) < N := by have := Rat.natCast_lt_natCast.2 h0; simpa using this
      have := Rat.mul_pos hN hp
      simp at *
      grind
    · exact hz
  · subst h
    have e : fv .f64 r = (N : Rat) := by rw [hv, show -((0 : Nat) : Int) = 0 from rfl, pw_zero]; grind
    rw [e] at q2 q3
    have h2 := Rat.natCast_le_natCast.1 q2
    have h3 : N < n + 1 := Rat.natCast_lt_natCast.1 (by simpa using q3)
    obtain rfl : n = N := by omega
    exact (feq_iff hr hx.1).2 (by rw [hxv, e])
theorem half_ok {a n c : Nat} (h : a * 2 ^ c = n) (hn : n ≤ 2 ^ 24) (ha : 1 ≤ a) : c ≤ 24 := by
  have h1 : 2 ^ c ≤ 2 ^ 24 := by
    have := Nat.mul_le_mul_right (2 ^ c) ha
    omega
  exact (Nat.pow_le_pow_iff_right (by decide)).1 h1

set_option maxHeartbeats 400000 in
theorem parts_any (x N k0 : Nat) (w : World) (hx : fin .f64 x) (hv : fv .f64 x = (N : Rat) * pw (-(k0 : Int))) (h0 : 0 < N) (h1 : N < 2 ^ 24) (hk0 : k0 ≤ 149) : Calls Try.prog 163 #[.float .f64 x] w fun e w' =>
    ∃ (m j : Int) (n : Nat), e = .returned (.tuple #[.int .i64 m, .int .i64 j]) ∧ 1 ≤ m ∧ m ≤ 16777216 ∧ -200 ≤ j ∧ j ≤ 200 ∧ w.drewN n = w' := by
  have hbig := not_big hx (by rw [hv]; exact (parts_le h1).1)
  have HX := Lib.hid (And.intro hx hv)
  clear hx hv
  go_enter Try.func163, Try.ntmps163
  go_wp2_with fail
  go_loopw [0, 4] (fun y j wr => y = .float .f64 x ∧ j = .int .i64 0 ∧ wr = w) (fun _ _ _ => 0)
  case atStart => exact ⟨rfl, rfl, rfl⟩
  case round =>
    obtain ⟨rfl, rfl, rfl⟩ := hrel
    go_wp2_with fail
    go_loopw [0, 4] (fun y j w2 => ∃ (r k n : Nat) (i : Int), y = .float .f64 r ∧ j = .int .i64 i ∧ Hid (fin .f64 r ∧ fv .f64 r = (N : Rat) * pw (-(k : Int))) ∧ (k : Int) - 149 ≤ i ∧ i ≤ 0 ∧ k ≤ 149 ∧ w2 = wr.drewN n) (fun _ j _ => (intOf j + 149).toNat)
    case atStart => exact ⟨x, k0, 0, 0, rfl, rfl, HX, by omega, by omega, hk0, rfl⟩
    case round =>
      obtain ⟨r, k, n, i, rfl, rfl, hr, hi1, hi2, hk, rfl⟩ := hrel
      obtain ⟨q, q1, q2, q3, q4⟩ := whole hr.out.1 hr.out.2 h0 h1
      have hc := fun W => run_convert_float_int (P := Try.prog) W 30 3 .f64 .i64 r q (by kernel_rfl) (by kernel_rfl) q1
      have Q3 := Lib.hid q3
      have Q4 := Lib.hid q4
      clear q1 q3 q4
      cases t : feq .f64 r (floatOfInt .f64 q)
      · obtain ⟨k', rfl⟩ : ∃ k', k = k' + 1 := by
          rcases Nat.eq_zero_or_pos k with hz | hz
          · rw [Q4.out hz] at t; cases t
          · exact ⟨k - 1, by omega⟩
        have D := Lib.hid (fun w => dbl hr.out.1 hr.out.2 h1 (by omega) w)
        go_wp2_with fail
        go_roundw
        case rel => exact ⟨_, k', _, i - 1, rfl, by go_num, D.out _, by omega, by omega, by omega, rfl⟩
        case measure => simp [intOf]; omega
      · have hq1 := Q3.out t
        clear Q3 Q4
        go_wp2_with fail
        go_loopw [4, 5] (fun j m w3 => ∃ (a c : Nat), m = .int .i64 (a : Int) ∧ j = .int .i64 (i + c) ∧ a * 2 ^ c = q ∧ 1 ≤ a ∧ w3 = wr.drewN n) (fun _ m _ => (intOf m).toNat)
        case atStart => exact ⟨q, 0, rfl, by simp, by simp, hq1, rfl⟩
        case round =>
          obtain ⟨a, c, rfl, rfl, ha, ha1, rfl⟩ := hrel
          have hc24 := half_ok ha q2 ha1
          have hle : a ≤ q := by rw [← ha]; exact Nat.le_mul_of_pos_right a (Nat.two_pow_pos c)
          clear hc t
          by_cases hp : a % 2 = 0
          · obtain ⟨b, rfl⟩ : ∃ b, a = 2 * b := ⟨a / 2, by omega⟩
            have hm : decide (((2 * b : Nat) : Int) % 2 = 0) = true := by simp
            go_wp2_with fail
            go_roundw
            case rel => exact ⟨b, c + 1, by go_num, by go_num, by rw [Nat.pow_succ, ← ha, Nat.mul_comm 2 b, Nat.mul_assoc, Nat.mul_comm (2 ^ c)], by omega, trivial⟩
            case measure => simp [intOf]; omega
          · have hm : decide (((a : Nat) : Int) % 2 = 0) = false := by simp; omega
            go_wp2_with fail
            go_ret2
            exact ⟨_, _, _, rfl, by omega, by omega, by omega, by omega, rfl⟩
end Go.Proofs.Ytignncjmbcdpaaa

/-
spec.l1Number: its text is not empty.
-/
namespace Go.Proofs.Ytignncjmbcdpaaa
open Go Go.RowKit Ieee

theorem byte_text (b : Int) (W : World) : (convert 22 9 (.slice (some ⟨W.heap.size, 0, none⟩) 1 1)).run Try.prog (W.alloc (.cells #[.int .u8 b] 5)) = .ok (.string (strOfNums [b])) (W.alloc (.cells #[.int .u8 b] 5)) := by
  refine run_convert_bytes_arg _ 22 5 (by kernel_rfl) (by kernel_rfl) W.heap.size 0 1 1 [b] rfl (fun i hi => ?_) 9 (by kernel_rfl)
  have hb : (W.alloc (.cells #[.int .u8 b] 5)).heap[W.heap.size]? = some (.cells #[.int .u8 b] 5 (0, 0)) := heap_alloc_new W _
  obtain rfl : i = 0 := by omega
  exact (cell_of_row _ _ 0 _ _ (0, 0) hb).trans (by simp)
theorem join_text {a b : ByteArray} (ha : a.size ≤ 1000) (hb : b.size ≤ 1000) (W : World) : (Op.stringOp .add a b).run Try.prog W = .ok (.string (a ++ b)) W := run_string_add W a b (by omega) (by omega)

set_option maxRecDepth 100000 in
set_option maxHeartbeats 400000 in
theorem number_pos (n0 : Nat) (w : World) (h1 : n0 ≤ 1152921504606846976) : Calls Try.prog 164 #[.int .i64 n0] w fun e w' =>
    ∃ s : ByteArray, e = .returned (.string s) ∧ 1 ≤ s.size ∧ s.size ≤ 21 ∧ Below w.heap.size w w' := by
  have hconv := byte_text
  go_enter Try.func164, Try.ntmps164
  go_wp2_with fail
  have hB0 : Hid (Below w.heap.size w (w.alloc (.cells #[.int .u8 (48 + (n0 : Int) % 10)] 5))) := (Below.refl w.heap.size w).alloc (Nat.le_refl _) _
  generalize w.alloc (.cells #[.int .u8 (48 + (n0 : Int) % 10)] 5) = W0 at *
  go_loopw [0, 3] (fun n o wr => ∃ (k d : Nat) (s : ByteArray), n = .int .i64 (k : Int) ∧ o = .string s ∧ k ≤ n0 ∧ Hid (k < 10 ^ d ∧ s.size + d ≤ 21 ∧ 1 ≤ s.size) ∧ Hid (Below w.heap.size w wr)) (fun n _ _ => (intOf n).toNat)
  case atStart => exact ⟨n0 / 10, 18, _, by go_num, rfl, by omega, ⟨by omega, by rw [strOfNums_size]; simp, by rw [strOfNums_size]; simp⟩, hB0⟩
  case round =>
    obtain ⟨k, d, s, rfl, rfl, hk, hs, hb⟩ := hrel
    have hadd := fun b => join_text (a := strOfNums [b]) (b := s) (by rw [strOfNums_size]; simp) (by have := hs.out; omega)
    by_cases h0 : 0 < k
    · go_wp2_with fail
      go_roundw
      case rel =>
        obtain ⟨hs1, hs2, hs3⟩ := hs.out
        obtain ⟨d, rfl⟩ : ∃ e, d = e + 1 := by
          rcases Nat.eq_zero_or_pos d with hz | hz
          · subst hz; omega
          · exact ⟨d - 1, by omega⟩
        refine ⟨k / 10, d, _, by go_num, rfl, by omega, ⟨?_, ?_, ?_⟩, hb.out.alloc hb.out.size _⟩
        · rw [Nat.pow_succ] at hs1; omega
        · rw [ByteArray.size_append, strOfNums_size]; simp; omega
        · rw [ByteArray.size_append, strOfNums_size]; simp
      case measure => simp [intOf]; omega
    · go_wp2_with fail
      go_ret
      exact ⟨s, rfl, hs.out.2.2, by have := hs.out; omega, hb.out⟩

set_option maxRecDepth 100000 in
set_option maxHeartbeats 400000 in
theorem number_any (n : Int) (w : World) (h0 : -1152921504606846976 ≤ n) (h1 : n ≤ 1152921504606846976) : Calls Try.prog 164 #[.int .i64 n] w fun e w' =>
    ∃ s : ByteArray, e = .returned (.string s) ∧ 1 ≤ s.size ∧ s.size ≤ 22 ∧ Below w.heap.size w w' := by
  by_cases hn : 0 ≤ n
  · obtain ⟨k, rfl⟩ := Int.eq_ofNat_of_zero_le hn
    refine (number_pos k w (by omega)).mono ?_
    rintro e w' ⟨s, rfl, h2, h3, hb⟩
    exact ⟨s, rfl, h2, by omega, hb⟩
  · obtain ⟨k, hk⟩ : ∃ k : Nat, -n = k := Int.eq_ofNat_of_zero_le (by omega)
    have hneg : decide (n < 0) = true := by simp; omega
    go_enter Try.func164, Try.ntmps164
    go_wp2_with fail
    refine (number_pos k _ (by omega)).mono ?_
    rintro e w' ⟨s, rfl, h2, h3, hb⟩
    have hadd := join_text (a := ⟨#[45]⟩) (b := s) (by decide) (by omega)
    go_wp2_with fail
    go_ret
    exact ⟨_, rfl, by rw [ByteArray.size_append]; omega, by rw [ByteArray.size_append]; have : (ByteArray.mk #[45]).size = 1 := rfl; omega, hb⟩
end Go.Proofs.Ytignncjmbcdpaaa

/-
spec.FormatSingle of a number from 0 to 1; spec.l7Limits.
-/
namespace Go.Proofs.Ytignncjmbcdpaaa
open Go Go.RowKit Ieee

/-- A positive number of single precision that is at most 1. -/
theorem pos_parts {r : Nat} (hr : fin .f32 r) (h0 : 0 < fv .f32 r) (h1 : fv .f32 r ≤ 1) : ∃ N k : Nat, fv .f32 r = (N : Rat) * pw (-(k : Int)) ∧ 0 < N ∧ N < 2 ^ 24 ∧ k ≤ 149 := by
  obtain ⟨s, m, e, hrd⟩ := hr
  obtain ⟨b1, b2, b3, b4, _⟩ := read_bounds FloatKind.f32.format (by decide) hrd
  have e1 : FloatKind.f32.format.leastPlace = -149 := by decide +kernel
  have e2 : FloatKind.f32.format.binade = 8388608 := by decide +kernel
  rw [e1] at b1
  rw [e2] at b2
  have hv : fv .f32 r = if s = true then -mval m e else mval m e := by unfold fv; rw [hrd, dval_num]
  have hm0 := mval_nonneg m e
  have hs : s = false := by
    cases s
    · rfl
    · simp only [if_true] at hv; exfalso; grind
  subst hs
  simp only [Bool.false_eq_true, if_false] at hv
  rw [hv] at h0 h1
  have hm : 0 < m := by
    rcases Nat.eq_zero_or_pos m with hz | hz
    · subst hz; rw [mval_zero] at h0; grind
    · exact hz
  have he : e ≤ 0 := by
    rcases Int.lt_or_le 0 e with h | h
    · exfalso
      have h2 : mval 1 1 ≤ mval m e := by
        refine Rat.le_trans (mval_le (e := 1) hm) ?_
        exact Rat.mul_le_mul_of_nonneg_left (pw_mono (by omega)) Rat.natCast_nonneg
      have h3 : mval 1 1 = 2 := by unfold mval pw; grind
      grind
    · exact h
  refine ⟨m, (-e).toNat, ?_, hm, by omega, by omega⟩
  rw [hv, show -(((-e).toNat : Nat) : Int) = e by omega]; rfl

theorem sign_flt (w : World) : flt .f64 (fR .quo .f64 4607182418800017408 0 w) 0 = false ∧ flt .f64 (fR .quo .f64 4607182418800017408 9223372036854775808 w) 0 = true := by
  have h1 : floatBits .quo .f64 4607182418800017408 0 = some 9218868437227405312 := by decide +kernel
  have h2 : floatBits .quo .f64 4607182418800017408 9223372036854775808 = some 18442240474082181120 := by decide +kernel
  constructor
  · unfold fR; rw [h1]
    show flt .f64 9218868437227405312 0 = false
    decide +kernel
  · unfold fR; rw [h2]
    show flt .f64 18442240474082181120 0 = true
    decide +kernel

/-- What FormatDouble returns: the text of -0, or another. -/
def TextPost (x : Nat) (w : World) (e : Ending) (w' : World) : Prop :=
  ∃ s : ByteArray, e = .returned (.string s) ∧ (s.toList == [45, 48]) = signB x ∧ Below w.heap.size w w'
theorem not_minus {s : ByteArray} (h : s.size ≠ 2) : (s.toList == [45, 48]) = false := by
  cases hc : (s.toList == [45, 48])
  · rfl
  · exfalso
    have := eq_of_beq hc
    rw [ByteArray.toList_eq] at this
    have h2 := congrArg List.length this
    simp at h2
    exact h h2
theorem sign_pos {x : Nat} (hx : fin .f64 x) (hw : wfk .f64 x) (h : 0 < fv .f64 x) : signB x = false := by
  obtain ⟨s, m, e, hr⟩ := hx
  obtain ⟨_, _, _, _, _, h6⟩ := read_bounds FloatKind.f64.format (by decide) hr
  have hs : FloatKind.f64.format.signWeight = 9223372036854775808 := by decide +kernel
  rw [hs] at h6
  have hm0 := mval_nonneg m e
  have hv : fv .f64 x = if s = true then -mval m e else mval m e := by unfold fv; rw [hr, dval_num]
  cases hc : signB x
  · rfl
  · exfalso
    have h1 : 9223372036854775808 ≤ x := of_decide_eq_true hc
    rw [wfk_64] at hw
    have : s = true := by rw [h6]; simp; omega
    subst this
    simp only [if_true] at hv
    grind

set_option maxRecDepth 100000 in
set_option maxHeartbeats 400000 in
theorem format_any (x r : Nat) (w : World) (hx : fin .f64 x) (hw : wfk .f64 x) (hv : fv .f64 x = fv .f32 r) (hr : fin .f32 r) (h0 : 0 ≤ fv .f32 r) (h1 : fv .f32 r ≤ 1) :
    Calls Try.prog 159 #[.float .f64 x] w (TextPost x w) := by
  obtain ⟨z1, z2⟩ := zero_fin .f64
  have hfin : feq .f64 (fo .sub .f64 x x) 0 = true := by rw [fin_sub]; exact (finB_iff x).2 hx
  cases t : feq .f64 x 0
  · have hpos : 0 < fv .f32 r := by
      rcases Rat.le_iff_lt_or_eq.1 h0 with h | h
      · exact h
      · have : feq .f64 x 0 = true := (feq_iff hx z1).2 (by rw [hv, z2, ← h])
        rw [this] at t; cases t
    have hsg : signB x = false := sign_pos hx hw (by rw [hv]; exact hpos)
    have hlt : flt .f64 x 0 = false := by
      cases hc : flt .f64 x 0
      · rfl
      · have := (flt_iff hx z1).1 hc
        rw [z2, hv] at this; grind
    obtain ⟨N, k, p1, p2, p3, p4⟩ := pos_parts hr hpos h1
    obtain ⟨a1, a2⟩ := absB_fin hx
    have a3 : fv .f64 (absB x) = (N : Rat) * pw (-(k : Int)) := by rw [a2, hv, ab_of_nonneg h0, p1]
    have PA := Lib.hid (fun w => parts_any (absB x) N k w a1 a3 p2 p3 p4)
    have SG := Lib.hid hsg
    clear a1 a2 a3 p1 p2 p3 p4 hsg hv hr h0 h1 hpos hx
    go_enter Try.func159, Try.ntmps159
    go_wp2_with fail
    refine (l1Finite_any x _).mono ?_
    rintro e w' ⟨n1, rfl, rfl⟩
    rw [hfin]
    go_wp2_with fail
    refine (l1Abs_any x _).mono ?_
    rintro e w' ⟨rfl, rfl⟩
    go_wp2_with fail
    refine (PA.out _).mono ?_
    rintro e w' ⟨m, j, n2, rfl, m1, m2, j1, j2, rfl⟩
    go_wp2_with fail
    refine (number_any m _ (by omega) (by omega)).mono ?_
    rintro e w1 ⟨s1, rfl, l1, l2, hb1⟩
    have HB1 : Hid (Below w.heap.size w w1) := (below_drewN (Below.refl _ _) _).trans hb1
    have hadd1 := join_text (a := ⟨#[]⟩) (b := s1) (by decide) (by omega)
    have hsz1 : ((⟨#[]⟩ : ByteArray) ++ s1).size = s1.size := by rw [ByteArray.size_append]; have : (ByteArray.mk #[]).size = 0 := rfl; omega
    generalize (⟨#[]⟩ : ByteArray) ++ s1 = u1 at *
    have hadd2 := join_text (a := u1) (b := ⟨#[112]⟩) (by omega) (by decide)
    have hsz2 : (u1 ++ (⟨#[112]⟩ : ByteArray)).size = u1.size + 1 := by rw [ByteArray.size_append]; rfl
    generalize u1 ++ (⟨#[112]⟩ : ByteArray) = u2 at *
    clear hb1
    go_wp2_with fail
    refine (number_any j _ (by omega) (by omega)).mono ?_
    rintro e w2 ⟨s2, rfl, l3, l4, hb2⟩
    have HB2 : Hid (Below w.heap.size w w2) := HB1.out.trans (hb2.mono HB1.out.size)
    have hadd3 := join_text (a := u2) (b := s2) (by omega) (by omega)
    have hsz3 : (u2 ++ s2).size = u2.size + s2.size := ByteArray.size_append
    generalize u2 ++ s2 = u3 at *
    clear hb2
    go_wp2_with fail
    go_ret
    exact ⟨u3, rfl, by rw [SG.out]; exact not_minus (by omega), HB2.out⟩
  · rcases feq_zero hw t with rfl | rfl
    · have s0 := fun w => (sign_flt w).1
      go_enter Try.func159, Try.ntmps159
      go_wp2_with fail
      refine (l1Finite_any _ _).mono ?_
      rintro e w' ⟨n1, rfl, rfl⟩
      rw [hfin]
      go_wp2_with fail
      go_ret
      exact ⟨_, rfl, by rw [not_minus (by decide)]; decide, below_drewN (Below.refl _ _) _⟩
    · have s0 := fun w => (sign_flt w).2
      go_enter Try.func159, Try.ntmps159
      go_wp2_with fail
      refine (l1Finite_any _ _).mono ?_
      rintro e w' ⟨n1, rfl, rfl⟩
      rw [hfin]
      go_wp2_with fail
      go_ret
      exact ⟨_, rfl, by rw [ByteArray.toList_eq]; decide, below_drewN (Below.refl _ _) _⟩
end Go.Proofs.Ytignncjmbcdpaaa

/-
spec.l7Limits, spec.LimitSamples.
-/
namespace Go.Proofs.Ytignncjmbcdpaaa
open Go Go.RowKit Ieee

theorem range_val {r : Nat} (h1 : fge .f32 r 0 = true) (h2 : fle .f32 r 1065353216 = true) : 0 ≤ fv .f32 r ∧ fv .f32 r ≤ 1 := by
  have hr := fin_range h1 h2
  obtain ⟨z1, z2⟩ := zero_fin .f32
  have ho : FloatKind.f32.format.read 1065353216 = .number false 8388608 (-23) := by decide +kernel
  obtain ⟨o1, o2⟩ := fin_of_read (k := .f32) ho
  have o3 : fv .f32 1065353216 = 1 := by
    rw [o2, dval_num]
    unfold mval pw
    simp only [Bool.false_eq_true, if_false]
    grind
  have g1 := (fge_iff hr z1).1 h1
  have g2 := (fle_iff hr o1).1 h2
  rw [z2] at g1
  rw [o3] at g2
  exact ⟨g1, g2⟩

set_option maxHeartbeats 400000 in
theorem single_text (r : Nat) (w : World) (_hw : wfk .f32 r) (h1 : fge .f32 r 0 = true) (h2 : fle .f32 r 1065353216 = true) : Calls Try.prog 133 #[.float .f32 r] w fun e w' =>
    ∃ s : ByteArray, e = .returned (.string s) ∧ (s.toList == [45, 48]) = signB (wid r) ∧ Below w.heap.size w w' := by
  have hr := fin_range h1 h2
  obtain ⟨v1, v2⟩ := range_val h1 h2
  have hc := cR_wid_fin hr
  have F := Lib.hid (fun w => format_any (wid r) r w (wid_fin hr).1 (wid_lt _) (wid_fin hr).2 hr v1 v2)
  clear h1 h2 hr v1 v2
  go_enter Try.func133, Try.ntmps133
  go_wp2_with fail
  refine (F.out _).mono ?_
  rintro e w' ⟨s, rfl, hs, hb⟩
  go_wp2_with fail
  go_ret
  exact ⟨s, rfl, hs, (below_drewN (Below.refl _ _) _).trans hb⟩

set_option maxHeartbeats 400000 in
theorem limits_any (c r : Nat) (w : World) (_hcw : wfk .f32 c) (hrw : wfk .f32 r) :
    Calls Try.prog 84 #[.float .f32 c, .float .f32 r] w fun e w' => e = .returned (.bool (limOk c r)) ∧ Below w.heap.size w w' := by
  have HL : Hid (limOk c r = (finB (wid c) && fgt .f32 c 0 && fge .f32 r 0 && fle .f32 r 1065353216 && !signB (wid r))) := rfl
  have Hf := Lib.hid (fun w => (by rw [fin_sub, finB_nrm (by rw [nrm_wid, nrm_cv (by decide)] : nrm .f64 (cR .f32 c .f64 w) = nrm .f64 (wid c))] : feq .f64 (fo .sub .f64 (cR .f32 c .f64 w) (cR .f32 c .f64 w)) 0 = finB (wid c)))
  cases h2 : fgt .f32 c 0
  · have e3 : limOk c r = false := by rw [HL.out, h2, Bool.and_false]; rfl
    have E3 := Lib.hid e3
    clear HL e3
    go_enter Try.func84, Try.ntmps84
    go_wp2_with fail
    go_ret
    exact ⟨by rw [E3.out]; rfl, Below.refl _ _⟩
  cases h1 : finB (wid c)
  · have e3 : limOk c r = false := by rw [HL.out, h1]; rfl
    have E3 := Lib.hid e3
    clear HL e3
    go_enter Try.func84, Try.ntmps84
    go_wp2_with fail
    refine (l1Finite_any _ _).mono ?_
    rintro e w' ⟨n1, rfl, rfl⟩
    rw [Hf.out, h1]
    go_wp2_with fail
    go_ret
    exact ⟨by rw [E3.out]; rfl, below_drewN (Below.refl _ _) _⟩
  cases h3 : fge .f32 r 0
  · have e3 : limOk c r = false := by rw [HL.out, h1, h2, h3]; rfl
    have E3 := Lib.hid e3
    clear HL e3
    go_enter Try.func84, Try.ntmps84
    go_wp2_with fail
    refine (l1Finite_any _ _).mono ?_
    rintro e w' ⟨n1, rfl, rfl⟩
    rw [Hf.out, h1]
    go_wp2_with fail
    go_ret
    exact ⟨by rw [E3.out]; rfl, below_drewN (Below.refl _ _) _⟩
  cases h4 : fle .f32 r 1065353216
  · have e3 : limOk c r = false := by rw [HL.out, h1, h2, h3, h4]; rfl
    have E3 := Lib.hid e3
    clear HL e3
    go_enter Try.func84, Try.ntmps84
    go_wp2_with fail
    refine (l1Finite_any _ _).mono ?_
    rintro e w' ⟨n1, rfl, rfl⟩
    rw [Hf.out, h1]
    go_wp2_with fail
    go_ret
    exact ⟨by rw [E3.out]; rfl, below_drewN (Below.refl _ _) _⟩
  · have e3 : limOk c r = !signB (wid r) := by rw [HL.out, h1, h2, h3, h4]; rfl
    have E3 := Lib.hid e3
    have T := Lib.hid (fun w => single_text r w hrw h3 h4)
    clear HL e3
    go_enter Try.func84, Try.ntmps84
    go_wp2_with fail
    refine (l1Finite_any _ _).mono ?_
    rintro e w' ⟨n1, rfl, rfl⟩
    rw [Hf.out, h1]
    go_wp2_with fail
    refine (T.out _).mono ?_
    rintro e w' ⟨s, rfl, hs, hb⟩
    have HB : Hid (Below w.heap.size w w') := (below_drewN (Below.refl _ _) _).trans hb
    clear hb
    go_wp2_with fail
    go_ret
    exact ⟨by rw [E3.out]; rfl, HB.out⟩

set_option maxRecDepth 100000 in
set_option maxHeartbeats 600000 in
theorem specLimit_any (A : Option Addr) (cp c r : Nat) (xs : List Nat) (w : World) (hcw : wfk .f32 c) (hrw : wfk .f32 r) (hrd : Rd w A (f32s xs)) (hm : xs.length ≤ 1048576) (hwf : ∀ i, i < xs.length → wfk .f32 (xs.getD i 0)) :
    Calls Try.prog 30 #[.slice A xs.length cp, .float .f32 c, .float .f32 r] w (LimitPost c r xs w) := by
  cases hok : limOk c r
  · have HOK := Lib.hid hok
    clear hok
    go_enter Try.func30, Try.ntmps30
    go_wp2_with fail
    refine (limits_any c r _ hcw hrw).mono ?_
    rintro e w' ⟨rfl, hb⟩
    rw [HOK.out]
    go_wp2_with fail
    go_ret2
    unfold LimitPost
    exact ⟨none, 0, [], by rw [HOK.out]; rfl, ⟨rfl, .inl ⟨rfl, rfl⟩⟩, by rw [HOK.out]; rfl, hb⟩
  have HOK := Lib.hid hok
  clear hok
  go_enter Try.func30, Try.ntmps30
  go_wp2_with fail
  refine (limits_any c r _ hcw hrw).mono ?_
  rintro e W1 ⟨rfl, hbW⟩
  rw [HOK.out]
  go_wp2_with fail
  have hb0 : Below w.heap.size w (W1.alloc (.cells #[] 25)) := hbW.alloc hbW.size _
  have hown0 : (W1.alloc (.cells #[] 25)).ownsRow w.heap.size 25 1 (.slice (some ⟨W1.heap.size, 0, none⟩) 0 0) 0 [] := by
    obtain ⟨h1, h2⟩ := owns_empty W1 25
    refine ⟨h1, ?_⟩
    rcases h2 with h2 | ⟨g, cap, cur, e1, e2, e3⟩
    · exact .inl h2
    · exact .inr ⟨g, cap, cur, e1, Nat.le_trans hbW.size e2, e3⟩
  have HW := Lib.hid hwf
  have H0 : Hid (limited xs c r [] 0) := ⟨rfl, fun i h => absurd h (Nat.not_lt_zero _)⟩
  clear hwf hbW
  go_loopw [8, 9, 21] (fun v ev i wr => ∃ (k E : Nat) (ys : List Nat), i = .int .i64 k ∧ k ≤ xs.length ∧ ev = .float .f32 E ∧ Hid (nrm .f32 E = nrm .f32 (envAt xs r k)) ∧ Hid (limited xs c r ys k) ∧ wr.ownsRow w.heap.size 25 1 v k (f32s ys) ∧ Below w.heap.size w wr) (fun _ _ i _ => xs.length - (intOf i).toNat)
  case atStart => exact ⟨0, 0, [], rfl, by omega, rfl, rfl, H0, hown0, hb0⟩
  case round =>
    clear hb0 hown0 H0
    obtain ⟨k, E, ys, rfl, hk, rfl, HE, Hl, hown, hb⟩ := hrel
    by_cases hlt : k < xs.length
    · have hrd' := hrd.below hb
      obtain ⟨b, off, rfl, hbk, hcell⟩ := hrd' (by simp; omega)
      have e1 := hcell k _ (f32s_at hlt)
      have hxk := HW.out k hlt
      obtain ⟨x, hx⟩ : ∃ x, xs.getD k 0 = x := ⟨_, rfl⟩
      rw [hx] at e1 hxk
      have Hx := Lib.hid hx
      have Hxk := Lib.hid hxk
      clear hcell hrd hrd' hx hxk
      go_wp2_with fail
      refine (spec_limitNext E x c r _ Hxk.out).mono ?_
      rintro e w' ⟨s, g, m, rfl, hs1, hg1, hs2, hg2, rfl⟩
      have hb2 := below_drewN hb m
      have hown2 : (wr.drewN m).ownsRow w.heap.size 25 1 u8 k (f32s ys) := hown
      have Hs1 := Lib.hid hs1
      have HE2 := Lib.hid (env_next HE.out Hx.out hg1)
      clear hb hown hs1 hg1 e1 hbk
      generalize wr.drewN m = W2 at *
      have hsz := hb2.size
      have hL2 : Hid (limited xs c r (ys ++ [s]) (k + 1)) := limited_snoc Hl.out (by rw [Hs1.out, Hx.out]; exact limS_congr HE.out) hs2
      go_wp2_with (at_builtin; refine wpList_app1 rfl (.tmp 34) (.tmp 36) 23 rfl w.heap.size 25 (.float .f32 0) 4 Try.underlying23 f32_info rfl u8 k (f32s ys) _ rfl rfl rfl hown2 hsz (by omega) (by omega) ?_; intro v' w' hown' hbel')
      have hb3 := hb2.trans hbel'
      have hown3 : w'.ownsRow w.heap.size 25 1 v' (k + 1) (f32s (ys ++ [s])) := by simpa [f32s] using hown'
      clear hbel' hown' hb2 hown2 hsz
      go_roundw
      case rel => exact ⟨k + 1, g, ys ++ [s], by go_num, by omega, rfl, HE2, hL2, hown3, hb3⟩
      case measure => simp [intOf]; omega
    · obtain rfl : k = xs.length := by omega
      go_wp2
      go_ret2
      obtain ⟨A', cap, hv, hl, hrd2⟩ := own_rd hown
      subst hv
      have hl' := Hl.out.1
      unfold LimitPost
      exact ⟨A', cap, ys, by rw [hl', HOK.out]; rfl, by rw [hl']; exact hown, by rw [HOK.out]; exact Hl.out, hb⟩
end Go.Proofs.Ytignncjmbcdpaaa

/-
Rows of the call's own: marked, held, kept.
-/
namespace Go.Proofs.Ytignncjmbcdpaaa
open Go Go.RowKit Ieee

theorem some_lt {W : World} {i : Nat} {o : Obj} (h : W.heap[i]? = some o) : i < W.heap.size := by
  rcases Nat.lt_or_ge i W.heap.size with h1 | h1
  · exact h1
  · rw [Array.getElem?_eq_none h1] at h; cases h
/-- A slice of single precision whose block lies from 'lo' on and below 'hi'. -/
def Own (w : World) (lo hi : Nat) (A : Option Addr) (c : Nat) (xs : List Nat) : Prop :=
  w.ownsRow lo 25 1 (.slice A xs.length c) xs.length (f32s xs) ∧ ∀ k, (Value.slice A xs.length c).ownBlock = some k → k < hi
theorem Own.keep {w w' : World} {lo hi : Nat} {A : Option Addr} {c : Nat} {xs : List Nat} (h : Own w lo hi A c xs) (hk : ∀ j, lo ≤ j → j < hi → w'.heap[j]? = w.heap[j]?) : Own w' lo hi A c xs := by
  obtain ⟨⟨h1, h2⟩, h3⟩ := h
  refine ⟨⟨h1, ?_⟩, h3⟩
  rcases h2 with h2 | ⟨g, cap, cur, e1, e2, e3, e4⟩
  · exact .inl h2
  · refine .inr ⟨g, cap, cur, e1, e2, (hk g e2 (h3 g (by rw [e1]; rfl))).trans e3, e4⟩
theorem Own.below {w w' : World} {lo hi B : Nat} {A : Option Addr} {c : Nat} {xs : List Nat} (h : Own w lo hi A c xs) (hb : Below B w w') (hB : hi ≤ B) : Own w' lo hi A c xs :=
  h.keep fun j _ hj => hb.block j (by omega)
theorem Own.drewN {w : World} {lo hi : Nat} {A : Option Addr} {c : Nat} {xs : List Nat} (h : Own w lo hi A c xs) (n : Nat) : Own (w.drewN n) lo hi A c xs := h
theorem Own.of {w : World} {lo : Nat} {A : Option Addr} {c n : Nat} {xs : List Nat} (h : w.ownsRow lo 25 1 (.slice A n c) n (f32s xs)) (hn : xs.length = n) : Own w lo w.heap.size A c xs := by
  subst hn
  refine ⟨h, fun k hk => ?_⟩
  rcases h.2 with ⟨e, _⟩ | ⟨g, cap, cur, e1, e2, e3, e4⟩
  · rw [e] at hk; cases hk
  · rw [e1] at hk
    have : g = k := by injection hk
    subst this
    exact some_lt e3
theorem Own.rd {w : World} {lo hi : Nat} {A : Option Addr} {c : Nat} {xs : List Nat} (h : Own w lo hi A c xs) : Rd w A (f32s xs) := by
  obtain ⟨A', cap, e, _, hr⟩ := own_rd h.1
  injection e with e1 e2 e3
  subst e1
  exact hr
theorem MadeRow.own {w w' : World} {xs : List Nat} (h : MadeRow w w' 25 (f32s xs)) (hm : xs.length ≤ 1048576) : Own w' w.heap.size w'.heap.size (some ⟨w.heap.size, 0, none⟩) xs.length xs := by
  obtain ⟨cs, rfl, hc⟩ := h
  have hs : cs.size = xs.length := by rw [← Array.length_toList, hc]; simp
  refine Own.of (n := xs.length) ⟨by simp, .inr ⟨w.heap.size, xs.length, cs, rfl, Nat.le_refl _, heap_alloc_new w _, Nat.le_refl _, ?_, by rw [hs]; simp, ?_⟩⟩ rfl
  · simp only [maxLen]; omega
  · rw [hc, List.take_of_length_le (by simp)]
/-- The marks: k, k + 1, ... -/
def marks (k n : Nat) : List Nat := (List.range n).map fun (j : Nat) => floatOfInt .f32 ((k : Int) + (j : Int))
theorem marks_len (k n : Nat) : (marks k n).length = n := by simp [marks]
theorem marks_at {k n j : Nat} (h : j < n) : (marks k n).getD j 0 = floatOfInt .f32 ((k : Int) + (j : Int)) := by simp [marks, List.getD, h]
theorem mark_fin {k : Nat} (h : k ≤ 2000000) (j : Nat) (hj : j ≤ 2000000) : feq .f32 (floatOfInt .f32 ((k : Int) + (j : Int))) (floatOfInt .f32 ((k : Int) + (j : Int))) = true := by
  rw [feq_self, fin_num (int_exact .f32 _ (by have : FloatKind.f32.format.binade = 8388608 := by decide +kernel
                                              rw [this]; omega)).1]
  rfl

set_option maxHeartbeats 400000 in
theorem mark_gen (lo hi c : Nat) (A : Option Addr) (xs : List Nat) (k0 : Nat) (w : World) (h : Own w lo hi A c xs) (hm : xs.length ≤ 1048576) (hk0 : k0 ≤ 2000000) :
    Calls Try.prog 33 #[.slice A xs.length c, .int .i64 k0] w fun e w' => e = .returned (.int .i64 ((k0 : Int) + (xs.length : Int))) ∧ Own w' lo hi A c (marks k0 xs.length) ∧
      w'.os = w.os ∧ w'.tape = w.tape ∧ w'.output = w.output ∧ w'.heap.size = w.heap.size ∧ ∀ j, (j < lo ∨ hi ≤ j) → w'.heap[j]? = w.heap[j]? := by
  obtain ⟨⟨h1, h2⟩, h3⟩ := h
  rcases h2 with ⟨e, h0⟩ | ⟨g, cap, cur, e1, e2, e3, e4, e5, e6, e7⟩
  · injection e with q1 q2 q3
    subst q1 q3
    have hx : xs = [] := List.eq_nil_of_length_eq_zero h0
    subst hx
    go_enter Try.func33, Try.ntmps33
    go_wp2_with fail
    go_loopw [1, 5] (fun k i wr => k = .int .i64 k0 ∧ i = .int .i64 0 ∧ wr = w) (fun _ _ _ => 0)
    case atStart => exact ⟨rfl, rfl, rfl⟩
    case round =>
      obtain ⟨rfl, rfl, rfl⟩ := hrel
      go_wp2_with fail
      go_ret
      exact ⟨by simp, ⟨⟨rfl, .inl ⟨rfl, rfl⟩⟩, fun k hk => by cases hk⟩, rfl, rfl, rfl, rfl, fun _ _ => rfl⟩
  · injection e1 with q1 q2 q3
    subst q1 q3
    have hgl := some_lt e3
    have hgh : g < hi := h3 g rfl
    have hrow : w.rowIs g 25 c (fun i => if i < 0 then .float .f32 (floatOfInt .f32 ((k0 : Int) + (i : Int))) else cur.getD i undef) :=
      ⟨cur, e3, by simpa using e6, fun i hi' => by simp [Array.getElem?_eq_getElem (show i < cur.size by simp at e6; omega)]⟩
    clear e3 e6 e7 h1 h3
    go_enter Try.func33, Try.ntmps33
    go_wp2_with fail
    go_loopw [1, 5] (fun k i wr => ∃ j : Nat, k = .int .i64 ((k0 : Int) + (j : Int)) ∧ i = .int .i64 (j : Int) ∧ j ≤ xs.length ∧ wr.rowIs g 25 c (fun i => if i < j then .float .f32 (floatOfInt .f32 ((k0 : Int) + (i : Int))) else cur.getD i undef) ∧
      Hid (wr.os = w.os ∧ wr.tape = w.tape ∧ wr.output = w.output ∧ wr.heap.size = w.heap.size ∧ ∀ j, j ≠ g → wr.heap[j]? = w.heap[j]?)) (fun _ i _ => xs.length - (intOf i).toNat)
    case atStart => exact ⟨0, by simp, rfl, by omega, hrow, rfl, rfl, rfl, rfl, fun _ _ => rfl⟩
    case round =>
      clear hrow
      obtain ⟨j, rfl, rfl, hj, hrow, hw⟩ := hrel
      by_cases hlt : j < xs.length
      · have c1 := hrow.cell (i := j) (by omega)
        have c2 := hrow.frozen j
        have Hset := Lib.hid (hrow.set j (.float .f32 (floatOfInt .f32 ((k0 : Int) + (j : Int)))))
        clear hrow
        go_wp2_with fail
        go_roundw
        case rel =>
          refine ⟨j + 1, by go_num, by go_num, by omega, Hset.out.congr fun i hi' => ?_, ?_⟩
          · show (if i = j then _ else _) = _
            by_cases e : i = j
            · subst e; rw [if_pos rfl, if_pos (by omega)]
            · rw [if_neg e]
              by_cases e' : i < j
              · rw [if_pos e', if_pos (by omega)]
              · rw [if_neg e', if_neg (by omega)]
          · obtain ⟨w1, w2, w3, w4, w5⟩ := hw.out
            exact ⟨w1, w2, w3, by rw [← w4]; simp, fun i hi' => (Below.heap_setCell _ _ _ _ hi').trans (w5 i hi')⟩
        case measure => simp [intOf]; omega
      · obtain rfl : j = xs.length := by omega
        go_wp2_with fail
        go_ret
        obtain ⟨w1, w2, w3, w4, w5⟩ := hw.out
        obtain ⟨cs, k1, k2, k3⟩ := hrow
        refine ⟨rfl, ⟨⟨by simp [marks_len], .inr ⟨g, c, cs, by rw [marks_len], e2, k1, by rw [marks_len]; exact e4, e5, by rw [k2]; simp, ?_⟩⟩, fun k hk => by injection hk with hk; subst hk; exact hgh⟩, w1, w2, w3, w4, fun i hi' => w5 i (by omega)⟩
        apply List.ext_getElem?
        intro i
        rw [marks_len, Nat.mul_one, List.getElem?_take]
        by_cases hi' : i < xs.length
        · rw [if_pos hi', Array.getElem?_toList, k3 i (by omega)]; show some (if i < xs.length then _ else _) = _; rw [if_pos hi', f32s_at (by rw [marks_len]; exact hi'), marks_at hi']
        · rw [if_neg hi', List.getElem?_eq_none (by simp [marks_len]; omega)]

theorem mark_any (lo hi c : Nat) (A : Option Addr) (xs : List Nat) (k0 : Nat) (w : World) (h : Own w lo hi A c xs) (hm : xs.length ≤ 1048576) (hk0 : k0 ≤ 10) :
    Calls Try.prog 33 #[.slice A xs.length c, .int .i64 k0] w fun e w' => e = .returned (.int .i64 ((k0 : Int) + (xs.length : Int))) ∧ Own w' lo hi A c (marks k0 xs.length) ∧
      w'.os = w.os ∧ w'.tape = w.tape ∧ w'.output = w.output ∧ w'.heap.size = w.heap.size ∧ ∀ j, (j < lo ∨ hi ≤ j) → w'.heap[j]? = w.heap[j]? := mark_gen lo hi c A xs k0 w h hm (by omega)

set_option maxHeartbeats 400000 in
theorem held_any (A : Option Addr) (c n k0 : Nat) (w : World) (hr : Rd w A (f32s (marks k0 n))) (hm : n ≤ 1048576) (hk0 : k0 ≤ 10) :
    Calls Try.prog 34 #[.slice A n c, .int .i64 k0] w fun e w' => e = .returned (.int .i64 ((k0 : Int) + (n : Int))) ∧ w = w' := by
  go_enter Try.func34, Try.ntmps34
  go_wp2_with fail
  go_loopw [1, 5] (fun k i wr => ∃ j : Nat, k = .int .i64 ((k0 : Int) + (j : Int)) ∧ i = .int .i64 (j : Int) ∧ j ≤ n ∧ wr = w) (fun _ i _ => n - (intOf i).toNat)
  case atStart => exact ⟨0, by simp, rfl, by omega, rfl⟩
  case round =>
    obtain ⟨j, rfl, rfl, hj, rfl⟩ := hrel
    by_cases hlt : j < n
    · obtain ⟨b, off, rfl, hb, hc⟩ := hr (by simp [marks_len]; omega)
      have e1 := hc j _ (f32s_at (by rw [marks_len]; exact hlt))
      rw [marks_at hlt] at e1
      have hf := mark_fin (k := k0) (by omega) j (by omega)
      clear hc
      go_wp2_with fail
      go_roundw
      case rel => exact ⟨j + 1, by go_num, by go_num, by omega, by first | rfl | trivial⟩
      case measure => simp [intOf]; omega
    · obtain rfl : j = n := by omega
      go_wp2_with fail
      go_ret
      exact ⟨rfl, rfl⟩
end Go.Proofs.Ytignncjmbcdpaaa

/-
Arguments opened: slices of floats, floats.
-/
namespace Go.Proofs.Ytignncjmbcdpaaa
open Go Go.RowKit Go.ChangeShapes Go.WideShapes

theorem own : ownKnob Try.prog.godebug = none := by kernel_rfl
theorem laidOut : laidOutB Try.prog = true := by kernel_rfl

section
variable {H : Type} {enc : TypeId × Value → H} {P : Program} {w : World} {base fuel : Nat} {spare : Nat → Bool} {held : Bool} {t e : TypeId} {cs : List Value} {x : DataW H × List MemPlace}

theorem trod_float {k : FloatKind} (ht : P.underlying t = some (.float k)) (h : DataW.trod enc P w base spare held fuel t cs = some x) :
    ∃ b, cs = [.float k b] ∧ x = (.lit (.float k b), []) ∧ (Lit.float k b).wf = true := by
  cases fuel with
  | zero => simp [DataW.trod] at h
  | succ n =>
    unfold DataW.trod at h
    rw [ht] at h
    split at h <;> simp_all

theorem addr_add_spot (a : Addr) (hs : a.spot = none) (i : Nat) : a.add i = ⟨a.block, a.off + i, none⟩ := by
  obtain ⟨b, o, s⟩ := a
  subst hs
  unfold Addr.add
  by_cases h : i = 0
  · subst h; simp
  · simp [h]

theorem cell_lt {w : World} {p : Addr} {v : Value} (h : w.cell? p = some v) : p.block < w.heap.size := by
  unfold World.cell? at h
  rcases Nat.lt_or_ge p.block w.heap.size with h1 | h1
  · exact h1
  · rw [Array.getElem?_eq_none h1] at h; cases h

/-- A slice of floats that came in. -/
theorem open_floats {k : FloatKind} {v : Value} {d : DataW H} {ps : List MemPlace} {A : Option Addr} {len cap : Nat} (hv : v = .slice A len cap) (ht : P.underlying t = some (.slice e)) (he : P.underlying e = some (.float k)) (hc : P.cellsOf e = 1)
    (h : DataW.Trod enc P w base spare held t v d ps) : ∃ bs : List Nat, bs.length = len ∧ len ≤ maxLen ∧ Rd w A (bs.map (.float k)) ∧ ∀ i, i < len → wfk k (bs.getD i 0) := by
  obtain ⟨fuel, hf⟩ := h
  subst hv
  rcases Deep.open_slice1 ht hc hf with ⟨hcs, _⟩ | ⟨a, l, c, m, n, V, D, Pl, hcs, hb, hl, hm, hmm, _, hx⟩
  · simp [Value.cells] at hcs
    obtain ⟨rfl, rfl, rfl⟩ := hcs
    exact ⟨[], rfl, by simp, fun h => by simp at h, fun i hi => absurd hi (Nat.not_lt_zero _)⟩
  · simp [Value.cells] at hcs
    obtain ⟨rfl, rfl, rfl⟩ := hcs
    have hlm : len ≤ m := by rw [hmm]; split <;> omega
    obtain ⟨F, hF⟩ := Deep.choose_lt (n := len) (p := fun i b => V i = .float k b ∧ (Lit.float k b).wf = true) (fun i hi => by
      obtain ⟨_, h2⟩ := hx i (by omega)
      obtain ⟨b, h3, _, h4⟩ := trod_float he h2
      exact ⟨b, by simpa using h3, h4⟩)
    refine ⟨(List.range len).map F, by simp, by omega, fun h0 => ?_, fun i hi => ?_⟩
    · have h0 : 0 < len := by simpa using h0
      have hs : a.spot = none := by
        have := World.cell?_spot (hx 0 (by omega)).1
        simpa [Addr.add] using this
      have hcell := (hx 0 (by omega)).1
      rw [addr_add_spot a hs] at hcell
      refine ⟨a.block, a.off, ?_, cell_lt (p := ⟨a.block, a.off + 0, none⟩) hcell, fun j u hu => ?_⟩
      · obtain ⟨b, o, s⟩ := a
        subst hs; rfl
      · have hj : j < len := by
          rcases Nat.lt_or_ge j len with h1 | h1
          · exact h1
          · rw [List.getElem?_eq_none (by simpa using h1)] at hu; cases hu
        have h1 := (hx j (by omega)).1
        rw [addr_add_spot a hs, (hF j hj).1] at h1
        rw [h1]
        simpa [List.getElem?_range hj] using hu
    · have := (hF i hi).2
      have e1 : ((List.range len).map F).getD i 0 = F i := by simp [List.getD, hi]
      rw [e1]
      exact wfk_lit this

/-- A slice of bytes that came in. -/
theorem open_bytes {v : Value} {d : DataW H} {ps : List MemPlace} {A : Option Addr} {len cap : Nat} (hv : v = .slice A len cap) (ht : P.underlying t = some (.slice e)) (he : P.underlying e = some (.int .u8)) (hc : P.cellsOf e = 1)
    (h : DataW.Trod enc P w base spare held t v d ps) : ∃ bs : List Int, bs.length = len ∧ len ≤ maxLen ∧ Rd w A (bs.map (.int .u8)) ∧ ∀ i, i < len → 0 ≤ bs.getD i 0 ∧ bs.getD i 0 ≤ 255 := by
  obtain ⟨fuel, hf⟩ := h
  subst hv
  rcases Deep.open_slice1 ht hc hf with ⟨hcs, _⟩ | ⟨a, l, c, m, n, V, D, Pl, hcs, hb, hl, hm, hmm, _, hx⟩
  · simp [Value.cells] at hcs
    obtain ⟨rfl, rfl, rfl⟩ := hcs
    exact ⟨[], rfl, by simp, fun h => by simp at h, fun i hi => absurd hi (Nat.not_lt_zero _)⟩
  · simp [Value.cells] at hcs
    obtain ⟨rfl, rfl, rfl⟩ := hcs
    have hlm : len ≤ m := by rw [hmm]; split <;> omega
    obtain ⟨F, hF⟩ := Deep.choose_lt (n := len) (p := fun i b => V i = .int .u8 b ∧ (Lit.int .u8 b).wf = true) (fun i hi => by
      obtain ⟨_, h2⟩ := hx i (by omega)
      obtain ⟨b, h3, _, h4⟩ := DataW.trod_int he h2
      exact ⟨b, by simpa using h3, h4⟩)
    refine ⟨(List.range len).map F, by simp, by omega, fun h0 => ?_, fun i hi => ?_⟩
    · have h0 : 0 < len := by simpa using h0
      have hs : a.spot = none := by
        have := World.cell?_spot (hx 0 (by omega)).1
        simpa [Addr.add] using this
      have hcell := (hx 0 (by omega)).1
      rw [addr_add_spot a hs] at hcell
      refine ⟨a.block, a.off, ?_, cell_lt (p := ⟨a.block, a.off + 0, none⟩) hcell, fun j u hu => ?_⟩
      · obtain ⟨b, o, s⟩ := a
        subst hs; rfl
      · have hj : j < len := by
          rcases Nat.lt_or_ge j len with h1 | h1
          · exact h1
          · rw [List.getElem?_eq_none (by simpa using h1)] at hu; cases hu
        have h1 := (hx j (by omega)).1
        rw [addr_add_spot a hs, (hF j hj).1] at h1
        rw [h1]
        simpa [List.getElem?_range hj] using hu
    · have h1 := (hF i hi).2
      have e1 : ((List.range len).map F).getD i 0 = F i := by simp [List.getD, hi]
      rw [e1]
      simpa [Lit.wf, IntKind.min, IntKind.max, IntKind.signed, IntKind.bits] using h1
end
end Go.Proofs.Ytignncjmbcdpaaa

/-
A slice of slices of single precision that came in.
-/
namespace Go.Proofs.Ytignncjmbcdpaaa
open Go Go.RowKit Ieee

/-- A row: where it lies, its capacity, its words. -/
abbrev Row := Option Addr × Nat × List Nat
def rowV (r : Row) : Value := .slice r.1 r.2.2.length r.2.1
def rowAt (rs : List Row) (i : Nat) : Row := rs.getD i (none, 0, [])
def RdSS (w : World) (A : Option Addr) (rs : List Row) : Prop := Rd w A (rs.map rowV) ∧ ∀ i, i < rs.length → Rd w (rowAt rs i).1 (f32s (rowAt rs i).2.2)
theorem RdSS.below {w w' : World} {A : Option Addr} {rs : List Row} (h : RdSS w A rs) (hb : Below w.heap.size w w') : RdSS w' A rs := ⟨h.1.below hb, fun i hi => (h.2 i hi).below hb⟩
theorem rowV_at {rs : List Row} {k : Nat} (h : k < rs.length) : (rs.map rowV)[k]? = some (rowV (rowAt rs k)) := by
  simp [rowAt, List.getD, List.getElem?_eq_getElem h]

section
variable {H : Type} {enc : TypeId × Value → H} {P : Program} {w : World} {base : Nat} {spare : Nat → Bool} {held : Bool} {t e q : TypeId}
theorem open_rows {v : Value} {d : DataW H} {ps : List MemPlace} {A : Option Addr} {len cap : Nat} (hv : v = .slice A len cap) (ht : P.underlying t = some (.slice e)) (he : P.underlying e = some (.slice q)) (hq : P.underlying q = some (.float .f32))
    (ce : P.cellsOf e = 1) (cq : P.cellsOf q = 1)
    (h : DataW.Trod enc P w base spare held t v d ps) : ∃ rs : List Row, rs.length = len ∧ len ≤ maxLen ∧ RdSS w A rs ∧ ∀ i, i < len → (rowAt rs i).2.2.length ≤ maxLen ∧ ∀ j, j < (rowAt rs i).2.2.length → wfk .f32 ((rowAt rs i).2.2.getD j 0) := by
  obtain ⟨fuel, hf⟩ := h
  subst hv
  rcases Deep.open_slice1 ht ce hf with ⟨hcs, _⟩ | ⟨a, l, c, m, n, V, D, Pl, hcs, hb, hl, hm, hmm, _, hx⟩
  · simp [Value.cells] at hcs
    obtain ⟨rfl, rfl, rfl⟩ := hcs
    exact ⟨[], rfl, by simp, ⟨fun h => by simp at h, fun i hi => by simp at hi⟩, fun i hi => absurd hi (Nat.not_lt_zero _)⟩
  · simp [Value.cells] at hcs
    obtain ⟨rfl, rfl, rfl⟩ := hcs
    have hlm : len ≤ m := by rw [hmm]; split <;> omega
    obtain ⟨F, hF⟩ := Deep.choose_lt (n := len) (p := fun i (r : Row) => V i = rowV r ∧ Rd w r.1 (f32s r.2.2) ∧ r.2.2.length ≤ maxLen ∧ ∀ j, j < r.2.2.length → wfk .f32 (r.2.2.getD j 0)) (fun i hi => by
      obtain ⟨_, h2⟩ := hx i (by omega)
      obtain ⟨A', l', c', hV⟩ : ∃ A' l' c', V i = .slice A' l' c' := by
        rcases Deep.open_slice1 he cq h2 with ⟨h3, _⟩ | ⟨a', l', c', _, _, _, _, _, h3, _⟩
        · exact ⟨none, 0, 0, by simpa using h3⟩
        · exact ⟨some a', l', c', by simpa using h3⟩
      have hT : DataW.Trod enc P w base spare held e (.slice A' l' c') (D i) (Pl i) := ⟨n, by rw [hV] at h2; simpa [Value.cells] using h2⟩
      obtain ⟨bs, hb1, hb2, hb3, hb4⟩ := open_floats rfl he hq cq hT
      exact ⟨(A', c', bs), by rw [hV]; simp [rowV, hb1], hb3, by simpa [hb1] using hb2, fun j hj => hb4 j (by simpa [hb1] using hj)⟩)
    have hat : ∀ i, i < len → rowAt ((List.range len).map F) i = F i := fun i hi => by simp [rowAt, List.getD, hi]
    refine ⟨(List.range len).map F, by simp, by omega, ⟨fun h0 => ?_, fun i hi => ?_⟩, fun i hi => ?_⟩
    · have h0 : 0 < len := by simpa using h0
      have hs : a.spot = none := by
        have := World.cell?_spot (hx 0 (by omega)).1
        simpa [Addr.add] using this
      have hcell := (hx 0 (by omega)).1
      rw [addr_add_spot a hs] at hcell
      refine ⟨a.block, a.off, ?_, cell_lt (p := ⟨a.block, a.off + 0, none⟩) hcell, fun j u hu => ?_⟩
      · obtain ⟨b, o, s⟩ := a
        subst hs; rfl
      · have hj : j < len := by
          rcases Nat.lt_or_ge j len with h1 | h1
          · exact h1
          · rw [List.getElem?_eq_none (by simpa using h1)] at hu; cases hu
        have h1 := (hx j (by omega)).1
        rw [addr_add_spot a hs, (hF j hj).1] at h1
        rw [h1]
        simpa [List.getElem?_range hj] using hu
    · have hi : i < len := by simpa using hi
      rw [hat i hi]; exact (hF i hi).2.1
    · rw [hat i hi]; exact (hF i hi).2.2
end
end Go.Proofs.Ytignncjmbcdpaaa

/-
Slices of slices of single precision: laws.szFloat32SS, toFloat32SS, eqFloat32SS, markFloat32SS.
-/
namespace Go.Proofs.Ytignncjmbcdpaaa
open Go Go.RowKit Ieee

theorem setCell_size (W : World) (a : Addr) (v : Value) : (W.setCell a v).heap.size = W.heap.size := by simp
/-- How many words the first rows have. -/
def totL (rs : List Row) : Nat → Nat
  | 0 => 0
  | k + 1 => totL rs k + (rowAt rs k).2.2.length
theorem totL_mono (rs : List Row) {j k : Nat} (h : j ≤ k) : totL rs j ≤ totL rs k := by
  induction k with
  | zero => obtain rfl : j = 0 := by omega
            exact Nat.le_refl _
  | succ k ih =>
    rcases Nat.lt_or_ge j (k + 1) with h1 | h1
    · have := ih (by omega); show _ ≤ totL rs k + _; omega
    · obtain rfl : j = k + 1 := by omega
      exact Nat.le_refl _
theorem totL_row (rs : List Row) {i n : Nat} (h : i < n) : (rowAt rs i).2.2.length ≤ totL rs n := by
  have := totL_mono rs (show i + 1 ≤ n by omega)
  have e : totL rs (i + 1) = totL rs i + (rowAt rs i).2.2.length := rfl
  omega

set_option maxHeartbeats 400000 in
theorem sz1_any (A : Option Addr) (c n : Nat) (left : Int) (w : World) (hn : n ≤ maxLen) (h0 : 0 ≤ left) (h1 : left ≤ 1048576) :
    Calls Try.prog 93 #[.slice A n c, .int .i64 left] w fun e w' => e = .returned (.int .i64 (if left < n then -1 else left - n)) ∧ w = w' := by
  simp only [maxLen] at hn
  by_cases h : left < n
  · rw [if_pos h]
    go_enter Try.func93, Try.ntmps93
    go_wp2
    go_ret
    exact ⟨rfl, rfl⟩
  · rw [if_neg h]
    go_enter Try.func93, Try.ntmps93
    go_wp2
    go_ret
    exact ⟨rfl, rfl⟩

set_option maxHeartbeats 400000 in
theorem szSS_any (A : Option Addr) (c : Nat) (rs : List Row) (w : World) (hr : RdSS w A rs) (hn : rs.length ≤ maxLen) (hl : ∀ i, i < rs.length → (rowAt rs i).2.2.length ≤ maxLen) :
    Calls Try.prog 38 #[.slice A rs.length c, .int .i64 1048576] w fun e w' => ∃ L : Int, e = .returned (.int .i64 L) ∧ (0 ≤ L → rs.length + totL rs rs.length ≤ 1048576) ∧ w = w' := by
  have hn' := hn
  simp only [maxLen] at hn'
  have Hl := Lib.hid hl
  clear hl
  by_cases h0 : (1048576 : Int) < rs.length
  · go_enter Try.func38, Try.ntmps38
    go_wp2
    go_ret
    exact ⟨-1, rfl, by omega, rfl⟩
  · go_enter Try.func38, Try.ntmps38
    go_wp2_with fail
    go_loopw [1, 5] (fun l i wr => ∃ k : Nat, i = .int .i64 (k : Int) ∧ l = .int .i64 (1048576 - (rs.length : Int) - (totL rs k : Int)) ∧ k ≤ rs.length ∧ Hid (0 ≤ 1048576 - (rs.length : Int) - (totL rs k : Int)) ∧ wr = w) (fun _ i _ => rs.length - (intOf i).toNat)
    case atStart => exact ⟨0, rfl, by simp [totL], by omega, by simp only [totL]; show 0 ≤ 1048576 - (rs.length : Int) - ((0 : Nat) : Int); omega, rfl⟩
    case round =>
      obtain ⟨k, rfl, rfl, hk, hL, rfl⟩ := hrel
      by_cases hlt : k < rs.length
      · obtain ⟨b, off, rfl, hb, hc⟩ := hr.1 (by simp; omega)
        have e1 := hc k _ (rowV_at hlt)
        have hlen := Hl.out k hlt
        have H := hL.out
        have Ht : Hid (totL rs (k + 1) = totL rs k + (rowAt rs k).2.2.length) := rfl
        clear hc
        unfold rowV at e1
        generalize (rowAt rs k).2.2.length = m at *
        generalize (rowAt rs k).1 = A' at *
        generalize (rowAt rs k).2.1 = c' at *
        generalize totL rs k = T at *
        go_wp2_with fail
        refine (sz1_any A' c' m _ _ hlen (by omega) (by omega)).mono ?_
        rintro e w' ⟨rfl, rfl⟩
        by_cases hd : 1048576 - (rs.length : Int) - (T : Int) < m
        · rw [if_pos hd]
          go_wp2_with fail
          go_ret
          exact ⟨-1, rfl, by omega, rfl⟩
        · rw [if_neg hd]
          go_wp2_with fail
          go_roundw
          case rel => exact ⟨k + 1, by go_num, by rw [Ht.out]; simp; omega, by omega, by rw [Ht.out]; show 0 ≤ 1048576 - (rs.length : Int) - ((T + m : Nat) : Int); omega, trivial⟩
          case measure => simp [intOf]; omega
      · obtain rfl : k = rs.length := by omega
        have H := hL.out
        go_wp2_with fail
        go_ret
        exact ⟨_, rfl, by omega, rfl⟩

theorem row_info : (Try.prog.info? 23).map (fun i => (i.zero, i.size, i.bytes)) = some (some (.slice none 0 0), 1, 24) := by kernel_rfl
/-- The rows of a copy whose outer block is b. -/
def copyRows (b : Nat) (rs : List Row) : List Row := (List.range rs.length).map fun i => (some ⟨b + 1 + i, 0, none⟩, (rowAt rs i).2.2.length, (rowAt rs i).2.2)
theorem copyRows_len (b : Nat) (rs : List Row) : (copyRows b rs).length = rs.length := by simp [copyRows]
theorem copyRows_at {b : Nat} {rs : List Row} {i : Nat} (h : i < rs.length) : rowAt (copyRows b rs) i = (some ⟨b + 1 + i, 0, none⟩, (rowAt rs i).2.2.length, (rowAt rs i).2.2) := by
  show (copyRows b rs).getD i (none, 0, []) = _
  simp [copyRows, List.getD, h]
/-- A copy: the outer block b, then a block a row. -/
structure CopySS (w : World) (b : Nat) (rs : List Row) : Prop where
  top : w.rowIs b 23 rs.length (fun i => rowV (rowAt (copyRows b rs) i))
  rows : ∀ i, i < rs.length → Own w (b + 1 + i) (b + 2 + i) (some ⟨b + 1 + i, 0, none⟩) (rowAt rs i).2.2.length (rowAt rs i).2.2
theorem CopySS.rd {w : World} {b : Nat} {rs : List Row} (h : CopySS w b rs) : RdSS w (some ⟨b, 0, none⟩) (copyRows b rs) := by
  refine ⟨fun h0 => ⟨b, 0, rfl, h.top.lt, fun k u hu => ?_⟩, fun i hi => ?_⟩
  · have hk : k < rs.length := by
      rcases Nat.lt_or_ge k rs.length with h1 | h1
      · exact h1
      · rw [List.getElem?_eq_none (by simpa [copyRows] using h1)] at hu; cases hu
    rw [rowV_at (by rw [copyRows_len]; exact hk)] at hu
    rw [Nat.zero_add, h.top.cell hk]; exact hu
  · rw [copyRows_len] at hi
    rw [copyRows_at hi]
    exact (h.rows i hi).rd
theorem CopySS.keep {w w' : World} {b : Nat} {rs : List Row} (h : CopySS w b rs) (hk : ∀ j, b ≤ j → j < b + 1 + rs.length → w'.heap[j]? = w.heap[j]?) : CopySS w' b rs :=
  ⟨h.top.of_block (hk b (Nat.le_refl _) (by omega)), fun i hi => (h.rows i hi).keep fun j h1 h2 => hk j (by omega) (by omega)⟩
theorem CopySS.below {w w' : World} {b B : Nat} {rs : List Row} (h : CopySS w b rs) (hb : Below B w w') (hB : b + 1 + rs.length ≤ B) : CopySS w' b rs :=
  h.keep fun j _ hj => hb.block j (by omega)

set_option maxRecDepth 100000 in
set_option maxHeartbeats 400000 in
theorem toFF_any (A : Option Addr) (c : Nat) (rs : List Row) (w : World) (hr : RdSS w A rs) (hn : rs.length ≤ 1048576) (hl : ∀ i, i < rs.length → (rowAt rs i).2.2.length ≤ 1048576) :
    Calls Try.prog 40 #[.slice A rs.length c] w fun e w' => e = .returned (.slice (some ⟨w.heap.size, 0, none⟩) rs.length rs.length) ∧ CopySS w' w.heap.size rs ∧ Below w.heap.size w w' ∧ w'.heap.size = w.heap.size + 1 + rs.length := by
  have hmk := fun W => run_make_row' (P := Try.prog) 56 23 (.slice none 0 0) 24 Try.underlying56 row_info rfl .i64 .i64 rs.length (by omega) (by omega) W
  have Hl := Lib.hid hl
  clear hl
  go_enter Try.func40, Try.ntmps40
  go_wp2_with fail
  have T0 : (w.alloc (.cells (madeCells #[.slice none 0 0] rs.length) 23)).rowIs w.heap.size 23 rs.length (fun i => if i < 0 then rowV (rowAt (copyRows w.heap.size rs) i) else .slice none 0 0) :=
    (World.rowIs_made w (.slice none 0 0) rs.length 23).congr fun i _ => by rw [if_neg (by omega)]
  have B0 : Hid (Below w.heap.size w (w.alloc (.cells (madeCells #[.slice none 0 0] rs.length) 23))) := (Below.refl w.heap.size w).alloc (Nat.le_refl _) _
  have Z0 : Hid ((w.alloc (.cells (madeCells #[.slice none 0 0] rs.length) 23)).heap.size = w.heap.size + 1 + 0) := by show (w.alloc _).heap.size = _; simp
  generalize w.alloc (.cells (madeCells #[.slice none 0 0] rs.length) 23) = W0 at *
  go_loopw [4] (fun i wr => ∃ k : Nat, i = .int .i64 (k : Int) ∧ k ≤ rs.length ∧ wr.rowIs w.heap.size 23 rs.length (fun i => if i < k then rowV (rowAt (copyRows w.heap.size rs) i) else .slice none 0 0) ∧
    Hid (∀ i, i < k → Own wr (w.heap.size + 1 + i) (w.heap.size + 2 + i) (some ⟨w.heap.size + 1 + i, 0, none⟩) (rowAt rs i).2.2.length (rowAt rs i).2.2) ∧ Hid (Below w.heap.size w wr) ∧ Hid (wr.heap.size = w.heap.size + 1 + k)) (fun i _ => rs.length - (intOf i).toNat)
  case atStart => exact ⟨0, rfl, by omega, T0, fun i hi => absurd hi (Nat.not_lt_zero _), B0, Z0⟩
  case round =>
    clear T0 B0 Z0
    obtain ⟨k, rfl, hk, hT, hO, hB, hZ⟩ := hrel
    by_cases hlt : k < rs.length
    · have hr' := Lib.hid (hr.below hB.out)
      obtain ⟨b, off, rfl, hb, hc⟩ := hr'.out.1 (by simp; omega)
      have e1 := hc k _ (rowV_at hlt)
      have hrow := Lib.hid (hr'.out.2 k hlt)
      have hlen := Hl.out k hlt
      have hcp := Lib.hid (copyRows_at (b := w.heap.size) hlt)
      clear hc hr'
      unfold rowV at e1
      go_wp2_with fail
      refine (toF32_any _ _ _ _ hrow.out hlen).mono ?_
      rintro e W' ⟨rfl, hm⟩
      have T1 : W'.rowIs w.heap.size 23 rs.length (fun i => if i < k then rowV (rowAt (copyRows w.heap.size rs) i) else .slice none 0 0) :=
        hT.of_block (hm.below.block _ (by have := hZ.out; omega))
      have O1 : Hid (∀ i, i < k → Own W' (w.heap.size + 1 + i) (w.heap.size + 2 + i) (some ⟨w.heap.size + 1 + i, 0, none⟩) (rowAt rs i).2.2.length (rowAt rs i).2.2) :=
        fun i hi => (hO.out i hi).below hm.below (by have := hZ.out; omega)
      have O2 : Hid (Own W' (w.heap.size + 1 + k) (w.heap.size + 2 + k) (some ⟨w.heap.size + 1 + k, 0, none⟩) (rowAt rs k).2.2.length (rowAt rs k).2.2) := by
        have := hm.own hlen
        rw [hm.size, hZ.out] at this
        rw [show w.heap.size + 2 + k = w.heap.size + 1 + k + 1 by omega]; exact this
      have B1 : Hid (Below w.heap.size w W') := hB.out.trans (hm.below.mono (by have := hZ.out; omega))
      have Z1 : Hid (W'.heap.size = w.heap.size + 1 + (k + 1)) := by show W'.heap.size = _; rw [hm.size, hZ.out]; omega
      have hz := hZ.out
      rw [hz]
      have c1 := T1.cell hlt
      have c2 := T1.frozen k
      have Tset := Lib.hid (T1.set k (.slice (some ⟨w.heap.size + 1 + k, 0, none⟩) (rowAt rs k).2.2.length (rowAt rs k).2.2.length))
      clear hT hO hB hZ hm T1 e1
      go_wp2_with fail
      go_roundw
      case rel =>
        refine ⟨k + 1, by go_num, by omega, Tset.out.congr fun i hi => ?_, fun i hi => ?_, B1.out.setCell (Nat.le_refl _) _, (setCell_size _ _ _).trans Z1.out⟩
        · show (if i = k then _ else _) = _
          by_cases e : i = k
          · subst e; rw [if_pos rfl, if_pos (by omega), hcp.out]; rfl
          · rw [if_neg e]
            by_cases e' : i < k
            · rw [if_pos e', if_pos (by omega)]
            · rw [if_neg e', if_neg (by omega)]
        · have hk2 : ∀ j, w.heap.size + 1 + i ≤ j → j < w.heap.size + 2 + i → (W'.setCell ⟨w.heap.size, k, none⟩ (.slice (some ⟨w.heap.size + 1 + k, 0, none⟩) (rowAt rs k).2.2.length (rowAt rs k).2.2.length)).heap[j]? = W'.heap[j]? :=
            fun j h1 h2 => Below.heap_setCell _ _ _ _ (by show j ≠ w.heap.size; omega)
          rcases Nat.lt_or_ge i k with h | h
          · exact (O1.out i h).keep hk2
          · obtain rfl : i = k := by omega
            exact O2.out.keep hk2
      case measure => simp [intOf]; omega
    · obtain rfl : k = rs.length := by omega
      go_wp2_with fail
      go_ret
      exact ⟨rfl, ⟨hT.congr fun i hi => if_pos hi, hO.out⟩, hB.out, hZ.out⟩

set_option maxHeartbeats 400000 in
theorem eqFF_any (A B : Option Addr) (c d : Nat) (rs qs : List Row) (w : World) (hr : RdSS w A rs) (hq : RdSS w B qs) (hn : rs.length ≤ 1048576) (hl : qs.length = rs.length)
    (hw : ∀ i, i < rs.length → (rowAt qs i).2.2 = (rowAt rs i).2.2 ∧ (rowAt rs i).2.2.length ≤ 1048576 ∧ ∀ j, j < (rowAt rs i).2.2.length → wfk .f32 ((rowAt rs i).2.2.getD j 0)) :
    Calls Try.prog 42 #[.slice A rs.length c, .slice B qs.length d] w fun e w' => e = .returned (.bool true) ∧ ∃ n, w.drewN n = w' := by
  have Hw := Lib.hid hw
  have Hln := Lib.hid hl
  rw [hl]
  clear hw hl
  go_enter Try.func42, Try.ntmps42
  go_wp2_with fail
  go_loopw [5] (fun i wr => ∃ k n : Nat, i = .int .i64 (k : Int) ∧ k ≤ rs.length ∧ wr = w.drewN n) (fun i _ => rs.length - (intOf i).toNat)
  case atStart => exact ⟨0, 0, rfl, by omega, rfl⟩
  case round =>
    obtain ⟨k, n, rfl, hk, rfl⟩ := hrel
    by_cases hlt : k < rs.length
    · obtain ⟨b, off, rfl, hb, hc⟩ := hr.1 (by simp; omega)
      obtain ⟨b', off', rfl, hb', hc'⟩ := hq.1 (by simp; have := Hln.out; omega)
      have e1 := hc k _ (rowV_at hlt)
      have e2 := hc' k _ (rowV_at (by rw [Hln.out]; exact hlt))
      obtain ⟨w1, w2, w3⟩ := Hw.out k hlt
      have E := Lib.hid (fun W h1 h2 => eqF32_any (rowAt rs k).1 (rowAt qs k).1 (rowAt rs k).2.1 (rowAt qs k).2.1 _ (rowAt rs k).2.2 (rowAt qs k).2.2 W h1 h2 w2 rfl (by rw [w1]) (fun i hi => ⟨w3 i hi, by rw [w1]; exact w3 i hi, by rw [w1]; unfold sameB; simp⟩))
      have R1 := Lib.hid (hr.2 k hlt)
      have R2 := Lib.hid (hq.2 k (by rw [Hln.out]; exact hlt))
      unfold rowV at e1 e2
      rw [w1] at e2
      clear hc hc' w1 w2 w3
      have E2 := Lib.hid (fun W h1 h2 => (E.out W h1 h2).mono fun e w' h => (h : e = .returned (.bool true) ∧ ∃ j, W.drewN j = w'))
      go_wp2_with fail
      refine wp_region_rx (by kernel_rfl) (by kernel_rfl) ?_; apply Exists.intro
      repeat (first | (apply wpR_val; intro K hK; go_simp; refine ⟨rfl, hK _ ?_⟩; clear hK K) | (apply wpR_skip; intro K hK; go_simp; refine hK _ ?_; clear hK K))
      apply wpR_val (v := .bool true); intro K hK; go_simp; refine ⟨fun m => rcall (E2.out _ (R1.out.drewN _) (R2.out.drewN _)), hK _ ?_⟩; clear hK K
      repeat (first | (apply wpR_val; intro K hK; go_simp; refine ⟨rfl, hK _ ?_⟩; clear hK K) | (apply wpR_skip; intro K hK; go_simp; refine hK _ ?_; clear hK K))
      apply wpR_nil (Rs := []); rintro _ ⟨nq, rfl⟩
      go_wp2_with fail
      go_roundw
      case rel => exact ⟨k + 1, _, by go_num, by omega, rfl⟩
      case measure => simp [intOf]; omega
    · obtain rfl : k = rs.length := by omega
      go_wp2_with fail
      go_ret
      exact ⟨rfl, _, rfl⟩

set_option maxHeartbeats 400000 in
theorem markFF_any (b : Nat) (rs : List Row) (w : World) (h : CopySS w b rs) (hn : rs.length + totL rs rs.length ≤ 1048576) :
    Calls Try.prog 43 #[.slice (some ⟨b, 0, none⟩) rs.length rs.length, .int .i64 1] w fun e w' => e = .returned (.int .i64 (1 + (totL rs rs.length : Int))) ∧
      w'.os = w.os ∧ w'.tape = w.tape ∧ w'.output = w.output ∧ w'.heap.size = w.heap.size ∧ ∀ j, (j < b ∨ b + 1 + rs.length ≤ j) → w'.heap[j]? = w.heap[j]? := by
  have HT := Lib.hid h.top
  have HR := Lib.hid h.rows
  clear h
  go_enter Try.func43, Try.ntmps43
  go_wp2_with fail
  go_loopw [1, 5] (fun l i wr => ∃ k : Nat, i = .int .i64 (k : Int) ∧ l = .int .i64 (1 + (totL rs k : Int)) ∧ k ≤ rs.length ∧ Hid (wr.rowIs b 23 rs.length (fun i => rowV (rowAt (copyRows b rs) i))) ∧
    Hid (∀ i, k ≤ i → i < rs.length → Own wr (b + 1 + i) (b + 2 + i) (some ⟨b + 1 + i, 0, none⟩) (rowAt rs i).2.2.length (rowAt rs i).2.2) ∧
    Hid (wr.os = w.os ∧ wr.tape = w.tape ∧ wr.output = w.output ∧ wr.heap.size = w.heap.size ∧ ∀ j, (j < b ∨ b + 1 + rs.length ≤ j) → wr.heap[j]? = w.heap[j]?)) (fun _ i _ => rs.length - (intOf i).toNat)
  case atStart => exact ⟨0, rfl, by simp [totL], by omega, HT, fun i _ hi => HR.out i hi, rfl, rfl, rfl, rfl, fun _ _ => rfl⟩
  case round =>
    obtain ⟨k, rfl, rfl, hk, hT, hO, hW⟩ := hrel
    by_cases hlt : k < rs.length
    · have e1 := hT.out.cell hlt
      rw [copyRows_at hlt] at e1
      unfold rowV at e1
      have ht := totL_row rs hlt
      have ht2 := totL_mono rs hk
      have htn : Hid (totL rs (k + 1) = totL rs k + (rowAt rs k).2.2.length) := rfl
      go_wp2_with fail
      refine (mark_gen (b + 1 + k) (b + 2 + k) _ _ _ (1 + totL rs k) _ (hO.out k (Nat.le_refl _) hlt) (by omega) (by omega)).mono ?_
      rintro e w' ⟨rfl, _, k1, k2, k3, k4, k5⟩
      have HK := Lib.hid (And.intro k1 (And.intro k2 (And.intro k3 (And.intro k4 k5))))
      clear k1 k2 k3 k4 k5 e1
      go_wp2_with fail
      go_roundw
      case rel =>
        obtain ⟨k1, k2, k3, k4, k5⟩ := HK.out
        obtain ⟨m1, m2, m3, m4, m5⟩ := hW.out
        refine ⟨k + 1, by go_num, by rw [htn.out]; go_num, by omega, hT.out.of_block (k5 b (.inl (by omega))), fun i h1 h2 => (hO.out i (by omega) h2).keep fun j j1 j2 => k5 j (.inr (by omega)), k1.trans m1, k2.trans m2, k3.trans m3, k4.trans m4, fun j hj => (k5 j (by omega)).trans (m5 j hj)⟩
      case measure => simp [intOf]; omega
    · obtain rfl : k = rs.length := by omega
      go_wp2_with fail
      go_ret
      exact ⟨rfl, hW.out⟩
end Go.Proofs.Ytignncjmbcdpaaa

/-
MixTracks of both packages.
-/
namespace Go.Proofs.Ytignncjmbcdpaaa
open Go Go.RowKit Ieee

/-- The sum of the first rows at a place. -/
def sumAt (rs : List Row) : Nat → Nat → Nat
  | 0, _ => 0
  | k + 1, j => fo .add .f32 (sumAt rs k j) ((rowAt rs k).2.2.getD j 0)
theorem nrm_sumAt (rs : List Row) (k j : Nat) : nrm .f32 (sumAt rs k j) = sumAt rs k j := by
  cases k with
  | zero => exact (nrm_of_num (by decide +kernel) : nrm .f32 0 = 0)
  | succ k => exact nrm_fo _ _ _ _
def rowLen (rs : List Row) (i : Nat) : Nat := (rowAt rs i).2.2.length
/-- The row k added to the first m of the sums. -/
def Part (rs : List Row) (k L m : Nat) (ts : List Nat) : Prop :=
  ts.length = L ∧ ∀ j, j < L → nrm .f32 (ts.getD j 0) = (if j < m then sumAt rs (k + 1) j else sumAt rs k j) ∧ wfk .f32 (ts.getD j 0)
theorem getD_set {ts : List Nat} {m v j : Nat} (hm : m < ts.length) : (ts.set m v).getD j 0 = if j = m then v else ts.getD j 0 := by
  simp only [List.getD, List.getElem?_set]
  by_cases h : m = j
  · subst h; simp [hm]
  · rw [if_neg h, if_neg (fun e => h e.symm)]
theorem Part.set {rs : List Row} {k L m : Nat} {ts : List Nat} (h : Part rs k L m ts) (hm : m < L) {a x : Nat} (ha : nrm .f32 a = nrm .f32 (ts.getD m 0)) (hx : (rowAt rs k).2.2.getD m 0 = x) (w : World) :
    Part rs k L (m + 1) (ts.set m (fR .add .f32 a x w)) := by
  obtain ⟨h1, h2⟩ := h
  refine ⟨by simpa using h1, fun j hj => ?_⟩
  rw [getD_set (by omega)]
  by_cases e : j = m
  · subst e
    rw [if_pos rfl, if_pos (by omega)]
    refine ⟨?_, fR_lt _ _ _ _ _⟩
    have h3 := (h2 j hj).1
    rw [if_neg (by omega)] at h3
    rw [nrm_fR]
    show _ = fo .add .f32 (sumAt rs k j) ((rowAt rs k).2.2.getD j 0)
    rw [hx]
    exact fo_congr (by rw [ha, h3, nrm_sumAt]) rfl
  · rw [if_neg e]
    by_cases e' : j < m
    · rw [if_pos (by omega)]; have := h2 j hj; rwa [if_pos e'] at this
    · rw [if_neg (by omega)]; have := h2 j hj; rwa [if_neg e'] at this
theorem Part.next {rs : List Row} {k L : Nat} {ts : List Nat} (h : Part rs k L L ts) : Part rs (k + 1) L 0 ts :=
  ⟨h.1, fun j hj => by have := h.2 j hj; rw [if_pos hj] at this; rwa [if_neg (by omega)]⟩
theorem Part.zero (rs : List Row) (L : Nat) : Part rs 0 L 0 (List.replicate L 0) :=
  ⟨by simp, fun j hj => by
    rw [if_neg (by omega)]
    have e : (List.replicate L 0).getD j 0 = 0 := by simp [List.getD, hj]
    rw [e]
    exact ⟨nrm_of_num (by decide +kernel), by rw [wfk_32]; omega⟩⟩
theorem rowIs_rd {w : World} {g L : Nat} {ts : List Nat} (h : w.rowIs g 25 L (fun j => .float .f32 (ts.getD j 0))) (hl : ts.length = L) : Rd w (some ⟨g, 0, none⟩) (f32s ts) := fun _ =>
  ⟨g, 0, rfl, h.lt, fun k u hu => by
    have hk : k < ts.length := by
      rcases Nat.lt_or_ge k ts.length with h1 | h1
      · exact h1
      · rw [List.getElem?_eq_none (by simpa using h1)] at hu; cases hu
    rw [f32s_at hk] at hu
    rw [Nat.zero_add, h.cell (by omega)]; exact hu⟩
theorem rowIs_upd {w : World} {g L m v : Nat} {ts : List Nat} (h : w.rowIs g 25 L (fun j => .float .f32 (ts.getD j 0))) (hl : ts.length = L) (hm : m < L) :
    (w.setCell ⟨g, m, none⟩ (.float .f32 v)).rowIs g 25 L (fun j => .float .f32 ((ts.set m v).getD j 0)) :=
  (h.set m (.float .f32 v)).congr fun i hi => by
    show (if i = m then _ else _) = _
    rw [getD_set (by omega)]
    by_cases e : i = m
    · rw [if_pos e, if_pos e]
    · rw [if_neg e, if_neg e]

/-- What MixTracks returns. -/
def MixRes (c r : Nat) (rs : List Row) (ok : Bool) (ys : List Nat) : Prop :=
  ((∀ i, i < rs.length → rowLen rs i = rowLen rs 0) ∧ ok = limOk c r ∧ ∃ ss, Part rs rs.length (if rs.length = 0 then 0 else rowLen rs 0) 0 ss ∧ (if limOk c r = true then limited ss c r ys ss.length else ys = [])) ∨
  ((∃ i, i < rs.length ∧ rowLen rs i ≠ rowLen rs 0) ∧ ok = false ∧ ys = [])
def MixPost (c r : Nat) (rs : List Row) (w : World) (e : Ending) (w' : World) : Prop :=
  ∃ (A' : Option Addr) (c' : Nat) (ys : List Nat) (ok : Bool), e = .returned (.tuple #[.slice A' ys.length c', .bool ok]) ∧ Own w' w.heap.size w'.heap.size A' c' ys ∧ MixRes c r rs ok ys ∧ Below w.heap.size w w'
/-- The sums after so many rows. -/
structure Summed (w W : World) (rs : List Row) (k : Nat) (v : Value) (L : Nat) : Prop where
  below : Below w.heap.size w W
  row : ∃ g ss, v = .slice (some ⟨g, 0, none⟩) L L ∧ w.heap.size ≤ g ∧ W.rowIs g 25 L (fun j => .float .f32 (ss.getD j 0)) ∧ Part rs k L 0 ss

theorem owns_low {w : World} {lo lo' n : Nat} {e : TypeId} {v : Value} {xs : List Value} (h : w.ownsRow lo e 1 v n xs) (hl : lo' ≤ lo) : w.ownsRow lo' e 1 v n xs := by
  obtain ⟨h1, h2⟩ := h
  refine ⟨h1, ?_⟩
  rcases h2 with h2 | ⟨g, cap, cur, e1, e2, e3⟩
  · exact .inl h2
  · exact .inr ⟨g, cap, cur, e1, by omega, e3⟩
theorem mix_bad (c r : Nat) {rs : List Row} {k : Nat} {w W : World} (hk : k < rs.length) (hne : rowLen rs k ≠ rowLen rs 0) (hb : Below w.heap.size w W) : MixPost c r rs w (.returned (.tuple #[.slice none 0 0, .bool false])) W :=
  ⟨none, 0, [], false, rfl, ⟨⟨rfl, .inl ⟨rfl, rfl⟩⟩, fun k hk => by cases hk⟩, .inr ⟨⟨k, hk, hne⟩, rfl, rfl⟩, hb⟩
theorem mix_good {c r : Nat} {rs : List Row} {w W W' : World} {ss : List Nat} {e : Ending} (hsame : ∀ i, i < rs.length → rowLen rs i = rowLen rs 0) (hL : (if rs.length = 0 then 0 else rowLen rs 0) = ss.length) (hP : Part rs rs.length ss.length 0 ss) (hb : Below w.heap.size w W)
    (h : LimitPost c r ss W e W') : MixPost c r rs w e W' := by
  obtain ⟨A', c', ys, he, ho, hy, hb2⟩ := h
  exact ⟨A', c', ys, _, he, Own.of (owns_low ho hb.size) rfl, .inl ⟨hsame, rfl, ss, by rw [hL]; exact hP, hy⟩, hb.trans (hb2.mono hb.size)⟩

set_option maxRecDepth 100000 in
set_option maxHeartbeats 600000 in
theorem specMix_any (A : Option Addr) (cp c r : Nat) (rs : List Row) (w : World) (hcw : wfk .f32 c) (hrw : wfk .f32 r) (hr : RdSS w A rs) (hn : rs.length ≤ 1048576) (hl : ∀ i, i < rs.length → rowLen rs i ≤ 1048576)
    (hwf : ∀ i, i < rs.length → ∀ j, j < (rowAt rs i).2.2.length → wfk .f32 ((rowAt rs i).2.2.getD j 0)) :
    Calls Try.prog 39 #[.slice A rs.length cp, .float .f32 c, .float .f32 r] w (MixPost c r rs w) := by
  go_enter Try.func39, Try.ntmps39
  have HL := Lib.hid hl
  have HW := Lib.hid hwf
  have S0 : Hid (Summed w (w.alloc (.cells #[] 25)) rs 0 (.slice (some ⟨w.heap.size, 0, none⟩) 0 0) 0) :=
    ⟨(Below.refl w.heap.size w).alloc (Nat.le_refl _) _, w.heap.size, [], rfl, Nat.le_refl _, ⟨#[], heap_alloc_new w _, rfl, fun i hi => absurd hi (Nat.not_lt_zero _)⟩, rfl, fun j hj => absurd hj (Nat.not_lt_zero _)⟩
  clear hl hwf
  go_wp2_with fail
  generalize w.alloc (.cells #[] 25) = W0 at *
  go_loopw [8, 16] (fun v i wr => ∃ k : Nat, i = .int .i64 (k : Int) ∧ k ≤ rs.length ∧ Hid (Summed w wr rs k v (if k = 0 then 0 else rowLen rs 0)) ∧ Hid (∀ i, i < k → rowLen rs i = rowLen rs 0)) (fun _ i _ => rs.length - (intOf i).toNat)
  case atStart => exact ⟨0, rfl, by omega, S0, fun i hi => absurd hi (Nat.not_lt_zero _)⟩
  case round =>
    clear S0
    obtain ⟨k, rfl, hk, hS, hsame⟩ := hrel
    by_cases hlt : k < rs.length
    · obtain ⟨b, off, rfl, hb, hc⟩ := (hr.below hS.out.below).1 (by simp; omega)
      have e1 := hc k _ (rowV_at hlt)
      have hrd := Lib.hid (hr.2 k hlt)
      have hlen : Hid ((rowAt rs k).2.2.length ≤ 1048576) := HL.out k hlt
      have hlk : Hid (rowLen rs k = (rowAt rs k).2.2.length) := rfl
      obtain ⟨A', c', l, hrk⟩ : ∃ A' c' l, rowAt rs k = (A', c', l) := ⟨_, _, _, rfl⟩
      have HRK := Lib.hid hrk
      rw [hrk] at e1 hrd hlen hlk
      unfold rowV at e1
      simp only at e1 hrd hlen hlk
      have hmk := fun W => run_make_row' (P := Try.prog) 23 25 (.float .f32 0) 4 Try.underlying23 f32_info rfl .i64 .i64 l.length (by have := hlen.out; omega) (by have := hlen.out; omega) W
      clear hc hrk
      go_upto_if 22 with fail
      go_cut [8] from 23 to 48 (fun v wx => Summed w wx rs k v (rowLen rs 0))
      case first =>
        by_cases h0 : k = 0
        · subst h0
          have HB := Lib.hid hS.out.below
          go_wp2_with fail
          go_meet
          rw [hlk.out]
          exact ⟨HB.out.alloc HB.out.size _, wr.heap.size, List.replicate l.length 0, rfl, HB.out.size, (World.rowIs_made wr (.float .f32 0) l.length 25).congr fun i hi => by simp [List.getD, hi], Part.zero _ _⟩
        · have HS := hS.out
          rw [if_neg h0] at HS
          go_wp2_with fail
          go_meet
          exact HS
      case rest =>
        obtain ⟨hb, g, ss, rfl, hg, hrow, hP⟩ := hcut
        have HP := Lib.hid hP
        have HBc := Lib.hid hb
        clear hP hb hS hmk
        by_cases hd : l.length = rowLen rs 0
        · have hl2 := hlen.out
          rw [← hd] at hrow HP
          rw [← hd]
          go_wp2_with fail
          go_loopw [33] (fun i wx => ∃ (j : Nat) (ts : List Nat), i = .int .i64 (j : Int) ∧ j ≤ l.length ∧ wx.rowIs g 25 l.length (fun j => .float .f32 (ts.getD j 0)) ∧ Hid (Part rs k l.length j ts) ∧ Hid (Below w.heap.size w wx)) (fun i _ => l.length - (intOf i).toNat)
          case atStart => exact ⟨0, ss, rfl, by omega, hrow, HP, HBc⟩
          case round =>
            clear hrow HP HBc
            obtain ⟨j, ts, rfl, hj, hrow, hP, hB⟩ := hrel
            by_cases hjl : j < l.length
            · obtain ⟨b2, off2, rfl, hb2, hc2⟩ := (hrd.out.below hB.out) (by simp; omega)
              have e2 := hc2 j _ (f32s_at hjl)
              have e3 := hrow.cell hjl
              have e4 := hrow.frozen j
              obtain ⟨x, hx⟩ : ∃ x, l.getD j 0 = x := ⟨_, rfl⟩
              obtain ⟨t, ht⟩ : ∃ t, ts.getD j 0 = t := ⟨_, rfl⟩
              rw [hx] at e2
              rw [ht] at e3
              have Hx : Hid ((rowAt rs k).2.2.getD j 0 = x) := by show (rowAt rs k).2.2.getD j 0 = x; rw [HRK.out]; exact hx
              have Hup := Lib.hid (fun v => rowIs_upd (v := v) hrow hP.out.1 hjl)
              have Hpt := Lib.hid (fun W => hP.out.set hjl (a := t) (by rw [ht]) Hx.out W)
              clear hx ht hc2 hrow
              go_wp2_with fail
              go_roundw
              case rel => exact ⟨j + 1, _, by go_num, by omega, Hup.out _, Hpt.out _, (below_drewN hB.out _).setCell hg _⟩
              case measure => simp [intOf]; omega
            · obtain rfl : j = l.length := by omega
              go_wp2_with fail
              go_roundw
              case rel => exact ⟨k + 1, by go_num, by omega, (by
                rw [if_neg (by omega)]
                exact ⟨hB.out, g, ts, by rw [← hd], hg, by rw [← hd]; exact hrow, by rw [← hd]; exact hP.out.next⟩), fun i hi => (by
                rcases Nat.lt_or_ge i k with h | h
                · exact hsame.out i h
                · obtain rfl : i = k := by omega
                  rw [hlk.out, hd])⟩
              case measure => simp [intOf]; omega
        · go_wp2_with fail
          go_ret2
          exact mix_bad c r hlt (by rw [hlk.out]; exact hd) HBc.out
    · obtain rfl : k = rs.length := by omega
      have hLd : (if rs.length = 0 then 0 else rowLen rs 0) ≤ 1048576 := by
        split
        · omega
        · exact HL.out 0 (by omega)
      generalize hLdef : (if rs.length = 0 then 0 else rowLen rs 0) = L at *
      obtain ⟨hb, g, ss, rfl, hg, hrow, hP⟩ := hS.out
      obtain rfl : ss.length = L := hP.1
      have Hrd := Lib.hid (rowIs_rd hrow rfl)
      have HLd := Lib.hid hLdef
      have HP := Lib.hid hP
      have HB := Lib.hid hb
      clear hS hLdef hP hb hrow
      go_wp2_with fail
      refine (specLimit_any _ _ c r ss _ hcw hrw Hrd.out hLd (fun i hi => (HP.out.2 i hi).2)).mono ?_
      rintro e W' hlp
      have hm := Lib.hid (mix_good hsame.out HLd.out HP.out HB.out hlp)
      unfold LimitPost at hlp
      obtain ⟨A2, c2, ys, rfl, _⟩ := hlp
      go_wp2_with fail
      go_ret2
      exact hm.out
set_option maxRecDepth 100000 in
set_option maxHeartbeats 600000 in
theorem implMix_any (A : Option Addr) (cp c r : Nat) (rs : List Row) (w : World) (hcw : wfk .f32 c) (hrw : wfk .f32 r) (hr : RdSS w A rs) (hn : rs.length ≤ 1048576) (hl : ∀ i, i < rs.length → rowLen rs i ≤ 1048576)
    (hwf : ∀ i, i < rs.length → ∀ j, j < (rowAt rs i).2.2.length → wfk .f32 ((rowAt rs i).2.2.getD j 0)) :
    Calls Try.prog 41 #[.slice A rs.length cp, .float .f32 c, .float .f32 r] w (MixPost c r rs w) := by
  go_enter Try.func41, Try.ntmps41
  have HL := Lib.hid hl
  have HW := Lib.hid hwf
  have S0 : Hid (Summed w (w.alloc (.cells #[] 25)) rs 0 (.slice (some ⟨w.heap.size, 0, none⟩) 0 0) 0) :=
    ⟨(Below.refl w.heap.size w).alloc (Nat.le_refl _) _, w.heap.size, [], rfl, Nat.le_refl _, ⟨#[], heap_alloc_new w _, rfl, fun i hi => absurd hi (Nat.not_lt_zero _)⟩, rfl, fun j hj => absurd hj (Nat.not_lt_zero _)⟩
  clear hl hwf
  go_wp2_with fail
  generalize w.alloc (.cells #[] 25) = W0 at *
  go_loopw [8, 16] (fun v i wr => ∃ k : Nat, i = .int .i64 (k : Int) ∧ k ≤ rs.length ∧ Hid (Summed w wr rs k v (if k = 0 then 0 else rowLen rs 0)) ∧ Hid (∀ i, i < k → rowLen rs i = rowLen rs 0)) (fun _ i _ => rs.length - (intOf i).toNat)
  case atStart => exact ⟨0, rfl, by omega, S0, fun i hi => absurd hi (Nat.not_lt_zero _)⟩
  case round =>
    clear S0
    obtain ⟨k, rfl, hk, hS, hsame⟩ := hrel
    by_cases hlt : k < rs.length
    · obtain ⟨b, off, rfl, hb, hc⟩ := (hr.below hS.out.below).1 (by simp; omega)
      have e1 := hc k _ (rowV_at hlt)
      have hrd := Lib.hid (hr.2 k hlt)
      have hlen : Hid ((rowAt rs k).2.2.length ≤ 1048576) := HL.out k hlt
      have hlk : Hid (rowLen rs k = (rowAt rs k).2.2.length) := rfl
      obtain ⟨A', c', l, hrk⟩ : ∃ A' c' l, rowAt rs k = (A', c', l) := ⟨_, _, _, rfl⟩
      have HRK := Lib.hid hrk
      rw [hrk] at e1 hrd hlen hlk
      unfold rowV at e1
      simp only at e1 hrd hlen hlk
      have hmk := fun W => run_make_row' (P := Try.prog) 23 25 (.float .f32 0) 4 Try.underlying23 f32_info rfl .i64 .i64 l.length (by have := hlen.out; omega) (by have := hlen.out; omega) W
      have e0 : wr.cell? ⟨b, off, none⟩ = some (rowV (rowAt rs 0)) := hc 0 _ (rowV_at (by omega))
      unfold rowV at e0
      have hl0 : Hid (rowLen rs 0 = (rowAt rs 0).2.2.length) := rfl
      generalize (rowAt rs 0).2.2.length = n0 at *
      generalize (rowAt rs 0).1 = A0 at *
      generalize (rowAt rs 0).2.1 = c0 at *
      clear hc hrk
      by_cases hd0 : l.length = n0
      case neg =>
        go_wp2_with fail
        go_ret2
        exact mix_bad c r hlt (by rw [hlk.out, hl0.out]; exact hd0) hS.out.below
      subst hd0
      have hd : l.length = rowLen rs 0 := hl0.out.symm
      have HD := Lib.hid hd
      clear hd
      go_upto_if 29 with fail
      go_cut [8] from 30 to 48 (fun v wx => Summed w wx rs k v (rowLen rs 0))
      case first =>
        by_cases h0 : k = 0
        · subst h0
          have HB := Lib.hid hS.out.below
          go_wp2_with fail
          go_meet
          rw [hlk.out]
          exact ⟨HB.out.alloc HB.out.size _, wr.heap.size, List.replicate l.length 0, rfl, HB.out.size, (World.rowIs_made wr (.float .f32 0) l.length 25).congr fun i hi => by simp [List.getD, hi], Part.zero _ _⟩
        · have HS := hS.out
          rw [if_neg h0] at HS
          go_wp2_with fail
          go_meet
          exact HS
      case rest =>
        obtain ⟨hb, g, ss, rfl, hg, hrow, hP⟩ := hcut
        have HP := Lib.hid hP
        have HBc := Lib.hid hb
        clear hP hb hS hmk
        have hl2 := hlen.out
        have hd := HD.out
        rw [← hd] at hrow HP
        rw [← HD.out]
        clear hd
        go_wp2_with fail
        go_loopw [35] (fun i wx => ∃ (j : Nat) (ts : List Nat), i = .int .i64 (j : Int) ∧ j ≤ l.length ∧ wx.rowIs g 25 l.length (fun j => .float .f32 (ts.getD j 0)) ∧ Hid (Part rs k l.length j ts) ∧ Hid (Below w.heap.size w wx)) (fun i _ => l.length - (intOf i).toNat)
        case atStart => exact ⟨0, ss, rfl, by omega, hrow, HP, HBc⟩
        case round =>
          clear hrow HP HBc
          obtain ⟨j, ts, rfl, hj, hrow, hP, hB⟩ := hrel
          by_cases hjl : j < l.length
          · obtain ⟨b2, off2, rfl, hb2, hc2⟩ := (hrd.out.below hB.out) (by simp; omega)
            have e2 := hc2 j _ (f32s_at hjl)
            have e3 := hrow.cell hjl
            have e4 := hrow.frozen j
            obtain ⟨x, hx⟩ : ∃ x, l.getD j 0 = x := ⟨_, rfl⟩
            obtain ⟨t, ht⟩ : ∃ t, ts.getD j 0 = t := ⟨_, rfl⟩
            rw [hx] at e2
            rw [ht] at e3
            have Hx : Hid ((rowAt rs k).2.2.getD j 0 = x) := by show (rowAt rs k).2.2.getD j 0 = x; rw [HRK.out]; exact hx
            have Hup := Lib.hid (fun v => rowIs_upd (v := v) hrow hP.out.1 hjl)
            have Hpt := Lib.hid (fun W => hP.out.set hjl (a := t) (by rw [ht]) Hx.out W)
            clear hx ht hc2 hrow
            go_wp2_with fail
            go_roundw
            case rel => exact ⟨j + 1, _, by go_num, by omega, Hup.out _, Hpt.out _, (below_drewN hB.out _).setCell hg _⟩
            case measure => simp [intOf]; omega
          · obtain rfl : j = l.length := by omega
            go_wp2_with fail
            go_roundw
            case rel => exact ⟨k + 1, by go_num, by omega, (by
              rw [if_neg (by omega)]
              exact ⟨hB.out, g, ts, by rw [← HD.out], hg, by rw [← HD.out]; exact hrow, by rw [← HD.out]; exact hP.out.next⟩), fun i hi => (by
              rcases Nat.lt_or_ge i k with h | h
              · exact hsame.out i h
              · obtain rfl : i = k := by omega
                rw [hlk.out, HD.out])⟩
            case measure => simp [intOf]; omega
    · obtain rfl : k = rs.length := by omega
      have hLd : (if rs.length = 0 then 0 else rowLen rs 0) ≤ 1048576 := by
        split
        · omega
        · exact HL.out 0 (by omega)
      generalize hLdef : (if rs.length = 0 then 0 else rowLen rs 0) = L at *
      obtain ⟨hb, g, ss, rfl, hg, hrow, hP⟩ := hS.out
      obtain rfl : ss.length = L := hP.1
      have Hrd := Lib.hid (rowIs_rd hrow rfl)
      have HLd := Lib.hid hLdef
      have HP := Lib.hid hP
      have HB := Lib.hid hb
      clear hS hLdef hP hb hrow
      go_wp2_with fail
      refine (implLimit_any _ _ c r ss _ hcw hrw Hrd.out hLd (fun i hi => (HP.out.2 i hi).2)).mono ?_
      rintro e W' hlp
      have hm := Lib.hid (mix_good hsame.out HLd.out HP.out HB.out hlp)
      unfold LimitPost at hlp
      obtain ⟨A2, c2, ys, rfl, _⟩ := hlp
      go_wp2_with fail
      go_ret2
      exact hm.out
end Go.Proofs.Ytignncjmbcdpaaa

/-
impl.RingBody at valid modes, where no step overflows.
-/
namespace Go.Proofs.Ytignncjmbcdpaaa
open Go Go.RowKit Ieee

/-- An element of an input, or 0. -/
def inAt (xs : List Nat) (i : Nat) : Nat := if i < xs.length then xs.getD i 0 else 0
/-- The states after so many steps. -/
def stAt (ms : List MW) (xs : List Nat) : Nat → List (Nat × Nat)
  | 0 => List.replicate ms.length (0, 0)
  | i + 1 => nextS ms (stAt ms xs i) (inAt xs i)
theorem stAt_len (ms : List MW) (xs : List Nat) (i : Nat) : (stAt ms xs i).length = ms.length := by
  induction i with
  | zero => simp [stAt]
  | succ i ih => simp [stAt, nextS, ih]
/-- What a body rings: pointwise, a NaN made the one NaN. -/
def Rung (ms : List MW) (xs ys : List Nat) (n : Nat) : Prop :=
  ys.length = n ∧ ∀ i, i < n → nrm .f32 (ys.getD i 0) = outAt ms (stAt ms xs i) (inAt xs i) ms.length ∧ wfk .f32 (ys.getD i 0)
theorem rung_snoc {ms : List MW} {xs ys : List Nat} {k r : Nat} (h : Rung ms xs ys k) (hr : nrm .f32 r = outAt ms (stAt ms xs k) (inAt xs k) ms.length) (hw : wfk .f32 r) : Rung ms xs (ys ++ [r]) (k + 1) := by
  obtain ⟨hl, h⟩ := h
  refine ⟨by simp [hl], fun i hi => ?_⟩
  rcases Nat.lt_or_ge i k with h1 | h1
  · have e : (ys ++ [r]).getD i 0 = ys.getD i 0 := by
      simp only [List.getD]; rw [List.getElem?_append_left (by omega)]
    rw [e]; exact h i h1
  · obtain rfl : i = k := by omega
    have e : (ys ++ [r]).getD i 0 = r := by
      simp only [List.getD]; rw [List.getElem?_append_right (by omega), hl]; simp
    rw [e]; exact ⟨hr, hw⟩
/-- A row is as it was where its blocks are. -/
theorem owns_keep {w w' : World} {lo n : Nat} {e : TypeId} {v : Value} {xs : List Value} (h : w.ownsRow lo e 1 v n xs) (hk : ∀ j, lo ≤ j → j < w.heap.size → w'.heap[j]? = w.heap[j]?) : w'.ownsRow lo e 1 v n xs := by
  obtain ⟨h1, h2⟩ := h
  refine ⟨h1, ?_⟩
  rcases h2 with h2 | ⟨g, cap, cur, e1, e2, e3, e4⟩
  · exact .inl h2
  · exact .inr ⟨g, cap, cur, e1, e2, (hk g e2 (some_lt e3)).trans e3, e4⟩
/-- No step overflows. -/
def Calm (ms : List MW) (xs : List Nat) (n : Nat) : Prop := ∀ i, i < n → ∀ k, k < ms.length → StepOk (mAt ms k) (sAt (stAt ms xs i) k) (inAt xs i)

theorem c64_info : (Try.prog.info? 50).map (fun i => (i.zero, i.size, i.bytes)) = some (some (.complex .f32 0 0), 1, 8) := by kernel_rfl
set_option maxHeartbeats 400000 in
theorem element_any (A : Option Addr) (c : Nat) (xs : List Nat) (i : Nat) (w : World) (hr : Rd w A (f32s xs)) (hm : xs.length ≤ 1048576) (hi : i ≤ 2000) :
    Calls Try.prog 104 #[.slice A xs.length c, .int .i64 i] w fun e w' => e = .returned (.float .f32 (inAt xs i)) ∧ w = w' := by
  by_cases h : i < xs.length
  · obtain ⟨b, off, rfl, hb1, hc⟩ := hr (by simp; omega)
    have e1 := hc i _ (f32s_at h)
    have He : Hid (inAt xs i = xs.getD i 0) := if_pos h
    clear hc hr
    generalize xs.getD i 0 = x at *
    go_enter Try.func104, Try.ntmps104
    go_wp2
    go_ret
    exact ⟨by rw [He.out]; rfl, rfl⟩
  · have He : Hid (inAt xs i = 0) := if_neg h
    clear hr
    go_enter Try.func104, Try.ntmps104
    go_wp2
    go_ret
    exact ⟨by rw [He.out]; rfl, rfl⟩

set_option maxRecDepth 100000 in
set_option maxHeartbeats 600000 in
theorem ringBody_any (A B : Option Addr) (c d lo hi : Nat) (ms : List MW) (xs : List Nat) (n : Nat) (w : World) (h : OwnM w lo hi A c ms) (hh : hi ≤ w.heap.size) (hok : ModesOk ms) (hl : ms.length ≤ 16)
    (hr : Rd w B (f32s xs)) (hm : xs.length ≤ 1048576) (hn : n ≤ 2000) (hcalm : Calm ms xs n) :
    Calls Try.prog 55 #[.agg #[.slice A ms.length c], .slice B xs.length d, .int .i64 n] w fun e w' => ∃ (A' : Option Addr) (c' : Nat) (ys : List Nat), e = .returned (.tuple #[.slice A' ys.length c', .bool true]) ∧
      w'.ownsRow w.heap.size 25 1 (.slice A' ys.length c') ys.length (f32s ys) ∧ Rung ms xs ys n ∧ Below w.heap.size w w' := by
  have HB : Hid (Below w.heap.size w (w.alloc (.cells #[.slice A ms.length c] 69))) := (Below.refl w.heap.size w).alloc (Nat.le_refl _) _
  have hin : (decide ((0 : Int) ≤ (n : Int)) && decide ((n : Int) ≤ 2000)) = true := by simp; omega
  have H : Hid (OwnM (w.alloc (.cells #[.slice A ms.length c] 69)) lo hi A c ms) := h.below HB.out hh
  have HR : Hid (Rd (w.alloc (.cells #[.slice A ms.length c] 69)) B (f32s xs)) := hr.below HB.out
  have hBd : (w.alloc (.cells #[.slice A ms.length c] 69)).heap[w.heap.size]? = some (.cells #[.slice A ms.length c] 69 (0, 0)) := heap_alloc_new w _
  have hsz : hi ≤ (w.alloc (.cells #[.slice A ms.length c] 69)).heap.size := by simp; omega
  have hbs : w.heap.size < (w.alloc (.cells #[.slice A ms.length c] 69)).heap.size := by simp
  have HK := Lib.hid hok
  have HC := Lib.hid hcalm
  have H0 := Lib.hid h
  have Hr0 := Lib.hid hr
  clear h hr hok hcalm
  have hmk := fun W => run_make_row' (P := Try.prog) 122 50 (.complex .f32 0 0) 8 Try.underlying122 c64_info rfl .i64 .i64 ms.length (by omega) (by omega) W
  go_enter Try.func55, Try.ntmps55
  go_wp2_with fail
  have c0 := cell_of_row _ w.heap.size 0 _ _ (0, 0) hBd
  generalize w.alloc (.cells #[.slice A ms.length c] 69) = W at *
  refine (isBody_any A c lo hi ms _ H.out hsz HK.out hl).mono ?_
  rintro e W1 ⟨rfl, hb1⟩
  have HB1 : Hid (Below w.heap.size w W1) := HB.out.trans (hb1.mono (by omega))
  have hBd1 : W1.heap[w.heap.size]? = some (.cells #[.slice A ms.length c] 69 (0, 0)) := (hb1.block _ hbs).trans hBd
  have c1 := cell_of_row W1 w.heap.size 0 _ _ (0, 0) hBd1
  have hw1 : w.heap.size < W1.heap.size := some_lt hBd1
  clear c0 hb1 hBd H HR HB
  go_wp2_with fail
  refine (count_any n _).mono ?_
  rintro e w' ⟨rfl, rfl⟩
  rw [hin]
  have hz1 : (W1.alloc (.cells (madeCells #[.complex .f32 0 0] ms.length) 50)).heap.size = W1.heap.size + 1 := by simp
  have hz2 : ((W1.alloc (.cells (madeCells #[.complex .f32 0 0] ms.length) 50)).alloc (.cells #[] 25)).heap.size = W1.heap.size + 2 := by simp
  have S0 : ((W1.alloc (.cells (madeCells #[.complex .f32 0 0] ms.length) 50)).alloc (.cells #[] 25)).rowIs W1.heap.size 50 ms.length (fun i => sV (sAt (stAt ms xs 0) i)) :=
    ((World.rowIs_made W1 (.complex .f32 0 0) ms.length 50).alloc _).congr fun i hi => by simp [stAt, sAt, sV, List.getD, hi]
  have own0 : ((W1.alloc (.cells (madeCells #[.complex .f32 0 0] ms.length) 50)).alloc (.cells #[] 25)).ownsRow (W1.heap.size + 1) 25 1 (.slice (some ⟨W1.heap.size + 1, 0, none⟩) 0 0) 0 (f32s []) := by
    have := owns_empty (W1.alloc (.cells (madeCells #[.complex .f32 0 0] ms.length) 50)) 25
    rw [hz1] at this; exact this
  have B0 : Hid (Below w.heap.size w ((W1.alloc (.cells (madeCells #[.complex .f32 0 0] ms.length) 50)).alloc (.cells #[] 25))) := (HB1.out.alloc HB1.out.size _).alloc (by rw [hz1]; omega) _
  have D0 : ((W1.alloc (.cells (madeCells #[.complex .f32 0 0] ms.length) 50)).alloc (.cells #[] 25)).heap[w.heap.size]? = some (.cells #[.slice A ms.length c] 69 (0, 0)) :=
    (Below.heap_alloc _ _ _ (by rw [hz1]; omega)).trans ((Below.heap_alloc _ _ _ hw1).trans hBd1)
  go_wp2_with fail
  generalize (W1.alloc (.cells (madeCells #[.complex .f32 0 0] ms.length) 50)).alloc (.cells #[] 25) = W2 at *
  generalize W1.heap.size = g at *
  have D1 := Lib.hid D0
  have S1 := Lib.hid S0
  clear D0 S0 hBd1 c1 hz1
  go_loopw [9, 25] (fun v i wr => ∃ (k : Nat) (ys : List Nat), i = .int .i64 (k : Int) ∧ k ≤ n ∧ wr.ownsRow (g + 1) 25 1 v k (f32s ys) ∧ Hid (Rung ms xs ys k) ∧ Hid (wr.rowIs g 50 ms.length (fun i => sV (sAt (stAt ms xs k) i))) ∧
    Hid (Below w.heap.size w wr) ∧ Hid (wr.heap[w.heap.size]? = some (.cells #[.slice A ms.length c] 69 (0, 0))) ∧ g + 2 ≤ wr.heap.size) (fun _ i _ => n - (intOf i).toNat)
  case atStart => exact ⟨0, [], rfl, by omega, own0, ⟨rfl, fun i hi => absurd hi (Nat.not_lt_zero _)⟩, S1, B0, D1, by omega⟩
  case round =>
    clear own0 S1 B0 D1
    obtain ⟨k, ys, rfl, hk, hown, hrg, hrow, hbel, hbd, hgs⟩ := hrel
    by_cases hlt : k < n
    · have d0 := cell_of_row wr w.heap.size 0 _ _ (0, 0) hbd.out
      have HOM := Lib.hid (H0.out.below hbel.out hh)
      have HRD := Lib.hid (Hr0.out.below hbel.out)
      have hcm := Lib.hid (HC.out k hlt)
      have hng : ∀ q, (u9 : Value).ownBlock = some q → g + 1 ≤ q := fun q hq => (hown.lt q hq).1
      have HNG := Lib.hid hng
      clear hng
      go_wp2_with fail
      refine wp_region_held_drew (S := fun w' => w'.cell? ⟨w.heap.size, 0, none⟩ = some (.slice A ms.length c)) (by kernel_rfl) d0 (fun hHeld => ?_)
      refine wpAnyH_take (i := 0) (oi := _) (v := ?_) rfl (by kernel_rfl) (by kernel_rfl) (by kernel_rfl) (fun _ _ _ h => h) (Or.inl ⟨by rfl, ?_⟩) (by assumption) ?_
      rotate_left
      · (intro w hSw; (try dsimp only at hSw); go_simp; try (with_reducible rfl))
      (try simp only [Act.put, List.setIfInBounds_toArray])
      refine wpAnyH_take (i := 1) (oi := _) (v := ?_) rfl (by kernel_rfl) (by kernel_rfl) (by kernel_rfl) (fun _ _ _ h => h) (Or.inl ⟨by rfl, ?_⟩) (by assumption) ?_
      rotate_left
      · (intro w hSw; (try dsimp only at hSw); go_simp; try (with_reducible rfl))
      (try simp only [Act.put])
      refine wpAnyH_take (i := 2) (oi := _) (v := ?_) rfl (by kernel_rfl) (by kernel_rfl) (by kernel_rfl) (fun _ _ _ h => h) (Or.inl ⟨by rfl, ?_⟩) (by assumption) ?_
      rotate_left
      · (intro w hSw; (try dsimp only at hSw); go_simp; try (with_reducible rfl))
      (try simp only [Act.put])
      refine wpAnyH_take (i := 3) (oi := _) (v := ?_) rfl (by kernel_rfl) (by kernel_rfl) (by kernel_rfl) (fun _ _ _ h => h) (Or.inl ⟨by rfl, ?_⟩) (by assumption) ?_
      rotate_left
      · (intro w hSw; (try dsimp only at hSw); go_simp; try (with_reducible rfl))
      (try simp only [Act.put])
      refine wpAnyH_take (i := 4) (oi := _) (v := ?_) rfl (by kernel_rfl) (by kernel_rfl) (by kernel_rfl) (fun _ _ _ h => h) (Or.inl ⟨by rfl, ?_⟩) (by assumption) ?_
      rotate_left
      · (intro w hSw; (try dsimp only at hSw); go_simp; try (with_reducible rfl))
      (try simp only [Act.put])
      refine wpAnyH_take (i := 5) (oi := _) (v := ?_) rfl (by kernel_rfl) (by kernel_rfl) (by kernel_rfl) (fun _ _ _ h => h) (Or.inl ⟨by rfl, ?_⟩) (by assumption) ?_
      rotate_left
      · (intro w hSw; (try dsimp only at hSw); go_simp; try (with_reducible rfl))
      (try simp only [Act.put])
      refine wpAnyH_ready (rs := [6]) (by kernel_rfl) (by simp) ?_
      refine AllReadyH.cons (o := _) rfl (fun K hK => ?_) AllReadyH.nil
      go_simp
      refine (element_any B d xs k _ (HRD.out.drewN 1) hm (by omega)).mono ?_
      rintro e w' ⟨rfl, rfl⟩
      go_wp2_with fail
      refine hK.out _ _ ?_ (fun hHeld2 => ?_)
      · exact hHeld
      clear hK K
      (try simp only [Act.put, List.setIfInBounds_toArray, List.set_cons_zero, List.set_cons_succ])
      refine wpAnyH_ready (rs := [7]) (by kernel_rfl) (by simp) ?_
      refine AllReadyH.cons (o := _) rfl (fun K hK => ?_) AllReadyH.nil
      go_simp
      refine (step_any A c lo hi g ms (stAt ms xs k) (inAt xs k) (wr.drewN 1) ⟨HOM.out.1, HOM.out.2⟩ (by omega) HK.out hl (stAt_len _ _ _) hrow.out hcm.out).mono ?_
      rintro e W3 ⟨r, rfl, hr1, hr2, hrow3, hgr3⟩
      have hsz3 : wr.heap.size ≤ W3.heap.size := hgr3.size
      have blk3 : Hid (∀ j, j < wr.heap.size → j ≠ g → W3.heap[j]? = wr.heap[j]?) := fun j hj hn => hgr3.block j hj (by intro e; injection e with e; exact hn e)
      have hbd3 : Hid (W3.heap[w.heap.size]? = some (.cells #[.slice A ms.length c] 69 (0, 0))) := (blk3.out _ (by omega) (by omega)).trans hbd.out
      have hown3 : Hid (W3.ownsRow (g + 1) 25 1 u9 k (f32s ys)) := owns_keep hown fun j h1 h2 => blk3.out j h2 (by omega)
      have HR := Lib.hid (And.intro hr1 hr2)
      have HROW := Lib.hid hrow3
      have B3 : Hid (Below w.heap.size w W3) := ⟨hgr3.os.trans hbel.out.os, hgr3.tape.trans hbel.out.tape, hgr3.output.trans hbel.out.output, Nat.le_trans hbel.out.size hsz3, fun j hj => (blk3.out j (by omega) (by omega)).trans (hbel.out.block j hj)⟩
      clear hr1 hr2 hrow3 hgr3 hHeld hHeld2 d0
      go_wp2_with fail
      refine hK.out _ _ ?_ (fun hHeld3 => ?_)
      · exact cell_of_row W3 w.heap.size 0 _ _ (0, 0) hbd3.out
      clear hK K
      (try simp only [Act.put, List.setIfInBounds_toArray, List.set_cons_zero, List.set_cons_succ])
      refine wpAnyH_ready (rs := [8]) (by kernel_rfl) (by simp) ?_
      refine AllReadyH.cons (o := _) rfl (fun K hK => ?_) AllReadyH.nil
      go_simp
      refine hK.out _ _ ?_ (fun hHeld4 => ?_)
      · exact (World.cell?_of_block (w := W3) (w' := W3.alloc _) (Below.heap_alloc W3 _ w.heap.size (by omega))).trans hHeld3
      clear hK K
      (try simp only [Act.put, List.setIfInBounds_toArray, List.set_cons_zero, List.set_cons_succ])
      obtain ⟨i0, hi0, hz0, hz1, hz2'⟩ := info_parts f32_info
      refine wpAnyH_ready (rs := [9]) (by kernel_rfl) (by simp) ?_
      refine AllReadyH.cons (o := _) rfl (fun K hK => ?_) AllReadyH.nil
      refine step_append_lies _ (by rfl) (.tmp 28) (.tmp 36) 23 (by rfl) (g + 1) 25 i0 _ 1 4 Try.underlying23 hi0 hz0 hz1 hz2' rfl (by omega) u9 k (f32s ys) (by rfl) (hown3.out.alloc _) ⟨W3.heap.size, 0, none⟩ 1 1 [.float .f32 r] (by rfl) (by rfl) (World.news_of_block (cs := #[.float .f32 r]) (t := 25) (fr := (0, 0)) (heap_alloc_new W3 _)) (by simp [Value.oneCell']) (by omega) (by simp only [maxLen]; omega) (by omega) (by simp; omega) (W3.heap.size + 1) (by simp) ?_
      intro gg cap w4 hown4 hgrow hat hlt4
      have hne1 : some w.heap.size ≠ (u9 : Value).ownBlock := fun e => by have := HNG.out _ e.symm; omega
      have hne2 : some g ≠ (u9 : Value).ownBlock := fun e => by have := HNG.out _ e.symm; omega
      have hs4 : W3.heap.size + 1 ≤ w4.heap.size := by have := hgrow.size; simpa using this
      have hbd4 : Hid (w4.heap[w.heap.size]? = some (.cells #[.slice A ms.length c] 69 (0, 0))) := (hgrow.block _ (by simp; omega) hne1).trans ((Below.heap_alloc W3 _ _ (by omega)).trans hbd3.out)
      refine hK.out _ _ ?_ (fun hHeld5 => ?_)
      · exact cell_of_row w4 w.heap.size 0 _ _ (0, 0) hbd4.out
      clear hK K
      (try simp only [Act.put, List.setIfInBounds_toArray])
      refine wpAnyH_take (i := 10) (oi := _) (v := ?_) rfl (by kernel_rfl) (by kernel_rfl) (by kernel_rfl) (fun _ _ _ h => h) (Or.inl ⟨by rfl, ?_⟩) (by assumption) ?_
      rotate_left
      · (intro w hSw; (try dsimp only at hSw); go_simp; try (with_reducible rfl))
      (try simp only [Act.put])
      refine wpAnyH_done (by kernel_rfl) ?_ _
      go_wp2_with fail
      go_roundw
      case rel =>
        refine ⟨k + 1, ys ++ [r], by go_num, by omega, by simpa [f32s] using hown4, rung_snoc hrg.out HR.out.1 HR.out.2, ?_, ?_, hbd4, by omega⟩
        · exact HROW.out.of_block ((hgrow.block g (by simp; omega) hne2).trans (Below.heap_alloc W3 _ g (by omega)))
        · exact (B3.out.alloc B3.out.size _).grown hgrow (by simp; omega) (fun q hq => by have := HNG.out q hq; omega)
      case measure => simp [intOf]; omega
    · obtain rfl : k = n := by omega
      go_wp2_with fail
      go_ret2
      obtain ⟨A', cap, hv, hl', hrd⟩ := own_rd hown
      subst hv
      have e := hrg.out.1
      exact ⟨A', cap, ys, by rw [e]; rfl, by rw [e]; exact owns_low hown (by omega), hrg.out, hbel.out⟩
end Go.Proofs.Ytignncjmbcdpaaa

/-
impl.ring: n steps of wide modes, in double precision.
-/
namespace Go.Proofs.Ytignncjmbcdpaaa
open Go Go.RowKit Ieee

abbrev CW := Nat × Nat
def dAt (ms : List DW) (i : Nat) : DW := ms.getD i (0, 0, 0, 0)
/-- One step of a wide mode. -/
def stepD (m : DW) (s : CW) (x : Nat) : CW :=
  (fo .add .f64 (mulRe s.1 s.2 m.1 m.2.1) (fo .mul .f64 m.2.2.1 x), fo .add .f64 (mulIm s.1 s.2 m.1 m.2.1) (fo .mul .f64 m.2.2.2 x))
/-- The output of the first k modes. -/
def outD (ms : List DW) (ss : List CW) (x : Nat) : Nat → Nat
  | 0 => 0
  | k + 1 => fo .add .f64 (outD ms ss x k) (stepD (dAt ms k) (sAt ss k) x).1
theorem nrm_outD (ms : List DW) (ss : List CW) (x k : Nat) : nrm .f64 (outD ms ss x k) = outD ms ss x k := by
  cases k with
  | zero => exact (nrm_of_num (by decide +kernel) : nrm .f64 0 = 0)
  | succ k => exact nrm_fo _ _ _ _
def nextD (ms : List DW) (ss : List CW) (x : Nat) : List CW := (List.range ss.length).map fun i => stepD (dAt ms i) (sAt ss i) x
theorem nextD_at {ms : List DW} {ss : List CW} {x i : Nat} (h : i < ss.length) : sAt (nextD ms ss x) i = stepD (dAt ms i) (sAt ss i) x := by
  show (nextD ms ss x).getD i (0, 0) = _
  simp [nextD, List.getD, h]
/-- The states after so many steps, at inputs X. -/
def stD (ms : List DW) (X : Nat → Nat) : Nat → List CW
  | 0 => List.replicate ms.length (0, 0)
  | i + 1 => nextD ms (stD ms X i) (X i)
theorem stD_len (ms : List DW) (X : Nat → Nat) (i : Nat) : (stD ms X i).length = ms.length := by
  induction i with
  | zero => simp [stD]
  | succ i ih => simp [stD, nextD, ih]
/-- What wide modes ring: a NaN made the one NaN. -/
def RungD (ms : List DW) (X : Nat → Nat) (ys : List Nat) (n : Nat) : Prop :=
  ys.length = n ∧ ∀ i, i < n → nrm .f64 (ys.getD i 0) = outD ms (stD ms X i) (X i) ms.length ∧ wfk .f64 (ys.getD i 0)
theorem rungD_snoc {ms : List DW} {X : Nat → Nat} {ys : List Nat} {k r : Nat} (h : RungD ms X ys k) (hr : nrm .f64 r = outD ms (stD ms X k) (X k) ms.length) (hw : wfk .f64 r) : RungD ms X (ys ++ [r]) (k + 1) := by
  obtain ⟨hl, h⟩ := h
  refine ⟨by simp [hl], fun i hi => ?_⟩
  rcases Nat.lt_or_ge i k with h1 | h1
  · have e : (ys ++ [r]).getD i 0 = ys.getD i 0 := by
      simp only [List.getD]; rw [List.getElem?_append_left (by omega)]
    rw [e]; exact h i h1
  · obtain rfl : i = k := by omega
    have e : (ys ++ [r]).getD i 0 = r := by
      simp only [List.getD]; rw [List.getElem?_append_right (by omega), hl]; simp
    rw [e]; exact ⟨hr, hw⟩
/-- States that are the same but for the bits of a NaN. -/
def AliS (s t : CW) : Prop := nrm .f64 s.1 = nrm .f64 t.1 ∧ nrm .f64 s.2 = nrm .f64 t.2
theorem step_ali {m : DW} {s t : CW} {x y p q p2 q2 p3 q3 : Nat} (h : AliS s t) (hx : nrm .f64 x = nrm .f64 y) (h1 : nrm .f64 p = nrm .f64 (mulRe s.1 s.2 m.1 m.2.1) ∧ nrm .f64 q = nrm .f64 (mulIm s.1 s.2 m.1 m.2.1))
    (h2 : nrm .f64 p2 = nrm .f64 (fo .mul .f64 m.2.2.1 x) ∧ nrm .f64 q2 = nrm .f64 (fo .mul .f64 m.2.2.2 x)) (h3 : nrm .f64 p3 = nrm .f64 (fo .add .f64 p p2) ∧ nrm .f64 q3 = nrm .f64 (fo .add .f64 q q2)) : AliS (p3, q3) (stepD m t y) := by
  obtain ⟨e1, e2⟩ := mul_congr h.1 h.2 (rfl : nrm .f64 m.1 = nrm .f64 m.1) (rfl : nrm .f64 m.2.1 = nrm .f64 m.2.1)
  have g1 : fo .mul .f64 m.2.2.1 x = fo .mul .f64 m.2.2.1 y := fo_congr rfl hx
  have g2 : fo .mul .f64 m.2.2.2 x = fo .mul .f64 m.2.2.2 y := fo_congr rfl hx
  refine ⟨?_, ?_⟩
  · show nrm .f64 p3 = nrm .f64 (fo .add .f64 _ _)
    rw [h3.1, nrm_fo, nrm_fo]
    exact fo_congr (by rw [h1.1, e1]) (by rw [h2.1, g1])
  · show nrm .f64 q3 = nrm .f64 (fo .add .f64 _ _)
    rw [h3.2, nrm_fo, nrm_fo]
    exact fo_congr (by rw [h1.2, e2]) (by rw [h2.2, g2])
/-- A row of states: the words ts, which are the states ss but for the bits of a NaN. -/
def cV (s : CW) : Value := .complex .f64 s.1 s.2
structure StRow (w : World) (g n : Nat) (ss : List CW) (ts : List CW) : Prop where
  row : w.rowIs g 33 n (fun i => cV (sAt ts i))
  len : ts.length = n
  ali : ∀ i, i < n → AliS (sAt ts i) (sAt ss i)

theorem getD_setC {ts : List CW} {k i : Nat} {s : CW} (hk : k < ts.length) : sAt (ts.set k s) i = if i = k then s else sAt ts i := by
  unfold sAt
  simp only [List.getD, List.getElem?_set]
  by_cases e : i = k
  · subst e; simp [hk]
  · rw [if_neg (fun h => e h.symm), if_neg e]
/-- A row of states where the first j have made a step. -/
structure StMid (w : World) (g : Nat) (ms : List DW) (ss : List CW) (x j : Nat) (ts : List CW) : Prop where
  row : w.rowIs g 33 ms.length (fun i => cV (sAt ts i))
  len : ts.length = ms.length
  ali : ∀ i, i < ms.length → AliS (sAt ts i) (if i < j then stepD (dAt ms i) (sAt ss i) x else sAt ss i)
theorem StMid.drewN {w : World} {g : Nat} {ms : List DW} {ss : List CW} {x j : Nat} {ts : List CW} (h : StMid w g ms ss x j ts) (n : Nat) : StMid (w.drewN n) g ms ss x j ts := ⟨h.row, h.len, h.ali⟩
theorem grown_setG {w w' : World} {g k : Nat} {v : Value} (h : w.grownBy w' (some g)) : w.grownBy (w'.setCell ⟨g, k, none⟩ v) (some g) :=
  ⟨h.os, h.tape, h.output, by simpa using h.size, fun i hi hn => (Below.heap_setCell _ _ _ _ (by show i ≠ g; intro e; subst e; exact hn rfl)).trans (h.block i hi hn)⟩
theorem StMid.step {w w' : World} {g : Nat} {ms : List DW} {ss : List CW} {x j : Nat} {ts : List CW} {s : CW} (h : StMid w g ms ss x j ts) (hj : j < ms.length) (hs : AliS s (stepD (dAt ms j) (sAt ss j) x))
    (hw : w'.rowIs g 33 ms.length (fun i => if i = j then cV s else cV (sAt ts i))) : StMid w' g ms ss x (j + 1) (ts.set j s) := by
  refine ⟨hw.congr fun i _ => ?_, by simpa using h.len, fun i hi => ?_⟩
  · rw [getD_setC (by rw [h.len]; exact hj)]; split <;> rfl
  · rw [getD_setC (by rw [h.len]; exact hj)]
    by_cases e : i = j
    · subst e; rw [if_pos rfl, if_pos (by omega)]; exact hs
    · rw [if_neg e]
      have := h.ali i hi
      by_cases e' : i < j
      · rw [if_pos (by omega)]; rwa [if_pos e'] at this
      · rw [if_neg (by omega)]; rwa [if_neg e'] at this

set_option maxHeartbeats 400000 in
theorem implAddD_any (a b c d : Nat) (w : World) : Calls Try.prog 96 #[.complex .f64 a b, .complex .f64 c d] w fun e w' => ∃ p q n, e = .returned (.complex .f64 p q) ∧ nrm .f64 p = nrm .f64 (fo .add .f64 a c) ∧ nrm .f64 q = nrm .f64 (fo .add .f64 b d) ∧ wfk .f64 p ∧ wfk .f64 q ∧ w.drewN n = w' := by
  go_enter Try.func96, Try.ntmps96
  go_wp2_with fail
  go_ret
  exact ⟨_, _, _, rfl, fRo rfl rfl _, fRo rfl rfl _, fR_lt _ _ _ _ _, fR_lt _ _ _ _ _, rfl⟩
theorem f64_info' : (Try.prog.info? 30).map (fun i => (i.zero, i.size, i.bytes)) = some (some (.float .f64 0), 1, 8) := by kernel_rfl

set_option maxRecDepth 100000 in
set_option maxHeartbeats 2000000 in
theorem ring_any (A : Option Addr) (c lo hi : Nat) (ds : List DW) (pb : Nat) (X : Nat → Nat) (n : Nat) (w : World) (h : OwnD w lo hi A c ds) (hh : hi ≤ w.heap.size) (hl : ds.length ≤ 16) (hn : n ≤ 2000)
    (hin : ∀ (i : Nat) (W : World), i < n → Below w.heap.size w W → Calls Try.prog 116 #[.int .i64 i, .pointer (some ⟨pb, 0, none⟩)] W fun e w' => ∃ x m, e = .returned (.float .f64 x) ∧ nrm .f64 x = nrm .f64 (X i) ∧ W.drewN m = w') :
    Calls Try.prog 113 #[.slice A ds.length c, .func (.func 116) #[] #[.pointer (some ⟨pb, 0, none⟩)], .int .i64 n] w fun e w' => ∃ (A' : Option Addr) (c' : Nat) (ys : List Nat), e = .returned (.slice A' ys.length c') ∧
      w'.ownsRow w.heap.size 30 1 (.slice A' ys.length c') ys.length (f64s ys) ∧ RungD ds X ys n ∧ Below w.heap.size w w' := by
  have H0 := Lib.hid h
  have HIN := Lib.hid hin
  clear h hin
  have hmk := fun W => run_make_row' (P := Try.prog) 36 33 (.complex .f64 0 0) 16 Try.underlying36 c128_info rfl .i64 .i64 ds.length (by omega) (by omega) W
  have S0 : Hid (StRow ((w.alloc (.cells (madeCells #[.complex .f64 0 0] ds.length) 33)).alloc (.cells #[] 30)) w.heap.size ds.length (stD ds X 0) (List.replicate ds.length (0, 0))) :=
    ⟨((World.rowIs_made w (.complex .f64 0 0) ds.length 33).alloc _).congr fun i hi => by simp [sAt, cV, List.getD, hi], by simp, fun i hi => by simp [stD, AliS]⟩
  have hz1 : (w.alloc (.cells (madeCells #[.complex .f64 0 0] ds.length) 33)).heap.size = w.heap.size + 1 := by simp
  have hz2 : ((w.alloc (.cells (madeCells #[.complex .f64 0 0] ds.length) 33)).alloc (.cells #[] 30)).heap.size = w.heap.size + 2 := by simp
  have own0 : ((w.alloc (.cells (madeCells #[.complex .f64 0 0] ds.length) 33)).alloc (.cells #[] 30)).ownsRow (w.heap.size + 1) 30 1 (.slice (some ⟨w.heap.size + 1, 0, none⟩) 0 0) 0 (f64s []) := by
    have := owns_empty (w.alloc (.cells (madeCells #[.complex .f64 0 0] ds.length) 33)) 30
    rw [hz1] at this; exact this
  have B0 : Hid (Below w.heap.size w ((w.alloc (.cells (madeCells #[.complex .f64 0 0] ds.length) 33)).alloc (.cells #[] 30))) := ((Below.refl w.heap.size w).alloc (Nat.le_refl _) _).alloc (by rw [hz1]; omega) _
  go_enter Try.func113, Try.ntmps113
  go_wp2_with fail
  generalize (w.alloc (.cells (madeCells #[.complex .f64 0 0] ds.length) 33)).alloc (.cells #[] 30) = W2 at *
  clear hz1
  go_loopw [8, 19] (fun v i wr => ∃ (k : Nat) (ys : List Nat) (ts : List CW), i = .int .i64 (k : Int) ∧ k ≤ n ∧ wr.ownsRow (w.heap.size + 1) 30 1 v k (f64s ys) ∧ Hid (RungD ds X ys k) ∧ Hid (StRow wr w.heap.size ds.length (stD ds X k) ts) ∧
    Hid (Below w.heap.size w wr) ∧ w.heap.size + 2 ≤ wr.heap.size) (fun _ i _ => n - (intOf i).toNat)
  case atStart => exact ⟨0, [], _, rfl, by omega, own0, ⟨rfl, fun i hi => absurd hi (Nat.not_lt_zero _)⟩, S0.out, B0.out, by omega⟩
  case round =>
    clear own0 S0 B0
    obtain ⟨k, ys, ts, rfl, hk, hown, hrg, hst, hbel, hgs⟩ := hrel
    obtain ⟨wo, hwo⟩ : ∃ wo, wo = wr := ⟨_, rfl⟩
    subst hwo
    by_cases hlt : k < n
    · go_wp2_with fail
      refine (HIN.out k wo hlt hbel.out).mono ?_
      rintro e w' ⟨x, mx, rfl, hx, rfl⟩
      have HX := Lib.hid hx
      clear hx
      have hst1 : StMid (wo.drewN mx) w.heap.size ds (stD ds X k) (X k) 0 ts := ⟨hst.out.row, hst.out.len, fun i hi => by rw [if_neg (by omega)]; exact hst.out.ali i hi⟩
      have HM := Lib.hid hst1
      have Hown := Lib.hid hown
      clear hst1 hst hown
      go_wp2_with fail
      go_loopw [11, 27] (fun sm i w3 => ∃ (j r : Nat) (ts : List CW), i = .int .i64 (j : Int) ∧ j ≤ ds.length ∧ sm = .float .f64 r ∧ Hid (nrm .f64 r = outD ds (stD ds X k) (X k) j ∧ wfk .f64 r) ∧ Hid (StMid w3 w.heap.size ds (stD ds X k) (X k) j ts) ∧
        Hid (wo.grownBy w3 (some w.heap.size))) (fun _ i _ => ds.length - (intOf i).toNat)
      case atStart => exact ⟨0, 0, ts, rfl, by omega, rfl, ⟨nrm_of_num (by decide +kernel), by rw [wfk_64]; omega⟩, HM.out, rfl, rfl, rfl, Nat.le_refl _, fun _ _ _ => rfl⟩
      case round =>
        clear HM
        obtain ⟨j, r, ts, rfl, hj, rfl, hr, hM, hG⟩ := hrel
        by_cases hlj : j < ds.length
        · have hG1 := hG.out
          have hgs1 : w.heap.size + 2 ≤ wr.heap.size := Nat.le_trans hgs hG1.size
          have HD1 : OwnD wr lo hi A c ds := (H0.out.below hbel.out hh).keep fun q _ hq => hG1.block q (by omega) (by intro e; injection e with e; omega)
          obtain ⟨b, rfl, hb1, hb2, hlc, hmx, hcell⟩ := HD1.cells (by omega)
          obtain ⟨e1, e2⟩ := hcell j hlj
          have e3 : wr.cell? ⟨w.heap.size, j, none⟩ = some (.complex .f64 (sAt ts j).1 (sAt ts j).2) := hM.out.row.cell hlj
          have e1' : wr.cell? ⟨b, j * 2, none⟩ = some (.complex .f64 (dAt ds j).1 (dAt ds j).2.1) := e1
          have e2' : wr.cell? ⟨b, j * 2 + 1, none⟩ = some (.complex .f64 (dAt ds j).2.2.1 (dAt ds j).2.2.2) := e2
          have hA0 : AliS (sAt ts j) (sAt (stD ds X k) j) := by have := hM.out.ali j hlj; rwa [if_neg (by omega)] at this
          have HS : Hid (∀ p q p2 q2 p3 q3, nrm .f64 p = nrm .f64 (mulRe (sAt ts j).1 (sAt ts j).2 (dAt ds j).1 (dAt ds j).2.1) ∧ nrm .f64 q = nrm .f64 (mulIm (sAt ts j).1 (sAt ts j).2 (dAt ds j).1 (dAt ds j).2.1) →
              nrm .f64 p2 = fo .mul .f64 (dAt ds j).2.2.1 x ∧ nrm .f64 q2 = fo .mul .f64 (dAt ds j).2.2.2 x → nrm .f64 p3 = nrm .f64 (fo .add .f64 p p2) ∧ nrm .f64 q3 = nrm .f64 (fo .add .f64 q q2) → AliS (p3, q3) (stepD (dAt ds j) (sAt (stD ds X k) j) (X k))) := fun p q p2 q2 p3 q3 h1 h2 h3 =>
            step_ali hA0 HX.out h1 (by rw [nrm_fo, nrm_fo]; exact h2) h3
          have HO : Hid (outD ds (stD ds X k) (X k) (j + 1) = fo .add .f64 (outD ds (stD ds X k) (X k) j) (stepD (dAt ds j) (sAt (stD ds X k) j) (X k)).1) := rfl
          clear e1 e2 hcell hA0
          obtain ⟨a, ha⟩ : ∃ a, (dAt ds j).1 = a := ⟨_, rfl⟩
          obtain ⟨b0, hb⟩ : ∃ b, (dAt ds j).2.1 = b := ⟨_, rfl⟩
          obtain ⟨c0, hc⟩ : ∃ c, (dAt ds j).2.2.1 = c := ⟨_, rfl⟩
          obtain ⟨d0, hd⟩ : ∃ d, (dAt ds j).2.2.2 = d := ⟨_, rfl⟩
          obtain ⟨s1, hs1⟩ : ∃ s, (sAt ts j).1 = s := ⟨_, rfl⟩
          obtain ⟨s2, hs2⟩ : ∃ s, (sAt ts j).2 = s := ⟨_, rfl⟩
          rw [ha, hb] at e1' HS
          rw [hc, hd] at e2' HS
          rw [hs1, hs2] at e3 HS
          clear ha hb hc hd hs1 hs2
          have R1 : Hid (∀ m, ((wr.alloc (.cells #[.complex .f64 a b0, .complex .f64 c0 d0] 131)).drewN m).rowIs w.heap.size 33 ds.length (fun i => cV (sAt ts i))) := fun m => hM.out.row.alloc _
          have G1 : Hid (∀ m, wo.grownBy ((wr.alloc (.cells #[.complex .f64 a b0, .complex .f64 c0 d0] 131)).drewN m) (some w.heap.size)) := fun m => ⟨hG1.os, hG1.tape, hG1.output, by have := hG1.size; show wo.heap.size ≤ (wr.alloc _).heap.size; simp; omega, fun i hi hne => (Below.heap_alloc wr _ i (Nat.lt_of_lt_of_le hi hG1.size)).trans (hG1.block i hi hne)⟩
          have hmB : (wr.alloc (.cells #[.complex .f64 a b0, .complex .f64 c0 d0] 131)).heap[wr.heap.size]? = some (.cells #[.complex .f64 a b0, .complex .f64 c0 d0] 131 (0, 0)) := heap_alloc_new wr _
          have HLEN := Lib.hid hM.out.len
          go_wp2_with fail
          have m0 := cell_of_row _ wr.heap.size 0 _ _ (0, 0) hmB
          have m1 := cell_of_row _ wr.heap.size 1 _ _ (0, 0) hmB
          simp only [List.getElem?_toArray, List.getElem?_cons_zero, List.getElem?_cons_succ] at m0 m1
          have s0 : (wr.alloc (.cells #[.complex .f64 a b0, .complex .f64 c0 d0] 131)).cell? ⟨w.heap.size, j, none⟩ = some (.complex .f64 s1 s2) := (World.cell?_of_block (Below.heap_alloc wr _ w.heap.size (by omega))).trans e3
          have f0 : (wr.alloc (.cells #[.complex .f64 a b0, .complex .f64 c0 d0] 131)).frozen? ⟨w.heap.size, j, none⟩ = false := (R1.out 0).frozen j
          have c6 : ∀ m v, (((wr.alloc (.cells #[.complex .f64 a b0, .complex .f64 c0 d0] 131)).drewN m).setCell ⟨w.heap.size, j, none⟩ v).cell? ⟨w.heap.size, j, none⟩ = some v := fun m v => by
            have := ((R1.out m).set j v).cell hlj
            simpa using this
          generalize wr.alloc (.cells #[.complex .f64 a b0, .complex .f64 c0 d0] 131) = Wa at *
          generalize wr.heap.size = mb at *
          clear e1' e2' e3 hmB hG1 HD1
          go_region_with (first
            | (go_at_call 79
               refine (implTimes_any s1 s2 a b0 _).mono ?_
               rintro e w' ⟨p, q, n1, rfl, hp, hq, _, _, rfl⟩
               have HP := Lib.hid (And.intro hp hq)
               clear hp hq)
            | (go_at_call 29
               refine (scale_any c0 d0 x _).mono ?_
               rintro e w' ⟨p2, q2, n2, rfl, hp, hq, _, _, rfl⟩
               have HP2 := Lib.hid (And.intro hp hq)
               clear hp hq)
            | (go_at_call 96
               refine (implAddD_any p q p2 q2 _).mono ?_
               rintro e w' ⟨p3, q3, n3, rfl, hp, hq, hw1, hw2, rfl⟩
               have HP3 := Lib.hid (And.intro (HS.out p q p2 q2 p3 q3 HP.out HP2.out (And.intro hp hq)) (And.intro hw1 hw2))
               clear hp hq hw1 hw2))
          all_goals
            go_wp2_with fail
            go_roundw
            case rel =>
              refine ⟨j + 1, _, _, by go_num, by omega, rfl, ⟨?_, fR_lt _ _ _ _ _⟩, (hM.out.step hlj HP3.out.1 ((R1.out _).set j _)).drewN _, grown_drewN (grown_setG (G1.out _)) _⟩
              rw [nrm_fR, HO.out]
              exact fo_congr (by rw [hr.out.1, nrm_outD]) HP3.out.1.1
            case measure => simp [intOf]; omega
        · have hkj : ds.length = j := by omega
          subst hkj
          have hG1 := hG.out
          have hgs1 : w.heap.size + 2 ≤ wr.heap.size := Nat.le_trans hgs hG1.size
          have hown3 : wr.ownsRow (w.heap.size + 1) 30 1 u8 k (f64s ys) := owns_keep Hown.out fun j h1 h2 => hG1.block j h2 (by intro e; injection e with e; omega)
          have HR := Lib.hid (rungD_snoc hrg.out hr.out.1 hr.out.2)
          have HST : Hid (StRow wr w.heap.size ds.length (stD ds X (k + 1)) ts) := ⟨hM.out.row, hM.out.len, fun i hi => by
            have := hM.out.ali i hi
            rw [if_pos hi] at this
            rw [show sAt (stD ds X (k + 1)) i = stepD (dAt ds i) (sAt (stD ds X k) i) (X k) from nextD_at (by rw [stD_len]; exact hi)]
            exact this⟩
          have B3 : Hid (Below w.heap.size w wr) := ⟨hG1.os.trans hbel.out.os, hG1.tape.trans hbel.out.tape, hG1.output.trans hbel.out.output, Nat.le_trans hbel.out.size hG1.size, fun q hq => (hG1.block q (by have := hbel.out.size; omega) (by intro e; injection e with e; omega)).trans (hbel.out.block q hq)⟩
          have hgs3 : w.heap.size + 1 ≤ wr.heap.size := by omega
          clear Hown hr hM hG hG1
          go_wp2_with (at_builtin; refine wpList_app1 rfl (.tmp 55) (.tmp 57) 87 rfl (w.heap.size + 1) 30 (.float .f64 0) 8 Try.underlying87 f64_info' rfl u8 k (f64s ys) _ rfl rfl rfl hown3 hgs3 (by omega) (by omega) ?_; intro v' w4 hown4 hbel4)
          go_roundw
          case rel =>
            refine ⟨k + 1, ys ++ [r], ts, by go_num, by omega, by simpa [f64s] using hown4, HR.out, ⟨HST.out.row.of_block (hbel4.block _ (by omega)), HST.out.len, HST.out.ali⟩, B3.out.trans (hbel4.mono (by omega)), ?_⟩
            have := own_size hown4; omega
          case measure => simp [intOf]; omega
    · have hkn : n = k := by omega
      subst hkn
      go_wp2_with fail
      go_ret
      obtain ⟨A', cap, hv, hl', hrd⟩ := own_rd hown
      subst hv
      have e := hrg.out.1
      exact ⟨A', cap, ys, by rw [e]; rfl, by rw [e]; exact owns_low hown (by omega), hrg.out, hbel.out⟩
end Go.Proofs.Ytignncjmbcdpaaa

/-
impl.ring for the closure of impl.RingWide: as Ring64.
-/
namespace Go.Proofs.Ytignncjmbcdpaaa
open Go Go.RowKit Ieee

set_option maxRecDepth 100000 in
set_option maxHeartbeats 2000000 in
theorem ringW_any (A : Option Addr) (c lo hi : Nat) (ds : List DW) (pb : Nat) (X : Nat → Nat) (n : Nat) (w : World) (h : OwnD w lo hi A c ds) (hh : hi ≤ w.heap.size) (hl : ds.length ≤ 16) (hn : n ≤ 2000)
    (hin : ∀ (i : Nat) (W : World), i < n → Below w.heap.size w W → Calls Try.prog 114 #[.int .i64 i, .pointer (some ⟨pb, 0, none⟩)] W fun e w' => ∃ x m, e = .returned (.float .f64 x) ∧ nrm .f64 x = nrm .f64 (X i) ∧ W.drewN m = w') :
    Calls Try.prog 113 #[.slice A ds.length c, .func (.func 114) #[] #[.pointer (some ⟨pb, 0, none⟩)], .int .i64 n] w fun e w' => ∃ (A' : Option Addr) (c' : Nat) (ys : List Nat), e = .returned (.slice A' ys.length c') ∧
      w'.ownsRow w.heap.size 30 1 (.slice A' ys.length c') ys.length (f64s ys) ∧ RungD ds X ys n ∧ Below w.heap.size w w' := by
  have H0 := Lib.hid h
  have HIN := Lib.hid hin
  clear h hin
  have hmk := fun W => run_make_row' (P := Try.prog) 36 33 (.complex .f64 0 0) 16 Try.underlying36 c128_info rfl .i64 .i64 ds.length (by omega) (by omega) W
  have S0 : Hid (StRow ((w.alloc (.cells (madeCells #[.complex .f64 0 0] ds.length) 33)).alloc (.cells #[] 30)) w.heap.size ds.length (stD ds X 0) (List.replicate ds.length (0, 0))) :=
    ⟨((World.rowIs_made w (.complex .f64 0 0) ds.length 33).alloc _).congr fun i hi => by simp [sAt, cV, List.getD, hi], by simp, fun i hi => by simp [stD, AliS]⟩
  have hz1 : (w.alloc (.cells (madeCells #[.complex .f64 0 0] ds.length) 33)).heap.size = w.heap.size + 1 := by simp
  have hz2 : ((w.alloc (.cells (madeCells #[.complex .f64 0 0] ds.length) 33)).alloc (.cells #[] 30)).heap.size = w.heap.size + 2 := by simp
  have own0 : ((w.alloc (.cells (madeCells #[.complex .f64 0 0] ds.length) 33)).alloc (.cells #[] 30)).ownsRow (w.heap.size + 1) 30 1 (.slice (some ⟨w.heap.size + 1, 0, none⟩) 0 0) 0 (f64s []) := by
    have := owns_empty (w.alloc (.cells (madeCells #[.complex .f64 0 0] ds.length) 33)) 30
    rw [hz1] at this; exact this
  have B0 : Hid (Below w.heap.size w ((w.alloc (.cells (madeCells #[.complex .f64 0 0] ds.length) 33)).alloc (.cells #[] 30))) := ((Below.refl w.heap.size w).alloc (Nat.le_refl _) _).alloc (by rw [hz1]; omega) _
  go_enter Try.func113, Try.ntmps113
  go_wp2_with fail
  generalize (w.alloc (.cells (madeCells #[.complex .f64 0 0] ds.length) 33)).alloc (.cells #[] 30) = W2 at *
  clear hz1
  go_loopw [8, 19] (fun v i wr => ∃ (k : Nat) (ys : List Nat) (ts : List CW), i = .int .i64 (k : Int) ∧ k ≤ n ∧ wr.ownsRow (w.heap.size + 1) 30 1 v k (f64s ys) ∧ Hid (RungD ds X ys k) ∧ Hid (StRow wr w.heap.size ds.length (stD ds X k) ts) ∧
    Hid (Below w.heap.size w wr) ∧ w.heap.size + 2 ≤ wr.heap.size) (fun _ i _ => n - (intOf i).toNat)
  case atStart => exact ⟨0, [], _, rfl, by omega, own0, ⟨rfl, fun i hi => absurd hi (Nat.not_lt_zero _)⟩, S0.out, B0.out, by omega⟩
  case round =>
    clear own0 S0 B0
    obtain ⟨k, ys, ts, rfl, hk, hown, hrg, hst, hbel, hgs⟩ := hrel
    obtain ⟨wo, hwo⟩ : ∃ wo, wo = wr := ⟨_, rfl⟩
    subst hwo
    by_cases hlt : k < n
    · go_wp2_with fail
      refine (HIN.out k wo hlt hbel.out).mono ?_
      rintro e w' ⟨x, mx, rfl, hx, rfl⟩
      have HX := Lib.hid hx
      clear hx
      have hst1 : StMid (wo.drewN mx) w.heap.size ds (stD ds X k) (X k) 0 ts := ⟨hst.out.row, hst.out.len, fun i hi => by rw [if_neg (by omega)]; exact hst.out.ali i hi⟩
      have HM := Lib.hid hst1
      have Hown := Lib.hid hown
      clear hst1 hst hown
      go_wp2_with fail
      go_loopw [11, 27] (fun sm i w3 => ∃ (j r : Nat) (ts : List CW), i = .int .i64 (j : Int) ∧ j ≤ ds.length ∧ sm = .float .f64 r ∧ Hid (nrm .f64 r = outD ds (stD ds X k) (X k) j ∧ wfk .f64 r) ∧ Hid (StMid w3 w.heap.size ds (stD ds X k) (X k) j ts) ∧
        Hid (wo.grownBy w3 (some w.heap.size))) (fun _ i _ => ds.length - (intOf i).toNat)
      case atStart => exact ⟨0, 0, ts, rfl, by omega, rfl, ⟨nrm_of_num (by decide +kernel), by rw [wfk_64]; omega⟩, HM.out, rfl, rfl, rfl, Nat.le_refl _, fun _ _ _ => rfl⟩
      case round =>
        clear HM
        obtain ⟨j, r, ts, rfl, hj, rfl, hr, hM, hG⟩ := hrel
        by_cases hlj : j < ds.length
        · have hG1 := hG.out
          have hgs1 : w.heap.size + 2 ≤ wr.heap.size := Nat.le_trans hgs hG1.size
          have HD1 : OwnD wr lo hi A c ds := (H0.out.below hbel.out hh).keep fun q _ hq => hG1.block q (by omega) (by intro e; injection e with e; omega)
          obtain ⟨b, rfl, hb1, hb2, hlc, hmx, hcell⟩ := HD1.cells (by omega)
          obtain ⟨e1, e2⟩ := hcell j hlj
          have e3 : wr.cell? ⟨w.heap.size, j, none⟩ = some (.complex .f64 (sAt ts j).1 (sAt ts j).2) := hM.out.row.cell hlj
          have e1' : wr.cell? ⟨b, j * 2, none⟩ = some (.complex .f64 (dAt ds j).1 (dAt ds j).2.1) := e1
          have e2' : wr.cell? ⟨b, j * 2 + 1, none⟩ = some (.complex .f64 (dAt ds j).2.2.1 (dAt ds j).2.2.2) := e2
          have hA0 : AliS (sAt ts j) (sAt (stD ds X k) j) := by have := hM.out.ali j hlj; rwa [if_neg (by omega)] at this
          have HS : Hid (∀ p q p2 q2 p3 q3, nrm .f64 p = nrm .f64 (mulRe (sAt ts j).1 (sAt ts j).2 (dAt ds j).1 (dAt ds j).2.1) ∧ nrm .f64 q = nrm .f64 (mulIm (sAt ts j).1 (sAt ts j).2 (dAt ds j).1 (dAt ds j).2.1) →
              nrm .f64 p2 = fo .mul .f64 (dAt ds j).2.2.1 x ∧ nrm .f64 q2 = fo .mul .f64 (dAt ds j).2.2.2 x → nrm .f64 p3 = nrm .f64 (fo .add .f64 p p2) ∧ nrm .f64 q3 = nrm .f64 (fo .add .f64 q q2) → AliS (p3, q3) (stepD (dAt ds j) (sAt (stD ds X k) j) (X k))) := fun p q p2 q2 p3 q3 h1 h2 h3 =>
            step_ali hA0 HX.out h1 (by rw [nrm_fo, nrm_fo]; exact h2) h3
          have HO : Hid (outD ds (stD ds X k) (X k) (j + 1) = fo .add .f64 (outD ds (stD ds X k) (X k) j) (stepD (dAt ds j) (sAt (stD ds X k) j) (X k)).1) := rfl
          clear e1 e2 hcell hA0
          obtain ⟨a, ha⟩ : ∃ a, (dAt ds j).1 = a := ⟨_, rfl⟩
          obtain ⟨b0, hb⟩ : ∃ b, (dAt ds j).2.1 = b := ⟨_, rfl⟩
          obtain ⟨c0, hc⟩ : ∃ c, (dAt ds j).2.2.1 = c := ⟨_, rfl⟩
          obtain ⟨d0, hd⟩ : ∃ d, (dAt ds j).2.2.2 = d := ⟨_, rfl⟩
          obtain ⟨s1, hs1⟩ : ∃ s, (sAt ts j).1 = s := ⟨_, rfl⟩
          obtain ⟨s2, hs2⟩ : ∃ s, (sAt ts j).2 = s := ⟨_, rfl⟩
          rw [ha, hb] at e1' HS
          rw [hc, hd] at e2' HS
          rw [hs1, hs2] at e3 HS
          clear ha hb hc hd hs1 hs2
          have R1 : Hid (∀ m, ((wr.alloc (.cells #[.complex .f64 a b0, .complex .f64 c0 d0] 131)).drewN m).rowIs w.heap.size 33 ds.length (fun i => cV (sAt ts i))) := fun m => hM.out.row.alloc _
          have G1 : Hid (∀ m, wo.grownBy ((wr.alloc (.cells #[.complex .f64 a b0, .complex .f64 c0 d0] 131)).drewN m) (some w.heap.size)) := fun m => ⟨hG1.os, hG1.tape, hG1.output, by have := hG1.size; show wo.heap.size ≤ (wr.alloc _).heap.size; simp; omega, fun i hi hne => (Below.heap_alloc wr _ i (Nat.lt_of_lt_of_le hi hG1.size)).trans (hG1.block i hi hne)⟩
          have hmB : (wr.alloc (.cells #[.complex .f64 a b0, .complex .f64 c0 d0] 131)).heap[wr.heap.size]? = some (.cells #[.complex .f64 a b0, .complex .f64 c0 d0] 131 (0, 0)) := heap_alloc_new wr _
          have HLEN := Lib.hid hM.out.len
          go_wp2_with fail
          have m0 := cell_of_row _ wr.heap.size 0 _ _ (0, 0) hmB
          have m1 := cell_of_row _ wr.heap.size 1 _ _ (0, 0) hmB
          simp only [List.getElem?_toArray, List.getElem?_cons_zero, List.getElem?_cons_succ] at m0 m1
          have s0 : (wr.alloc (.cells #[.complex .f64 a b0, .complex .f64 c0 d0] 131)).cell? ⟨w.heap.size, j, none⟩ = some (.complex .f64 s1 s2) := (World.cell?_of_block (Below.heap_alloc wr _ w.heap.size (by omega))).trans e3
          have f0 : (wr.alloc (.cells #[.complex .f64 a b0, .complex .f64 c0 d0] 131)).frozen? ⟨w.heap.size, j, none⟩ = false := (R1.out 0).frozen j
          have c6 : ∀ m v, (((wr.alloc (.cells #[.complex .f64 a b0, .complex .f64 c0 d0] 131)).drewN m).setCell ⟨w.heap.size, j, none⟩ v).cell? ⟨w.heap.size, j, none⟩ = some v := fun m v => by
            have := ((R1.out m).set j v).cell hlj
            simpa using this
          generalize wr.alloc (.cells #[.complex .f64 a b0, .complex .f64 c0 d0] 131) = Wa at *
          generalize wr.heap.size = mb at *
          clear e1' e2' e3 hmB hG1 HD1
          go_region_with (first
            | (go_at_call 79
               refine (implTimes_any s1 s2 a b0 _).mono ?_
               rintro e w' ⟨p, q, n1, rfl, hp, hq, _, _, rfl⟩
               have HP := Lib.hid (And.intro hp hq)
               clear hp hq)
            | (go_at_call 29
               refine (scale_any c0 d0 x _).mono ?_
               rintro e w' ⟨p2, q2, n2, rfl, hp, hq, _, _, rfl⟩
               have HP2 := Lib.hid (And.intro hp hq)
               clear hp hq)
            | (go_at_call 96
               refine (implAddD_any p q p2 q2 _).mono ?_
               rintro e w' ⟨p3, q3, n3, rfl, hp, hq, hw1, hw2, rfl⟩
               have HP3 := Lib.hid (And.intro (HS.out p q p2 q2 p3 q3 HP.out HP2.out (And.intro hp hq)) (And.intro hw1 hw2))
               clear hp hq hw1 hw2))
          all_goals
            go_wp2_with fail
            go_roundw
            case rel =>
              refine ⟨j + 1, _, _, by go_num, by omega, rfl, ⟨?_, fR_lt _ _ _ _ _⟩, (hM.out.step hlj HP3.out.1 ((R1.out _).set j _)).drewN _, grown_drewN (grown_setG (G1.out _)) _⟩
              rw [nrm_fR, HO.out]
              exact fo_congr (by rw [hr.out.1, nrm_outD]) HP3.out.1.1
            case measure => simp [intOf]; omega
        · have hkj : ds.length = j := by omega
          subst hkj
          have hG1 := hG.out
          have hgs1 : w.heap.size + 2 ≤ wr.heap.size := Nat.le_trans hgs hG1.size
          have hown3 : wr.ownsRow (w.heap.size + 1) 30 1 u8 k (f64s ys) := owns_keep Hown.out fun j h1 h2 => hG1.block j h2 (by intro e; injection e with e; omega)
          have HR := Lib.hid (rungD_snoc hrg.out hr.out.1 hr.out.2)
          have HST : Hid (StRow wr w.heap.size ds.length (stD ds X (k + 1)) ts) := ⟨hM.out.row, hM.out.len, fun i hi => by
            have := hM.out.ali i hi
            rw [if_pos hi] at this
            rw [show sAt (stD ds X (k + 1)) i = stepD (dAt ds i) (sAt (stD ds X k) i) (X k) from nextD_at (by rw [stD_len]; exact hi)]
            exact this⟩
          have B3 : Hid (Below w.heap.size w wr) := ⟨hG1.os.trans hbel.out.os, hG1.tape.trans hbel.out.tape, hG1.output.trans hbel.out.output, Nat.le_trans hbel.out.size hG1.size, fun q hq => (hG1.block q (by have := hbel.out.size; omega) (by intro e; injection e with e; omega)).trans (hbel.out.block q hq)⟩
          have hgs3 : w.heap.size + 1 ≤ wr.heap.size := by omega
          clear Hown hr hM hG hG1
          go_wp2_with (at_builtin; refine wpList_app1 rfl (.tmp 55) (.tmp 57) 87 rfl (w.heap.size + 1) 30 (.float .f64 0) 8 Try.underlying87 f64_info' rfl u8 k (f64s ys) _ rfl rfl rfl hown3 hgs3 (by omega) (by omega) ?_; intro v' w4 hown4 hbel4)
          go_roundw
          case rel =>
            refine ⟨k + 1, ys ++ [r], ts, by go_num, by omega, by simpa [f64s] using hown4, HR.out, ⟨HST.out.row.of_block (hbel4.block _ (by omega)), HST.out.len, HST.out.ali⟩, B3.out.trans (hbel4.mono (by omega)), ?_⟩
            have := own_size hown4; omega
          case measure => simp [intOf]; omega
    · have hkn : n = k := by omega
      subst hkn
      go_wp2_with fail
      go_ret
      obtain ⟨A', cap, hv, hl', hrd⟩ := own_rd hown
      subst hv
      have e := hrg.out.1
      exact ⟨A', cap, ys, by rw [e]; rfl, by rw [e]; exact owns_low hown (by omega), hrg.out, hbel.out⟩
end Go.Proofs.Ytignncjmbcdpaaa

/-
impl.widened.
-/
namespace Go.Proofs.Ytignncjmbcdpaaa
open Go Go.RowKit Ieee

set_option maxRecDepth 100000 in
set_option maxHeartbeats 1000000 in
theorem widened_any (A : Option Addr) (c lo hi : Nat) (ms : List MW) (w : World) (h : OwnM w lo hi A c ms) (hh : hi ≤ w.heap.size) (hok : ModesOk ms) (hl : ms.length ≤ 16) :
    Calls Try.prog 109 #[.agg #[.slice A ms.length c]] w fun e w' => ∃ (A' : Option Addr) (c' : Nat), e = .returned (.slice A' ms.length c') ∧ OwnD w' w.heap.size w'.heap.size A' c' (ms.map widM) ∧ Below w.heap.size w w' := by
  have HB : Hid (Below w.heap.size w ((w.alloc (.cells #[.slice A ms.length c] 69)).alloc (.cells #[] 131))) := ((Below.refl w.heap.size w).alloc (Nat.le_refl _) _).alloc (by simp) _
  have H0 := Lib.hid h
  have HK := Lib.hid hok
  have hBd : ((w.alloc (.cells #[.slice A ms.length c] 69)).alloc (.cells #[] 131)).heap[w.heap.size]? = some (.cells #[.slice A ms.length c] 69 (0, 0)) := (Below.heap_alloc _ _ _ (by simp)).trans (heap_alloc_new w _)
  have c0 := cell_of_row _ w.heap.size 0 _ _ (0, 0) hBd
  have own0 : ((w.alloc (.cells #[.slice A ms.length c] 69)).alloc (.cells #[] 131)).ownsRow w.heap.size 131 2 (.slice (some ⟨w.heap.size + 1, 0, none⟩) 0 0) 0 (flatD (([] : List MW).map widM)) := by
    have hn := heap_alloc_new (w.alloc (.cells #[.slice A ms.length c] 69)) (.cells #[] 131)
    refine ⟨by simp [flatD], .inr ⟨w.heap.size + 1, 0, #[], rfl, by omega, by simpa using hn, Nat.le_refl _, by simp [maxLen], by simp, by simp [flatD]⟩⟩
  clear h hok hBd
  go_enter Try.func109, Try.ntmps109
  go_wp2_with fail
  generalize (w.alloc (.cells #[.slice A ms.length c] 69)).alloc (.cells #[] 131) = W at *
  go_loopw [3, 10] (fun v i wr => ∃ (k : Nat) (L : List MW), i = .int .i64 (k : Int) ∧ k ≤ ms.length ∧ Hid (L = ms.take k) ∧ wr.ownsRow w.heap.size 131 2 v k (flatD (L.map widM)) ∧ Below w.heap.size w wr) (fun _ i _ => ms.length - (intOf i).toNat)
  case atStart => exact ⟨0, [], rfl, by omega, rfl, own0, HB.out⟩
  case round =>
    clear own0 c0
    obtain ⟨k, L, rfl, hk, HL, hown, hbel⟩ := hrel
    by_cases hlt : k < ms.length
    · obtain ⟨b, rfl, hb1, hb2, hlc, hmx, hcell⟩ := (H0.out.below hbel hh).cells (by omega)
      obtain ⟨e1, e2⟩ := hcell k hlt
      have hmk := HK.out.at_ hlt
      have HLx : Hid (L ++ [mAt ms k] = ms.take (k + 1)) := by
        show L ++ [mAt ms k] = ms.take (k + 1)
        rw [HL.out, List.take_add_one, List.getElem?_eq_getElem hlt]
        simp [mAt, List.getD, List.getElem?_eq_getElem hlt]
      have hmod : Hid (modeD (widM (mAt ms k)) = [.complex .f64 (wid (mAt ms k).1) (wid (mAt ms k).2.1), .complex .f64 (wid (mAt ms k).2.2.1) (wid (mAt ms k).2.2.2)]) := rfl
      have e1' : wr.cell? ⟨b, k * 2, none⟩ = some (.complex .f32 (mAt ms k).1 (mAt ms k).2.1) := e1
      have e2' : wr.cell? ⟨b, k * 2 + 1, none⟩ = some (.complex .f32 (mAt ms k).2.2.1 (mAt ms k).2.2.2) := e2
      have T1 := Lib.hid (fun W => widenFin_any (mAt ms k).1 (mAt ms k).2.1 W hmk.fa hmk.fb)
      have T2 := Lib.hid (fun W => widenFin_any (mAt ms k).2.2.1 (mAt ms k).2.2.2 W hmk.fc hmk.fd)
      clear e1 e2 hcell hmk
      obtain ⟨a, ha⟩ : ∃ a, (mAt ms k).1 = a := ⟨_, rfl⟩
      obtain ⟨b0, hb⟩ : ∃ b, (mAt ms k).2.1 = b := ⟨_, rfl⟩
      obtain ⟨c0, hc⟩ : ∃ c, (mAt ms k).2.2.1 = c := ⟨_, rfl⟩
      obtain ⟨d0, hd⟩ : ∃ d, (mAt ms k).2.2.2 = d := ⟨_, rfl⟩
      rw [ha, hb] at e1' T1
      rw [hc, hd] at e2' T2
      rw [ha, hb, hc, hd] at hmod
      clear ha hb hc hd
      obtain ⟨a', ha⟩ : ∃ a', wid a = a' := ⟨_, rfl⟩
      obtain ⟨b', hb⟩ : ∃ b', wid b0 = b' := ⟨_, rfl⟩
      obtain ⟨c'', hc⟩ : ∃ c', wid c0 = c' := ⟨_, rfl⟩
      obtain ⟨d', hd⟩ : ∃ d', wid d0 = d' := ⟨_, rfl⟩
      rw [ha, hb] at T1
      rw [hc, hd] at T2
      rw [ha, hb, hc, hd] at hmod
      clear ha hb hc hd
      have hmB : Hid ((wr.alloc (.cells #[.complex .f32 a b0, .complex .f32 c0 d0] 52)).heap[wr.heap.size]? = some (.cells #[.complex .f32 a b0, .complex .f32 c0 d0] 52 (0, 0))) := heap_alloc_new wr _
      have HB1 : Hid (Below w.heap.size w (wr.alloc (.cells #[.complex .f32 a b0, .complex .f32 c0 d0] 52))) := hbel.alloc hbel.size _
      have HO1 : Hid ((wr.alloc (.cells #[.complex .f32 a b0, .complex .f32 c0 d0] 52)).ownsRow w.heap.size 131 2 u3 k (flatD (L.map widM))) := hown.alloc _
      have hms : wr.heap.size < (wr.alloc (.cells #[.complex .f32 a b0, .complex .f32 c0 d0] 52)).heap.size := by simp
      have hNG : Hid (∀ q, (u3 : Value).ownBlock = some q → q < wr.heap.size) := fun q hq => (hown.lt q hq).2
      have hws : w.heap.size ≤ wr.heap.size := hbel.size
      go_wp2_with fail
      generalize wr.alloc (.cells #[.complex .f32 a b0, .complex .f32 c0 d0] 52) = Wa at *
      obtain ⟨m0, m1, _, _⟩ := m_cells hmB.out
      generalize hmm : wr.heap.size = mb at *
      obtain ⟨wr1, hwr1⟩ : ∃ wr1, Wa.drew = wr1 := ⟨_, rfl⟩
      have hS : Wa.drew.cell? ⟨mb, 0, none⟩ = some (.complex .f32 a b0) ∧ Wa.drew.cell? ⟨mb, 1, none⟩ = some (.complex .f32 c0 d0) := ⟨m0, m1⟩
      have HOW : Hid (wr1.ownsRow w.heap.size 131 2 u3 k (flatD (L.map widM))) := by rw [← hwr1]; exact HO1.out
      have HAl : Hid ((wr1.alloc (.cells #[.complex .f64 a' b', .complex .f64 c'' d'] 131)).cell? ⟨mb, 0, none⟩ = some (.complex .f32 a b0) ∧ (wr1.alloc (.cells #[.complex .f64 a' b', .complex .f64 c'' d'] 131)).cell? ⟨mb, 1, none⟩ = some (.complex .f32 c0 d0)) := by
        rw [← hwr1]
        exact ⟨(World.cell?_of_block (Below.heap_alloc Wa.drew _ mb hms)).trans m0, (World.cell?_of_block (Below.heap_alloc Wa.drew _ mb hms)).trans m1⟩
      have BK : Hid (∀ (w4 : World) (gg : Nat), (wr1.alloc (.cells #[.complex .f64 a' b', .complex .f64 c'' d'] 131)).grownBy w4 (u3 : Value).ownBlock → Below w.heap.size w w4 ∧ (w4.cell? ⟨mb, 0, none⟩ = some (.complex .f32 a b0) ∧ w4.cell? ⟨mb, 1, none⟩ = some (.complex .f32 c0 d0))) := fun w4 gg hg => by
        have hsz : wr1.heap.size = Wa.heap.size := by rw [← hwr1]; rfl
        have hne : some mb ≠ (u3 : Value).ownBlock := fun e => by have := hNG.out _ e.symm; omega
        have k4 := hg.block mb (by simp; omega) hne
        have b1 : Below w.heap.size w wr1 := by
          rw [← hwr1]; exact below_drewN HB1.out 1
        refine ⟨(b1.alloc (by have := HB1.out.size; omega) _).grown hg (by have := HB1.out.size; simp; omega) (fun q hq => (HOW.out.lt q hq).1), (World.cell?_of_block k4).trans HAl.out.1, (World.cell?_of_block k4).trans HAl.out.2⟩
      have hb0 : w.heap.size ≤ wr1.heap.size := by rw [← hwr1]; exact HB1.out.size
      clear m0 m1 hown hbel e1' e2'
      refine wp_region_held_drew (S := fun w' => w'.cell? ⟨mb, 0, none⟩ = some (.complex .f32 a b0) ∧ w'.cell? ⟨mb, 1, none⟩ = some (.complex .f32 c0 d0)) (by kernel_rfl) hS (fun hHeld => ?_)
      rw [hwr1] at hHeld ⊢
      refine wpAnyH_take (i := 0) (oi := _) (v := ?_) rfl (by kernel_rfl) (by kernel_rfl) (by kernel_rfl) (fun _ _ _ h => h) (Or.inl ⟨by rfl, ?_⟩) (by assumption) ?_
      rotate_left
      · (intro w hSw; (try dsimp only at hSw); go_simp; try (with_reducible rfl))
      (try simp only [Act.put, List.setIfInBounds_toArray, List.set_cons_zero, List.set_cons_succ])
      refine wpAnyH_take (i := 1) (oi := _) (v := ?_) rfl (by kernel_rfl) (by kernel_rfl) (by kernel_rfl) (fun _ _ _ h => h) (Or.inl ⟨by rfl, ?_⟩) (by assumption) ?_
      rotate_left
      · (intro w hSw; (try dsimp only at hSw); go_simp; try (with_reducible rfl))
      (try simp only [Act.put, List.setIfInBounds_toArray, List.set_cons_zero, List.set_cons_succ])
      refine wpAnyH_take (i := 2) (oi := _) (v := ?_) rfl (by kernel_rfl) (by kernel_rfl) (by kernel_rfl) (fun _ _ _ h => h) (Or.inl ⟨by rfl, ?_⟩) (by assumption) ?_
      rotate_left
      · (intro w hSw; (try dsimp only at hSw); go_simp; try (with_reducible rfl))
      (try simp only [Act.put, List.setIfInBounds_toArray, List.set_cons_zero, List.set_cons_succ])
      refine wpAnyH_take (i := 4) (oi := _) (v := ?_) rfl (by kernel_rfl) (by kernel_rfl) (by kernel_rfl) (fun _ _ _ h => h) (Or.inl ⟨by rfl, ?_⟩) (by assumption) ?_
      rotate_left
      · (intro w hSw; (try dsimp only at hSw); go_simp; try (with_reducible rfl))
      (try simp only [Act.put, List.setIfInBounds_toArray, List.set_cons_zero, List.set_cons_succ])
      refine wpAnyH_take (i := 5) (oi := _) (v := ?_) rfl (by kernel_rfl) (by kernel_rfl) (by kernel_rfl) (fun _ _ _ h => h) (Or.inl ⟨by rfl, ?_⟩) (by assumption) ?_
      rotate_left
      · (intro w hSw; (try dsimp only at hSw); go_simp; try (with_reducible rfl))
      (try simp only [Act.put, List.setIfInBounds_toArray, List.set_cons_zero, List.set_cons_succ])
      refine wpAnyH_ready (rs := [3]) (by kernel_rfl) (by simp) ?_
      refine AllReadyH.cons (o := _) rfl (fun K hK => ?_) AllReadyH.nil
      go_simp
      refine (T1.out wr1).mono ?_
      rintro e w' ⟨rfl, rfl⟩
      go_wp2_with fail
      refine hK.out _ _ ?_ (fun hHelda => ?_)
      · exact hHeld
      clear hK K
      (try simp only [Act.put, List.setIfInBounds_toArray, List.set_cons_zero, List.set_cons_succ])
      refine wpAnyH_ready (rs := [6]) (by kernel_rfl) (by simp) ?_
      refine AllReadyH.cons (o := _) rfl (fun K hK => ?_) AllReadyH.nil
      go_simp
      refine (T2.out wr1).mono ?_
      rintro e w' ⟨rfl, rfl⟩
      go_wp2_with fail
      refine hK.out _ _ ?_ (fun hHeldb => ?_)
      · exact hHeld
      clear hK K
      (try simp only [Act.put, List.setIfInBounds_toArray, List.set_cons_zero, List.set_cons_succ])
      refine wpAnyH_take (i := 7) (oi := _) (v := ?_) rfl (by kernel_rfl) (by kernel_rfl) (by kernel_rfl) (fun _ _ _ h => h) (Or.inl ⟨by rfl, ?_⟩) (by assumption) ?_
      rotate_left
      · (intro w hSw; (try dsimp only at hSw); go_simp; try (with_reducible rfl))
      (try simp only [Act.put, List.setIfInBounds_toArray, List.set_cons_zero, List.set_cons_succ])
      refine wpAnyH_ready (rs := [8]) (by kernel_rfl) (by simp) ?_
      refine AllReadyH.cons (o := _) rfl (fun K hK => ?_) AllReadyH.nil
      go_simp
      refine hK.out _ _ ?_ (fun hHeldc => ?_)
      · exact HAl.out
      clear hK K
      (try simp only [Act.put, List.setIfInBounds_toArray, List.set_cons_zero, List.set_cons_succ])
      obtain ⟨i0, hi0, hz0, hz1, hz2'⟩ := info_parts wide_info
      refine wpAnyH_ready (rs := [9]) (by kernel_rfl) (by simp) ?_
      refine AllReadyH.cons (o := _) rfl (fun K hK => ?_) AllReadyH.nil
      refine step_append_lies _ (by rfl) (.tmp 14) (.tmp 22) 83 (by rfl) w.heap.size 131 i0 _ 2 32 Try.underlying83 hi0 hz0 hz1 hz2' rfl (by omega) u3 k (flatD (L.map widM)) (by rfl) (HOW.out.alloc _) ⟨wr1.heap.size, 0, none⟩ 1 1 [.complex .f64 a' b', .complex .f64 c'' d'] (by rfl) (by rfl) (World.news_of_block (cs := #[.complex .f64 a' b', .complex .f64 c'' d']) (t := 131) (fr := (0, 0)) (heap_alloc_new wr1 _)) (by simp [Value.oneCell']) (by omega) (by simp only [maxLen]; omega) (by omega) (by simp; omega) (wr1.heap.size + 1) (by simp) ?_
      intro gg cap w4 hown4 hgrow hat hlt4
      have B4 := Lib.hid (BK.out w4 gg hgrow)
      refine hK.out _ _ ?_ (fun hHeldd => ?_)
      · exact B4.out.2
      clear hK K
      (try simp only [Act.put, List.setIfInBounds_toArray, List.set_cons_zero, List.set_cons_succ])
      refine wpAnyH_take (i := 10) (oi := _) (v := ?_) rfl (by kernel_rfl) (by kernel_rfl) (by kernel_rfl) (fun _ _ _ h => h) (Or.inl ⟨by rfl, ?_⟩) (by assumption) ?_
      rotate_left
      · (intro w hSw; (try dsimp only at hSw); go_simp; try (with_reducible rfl))
      (try simp only [Act.put, List.setIfInBounds_toArray, List.set_cons_zero, List.set_cons_succ])
      refine wpAnyH_done (by kernel_rfl) ?_ _
      go_wp2_with fail
      go_roundw
      case rel =>
        refine ⟨k + 1, L ++ [mAt ms k], by go_num, by omega, HLx.out, ?_, B4.out.1⟩
        rw [List.map_append, List.map_cons, List.map_nil, ← flatD_snoc, hmod.out]
        exact hown4
      case measure => simp [intOf]; omega
    · have hkn : ms.length = k := by omega
      subst hkn
      have hL : L = ms := by rw [HL.out, List.take_length]
      subst hL
      go_wp2_with fail
      go_ret
      have hv : ∃ A' c', u3 = .slice A' L.length c' := by
        rcases hown.2 with ⟨rfl, h0⟩ | ⟨G, cap', cur', rfl, _⟩
        · exact ⟨none, 0, by rw [h0]⟩
        · exact ⟨_, _, rfl⟩
      obtain ⟨A', c', rfl⟩ := hv
      have hln : (L.map widM).length = L.length := by simp
      refine ⟨A', c', rfl, OwnD.of ?_, hbel⟩
      rw [hln]; exact hown
end Go.Proofs.Ytignncjmbcdpaaa
