/-
Part 5 of 5 of the proof of the law FnFitted: it returns true for all codes. No condition.
-/
import Derived.Test.YtignncjmbcdpaaaLawFittedM4

/-
The outputs in single precision stay near those in double precision. (Plain arithmetic.)
-/
namespace Go.Proofs.Ytignncjmbcdpaaa
open Go Ieee

/-- Inputs that are finite and at most 128. -/
def LowX (xs : List Nat) : Prop := ∀ i, i < xs.length → fin .f32 (xs.getD i 0) ∧ ab (fv .f32 (xs.getD i 0)) ≤ 128
theorem LowX.at_ {xs : List Nat} (h : LowX xs) (i : Nat) : fin .f32 (inAt xs i) ∧ ab (fv .f32 (inAt xs i)) ≤ 128 := by
  unfold inAt
  split
  · exact h i ‹_›
  · obtain ⟨z1, z2⟩ := zero_fin .f32
    exact ⟨z1, by rw [z2, ab_of_nonneg Rat.le_refl]; grind⟩
/-- The sum of the sizes of the first i inputs. -/
def sumIn (xs : List Nat) : Nat → Rat
  | 0 => 0
  | i + 1 => sumIn xs i + ab (fv .f32 (inAt xs i))
theorem sumIn_nonneg (xs : List Nat) (i : Nat) : 0 ≤ sumIn xs i := by
  induction i with
  | zero => exact Rat.le_refl
  | succ i ih =>
    have := ab_nonneg (fv .f32 (inAt xs i))
    show 0 ≤ sumIn xs i + _
    grind
theorem sumIn_mono (xs : List Nat) {i j : Nat} (h : i ≤ j) : sumIn xs i ≤ sumIn xs j := by
  induction j with
  | zero =>
    obtain rfl : i = 0 := by omega
    exact Rat.le_refl
  | succ j ih =>
    rcases Nat.lt_or_ge j i with h1 | h1
    · obtain rfl : i = j + 1 := by omega
      exact Rat.le_refl
    · have := ab_nonneg (fv .f32 (inAt xs j))
      have h2 := ih h1
      show _ ≤ sumIn xs j + _
      grind
theorem sumIn_le {xs : List Nat} (h : LowX xs) (i : Nat) : sumIn xs i ≤ (i : Rat) * 128 := by
  induction i with
  | zero => show (0 : Rat) ≤ _; simp
  | succ i ih =>
    have := (h.at_ i).2
    have e : ((i + 1 : Nat) : Rat) = (i : Rat) + 1 := by simp
    rw [e]
    show sumIn xs i + _ ≤ _
    grind
theorem gam_le {m : MW} (hm : ModeOk m.1 m.2.1 m.2.2.1 m.2.2.2) : gam m ≤ 2048 := by
  have h1 := gain_le hm.fc hm.gain.1
  have h2 := gain_le hm.fd hm.gain.2
  unfold gam; grind
theorem dAt_map {ms : List MW} {k : Nat} (hk : k < ms.length) : dAt (ms.map widM) k = widM (mAt ms k) := by
  simp [dAt, mAt, List.getD, hk]
theorem near_all {ms : List MW} {xs : List Nat} (hm : ModesOk ms) (hx : LowX xs) (i : Nat) (hi : i ≤ 300) : ∀ k, k < ms.length → Near (sAt (stAt ms xs i) k) (sAt (stD (ms.map widM) (inW xs) i) k) (i : Rat) (gam (mAt ms k) * sumIn xs i) := by
  induction i with
  | zero =>
    intro k hk
    have e0 : sAt (stAt ms xs 0) k = (0, 0) := by simp [stAt, sAt, List.getD, hk]
    have e1 : sAt (stD (ms.map widM) (inW xs) 0) k = (0, 0) := by simp [stD, sAt, List.getD, hk]
    have e2 : gam (mAt ms k) * sumIn xs 0 = 0 := by show _ * (0 : Rat) = 0; grind
    have e3 : ((0 : Nat) : Rat) = 0 := by simp
    rw [e0, e1, e2, e3]
    exact near_zero
  | succ i ih =>
    intro k hk
    have h := ih (by omega) k hk
    have e : sAt (stAt ms xs (i + 1)) k = stepW (mAt ms k) (sAt (stAt ms xs i) k) (inAt xs i) := nextS_at (by rw [stAt_len]; exact hk)
    have e1 : sAt (stD (ms.map widM) (inW xs) (i + 1)) k = stepD (widM (mAt ms k)) (sAt (stD (ms.map widM) (inW xs) i) k) (wid (inAt xs i)) := by
      have := nextD_at (ms := ms.map widM) (x := inW xs i) (i := k) (ss := stD (ms.map widM) (inW xs) i) (by rw [stD_len]; simpa using hk)
      rw [dAt_map hk] at this
      exact this
    have e2 : gam (mAt ms k) * sumIn xs (i + 1) = gam (mAt ms k) * sumIn xs i + gam (mAt ms k) * ab (fv .f32 (inAt xs i)) := by
      show _ * (sumIn xs i + _) = _
      grind
    have e3 : ((i + 1 : Nat) : Rat) = (i : Rat) + 1 := by simp
    rw [e, e1, e2, e3]
    obtain ⟨x1, x2⟩ := hx.at_ i
    have g1 := gam_nonneg (mAt ms k)
    have g2 : gam (mAt ms k) ≤ 2048 := gam_le (hm.at_ hk)
    have s1 := sumIn_nonneg xs i
    have s2 := sumIn_le hx i
    have i1 : (i : Rat) ≤ 300 := by
      have := Rat.natCast_le_natCast.2 (show i ≤ 300 by omega)
      simpa using this
    have i0 : (0 : Rat) ≤ (i : Rat) := Rat.natCast_nonneg
    have u1 := mul_mono g2 (show sumIn xs i ≤ 38400 by grind) g1 (by grind)
    exact (near_step (hm.at_ hk) h x1 x2 i0 i1 (Rat.mul_nonneg g1 s1) (by grind)).2
theorem calm_x {ms : List MW} {xs : List Nat} (hm : ModesOk ms) (hx : LowX xs) (n : Nat) (hn : n ≤ 300) : Calm ms xs n := fun i hi k hk => by
  have h := near_all hm hx i (by omega) k hk
  obtain ⟨x1, x2⟩ := hx.at_ i
  have g1 := gam_nonneg (mAt ms k)
  have g2 : gam (mAt ms k) ≤ 2048 := gam_le (hm.at_ hk)
  have s1 := sumIn_nonneg xs i
  have s2 := sumIn_le hx i
  have i1 : (i : Rat) ≤ 300 := by
    have := Rat.natCast_le_natCast.2 (show i ≤ 300 by omega)
    simpa using this
  have i0 : (0 : Rat) ≤ (i : Rat) := Rat.natCast_nonneg
  have u1 := mul_mono g2 (show sumIn xs i ≤ 38400 by grind) g1 (by grind)
  exact (near_step (hm.at_ hk) h x1 x2 i0 i1 (Rat.mul_nonneg g1 s1) (by grind)).1
/-- The sum of the sizes of the first k gains. -/
def gsum (ms : List MW) : Nat → Rat
  | 0 => 0
  | k + 1 => gsum ms k + gam (mAt ms k)
theorem gsum_nonneg (ms : List MW) (k : Nat) : 0 ≤ gsum ms k := by
  induction k with
  | zero => exact Rat.le_refl
  | succ k ih =>
    have := gam_nonneg (mAt ms k)
    show 0 ≤ gsum ms k + _
    grind
/-- Sums of k outputs after t steps. -/
structure NearO (o O : Nat) (k t V : Rat) : Prop where
  f : fin .f32 o
  w : wfk .f32 o
  F : fin .f64 O
  W : wfk .f64 O
  b1 : ab (fv .f32 o) ≤ V + V / 2 ^ 10 + k * V / 2 ^ 20 + k / 2 ^ 110
  b2 : ab (fv .f64 O) ≤ V + V / 2 ^ 10 + k * V / 2 ^ 20 + k / 2 ^ 110
  b3 : ab (fv .f32 o - fv .f64 O) ≤ t * V * (9 / 8) / 2 ^ 21 + k * V / 2 ^ 22 + k / 2 ^ 110
theorem tiny64 {x y T E : Rat} (h : x ≤ 1 / 2 ^ 53 * y + E) (hy : y ≤ T * 2 + 1 / 2 ^ 100) (hE : E ≤ 1 / 2 ^ 200) (hT : 0 ≤ T) : x ≤ T / 2 ^ 50 + 1 / 2 ^ 130 := by grind
theorem tiny32 {x y T E : Rat} (h : x ≤ 1 / 16777216 * y + E) (hy : y ≤ T * 2 + 1 / 2 ^ 100) (hE : E ≤ 1 / 2 ^ 149) (hT : 0 ≤ T) : x ≤ T / 2 ^ 23 + 1 / 2 ^ 120 := by grind
theorem out_final {t V U k : Rat} (ht2 : t ≤ 300) (hV : 0 ≤ V) (hU : 0 ≤ U) (kU0 : 0 ≤ k * U) :
    (V + U) / 2 ^ 23 + 1 / 2 ^ 120 + (t * V * (9 / 8) / 2 ^ 21 + k * V / 2 ^ 22 + k / 2 ^ 110 + (t * U * (9 / 8) / 2 ^ 21 + t / 2 ^ 120)) + ((V + U) / 2 ^ 50 + 1 / 2 ^ 130) ≤
      t * (V + U) * (9 / 8) / 2 ^ 21 + (k + 1) * (V + U) / 2 ^ 22 + (k + 1) / 2 ^ 110 := by grind
theorem chain4 {z a b c d e f g h i R : Rat} (d3 : z ≤ a + e) (d1 : a ≤ b + c) (d2 : c ≤ d + f) (e3 : b ≤ g) (e4 : e ≤ h) (b3 : d ≤ i) (s3 : f ≤ R) {T : Rat} (hf : g + (i + R) + h ≤ T) : z ≤ T := by grind
theorem nearO_step {o O : Nat} {s : Nat × Nat} {S : CW} {k t V U : Rat} (h : NearO o O k t V) (g : Near s S t U) (hk : 0 ≤ k) (hk2 : k ≤ 16) (ht : 0 ≤ t) (ht2 : t ≤ 300) (hV : 0 ≤ V) (hV2 : V ≤ 2 ^ 60) (hU : 0 ≤ U) (hU2 : U ≤ 2 ^ 60) :
    NearO (fo .add .f32 o s.1) (fo .add .f64 O S.1) (k + 1) t (V + U) := by
  have kV0 := Rat.mul_nonneg hk hV
  have kU0 := Rat.mul_nonneg hk hU
  have tU0 := Rat.mul_nonneg ht hU
  have kV1 : k * V ≤ 16 * V := Rat.mul_le_mul_of_nonneg_right hk2 hV
  have tU1 : t * U ≤ 300 * U := Rat.mul_le_mul_of_nonneg_right ht2 hU
  have s1 := g.b1.parts.1
  have s2 := g.b2.parts.1
  have s3 := g.b3.parts.1
  have b1 := h.b1
  have b2 := h.b2
  have b3 := h.b3
  obtain ⟨u1, u2, _⟩ := consts32
  obtain ⟨k1, k2, k3⟩ := consts64
  have ht3 := top32
  have t1 := ab_add (fv .f32 o) (fv .f32 s.1)
  have t2 := ab_add (fv .f64 O) (fv .f64 S.1)
  have a1 := add_spec h.f g.f1 (by grind)
  have a2 := add_spec h.F g.F1 (by grind)
  have e1 := a1.2.1
  have e2 := a2.2.1
  rw [u1] at e1
  rw [k1] at e2
  have r1 := ab_tri (fv .f32 (fo .add .f32 o s.1)) (fv .f32 o + fv .f32 s.1)
  have r2 := ab_tri (fv .f64 (fo .add .f64 O S.1)) (fv .f64 O + fv .f64 S.1)
  refine ⟨a1.1, fo_lt _ _ _ _, a2.1, fo_lt _ _ _ _, by grind, by grind, ?_⟩
  have d1 := ab_add (fv .f32 (fo .add .f32 o s.1) - (fv .f32 o + fv .f32 s.1)) ((fv .f32 o - fv .f64 O) + (fv .f32 s.1 - fv .f64 S.1))
  have d2 := ab_add (fv .f32 o - fv .f64 O) (fv .f32 s.1 - fv .f64 S.1)
  have d3 := ab_add (fv .f32 (fo .add .f32 o s.1) - (fv .f32 o + fv .f32 s.1) + ((fv .f32 o - fv .f64 O) + (fv .f32 s.1 - fv .f64 S.1))) (-(fv .f64 (fo .add .f64 O S.1) - (fv .f64 O + fv .f64 S.1)))
  rw [ab_neg] at d3
  rw [show fv .f32 (fo .add .f32 o s.1) - (fv .f32 o + fv .f32 s.1) + ((fv .f32 o - fv .f64 O) + (fv .f32 s.1 - fv .f64 S.1)) + -(fv .f64 (fo .add .f64 O S.1) - (fv .f64 O + fv .f64 S.1)) = fv .f32 (fo .add .f32 o s.1) - fv .f64 (fo .add .f64 O S.1) by grind] at d3
  have q1 : ab (fv .f32 o + fv .f32 s.1) ≤ (V + U) * 2 + 1 / 2 ^ 100 := by clear d1 d2 d3 e1 e2 r1 r2; grind
  have q2 : ab (fv .f64 O + fv .f64 S.1) ≤ (V + U) * 2 + 1 / 2 ^ 100 := by clear d1 d2 d3 e1 e2 r1 r2; grind
  have e3 := tiny32 e1 q1 u2 (by grind)
  have e4 := tiny64 e2 q2 k2 (by grind)
  have hf := out_final (k := k) ht2 hV hU kU0
  clear a1 a2 u1 u2 k1 k2 k3 ht3 t1 t2 e1 e2 r1 r2 q1 q2 s1 s2 b1 b2
  exact chain4 d3 d1 d2 e3 e4 b3 s3 hf
end Go.Proofs.Ytignncjmbcdpaaa

/-
The drift of a body against its bound. (Plain arithmetic.)
-/
namespace Go.Proofs.Ytignncjmbcdpaaa
open Go Ieee

theorem nearO_all {ms : List MW} {xs : List Nat} (hm : ModesOk ms) (hl : ms.length ≤ 16) (hx : LowX xs) (i : Nat) (hi : i < 300) : ∀ k : Nat, k ≤ ms.length →
    NearO (outAt ms (stAt ms xs i) (inAt xs i) k) (outD (ms.map widM) (stD (ms.map widM) (inW xs) i) (inW xs i) k) (k : Rat) ((i + 1 : Nat) : Rat) (gsum ms k * sumIn xs (i + 1)) ∧ gsum ms k ≤ (k : Rat) * 2048 := by
  intro k
  induction k with
  | zero =>
    intro _
    obtain ⟨z1, z2⟩ := zero_fin .f32
    obtain ⟨y1, y2⟩ := zero_fin .f64
    have e : gsum ms 0 * sumIn xs (i + 1) = 0 := by show (0 : Rat) * _ = 0; grind
    have e3 : ((0 : Nat) : Rat) = 0 := by simp
    rw [e, e3]
    refine ⟨⟨z1, by show (0 : Nat) < 4294967296; omega, y1, by show (0 : Nat) < 18446744073709551616; omega, ?_, ?_, ?_⟩, by show (0 : Rat) ≤ _; grind⟩
    · show ab (fv .f32 0) ≤ _
      rw [z2, ab_of_nonneg Rat.le_refl]; grind
    · show ab (fv .f64 0) ≤ _
      rw [y2, ab_of_nonneg Rat.le_refl]; grind
    · show ab (fv .f32 0 - fv .f64 0) ≤ _
      rw [z2, y2, show (0 : Rat) - 0 = 0 by grind, ab_of_nonneg Rat.le_refl]; grind
  | succ k ih =>
    intro hk
    obtain ⟨h, hg⟩ := ih (by omega)
    have hn := near_all hm hx (i + 1) (by omega) k (by omega)
    have e : sAt (stAt ms xs (i + 1)) k = stepW (mAt ms k) (sAt (stAt ms xs i) k) (inAt xs i) := nextS_at (by rw [stAt_len]; omega)
    have e1 : sAt (stD (ms.map widM) (inW xs) (i + 1)) k = stepD (dAt (ms.map widM) k) (sAt (stD (ms.map widM) (inW xs) i) k) (inW xs i) :=
      nextD_at (ms := ms.map widM) (x := inW xs i) (i := k) (ss := stD (ms.map widM) (inW xs) i) (by rw [stD_len]; simp; omega)
    rw [e, e1] at hn
    have g1 := gam_nonneg (mAt ms k)
    have g2 : gam (mAt ms k) ≤ 2048 := gam_le (hm.at_ (by omega))
    have s1 := sumIn_nonneg xs (i + 1)
    have s2 := sumIn_le hx (i + 1)
    have i1 : ((i + 1 : Nat) : Rat) ≤ 300 := by
      have := Rat.natCast_le_natCast.2 (show i + 1 ≤ 300 by omega)
      simpa using this
    have i0 : (0 : Rat) ≤ ((i + 1 : Nat) : Rat) := Rat.natCast_nonneg
    have k1 : (k : Rat) ≤ 16 := by
      have := Rat.natCast_le_natCast.2 (show k ≤ 16 by omega)
      simpa using this
    have k0 : (0 : Rat) ≤ (k : Rat) := Rat.natCast_nonneg
    have G0 := gsum_nonneg ms k
    have ec : ((k + 1 : Nat) : Rat) = (k : Rat) + 1 := by simp
    have s3 : sumIn xs (i + 1) ≤ 38400 := by grind
    have u1 := mul_mono g2 s3 g1 (by grind)
    have u2 := mul_mono (show gsum ms k ≤ 32768 by grind) s3 G0 (by grind)
    have ev : gsum ms (k + 1) * sumIn xs (i + 1) = gsum ms k * sumIn xs (i + 1) + gam (mAt ms k) * sumIn xs (i + 1) := by
      show (gsum ms k + gam (mAt ms k)) * _ = _
      grind
    have st := nearO_step h hn k0 k1 i0 i1 (Rat.mul_nonneg G0 s1) (by grind) (Rat.mul_nonneg g1 s1) (by grind)
    rw [ev, ec]
    exact ⟨st, by show gsum ms k + gam (mAt ms k) ≤ _; grind⟩
theorem sumIn_top (xs : List Nat) (i : Nat) : sumIn xs i ≤ sumIn xs xs.length := by
  rcases Nat.lt_or_ge xs.length i with h | h
  · have key : ∀ j, sumIn xs (xs.length + j) = sumIn xs xs.length := by
      intro j
      induction j with
      | zero => rfl
      | succ j ih =>
        have e : inAt xs (xs.length + j) = 0 := by unfold inAt; rw [if_neg (by omega)]
        show sumIn xs (xs.length + j) + ab (fv .f32 (inAt xs (xs.length + j))) = _
        rw [ih, e, (zero_fin .f32).2, ab_of_nonneg Rat.le_refl]; grind
    obtain ⟨j, rfl⟩ : ∃ j, i = xs.length + j := ⟨i - xs.length, by omega⟩
    rw [key]; exact Rat.le_refl
  · exact sumIn_mono xs h

/-- The drift's bound, and the bound of the law. -/
def drBd (ms : List MW) (xs : List Nat) (n : Nat) : Rat := ((n : Rat) + (ms.length : Rat) + 1) * (gsum ms ms.length * sumIn xs xs.length) * (5 / 8) / 2 ^ 20 + 1 / 2 ^ 101
theorem drBd_nonneg (ms : List MW) (xs : List Nat) (n : Nat) : 0 ≤ drBd ms xs n := by
  have a : (0 : Rat) ≤ (n : Rat) := Rat.natCast_nonneg
  have b : (0 : Rat) ≤ (ms.length : Rat) := Rat.natCast_nonneg
  have c := Rat.mul_nonneg (show (0 : Rat) ≤ (n : Rat) + (ms.length : Rat) + 1 by grind) (Rat.mul_nonneg (gsum_nonneg ms ms.length) (sumIn_nonneg xs xs.length))
  unfold drBd; grind
/-- One difference. -/
theorem drift_at {ms : List MW} {xs : List Nat} {n i y Y : Nat} (hm : ModesOk ms) (hl : ms.length ≤ 16) (hx : LowX xs) (hxl : xs.length ≤ 64) (hn : n ≤ 299) (hi : i < n) (hy : nrm .f32 y = outAt ms (stAt ms xs i) (inAt xs i) ms.length)
    (hY : nrm .f64 Y = outD (ms.map widM) (stD (ms.map widM) (inW xs) i) (inW xs i) ms.length) :
    fin .f32 y ∧ fin .f64 Y ∧ fin .f64 (fo .sub .f64 Y (wid y)) ∧ ab (fv .f64 (fo .sub .f64 Y (wid y))) ≤ drBd ms xs n := by
  obtain ⟨h, hg⟩ := nearO_all hm hl hx i (by omega) ms.length (Nat.le_refl _)
  obtain rfl := nrm_fin_eq hy h.f
  obtain rfl := nrm_fin_eq hY h.F
  obtain ⟨V, hV⟩ : ∃ V, gsum ms ms.length * sumIn xs (i + 1) = V := ⟨_, rfl⟩
  obtain ⟨T, hT⟩ : ∃ T, gsum ms ms.length * sumIn xs xs.length = T := ⟨_, rfl⟩
  have G0 := gsum_nonneg ms ms.length
  have hVT : V ≤ T := by rw [← hV, ← hT]; exact Rat.mul_le_mul_of_nonneg_left (sumIn_top xs (i + 1)) G0
  have hV0 : 0 ≤ V := by rw [← hV]; exact Rat.mul_nonneg G0 (sumIn_nonneg _ _)
  have L0 : (0 : Rat) ≤ (ms.length : Rat) := Rat.natCast_nonneg
  have L1 : (ms.length : Rat) ≤ 16 := by
    have := Rat.natCast_le_natCast.2 hl
    simpa using this
  have s2 := sumIn_le hx (i + 1)
  have N1 : ((i + 1 : Nat) : Rat) ≤ (n : Rat) := Rat.natCast_le_natCast.2 (by omega)
  have N2 : (n : Rat) ≤ 299 := by
    have := Rat.natCast_le_natCast.2 hn
    simpa using this
  have I0 : (0 : Rat) ≤ ((i + 1 : Nat) : Rat) := Rat.natCast_nonneg
  have hV2 : V ≤ 2 ^ 60 := by
    have := mul_mono (show gsum ms ms.length ≤ 32768 by grind) (show sumIn xs (i + 1) ≤ 38400 by grind) G0 (by grind)
    rw [← hV]; grind
  have b1 := h.b1
  have b2 := h.b2
  have b3 := h.b3
  rw [hV] at b1 b2 b3
  obtain ⟨w1, w2⟩ := wid_fin h.f
  obtain ⟨k1, k2, k3⟩ := consts64
  have LV : (ms.length : Rat) * V ≤ 16 * V := Rat.mul_le_mul_of_nonneg_right L1 hV0
  have IV : ((i + 1 : Nat) : Rat) * V ≤ (n : Rat) * T := mul_mono N1 hVT I0 (by grind)
  have LT : (ms.length : Rat) * V ≤ (ms.length : Rat) * T := Rat.mul_le_mul_of_nonneg_left hVT L0
  generalize outAt ms (stAt ms xs i) (inAt xs i) ms.length = y at *
  generalize outD (ms.map widM) (stD (ms.map widM) (inW xs) i) (inW xs i) ms.length = Y at *
  have e : fv .f64 Y - fv .f64 (wid y) = -(fv .f32 y - fv .f64 Y) := by rw [w2]; grind
  have hd : ab (fv .f64 Y - fv .f64 (wid y)) = ab (fv .f32 y - fv .f64 Y) := by rw [e, ab_neg]
  have nd := ab_nonneg (fv .f32 y - fv .f64 Y)
  have hb3 : ab (fv .f32 y - fv .f64 Y) ≤ ((n : Rat) * T * (9 / 8) / 2 ^ 21 + (ms.length : Rat) * T / 2 ^ 22 + 1 / 2 ^ 105) := by
    clear b1 b2 k3 k2 k1 hd e; grind
  have IV2 : (n : Rat) * T ≤ 2 ^ 80 := by
    have hT2 : T ≤ 2 ^ 60 := by
      have := mul_mono (show gsum ms ms.length ≤ 32768 by grind) (show sumIn xs xs.length ≤ 2 ^ 40 by
        have a := sumIn_le hx xs.length
        have b : (xs.length : Rat) ≤ 64 := by
          have := Rat.natCast_le_natCast.2 hxl
          simpa using this
        grind) G0 (by grind)
      rw [← hT]; grind
    have := mul_mono N2 hT2 (by grind) (by grind)
    grind
  have sb := sub_spec h.F w1 (by rw [hd]; grind)
  have se := sb.2.1
  rw [hd, k1] at se
  have t := ab_tri (fv .f64 (fo .sub .f64 Y (wid y))) (fv .f64 Y - fv .f64 (wid y))
  rw [hd] at t
  refine ⟨h.f, h.F, sb.1, ?_⟩
  have fin1 : ab (fv .f64 (fo .sub .f64 Y (wid y))) ≤ ((n : Rat) * T * (9 / 8) / 2 ^ 21 + (ms.length : Rat) * T / 2 ^ 22 + 1 / 2 ^ 105) * (1 + 1 / 2 ^ 50) + 1 / 2 ^ 190 := by
    clear b1 b2 b3 IV LT LV hV2; grind
  refine Rat.le_trans fin1 ?_
  have n0 : (0 : Rat) ≤ (n : Rat) := Rat.natCast_nonneg
  have T0 : 0 ≤ T := Rat.le_trans hV0 hVT
  have nT := Rat.mul_nonneg n0 T0
  have lT := Rat.mul_nonneg L0 T0
  unfold drBd
  rw [hT]
  clear fin1 t se sb b1 b2 b3 hb3 IV LT LV IV2
  grind
end Go.Proofs.Ytignncjmbcdpaaa

/-
The law's bound of the drift, as the operations give it. (Plain arithmetic.)
-/
namespace Go.Proofs.Ytignncjmbcdpaaa
open Go Ieee

/-- A sum of nonnegative numbers, accumulated. -/
structure Acc (g : Nat) (G t : Rat) : Prop where
  f : fin .f64 g
  p : 0 ≤ fv .f64 g
  lo : G - t * G / 2 ^ 50 ≤ fv .f64 g + t / 2 ^ 190
  hi : fv .f64 g ≤ 2 * G + 2 * t
theorem acc_zero : Acc 0 0 0 := by
  obtain ⟨z1, z2⟩ := zero_fin .f64
  exact ⟨z1, by rw [z2]; exact Rat.le_refl, by rw [z2]; grind, by rw [z2]; grind⟩
theorem acc_step {g r : Nat} {G S V t : Rat} (h : Acc g G t) (ht : 0 ≤ t) (ht2 : t ≤ 64) (hG : 0 ≤ G) (hG2 : G ≤ 2 ^ 20) (hS : 0 ≤ S) (hS2 : S ≤ 2 ^ 20) (hV : 0 ≤ V) (lo : S - S / 2 ^ 52 ≤ V + 1 / 2 ^ 195) (hi : V ≤ 2 * S + 1)
    (hr : RoundOf .f64 (fv .f64 g + V) r) : Acc r (G + S) (t + 1) := by
  obtain ⟨k1, k2, k3⟩ := consts64
  have l1 := h.lo
  have l2 := h.hi
  have l3 := h.p
  have e := hr.2.1
  rw [k1, ab_of_nonneg (x := fv .f64 g + V) (by grind)] at e
  have a := le_ab (fv .f64 r - (fv .f64 g + V))
  have z := (hr.2.2 0 (zero_fin .f64).1).1 (by rw [(zero_fin .f64).2]; grind)
  rw [(zero_fin .f64).2] at z
  have tG := Rat.mul_nonneg ht hG
  have tS := Rat.mul_nonneg ht hS
  have tG2 : t * G ≤ 64 * G := Rat.mul_le_mul_of_nonneg_right ht2 hG
  have a1 := a.1
  have a2 := a.2
  clear a k1 k3
  refine ⟨hr.1, z, ?_, ?_⟩
  · have e1 : (fv .f64 g + V) - (fv .f64 g + V) / 2 ^ 53 - 1 / 2 ^ 200 ≤ fv .f64 r := by grind
    clear e a1 a2 hi l2 z k2
    grind
  · have e1 : fv .f64 r ≤ (fv .f64 g + V) + (fv .f64 g + V) / 2 ^ 53 + 1 / 2 ^ 200 := by grind
    clear e a1 a2 lo l1 z k2
    grind
theorem Acc.use {g : Nat} {G t : Rat} (h : Acc g G t) (ht : 0 ≤ t) (ht2 : t ≤ 64) (hG : 0 ≤ G) (hG2 : G ≤ 2 ^ 18) : G - G / 2 ^ 40 ≤ fv .f64 g + 1 / 2 ^ 180 ∧ fv .f64 g ≤ 2 ^ 20 := by
  have l1 := h.lo
  have l2 := h.hi
  have tG2 : t * G ≤ 64 * G := Rat.mul_le_mul_of_nonneg_right ht2 hG
  exact ⟨by clear l2; grind, by clear l1; grind⟩
/-- A product of nonnegative numbers is not much less. -/
theorem mul_low {a b : Nat} {T : Rat} (fa : fin .f64 a) (fb : fin .f64 b) (ha : 0 ≤ fv .f64 a) (hb : 0 ≤ fv .f64 b) (hT : fv .f64 a * fv .f64 b ≤ T) (hT2 : T ≤ 2 ^ 100) :
    fin .f64 (fo .mul .f64 a b) ∧ fv .f64 a * fv .f64 b - fv .f64 a * fv .f64 b / 2 ^ 52 - 1 / 2 ^ 200 ≤ fv .f64 (fo .mul .f64 a b) ∧ 0 ≤ fv .f64 (fo .mul .f64 a b) ∧ fv .f64 (fo .mul .f64 a b) ≤ 2 * T + 1 := by
  obtain ⟨k1, k2, k3⟩ := consts64
  have p := Rat.mul_nonneg ha hb
  have e0 := ab_of_nonneg p
  have hm := mul_spec fa fb (by rw [e0]; grind)
  have e := hm.2.1
  rw [k1, e0] at e
  have l := le_ab (fv .f64 (fo .mul .f64 a b) - fv .f64 a * fv .f64 b)
  have z := (hm.2.2 0 (zero_fin .f64).1).1 (by rw [(zero_fin .f64).2]; exact p)
  rw [(zero_fin .f64).2] at z
  exact ⟨hm.1, by grind, z, by grind⟩
theorem rhs_ok {N g s p q d : Nat} {Nr G X : Rat} (fN : fin .f64 N) (vN : fv .f64 N = Nr) (fg : fin .f64 g) (fs : fin .f64 s) (fp : fin .f64 p) (vp : fv .f64 p = 1 / 2 ^ 20) (fq : fin .f64 q) (vq : fv .f64 q = 1 / 2 ^ 100) (fd : fin .f64 d)
    (hN : 1 ≤ Nr) (hN2 : Nr ≤ 400) (hG0 : 0 ≤ G) (hX0 : 0 ≤ X) (g0 : 0 ≤ fv .f64 g) (s0 : 0 ≤ fv .f64 s) (hg : G - G / 2 ^ 40 ≤ fv .f64 g + 1 / 2 ^ 180) (hg2 : fv .f64 g ≤ 2 ^ 20) (hs : X - X / 2 ^ 40 ≤ fv .f64 s + 1 / 2 ^ 180) (hs2 : fv .f64 s ≤ 2 ^ 20)
    (hd : fv .f64 d ≤ Nr * (G * X) * (5 / 8) / 2 ^ 20 + 1 / 2 ^ 101) : fin .f64 (fo .mul .f64 N g) ∧ fin .f64 (fo .mul .f64 (fo .mul .f64 N g) s) ∧ fin .f64 (fo .mul .f64 (fo .mul .f64 (fo .mul .f64 N g) s) p) ∧
      fin .f64 (fo .add .f64 (fo .mul .f64 (fo .mul .f64 (fo .mul .f64 N g) s) p) q) ∧ fle .f64 d (fo .add .f64 (fo .mul .f64 (fo .mul .f64 (fo .mul .f64 N g) s) p) q) = true := by
  have n0 : 0 ≤ fv .f64 N := by rw [vN]; grind
  have gs0 := Rat.mul_nonneg g0 s0
  have b1 : fv .f64 N * fv .f64 g ≤ 2 ^ 30 := by
    have := mul_mono (show fv .f64 N ≤ 400 by rw [vN]; exact hN2) hg2 n0 (by grind)
    grind
  obtain ⟨f1, l1, z1, u1⟩ := mul_low fN fg n0 g0 b1 (by grind)
  have b2 : fv .f64 (fo .mul .f64 N g) * fv .f64 s ≤ 2 ^ 60 := by
    have := mul_mono u1 hs2 z1 (by grind)
    grind
  obtain ⟨f2, l2, z2, u2⟩ := mul_low f1 fs z1 s0 b2 (by grind)
  have b3 : fv .f64 (fo .mul .f64 (fo .mul .f64 N g) s) * fv .f64 p ≤ 2 ^ 62 := by rw [vp]; grind
  obtain ⟨f3, l3, z3, u3⟩ := mul_low f2 fp z2 (by rw [vp]; grind) b3 (by grind)
  rw [vp] at l3
  rw [vN] at l1
  -- the product of all three
  have c1 := Rat.mul_le_mul_of_nonneg_right l1 s0
  have c2 : (G - G / 2 ^ 40) * (X - X / 2 ^ 40) ≤ (fv .f64 g + 1 / 2 ^ 180) * (fv .f64 s + 1 / 2 ^ 180) := mul_mono hg hs (by grind) (by grind)
  have gx := Rat.mul_nonneg hG0 hX0
  have c3 : G * X * (1 - 1 / 2 ^ 38) ≤ fv .f64 g * fv .f64 s + 1 / 2 ^ 150 := by
    have e : (G - G / 2 ^ 40) * (X - X / 2 ^ 40) = G * X * ((1 - 1 / 2 ^ 40) * (1 - 1 / 2 ^ 40)) := by grind
    rw [e] at c2
    grind
  have c4 := Rat.mul_le_mul_of_nonneg_left c3 (show 0 ≤ Nr by grind)
  have ngx := Rat.mul_nonneg (show 0 ≤ Nr by grind) gx
  obtain ⟨k1, k2, k3⟩ := consts64
  have ha : fv .f64 (fo .mul .f64 (fo .mul .f64 (fo .mul .f64 N g) s) p) + fv .f64 q ≤ 2 ^ 70 := by rw [vq]; grind
  have e0 : ab (fv .f64 (fo .mul .f64 (fo .mul .f64 (fo .mul .f64 N g) s) p) + fv .f64 q) = fv .f64 (fo .mul .f64 (fo .mul .f64 (fo .mul .f64 N g) s) p) + fv .f64 q := ab_of_nonneg (by rw [vq]; grind)
  have ad := add_spec f3 fq (by rw [e0]; grind)
  have e := ad.2.1
  rw [e0, k1, vq] at e
  have le := (le_ab (fv .f64 (fo .add .f64 (fo .mul .f64 (fo .mul .f64 (fo .mul .f64 N g) s) p) q) - (fv .f64 (fo .mul .f64 (fo .mul .f64 (fo .mul .f64 N g) s) p) + 1 / 2 ^ 100))).2
  refine ⟨f1, f2, f3, ad.1, (fle_iff fd ad.1).2 ?_⟩
  generalize fv .f64 (fo .add .f64 (fo .mul .f64 (fo .mul .f64 (fo .mul .f64 N g) s) p) q) = R at *
  generalize fv .f64 (fo .mul .f64 (fo .mul .f64 (fo .mul .f64 N g) s) p) = t3 at *
  generalize fv .f64 (fo .mul .f64 (fo .mul .f64 N g) s) = t2 at *
  generalize fv .f64 (fo .mul .f64 N g) = t1 at *
  generalize fv .f64 g = gv at *
  generalize fv .f64 s = sv at *
  clear k1 k3 e0 ha b1 b2 b3 u1 u2 u3 z1 ad f1 f2 f3 hg hs c2 c3 hg2
  have d1 : Nr * (G * X) * (1 - 1 / 2 ^ 37) - sv / 2 ^ 200 - 1 / 2 ^ 141 ≤ t1 * sv := by grind
  have d2 : Nr * (G * X) * (1 - 1 / 2 ^ 36) - 1 / 2 ^ 140 ≤ t2 := by grind
  have d3 : Nr * (G * X) * (1 - 1 / 2 ^ 35) / 2 ^ 20 - 1 / 2 ^ 150 ≤ t3 := by grind
  have d4 : t3 + 1 / 2 ^ 100 - (t3 + 1 / 2 ^ 100) / 2 ^ 50 - 1 / 2 ^ 190 ≤ R := by grind
  have d5 : Nr * (G * X) * (1 - 1 / 2 ^ 34) / 2 ^ 20 + 1 / 2 ^ 101 ≤ R := by clear d1 d2 l1 l2 l3 c1 c4 e le; grind
  clear d1 d2 d3 d4 l1 l2 l3 c1 c4 e le
  grind
end Go.Proofs.Ytignncjmbcdpaaa

/-
impl.DriftOf at a valid body and a small input.
-/
namespace Go.Proofs.Ytignncjmbcdpaaa
open Go Go.RowKit Ieee

theorem f64s_at {ys : List Nat} {k : Nat} (h : k < ys.length) : (f64s ys)[k]? = some (.float .f64 (ys.getD k 0)) := by
  simp [f64s, List.getD, List.getElem?_eq_getElem h]
/-- What one round of the drift needs, its words without a body. -/
theorem drift_pack {ms : List MW} {xs ys Ys : List Nat} {n k : Nat} (hm : ModesOk ms) (hl : ms.length ≤ 16) (hx : LowX xs) (hxl : xs.length ≤ 64) (hn : n ≤ 299) (hk : k < n) (hy : Rung ms xs ys n) (hY : RungD (ms.map widM) (inW xs) Ys n) :
    ∃ y Y Z D Q : Nat, ys.getD k 0 = y ∧ Ys.getD k 0 = Y ∧ (∀ W, cR .f32 y .f64 W = Z) ∧ cN .f32 y .f64 = 0 ∧ (∀ W, fR .sub .f64 Y Z W = D) ∧ wfk .f64 D ∧ abs64 D = Q ∧ Hid (fin .f64 Q ∧ fv .f64 Q ≤ drBd ms xs n) := by
  obtain ⟨f1, f2, f3, f4⟩ := drift_at hm hl hx hxl hn hk (hy.2 k hk).1 (by have h := (hY.2 k hk).1; rw [List.length_map] at h; exact h)
  obtain ⟨q1, q2⟩ := abs64_fin f3
  obtain ⟨w1, w2⟩ := widFin (wid_fin f1).1
  exact ⟨_, _, wid (ys.getD k 0), fo .sub .f64 (Ys.getD k 0) (wid (ys.getD k 0)), _, rfl, rfl, w1, w2, fun W => rnd_eq f3 W, fo_lt _ _ _ _, rfl, q1, by rw [q2]; exact f4⟩

set_option maxRecDepth 100000 in
set_option maxHeartbeats 1000000 in
theorem driftOf_any (A B : Option Addr) (c d lo hi : Nat) (ms : List MW) (xs : List Nat) (n : Nat) (w : World) (h : OwnM w lo hi A c ms) (hh : hi ≤ w.heap.size) (hok : ModesOk ms) (hl : ms.length ≤ 16)
    (hr : Rd w B (f32s xs)) (hn : n ≤ 299) (hx : LowX xs) (hxl : xs.length ≤ 64) :
    Calls Try.prog 57 #[.agg #[.slice A ms.length c], .slice B xs.length d, .int .i64 n] w fun e w' => ∃ r, e = .returned (.tuple #[.float .f64 r, .bool true]) ∧ fin .f64 r ∧ fv .f64 r ≤ drBd ms xs n ∧ Below w.heap.size w w' := by
  have HB : Hid (Below w.heap.size w (w.alloc (.cells #[.slice A ms.length c] 69))) := (Below.refl w.heap.size w).alloc (Nat.le_refl _) _
  have H : Hid (OwnM (w.alloc (.cells #[.slice A ms.length c] 69)) lo hi A c ms) := h.below HB.out hh
  have HR : Hid (Rd (w.alloc (.cells #[.slice A ms.length c] 69)) B (f32s xs)) := hr.below HB.out
  have HP : Hid ((w.alloc (.cells #[.slice A ms.length c] 69)).heap[w.heap.size]? = some (.cells #[.slice A ms.length c] 69 (0, 0))) := heap_alloc_new w _
  have hsz : w.heap.size < (w.alloc (.cells #[.slice A ms.length c] 69)).heap.size := by simp
  have HK := Lib.hid hok
  have HX := Lib.hid hx
  have c0 := cell_of_row _ w.heap.size 0 _ _ (0, 0) HP.out
  clear h hr hok hx
  go_enter Try.func57, Try.ntmps57
  go_wp2_with fail
  generalize w.alloc (.cells #[.slice A ms.length c] 69) = W at *
  refine (ringBody_any A B c d lo hi ms xs n W H.out (by omega) HK.out hl HR.out (by omega) (by omega) (calm_x HK.out HX.out n (by omega))).mono ?_
  rintro e W1 ⟨A1, c1, ys, he, ho1, hr1, hb1⟩
  rw [hr1.1] at he ho1
  subst he
  have hs1 := hb1.size
  have HP1 := Lib.hid ((hb1.block _ hsz).trans HP.out)
  have H1 := Lib.hid (H.out.below hb1 (by omega))
  have HR1 := Lib.hid (HR.out.below hb1)
  have HB1 : Hid (Below w.heap.size w W1) := HB.out.trans (hb1.mono (by omega))
  have RY1 : Hid (Rd W1 A1 (f32s ys)) := by
    obtain ⟨_, _, q, _, rd⟩ := own_rd ho1
    injection q with q1 _ q2
    subst q1 q2
    exact rd
  have HY := Lib.hid hr1
  clear c0 H HR HP HB ho1 hr1 hb1
  have c1' := cell_of_row _ w.heap.size 0 _ _ (0, 0) HP1.out
  go_wp2_with fail
  refine (ringDouble_any A B c d lo hi ms xs n W1 H1.out (by omega) HK.out hl HR1.out (by omega) (by omega)).mono ?_
  rintro e W2 ⟨A2, c2, Ys, he, ho2, hr2, hb2⟩
  rw [hr2.1] at he ho2
  subst he
  have RY2 : Hid (Rd W2 A1 (f32s ys)) := RY1.out.below hb2
  have RZ2 : Hid (Rd W2 A2 (f64s Ys)) := by
    obtain ⟨_, _, q, _, rd⟩ := own_rd ho2
    injection q with q1 _ q2
    subst q1 q2
    exact rd
  have HZ := Lib.hid hr2
  have HB2 : Hid (Below w.heap.size w W2) := HB1.out.trans (hb2.mono (by omega))
  clear c1' H1 HR1 HP1 HB1 ho2 hr2 hb2 RY1
  go_wp2_with fail
  go_loopw [12, 34] (fun mo i wr => ∃ (k r m : Nat), i = .int .i64 (k : Int) ∧ k ≤ n ∧ mo = .float .f64 r ∧ Hid (fin .f64 r ∧ fv .f64 r ≤ drBd ms xs n) ∧ wr = W2.drewN m) (fun _ i _ => n - (intOf i).toNat)
  case atStart => exact ⟨0, 0, 0, rfl, by omega, rfl, ⟨(zero_fin .f64).1, by rw [(zero_fin .f64).2]; exact drBd_nonneg _ _ _⟩, (World.drewN_zero W2).symm⟩
  case round =>
    obtain ⟨k, r, m, rfl, hk, rfl, HM, rfl⟩ := hrel
    by_cases hlt : k < n
    · obtain ⟨b, off, rfl, hbk, hc⟩ := RY2.out (by simp; rw [HY.out.1]; omega)
      obtain ⟨b2, off2, rfl, hbk2, hc2⟩ := RZ2.out (by simp [f64s]; rw [HZ.out.1]; omega)
      have e1 := hc k _ (f32s_at (by rw [HY.out.1]; exact hlt))
      have e2 := hc2 k _ (f64s_at (by rw [HZ.out.1]; exact hlt))
      obtain ⟨y, Y, Z, D, Q, ey, eY, hz, hn0, hd, wd, hq, HQ⟩ := drift_pack HK.out hl HX.out hxl hn hlt HY.out HZ.out
      rw [ey] at e1
      rw [eY] at e2
      clear hc hc2 ey eY
      have T := Lib.hid (fun W => mathAbs_any D W wd)
      rw [hq] at T
      clear wd hq
      cases t : fgt .f64 Q r
      · go_wp2_with fail
        refine (T.out _).mono ?_
        rintro e w' ⟨rfl, rfl⟩
        go_wp2_with fail
        go_roundw
        case rel => exact ⟨k + 1, r, _, by go_num, by omega, rfl, HM.out, rfl⟩
        case measure => simp [intOf]; omega
      · go_wp2_with fail
        refine (T.out _).mono ?_
        rintro e w' ⟨rfl, rfl⟩
        go_wp2_with fail
        go_roundw
        case rel => exact ⟨k + 1, Q, _, by go_num, by omega, rfl, HQ.out, rfl⟩
        case measure => simp [intOf]; omega
    · have hkn : n = k := by omega
      subst hkn
      go_wp2_with fail
      go_ret2
      exact ⟨r, rfl, HM.out.1, HM.out.2, below_drewN HB2.out m⟩
end Go.Proofs.Ytignncjmbcdpaaa

/-
spec.HalfLife at a valid mode.
-/
namespace Go.Proofs.Ytignncjmbcdpaaa
open Go Go.RowKit Ieee

set_option maxRecDepth 100000 in
set_option maxHeartbeats 400000 in
theorem specHalf_any (a b c d : Nat) (most : Int) (w : World) (h : ModeOk a b c d) (h1 : 1 ≤ most) (h2 : most ≤ 2000) :
    Calls Try.prog 37 #[.agg #[.complex .f32 a b, .complex .f32 c d], .int .i64 most] w (HalfPost a b c d most w) := by
  have H := Lib.hid h
  have Z0 := Lib.hid (h.at w 0 (by omega))
  have F1 := Lib.hid (fun w => nrm_fin_eq (nrm_wid c w) (wid_fin (fin_of_wid h.fc)).1)
  have F2 := Lib.hid (fun w => nrm_fin_eq (nrm_wid d w) (wid_fin (fin_of_wid h.fd)).1)
  have hin : (decide ((1 : Int) ≤ most) && decide (most ≤ 2000)) = true := by simp; omega
  clear h
  go_enter Try.func37, Try.ntmps37
  go_wp2_with fail
  have HB : Hid (Below w.heap.size w (w.alloc (.cells #[.complex .f32 a b, .complex .f32 c d] 52))) := (Below.refl w.heap.size w).alloc (Nat.le_refl _) _
  have hm : (w.alloc (.cells #[.complex .f32 a b, .complex .f32 c d] 52)).heap[w.heap.size]? = some (.cells #[.complex .f32 a b, .complex .f32 c d] 52 (0, 0)) := heap_alloc_new w _
  have hlt : w.heap.size < (w.alloc (.cells #[.complex .f32 a b, .complex .f32 c d] 52)).heap.size := by simp
  have HM := Lib.hid hm
  obtain ⟨c0, c1, _, _⟩ := m_cells hm
  clear hm
  generalize w.alloc (.cells #[.complex .f32 a b, .complex .f32 c d] 52) = W at *
  refine (specMode_ok a b c d _ H.out).mono ?_
  rintro e W2 ⟨rfl, hb⟩
  have HM2 : Hid (W2.heap[w.heap.size]? = some (.cells #[.complex .f32 a b, .complex .f32 c d] 52 (0, 0))) := (hb.block w.heap.size hlt).trans HM.out
  have HB2 : Hid (Below w.heap.size w W2) := HB.out.trans (hb.mono (by omega))
  obtain ⟨d0, d1, _, _⟩ := m_cells HM2.out
  clear hb c0 c1 HB HM hlt
  go_wp2_with fail
  refine (l1In_any most 1 2000 _).mono ?_
  rintro e w' ⟨rfl, rfl⟩
  rw [hin]
  go_wp2_with fail
  go_loopw [6, 7] (fun z i wr => ∃ (n x y m : Nat), z = .complex .f32 x y ∧ i = .int .i64 ((n : Int) + 1) ∧ (n : Int) ≤ most ∧ Hid ((x, y) = zAt a b c d n) ∧ Hid (∀ j : Nat, 1 ≤ j → j ≤ n → halved a b c d j = false) ∧ wr = W2.drewN m) (fun _ i _ => (most + 1 - intOf i).toNat)
  case atStart => exact ⟨0, c, d, 0, rfl, rfl, by omega, rfl, fun j j1 j2 => by omega, rfl⟩
  case round =>
    obtain ⟨n, x, y, m, rfl, rfl, hn, hz, hno, rfl⟩ := hrel
    by_cases hj : (n : Int) < most
    · have Z1 : Hid (ZOk a b x y) := by have := H.out.at w n (by omega); rw [← hz.out] at this; exact this
      have hz2 : Hid ((sRe x y a b, sIm x y a b) = zAt a b c d (n + 1)) := by rw [zAt_succ, ← hz.out]; rfl
      have Z2 : Hid (ZOk a b (sRe x y a b) (sIm x y a b)) := by have := H.out.at w (n + 1) (by omega); rw [← hz2.out] at this; exact this
      have G1 := Lib.hid (fun w => nrm_fin_eq (nrm_wid (sRe x y a b) w) (wid_fin Z2.out.fx).1)
      have G2 := Lib.hid (fun w => nrm_fin_eq (nrm_wid (sIm x y a b) w) (wid_fin Z2.out.fy).1)
      have T0 := Lib.hid (halved_test Z2.out hz2.out)
      go_wp2_with fail
      refine (specSingle_any x y a b _ Z1.out.mild).mono ?_
      rintro e w' ⟨n3, rfl, rfl⟩
      have F1' := F1.out
      have F2' := F2.out
      have G1' := G1.out
      have G2' := G2.out
      go_wp2_with fail
      have M := Lib.hid (fun w => rnd_eq (op := .mul) (size_ok Z2.out).2.2 w)
      have S1 := Lib.hid (fun W => (sizeS_any (sRe x y a b) (sIm x y a b) _ _ W Z2.out rfl rfl).mono fun e w' h => (by
        obtain ⟨n, rfl, rfl⟩ := h; exact ⟨rfl, n, rfl⟩ : e = .returned (.float .f64 (sizeZ (sRe x y a b, sIm x y a b))) ∧ ∃ j, W.drewN j = w'))
      have S0 := Lib.hid (fun W => (sizeS_any c d _ _ W Z0.out rfl rfl).mono fun e w' h => (by
        obtain ⟨n, rfl, rfl⟩ := h; exact ⟨rfl, n, rfl⟩ : e = .returned (.float .f64 (sizeZ (c, d))) ∧ ∃ j, W.drewN j = w'))
      have M' := M.out
      have T1 : fle .f64 (fo .mul .f64 4611686018427387904 (sizeZ (sRe x y a b, sIm x y a b))) (sizeZ (c, d)) = halved a b c d (n + 1) := by rw [← T0.out w, M.out]
      cases t : halved a b c d (n + 1) <;> rw [t] at T1
      all_goals
        have N := Lib.hid t
        clear t
        refine wp_region_rx (by kernel_rfl) (by kernel_rfl) ?_; apply Exists.intro
        repeat (first | (apply wpR_val; intro K hK; go_simp; refine ⟨rfl, hK _ ?_⟩; clear hK K) | (apply wpR_skip; intro K hK; go_simp; refine hK _ ?_; clear hK K))
        apply wpR_val (v := .float .f64 (sizeZ (sRe x y a b, sIm x y a b))); intro K hK; go_simp; refine ⟨fun m => rcall (S1.out _), hK _ ?_⟩; clear hK K
        repeat (first | (apply wpR_val; intro K hK; go_simp; refine ⟨rfl, hK _ ?_⟩; clear hK K) | (apply wpR_skip; intro K hK; go_simp; refine hK _ ?_; clear hK K))
        apply wpR_val (v := .float .f64 (sizeZ (c, d))); intro K hK; go_simp; refine ⟨fun m => rcall (S0.out _), hK _ ?_⟩; clear hK K
        repeat (first | (apply wpR_val; intro K hK; go_simp; refine ⟨rfl, hK _ ?_⟩; clear hK K) | (apply wpR_skip; intro K hK; go_simp; refine hK _ ?_; clear hK K))
        apply wpR_nil (Rs := []); rintro _ ⟨nq, rfl⟩
        go_wp2_with fail
      · go_roundw
        case rel => exact ⟨n + 1, _, _, _, rfl, by go_num, by omega, hz2, fun j j1 j2 => (by
          rcases Nat.lt_or_ge n j with h | h
          · obtain rfl : j = n + 1 := by omega
            exact N.out
          · exact hno.out j j1 h), rfl⟩
        case measure => simp [intOf]; omega
      · go_ret2
        unfold HalfPost
        exact ⟨_, _, rfl, .inl ⟨rfl, by omega, by omega, by rw [show ((n : Int) + 1).toNat = n + 1 by omega]; exact N.out, fun j j1 j2 => hno.out j j1 (by omega)⟩, below_drewN (below_drewN HB2.out _) _⟩
    · go_wp2_with fail
      go_ret2
      unfold HalfPost
      exact ⟨_, _, rfl, .inr ⟨rfl, rfl, fun j j1 j2 => hno.out j j1 (by omega)⟩, below_drewN HB2.out _⟩
end Go.Proofs.Ytignncjmbcdpaaa

/-
impl.MeasureMode at a valid mode.
-/
namespace Go.Proofs.Ytignncjmbcdpaaa
open Go Go.RowKit Ieee

/-- The blocks of a measuring: the mode, the result, the report. -/
structure MR (w W : World) (rb a b c d : Nat) (r0 r1 r2 r3 : Value) : Prop where
  pm : W.heap[w.heap.size]? = some (.cells #[.complex .f32 a b, .complex .f32 c d] 52 (0, 0))
  rs : W.heap[w.heap.size + 1]? = some (.cells #[.int .i64 0, .complex .f64 0 0, .float .f64 0, .float .f64 0] 79 (0, 0))
  rp : W.heap[rb]? = some (.cells #[r0, r1, r2, r3] 79 (0, 0))
  lt : w.heap.size + 1 < rb
  bel : Below w.heap.size w W
variable {w W W' : World} {rb a b c d : Nat} {r0 r1 r2 r3 : Value}
theorem MR.rlt (h : MR w W rb a b c d r0 r1 r2 r3) : rb < W.heap.size := lt_of_some h.rp
theorem MR.below (h : MR w W rb a b c d r0 r1 r2 r3) (hb : Below W.heap.size W W') : MR w W' rb a b c d r0 r1 r2 r3 :=
  have := h.rlt
  have := h.lt
  ⟨(hb.block _ (by omega)).trans h.pm, (hb.block _ (by omega)).trans h.rs, (hb.block _ (by omega)).trans h.rp, h.lt, h.bel.trans (hb.mono h.bel.size)⟩
theorem MR.drewN (h : MR w W rb a b c d r0 r1 r2 r3) (n : Nat) : MR w (W.drewN n) rb a b c d r0 r1 r2 r3 := ⟨h.pm, h.rs, h.rp, h.lt, below_drewN h.bel n⟩
theorem MR.alloc (h : MR w W rb a b c d r0 r1 r2 r3) (o : Obj) : MR w (W.alloc o) rb a b c d r0 r1 r2 r3 := h.below ((Below.refl W.heap.size W).alloc (Nat.le_refl _) o)
theorem MR.setAt (h : MR w W rb a b c d r0 r1 r2 r3) (j : Nat) (v : Value) {s0 s1 s2 s3 : Value} (hj : (#[r0, r1, r2, r3] : Array Value).setIfInBounds j v = #[s0, s1, s2, s3]) : MR w (W.setCell ⟨rb, j, none⟩ v) rb a b c d s0 s1 s2 s3 := by
  have h1 := h.lt
  refine ⟨(Below.heap_setCell _ _ _ _ (by show w.heap.size ≠ rb; omega)).trans h.pm, (Below.heap_setCell _ _ _ _ (by show w.heap.size + 1 ≠ rb; omega)).trans h.rs, ?_, h.lt, h.bel.setCell (by show w.heap.size ≤ rb; omega) _⟩
  simp [World.setCell, Array.getElem?_modify, h.rp, ← hj]
theorem MR.p0 (h : MR w W rb a b c d r0 r1 r2 r3) : W.cell? ⟨w.heap.size, 0, none⟩ = some (.complex .f32 a b) := cell_of_row W w.heap.size 0 _ _ (0, 0) h.pm
theorem MR.p1 (h : MR w W rb a b c d r0 r1 r2 r3) : W.cell? ⟨w.heap.size, 1, none⟩ = some (.complex .f32 c d) := cell_of_row W w.heap.size 1 _ _ (0, 0) h.pm
theorem MR.c0 (h : MR w W rb a b c d r0 r1 r2 r3) : W.cell? ⟨rb, 0, none⟩ = some r0 := cell_of_row W rb 0 _ _ (0, 0) h.rp
theorem MR.c1 (h : MR w W rb a b c d r0 r1 r2 r3) : W.cell? ⟨rb, 1, none⟩ = some r1 := cell_of_row W rb 1 _ _ (0, 0) h.rp
theorem MR.c2 (h : MR w W rb a b c d r0 r1 r2 r3) : W.cell? ⟨rb, 2, none⟩ = some r2 := cell_of_row W rb 2 _ _ (0, 0) h.rp
theorem MR.c3 (h : MR w W rb a b c d r0 r1 r2 r3) : W.cell? ⟨rb, 3, none⟩ = some r3 := cell_of_row W rb 3 _ _ (0, 0) h.rp
theorem MR.fz (h : MR w W rb a b c d r0 r1 r2 r3) (k : Nat) : W.frozen? ⟨rb, k, none⟩ = false := by unfold World.frozen?; simp only [h.rp]; simp
theorem MR.fs (h : MR w W rb a b c d r0 r1 r2 r3) (k : Nat) : W.frozen? ⟨w.heap.size + 1, k, none⟩ = false := by unfold World.frozen?; simp only [h.rs]; simp
theorem ownM_lit (W : World) (a b c d : Nat) : OwnM (W.alloc (.cells #[.complex .f32 a b, .complex .f32 c d] 52)) W.heap.size (W.heap.size + 1) (some ⟨W.heap.size, 0, none⟩) 1 [(a, b, c, d)] :=
  ⟨⟨rfl, .inr ⟨W.heap.size, 1, #[.complex .f32 a b, .complex .f32 c d], rfl, Nat.le_refl _, heap_alloc_new W _, Nat.le_refl _, by simp [maxLen], rfl, rfl⟩⟩, fun k hk => by
    have : W.heap.size = k := by injection hk
    omega⟩
theorem FitIn.of {m : MW} (hm : ModeOk m.1 m.2.1 m.2.2.1 m.2.2.2) : FitIn (wid m.1, wid m.2.1) (wid m.2.2.1, wid m.2.2.2) := by
  have a2 := (wid_fin (fin_of_wid hm.fa)).2
  have b2 := (wid_fin (fin_of_wid hm.fb)).2
  have c2 := (wid_fin (fin_of_wid hm.fc)).2
  have d2 := (wid_fin (fin_of_wid hm.fd)).2
  refine ⟨⟨hm.fa, hm.fb⟩, ⟨hm.fc, hm.fd⟩, ?_, ?_⟩
  · show B2 (fv .f64 (wid m.1)) (fv .f64 (wid m.2.1)) rho
    rw [a2, b2]; exact hm.ball
  · have : siz (wid m.2.2.1, wid m.2.2.2) = gam m := by
      show ab (fv .f64 (wid m.2.2.1)) + ab (fv .f64 (wid m.2.2.2)) = _
      rw [c2, d2]; rfl
    rw [this]
    have := gam_le hm
    grind
theorem siz_gam {m : MW} (hm : ModeOk m.1 m.2.1 m.2.2.1 m.2.2.2) : siz (wid m.2.2.1, wid m.2.2.2) = gam m := by
  show ab (fv .f64 (wid m.2.2.1)) + ab (fv .f64 (wid m.2.2.2)) = _
  rw [(wid_fin (fin_of_wid hm.fc)).2, (wid_fin (fin_of_wid hm.fd)).2]; rfl
set_option maxHeartbeats 400000 in
theorem implSubD_any (a b c d : Nat) (w : World) : Calls Try.prog 78 #[.complex .f64 a b, .complex .f64 c d] w fun e w' => ∃ p q n, e = .returned (.complex .f64 p q) ∧ nrm .f64 p = nrm .f64 (fo .sub .f64 a c) ∧ nrm .f64 q = nrm .f64 (fo .sub .f64 b d) ∧ wfk .f64 p ∧ wfk .f64 q ∧ w.drewN n = w' := by
  go_enter Try.func78, Try.ntmps78
  go_wp2_with fail
  go_ret
  exact ⟨_, _, _, rfl, fRo rfl rfl _, fRo rfl rfl _, fR_lt _ _ _ _ _, fR_lt _ _ _ _ _, rfl⟩

theorem ms_one {a b c d : Nat} (h : ModeOk a b c d) : ModesOk [(a, b, c, d)] := fun m hm => by
  simp only [List.mem_singleton] at hm
  subst hm; exact h
theorem lowX_one : LowX [1065353216] := fun i hi => by
  have h0 : i = 0 := by simpa using hi
  subst h0
  show fin .f32 1065353216 ∧ _
  obtain ⟨a1, a2⟩ := fin_of_read (k := .f32) (b := 1065353216) (s := false) (m := 8388608) (e := -23) (by decide +kernel)
  refine ⟨a1, ?_⟩
  show ab (fv .f32 1065353216) ≤ _
  rw [a2, dval_ab]
  show ((8388608 : Nat) : Rat) * pw (-23) ≤ 128
  unfold pw; grind
theorem half_range {a b c d : Nat} {n : Nat} {k : Int} {t : Bool} (h : Half a b c d (n : Int) k t) : 0 ≤ k ∧ k ≤ n := by
  unfold Half at h
  rcases h with ⟨_, h1, h2, _⟩ | ⟨_, h1, _⟩ <;> omega
theorem mr_rd {w : World} {base n c : Nat} {e : TypeId} {A : Option Addr} {xs : List Value} (h : w.ownsRow base e 1 (.slice A n c) n xs) : Rd w A xs := by
  obtain ⟨_, _, q, _, rd⟩ := own_rd h
  injection q with q1 _ q2
  subst q1 q2
  exact rd
theorem mr_addr {w : World} {base n c : Nat} {e : TypeId} {A : Option Addr} {xs : List Value} (h : w.ownsRow base e 1 (.slice A n c) n xs) : (A = none ∧ n = 0 ∧ c = 0) ∨ ∃ g, A = some ⟨g, 0, none⟩ ∧ n ≤ c ∧ c ≤ maxLen := by
  rcases h.2 with ⟨q, h0⟩ | ⟨g, cap, cur, q, _, _, h1, h2, _⟩
  · injection q with q1 q2 q3
    exact .inl ⟨q1, h0, q3⟩
  · injection q with q1 q2 q3
    exact .inr ⟨g, q1, by omega, by omega⟩
theorem rd_lit1 (W : World) (x : Nat) : Rd (W.alloc (.cells #[.float .f32 x] 25)) (some ⟨W.heap.size, 0, none⟩) (f32s [x]) :=
  mr_rd (⟨rfl, .inr ⟨W.heap.size, 1, #[.float .f32 x], rfl, Nat.le_refl _, heap_alloc_new W _, Nat.le_refl _, by simp [maxLen], rfl, rfl⟩⟩ : (W.alloc (.cells #[.float .f32 x] 25)).ownsRow W.heap.size 25 1 (.slice (some ⟨W.heap.size, 0, none⟩) 1 1) 1 (f32s [x]))
/-- What is measured. -/
structure Meas (m : MW) (n : Nat) (hk : Int) (q1 q2 er dr : Nat) : Prop where
  h0 : 0 ≤ hk
  h1 : hk ≤ n
  fq : fin .f64 q1 ∧ fin .f64 q2
  near : 1 / 2 ^ 6 ≤ gam m → ab (fv .f64 q1 - fv .f64 (wid m.1)) ≤ 13 / 2 ^ 45 ∧ ab (fv .f64 q2 - fv .f64 (wid m.2.1)) ≤ 13 / 2 ^ 45
  err : ∃ s1 s2, nrm .f64 s1 = nrm .f64 (fo .sub .f64 q1 (wid m.1)) ∧ nrm .f64 s2 = nrm .f64 (fo .sub .f64 q2 (wid m.2.1)) ∧ nrm .f64 er = fo .add .f64 (abs64 s1) (abs64 s2)
  fdr : fin .f64 dr
  bdr : fv .f64 dr ≤ drBd [m] [1065353216] n

set_option maxRecDepth 100000 in
set_option maxHeartbeats 2000000 in
theorem measure_any (m : MW) (n : Nat) (w : World) (hm : ModeOk m.1 m.2.1 m.2.2.1 m.2.2.2) (h2 : 2 ≤ n) (hn : n ≤ 42) :
    Calls Try.prog 61 #[.agg #[.complex .f32 m.1 m.2.1, .complex .f32 m.2.2.1 m.2.2.2], .int .i64 n] w fun e w' => ∃ (hk : Int) (q1 q2 er dr : Nat),
      e = .returned (.tuple #[.agg #[.int .i64 hk, .complex .f64 q1 q2, .float .f64 er, .float .f64 dr], .bool true]) ∧ Meas m n hk q1 q2 er dr ∧ Below w.heap.size w w' := by
  have HM := Lib.hid hm
  have HI := Lib.hid (FitIn.of hm)
  have HG := Lib.hid (siz_gam hm)
  have T1 := Lib.hid (fun W => widenFin_any m.1 m.2.1 W hm.fa hm.fb)
  have T2 := Lib.hid (fun W => widenFin_any m.2.2.1 m.2.2.2 W hm.fc hm.fd)
  have FIN := Lib.hid (fun k (hk : k ≤ n) => ((FitIn.of hm).ring k (by omega)).f)
  have IM := Lib.hid (fun W => implMode_ok m.1 m.2.1 m.2.2.1 m.2.2.2 W hm)
  have HL := Lib.hid (fun W => implHalf_any m.1 m.2.1 m.2.2.1 m.2.2.2 (n : Int) W hm (by omega) (by omega))
  clear hm
  obtain ⟨a, b, c, d⟩ := m
  simp only at T1 T2 IM HL HG HI FIN ⊢
  obtain ⟨A, hA⟩ : ∃ A, wid a = A := ⟨_, rfl⟩
  obtain ⟨B, hB⟩ : ∃ B, wid b = B := ⟨_, rfl⟩
  obtain ⟨C, hC⟩ : ∃ C, wid c = C := ⟨_, rfl⟩
  obtain ⟨D, hD⟩ : ∃ D, wid d = D := ⟨_, rfl⟩
  rw [hA, hB] at T1 HI FIN
  rw [hC, hD] at T2 HI HG FIN
  have HAB := Lib.hid (And.intro hA hB)
  clear hA hB hC hD
  have S0 : Hid (Below w.heap.size w ((w.alloc (.cells #[.complex .f32 a b, .complex .f32 c d] 52)).alloc (.cells #[.int .i64 0, .complex .f64 0 0, .float .f64 0, .float .f64 0] 79)) ∧
      ((w.alloc (.cells #[.complex .f32 a b, .complex .f32 c d] 52)).alloc (.cells #[.int .i64 0, .complex .f64 0 0, .float .f64 0, .float .f64 0] 79)).heap[w.heap.size]? = some (.cells #[.complex .f32 a b, .complex .f32 c d] 52 (0, 0)) ∧
      ((w.alloc (.cells #[.complex .f32 a b, .complex .f32 c d] 52)).alloc (.cells #[.int .i64 0, .complex .f64 0 0, .float .f64 0, .float .f64 0] 79)).heap[w.heap.size + 1]? = some (.cells #[.int .i64 0, .complex .f64 0 0, .float .f64 0, .float .f64 0] 79 (0, 0))) := by
    refine ⟨((Below.refl w.heap.size w).alloc (Nat.le_refl _) _).alloc (by simp) _, (Below.heap_alloc _ _ _ (by simp)).trans (heap_alloc_new w _), ?_⟩
    have := heap_alloc_new (w.alloc (.cells #[.complex .f32 a b, .complex .f32 c d] 52)) (.cells #[.int .i64 0, .complex .f64 0 0, .float .f64 0, .float .f64 0] 79)
    simpa using this
  have z0 := cell_of_row _ w.heap.size 0 _ _ (0, 0) S0.out.2.1
  have z1 := cell_of_row _ w.heap.size 1 _ _ (0, 0) S0.out.2.1
  simp only [List.getElem?_toArray, List.getElem?_cons_zero, List.getElem?_cons_succ] at z0 z1
  have hsz : w.heap.size + 1 < ((w.alloc (.cells #[.complex .f32 a b, .complex .f32 c d] 52)).alloc (.cells #[.int .i64 0, .complex .f64 0 0, .float .f64 0, .float .f64 0] 79)).heap.size := by simp
  go_enter Try.func61, Try.ntmps61
  go_wp2_with fail
  generalize (w.alloc (.cells #[.complex .f32 a b, .complex .f32 c d] 52)).alloc (.cells #[.int .i64 0, .complex .f64 0 0, .float .f64 0, .float .f64 0] 79) = W0 at *
  refine (IM.out _).mono ?_
  rintro e W1 ⟨rfl, hb1⟩
  have S1 : Hid (MR w (W1.alloc (.cells #[.int .i64 0, .complex .f64 0 0, .float .f64 0, .float .f64 0] 79)) W1.heap.size a b c d (.int .i64 0) (.complex .f64 0 0) (.float .f64 0) (.float .f64 0)) := by
    have hs := hb1.size
    refine ⟨(Below.heap_alloc _ _ _ (by omega)).trans ((hb1.block _ (by omega)).trans S0.out.2.1), (Below.heap_alloc _ _ _ (by omega)).trans ((hb1.block _ hsz).trans S0.out.2.2), heap_alloc_new W1 _, by omega, (S0.out.1.trans (hb1.mono (by omega))).alloc (by omega) _⟩
  clear hb1 S0 z0 z1 hsz
  have p0 := S1.out.p0
  have p1 := S1.out.p1
  go_wp2_with fail
  generalize W1.alloc (.cells #[.int .i64 0, .complex .f64 0 0, .float .f64 0, .float .f64 0] 79) = V1 at *
  generalize W1.heap.size = rb at *
  refine (HL.out _).mono ?_
  intro e W2 hp
  unfold HalfPost at hp
  obtain ⟨hk, t, rfl, hh, hb2⟩ := hp
  have HK := Lib.hid (half_range hh)
  have S2 := Lib.hid (S1.out.below hb2)
  have c0 := S2.out.c0
  have z0 := S2.out.fz 0
  have S3 := Lib.hid (S2.out.setAt 0 (.int .i64 hk) rfl)
  clear S1 hb2 hh p0 p1 S2
  go_wp2_with fail
  clear c0 z0
  generalize W2.setCell ⟨rb, 0, none⟩ (.int .i64 hk) = V3 at *
  have p0 := S3.out.p0
  have p1 := S3.out.p1
  have S4 : Hid (MR w V3.drew rb a b c d (.int .i64 hk) (.complex .f64 0 0) (.float .f64 0) (.float .f64 0)) := S3.out.drewN 1
  refine wp_region_held_drew (S := fun w' => w'.cell? ⟨w.heap.size, 0, none⟩ = some (.complex .f32 a b) ∧ w'.cell? ⟨w.heap.size, 1, none⟩ = some (.complex .f32 c d)) (by kernel_rfl) ⟨p0, p1⟩ (fun hHeld => ?_)
  clear S3 p0 p1
  generalize V3.drew = V4 at *
  refine wpAnyH_take (i := 0) (oi := _) (v := ?_) rfl (by kernel_rfl) (by kernel_rfl) (by kernel_rfl) (fun _ _ _ h => h) (Or.inl ⟨by rfl, ?_⟩) (by assumption) ?_
  rotate_left
  · (intro w hSw; (try dsimp only at hSw); go_simp; try (with_reducible rfl))
  (try simp only [Act.put, List.setIfInBounds_toArray, List.set_cons_zero, List.set_cons_succ])
  refine wpAnyH_take (i := 1) (oi := _) (v := ?_) rfl (by kernel_rfl) (by kernel_rfl) (by kernel_rfl) (fun _ _ _ h => h) (Or.inl ⟨by rfl, ?_⟩) (by assumption) ?_
  rotate_left
  · (intro w hSw; (try dsimp only at hSw); go_simp; try (with_reducible rfl))
  (try simp only [Act.put, List.setIfInBounds_toArray, List.set_cons_zero, List.set_cons_succ])
  refine wpAnyH_take (i := 3) (oi := _) (v := ?_) rfl (by kernel_rfl) (by kernel_rfl) (by kernel_rfl) (fun _ _ _ h => h) (Or.inl ⟨by rfl, ?_⟩) (by assumption) ?_
  rotate_left
  · (intro w hSw; (try dsimp only at hSw); go_simp; try (with_reducible rfl))
  (try simp only [Act.put, List.setIfInBounds_toArray, List.set_cons_zero, List.set_cons_succ])
  refine wpAnyH_take (i := 4) (oi := _) (v := ?_) rfl (by kernel_rfl) (by kernel_rfl) (by kernel_rfl) (fun _ _ _ h => h) (Or.inl ⟨by rfl, ?_⟩) (by assumption) ?_
  rotate_left
  · (intro w hSw; (try dsimp only at hSw); go_simp; try (with_reducible rfl))
  (try simp only [Act.put, List.setIfInBounds_toArray, List.set_cons_zero, List.set_cons_succ])
  refine wpAnyH_take (i := 6) (oi := _) (v := ?_) rfl (by kernel_rfl) (by kernel_rfl) (by kernel_rfl) (fun _ _ _ h => h) (Or.inl ⟨by rfl, ?_⟩) (by assumption) ?_
  rotate_left
  · (intro w hSw; (try dsimp only at hSw); go_simp; try (with_reducible rfl))
  (try simp only [Act.put, List.setIfInBounds_toArray, List.set_cons_zero, List.set_cons_succ])
  refine wpAnyH_ready (rs := [2]) (by kernel_rfl) (by simp) ?_
  refine AllReadyH.cons (o := _) rfl (fun K hK => ?_) AllReadyH.nil
  go_simp
  refine (T1.out _).mono ?_
  rintro e w' ⟨rfl, rfl⟩
  go_wp2_with fail
  refine hK.out _ _ ?_ (fun hHelda => ?_)
  · exact hHeld
  clear hK K
  (try simp only [Act.put, List.setIfInBounds_toArray, List.set_cons_zero, List.set_cons_succ])
  refine wpAnyH_ready (rs := [5]) (by kernel_rfl) (by simp) ?_
  refine AllReadyH.cons (o := _) rfl (fun K hK => ?_) AllReadyH.nil
  go_simp
  refine (T2.out _).mono ?_
  rintro e w' ⟨rfl, rfl⟩
  go_wp2_with fail
  refine hK.out _ _ ?_ (fun hHeldb => ?_)
  · exact hHeld
  clear hK K
  (try simp only [Act.put, List.setIfInBounds_toArray, List.set_cons_zero, List.set_cons_succ])
  refine wpAnyH_ready (rs := [7]) (by kernel_rfl) (by simp) ?_
  refine AllReadyH.cons (o := _) rfl (fun K hK => ?_) AllReadyH.nil
  go_simp
  refine (implRing_any (A, B) (C, D) n _ (by omega) FIN.out).mono ?_
  intro e W5 hp
  unfold RingPost at hp
  obtain ⟨A5, c5, rfl, own5, hb5⟩ := hp
  have S5 := Lib.hid (S4.out.below hb5)
  clear hHeld hHelda hHeldb
  go_wp2_with fail
  refine hK.out _ _ ?_ (fun hHeldc => ?_)
  · exact ⟨S5.out.p0, S5.out.p1⟩
  clear hK K
  (try simp only [Act.put, List.setIfInBounds_toArray, List.set_cons_zero, List.set_cons_succ])
  refine wpAnyH_take (i := 8) (oi := _) (v := ?_) rfl (by kernel_rfl) (by kernel_rfl) (by kernel_rfl) (fun _ _ _ h => h) (Or.inl ⟨by rfl, ?_⟩) (by assumption) ?_
  rotate_left
  · (intro w hSw; (try dsimp only at hSw); go_simp; try (with_reducible rfl))
  (try simp only [Act.put, List.setIfInBounds_toArray, List.set_cons_zero, List.set_cons_succ])
  refine wpAnyH_take (i := 9) (oi := _) (v := ?_) rfl (by kernel_rfl) (by kernel_rfl) (by kernel_rfl) (fun _ _ _ h => h) (Or.inl ⟨by rfl, ?_⟩) (by assumption) ?_
  rotate_left
  · (intro w hSw; (try dsimp only at hSw); go_simp; try (with_reducible rfl))
  (try simp only [Act.put, List.setIfInBounds_toArray, List.set_cons_zero, List.set_cons_succ])
  refine wpAnyH_take (i := 10) (oi := _) (v := ?_) rfl (by kernel_rfl) (by kernel_rfl) (by kernel_rfl) (fun _ _ _ h => h) (Or.inl ⟨by rfl, ?_⟩) (by assumption) ?_
  rotate_left
  · (intro w hSw; (try dsimp only at hSw); go_simp; try (with_reducible rfl))
  (try simp only [Act.put, List.setIfInBounds_toArray, List.set_cons_zero, List.set_cons_succ])
  refine wpAnyH_take (i := 11) (oi := _) (v := ?_) rfl (by kernel_rfl) (by kernel_rfl) (by kernel_rfl) (fun _ _ _ h => h) (Or.inl ⟨by rfl, ?_⟩) (by assumption) ?_
  rotate_left
  · (intro w hSw; (try dsimp only at hSw); go_simp; try (with_reducible rfl))
  (try simp only [Act.put, List.setIfInBounds_toArray, List.set_cons_zero, List.set_cons_succ])
  refine wpAnyH_take (i := 12) (oi := _) (v := ?_) rfl (by kernel_rfl) (by kernel_rfl) (by kernel_rfl) (fun _ _ _ h => h) (Or.inl ⟨by rfl, ?_⟩) (by assumption) ?_
  rotate_left
  · (intro w hSw; (try dsimp only at hSw); go_simp; try (with_reducible rfl))
  (try simp only [Act.put, List.setIfInBounds_toArray, List.set_cons_zero, List.set_cons_succ])
  refine wpAnyH_done (by kernel_rfl) ?_ _
  clear hHeldc hb5 S4
  obtain ⟨g5, rfl, hc5⟩ : ∃ g, A5 = some ⟨g, 0, none⟩ ∧ n ≤ c5 := by
    rcases mr_addr own5 with ⟨_, h, _⟩ | ⟨g, e, h, _⟩
    · omega
    · exact ⟨g, e, h⟩
  have R5 := Lib.hid (mr_rd own5)
  clear own5
  go_wp2_with fail
  refine (fitSquares_any (A, B) (C, D) g5 c5 n _ HI.out h2 hn hc5 R5.out).mono ?_
  intro e W6 hp
  unfold FitPost at hp
  obtain ⟨q1, q2, t6, j6, rfl, HF, HN, rfl⟩ := hp
  have S6 := Lib.hid (S5.out.drewN j6)
  have HQ := Lib.hid (And.intro HF HN)
  clear S5 R5 HF HN
  generalize W5.drewN j6 = V6 at *
  have c6 := S6.out.c1
  have z6 := S6.out.fz 1
  have S7 := Lib.hid (S6.out.setAt 1 (.complex .f64 q1 q2) rfl)
  clear S6
  go_wp2_with fail
  clear c6 z6
  generalize V6.setCell ⟨rb, 1, none⟩ (.complex .f64 q1 q2) = V7 at *
  have p0 := S7.out.p0
  have p1 := S7.out.c1
  have S8 : Hid (MR w V7.drew rb a b c d (.int .i64 hk) (.complex .f64 q1 q2) (.float .f64 0) (.float .f64 0)) := S7.out.drewN 1
  refine wp_region_held_drew (S := fun w' => w'.cell? ⟨w.heap.size, 0, none⟩ = some (.complex .f32 a b) ∧ w'.cell? ⟨rb, 1, none⟩ = some (.complex .f64 q1 q2)) (by kernel_rfl) ⟨p0, p1⟩ (fun hHeld => ?_)
  clear S7 p0 p1
  generalize V7.drew = V8 at *
  refine wpAnyH_take (i := 0) (oi := _) (v := ?_) rfl (by kernel_rfl) (by kernel_rfl) (by kernel_rfl) (fun _ _ _ h => h) (Or.inl ⟨by rfl, ?_⟩) (by assumption) ?_
  rotate_left
  · (intro w hSw; (try dsimp only at hSw); go_simp; try (with_reducible rfl))
  (try simp only [Act.put, List.setIfInBounds_toArray, List.set_cons_zero, List.set_cons_succ])
  refine wpAnyH_take (i := 1) (oi := _) (v := ?_) rfl (by kernel_rfl) (by kernel_rfl) (by kernel_rfl) (fun _ _ _ h => h) (Or.inl ⟨by rfl, ?_⟩) (by assumption) ?_
  rotate_left
  · (intro w hSw; (try dsimp only at hSw); go_simp; try (with_reducible rfl))
  (try simp only [Act.put, List.setIfInBounds_toArray, List.set_cons_zero, List.set_cons_succ])
  refine wpAnyH_take (i := 2) (oi := _) (v := ?_) rfl (by kernel_rfl) (by kernel_rfl) (by kernel_rfl) (fun _ _ _ h => h) (Or.inl ⟨by rfl, ?_⟩) (by assumption) ?_
  rotate_left
  · (intro w hSw; (try dsimp only at hSw); go_simp; try (with_reducible rfl))
  (try simp only [Act.put, List.setIfInBounds_toArray, List.set_cons_zero, List.set_cons_succ])
  refine wpAnyH_take (i := 3) (oi := _) (v := ?_) rfl (by kernel_rfl) (by kernel_rfl) (by kernel_rfl) (fun _ _ _ h => h) (Or.inl ⟨by rfl, ?_⟩) (by assumption) ?_
  rotate_left
  · (intro w hSw; (try dsimp only at hSw); go_simp; try (with_reducible rfl))
  (try simp only [Act.put, List.setIfInBounds_toArray, List.set_cons_zero, List.set_cons_succ])
  refine wpAnyH_ready (rs := [4]) (by kernel_rfl) (by simp) ?_
  refine AllReadyH.cons (o := _) rfl (fun K hK => ?_) AllReadyH.nil
  go_simp
  refine (T1.out _).mono ?_
  rintro e w' ⟨rfl, rfl⟩
  go_wp2_with fail
  refine hK.out _ _ ?_ (fun hHelda => ?_)
  · exact hHeld
  clear hK K
  (try simp only [Act.put, List.setIfInBounds_toArray, List.set_cons_zero, List.set_cons_succ])
  refine wpAnyH_ready (rs := [5]) (by kernel_rfl) (by simp) ?_
  refine AllReadyH.cons (o := _) rfl (fun K hK => ?_) AllReadyH.nil
  go_simp
  refine (implSubD_any q1 q2 A B _).mono ?_
  rintro e w' ⟨s1, s2, j8, rfl, hs1, hs2, ws1, ws2, rfl⟩
  have HS := Lib.hid (And.intro hs1 hs2)
  clear hs1 hs2 hHelda
  go_wp2_with fail
  refine hK.out _ _ ?_ (fun hHeldb => ?_)
  · exact hHeld
  clear hK K
  (try simp only [Act.put, List.setIfInBounds_toArray, List.set_cons_zero, List.set_cons_succ])
  refine wpAnyH_ready (rs := [6]) (by kernel_rfl) (by simp) ?_
  refine AllReadyH.cons (o := _) rfl (fun K hK => ?_) AllReadyH.nil
  go_simp
  refine (implSize_any s1 s2 _ ws1 ws2).mono ?_
  rintro e w' ⟨er, j9, rfl, he, we, rfl⟩
  have HE := Lib.hid (And.intro he we)
  have S10 := Lib.hid (S8.out.drewN (j8 + j9))
  clear ws1 ws2 he we S8 hHeldb
  go_wp2_with fail
  refine hK.out _ _ ?_ (fun hHeldc => ?_)
  · exact hHeld
  clear hK K
  (try simp only [Act.put, List.setIfInBounds_toArray, List.set_cons_zero, List.set_cons_succ])
  refine wpAnyH_take (i := 7) (oi := _) (v := ?_) rfl (by kernel_rfl) (by kernel_rfl) (by kernel_rfl) (fun _ _ _ h => h) (Or.inl ⟨by rfl, ?_⟩) (by assumption) ?_
  rotate_left
  · (intro w hSw; (try dsimp only at hSw); go_simp; try (with_reducible rfl))
  (try simp only [Act.put, List.setIfInBounds_toArray, List.set_cons_zero, List.set_cons_succ])
  clear hHeld hHeldc
  generalize V8.drewN (j8 + j9) = V10 at *
  have c10 := S10.out.c2
  have z10 := S10.out.fz 2
  have S11 := Lib.hid (S10.out.setAt 2 (.float .f64 er) rfl)
  clear S10
  refine wpAnyH_ready (rs := [8]) (by kernel_rfl) (by simp) ?_
  refine AllReadyH.cons (o := _) rfl (fun K hK => ?_) AllReadyH.nil
  go_simp
  refine hK.out _ _ ?_ (fun hHeldd => ?_)
  · exact ⟨S11.out.p0, S11.out.c1⟩
  clear hK K
  (try simp only [Act.put, List.setIfInBounds_toArray, List.set_cons_zero, List.set_cons_succ])
  refine wpAnyH_done (by kernel_rfl) ?_ _
  clear c10 z10 hHeldd
  generalize V10.setCell ⟨rb, 2, none⟩ (.float .f64 er) = V11 at *
  have p0 := S11.out.p0
  have p1 := S11.out.p1
  have OM : Hid (OwnM ((V11.alloc (.cells #[.complex .f32 a b, .complex .f32 c d] 52)).alloc (.cells #[.float .f32 1065353216] 25)) V11.heap.size (V11.heap.size + 1) (some ⟨V11.heap.size, 0, none⟩) 1 [(a, b, c, d)]) :=
    (ownM_lit V11 a b c d).below ((Below.refl _ _).alloc (Nat.le_refl _) _) (by simp)
  have RX : Hid (Rd ((V11.alloc (.cells #[.complex .f32 a b, .complex .f32 c d] 52)).alloc (.cells #[.float .f32 1065353216] 25)) (some ⟨V11.heap.size + 1, 0, none⟩) (f32s [1065353216])) := by
    show Rd _ _ _
    have := rd_lit1 (V11.alloc (.cells #[.complex .f32 a b, .complex .f32 c d] 52)) 1065353216
    simpa using this
  have S12 := Lib.hid ((S11.out.alloc (.cells #[.complex .f32 a b, .complex .f32 c d] 52)).alloc (.cells #[.float .f32 1065353216] 25))
  have hs12 : V11.heap.size + 1 ≤ ((V11.alloc (.cells #[.complex .f32 a b, .complex .f32 c d] 52)).alloc (.cells #[.float .f32 1065353216] 25)).heap.size := by simp
  clear S11
  go_wp2_with fail
  generalize (V11.alloc (.cells #[.complex .f32 a b, .complex .f32 c d] 52)).alloc (.cells #[.float .f32 1065353216] 25) = V12 at *
  refine (driftOf_any (some ⟨V11.heap.size, 0, none⟩) (some ⟨V11.heap.size + 1, 0, none⟩) 1 1 _ _ [(a, b, c, d)] [1065353216] n V12 OM.out (by omega) (ms_one HM.out) (by simp) RX.out (by omega) lowX_one (by simp)).mono ?_
  rintro e W13 ⟨dr, rfl, fdr, bdr, hb13⟩
  have HD := Lib.hid (And.intro fdr bdr)
  have S13 := Lib.hid (S12.out.below hb13)
  clear fdr bdr hb13 OM RX S12 p0 p1 hs12
  have c13 := S13.out.c3
  have z13 := S13.out.fz 3
  have S14 := Lib.hid (S13.out.setAt 3 (.float .f64 dr) rfl)
  clear S13
  have c0 := S14.out.c0
  have c1 := S14.out.c1
  have c2 := S14.out.c2
  have c3 := S14.out.c3
  have f0 := S14.out.fs 0
  have f1 := S14.out.fs 1
  have f2 := S14.out.fs 2
  have f3 := S14.out.fs 3
  have s0 := cell_of_row (W13.setCell ⟨rb, 3, none⟩ (.float .f64 dr)) (w.heap.size + 1) 0 _ _ (0, 0) S14.out.rs
  have s1' := cell_of_row (W13.setCell ⟨rb, 3, none⟩ (.float .f64 dr)) (w.heap.size + 1) 1 _ _ (0, 0) S14.out.rs
  have s2' := cell_of_row (W13.setCell ⟨rb, 3, none⟩ (.float .f64 dr)) (w.heap.size + 1) 2 _ _ (0, 0) S14.out.rs
  have s3 := cell_of_row (W13.setCell ⟨rb, 3, none⟩ (.float .f64 dr)) (w.heap.size + 1) 3 _ _ (0, 0) S14.out.rs
  simp only [List.getElem?_toArray, List.getElem?_cons_zero, List.getElem?_cons_succ] at s0 s1' s2' s3
  go_wp2_with fail
  clear c13 z13 c0 c1 c2 c3 f0 f1 f2 f3 s0 s1' s2' s3
  generalize W13.setCell ⟨rb, 3, none⟩ (.float .f64 dr) = V14 at *
  have HRes : Hid (((((V14.setCell ⟨w.heap.size + 1, 0, none⟩ (.int .i64 hk)).setCell ⟨w.heap.size + 1, 1, none⟩ (.complex .f64 q1 q2)).setCell ⟨w.heap.size + 1, 2, none⟩ (.float .f64 er)).setCell ⟨w.heap.size + 1, 3, none⟩ (.float .f64 dr)).heap[w.heap.size + 1]? = some (.cells #[.int .i64 hk, .complex .f64 q1 q2, .float .f64 er, .float .f64 dr] 79 (0, 0))) := by
    show _ = _
    simp [World.setCell, Array.getElem?_modify, S14.out.rs]
  refine bodyPost_ret (results_cell_tmp_row rfl _ _ (w.heap.size + 1) 79 #[.int .i64 hk, .complex .f64 q1 q2, .float .f64 er, .float .f64 dr] (0, 0) _ rfl HRes.out Try.underlying79 rfl (by kernel_rfl)) rfl ?_
  clear HRes
  obtain ⟨rfl, rfl⟩ := HAB.out
  refine ⟨hk, q1, q2, er, dr, rfl, ⟨HK.out.1, HK.out.2, ⟨HQ.out.1.1, HQ.out.1.2.1⟩, fun hg => ?_, ⟨s1, s2, HS.out.1, HS.out.2, HE.out.1⟩, HD.out.1, HD.out.2⟩, ?_⟩
  · obtain ⟨n1, n2, _⟩ := HQ.out.2 (by rw [HG.out]; exact hg)
    exact ⟨n1, n2⟩
  · have hb := Lib.hid S14.out.bel
    exact (((hb.out.setCell (by show w.heap.size ≤ w.heap.size + 1; omega) _).setCell (by show w.heap.size ≤ w.heap.size + 1; omega) _).setCell (by show w.heap.size ≤ w.heap.size + 1; omega) _).setCell (by show w.heap.size ≤ w.heap.size + 1; omega) _
end Go.Proofs.Ytignncjmbcdpaaa

/-
impl.FitStart, impl.SpectrumAt, impl.FitSpectra, impl.PowerDouble, impl.NearDouble.
-/
namespace Go.Proofs.Ytignncjmbcdpaaa
open Go Go.RowKit Ieee

theorem oneC_wf : wfk .f64 oneC.1 ∧ wfk .f64 oneC.2 := ⟨by show wfk .f64 4607182418800017408; rw [wfk_64]; omega, by show wfk .f64 0; rw [wfk_64]; omega⟩
/-- The words of the fitted start. -/
def startQ (p a : Nat × Nat) (n : Nat) : Nat × Nat := qC (corrW (zList p a n) (zList p oneC n) n) (corrW (zList p oneC n) (zList p oneC n) n)
def FitSPost (p a : Nat × Nat) (n : Nat) (w : World) (e : Ending) (w' : World) : Prop :=
  e = .returned (.tuple #[.complex .f64 (startQ p a n).1 (startQ p a n).2, .bool true]) ∧ Below w.heap.size w w'
set_option maxRecDepth 100000 in
set_option maxHeartbeats 1000000 in
theorem fitStart_any (p a : Nat × Nat) (A : Option Addr) (c n : Nat) (w : World) (hi : RIn p a) (h1 : 1 ≤ n) (hn : n ≤ 45) (hr : Rd w A (c64s (zList p a n))) :
    Calls Try.prog 48 #[.slice A n c, .complex .f64 p.1 p.2] w (FitSPost p a n w) := by
  have HF := Lib.hid (implRing_any p oneC n w (by omega) (fun k hk => (ring_near hi.one k (by omega)).1))
  obtain ⟨ok1, ok2⟩ := start_ok hi n hn
  obtain ⟨s1, s2, _⟩ := start_sums hi n hn n (Nat.le_refl _)
  obtain ⟨g1, _, _, g4⟩ := start_near hi n hn h1
  have C1 := corrW_lt (zList p a n) (zList p oneC n) n
  have C2 := corrW_lt (zList p oneC n) (zList p oneC n) n
  have L1 := zList_len p a n
  have L2 := zList_len p oneC n
  have T1 := Lib.hid (fun W B d hA hB => corr_any A B c d n n (zList p a n) (zList p oneC n) W hA hB L1 L2 (by omega) rfl ok1)
  have T2 := Lib.hid (fun W B d hB hB' => corr_any B B d d n n (zList p oneC n) (zList p oneC n) W hB hB' L2 L2 (by omega) rfl ok2)
  have T3 := Lib.hid (fun W => div_ok W s1.f.1 s1.f.2 s2.f.1 s2.f.2 C1.1 C1.2 C2.1 C2.2 g4 g1)
  have HR := Lib.hid hr
  have hq : startQ p a n = qC ((corrW (zList p a n) (zList p oneC n) n).1, (corrW (zList p a n) (zList p oneC n) n).2) ((corrW (zList p oneC n) (zList p oneC n) n).1, (corrW (zList p oneC n) (zList p oneC n) n).2) := rfl
  clear hr hi ok1 ok2 s1 s2 g1 g4 C1 C2 L1 L2
  obtain ⟨N1, hN1⟩ : ∃ x, (corrW (zList p a n) (zList p oneC n) n).1 = x := ⟨_, rfl⟩
  obtain ⟨N2, hN2⟩ : ∃ x, (corrW (zList p a n) (zList p oneC n) n).2 = x := ⟨_, rfl⟩
  obtain ⟨D1, hD1⟩ : ∃ x, (corrW (zList p oneC n) (zList p oneC n) n).1 = x := ⟨_, rfl⟩
  obtain ⟨D2, hD2⟩ : ∃ x, (corrW (zList p oneC n) (zList p oneC n) n).2 = x := ⟨_, rfl⟩
  rw [hN1, hN2] at T1
  rw [hD1, hD2] at T2
  rw [hN1, hN2, hD1, hD2] at T3 hq
  rw [← hq] at T3
  clear hN1 hN2 hD1 hD2 hq
  obtain ⟨Q1, hQ1⟩ : ∃ x, (startQ p a n).1 = x := ⟨_, rfl⟩
  obtain ⟨Q2, hQ2⟩ : ∃ x, (startQ p a n).2 = x := ⟨_, rfl⟩
  rw [hQ1, hQ2] at T3
  have HY := Lib.hid (And.intro hQ1 hQ2)
  clear hQ1 hQ2
  have ho : oneC.1 = 4607182418800017408 ∧ oneC.2 = 0 := ⟨rfl, rfl⟩
  rw [ho.1, ho.2] at HF
  clear ho
  obtain ⟨p1, hp1⟩ : ∃ x, p.1 = x := ⟨_, rfl⟩
  obtain ⟨p2, hp2⟩ : ∃ x, p.2 = x := ⟨_, rfl⟩
  rw [hp1, hp2] at HF ⊢
  clear hp1 hp2
  go_enter Try.func48, Try.ntmps48
  go_wp2_with fail
  refine HF.out.mono ?_
  intro e W1 hp
  unfold RingPost at hp
  obtain ⟨A1, c1, rfl, own1, hb1⟩ := hp
  have RA := Lib.hid (HR.out.below hb1)
  have RB : Hid (Rd W1 A1 (c64s (zList p oneC n))) := by
    obtain ⟨_, _, q, _, rd⟩ := own_rd own1
    injection q with q1 _ q2
    subst q1 q2
    exact rd
  have HB := Lib.hid hb1
  clear own1 hb1
  go_wp2_with fail
  refine (T1.out W1 A1 c1 RA.out RB.out).mono ?_
  rintro e w' ⟨rfl, j1, rfl⟩
  go_wp2_with fail
  refine (T2.out (W1.drewN j1) A1 c1 (RB.out.drewN j1) (RB.out.drewN j1)).mono ?_
  rintro e w' ⟨rfl, j2, rfl⟩
  go_wp2_with fail
  refine (T3.out _).mono ?_
  rintro e w' ⟨rfl, j3, rfl⟩
  go_wp2_with fail
  go_ret2
  unfold FitSPost
  rw [HY.out.1, HY.out.2]
  exact ⟨rfl, below_drewN HB.out _⟩

/-- A list of complex words. -/
def fList (f : Nat → Nat × Nat) (m : Nat) : List (Nat × Nat) := (List.range m).map f
theorem fList_get {f : Nat → Nat × Nat} {m k : Nat} (h : k < m) : (c64s (fList f m))[k]? = some (.complex .f64 (f k).1 (f k).2) := by simp [c64s, fList, h]
set_option maxRecDepth 100000 in
set_option maxHeartbeats 1000000 in
theorem spectrum_any (f : Nat → Nat × Nat) (u : Nat × Nat) (A : Option Addr) (c m : Nat) (w : World) (hm : m ≤ 100) (hr : Rd w A (c64s (fList f m)))
    (hf : ∀ j, j < m → finC (prodC (horW f u m j) u) ∧ finC (horW f u m (j + 1))) :
    Calls Try.prog 98 #[.slice A m c, .complex .f64 u.1 u.2] w fun e w' => e = .returned (.complex .f64 (horW f u m m).1 (horW f u m m).2) ∧ ∃ j, w.drewN j = w' := by
  have HR := Lib.hid hr
  have HT : Hid (∀ j, j < m → (∀ W, Calls Try.prog 79 #[.complex .f64 (horW f u m j).1 (horW f u m j).2, .complex .f64 u.1 u.2] W fun e w' => e = .returned (.complex .f64 (prodC (horW f u m j) u).1 (prodC (horW f u m j) u).2) ∧ ∃ n, W.drewN n = w') ∧
      (∀ W, Calls Try.prog 96 #[.complex .f64 (prodC (horW f u m j) u).1 (prodC (horW f u m j) u).2, .complex .f64 (f (m - 1 - j)).1 (f (m - 1 - j)).2] W fun e w' => e = .returned (.complex .f64 (horW f u m (j + 1)).1 (horW f u m (j + 1)).2) ∧ ∃ n, W.drewN n = w')) := fun j hj => by
    obtain ⟨h1, h2⟩ := hf j hj
    exact ⟨fun W => (implTimes_fin _ _ _ _ W h1.1 h1.2).mono fun e w' ⟨n, he, hw⟩ => ⟨he, n, hw⟩, fun W => addD_fin _ _ _ _ W h2.1 h2.2⟩
  have h0 : horW f u m 0 = (0, 0) := rfl
  have H0 := Lib.hid h0
  clear hr hf h0
  obtain ⟨u1, hu1⟩ : ∃ x, u.1 = x := ⟨_, rfl⟩
  obtain ⟨u2, hu2⟩ : ∃ x, u.2 = x := ⟨_, rfl⟩
  rw [hu1, hu2] at HT ⊢
  clear hu1 hu2
  go_enter Try.func98, Try.ntmps98
  go_wp2_with fail
  go_loopw [5, 6] (fun v i wr => ∃ j n : Nat, j ≤ m ∧ i = .int .i64 ((m : Int) - 1 - (j : Int)) ∧ v = .complex .f64 (horW f u m j).1 (horW f u m j).2 ∧ wr = w.drewN n) (fun _ i _ => (intOf i + 1).toNat)
  case atStart => exact ⟨0, 0, by omega, by go_num, by rw [H0.out], (World.drewN_zero _).symm⟩
  case round =>
    obtain ⟨j, n, hj, rfl, rfl, rfl⟩ := hrel
    by_cases hlt : j < m
    · obtain ⟨k, hk⟩ : ∃ k : Nat, m - 1 - j = k := ⟨_, rfl⟩
      have hkI : (m : Int) - 1 - (j : Int) = (k : Int) := by omega
      obtain ⟨b, off, rfl, hb, hc⟩ := HR.out (by simp [c64s, fList]; omega)
      have e1 := hc k _ (fList_get (by omega))
      obtain ⟨T1, T2⟩ := HT.out j hlt
      rw [hk] at T2
      have T1 := Lib.hid T1
      have T2 := Lib.hid T2
      clear hc
      obtain ⟨x1, hx1⟩ : ∃ x, (horW f u m j).1 = x := ⟨_, rfl⟩
      obtain ⟨x2, hx2⟩ : ∃ x, (horW f u m j).2 = x := ⟨_, rfl⟩
      obtain ⟨y1, hy1⟩ : ∃ x, (prodC (horW f u m j) u).1 = x := ⟨_, rfl⟩
      obtain ⟨y2, hy2⟩ : ∃ x, (prodC (horW f u m j) u).2 = x := ⟨_, rfl⟩
      obtain ⟨z1, hz1⟩ : ∃ x, (f k).1 = x := ⟨_, rfl⟩
      obtain ⟨z2, hz2⟩ : ∃ x, (f k).2 = x := ⟨_, rfl⟩
      obtain ⟨q1, hq1⟩ : ∃ x, (horW f u m (j + 1)).1 = x := ⟨_, rfl⟩
      obtain ⟨q2, hq2⟩ : ∃ x, (horW f u m (j + 1)).2 = x := ⟨_, rfl⟩
      rw [hx1, hx2, hy1, hy2] at T1
      rw [hy1, hy2, hz1, hz2, hq1, hq2] at T2
      rw [hz1, hz2] at e1
      rw [hx1, hx2, hkI]
      have HQ := Lib.hid (And.intro hq1 hq2)
      have HKI := Lib.hid hkI
      have hkm : k < m := by omega
      clear hx1 hx2 hy1 hy2 hz1 hz2 hq1 hq2 hkI hk
      go_wp2_with fail
      refine wp_region_rx (by kernel_rfl) (by kernel_rfl) ?_; apply Exists.intro
      repeat (first | (apply wpR_val; intro K hK; go_simp; refine ⟨rfl, hK _ ?_⟩; clear hK K) | (apply wpR_skip; intro K hK; go_simp; refine hK _ ?_; clear hK K))
      apply wpR_val (v := .complex .f64 y1 y2); intro K hK; go_simp; refine ⟨fun m => rcall (T1.out _), hK _ ?_⟩; clear hK K
      repeat (first | (apply wpR_val; intro K hK; go_simp; refine ⟨rfl, hK _ ?_⟩; clear hK K) | (apply wpR_skip; intro K hK; go_simp; refine hK _ ?_; clear hK K))
      apply wpR_val (v := .complex .f64 q1 q2); intro K hK; go_simp; refine ⟨fun m => rcall (T2.out _), hK _ ?_⟩; clear hK K
      repeat (first | (apply wpR_val; intro K hK; go_simp; refine ⟨rfl, hK _ ?_⟩; clear hK K) | (apply wpR_skip; intro K hK; go_simp; refine hK _ ?_; clear hK K))
      apply wpR_nil (Rs := []); rintro _ ⟨nq, rfl⟩
      go_wp2_with fail
      go_roundw
      case rel => exact ⟨j + 1, _, by omega, by have := HKI.out; go_num, by rw [HQ.out.1, HQ.out.2], rfl⟩
      case measure => have := HKI.out; simp [intOf]
    · obtain rfl : j = m := by omega
      have hneg : (j : Int) - 1 - (j : Int) = -1 := by omega
      rw [hneg]
      go_wp2_with fail
      go_ret
      exact ⟨rfl, n, rfl⟩
/-- The words of the fitted power. -/
def specQ (p a u : Nat × Nat) (m : Nat) : Nat × Nat := qC (horW (fun i => zC p a (m + i)) u m m) (horW (fun i => zC p a (0 + i)) u m m)
theorem rd_mid {w : World} {g n b m : Nat} {p a : Nat × Nat} (hr : Rd w (some ⟨g, 0, none⟩) (c64s (zList p a n))) (h : b + m ≤ n) : Rd w (some ⟨g, b, none⟩) (c64s (fList (fun i => zC p a (b + i)) m)) := fun hl => by
  have hm : 0 < m := by simpa [c64s, fList] using hl
  obtain ⟨b', off, e, hb, hc⟩ := hr (by simp [c64s, zList]; omega)
  injection e with e
  injection e with e1 e2
  subst e1 e2
  refine ⟨_, b, rfl, hb, fun k v hv => ?_⟩
  have hk : k < m := by
    rcases Nat.lt_or_ge k m with h1 | h1
    · exact h1
    · rw [List.getElem?_eq_none (by simpa [c64s, fList] using h1)] at hv; cases hv
  rw [fList_get hk] at hv
  have := hc (b + k) _ (zList_get (by omega))
  rw [Nat.zero_add] at this
  rw [this]; exact hv
def FitFPost (p a u : Nat × Nat) (m : Nat) (w : World) (e : Ending) (w' : World) : Prop :=
  e = .returned (.tuple #[.complex .f64 (specQ p a u m).1 (specQ p a u m).2, .bool true]) ∧ ∃ j, w.drewN j = w'
theorem hor_wf (f : Nat → Nat × Nat) (u : Nat × Nat) (m j : Nat) : wfk .f64 (horW f u m j).1 ∧ wfk .f64 (horW f u m j).2 := by
  cases j with
  | zero => exact ⟨by show wfk .f64 0; rw [wfk_64]; omega, by show wfk .f64 0; rw [wfk_64]; omega⟩
  | succ j => exact ⟨fo_lt _ _ _ _, fo_lt _ _ _ _⟩
set_option maxRecDepth 100000 in
set_option maxHeartbeats 1000000 in
theorem fitSpectra_any (p a u : Nat × Nat) (g c n m : Nat) (w : World) (hi : RIn p a) (hw : WIn u) (h1 : 1 ≤ m) (hm : m ≤ 20) (hmn : 2 * m ≤ n) (hnc : n ≤ c) (hcm : c ≤ maxLen) (hr : Rd w (some ⟨g, 0, none⟩) (c64s (zList p a n))) :
    Calls Try.prog 49 #[.slice (some ⟨g, 0, none⟩) n c, .complex .f64 u.1 u.2, .int .i64 m] w (FitFPost p a u m w) := by
  have ok : ∀ b, b + m ≤ 40 → ∀ j, j < m → finC (prodC (horW (fun i => zC p a (b + i)) u m j) u) ∧ finC (horW (fun i => zC p a (b + i)) u m (j + 1)) := fun b hb j hj =>
    ⟨(hor_all hi hw b m (by omega) j (by omega)).2 hj, (hor_all hi hw b m (by omega) (j + 1) (by omega)).1.1⟩
  have T1 := Lib.hid (fun j cc => spectrum_any (fun i => zC p a (m + i)) u (some ⟨g, m, none⟩) cc m (w.drewN j) (by omega) ((rd_mid hr (by omega)).drewN j) (ok m (by omega)))
  have T2 := Lib.hid (fun j cc => spectrum_any (fun i => zC p a (0 + i)) u (some ⟨g, 0, none⟩) cc m (w.drewN j) (by omega) ((rd_mid hr (by omega)).drewN j) (ok 0 (by omega)))
  obtain ⟨g1, _, _, g4⟩ := spectra_near hi hw m h1 hm
  have f1 := (hor_all hi hw m m (by omega) m (Nat.le_refl _)).1.1
  have f2 := (hor_all hi hw 0 m (by omega) m (Nat.le_refl _)).1.1
  have c1 := hor_wf (fun i => zC p a (m + i)) u m m
  have c2 := hor_wf (fun i => zC p a (0 + i)) u m m
  have T3 := Lib.hid (fun W => div_ok W f1.1 f1.2 f2.1 f2.2 c1.1 c1.2 c2.1 c2.2 g4 g1)
  have hq : specQ p a u m = qC ((horW (fun i => zC p a (m + i)) u m m).1, (horW (fun i => zC p a (m + i)) u m m).2) ((horW (fun i => zC p a (0 + i)) u m m).1, (horW (fun i => zC p a (0 + i)) u m m).2) := rfl
  clear hr hi hw ok g1 g4 f1 f2 c1 c2
  obtain ⟨N1, hN1⟩ : ∃ x, (horW (fun i => zC p a (m + i)) u m m).1 = x := ⟨_, rfl⟩
  obtain ⟨N2, hN2⟩ : ∃ x, (horW (fun i => zC p a (m + i)) u m m).2 = x := ⟨_, rfl⟩
  obtain ⟨D1, hD1⟩ : ∃ x, (horW (fun i => zC p a (0 + i)) u m m).1 = x := ⟨_, rfl⟩
  obtain ⟨D2, hD2⟩ : ∃ x, (horW (fun i => zC p a (0 + i)) u m m).2 = x := ⟨_, rfl⟩
  rw [hN1, hN2] at T1
  rw [hD1, hD2] at T2
  rw [hN1, hN2, hD1, hD2] at T3 hq
  rw [← hq] at T3
  clear hN1 hN2 hD1 hD2 hq
  obtain ⟨Q1, hQ1⟩ : ∃ x, (specQ p a u m).1 = x := ⟨_, rfl⟩
  obtain ⟨Q2, hQ2⟩ : ∃ x, (specQ p a u m).2 = x := ⟨_, rfl⟩
  obtain ⟨u1, hu1⟩ : ∃ x, u.1 = x := ⟨_, rfl⟩
  obtain ⟨u2, hu2⟩ : ∃ x, u.2 = x := ⟨_, rfl⟩
  rw [hQ1, hQ2] at T3
  rw [hu1, hu2] at T1 T2 ⊢
  have HY := Lib.hid (And.intro hQ1 hQ2)
  clear hQ1 hQ2 hu1 hu2
  have i1 : ¬ ((m : Int) < 1) := by omega
  have i2 : ¬ ((2000 : Int) < (m : Int)) := by omega
  have i3 : ¬ ((n : Int) < 2 * (m : Int)) := by omega
  have i4 : (m : Int) ≤ 2 * (m : Int) := by omega
  have i5 : 2 * (m : Int) ≤ (c : Int) := by omega
  have i6 : (m : Int) ≤ (c : Int) := by omega
  have i7 : (2 * (m : Int)).toNat = 2 * m := by omega
  have i8 : 2 * m - m = m := by omega
  have i10 : ¬ (c = m) := by omega
  have i9 : IntKind.i64.wrap (2 * (m : Int)) = 2 * (m : Int) := IntWalk.i64_in _ (by omega)
  go_enter Try.func49, Try.ntmps49
  go_wp2_with fail
  refine wp_region_rx (by kernel_rfl) (by kernel_rfl) ?_; apply Exists.intro
  repeat (first | (apply wpR_val; intro K hK; go_simp; refine ⟨rfl, hK _ ?_⟩; clear hK K) | (apply wpR_skip; intro K hK; go_simp; refine hK _ ?_; clear hK K))
  apply wpR_val (v := .complex .f64 N1 N2); intro K hK; go_simp; refine ⟨fun j => rcall0 (T1.out j _), hK _ ?_⟩; clear hK K
  repeat (first | (apply wpR_val; intro K hK; go_simp; refine ⟨rfl, hK _ ?_⟩; clear hK K) | (apply wpR_skip; intro K hK; go_simp; refine hK _ ?_; clear hK K))
  apply wpR_val (v := .complex .f64 D1 D2); intro K hK; go_simp; refine ⟨fun j => rcall0 (T2.out j _), hK _ ?_⟩; clear hK K
  repeat (first | (apply wpR_val; intro K hK; go_simp; refine ⟨rfl, hK _ ?_⟩; clear hK K) | (apply wpR_skip; intro K hK; go_simp; refine hK _ ?_; clear hK K))
  apply wpR_val (v := .tuple #[.complex .f64 Q1 Q2, .bool true]); intro K hK; go_simp; refine ⟨fun j => rcall0 (T3.out _), hK _ ?_⟩; clear hK K
  repeat (first | (apply wpR_val; intro K hK; go_simp; refine ⟨rfl, hK _ ?_⟩; clear hK K) | (apply wpR_skip; intro K hK; go_simp; refine hK _ ?_; clear hK K))
  apply wpR_nil (Rs := []); rintro _ ⟨nq, rfl⟩
  go_wp2_with fail
  go_ret2
  unfold FitFPost
  rw [HY.out.1, HY.out.2]
  exact ⟨rfl, _, rfl⟩
end Go.Proofs.Ytignncjmbcdpaaa

/-
impl.PowerDouble at small exponents; impl.NearDouble.
-/
namespace Go.Proofs.Ytignncjmbcdpaaa
open Go Go.RowKit Ieee

/-- How many digits. -/
def lenB (n : Nat) : Nat := if n < 2 then 1 else if n < 4 then 2 else if n < 8 then 3 else if n < 16 then 4 else 5
theorem lenB_ok {n : Nat} (h1 : 1 ≤ n) (h : n ≤ 20) : n < 2 ^ lenB n ∧ lenB n ≤ 5 ∧ 1 ≤ lenB n := by
  unfold lenB
  split
  · exact ⟨by omega, by omega, by omega⟩
  · split
    · exact ⟨by omega, by omega, by omega⟩
    · split
      · exact ⟨by omega, by omega, by omega⟩
      · split
        · exact ⟨by omega, by omega, by omega⟩
        · exact ⟨by omega, by omega, by omega⟩
set_option maxRecDepth 100000 in
set_option maxHeartbeats 1000000 in
theorem bitsLen_any (n : Nat) (w : World) (h1 : 1 ≤ n) (h : n ≤ 20) : Calls Try.prog 99 #[.int .u64 n] w fun e w' => e = .returned (.int .i64 (lenB n)) ∧ w = w' := by
  rcases (by omega : n = 1 ∨ n = 2 ∨ n = 3 ∨ n = 4 ∨ n = 5 ∨ n = 6 ∨ n = 7 ∨ n = 8 ∨ n = 9 ∨ n = 10 ∨ n = 11 ∨ n = 12 ∨ n = 13 ∨ n = 14 ∨ n = 15 ∨ n = 16 ∨ n = 17 ∨ n = 18 ∨ n = 19 ∨ n = 20) with rfl | rfl | rfl | rfl | rfl | rfl | rfl | rfl | rfl | rfl | rfl | rfl | rfl | rfl | rfl | rfl | rfl | rfl | rfl | rfl
  all_goals
    go_enter Try.func99, Try.ntmps99
    go_wp2_with fail
    go_enter Try.func145, Try.ntmps145
    go_wp2_with fail
    go_ret
    exact ⟨by kernel_rfl, rfl⟩
theorem and_1 (x : Nat) (h : x < 100) : bits .and .i64 (x : Int) 1 = ((x % 2 : Nat) : Int) := by
  have e : (BitVec.ofInt 64 (x : Int) &&& BitVec.ofInt 64 1).toNat = x % 2 := by
    rw [BitVec.toNat_and]
    have e1 : (BitVec.ofInt 64 1).toNat = 2 ^ 1 - 1 := by decide
    rw [e1, Nat.and_two_pow_sub_one_eq_mod]
    have e2 : (BitVec.ofInt 64 (x : Int)).toNat = x := by
      rw [BitVec.toNat_ofInt]; omega
    rw [e2]
  have e' : bits .and .i64 (x : Int) 1 = IntKind.i64.wrap ((BitVec.ofInt 64 (x : Int) &&& BitVec.ofInt 64 1).toNat : Int) := rfl
  rw [e', e, IntKind.wrap_i64]
  omega
def PowPost (p : Nat × Nat) (n : Nat) (w : World) (e : Ending) (w' : World) : Prop :=
  e = .returned (.tuple #[.complex .f64 (powW p n (lenB n) (lenB n)).1 (powW p n (lenB n) (lenB n)).2, .bool true]) ∧ ∃ j, w.drewN j = w'
set_option maxRecDepth 100000 in
set_option maxHeartbeats 1000000 in
theorem powerD_any (p a : Nat × Nat) (n : Nat) (w : World) (hi : RIn p a) (h1 : 1 ≤ n) (hn : n ≤ 20) :
    Calls Try.prog 50 #[.complex .f64 p.1 p.2, .int .i64 n] w (PowPost p n w) := by
  obtain ⟨l1, l2, l3⟩ := lenB_ok h1 hn
  have HP := Lib.hid (fun j (hj : j < lenB n) => (pow_all hi n (lenB n) l1 l2 hn j (by omega)).2 hj)
  have TL := Lib.hid (fun W => bitsLen_any n W h1 hn)
  have h0 : powW p n (lenB n) 0 = oneC := rfl
  have H0 := Lib.hid h0
  unfold PowPost
  clear hi h0
  obtain ⟨L, hL⟩ : ∃ L, lenB n = L := ⟨_, rfl⟩
  rw [hL] at HP TL H0 l2 l3 ⊢
  clear hL l1
  go_enter Try.func50, Try.ntmps50
  go_wp2_with fail
  refine (TL.out _).mono ?_
  rintro e w' ⟨rfl, rfl⟩
  go_wp2_with fail
  go_loopw [6, 7] (fun v i wr => ∃ j n' : Nat, j ≤ L ∧ i = .int .i64 ((L : Int) - 1 - (j : Int)) ∧ v = .complex .f64 (powW p n L j).1 (powW p n L j).2 ∧ wr = w.drewN n') (fun _ i _ => (intOf i + 1).toNat)
  case atStart => exact ⟨0, 0, by omega, by go_num, by rw [H0.out]; rfl, (World.drewN_zero _).symm⟩
  case round =>
    obtain ⟨j, n', hj, rfl, rfl, rfl⟩ := hrel
    by_cases hlt : j < L
    · obtain ⟨k, hk⟩ : ∃ k : Nat, L - 1 - j = k := ⟨_, rfl⟩
      have hkI : (L : Int) - 1 - (j : Int) = (k : Int) := by omega
      obtain ⟨f1, f2⟩ := HP.out j hlt
      rw [hk] at f2
      have hpw : powW p n L (j + 1) = if n / 2 ^ k % 2 = 1 then prodC (prodC (powW p n L j) (powW p n L j)) p else prodC (powW p n L j) (powW p n L j) := by rw [← hk]; rfl
      have T1 : Hid (∀ W, Calls Try.prog 79 #[.complex .f64 (powW p n L j).1 (powW p n L j).2, .complex .f64 (powW p n L j).1 (powW p n L j).2] W fun e w' => e = .returned (.complex .f64 (prodC (powW p n L j) (powW p n L j)).1 (prodC (powW p n L j) (powW p n L j)).2) ∧ ∃ n, W.drewN n = w') := fun W =>
        (implTimes_fin _ _ _ _ W f1.1 f1.2).mono fun e w' ⟨n, he, hw⟩ => ⟨he, n, hw⟩
      have hand : bits .and .i64 ((n : Int) / 2 ^ k) 1 = ((n / 2 ^ k % 2 : Nat) : Int) := by
        have := and_1 (n / 2 ^ k) (by have := Nat.div_le_self n (2 ^ k); omega)
        rw [← this]; congr 1
      have hk64 : (k : Int) ≤ 64 := by omega
      have HKI := Lib.hid hkI
      rcases Nat.mod_two_eq_zero_or_one (n / 2 ^ k) with hb | hb
      · rw [hb, if_neg (by omega)] at hpw
        rw [hb] at hand
        have HPW := Lib.hid hpw
        obtain ⟨x1, hx1⟩ : ∃ x, (powW p n L j).1 = x := ⟨_, rfl⟩
        obtain ⟨x2, hx2⟩ : ∃ x, (powW p n L j).2 = x := ⟨_, rfl⟩
        obtain ⟨y1, hy1⟩ : ∃ x, (prodC (powW p n L j) (powW p n L j)).1 = x := ⟨_, rfl⟩
        obtain ⟨y2, hy2⟩ : ∃ x, (prodC (powW p n L j) (powW p n L j)).2 = x := ⟨_, rfl⟩
        rw [hx1, hx2, hy1, hy2] at T1
        rw [hx1, hx2, hkI]
        have HY := Lib.hid (And.intro hy1 hy2)
        clear hx1 hx2 hy1 hy2 hkI hk f1 f2 hpw
        go_wp2_with fail
        refine (T1.out _).mono ?_
        rintro e w' ⟨rfl, m1, rfl⟩
        go_wp2_with fail
        go_roundw
        case rel => exact ⟨j + 1, _, by omega, by have := HKI.out; go_num, by rw [HPW.out, HY.out.1, HY.out.2], rfl⟩
        case measure => have := HKI.out; simp [intOf]
      · rw [hb, if_pos rfl] at hpw
        rw [hb] at hand
        have f3 := f2 hb
        have T2 : Hid (∀ W, Calls Try.prog 79 #[.complex .f64 (prodC (powW p n L j) (powW p n L j)).1 (prodC (powW p n L j) (powW p n L j)).2, .complex .f64 p.1 p.2] W fun e w' => e = .returned (.complex .f64 (prodC (prodC (powW p n L j) (powW p n L j)) p).1 (prodC (prodC (powW p n L j) (powW p n L j)) p).2) ∧ ∃ n, W.drewN n = w') := fun W =>
          (implTimes_fin _ _ _ _ W f3.1 f3.2).mono fun e w' ⟨n, he, hw⟩ => ⟨he, n, hw⟩
        have HPW := Lib.hid hpw
        obtain ⟨x1, hx1⟩ : ∃ x, (powW p n L j).1 = x := ⟨_, rfl⟩
        obtain ⟨x2, hx2⟩ : ∃ x, (powW p n L j).2 = x := ⟨_, rfl⟩
        obtain ⟨y1, hy1⟩ : ∃ x, (prodC (powW p n L j) (powW p n L j)).1 = x := ⟨_, rfl⟩
        obtain ⟨y2, hy2⟩ : ∃ x, (prodC (powW p n L j) (powW p n L j)).2 = x := ⟨_, rfl⟩
        obtain ⟨z1, hz1⟩ : ∃ x, (prodC (prodC (powW p n L j) (powW p n L j)) p).1 = x := ⟨_, rfl⟩
        obtain ⟨z2, hz2⟩ : ∃ x, (prodC (prodC (powW p n L j) (powW p n L j)) p).2 = x := ⟨_, rfl⟩
        rw [hx1, hx2, hy1, hy2] at T1
        rw [hy1, hy2, hz1, hz2] at T2
        rw [hx1, hx2, hkI]
        have HY := Lib.hid (And.intro hz1 hz2)
        clear hx1 hx2 hy1 hy2 hz1 hz2 hkI hk f1 f2 f3 hpw
        go_wp2_with fail
        refine (T1.out _).mono ?_
        rintro e w' ⟨rfl, m1, rfl⟩
        go_wp2_with fail
        refine (T2.out _).mono ?_
        rintro e w' ⟨rfl, m2, rfl⟩
        go_wp2_with fail
        go_roundw
        case rel => exact ⟨j + 1, _, by omega, by have := HKI.out; go_num, by rw [HPW.out, HY.out.1, HY.out.2], rfl⟩
        case measure => have := HKI.out; simp [intOf]
    · obtain rfl : j = L := by omega
      have hneg : (j : Int) - 1 - (j : Int) = -1 := by omega
      rw [hneg]
      go_wp2_with fail
      go_ret2
      exact ⟨rfl, _, rfl⟩

set_option maxHeartbeats 400000 in
theorem nearD_any (a b c d t : Nat) (w : World) : Calls Try.prog 51 #[.complex .f64 a b, .complex .f64 c d, .float .f64 t] w fun e w' =>
    ∃ p q r n, e = .returned (.bool (fle .f64 r t)) ∧ nrm .f64 p = nrm .f64 (fo .sub .f64 a c) ∧ nrm .f64 q = nrm .f64 (fo .sub .f64 b d) ∧ nrm .f64 r = fo .add .f64 (abs64 p) (abs64 q) ∧ w.drewN n = w' := by
  go_enter Try.func51, Try.ntmps51
  go_wp2_with fail
  refine (implSubD_any a b c d _).mono ?_
  rintro e w' ⟨p, q, m1, rfl, hp, hq, wp, wq, rfl⟩
  have HP := Lib.hid (And.intro hp hq)
  clear hp hq
  go_wp2_with fail
  refine (implSize_any p q _ wp wq).mono ?_
  rintro e w' ⟨r, m2, rfl, hr, wr, rfl⟩
  have HR := Lib.hid hr
  clear hr
  go_wp2_with fail
  go_ret
  exact ⟨p, q, r, _, rfl, HP.out.1, HP.out.2, HR.out, rfl⟩
end Go.Proofs.Ytignncjmbcdpaaa

/-
spec.MakePole: a pole whose size is 1/4 at least, and which is not greater than 1.
-/
namespace Go.Proofs.Ytignncjmbcdpaaa
open Go Go.RowKit Ieee

theorem w1024 : fin .f64 4652218415073722368 ∧ fv .f64 4652218415073722368 = pw ((10 : Nat) : Int) := by
  obtain ⟨h1, h2⟩ := pow_val 4652218415073722368 4503599627370496 (-42) 1024 (by decide +kernel) (by unfold pw; grind)
  exact ⟨h1, by rw [h2]; unfold pw; grind⟩
theorem wQuarter : fin .f64 4598175219545276416 ∧ fv .f64 4598175219545276416 = 1 / 4 := pow_val _ 4503599627370496 (-54) _ (by decide +kernel) (by unfold pw; grind)
/-- What is known of a pole. -/
structure PoleIn (x y : Nat) : Prop where
  f : finC (x, y)
  wx : wfk .f64 x
  wy : wfk .f64 y
  lo : 1 / 2 ^ 5 ≤ nn (vC (x, y))
  hi : nn (vC (x, y)) ≤ 1 + 1 / 2 ^ 40
theorem pole_const {x y : Nat} {s t : Bool} {m k : Nat} {e f : Int} (h : double.read x = .number s m e) (g : double.read y = .number t k f) (wx : wfk .f64 x) (wy : wfk .f64 y)
    (lo : 1 / 2 ^ 5 ≤ mval m e * mval m e + mval k f * mval k f) (hi : mval m e * mval m e + mval k f * mval k f ≤ 1 + 1 / 2 ^ 40) : PoleIn x y := by
  obtain ⟨a1, a2⟩ := fin_of_read (k := .f64) h
  obtain ⟨b1, b2⟩ := fin_of_read (k := .f64) g
  have e1 : nn (vC (x, y)) = mval m e * mval m e + mval k f * mval k f := by
    show fv .f64 x * fv .f64 x + fv .f64 y * fv .f64 y = _
    rw [a2, b2, dval_num, dval_num]
    cases s <;> cases t <;> simp <;> grind
  exact ⟨⟨a1, b1⟩, wx, wy, by rw [e1]; exact lo, by rw [e1]; exact hi⟩
theorem pole_a : PoleIn 4603579539098121011 13828753015803845018 :=
  pole_const (s := false) (m := 5404319552844595) (e := -53) (t := true) (k := 7205759403792794) (f := -53) (by decide +kernel) (by decide +kernel) (by rw [wfk_64]; omega) (by rw [wfk_64]; omega)
    (by unfold mval pw; grind) (by unfold mval pw; grind)
theorem pole_b : PoleIn 13822087688355336684 4606822130829827768 :=
  pole_const (s := true) (m := 5044031582654956) (e := -54) (t := false) (k := 8646911284551352) (f := -53) (by decide +kernel) (by decide +kernel) (by rw [wfk_64]; omega) (by rw [wfk_64]; omega)
    (by unfold mval pw; grind) (by unfold mval pw; grind)
theorem Ex.abs {x : Nat} {n : Int} {e B : Nat} (h : Ex x n e B) : Ex (absB x) (n.natAbs : Int) e B := by
  obtain ⟨a1, a2⟩ := absB_fin h.f
  refine ⟨a1, ?_, by simpa using h.b⟩
  rw [a2, h.v, ab_mul, ab_of_nonneg (Rat.le_of_lt (pw_pos _))]
  congr 1
  rcases (by omega : (0 ≤ n) ∨ n < 0) with h0 | h0
  · rw [ab_of_nonneg (by exact_mod_cast h0)]; congr 1; omega
  · have hn0 : (n : Rat) < 0 := by exact_mod_cast h0
    rw [← ab_neg, ab_of_nonneg (by grind)]
    have e1 : ((n.natAbs : Int)) = -n := by omega
    rw [e1, Rat.intCast_neg]
/-- The numbers that are drawn. -/
theorem pole_of {x y r : Nat} {n m : Int} (hx : Ex x n 10 724) (hy : Ex y m 10 724) (wx : wfk .f64 x) (wy : wfk .f64 y) (hr : nrm .f64 r = fo .add .f64 (absB x) (absB y)) (ht : flt .f64 r 4598175219545276416 = false) : PoleIn x y := by
  have s := hx.abs.add hy.abs (by omega) (by omega)
  obtain rfl : r = fo .add .f64 (absB x) (absB y) := nrm_fin_eq hr s.f
  obtain ⟨q1, q2⟩ := wQuarter
  have h1 : 1 / 4 ≤ fv .f64 (fo .add .f64 (absB x) (absB y)) := by
    rcases rat_lt_or_le (fv .f64 (fo .add .f64 (absB x) (absB y))) (1 / 4) with h | h
    · have := (flt_iff s.f q1).2 (by rw [q2]; exact h)
      rw [ht] at this; cases this
    · exact h
  have e10 : pw (-((10 : Nat) : Int)) = 1 / 2 ^ 10 := by unfold pw; grind
  rw [s.v, e10] at h1
  have hn := hx.b
  have hm := hy.b
  have v1 := hx.v
  have v2 := hy.v
  rw [e10] at v1 v2
  have hs : (256 : Int) ≤ (n.natAbs : Int) + (m.natAbs : Int) := by
    have e256 : ((256 : Int) : Rat) = 256 := rfl
    have : ((256 : Int) : Rat) ≤ (((n.natAbs : Int) + (m.natAbs : Int) : Int) : Rat) := by rw [e256]; grind
    exact Rat.intCast_le_intCast.1 this
  have i1 : (n.natAbs * n.natAbs : Int) = n * n := by
    rcases (by omega : (n.natAbs : Int) = n ∨ (n.natAbs : Int) = -n) with h | h <;> rw [h] <;> grind
  have i2 : (m.natAbs * m.natAbs : Int) = m * m := by
    rcases (by omega : (m.natAbs : Int) = m ∨ (m.natAbs : Int) = -m) with h | h <;> rw [h] <;> grind
  have up1 : (n.natAbs * n.natAbs : Nat) ≤ 724 * 724 := Nat.mul_le_mul hn hn
  have up2 : (m.natAbs * m.natAbs : Nat) ≤ 724 * 724 := Nat.mul_le_mul hm hm
  have q : (0 : Int) ≤ ((n.natAbs : Int) - m.natAbs) * ((n.natAbs : Int) - m.natAbs) := int_sq _
  have lowI : (32768 : Int) ≤ n * n + m * m := by
    rw [← i1, ← i2]
    have := Int.mul_le_mul hs hs (by omega) (by omega)
    grind
  have hiI : n * n + m * m ≤ (1048576 : Int) := by
    rw [← i1, ← i2]
    omega
  have en : nn (vC (x, y)) = ((n * n + m * m : Int) : Rat) / 2 ^ 20 := by
    show fv .f64 x * fv .f64 x + fv .f64 y * fv .f64 y = _
    rw [v1, v2, Rat.intCast_add, Rat.intCast_mul, Rat.intCast_mul]
    grind
  have lowR : ((32768 : Int) : Rat) ≤ ((n * n + m * m : Int) : Rat) := Rat.intCast_le_intCast.2 lowI
  have hiR : ((n * n + m * m : Int) : Rat) ≤ ((1048576 : Int) : Rat) := Rat.intCast_le_intCast.2 hiI
  have c1 : ((32768 : Int) : Rat) = 32768 := rfl
  have c2 : ((1048576 : Int) : Rat) = 1048576 := rfl
  rw [c1] at lowR
  rw [c2] at hiR
  exact ⟨⟨hx.f, hy.f⟩, wx, wy, by rw [en]; grind, by rw [en]; grind⟩

set_option maxHeartbeats 400000 in
theorem makePole_any (A : Option Addr) (cp : Nat) (bs : List Int) (w : World) (hr : Rd w A (bs.map (.int .u8))) (hm : bs.length ≤ 1048576) :
    Calls Try.prog 44 #[.slice A bs.length cp] w fun e w' => ∃ (x y : Nat), e = .returned (.complex .f64 x y) ∧ PoleIn x y ∧ Below w.heap.size w w' := by
  go_enter Try.func44, Try.ntmps44
  go_wp2_with fail
  refine (new_any A cp bs _ hr hm).mono ?_
  rintro e w1 ⟨g, rfl, hg, hcur, hb1⟩
  go_wp2_with fail
  refine (below_any g 1449 _ hcur (by omega) (by omega)).mono ?_
  rintro e w2 ⟨i, rfl, ⟨hi0, hi1⟩, hs1⟩
  have X := Lib.hid ((Ex.int (i - 724) 724 (by omega) (by omega)).quo w1024.1 w1024.2 (by omega) (by omega))
  have hx := fun w => rnd_eq X.out.f w
  go_wp2_with fail
  refine (below_any g 1449 _ (hs1.drewN _).1 (by omega) (by omega)).mono ?_
  rintro e w3 ⟨j, rfl, ⟨hj0, hj1⟩, hs2⟩
  have Y := Lib.hid ((Ex.int (j - 724) 724 (by omega) (by omega)).quo w1024.1 w1024.2 (by omega) (by omega))
  have hy := fun w => rnd_eq Y.out.f w
  have HB : Hid (Below w.heap.size w w3) := hb1.trans ((below_of_step (B := w.heap.size) ((hs1.drewN _).trans hs2) (by omega) hb1.size))
  have Wx : Hid (wfk .f64 (fo .quo .f64 (floatOfInt .f64 (i - 724)) 4652218415073722368)) := fo_lt _ _ _ _
  have Wy : Hid (wfk .f64 (fo .quo .f64 (floatOfInt .f64 (j - 724)) 4652218415073722368)) := fo_lt _ _ _ _
  clear hb1 hs1 hs2 hcur
  generalize fo .quo .f64 (floatOfInt .f64 (i - 724)) 4652218415073722368 = x at *
  generalize fo .quo .f64 (floatOfInt .f64 (j - 724)) 4652218415073722368 = y at *
  go_wp2_with fail
  refine (specSize_any x y _).mono ?_
  rintro e w' ⟨r, n1, rfl, hr1, wr1, rfl⟩
  have Hr1 := Lib.hid hr1
  clear hr1
  cases t1 : flt .f64 r 4598175219545276416
  · have HP := Lib.hid (pole_of X.out Y.out Wx.out Wy.out Hr1.out t1)
    go_wp2_with fail
    go_ret
    exact ⟨x, y, rfl, HP.out, below_drewN HB.out _⟩
  · go_wp2_with fail
    go_ret
    exact ⟨_, _, rfl, pole_a, below_drewN HB.out _⟩
end Go.Proofs.Ytignncjmbcdpaaa

/-
laws.power of a negative number, to the bit.
-/
namespace Go.Proofs.Ytignncjmbcdpaaa
open Go Go.RowKit

set_option maxHeartbeats 400000 in
theorem power_neg_w (n : Int) (P : Nat) (w : World) (h0 : n < 0) (h1 : -500 ≤ n) (hP : fin .f64 P) (hPw : wfk .f64 P) (hv : fv .f64 P = pw n) : Calls Try.prog 19 #[.int .i64 n] w fun e w' => e = .returned (.float .f64 P) ∧ ∃ j, w.drewN j = w' := by
  have HP := Lib.hid (And.intro hP (And.intro hPw hv))
  clear hP hPw hv
  go_enter Try.func19, Try.ntmps19
  go_wp2_with fail
  go_loopw [0, 3] (fun m x wr => m = .int .i64 n ∧ x = .float .f64 4607182418800017408 ∧ wr = w) (fun _ _ _ => 0)
  case atStart => exact ⟨rfl, rfl, rfl⟩
  case round =>
    obtain ⟨rfl, rfl, rfl⟩ := hrel
    have hn : decide (0 < n) = false := by simp; omega
    go_wp2_with fail
    go_loopw [0, 3] (fun m x w2 => ∃ (j : Int) (r k : Nat), m = .int .i64 j ∧ n ≤ j ∧ j ≤ 0 ∧ x = .float .f64 r ∧ fin .f64 r ∧ wfk .f64 r ∧ fv .f64 r = pw (n - j) ∧ w2 = wr.drewN k) (fun m _ _ => (-intOf m).toNat)
    case atStart => exact ⟨n, _, 0, rfl, by omega, by omega, rfl, one_fin.1, by rw [wfk_64]; omega, by rw [one_fin.2]; simp [pw], rfl⟩
    case round =>
      obtain ⟨j, r, k, rfl, h2, h3, rfl, hr, hw, hv, rfl⟩ := hrel
      have Hst := Lib.hid (fun w => half_step hr hv (by omega) (by omega) w)
      have Hr := Lib.hid (And.intro hr (And.intro hw hv))
      clear hr hv hw
      by_cases hj : j < 0
      · go_wp2
        go_roundw
        case rel => exact ⟨j + 1, _, _, by go_num, by omega, by omega, rfl, (Hst.out _).1, fR_lt _ _ _ _ _, by rw [(Hst.out _).2]; congr 1; omega, rfl⟩
        case measure => simp [intOf]; omega
      · obtain rfl : j = 0 := by omega
        have e : r = P := word_eq Hr.out.1 HP.out.1 Hr.out.2.1 HP.out.2.1 (by rw [Hr.out.2.2, HP.out.2.2, Int.sub_zero]) (by rw [Hr.out.2.2]; have := pw_pos (n - 0); grind)
        subst e
        go_wp2
        go_ret
        exact ⟨rfl, k, rfl⟩
theorem p20_word : fin .f64 4517110426252607488 ∧ wfk .f64 4517110426252607488 ∧ fv .f64 4517110426252607488 = pw (-20) := by
  have h : FloatKind.f64.format.read 4517110426252607488 = .number false 4503599627370496 (-72) := by decide +kernel
  obtain ⟨a, b⟩ := fin_of_read h
  refine ⟨a, by rw [wfk_64]; omega, ?_⟩
  rw [b, dval_num]
  have e : mval 4503599627370496 (-72) = pw (-20) := by unfold mval pw; grind
  rw [e]; simp
theorem p100_word : fin .f64 4156822456062967808 ∧ wfk .f64 4156822456062967808 ∧ fv .f64 4156822456062967808 = pw (-100) := by
  have h : FloatKind.f64.format.read 4156822456062967808 = .number false 4503599627370496 (-152) := by decide +kernel
  obtain ⟨a, b⟩ := fin_of_read h
  refine ⟨a, by rw [wfk_64]; omega, ?_⟩
  rw [b, dval_num]
  have e : mval 4503599627370496 (-152) = pw (-100) := by unfold mval pw; grind
  rw [e]; simp
end Go.Proofs.Ytignncjmbcdpaaa

/-
laws.fresh.
-/
namespace Go.Proofs.Ytignncjmbcdpaaa
open Go Go.RowKit Ieee

theorem u8_info : (Try.prog.info? 5).map (fun i => (i.zero, i.size, i.bytes)) = some (some (.int .u8 0), 1, 1) := by kernel_rfl
theorem owns_one (w : World) (e : TypeId) (v : Value) : (w.alloc (.cells #[v] e)).ownsRow w.heap.size e 1 (.slice (some ⟨w.heap.size, 0, none⟩) 1 1) 1 [v] :=
  ⟨rfl, .inr ⟨w.heap.size, 1, #[v], rfl, Nat.le_refl _, heap_alloc_new w _, Nat.le_refl _, by simp [maxLen], rfl, rfl⟩⟩

set_option maxRecDepth 100000 in
set_option maxHeartbeats 600000 in
theorem fresh_any (A : Option Addr) (cp : Nat) (bs : List Int) (salt : Int) (w : World) (hr : Rd w A (bs.map (.int .u8))) (hm : bs.length ≤ 1048576) (hb : ∀ i, i < bs.length → 0 ≤ bs.getD i 0 ∧ bs.getD i 0 ≤ 255) (hs : salt = 3 ∨ salt = 5 ∨ salt = 7) :
    Calls Try.prog 21 #[.slice A bs.length cp, .int .i64 salt] w fun e w' => ∃ (A' : Option Addr) (c' : Nat) (ys : List Int), e = .returned (.slice A' ys.length c') ∧ Rd w' A' (ys.map (.int .u8)) ∧ ys.length ≤ 601 ∧ Below w.heap.size w w' := by
  rcases hs with rfl | rfl | rfl
  all_goals
    go_enter Try.func21, Try.ntmps21
    go_wp2_with fail
    go_loopw [5, 6] (fun v i wr => ∃ (k : Nat) (ys : List Int), i = .int .i64 (k : Int) ∧ k ≤ bs.length ∧ k ≤ 600 ∧ wr.ownsRow w.heap.size 5 1 v (k + 1) (ys.map (.int .u8)) ∧ Below w.heap.size w wr) (fun _ i _ => bs.length - (intOf i).toNat)
    case atStart => exact ⟨0, [_], rfl, by omega, by omega, owns_one w _ _, (Below.refl w.heap.size w).alloc (Nat.le_refl _) _⟩
    case round =>
      obtain ⟨k, ys, rfl, hk, hk6, hown, hbel⟩ := hrel
      by_cases hlt : k < bs.length
      · by_cases h6 : k < 600
        · obtain ⟨b, off, rfl, hbk, hc⟩ := (hr.below hbel) (by simp; omega)
          have e1 := hc k (.int .u8 (bs.getD k 0)) (by simp [List.getD, List.getElem?_eq_getElem hlt])
          have hx := hb k hlt
          have hsz := hbel.size
          generalize bs.getD k 0 = x at *
          clear hc
          go_wp2_with (at_builtin; refine wpList_app1 rfl (.tmp 20) (.tmp 34) 22 rfl w.heap.size 5 (.int .u8 0) 1 Try.underlying22 u8_info rfl u5 (k + 1) (ys.map (.int .u8)) _ rfl rfl rfl hown hsz (by omega) (by omega) ?_; intro v' w' hown' hbel')
          go_roundw
          case rel => exact ⟨k + 1, ys ++ [_], by go_num, by omega, by omega, by rw [List.map_append]; exact hown', hbel.trans hbel'⟩
          case measure => simp [intOf]; omega
        · go_wp2_with fail
          go_ret
          obtain ⟨A', cap, hv, hl, hrd⟩ := own_rd hown
          have hl' : ys.length = k + 1 := by simpa using hl
          exact ⟨A', cap, ys, by rw [hl', ← hv]; rfl, hrd, by omega, hbel⟩
      · go_wp2_with fail
        go_ret
        obtain ⟨A', cap, hv, hl, hrd⟩ := own_rd hown
        have hl' : ys.length = k + 1 := by simpa using hl
        exact ⟨A', cap, ys, by rw [hl', ← hv]; rfl, hrd, by omega, hbel⟩
end Go.Proofs.Ytignncjmbcdpaaa

/-
Facts that stay while only new memory is made.
-/
namespace Go.Proofs.Ytignncjmbcdpaaa
open Go Go.RowKit

/-- A fact that holds of this world and of every world that has grown out of it, the blocks below 'L' as they were. -/
def Kp (L : Nat) (P : World → Prop) (W : World) : Prop := L ≤ W.heap.size ∧ ∀ W', Below L W W' → P W'
theorem Kp.here {L : Nat} {P : World → Prop} {W : World} (h : Kp L P W) : P W := h.2 W (Below.refl _ _)
theorem Kp.step {L B : Nat} {P : World → Prop} {W W' : World} (h : Kp L P W) (hb : Below B W W') (hB : L ≤ B) : Kp L P W' :=
  ⟨Nat.le_trans h.1 hb.size, fun W'' h2 => h.2 W'' ((hb.mono hB).trans h2)⟩
theorem Kp.next {L : Nat} {P : World → Prop} {W W' : World} (h : Kp L P W) (hb : Below W.heap.size W W') : Kp L P W' := h.step hb h.1
theorem Kp.raise {L L' : Nat} {P : World → Prop} {W : World} (h : Kp L P W) (h1 : L ≤ L') (h2 : L' ≤ W.heap.size) : Kp L' P W := ⟨h2, fun W' hb => h.2 W' (hb.mono h1)⟩
theorem Kp.top {L : Nat} {P : World → Prop} {W : World} (h : Kp L P W) : Kp W.heap.size P W := h.raise h.1 (Nat.le_refl _)
theorem Kp.alloc {L : Nat} {P : World → Prop} {W : World} (h : Kp L P W) (o : Obj) : Kp L P (W.alloc o) := h.next ((Below.refl W.heap.size W).alloc (Nat.le_refl _) o)
theorem Kp.drewN {L : Nat} {P : World → Prop} {W : World} (h : Kp L P W) (n : Nat) : Kp L P (W.drewN n) := h.next (below_drewN (Below.refl _ _) n)
theorem Kp.and {L M : Nat} {P Q : World → Prop} {W : World} (h : Kp L P W) (k : Kp M Q W) : Kp W.heap.size (fun W => P W ∧ Q W) W := ⟨Nat.le_refl _, fun W' hb => ⟨h.2 W' (hb.mono h.1), k.2 W' (hb.mono k.1)⟩⟩
theorem Kp.imp {L : Nat} {P Q : World → Prop} {W : World} (h : Kp L P W) (k : ∀ W, P W → Q W) : Kp L Q W := ⟨h.1, fun W' hb => k W' (h.2 W' hb)⟩
theorem kp_ownM {W : World} {lo hi c : Nat} {A : Option Addr} {ms : List MW} (h : OwnM W lo hi A c ms) (hh : hi ≤ W.heap.size) : Kp hi (fun W => OwnM W lo hi A c ms) W := ⟨hh, fun _ hb => h.below hb (Nat.le_refl _)⟩
theorem kp_ownD {W : World} {lo hi c : Nat} {A : Option Addr} {ms : List DW} (h : OwnD W lo hi A c ms) (hh : hi ≤ W.heap.size) : Kp hi (fun W => OwnD W lo hi A c ms) W := ⟨hh, fun _ hb => h.below hb (Nat.le_refl _)⟩
theorem kp_block {W : World} {g : Nat} {o : Obj} (h : W.heap[g]? = some o) : Kp (g + 1) (fun W => W.heap[g]? = some o) W := ⟨lt_of_some h, fun _ hb => (hb.block g (Nat.lt_succ_self g)).trans h⟩
theorem kp_rd {W : World} {A : Option Addr} {xs : List Value} (h : Rd W A xs) : Kp W.heap.size (fun W => Rd W A xs) W := ⟨Nat.le_refl _, fun _ hb => h.below hb⟩
theorem kp_below {w W : World} {L : Nat} (h : Below L w W) (hl : L ≤ W.heap.size) : Kp L (fun W => Below L w W) W := ⟨hl, fun _ hb => h.trans hb⟩
theorem kp_new (W : World) (o : Obj) : Kp (W.heap.size + 1) (fun V => V.heap[W.heap.size]? = some o) (W.alloc o) := kp_block (heap_alloc_new W o)
theorem cell_one {W : World} {g : Nat} {v : Value} {t : TypeId} (h : W.heap[g]? = some (.cells #[v] t (0, 0))) : W.cell? ⟨g, 0, none⟩ = some v := cell_of_row W g 0 _ _ (0, 0) h
end Go.Proofs.Ytignncjmbcdpaaa

/-
The law FnFitted returns true for all codes. No condition.
-/
namespace Go.Proofs.Ytignncjmbcdpaaa.lawFitted
open Go Go.RowKit Go.ChangeShapes Go.WideShapes Ieee

/-- Two small parts: their sum is not greater than the bound. -/
theorem tiny_sum {d1 d2 A1 A2 r P : Nat} {β : Rat} (f1 : fin .f64 A1) (f2 : fin .f64 A2) (v1 : fv .f64 A1 = ab (fv .f64 d1)) (v2 : fv .f64 A2 = ab (fv .f64 d2)) (h1 : ab (fv .f64 d1) ≤ β * (7 / 16)) (h2 : ab (fv .f64 d2) ≤ β * (7 / 16))
    (hβ : 1 / 2 ^ 100 ≤ β) (hβ2 : β ≤ 1) (hr : nrm .f64 r = fo .add .f64 A1 A2) (hP : fin .f64 P) (pv : fv .f64 P = β) : fle .f64 r P = true := by
  obtain ⟨k1, k2, k3⟩ := consts64
  have ht := top210
  have n3 := ab_nonneg (fv .f64 d1)
  have n4 := ab_nonneg (fv .f64 d2)
  have hsz := size_spec n3 n4 (by grind) f1 f2 v1 v2
  obtain rfl : r = _ := nrm_fin_eq hr hsz.1
  refine (fle_iff hsz.1 hP).2 ?_
  have z2 := hsz.2.1
  rw [k1, ab_of_nonneg (x := ab (fv .f64 d1) + ab (fv .f64 d2)) (by grind)] at z2
  have z3 := le_ab (fv .f64 (fo .add .f64 A1 A2) - (ab (fv .f64 d1) + ab (fv .f64 d2)))
  rw [pv]
  grind
theorem diff_small {u x : Nat} {β : Rat} (fu : fin .f64 u) (fx : fin .f64 x) (h : ab (fv .f64 u - fv .f64 x) ≤ β * (13 / 32)) (hβ : 1 / 2 ^ 100 ≤ β) (hβ2 : β ≤ 1) : fin .f64 (fo .sub .f64 u x) ∧ ab (fv .f64 (fo .sub .f64 u x)) ≤ β * (7 / 16) := by
  obtain ⟨k1, k2, k3⟩ := consts64
  have ht := top210
  have hu := sub_spec fu fx (by grind)
  have e1 := hu.2.1
  rw [k1] at e1
  have t1 := ab_tri (fv .f64 (fo .sub .f64 u x)) (fv .f64 u - fv .f64 x)
  exact ⟨hu.1, by grind⟩
/-- laws.small at numbers that are near. -/
theorem small_yes {u v x y P : Nat} {β : Rat} (W : World) (fu : finC (u, v)) (fx : finC (x, y)) (h1 : ab (vRe (u, v) - vRe (x, y)) ≤ β * (13 / 32)) (h2 : ab (vIm (u, v) - vIm (x, y)) ≤ β * (13 / 32)) (hβ : 1 / 2 ^ 100 ≤ β) (hβ2 : β ≤ 1) (hP : fin .f64 P) (pv : fv .f64 P = β) :
    Calls Try.prog 24 #[.complex .f64 u v, .complex .f64 x y, .float .f64 P] W fun e w' => e = .returned (.bool true) ∧ ∃ j, W.drewN j = w' := by
  obtain ⟨a1, a2⟩ := diff_small fu.1 fx.1 h1 hβ hβ2
  obtain ⟨b1, b2⟩ := diff_small fu.2 fx.2 h2 hβ hβ2
  obtain ⟨c1, c2⟩ := absB_fin a1
  obtain ⟨d1, d2⟩ := absB_fin b1
  refine (small_any u v x y P W a1 b1).mono ?_
  rintro e w' ⟨r, n, rfl, hr, rfl⟩
  rw [tiny_sum c1 d1 c2 d2 a2 b2 hβ hβ2 hr hP pv]
  exact ⟨rfl, n, rfl⟩
theorem near_yes {u v x y P : Nat} {β : Rat} (W : World) (fu : finC (u, v)) (fx : finC (x, y)) (h1 : ab (vRe (u, v) - vRe (x, y)) ≤ β * (13 / 32)) (h2 : ab (vIm (u, v) - vIm (x, y)) ≤ β * (13 / 32)) (hβ : 1 / 2 ^ 100 ≤ β) (hβ2 : β ≤ 1) (hP : fin .f64 P) (pv : fv .f64 P = β) :
    Calls Try.prog 51 #[.complex .f64 u v, .complex .f64 x y, .float .f64 P] W fun e w' => e = .returned (.bool true) ∧ ∃ j, W.drewN j = w' := by
  obtain ⟨a1, a2⟩ := diff_small fu.1 fx.1 h1 hβ hβ2
  obtain ⟨b1, b2⟩ := diff_small fu.2 fx.2 h2 hβ hβ2
  obtain ⟨c1, c2⟩ := abs64_fin a1
  obtain ⟨d1, d2⟩ := abs64_fin b1
  refine (nearD_any u v x y P W).mono ?_
  rintro e w' ⟨p, q, r, n, rfl, hp, hq, hr, rfl⟩
  obtain rfl : p = fo .sub .f64 u x := nrm_fin_eq (by rw [hp, nrm_fin a1]) a1
  obtain rfl : q = fo .sub .f64 v y := nrm_fin_eq (by rw [hq, nrm_fin b1]) b1
  rw [tiny_sum c1 d1 c2 d2 a2 b2 hβ hβ2 hr hP pv]
  exact ⟨rfl, n, rfl⟩
theorem w40 : fin .f64 4427038433705197568 ∧ wfk .f64 4427038433705197568 ∧ fv .f64 4427038433705197568 = pw (-40) := by
  obtain ⟨h1, h2⟩ := pow_val 4427038433705197568 4503599627370496 (-92) (pw (-40)) (by decide +kernel) (by unfold pw; grind)
  exact ⟨h1, by rw [wfk_64]; omega, h2⟩
theorem w36 : fin .f64 4445052832214679552 ∧ wfk .f64 4445052832214679552 ∧ fv .f64 4445052832214679552 = pw (-36) := by
  obtain ⟨h1, h2⟩ := pow_val 4445052832214679552 4503599627370496 (-88) (pw (-36)) (by decide +kernel) (by unfold pw; grind)
  exact ⟨h1, by rw [wfk_64]; omega, h2⟩
/-- Where the spectra are taken. -/
def wsL : List (Nat × Nat) := [(4598175219545276416, 0), (13821547256400052224, 0), (0, 4598175219545276416), (4593671619917905920, 13817043656772681728)]
theorem pick4 {j : Nat} (hj : j < 4) : ∀ h, ([.complex .f64 4598175219545276416 0, .complex .f64 13821547256400052224 0, .complex .f64 0 4598175219545276416, .complex .f64 4593671619917905920 13817043656772681728] : List Value)[j]'h = .complex .f64 (wsL.getD j (0, 0)).1 (wsL.getD j (0, 0)).2 := by
  intro h
  match j, hj with
  | 0, _ => rfl
  | 1, _ => rfl
  | 2, _ => rfl
  | 3, _ => rfl
theorem ws_ok {j : Nat} (hj : j < 4) : WIn (wsL.getD j (0, 0)) := by
  have key : ∀ (x y m k : Nat) (s t : Bool) (e f : Int), double.read x = .number s m e → double.read y = .number t k f → mval m e * mval m e + mval k f * mval k f ≤ 1 / 16 → WIn (x, y) := fun x y m k s t e f h g hle => by
    obtain ⟨a1, a2⟩ := fin_of_read (k := .f64) h
    obtain ⟨b1, b2⟩ := fin_of_read (k := .f64) g
    refine ⟨⟨a1, b1⟩, by grind, ?_⟩
    show fv .f64 x * fv .f64 x + fv .f64 y * fv .f64 y ≤ _
    rw [a2, b2, dval_num, dval_num]
    cases s <;> cases t <;> simp <;> grind
  match j, hj with
  | 0, _ => exact key 4598175219545276416 0 4503599627370496 0 false false (-54) (-1074) (by decide +kernel) (by decide +kernel) (by rw [mval_zero]; unfold mval pw; grind)
  | 1, _ => exact key 13821547256400052224 0 4503599627370496 0 true false (-54) (-1074) (by decide +kernel) (by decide +kernel) (by rw [mval_zero]; unfold mval pw; grind)
  | 2, _ => exact key 0 4598175219545276416 0 4503599627370496 false false (-1074) (-54) (by decide +kernel) (by decide +kernel) (by rw [mval_zero]; unfold mval pw; grind)
  | 3, _ => exact key 4593671619917905920 13817043656772681728 4503599627370496 4503599627370496 false true (-55) (-55) (by decide +kernel) (by decide +kernel) (by unfold mval pw; grind)
/-- What is known of the pole and the start. -/
theorem rin_of {x y u v : Nat} {n m : Int} (hp : PoleIn x y) (h : CEx u v n m 4 64) (h0 : ¬(n = 0 ∧ m = 0)) : RIn (x, y) (u, v) ∧ FitIn (x, y) (u, v) ∧ 1 / 2 ^ 6 ≤ siz (u, v) := by
  have v1 := h.re.v
  have v2 := h.im.v
  have e4 : pw (-((4 : Nat) : Int)) = 1 / 2 ^ 4 := by unfold pw; grind
  rw [e4] at v1 v2
  have hn := h.re.b
  have hm := h.im.b
  have pos := norm_pos h0
  have i1 : (n.natAbs * n.natAbs : Int) = n * n := by
    rcases (by omega : (n.natAbs : Int) = n ∨ (n.natAbs : Int) = -n) with h | h <;> rw [h] <;> grind
  have i2 : (m.natAbs * m.natAbs : Int) = m * m := by
    rcases (by omega : (m.natAbs : Int) = m ∨ (m.natAbs : Int) = -m) with h | h <;> rw [h] <;> grind
  have up1 : (n.natAbs * n.natAbs : Nat) ≤ 64 * 64 := Nat.mul_le_mul hn hn
  have up2 : (m.natAbs * m.natAbs : Nat) ≤ 64 * 64 := Nat.mul_le_mul hm hm
  have hiI : n * n + m * m ≤ (8192 : Int) := by
    rw [← i1, ← i2]
    omega
  have lowI : (1 : Int) ≤ n * n + m * m := pos
  have en : nn (vC (u, v)) = ((n * n + m * m : Int) : Rat) / 2 ^ 8 := by
    show fv .f64 u * fv .f64 u + fv .f64 v * fv .f64 v = _
    rw [v1, v2, Rat.intCast_add, Rat.intCast_mul, Rat.intCast_mul]
    grind
  have lowR : ((1 : Int) : Rat) ≤ ((n * n + m * m : Int) : Rat) := Rat.intCast_le_intCast.2 lowI
  have hiR : ((n * n + m * m : Int) : Rat) ≤ ((8192 : Int) : Rat) := Rat.intCast_le_intCast.2 hiI
  have c1 : ((1 : Int) : Rat) = 1 := rfl
  have c2 : ((8192 : Int) : Rat) = 8192 := rfl
  rw [c1] at lowR
  rw [c2] at hiR
  have l1 := l1_sq (vRe (u, v)) (vIm (u, v))
  have es : nn (vC (u, v)) = vRe (u, v) * vRe (u, v) + vIm (u, v) * vIm (u, v) := rfl
  rw [← es, en] at l1
  have s0 := siz_nonneg (u, v)
  have e2 : ab (vRe (u, v)) + ab (vIm (u, v)) = siz (u, v) := rfl
  rw [e2] at l1
  refine ⟨⟨hp.f, ⟨h.re.f, h.im.f⟩, hp.lo, hp.hi, by rw [en]; grind, by rw [en]; grind⟩, ⟨hp.f, ⟨h.re.f, h.im.f⟩, B2.pole hp.hi, ?_⟩, ?_⟩
  · have := ab_le_of_sq (x := siz (u, v)) (y := 2 ^ 12) (by grind) (by grind)
    rwa [ab_of_nonneg s0] at this
  · have := ab_le_of_sq (x := 1 / 2 ^ 6) (y := siz (u, v)) s0 (by grind)
    rwa [ab_of_nonneg (by grind)] at this

theorem num1 : (13 / 4 / 2 ^ 44 : Rat) ≤ 1 / 2 ^ 40 * (13 / 32) := by grind
theorem num2 : (13 / 2 ^ 45 : Rat) ≤ 1 / 2 ^ 40 * (13 / 32) := by grind
theorem num3 : (1 / 2 ^ 37 / 2 : Rat) ≤ 1 / 2 ^ 36 * (13 / 32) := by grind
theorem num4 {a b c : Rat} (h : a ≤ b + c) (hb : b ≤ 1 / 2 ^ 39) (hc : c ≤ 1 / 2 ^ 42) : a ≤ 1 / 2 ^ 36 * (13 / 32) := by grind
theorem diff_cancel (a b c : Rat) : a - c + -(b - c) = a - b := by grind
theorem num5 : (1 / 2 ^ 100 : Rat) ≤ 1 / 2 ^ 40 ∧ (1 / 2 ^ 40 : Rat) ≤ 1 ∧ (1 / 2 ^ 100 : Rat) ≤ 1 / 2 ^ 36 ∧ (1 / 2 ^ 36 : Rat) ≤ 1 := by
  refine ⟨?_, ?_, ?_, ?_⟩ <;> grind
theorem num6 : pw (-40) = 1 / 2 ^ 40 ∧ pw (-36) = 1 / 2 ^ 36 := by
  constructor <;> unfold pw <;> grind
/-- The fits, their words without a body. -/
def Fit2 (X Y e : Rat) (w : World) (en : Ending) (w' : World) : Prop :=
  ∃ P1 P2, en = .returned (.tuple #[.complex .f64 P1 P2, .bool true]) ∧ finC (P1, P2) ∧ ab (vRe (P1, P2) - X) ≤ e ∧ ab (vIm (P1, P2) - Y) ≤ e ∧ Below w.heap.size w w'
theorem fitQ_ok {p a : Nat × Nat} (A : Option Addr) (c n : Nat) (w : World) (hi : RIn p a) (hwf : wfk .f64 a.1 ∧ wfk .f64 a.2) (h2 : 2 ≤ n) (hn : n ≤ 45) (hr : Rd w A (c64s (zList p a n))) :
    Calls Try.prog 46 #[.slice A n c] w (Fit2 (vRe p) (vIm p) (13 / 4 / 2 ^ 44) w) := by
  refine (fitQuotients_any p a A c n w hi hwf h2 hn hr).mono ?_
  intro e w' h
  unfold FitQPost at h
  obtain ⟨rfl, hb⟩ := h
  obtain ⟨g1, g2, g3, _⟩ := mean_near hi (n - 1) (by omega) (by omega)
  exact ⟨_, _, rfl, g1, g2, g3, hb⟩
theorem fitSq_ok {p a : Nat × Nat} (g c n : Nat) (w : World) (h : FitIn p a) (hs : 1 / 2 ^ 6 ≤ siz a) (h2 : 2 ≤ n) (hn : n ≤ 42) (hc : n ≤ c) (hr : Rd w (some ⟨g, 0, none⟩) (c64s (zList p a n))) :
    Calls Try.prog 47 #[.slice (some ⟨g, 0, none⟩) n c] w (Fit2 (vRe p) (vIm p) (13 / 2 ^ 45) w) := by
  refine (fitSquares_any p a g c n w h h2 hn hc hr).mono ?_
  intro e w' hp
  unfold FitPost at hp
  obtain ⟨q1, q2, t, j, rfl, hf, hq, rfl⟩ := hp
  obtain ⟨x1, x2, rfl⟩ := hq hs
  exact ⟨q1, q2, rfl, ⟨hf.1, hf.2.1⟩, x1, x2, below_drewN (Below.refl _ _) _⟩
theorem fitSt_ok {p a : Nat × Nat} (A : Option Addr) (c n : Nat) (w : World) (hi : RIn p a) (h1 : 1 ≤ n) (hn : n ≤ 45) (hr : Rd w A (c64s (zList p a n))) :
    Calls Try.prog 48 #[.slice A n c, .complex .f64 p.1 p.2] w (Fit2 (vRe a) (vIm a) (1 / 2 ^ 37 / 2) w) := by
  refine (fitStart_any p a A c n w hi h1 hn hr).mono ?_
  intro e w' h
  unfold FitSPost at h
  obtain ⟨rfl, hb⟩ := h
  obtain ⟨g1, g2, g3, _⟩ := start_near hi n hn h1
  exact ⟨_, _, rfl, g1, g2, g3, hb⟩
theorem fitSp_ok {p a u : Nat × Nat} (g c n m : Nat) (w : World) (hi : RIn p a) (hw : WIn u) (h1 : 1 ≤ m) (hm : m ≤ 20) (hmn : 2 * m ≤ n) (hnc : n ≤ c) (hcm : c ≤ maxLen) (hr : Rd w (some ⟨g, 0, none⟩) (c64s (zList p a n))) :
    Calls Try.prog 49 #[.slice (some ⟨g, 0, none⟩) n c, .complex .f64 u.1 u.2, .int .i64 m] w (Fit2 (cpow (vC p) (1, 0) m).1 (cpow (vC p) (1, 0) m).2 (1 / 2 ^ 39) w) := by
  refine (fitSpectra_any p a u g c n m w hi hw h1 hm hmn hnc hcm hr).mono ?_
  intro e w' h
  unfold FitFPost at h
  obtain ⟨rfl, j, rfl⟩ := h
  obtain ⟨g1, g2, g3, _⟩ := spectra_near hi hw m h1 hm
  exact ⟨_, _, rfl, g1, g2, g3, below_drewN (Below.refl _ _) _⟩
theorem pow_ok {p a : Nat × Nat} (n : Nat) (w : World) (hi : RIn p a) (h1 : 1 ≤ n) (hn : n ≤ 20) :
    Calls Try.prog 50 #[.complex .f64 p.1 p.2, .int .i64 n] w (Fit2 (cpow (vC p) (1, 0) n).1 (cpow (vC p) (1, 0) n).2 (1 / 2 ^ 42) w) := by
  refine (powerD_any p _ n w hi h1 hn).mono ?_
  intro e w' h
  unfold PowPost at h
  obtain ⟨rfl, j, rfl⟩ := h
  obtain ⟨l1, l2, l3⟩ := lenB_ok h1 hn
  obtain ⟨g1, g2, g3⟩ := pow_near hi n (lenB n) l1 l2 hn
  exact ⟨_, _, rfl, g1, g2, g3, below_drewN (Below.refl _ _) _⟩

set_option maxRecDepth 100000 in
set_option maxHeartbeats 2000000 in
theorem walk_some (A : Option Addr) (c : Nat) (bs : List Int) (w : World) (hr : Rd w A (bs.map (.int .u8))) (hm : bs.length ≤ 1048576) (hb : ∀ i, i < bs.length → 0 ≤ bs.getD i 0 ∧ bs.getD i 0 ≤ 255) :
    Calls Try.prog 9 #[.slice A bs.length c] w fun e w' => e = .returned (.bool true) ∧ Below w.heap.size w w' := by
  have hlen0 : ¬ (1048576 : Int) < (bs.length : Int) := by omega
  have hq1 := atL_bound hb 1
  have hq2 := atL_bound hb 2
  have hq3 := atL_bound hb 3
  have Hb := Lib.hid hb
  have H1 := Lib.hid (fun w h => at_any A c bs 1 w h hm (by omega) hb)
  have H2 := Lib.hid (fun w h => at_any A c bs 2 w h hm (by omega) hb)
  have H3 := Lib.hid (fun w h => at_any A c bs 3 w h hm (by omega) hb)
  clear hb
  generalize atL bs 1 = q1 at *
  generalize atL bs 2 = q2 at *
  generalize atL bs 3 = q3 at *
  obtain ⟨m, hm1, hm2⟩ : ∃ m : Nat, 1 + q1 % 20 = (m : Int) ∧ 1 ≤ m ∧ m ≤ 20 := ⟨(1 + q1 % 20).toNat, by omega, by omega, by omega⟩
  obtain ⟨n, hn1, hn2⟩ : ∃ n : Nat, 2 * (m : Int) + q2 % 2 = (n : Int) ∧ 2 * m ≤ n ∧ n ≤ 41 := ⟨(2 * (m : Int) + q2 % 2).toNat, by omega, by omega, by omega⟩
  obtain ⟨j3, hj3, hj3'⟩ : ∃ j : Nat, q3 % 4 = j ∧ j < 4 := ⟨(q3 % 4).toNat, by omega, by omega⟩
  have pk := pick4 hj3'
  have HWI := Lib.hid (ws_ok hj3')
  obtain ⟨u, hu⟩ : ∃ u, wsL.getD j3 (0, 0) = u := ⟨_, rfl⟩
  rw [hu] at pk HWI
  clear hu
  have Hr := Lib.hid hr
  clear hr
  go_enter Try.func9, Try.ntmps9
  go_wp2_with fail
  refine (makePole_any A c bs _ Hr.out hm).mono ?_
  rintro e W1 ⟨x, y, rfl, hp, hb1⟩
  have HP := Lib.hid hp
  have HB := Lib.hid hb1
  have HT := Lib.hid (fun w1 w2 w3 => (fgt_congr (fRo (fRo rfl rfl _) (fRo rfl rfl _) _) rfl : fgt .f64 (fR .add .f64 (fR .mul .f64 x x w1) (fR .mul .f64 y y w2) w3) 4607182418800017408 = fgt .f64 (fo .add .f64 (fo .mul .f64 x x) (fo .mul .f64 y y)) 4607182418800017408))
  clear hp hb1
  go_upto_if 35 with fail
  rw [HT.out]
  go_cut [3] from 19 (fun s wx => ∃ x y, s = .complex .f64 x y ∧ Hid (PoleIn x y) ∧ Hid (Below w.heap.size w wx))
  case first =>
    cases t : fgt .f64 (fo .add .f64 (fo .mul .f64 x x) (fo .mul .f64 y y)) 4607182418800017408
    · go_wp2_with fail
      go_meet
      exact ⟨x, y, rfl, HP.out, below_drewN HB.out _⟩
    · go_wp2_with fail
      go_meet
      exact ⟨_, _, rfl, pole_b, below_drewN HB.out _⟩
  case rest =>
    clear HP HB HT
    obtain ⟨x, y, rfl, HP, HB⟩ := hcut
    go_wp2_with fail
    refine (fresh_any A c bs 3 _ (Hr.out.below HB.out) hm Hb.out (.inl rfl)).mono ?_
    rintro e W2 ⟨A2, c2, ys, rfl, hrd2, hlen2, hb2⟩
    have HB2 := Lib.hid (HB.out.trans (hb2.mono HB.out.size))
    have R2 := Lib.hid hrd2
    clear HB hb2 hrd2
    go_wp2_with fail
    refine (start_any A2 c2 ys _ R2.out (by omega)).mono ?_
    rintro e W3 ⟨ax, ay, na, ma, rfl, hce, wax, way, hne, hb3⟩
    have HB3 := Lib.hid (HB2.out.trans (hb3.mono HB2.out.size))
    obtain ⟨rin, fit, hsz⟩ := rin_of HP.out hce hne
    have RIN := Lib.hid rin
    have FIT := Lib.hid fit
    have HSZ := Lib.hid hsz
    have WF := Lib.hid (And.intro wax way)
    clear HB2 R2 hb3 hce hne wax way rin fit hsz
    go_wp2_with fail
    refine (H1.out _ (Hr.out.below HB3.out)).mono ?_
    rintro e w' ⟨rfl, rfl⟩
    go_wp2_with fail
    refine (H2.out _ (Hr.out.below HB3.out)).mono ?_
    rintro e w' ⟨rfl, rfl⟩
    go_wp2_with fail
    refine (implRing_any (x, y) (ax, ay) n _ (by omega) (fun k hk => (ring_near RIN.out k (by omega)).1)).mono ?_
    intro e W4 hp
    unfold RingPost at hp
    obtain ⟨A4, c4, rfl, own4, hb4⟩ := hp
    obtain ⟨g4, rfl, hc4, hc4'⟩ : ∃ g, A4 = some ⟨g, 0, none⟩ ∧ n ≤ c4 ∧ c4 ≤ maxLen := by
      rcases own4.2 with ⟨h, h'⟩ | ⟨g, cap, cur, e1, e2, e3, e4, e5, e6⟩
      · omega
      · injection e1 with q1 _ q2
        subst q1 q2
        exact ⟨g, rfl, e4, e5⟩
    have RZ : Hid (Rd W4 (some ⟨g4, 0, none⟩) (c64s (zList (x, y) (ax, ay) n))) := by
      obtain ⟨_, _, q, _, rd⟩ := own_rd own4
      injection q with q1 _ q2
      subst q1 q2
      exact rd
    have HB4 := Lib.hid (HB3.out.trans (hb4.mono HB3.out.size))
    clear HB3 hb4 own4
    go_wp2_with fail
    refine (fitQ_ok (some ⟨g4, 0, none⟩) c4 n W4 RIN.out WF.out (by omega) (by omega) RZ.out).mono ?_
    rintro e W5 ⟨P1, P2, rfl, fP, hP1, hP2, hb5⟩
    have FP := Lib.hid (And.intro fP (And.intro hP1 hP2))
    have R5 := Lib.hid (RZ.out.below hb5)
    have HB5 := Lib.hid (HB4.out.trans (hb5.mono HB4.out.size))
    clear RZ HB4 hb5 fP hP1 hP2
    go_wp2_with fail
    refine (fitSq_ok g4 c4 n W5 FIT.out HSZ.out (by omega) (by omega) hc4 R5.out).mono ?_
    rintro e W6 ⟨Q1, Q2, rfl, fP, hP1, hP2, hb6⟩
    have FQ := Lib.hid (And.intro fP (And.intro hP1 hP2))
    have R6 := Lib.hid (R5.out.below hb6)
    have HB6 := Lib.hid (HB5.out.trans (hb6.mono HB5.out.size))
    clear R5 HB5 hb6 fP hP1 hP2
    go_wp2_with fail
    refine (fitSt_ok (some ⟨g4, 0, none⟩) c4 n W6 RIN.out (by omega) (by omega) R6.out).mono ?_
    rintro e W7 ⟨S1, S2, rfl, fP, hP1, hP2, hb7⟩
    have FS := Lib.hid (And.intro fP (And.intro hP1 hP2))
    have R7 := Lib.hid ((R6.out.below hb7).alloc (.cells #[.complex .f64 4598175219545276416 0, .complex .f64 13821547256400052224 0, .complex .f64 0 4598175219545276416, .complex .f64 4593671619917905920 13817043656772681728] 33))
    have HB7 := Lib.hid ((HB6.out.trans (hb7.mono HB6.out.size)).alloc (Nat.le_trans HB6.out.size hb7.size) (.cells #[.complex .f64 4598175219545276416 0, .complex .f64 13821547256400052224 0, .complex .f64 0 4598175219545276416, .complex .f64 4593671619917905920 13817043656772681728] 33))
    clear R6 HB6 hb7 fP hP1 hP2
    go_wp2_with fail
    refine (H3.out _ (Hr.out.below HB7.out)).mono ?_
    rintro e w' ⟨rfl, rfl⟩
    go_wp2_with fail
    refine (fitSp_ok (u := u) g4 c4 n m _ RIN.out HWI.out hm2.1 hm2.2 hn2.1 hc4 hc4' R7.out).mono ?_
    generalize W7.alloc (.cells #[.complex .f64 4598175219545276416 0, .complex .f64 13821547256400052224 0, .complex .f64 0 4598175219545276416, .complex .f64 4593671619917905920 13817043656772681728] 33) = V7 at *
    rintro e W8 ⟨U1, U2, rfl, fP, hP1, hP2, hb8⟩
    have FU := Lib.hid (And.intro fP (And.intro hP1 hP2))
    have HB8 := Lib.hid (HB7.out.trans (hb8.mono HB7.out.size))
    clear R7 HB7 hb8 fP hP1 hP2
    go_wp2_with fail
    refine (pow_ok m W8 RIN.out hm2.1 hm2.2).mono ?_
    rintro e W9 ⟨V1, V2, rfl, fP, hP1, hP2, hb9⟩
    have HB9 := Lib.hid (HB8.out.trans (hb9.mono HB8.out.size))
    have T1 := Lib.hid (fun W => near_yes (β := 1 / 2 ^ 40) W FP.out.1 RIN.out.fp (Rat.le_trans FP.out.2.1 num1) (Rat.le_trans FP.out.2.2 num1) num5.1 num5.2.1 w40.1 (by rw [w40.2.2]; exact num6.1))
    have T2 := Lib.hid (fun W => small_yes (β := 1 / 2 ^ 40) W FQ.out.1 RIN.out.fp (Rat.le_trans FQ.out.2.1 num2) (Rat.le_trans FQ.out.2.2 num2) num5.1 num5.2.1 w40.1 (by rw [w40.2.2]; exact num6.1))
    have T3 := Lib.hid (fun W => small_yes (β := 1 / 2 ^ 36) W FS.out.1 RIN.out.fa (Rat.le_trans FS.out.2.1 num3) (Rat.le_trans FS.out.2.2 num3) num5.2.2.1 num5.2.2.2 w36.1 (by rw [w36.2.2]; exact num6.2))
    have T4 : Hid (∀ W, Calls Try.prog 24 #[.complex .f64 U1 U2, .complex .f64 V1 V2, .float .f64 4445052832214679552] W fun e w' => e = .returned (.bool true) ∧ ∃ j, W.drewN j = w') := fun W => by
      have q1 := ab_add (vRe (U1, U2) - (cpow (vC (x, y)) (1, 0) m).1) (-(vRe (V1, V2) - (cpow (vC (x, y)) (1, 0) m).1))
      have q2 := ab_add (vIm (U1, U2) - (cpow (vC (x, y)) (1, 0) m).2) (-(vIm (V1, V2) - (cpow (vC (x, y)) (1, 0) m).2))
      rw [ab_neg] at q1 q2
      rw [diff_cancel] at q1 q2
      exact small_yes (β := 1 / 2 ^ 36) W FU.out.1 fP (num4 q1 FU.out.2.1 hP1) (num4 q2 FU.out.2.2 hP2) num5.2.2.1 num5.2.2.2 w36.1 (by rw [w36.2.2]; exact num6.2)
    have P40 := Lib.hid (fun W => power_neg_w (-40) 4427038433705197568 W (by omega) (by omega) w40.1 w40.2.1 w40.2.2)
    have P36 := Lib.hid (fun W => power_neg_w (-36) 4445052832214679552 W (by omega) (by omega) w36.1 w36.2.1 w36.2.2)
    clear HB8 hb9 fP hP1 hP2
    go_wp2_with fail
    refine (P40.out _).mono ?_
    rintro e w' ⟨rfl, j1, rfl⟩
    go_wp2_with fail
    refine (T1.out _).mono ?_
    rintro e w' ⟨rfl, j2, rfl⟩
    go_wp2_with fail
    refine (P40.out _).mono ?_
    rintro e w' ⟨rfl, j3, rfl⟩
    go_wp2_with fail
    refine (T2.out _).mono ?_
    rintro e w' ⟨rfl, j4, rfl⟩
    go_wp2_with fail
    refine (P36.out _).mono ?_
    rintro e w' ⟨rfl, j5, rfl⟩
    go_wp2_with fail
    refine (T3.out _).mono ?_
    rintro e w' ⟨rfl, j6, rfl⟩
    go_wp2_with fail
    refine (P36.out _).mono ?_
    rintro e w' ⟨rfl, j7, rfl⟩
    go_wp2_with fail
    refine (T4.out _).mono ?_
    rintro e w' ⟨rfl, j8, rfl⟩
    go_wp2_with fail
    go_ret
    exact ⟨rfl, below_drewN HB9.out _⟩

set_option maxRecDepth 100000 in
theorem walk (A : Option Addr) (c : Nat) (bs : List Int) (w : World) (_ : bs.length ≤ maxLen) (hr : Rd w A (bs.map (.int .u8))) (hb : ∀ i, i < bs.length → 0 ≤ bs.getD i 0 ∧ bs.getD i 0 ≤ 255) :
    Calls Try.prog 9 #[.slice A bs.length c] w fun e w' => e = .returned (.bool true) ∧ Below w.heap.size w w' := by
  by_cases hm : bs.length ≤ 1048576
  · exact walk_some A c bs w hr hm hb
  · clear hb
    go_enter Try.func9, Try.ntmps9
    go_wp2
    go_ret
    exact ⟨rfl, Below.refl _ _⟩
set_option maxRecDepth 100000 in
theorem lifted (os : Os) (started : os.Started) (H : Type) (enc : TypeId × Value → H) :
    ReturnsInHanded {} Try.checked os 9 .any (Rows.fnFittedSpec.pre6 enc Try.prog Try.f9 Rows.fnFittedRow.domain false) (Rows.fnFittedSpec.post enc Try.prog Try.f9 false true false false) := by
  refine returnsInHanded_of_change (C := Try.checked) own started (by kernel_rfl) Try.func9
    (ChangeSpec.witness6 (enc := enc) (C := Try.checked) false ⟨#[], #[.slice none 0 0], []⟩ 8 (by kernel_rfl) (by kernel_rfl) (by kernel_rfl) (by kernel_rfl)) ?_
  intro W base args ds gs before hval0 hW hcnd _
  have hval : ∀ (j : Nat) t v, Try.f9.params[j]? = some t → args[j]? = some v → Value.okWide Try.prog W .any base t v := hval0
  have hW' := hW
  obtain ⟨p, q, hA0, hV, rfl, hfz, hnd⟩ := hW
  have hA : DataW.TrodAll enc Try.prog W 0 (fun _ => true) true Try.f9.params.toList args.toList ds p := hA0
  rw [Try.params9] at hA hval
  obtain ⟨v0, vs0, d0, ds0, p0, q0, hargs, rfl, rfl, h0, r0⟩ := trodAll_cons hA
  obtain ⟨rfl, rfl, rfl⟩ := trodAll_nil r0
  obtain rfl : args = #[v0] := by cases args; simp_all
  obtain ⟨rfl, rfl⟩ := trodVars_none hV
  obtain ⟨a0, len0, cap0, rfl⟩ := okWide_slice Try.underlying22 (hval 0 22 v0 rfl rfl)
  have lt0 : ∀ x ∈ p0, x.block < W.heap.size := by obtain ⟨m, hm⟩ := h0; exact DataW.trod_lt m _ _ _ hm
  obtain ⟨bs0, rfl, mx0, rd0, wf0⟩ := open_bytes rfl Try.underlying22 Try.underlying5 (by kernel_rfl) h0
  clear hA0 hval0
  refine (walk a0 cap0 bs0 W mx0 rd0 wf0).mono fun e W' ⟨he, bel⟩ => ?_
  subst he
  exact ⟨_, rfl, _, _, _, [], _, [], hW', trodAll_mk1 (shut_bool Try.underlying4 _), (trodAll_cons_mk (Below.trod laidOut (by kernel_rfl) (of_decide_eq_true (by kernel_rfl)) h0 bel lt0) trodAll_mk0), rfl, bel.frame _, fun h => by cases h⟩

theorem proved : Rows.FnFittedSaid :=
  OpenClaim.holds_of_wide 9 Try.f9 rfl rfl rfl rfl rfl rfl rfl ⟨rfl, rfl, rfl, rfl, rfl⟩ rfl rfl rfl rfl rfl (by kernel_rfl) Try.func9 (by kernel_rfl)
    (of_decide_eq_true (by kernel_rfl)) (by unfold Func.isWrapper; first | (rw [if_pos (by decide +kernel)]; kernel_rfl) | (rw [if_neg (by decide +kernel)]; exact ⟨rfl, rfl⟩))
    (fun os started H enc _ => lifted os started H enc)
#print axioms proved
end Go.Proofs.Ytignncjmbcdpaaa.lawFitted
