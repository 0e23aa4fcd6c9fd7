/-
FnPair's numbers, all of them. (Plain arithmetic.)
-/
import Derived.Test.YtignncjmbcdpaaaPairVal
namespace Go.Proofs.Ytignncjmbcdpaaa
open Go Go.RowKit Ieee

theorem CEx.minor {x y u v : Nat × Nat} {n m k l : Int} {e B C : Nat} (h : CEx (prodC x y).1 (prodC x y).2 n m e B) (g : CEx (prodC u v).1 (prodC u v).2 k l e C) (hB : B + C < 2 ^ 53) (he : e ≤ 1000) :
    CEx (subC (prodC x y) (prodC u v)).1 (subC (prodC x y) (prodC u v)).2 (n - k) (m - l) e (B + C) := CEx.sub h g hB he
theorem pair_all {p a q b : Nat × Nat} {p1 p2 a1 a2 q1 q2 b1 b2 : Int} (hp : CEx p.1 p.2 p1 p2 4 16) (ha : CEx a.1 a.2 a1 a2 4 64) (hq : CEx q.1 q.2 q1 q2 4 16) (hb : CEx b.1 b.2 b1 b2 4 64)
    (ha0 : ¬(a1 = 0 ∧ a2 = 0)) (hb0 : ¬(b1 = 0 ∧ b2 = 0)) (hne : ¬(p1 = q1 ∧ p2 = q2)) (zs : List (Nat × Nat)) (hzs : zs = sumL p a q b 4) (D S T : Nat × Nat) (hD : D = minorW zs 1 1 0 2) (hS : S = minorW zs 1 2 0 3) (hT : T = minorW zs 2 2 1 3) :
    PairOk zs ∧
    (ab (fv .f64 (quoRe S.1 S.2 D.1 D.2) - ((p1 + q1 : Int) : Rat) * pw (-((4 : Nat) : Int))) ≤ 1 / 2 ^ 42 ∧ ab (fv .f64 (quoIm S.1 S.2 D.1 D.2) - ((p2 + q2 : Int) : Rat) * pw (-((4 : Nat) : Int))) ≤ 1 / 2 ^ 42) ∧
    (ab (fv .f64 (quoRe T.1 T.2 D.1 D.2) - ((p1 * q1 - p2 * q2 : Int) : Rat) * pw (-((8 : Nat) : Int))) ≤ 1 / 2 ^ 42 ∧ ab (fv .f64 (quoIm T.1 T.2 D.1 D.2) - ((p1 * q2 + p2 * q1 : Int) : Rat) * pw (-((8 : Nat) : Int))) ≤ 1 / 2 ^ 42) := by
  have hc : ∀ k, k < 4 → cgetD zs k = sumZ p a q b k := fun k hk => by rw [hzs]; exact sumL_at hk
  have E0 := sumZ_ex hp ha hq hb 0 (by omega)
  have E1 := sumZ_ex hp ha hq hb 1 (by omega)
  have E2 := sumZ_ex hp ha hq hb 2 (by omega)
  have E3 := sumZ_ex hp ha hq hb 3 (by omega)
  have EE : ∀ k, k < 4 → ∃ n m, CEx (sumZ p a q b k).1 (sumZ p a q b k).2 n m (4 + 4 * k) (128 * 32 ^ k) := fun k hk => ⟨_, _, sumZ_ex hp ha hq hb k (by omega)⟩
  have hprod : ∀ i j, i < 4 → j < 4 → i + j ≤ 4 → finC (prodC (cgetD zs i) (cgetD zs j)) := fun i j hi hj hij => by
    rw [hc i hi, hc j hj]
    obtain ⟨n, m, h1⟩ := EE i hi
    obtain ⟨k, l, h2⟩ := EE j hj
    have hb2 : 32 ^ i * 32 ^ j ≤ 32 ^ 4 := by rw [← Nat.pow_add]; exact Nat.pow_le_pow_right (by decide) hij
    have e : 2 * (128 * 32 ^ i * (128 * 32 ^ j)) = 32768 * (32 ^ i * 32 ^ j) := by
      rw [show 128 * 32 ^ i * (128 * 32 ^ j) = 16384 * (32 ^ i * 32 ^ j) by rw [Nat.mul_mul_mul_comm]]; omega
    exact (h1.mul h2 (by rw [e]; omega) (by omega)).fin
  have m0 : cgetD zs 0 = sumZ p a q b 0 := hc 0 (by omega)
  have m1 : cgetD zs 1 = sumZ p a q b 1 := hc 1 (by omega)
  have m2 : cgetD zs 2 = sumZ p a q b 2 := hc 2 (by omega)
  have m3 : cgetD zs 3 = sumZ p a q b 3 := hc 3 (by omega)
  unfold minorW at hD hS hT
  rw [m1, m0, m2] at hD
  rw [m1, m0, m2, m3] at hS
  rw [m1, m2, m3] at hT
  have X0 : (gz p1 p2 a1 a2 0).1 + (gz q1 q2 b1 b2 0).1 = a1 + b1 ∧ (gz p1 p2 a1 a2 0).2 + (gz q1 q2 b1 b2 0).2 = a2 + b2 := ⟨rfl, rfl⟩
  rw [X0.1, X0.2] at E0
  obtain ⟨x1, hx1⟩ : ∃ x, x = (gz p1 p2 a1 a2 1).1 + (gz q1 q2 b1 b2 1).1 := ⟨_, rfl⟩
  obtain ⟨y1, hy1⟩ : ∃ x, x = (gz p1 p2 a1 a2 1).2 + (gz q1 q2 b1 b2 1).2 := ⟨_, rfl⟩
  obtain ⟨x2, hx2⟩ : ∃ x, x = (gz p1 p2 a1 a2 2).1 + (gz q1 q2 b1 b2 2).1 := ⟨_, rfl⟩
  obtain ⟨y2, hy2⟩ : ∃ x, x = (gz p1 p2 a1 a2 2).2 + (gz q1 q2 b1 b2 2).2 := ⟨_, rfl⟩
  obtain ⟨x3, hx3⟩ : ∃ x, x = (gz p1 p2 a1 a2 3).1 + (gz q1 q2 b1 b2 3).1 := ⟨_, rfl⟩
  obtain ⟨y3, hy3⟩ : ∃ x, x = (gz p1 p2 a1 a2 3).2 + (gz q1 q2 b1 b2 3).2 := ⟨_, rfl⟩
  rw [← hx1, ← hy1] at E1
  rw [← hx2, ← hy2] at E2
  rw [← hx3, ← hy3] at E3
  simp only [gz] at hx1 hy1 hx2 hy2 hx3 hy3
  have P11 := E1.mul E1 (by omega) (by omega)
  have P02 := E0.mul E2 (by omega) (by omega)
  have P12 := E1.mul E2 (by omega) (by omega)
  have P03 := E0.mul E3 (by omega) (by omega)
  have P22 := E2.mul E2 (by omega) (by omega)
  have P13 := E1.mul E3 (by omega) (by omega)
  have CD := CEx.minor (x := sumZ p a q b 1) (y := sumZ p a q b 1) (u := sumZ p a q b 0) (v := sumZ p a q b 2) (e := 16) P11 P02 (by omega) (by omega)
  rw [← hD] at CD
  have CS := CEx.minor (x := sumZ p a q b 1) (y := sumZ p a q b 2) (u := sumZ p a q b 0) (v := sumZ p a q b 3) (e := 20) P12 P03 (by omega) (by omega)
  rw [← hS] at CS
  have CT := CEx.minor (x := sumZ p a q b 2) (y := sumZ p a q b 2) (u := sumZ p a q b 1) (v := sumZ p a q b 3) (e := 24) P22 P13 (by omega) (by omega)
  rw [← hT] at CT
  have hdet := pair_det a1 a2 b1 b2 p1 p2 q1 q2 ha0 hb0 hne _ _ _ _ x1 y1 x2 y2 rfl rfl rfl rfl hx1 hy1 hx2 hy2
  obtain ⟨s1, s2, s3, s4⟩ := pair_sum (p1 + q1) (p2 + q2) (p1 * q1 - p2 * q2) (p1 * q2 + p2 * q1) (a1 + b1) (a2 + b2) x1 y1 x2 y2 x3 y3
    (by rw [hx2, hx1, hy1]; grind) (by rw [hy2, hx1, hy1]; grind) (by rw [hx3, hx2, hy2, hx1, hy1]; grind) (by rw [hy3, hx2, hy2, hx1, hy1]; grind) _ _ rfl rfl
  have bnd : ∀ (n : Int) (g C : Nat), n.natAbs ≤ C → ((C : Nat) : Rat) * pw (-(g : Int)) ≤ 2 → ab ((n : Rat) * pw (-(g : Int))) ≤ 2 := fun n g C h1 h2 => by
    have hp := Rat.le_of_lt (pw_pos (-(g : Int)))
    rw [ab_mul, ab_of_nonneg hp]
    have h3 : ab (n : Rat) ≤ ((C : Nat) : Rat) := by
      rw [← Rat.intCast_natCast]
      have h4 : (n : Rat) ≤ (((C : Nat) : Int) : Rat) := Rat.intCast_le_intCast.2 (by omega)
      have h5 : ((-n : Int) : Rat) ≤ (((C : Nat) : Int) : Rat) := Rat.intCast_le_intCast.2 (by omega)
      rw [Rat.intCast_neg] at h5
      exact ab_le h4 h5
    have := Rat.mul_le_mul_of_nonneg_right h3 hp
    grind
  have pb1 := hp.re.b
  have pb2 := hp.im.b
  have qb1 := hq.re.b
  have qb2 := hq.im.b
  have mb : ∀ x y : Int, x.natAbs ≤ 16 → y.natAbs ≤ 16 → (x * y).natAbs ≤ 256 := fun x y h1 h2 => by
    rw [Int.natAbs_mul]; exact Nat.mul_le_mul h1 h2
  have n1 := mb p1 q1 pb1 qb1
  have n2 := mb p2 q2 pb2 qb2
  have n3 := mb p1 q2 pb1 qb2
  have n4 := mb p2 q1 pb2 qb1
  have w1 : (((32 : Nat)) : Rat) * pw (-((4 : Nat) : Int)) ≤ 2 := by unfold pw; simp; grind
  have w2 : (((512 : Nat)) : Rat) * pw (-((8 : Nat) : Int)) ≤ 2 := by unfold pw; simp; grind
  have NS := near_quot (g := 4) CS CD (by omega) hdet s1 s2 (by omega) (by omega) (by omega) (bnd _ 4 32 (by omega) w1) (bnd _ 4 32 (by omega) w1)
  have NT := near_quot (g := 8) CT CD (by omega) hdet s3 s4 (by omega) (by omega) (by omega) (bnd _ 8 512 (by omega) w2) (bnd _ 8 512 (by omega) w2)
  have eD : minorW zs 1 1 0 2 = D := by rw [hD]; unfold minorW; rw [m1, m0, m2]
  have eS : minorW zs 1 2 0 3 = S := by rw [hS]; unfold minorW; rw [m1, m0, m2, m3]
  have eT : minorW zs 2 2 1 3 = T := by rw [hT]; unfold minorW; rw [m1, m2, m3]
  refine ⟨⟨hprod, by rw [eD]; exact ⟨CD.re.f, CD.im.f⟩, by rw [eS]; exact ⟨CS.re.f, CS.im.f⟩, by rw [eT]; exact ⟨CT.re.f, CT.im.f⟩, ?_, by rw [eD, eS]; exact ⟨NS.1.1, NS.2.1⟩, by rw [eD, eT]; exact ⟨NT.1.1, NT.2.1⟩⟩, ⟨NS.1.2, NS.2.2⟩, NT.1.2, NT.2.2⟩
  rw [eD, CD.re.isZero, CD.im.isZero, ← Bool.decide_and]
  exact decide_eq_false hdet
end Go.Proofs.Ytignncjmbcdpaaa
