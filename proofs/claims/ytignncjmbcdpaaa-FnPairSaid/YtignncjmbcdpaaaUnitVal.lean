/-
A number divided by its size. (Plain arithmetic.)
-/
import Derived.Test.YtignncjmbcdpaaaExact
import Derived.Test.YtignncjmbcdpaaaFin64
namespace Go.Proofs.Ytignncjmbcdpaaa
open Go Ieee

theorem rnd_eq {k : FloatKind} {op : BinOp} {x y : Nat} (h : fin k (fo op k x y)) (w : World) : fR op k x y w = fo op k x y := nrm_fin_eq (nrm_fR op k x y w) h

/-- A sum of two sizes. -/
theorem size_spec {a b : Rat} (h1 : 0 ≤ a) (h2 : 0 ≤ b) (h : a + b ≤ top .f64) {x y : Nat} (hx : fin .f64 x) (hy : fin .f64 y) (vx : fv .f64 x = a) (vy : fv .f64 y = b) :
    RoundOf .f64 (a + b) (fo .add .f64 x y) := by
  have := add_spec hx hy (by rw [vx, vy, ab_of_nonneg (by grind)]; exact h)
  rwa [vx, vy] at this

theorem top210 : (2 : Rat) ^ 210 ≤ top .f64 := by
  have h2 : pw 210 ≤ pw 1000 := pw_mono (by omega)
  have e2 : pw 210 = 2 ^ 210 := by unfold pw; grind
  show _ ≤ pw 1000; grind
theorem eta_small {S : Rat} (hS : pw (-201) ≤ S) : eta .f64 ≤ S / 2 ^ 60 := by
  have h1 : eta .f64 ≤ pw (-201 + -69) := pw_mono (by decide)
  rw [pw_add] at h1
  have h2 : pw (-69) = 1 / 2 ^ 69 := by unfold pw; grind
  have h3 := pw_pos (-201)
  rw [h2] at h1
  grind

/-- The size of a number, and what is known of it. -/
structure SizeIs (S c : Rat) : Prop where
  lo : pw (-201) ≤ S
  hi : S ≤ 2 ^ 202
  near : ab (c - S) ≤ S / 2 ^ 52
theorem SizeIs.pos {S c : Rat} (h : SizeIs S c) : 0 < S ∧ S / 2 ≤ c ∧ c ≤ 2 * S ∧ eta .f64 ≤ S / 2 ^ 60 ∧ 0 < c := by
  have h1 := pw_pos (-201)
  have h2 := h.lo
  have h3 := le_ab (c - S)
  have h4 := h.near
  have h5 := eta_small h.lo
  refine ⟨by grind, by grind, by grind, h5, by grind⟩
theorem sizeIs_of {S : Rat} {s : Nat} (lo : pw (-201) ≤ S) (hi : S ≤ 2 ^ 202) (hs : RoundOf .f64 S s) : SizeIs S (fv .f64 s) := by
  obtain ⟨k1, k2, k3⟩ := consts64
  have h5 := eta_small lo
  have h1 := pw_pos (-201)
  have h2 := hs.2.1
  rw [k1, ab_of_nonneg (x := S) (by grind)] at h2
  exact ⟨lo, hi, by grind⟩

/-- A part of the number divided by its size. -/
theorem unit_part {S c X : Rat} {x m : Nat} (h : SizeIs S c) (hx : fin .f64 x) (hm : fin .f64 m) (vx : fv .f64 x = X) (vm : fv .f64 m = c) (hX : ab X ≤ S) :
    fin .f64 (fo .quo .f64 x m) ∧ ab (fv .f64 (fo .quo .f64 x m) - X / c) ≤ ab X / c / 2 ^ 52 + eta .f64 := by
  obtain ⟨p1, p2, p3, p4, p5⟩ := h.pos
  obtain ⟨k1, k2, k3⟩ := consts64
  have hq : ab (X / c) = ab X / c := ab_div_pos X p5
  have hle : ab X / c ≤ 2 := by
    rcases rat_lt_or_le 2 (ab X / c) with h | h
    · exfalso
      have := (Rat.lt_div_iff p5).1 h
      grind
    · exact h
  have hd := div_spec hx hm (by rw [vm]; grind) (by rw [vm, vx, hq]; grind)
  rw [vm, vx] at hd
  refine ⟨hd.1, ?_⟩
  have := hd.2.1
  rw [hq, k1] at this
  grind

/-- The size of what is divided by its size is near 1. -/
theorem unit_size {S c X Y : Rat} {u v : Nat} (h : SizeIs S c) (hS : ab X + ab Y = S) (hu : ab (fv .f64 u - X / c) ≤ ab X / c / 2 ^ 52 + eta .f64) (hv : ab (fv .f64 v - Y / c) ≤ ab Y / c / 2 ^ 52 + eta .f64) :
    ab (ab (fv .f64 u) + ab (fv .f64 v) - 1) ≤ 1 / 2 ^ 48 := by
  obtain ⟨p1, p2, p3, p4, p5⟩ := h.pos
  obtain ⟨k1, k2, k3⟩ := consts64
  have hq1 : ab (X / c) = ab X / c := ab_div_pos X p5
  have hq2 : ab (Y / c) = ab Y / c := ab_div_pos Y p5
  obtain ⟨p, hp⟩ : ∃ p, ab X / c = p := ⟨_, rfl⟩
  obtain ⟨q, hq⟩ : ∃ q, ab Y / c = q := ⟨_, rfl⟩
  have hpc : p * c = ab X := by rw [← hp]; exact Rat.div_mul_cancel (by grind)
  have hqc : q * c = ab Y := by rw [← hq]; exact Rat.div_mul_cancel (by grind)
  have hsum : (p + q) * c = S := by grind
  have hnear := h.near
  have hn := le_ab (c - S)
  have up : p + q ≤ 1 + 1 / 2 ^ 51 := by
    rcases rat_lt_or_le (1 + 1 / 2 ^ 51) (p + q) with h | h
    · exfalso
      have := Rat.mul_lt_mul_of_pos_right h p5
      grind
    · exact h
  have lo : 1 - 1 / 2 ^ 51 ≤ p + q := by
    rcases rat_lt_or_le (p + q) (1 - 1 / 2 ^ 51) with h | h
    · exfalso
      have := Rat.mul_lt_mul_of_pos_right h p5
      grind
    · exact h
  rw [hp] at hu hq1
  rw [hq] at hv hq2
  have t1 := ab_tri (fv .f64 u) (X / c)
  have t2 := ab_tri (fv .f64 v) (Y / c)
  have t3 := ab_tri (X / c) (fv .f64 u)
  have t4 := ab_tri (Y / c) (fv .f64 v)
  have n1 := ab_neg (fv .f64 u - X / c)
  have n2 := ab_neg (fv .f64 v - Y / c)
  have e1 : X / c - fv .f64 u = -(fv .f64 u - X / c) := by grind
  have e2 : Y / c - fv .f64 v = -(fv .f64 v - Y / c) := by grind
  rw [e1, n1] at t3
  rw [e2, n2] at t4
  rw [hq1] at t1 t3
  rw [hq2] at t2 t4
  exact ab_le (by grind) (by grind)

/-- Multiplied by the size it is near the part. -/
theorem unit_back {S c X : Rat} {u s x : Nat} (h : SizeIs S c) (hX : ab X ≤ S) (hu : fin .f64 u) (hb : ab (fv .f64 u - X / c) ≤ ab X / c / 2 ^ 52 + eta .f64) (hs : fin .f64 s) (vs : fv .f64 s = c) (hx : fin .f64 x) (vx : fv .f64 x = X) :
    fin .f64 (fo .mul .f64 u s) ∧ fin .f64 (fo .sub .f64 (fo .mul .f64 u s) x) ∧ ab (fv .f64 (fo .sub .f64 (fo .mul .f64 u s) x)) ≤ S / 2 ^ 50 := by
  obtain ⟨p1, p2, p3, p4, p5⟩ := h.pos
  obtain ⟨k1, k2, k3⟩ := consts64
  have hhi := h.hi
  have hn := le_ab (c - S)
  have h1 : ab ((fv .f64 u - X / c) * c) ≤ (ab X / c / 2 ^ 52 + eta .f64) * c := by
    rw [ab_mul, ab_of_nonneg (x := c) (by grind)]
    exact Rat.mul_le_mul_of_nonneg_right hb (by grind)
  have e1 : (fv .f64 u - X / c) * c = fv .f64 u * c - X := by
    have : X / c * c = X := Rat.div_mul_cancel (by grind)
    grind
  have e2 : (ab X / c / 2 ^ 52 + eta .f64) * c = ab X / 2 ^ 52 + eta .f64 * c := by
    have : ab X / c * c = ab X := Rat.div_mul_cancel (by grind)
    grind
  rw [e1, e2] at h1
  clear hb e1 e2
  have k3 := top210
  have h2 : eta .f64 * c ≤ 1 / 2 ^ 200 * c := Rat.mul_le_mul_of_nonneg_right k2 (by grind)
  have t1 := ab_tri (fv .f64 u * c) X
  have hm := mul_spec hu hs (by rw [vs]; grind)
  rw [vs] at hm
  have m2 := hm.2.1
  rw [k1] at m2
  have t2 := ab_add (fv .f64 (fo .mul .f64 u s) - fv .f64 u * c) (fv .f64 u * c - X)
  have e3 : fv .f64 (fo .mul .f64 u s) - fv .f64 u * c + (fv .f64 u * c - X) = fv .f64 (fo .mul .f64 u s) - X := by grind
  rw [e3] at t2
  have hd := sub_spec hm.1 hx (by rw [vx]; grind)
  rw [vx] at hd
  have d2 := hd.2.1
  rw [k1] at d2
  have t3 := ab_tri (fv .f64 (fo .sub .f64 (fo .mul .f64 u s) x)) (fv .f64 (fo .mul .f64 u s) - X)
  refine ⟨hm.1, hd.1, by grind⟩
end Go.Proofs.Ytignncjmbcdpaaa
