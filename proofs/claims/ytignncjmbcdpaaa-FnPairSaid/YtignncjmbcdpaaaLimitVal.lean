/-
The limiter on finite samples. (Plain arithmetic.)
-/
import Derived.Test.YtignncjmbcdpaaaLimitNext
import Derived.Test.YtignncjmbcdpaaaSmallVal
namespace Go.Proofs.Ytignncjmbcdpaaa
open Go Ieee

theorem mul_le_self {E r : Rat} (hE : 0 ≤ E) (hr : r ≤ 1) : E * r ≤ E := by
  have := Rat.mul_le_mul_of_nonneg_left hr hE
  grind

theorem limE_spec {E x r : Nat} {X : Rat} (hE : fin .f32 E) (hE0 : 0 ≤ fv .f32 E) (hEX : fv .f32 E ≤ X) (hx : fin .f32 x) (hxX : ab (fv .f32 x) ≤ X) (hX : X ≤ 2 ^ 61)
    (hr : fin .f32 r) (hr0 : 0 ≤ fv .f32 r) (hr1 : fv .f32 r ≤ 1) :
    fin .f32 (limE E x r) ∧ ab (fv .f32 x) ≤ fv .f32 (limE E x r) ∧ fv .f32 (limE E x r) ≤ X ∧ (∀ C : Rat, ab (fv .f32 x) ≤ C → fv .f32 E ≤ C → fv .f32 (limE E x r) ≤ C) := by
  obtain ⟨cu, ce, ct⟩ := consts32
  obtain ⟨a1, a2⟩ := abs32_fin hx
  have hpos : 0 ≤ fv .f32 E * fv .f32 r := Rat.mul_nonneg hE0 hr0
  have hle := mul_le_self hE0 hr1
  obtain ⟨p1, p2, p3⟩ := mul_spec hE hr (by rw [ab_of_nonneg hpos, ct]; grind)
  have p4 := (p3 E hE).2 hle
  unfold limE
  rw [nrm_fin a1]
  cases t : fgt .f32 (x % 2147483648) (fo .mul .f32 E r)
  · rw [if_neg (by simp)]
    have hle2 : ab (fv .f32 x) ≤ fv .f32 (fo .mul .f32 E r) := by
      rcases rat_lt_or_le (fv .f32 (fo .mul .f32 E r)) (ab (fv .f32 x)) with h | h
      · have := (fgt_iff a1 p1).2 (by rw [a2]; exact h)
        rw [t] at this; cases this
      · exact h
    exact ⟨p1, hle2, by grind, fun C _ h2 => by grind⟩
  · rw [if_pos rfl, a2]
    exact ⟨a1, Rat.le_refl, hxX, fun C h1 _ => h1⟩

theorem limS_spec {E x c r : Nat} {X : Rat} (hE : fin .f32 E) (hE0 : 0 ≤ fv .f32 E) (hEX : fv .f32 E ≤ X) (hx : fin .f32 x) (hxX : ab (fv .f32 x) ≤ X) (hX : X ≤ 2 ^ 61)
    (hr : fin .f32 r) (hr0 : 0 ≤ fv .f32 r) (hr1 : fv .f32 r ≤ 1) (hc : fin .f32 c) (hc0 : 1 / 2 ^ 41 ≤ fv .f32 c) (hc1 : fv .f32 c ≤ 2 ^ 41) :
    fin .f32 (limS E x c r) ∧ ab (fv .f32 (limS E x c r)) ≤ fv .f32 c + fv .f32 c / 4194304 ∧ (ab (fv .f32 x) ≤ fv .f32 c → fv .f32 E ≤ fv .f32 c → limS E x c r = x) := by
  obtain ⟨cu, ce, ct⟩ := consts32
  obtain ⟨g1, g2, g3, g4⟩ := limE_spec hE hE0 hEX hx hxX hX hr hr0 hr1
  unfold limS
  cases t : fgt .f32 (limE E x r) c
  · rw [if_neg (by simp), nrm_fin hx]
    have hle : fv .f32 (limE E x r) ≤ fv .f32 c := by
      rcases rat_lt_or_le (fv .f32 c) (fv .f32 (limE E x r)) with h | h
      · have := (fgt_iff g1 hc).2 h
        rw [t] at this; cases this
      · exact h
    exact ⟨hx, by grind, fun _ _ => rfl⟩
  · rw [if_pos rfl]
    have hlt := (fgt_iff g1 hc).1 t
    obtain ⟨G, hG⟩ : ∃ G, fv .f32 (limE E x r) = G := ⟨_, rfl⟩
    obtain ⟨Cc, hCc⟩ : ∃ C, fv .f32 c = C := ⟨_, rfl⟩
    rw [hG] at g2 g3 hlt
    rw [hCc] at hlt hc0 hc1
    have hX0 : 0 ≤ X := Rat.le_trans (ab_nonneg _) hxX
    have hxc : ab (fv .f32 x * Cc) ≤ G * Cc := by
      rw [ab_mul, ab_of_nonneg (x := Cc) (by grind)]
      exact Rat.mul_le_mul_of_nonneg_right g2 (by grind)
    have hGC : G * Cc ≤ 2 ^ 102 := by
      have h1 := Rat.mul_le_mul_of_nonneg_right (Rat.le_trans g3 hX) (show 0 ≤ Cc by grind)
      have h2 := Rat.mul_le_mul_of_nonneg_left hc1 (show (0 : Rat) ≤ 2 ^ 61 by decide)
      grind
    have hm := mul_spec hx hc (by rw [hCc, ct]; grind)
    rw [hCc] at hm
    obtain ⟨m1, m2, _⟩ := hm
    have m3 := ab_tri (fv .f32 (fo .mul .f32 x c)) (fv .f32 x * Cc)
    obtain ⟨P, hP⟩ : ∃ P, fv .f32 (fo .mul .f32 x c) = P := ⟨_, rfl⟩
    rw [hP] at m2 m3
    rw [cu] at m2
    have hGpos : 0 < G := by grind
    -- |P| <= G Cc (1 + u) + eta
    have hPle : ab P ≤ G * Cc + G * Cc / 16777216 + 1 / 2 ^ 149 := by grind
    have hPG : ab (P / G) ≤ Cc + Cc / 16777216 + 1 / 2 ^ 100 := by
      rw [ab_div_pos P hGpos]
      rcases rat_lt_or_le (Cc + Cc / 16777216 + 1 / 2 ^ 100) (ab P / G) with h | h
      · exfalso
        have h2 := (Rat.lt_div_iff hGpos).1 h
        have h3 : 1 / 2 ^ 41 * (1 / 2 ^ 100) ≤ G * (1 / 2 ^ 100) := Rat.mul_le_mul_of_nonneg_right (by grind) (by grind)
        have h4 : (Cc + Cc / 16777216 + 1 / 2 ^ 100) * G = G * Cc + G * Cc / 16777216 + G * (1 / 2 ^ 100) := by grind
        have h5 : (1 : Rat) / 2 ^ 149 < 1 / 2 ^ 41 * (1 / 2 ^ 100) := by grind
        grind
      · exact h
    have hd := div_spec m1 g1 (by rw [hG]; grind) (by rw [hG, hP, ct]; grind)
    rw [hP, hG] at hd
    obtain ⟨d1, d2, _⟩ := hd
    have d3 := ab_tri (fv .f32 (fo .quo .f32 (fo .mul .f32 x c) (limE E x r))) (P / G)
    rw [cu] at d2
    refine ⟨d1, ?_, fun h1 h2 => ?_⟩
    · rw [hCc]; grind
    · exfalso
      have := g4 Cc (by rw [← hCc]; exact h1) (by rw [← hCc]; exact h2)
      rw [hG] at this; grind

/-- The envelope behind the first 'k' samples. -/
def envAt (xs : List Nat) (r : Nat) : Nat → Nat
  | 0 => 0
  | k + 1 => limE (envAt xs r k) (xs.getD k 0) r
end Go.Proofs.Ytignncjmbcdpaaa
