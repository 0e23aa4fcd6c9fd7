/-
Two results of MixTracks agree. (Plain arithmetic.)
-/
import Derived.Test.YtignncjmbcdpaaaMix
namespace Go.Proofs.Ytignncjmbcdpaaa
open Go Go.RowKit Ieee

/-- Two results that agree: lengths and elements. -/
def AgreeL (ys zs : List Nat) : Prop := ys.length = zs.length ∧ ∀ i, i < ys.length → wfk .f32 (ys.getD i 0) ∧ wfk .f32 (zs.getD i 0) ∧ sameB .f32 (ys.getD i 0) (zs.getD i 0) = true
theorem isN_abs32 (b : Nat) : isN .f32 (b % 2147483648) = isN .f32 b := by
  show (single.read (b % 2147483648)).isNaN = (single.read b).isNaN
  rw [read_abs32]
  cases single.read b <;> rfl
theorem abs32_congr {x y : Nat} (h : nrm .f32 x = nrm .f32 y) : nrm .f32 (x % 2147483648) = nrm .f32 (y % 2147483648) := by
  cases hx : isN .f32 x
  · cases hy : isN .f32 y
    · rw [nrm_of_num hx, nrm_of_num hy] at h; rw [h]
    · rw [nrm_of_num hx, nrm_of_nan hy] at h
      rw [h, isN_qn] at hx; cases hx
  · cases hy : isN .f32 y
    · rw [nrm_of_nan hx, nrm_of_num hy] at h
      rw [← h, isN_qn] at hy; cases hy
    · rw [nrm_of_nan (by rw [isN_abs32]; exact hx), nrm_of_nan (by rw [isN_abs32]; exact hy)]
theorem limE_x {E x y r : Nat} (h : nrm .f32 x = nrm .f32 y) : limE E x r = limE E y r := by unfold limE; rw [abs32_congr h]
theorem limS_x {E x y c r : Nat} (h : nrm .f32 x = nrm .f32 y) : limS E x c r = limS E y c r := by
  unfold limS; rw [limE_x h, h, show fo .mul .f32 x c = fo .mul .f32 y c from fo_congr h rfl]
theorem envAt_x {xs ys : List Nat} {r : Nat} {n : Nat} (h : ∀ i, i < n → nrm .f32 (xs.getD i 0) = nrm .f32 (ys.getD i 0)) : ∀ k, k ≤ n → envAt xs r k = envAt ys r k := by
  intro k
  induction k with
  | zero => intro _; rfl
  | succ k ih =>
    intro hk
    show limE (envAt xs r k) (xs.getD k 0) r = limE (envAt ys r k) (ys.getD k 0) r
    rw [ih (by omega), limE_x (h k (by omega))]
theorem sumAt_x {rs qs : List Row} {n : Nat} (h : ∀ i, i < n → (rowAt qs i).2.2 = (rowAt rs i).2.2) (j : Nat) : ∀ k, k ≤ n → sumAt qs k j = sumAt rs k j := by
  intro k
  induction k with
  | zero => intro _; rfl
  | succ k ih =>
    intro hk
    show fo .add .f32 (sumAt qs k j) ((rowAt qs k).2.2.getD j 0) = fo .add .f32 (sumAt rs k j) ((rowAt rs k).2.2.getD j 0)
    rw [ih (by omega), h k (by omega)]
theorem mixRes_x {c r : Nat} {rs qs : List Row} {ok : Bool} {ys : List Nat} (hl : qs.length = rs.length) (h : ∀ i, i < rs.length → (rowAt qs i).2.2 = (rowAt rs i).2.2) (hm : MixRes c r qs ok ys) : MixRes c r rs ok ys := by
  have hr : ∀ i, i < rs.length → rowLen qs i = rowLen rs i := fun i hi => by unfold rowLen; rw [h i hi]
  rcases hm with ⟨h1, h2, ss, h3, h4⟩ | ⟨⟨i, h1, h2⟩, h3, h4⟩
  · refine .inl ⟨fun i hi => ?_, h2, ss, ?_, h4⟩
    · have := h1 i (by omega)
      rwa [hr i hi, hr 0 (by omega)] at this
    · have e : (if qs.length = 0 then 0 else rowLen qs 0) = if rs.length = 0 then 0 else rowLen rs 0 := by
        rw [hl]
        by_cases h0 : rs.length = 0
        · rw [if_pos h0, if_pos h0]
        · rw [if_neg h0, if_neg h0, hr 0 (by omega)]
      rw [e, hl] at h3
      refine ⟨h3.1, fun j hj => ?_⟩
      have := h3.2 j hj
      rw [if_neg (by omega)] at this ⊢
      rwa [sumAt_x h j _ (Nat.le_refl _)] at this
  · exact .inr ⟨⟨i, by omega, by rwa [hr i (by omega), hr 0 (by omega)] at h2⟩, h3, h4⟩
theorem mix_agree {c r : Nat} {rs : List Row} {ok ok' : Bool} {ys zs : List Nat} (hy : MixRes c r rs ok ys) (hz : MixRes c r rs ok' zs) : ok = ok' ∧ AgreeL ys zs := by
  rcases hy with ⟨h1, h2, ss, h3, h4⟩ | ⟨⟨i, h1, h2⟩, h3, h4⟩ <;> rcases hz with ⟨g1, g2, ts, g3, g4⟩ | ⟨⟨k, g1, g2⟩, g3, g4⟩
  · refine ⟨by rw [h2, g2], ?_⟩
    cases hok : limOk c r
    · rw [if_neg (by simp [hok])] at h4 g4
      subst h4 g4
      exact ⟨rfl, fun i hi => by simp at hi⟩
    · rw [if_pos hok] at h4 g4
      have hlen : ss.length = ts.length := by rw [h3.1, g3.1]
      have hn : ∀ i, i < ss.length → nrm .f32 (ss.getD i 0) = nrm .f32 (ts.getD i 0) := fun i hi => by
        have e1 := (h3.2 i (by rw [← h3.1]; exact hi)).1
        have e2 := (g3.2 i (by rw [← g3.1, ← hlen]; exact hi)).1
        rw [e1, e2]
      refine ⟨by rw [h4.1, g4.1, hlen], fun i hi => ?_⟩
      rw [h4.1] at hi
      obtain ⟨y1, y2⟩ := h4.2 i hi
      obtain ⟨z1, z2⟩ := g4.2 i (by omega)
      refine ⟨y2, z2, ?_⟩
      unfold sameB
      rw [y1, z1, envAt_x hn i (by omega), limS_x (hn i hi)]
      simp
  · exact absurd (h1 k g1) g2
  · exact absurd (g1 i h1) h2
  · subst h4 g4
    exact ⟨by rw [h3, g3], rfl, fun i hi => by simp at hi⟩
theorem mix_len {c r : Nat} {rs : List Row} {ok : Bool} {ys : List Nat} (hy : MixRes c r rs ok ys) (hl : ∀ i, i < rs.length → rowLen rs i ≤ 1048576) : ys.length ≤ 1048576 := by
  rcases hy with ⟨h1, h2, ss, h3, h4⟩ | ⟨_, _, h4⟩
  · cases hok : limOk c r
    · rw [if_neg (by simp [hok])] at h4
      subst h4; simp
    · rw [if_pos hok] at h4
      rw [h4.1, h3.1]
      split
      · omega
      · exact hl 0 (by omega)
  · subst h4; simp
theorem eq_agree (A B : Option Addr) (c d : Nat) (xs ys : List Nat) (w : World) (hr : Rd w A (f32s xs)) (hs : Rd w B (f32s ys)) (hm : xs.length ≤ 1048576) (h : AgreeL xs ys) :
    Calls Try.prog 32 #[.slice A xs.length c, .slice B ys.length d] w fun e w' => e = .returned (.bool true) ∧ ∃ n, w.drewN n = w' := by
  rw [← h.1]
  exact eqF32_any A B c d xs.length xs ys w hr hs hm rfl h.1.symm h.2
end Go.Proofs.Ytignncjmbcdpaaa
