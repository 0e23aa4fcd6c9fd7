/-
Energy and peak of finite samples. (Plain arithmetic.)
-/
import Derived.Test.YtckdfmalmdclgaaLevels
import Derived.Test.YtckdfmalmdclgaaSmallVal
import Derived.Test.YtckdfmalmdclgaaPitch
namespace Go.Proofs.Ytckdfmalmdclgaa
open Go Ieee

theorem nearest_congr (f : Format) (s : Bool) {m m' : Nat} {e e' : Int} (h : mval m e = mval m' e') : f.nearest s m e = f.nearest s m' e' := by
  have key : ∀ (m m' : Nat) (e e' : Int), e ≤ e' → mval m e = mval m' e' → f.nearest s m e = f.nearest s m' e' := fun m m' e e' hle h => by
    obtain ⟨k, rfl⟩ : ∃ k : Nat, e' = e + k := ⟨(e' - e).toNat, by omega⟩
    have h2 := mval_scale' m' k e
    rw [← h] at h2
    have : m' * 2 ^ k = m := Nat.le_antisymm (le_of_mval (e := e) (by rw [h2]; exact Rat.le_refl)) (le_of_mval (e := e) (by rw [h2]; exact Rat.le_refl))
    have h3 := nearest_scale f s m' (e + k) k
    rw [this, show e + (k : Int) - k = e by omega] at h3
    exact h3
  rcases Int.le_total e e' with hle | hle
  · exact key m m' e e' hle h
  · exact (key m' m e' e hle h.symm).symm

/-- The square of a sample, in double precision. -/
def sq (x : Nat) : Nat := fo .mul .f64 (wid x) (wid x)
theorem sq_word {x : Nat} (hx : fin .f32 x) : ∃ (m : Nat) (e : Int), mval m e = fv .f32 x * fv .f32 x ∧ sq x = double.nearest false m e := by
  obtain ⟨⟨s, m, e, hr⟩, hv⟩ := wid_fin hx
  have hv' : dval (.number s m e) = fv .f32 x := by rw [← hv]; unfold fv; rw [hr]
  refine ⟨m * m, e + e, ?_, ?_⟩
  · rw [← hv']
    have := product_val s s m m e e
    rw [Bool.xor_self] at this
    rw [← this]; rfl
  · have : sq x = FloatKind.f64.format.write (.number (s ^^ s) (m * m) (e + e)) := fo_some (by
      show ((FloatKind.f64.format.read (wid x)).product (FloatKind.f64.format.read (wid x))).map FloatKind.f64.format.write = _
      rw [hr]; rfl)
    rw [this, Bool.xor_self]; rfl
theorem sq_congr {x y : Nat} (hx : fin .f32 x) (hy : fin .f32 y) (h : fv .f32 x * fv .f32 x = fv .f32 y * fv .f32 y) : sq x = sq y := by
  obtain ⟨m, e, h1, h2⟩ := sq_word hx
  obtain ⟨m', e', h3, h4⟩ := sq_word hy
  rw [h2, h4]
  exact nearest_congr _ _ (by rw [h1, h3, h])

def Good (x : Nat) : Prop := fin .f32 x ∧ ab (fv .f32 x) ≤ 128
theorem ab_sq (x : Rat) : ab x * ab x = x * x := by
  unfold ab
  rcases Rat.le_total (a := 0) (b := x) with h | h
  · rw [show max x (-x) = x by grind]
  · rw [show max x (-x) = -x by grind]; grind
theorem sq_spec {x : Nat} (h : Good x) : fin .f64 (sq x) ∧ 0 ≤ fv .f64 (sq x) ∧ fv .f64 (sq x) ≤ 20000 := by
  obtain ⟨hx, hb⟩ := h
  obtain ⟨hw, hv⟩ := wid_fin hx
  obtain ⟨cu, ce, ct⟩ := consts64
  have h0 := ab_nonneg (fv .f32 x)
  have hsq : fv .f32 x * fv .f32 x ≤ 16384 := by
    rw [← ab_sq]
    have a1 := Rat.mul_le_mul_of_nonneg_right hb h0
    have a2 := Rat.mul_le_mul_of_nonneg_left hb (show (0 : Rat) ≤ 128 by decide)
    grind
  have hpos : 0 ≤ fv .f32 x * fv .f32 x := by rw [← ab_sq]; exact Rat.mul_nonneg h0 h0
  obtain ⟨V, hV⟩ : ∃ V, fv .f32 x * fv .f32 x = V := ⟨_, rfl⟩
  rw [hV] at hsq hpos
  have hs := mul_spec hw hw (by rw [hv, hV, ab_of_nonneg hpos]; grind)
  rw [hv, hV] at hs
  obtain ⟨s1, s2, s3⟩ := hs
  have hz := zero_fin .f64
  have h4 := (s3 0 hz.1).1 (by rw [hz.2]; exact hpos)
  rw [hz.2] at h4
  have h5 := le_ab (fv .f64 (fo .mul .f64 (wid x) (wid x)) - V)
  rw [cu, ab_of_nonneg hpos] at s2
  exact ⟨s1, h4, by show fv .f64 (fo .mul .f64 (wid x) (wid x)) ≤ _; grind⟩

theorem energy_fold (xs : List Nat) (h : ∀ x ∈ xs, Good x) : ∀ (acc : Nat) (C : Rat), fin .f64 acc → 0 ≤ fv .f64 acc → fv .f64 acc ≤ C → 20000 ≤ C → C * 4 ^ xs.length ≤ 2 ^ 60 →
    fin .f64 (xs.foldl energyStep acc) ∧ fv .f64 acc ≤ fv .f64 (xs.foldl energyStep acc) ∧ (∀ x ∈ xs, fv .f64 (sq x) ≤ fv .f64 (xs.foldl energyStep acc)) := by
  induction xs with
  | nil => intro acc C h1 h2 h3 _ _; exact ⟨h1, Rat.le_refl, by simp⟩
  | cons x xs ih =>
    intro acc C h1 h2 h3 hC h4
    obtain ⟨s1, s2, s3⟩ := sq_spec (h x (by simp))
    obtain ⟨cu, ce, ct⟩ := consts64
    have hpow : (1 : Rat) ≤ 4 ^ xs.length := by
      have : (1 : Nat) ≤ 4 ^ xs.length := Nat.one_le_pow _ _ (by omega)
      have := Rat.natCast_le_natCast.2 this
      rw [Rat.natCast_pow] at this
      simpa using this
    rw [List.length_cons, Rat.pow_succ] at h4
    have hCC : C * 4 ≤ C * (4 ^ xs.length * 4) := by
      have := Rat.mul_le_mul_of_nonneg_left hpow (show (0 : Rat) ≤ C by grind)
      grind
    obtain ⟨V, hV⟩ : ∃ V, fv .f64 acc + fv .f64 (sq x) = V := ⟨_, rfl⟩
    have hpos : 0 ≤ V := by grind
    have hs := add_spec h1 s1 (by rw [hV, ab_of_nonneg hpos]; grind)
    rw [hV] at hs
    obtain ⟨r1, r2, r3⟩ := hs
    have t1 := (r3 acc h1).1 (by grind)
    have t2 := (r3 (sq x) s1).1 (by grind)
    have t3 := le_ab (fv .f64 (fo .add .f64 acc (sq x)) - V)
    rw [cu, ab_of_nonneg hpos] at r2
    have t4 : fv .f64 (fo .add .f64 acc (sq x)) ≤ C * 4 := by grind
    have hstep : energyStep acc x = fo .add .f64 acc (sq x) := rfl
    obtain ⟨i1, i2, i3⟩ := ih (fun y hy => h y (by simp [hy])) (energyStep acc x) (C * 4) (by rw [hstep]; exact r1) (by rw [hstep]; grind) (by rw [hstep]; exact t4) (by grind) (by grind)
    rw [List.foldl_cons]
    refine ⟨i1, ?_, fun y hy => ?_⟩
    · rw [hstep] at i2 ⊢; grind
    · rcases List.mem_cons.1 hy with rfl | hy
      · rw [hstep] at i2 ⊢; grind
      · exact i3 y hy

theorem peak_fold (xs : List Nat) (h : ∀ x ∈ xs, Good x) : ∀ acc : Nat, fin .f32 acc →
    fin .f32 (xs.foldl peakStep acc) ∧ fv .f32 acc ≤ fv .f32 (xs.foldl peakStep acc) ∧ (∀ x ∈ xs, ab (fv .f32 x) ≤ fv .f32 (xs.foldl peakStep acc)) ∧
      (xs.foldl peakStep acc = acc ∨ ∃ x ∈ xs, xs.foldl peakStep acc = x % 2147483648) := by
  induction xs with
  | nil => intro acc h1; exact ⟨h1, Rat.le_refl, by simp, .inl rfl⟩
  | cons x xs ih =>
    intro acc h1
    obtain ⟨a1, a2⟩ := abs32_fin (h x (by simp)).1
    rw [List.foldl_cons]
    cases t : fgt .f32 (x % 2147483648) acc
    · have hs : peakStep acc x = acc := by simp [peakStep, t]
      have hle : ab (fv .f32 x) ≤ fv .f32 acc := by
        rcases rat_lt_or_le (fv .f32 acc) (ab (fv .f32 x)) with hl | hl
        · have := (fgt_iff a1 h1).2 (by rw [a2]; exact hl)
          rw [t] at this; cases this
        · exact hl
      rw [hs]
      obtain ⟨i1, i2, i3, i4⟩ := ih (fun y hy => h y (by simp [hy])) acc h1
      refine ⟨i1, i2, fun y hy => ?_, ?_⟩
      · rcases List.mem_cons.1 hy with rfl | hy
        · grind
        · exact i3 y hy
      · rcases i4 with i4 | ⟨y, hy, i4⟩
        · exact .inl i4
        · exact .inr ⟨y, by simp [hy], i4⟩
    · have hs : peakStep acc x = x % 2147483648 := by simp [peakStep, t]
      have hlt := (fgt_iff a1 h1).1 t
      rw [hs]
      obtain ⟨i1, i2, i3, i4⟩ := ih (fun y hy => h y (by simp [hy])) _ a1
      refine ⟨i1, by grind, fun y hy => ?_, ?_⟩
      · rcases List.mem_cons.1 hy with rfl | hy
        · grind
        · exact i3 y hy
      · rcases i4 with i4 | ⟨y, hy, i4⟩
        · exact .inr ⟨x, by simp, i4⟩
        · exact .inr ⟨y, by simp [hy], i4⟩

/-! ### What the law asks -/
section
variable {xs : List Nat} (h : ∀ x ∈ xs, Good x)
include h
theorem peak_top {x : Nat} (hx : x ∈ xs) : fgt .f32 x (peakL xs) = false ∧ fgt .f32 (Op.negFloat .f32 x) (peakL xs) = false := by
  obtain ⟨p1, p2, p3, p4⟩ := peak_fold xs h 0 (zero_fin _).1
  have hp := p3 x hx
  have hab := le_ab (fv .f32 x)
  obtain ⟨n1, n2⟩ := neg_fin (h x hx).1
  constructor
  · cases t : fgt .f32 x (peakL xs)
    · rfl
    · have := (fgt_iff (h x hx).1 p1).1 t; exfalso; grind
  · cases t : fgt .f32 (Op.negFloat .f32 x) (peakL xs)
    · rfl
    · have := (fgt_iff n1 p1).1 t; rw [n2] at this; exfalso; grind
theorem peak_met (hne : xs ≠ []) : ∃ x ∈ xs, (feq .f32 x (peakL xs) || feq .f32 (Op.negFloat .f32 x) (peakL xs)) = true := by
  obtain ⟨p1, p2, p3, p4⟩ := peak_fold xs h 0 (zero_fin _).1
  have key : ∃ x ∈ xs, ab (fv .f32 x) = fv .f32 (peakL xs) := by
    rcases p4 with p4 | ⟨x, hx, p4⟩
    · obtain ⟨x, hx⟩ := List.exists_mem_of_ne_nil xs hne
      refine ⟨x, hx, ?_⟩
      have := p3 x hx
      have h0 := ab_nonneg (fv .f32 x)
      have e : peakL xs = 0 := p4
      rw [e, (zero_fin .f32).2]
      rw [p4, (zero_fin .f32).2] at this
      grind
    · refine ⟨x, hx, ?_⟩
      have e : peakL xs = x % 2147483648 := p4
      rw [e, (abs32_fin (h x hx).1).2]
  obtain ⟨x, hx, hv⟩ := key
  refine ⟨x, hx, ?_⟩
  obtain ⟨n1, n2⟩ := neg_fin (h x hx).1
  rw [Bool.or_eq_true]
  rcases Rat.le_total (a := 0) (b := fv .f32 x) with hs | hs
  · left
    exact (feq_iff (h x hx).1 p1).2 (by rw [ab_of_nonneg hs] at hv; exact hv)
  · right
    refine (feq_iff n1 p1).2 ?_
    rw [n2]
    rw [← ab_neg, ab_of_nonneg (by grind)] at hv; exact hv
theorem energy_fin (hl : xs.length ≤ 11) : fin .f64 (energyL xs) ∧ 0 ≤ fv .f64 (energyL xs) ∧ ∀ x ∈ xs, fv .f64 (sq x) ≤ fv .f64 (energyL xs) := by
  have hz := zero_fin .f64
  have hp : (20000 : Rat) * 4 ^ xs.length ≤ 2 ^ 60 := by
    have h1 : 20000 * 4 ^ xs.length ≤ 20000 * 4 ^ 11 := Nat.mul_le_mul_left _ (Nat.pow_le_pow_right (by omega) hl)
    have h2 : 20000 * 4 ^ xs.length ≤ 2 ^ 60 := Nat.le_trans h1 (by decide)
    have := Rat.natCast_le_natCast.2 h2
    rw [Rat.natCast_mul, Rat.natCast_pow, Rat.natCast_pow] at this
    exact this
  obtain ⟨e1, e2, e3⟩ := energy_fold xs h 0 20000 hz.1 (by rw [hz.2]; exact Rat.le_refl) (by rw [hz.2]; decide) Rat.le_refl hp
  rw [hz.2] at e2
  exact ⟨e1, e2, e3⟩
theorem energy_ge (hl : xs.length ≤ 11) {re : Nat} (hr : nrm .f64 re = energyL xs) (w1 w2 w3 : World) :
    fge .f64 re (fR .mul .f64 (cR .f32 (peakL xs) .f64 w1) (cR .f32 (peakL xs) .f64 w2) w3) = true := by
  obtain ⟨e1, e2, e3⟩ := energy_fin h hl
  obtain ⟨p1, p2, p3, p4⟩ := peak_fold xs h 0 (zero_fin _).1
  have hP : fin .f32 (peakL xs) := p1
  have key : fin .f64 (sq (peakL xs)) ∧ fv .f64 (sq (peakL xs)) ≤ fv .f64 (energyL xs) := by
    rcases p4 with p4 | ⟨x, hx, p4⟩
    · have e : peakL xs = 0 := p4
      rw [e]
      have hs : sq 0 = 0 := by decide +kernel
      rw [hs]
      exact ⟨(zero_fin _).1, by rw [(zero_fin _).2]; exact e2⟩
    · have e : peakL xs = x % 2147483648 := p4
      have ha := abs32_fin (h x hx).1
      have : sq (peakL xs) = sq x := by
        rw [e]; exact sq_congr ha.1 (h x hx).1 (by rw [ha.2]; exact ab_sq _)
      rw [this]
      exact ⟨(sq_spec (h x hx)).1, e3 x hx⟩
  have h1 : fge .f64 re (fR .mul .f64 (cR .f32 (peakL xs) .f64 w1) (cR .f32 (peakL xs) .f64 w2) w3) = fge .f64 (energyL xs) (sq (peakL xs)) := by
    refine fge_congr ?_ ?_
    · rw [hr, nrm_energyL]
    · rw [nrm_fR]
      unfold sq
      rw [nrm_fo]
      exact fo_congr (by rw [nrm_wid, nrm_cv (by decide)]) (by rw [nrm_wid, nrm_cv (by decide)])
  rw [h1]
  exact (fge_iff e1 key.1).2 key.2
theorem energy_more (hl : xs.length ≤ 11) {re rm : Nat} (hr : nrm .f64 re = energyL xs) (hm : nrm .f64 rm = energyL (xs ++ [1077936128])) (w : World) :
    feq .f64 rm (fR .add .f64 re 4621256167635550208 w) = true := by
  obtain ⟨e1, e2, e3⟩ := energy_fin h hl
  have h9 : fo .mul .f64 (wid 1077936128) (wid 1077936128) = 4621256167635550208 := by decide +kernel
  have hE : energyL (xs ++ [1077936128]) = fo .add .f64 (energyL xs) 4621256167635550208 := by
    unfold energyL
    rw [List.foldl_append]
    show energyStep _ _ = _
    unfold energyStep
    rw [h9]
  have hfin : isN .f64 (fo .add .f64 (energyL xs) 4621256167635550208) = false := by
    obtain ⟨s, m, e, hr⟩ := e1
    have h5 : FloatKind.f64.format.read 4621256167635550208 = .number false 5066549580791808 (-49) := by decide +kernel
    unfold fo
    have : floatBits .add .f64 (energyL xs) 4621256167635550208 ≠ none := by
      show ((FloatKind.f64.format.read (energyL xs)).sum (FloatKind.f64.format.read 4621256167635550208)).map _ ≠ none
      rw [hr, h5]; simp [Datum.sum]
    cases hb : floatBits .add .f64 (energyL xs) 4621256167635550208 with
    | none => exact absurd hb this
    | some r => exact floatBits_not_nan hb
  have h1 : feq .f64 rm (fR .add .f64 re 4621256167635550208 w) = feq .f64 (fo .add .f64 (energyL xs) 4621256167635550208) (fo .add .f64 (energyL xs) 4621256167635550208) := by
    refine feq_congr ?_ ?_
    · rw [hm, hE, nrm_fo]
    · rw [nrm_fR, nrm_fo]; exact fo_congr (by rw [hr, nrm_energyL]) rfl
  rw [h1, feq_self, hfin]; rfl
end
theorem pitch_eq {xs : List Nat} (hl : xs.length ≤ 11) (hne : xs ≠ []) {rp : Nat} (hr : nrm .f64 rp = pitch xs 1000) (w w' : World) :
    feq .f64 rp (fR .quo .f64 (fR .mul .f64 (floatOfInt .f64 (cross xs xs.length)) 4652007308841189376 w) (floatOfInt .f64 xs.length) w') = true := by
  have hlen : 0 < xs.length := List.length_pos_iff.2 hne
  have hcl := cross_le xs xs.length
  have hb : FloatKind.f64.format.binade = 4503599627370496 := by decide +kernel
  obtain ⟨c1, c2⟩ := int_exact .f64 (cross xs xs.length) (by rw [hb]; omega)
  obtain ⟨n1, n2⟩ := int_exact .f64 xs.length (by rw [hb]; omega)
  obtain ⟨t1, t2⟩ := int_exact .f64 1000 (by rw [hb]; decide)
  have e1000 : floatOfInt .f64 1000 = 4652007308841189376 := by decide +kernel
  have hp : pitch xs 1000 = fo .quo .f64 (fo .mul .f64 (floatOfInt .f64 (cross xs xs.length)) 4652007308841189376) (floatOfInt .f64 xs.length) := by
    unfold pitch; rw [if_neg (by omega), e1000]
  obtain ⟨cu, ce, ct⟩ := consts64
  have hC : ((cross xs xs.length : Nat) : Rat) ≤ 11 := by
    have := Rat.natCast_le_natCast.2 (Nat.le_trans hcl hl)
    simpa using this
  have hC0 : (0 : Rat) ≤ ((cross xs xs.length : Nat) : Rat) := Rat.natCast_nonneg
  rw [Rat.intCast_natCast] at c2 n2
  have hm := mul_spec c1 t1 (by
    rw [c2, t2, ab_of_nonneg (by simp; grind)]; simp; grind)
  rw [e1000] at hm
  obtain ⟨m1, m2, _⟩ := hm
  have hN : (1 : Rat) ≤ ((xs.length : Nat) : Rat) := by
    have := Rat.natCast_le_natCast.2 hlen
    simpa using this
  have hnan : isN .f64 (pitch xs 1000) = false := by
    rw [hp]
    obtain ⟨s, m, e, hr⟩ := m1
    obtain ⟨s', m', e', hr'⟩ := n1
    have hm0 : m' ≠ 0 := by
      rintro rfl
      have : fv .f64 (floatOfInt .f64 xs.length) = 0 := by unfold fv; rw [hr', dval_num, mval_zero]; cases s' <;> simp
      rw [n2] at this; grind
    unfold fo at hr ⊢
    generalize (floatBits .mul .f64 (floatOfInt .f64 (cross xs xs.length)) 4652007308841189376).getD (qn .f64) = P at *
    have : floatBits .quo .f64 P (floatOfInt .f64 xs.length) ≠ none := by
      show (Datum.quotient _ (FloatKind.f64.format.read P) (FloatKind.f64.format.read _)).map _ ≠ none
      rw [hr, hr']; simp [Datum.quotient, hm0]
    cases hb : floatBits .quo .f64 P (floatOfInt .f64 xs.length) with
    | none => exact absurd hb this
    | some r => exact floatBits_not_nan hb
  have h1 : feq .f64 rp (fR .quo .f64 (fR .mul .f64 (floatOfInt .f64 (cross xs xs.length)) 4652007308841189376 w) (floatOfInt .f64 xs.length) w') = feq .f64 (pitch xs 1000) (pitch xs 1000) := by
    refine feq_congr ?_ ?_
    · rw [hr, hp, nrm_fo]
    · rw [nrm_fR, hp, nrm_fo]; exact fo_congr (by rw [nrm_fR, nrm_fo]) rfl
  rw [h1, feq_self, hnan]; rfl
end Go.Proofs.Ytckdfmalmdclgaa
