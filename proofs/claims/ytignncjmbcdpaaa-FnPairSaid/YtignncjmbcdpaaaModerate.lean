/-
spec.MakeModerate: a number whose size is from 2^-200 to 2^200.
-/
import Derived.Test.YtignncjmbcdpaaaCplxWalk
import Derived.Test.YtignncjmbcdpaaaBigSum
namespace Go.Proofs.Ytignncjmbcdpaaa
open Go Go.RowKit Ieee

/-- A word that is finite, told by its difference with itself. -/
theorem fin_of_sub {b : Nat} (h : feq .f64 (fo .sub .f64 b b) 0 = true) : fin .f64 b := by
  have hn := (feq_nan h).1
  cases hr : FloatKind.f64.format.read b with
  | number s m e => exact ⟨s, m, e, hr⟩
  | infinity s =>
    exfalso
    have : floatBits .sub .f64 b b = none := by
      show ((FloatKind.f64.format.read b).sum (FloatKind.f64.format.read b).opposite).map FloatKind.f64.format.write = none
      rw [hr]; cases s <;> rfl
    unfold fo at hn
    rw [this] at hn
    have := isN_qn .f64
    simp [this] at hn
  | nan s t =>
    exfalso
    have : floatBits .sub .f64 b b = none := by
      show ((FloatKind.f64.format.read b).sum (FloatKind.f64.format.read b).opposite).map FloatKind.f64.format.write = none
      rw [hr]; rfl
    unfold fo at hn
    rw [this] at hn
    have := isN_qn .f64
    simp [this] at hn

structure Mod (a b : Nat) : Prop where
  fa : fin .f64 a
  fb : fin .f64 b
  wa : wfk .f64 a
  wb : wfk .f64 b
  lo : pw (-201) ≤ ab (fv .f64 a) + ab (fv .f64 b)
  hi : ab (fv .f64 a) + ab (fv .f64 b) ≤ 2 ^ 202

theorem lo_fin : fin .f64 3706462493325918208 ∧ fv .f64 3706462493325918208 = pw (-200) := by
  have h : FloatKind.f64.format.read 3706462493325918208 = .number false 4503599627370496 (-252) := by decide +kernel
  obtain ⟨h1, h2⟩ := fin_of_read h
  refine ⟨h1, ?_⟩
  rw [h2, dval_num, show ((-200 : Int)) = 52 + -252 by decide, pw_add]
  unfold mval
  simp only [Bool.false_eq_true, if_false]
  congr 1
theorem hi_fin : fin .f64 5507902344274116608 ∧ fv .f64 5507902344274116608 = 2 ^ 200 := by
  have h : FloatKind.f64.format.read 5507902344274116608 = .number false 4503599627370496 148 := by decide +kernel
  obtain ⟨h1, h2⟩ := fin_of_read h
  refine ⟨h1, ?_⟩
  rw [h2, dval_num]
  unfold mval pw
  simp only [Bool.false_eq_true, if_false]
  grind

theorem mod_of {a b r1 r2 : Nat} (wa : wfk .f64 a) (wb : wfk .f64 b) (fa : fin .f64 a) (fb : fin .f64 b) (hr1 : nrm .f64 r1 = fo .add .f64 (absB a) (absB b)) (hr2 : nrm .f64 r2 = fo .add .f64 (absB a) (absB b))
    (h1 : flt .f64 r1 3706462493325918208 = false) (h2 : fgt .f64 r2 5507902344274116608 = false) : Mod a b := by
  obtain ⟨l1, l2⟩ := lo_fin
  obtain ⟨u1, u2⟩ := hi_fin
  obtain ⟨a1, a2⟩ := absB_fin fa
  obtain ⟨b1, b2⟩ := absB_fin fb
  have n1 := ab_nonneg (fv .f64 a)
  have n2 := ab_nonneg (fv .f64 b)
  have e900 : (2 : Rat) ^ 203 ≤ pw 900 := by
    have : pw 203 ≤ pw 900 := pw_mono (by omega)
    have : pw 203 = 2 ^ 203 := by unfold pw; grind
    grind
  have e900' : pw 900 ≤ top .f64 := pw_mono (show (900 : Int) ≤ 1000 by omega)
  have hlt : ab (fv .f64 a) + ab (fv .f64 b) < pw 900 := by
    rcases rat_lt_or_le (ab (fv .f64 a) + ab (fv .f64 b)) (pw 900) with h | h
    · exact h
    · exfalso
      have hb := big_sum a1 b1 (by rw [a2, b2]; exact h) u1 (by rw [u2]; grind)
      have : fgt .f64 r2 5507902344274116608 = fgt .f64 (fo .add .f64 (absB a) (absB b)) 5507902344274116608 := fgt_congr (by rw [hr2, nrm_fo]) rfl
      rw [h2, hb] at this; cases this
  have hsz := size_spec n1 n2 (by grind) a1 b1 a2 b2
  obtain rfl : r1 = fo .add .f64 (absB a) (absB b) := nrm_fin_eq hr1 hsz.1
  obtain rfl : r2 = fo .add .f64 (absB a) (absB b) := nrm_fin_eq hr2 hsz.1
  generalize fo .add .f64 (absB a) (absB b) = s at *
  have g1 : fv .f64 3706462493325918208 ≤ fv .f64 s := by
    rcases rat_lt_or_le (fv .f64 s) (fv .f64 3706462493325918208) with h | h
    · have := (flt_iff hsz.1 l1).2 h
      rw [h1] at this; cases this
    · exact h
  have g2 : fv .f64 s ≤ fv .f64 5507902344274116608 := by
    rcases rat_lt_or_le (fv .f64 5507902344274116608) (fv .f64 s) with h | h
    · have := (fgt_iff hsz.1 u1).2 h
      rw [h2] at this; cases this
    · exact h
  rw [l2] at g1
  rw [u2] at g2
  obtain ⟨k1, k2, k3⟩ := consts64
  have hn := hsz.2.1
  obtain ⟨S, hS⟩ : ∃ S, ab (fv .f64 a) + ab (fv .f64 b) = S := ⟨_, rfl⟩
  have hS0 : 0 ≤ S := by grind
  rw [hS, k1, ab_of_nonneg (x := S) hS0] at hn
  have hn1 := le_ab (fv .f64 s - S)
  have p200 : pw (-200) = 2 * pw (-201) := by rw [show (-200 : Int) = -201 + 1 by decide, pw_succ]
  have p201 := pw_pos (-201)
  have hel : eta .f64 ≤ pw (-201) / 2 ^ 60 := eta_small (Rat.le_refl)
  refine ⟨fa, fb, wa, wb, ?_, ?_⟩
  · rw [hS]
    rcases rat_lt_or_le S (pw (-201)) with h | h
    · exfalso; grind
    · exact h
  · rw [hS]
    rcases rat_lt_or_le (2 ^ 202) S with h | h
    · exfalso; grind
    · grind
theorem mod_else : Mod 4604930618986332160 13837309855095848960 := by
  have h1 : FloatKind.f64.format.read 4604930618986332160 = .number false 6755399441055744 (-53) := by decide +kernel
  have h2 : FloatKind.f64.format.read 13837309855095848960 = .number true 6755399441055744 (-51) := by decide +kernel
  obtain ⟨a1, a2⟩ := fin_of_read h1
  obtain ⟨b1, b2⟩ := fin_of_read h2
  have e1 : fv .f64 4604930618986332160 = 3 / 4 := by
    rw [a2, dval_num]; unfold mval pw; simp only [Bool.false_eq_true, if_false]; grind
  have e2 : fv .f64 13837309855095848960 = -3 := by
    rw [b2, dval_num]; unfold mval pw; simp only [if_true]; grind
  have hp : pw (-201) ≤ pw 0 := pw_mono (by omega)
  rw [pw_zero] at hp
  have n1 : ab (3 / 4 : Rat) = 3 / 4 := ab_of_nonneg (by grind)
  have n2 : ab (-3 : Rat) = 3 := by rw [ab_neg, ab_of_nonneg (by grind)]
  refine ⟨a1, b1, by rw [wfk_64]; omega, by rw [wfk_64]; omega, ?_, ?_⟩
  · rw [e1, e2, n1, n2]; grind
  · rw [e1, e2, n1, n2]; grind

set_option maxHeartbeats 400000 in
theorem double_any (g : Nat) (w : World) (h : Cur w g) :
    Calls Try.prog 81 #[.pointer (some ⟨g, 0, none⟩)] w fun e w' => ∃ a b : Nat, e = .returned (.complex .f64 a b) ∧ wfk .f64 a ∧ wfk .f64 b ∧ CurStep w w' g := by
  go_enter Try.func81, Try.ntmps81
  go_wp2_with fail
  refine (any_any g _ h).mono ?_
  rintro e w1 ⟨a, rfl, ha, h1⟩
  go_wp2_with fail
  refine (any_any g _ h1.1).mono ?_
  rintro e w2 ⟨b, rfl, hb, h2⟩
  go_wp2_with fail
  go_ret
  exact ⟨_, _, rfl, ha, hb, h1.trans h2⟩

set_option maxRecDepth 100000 in
set_option maxHeartbeats 400000 in
theorem moderate_any (A : Option Addr) (c : Nat) (bs : List Int) (w : World) (hr : Rd w A (bs.map (.int .u8))) (hm : bs.length ≤ 1048576) :
    Calls Try.prog 26 #[.slice A bs.length c] w fun e w' => ∃ a b : Nat, e = .returned (.complex .f64 a b) ∧ Mod a b ∧ Below w.heap.size w w' := by
  go_enter Try.func26, Try.ntmps26
  go_wp2_with fail
  refine (new_any A c bs w hr hm).mono ?_
  rintro e w1 ⟨g, rfl, hg, hcur, hb1⟩
  go_wp2_with fail
  refine (double_any g _ hcur).mono ?_
  rintro e w2 ⟨a, b, rfl, ha, hb, hs⟩
  have hb2 : Below w.heap.size w w2 := hb1.trans (below_of_step hs hg hb1.size)
  clear hb1 hs hcur
  go_wp2_with fail
  refine (specFinite_any a b _).mono ?_
  rintro e w' ⟨n, rfl, rfl⟩
  cases hf : (feq .f64 (fo .sub .f64 a a) 0 && feq .f64 (fo .sub .f64 b b) 0)
  · go_wp2_with fail
    go_ret
    exact ⟨_, _, rfl, mod_else, below_drewN hb2 _⟩
  · have Hf := Lib.hid hf
    have B2 := Lib.hid hb2
    clear hf hb2
    go_wp2_with fail
    refine (specSize_any a b _).mono ?_
    rintro e w' ⟨r1, n1, rfl, hr1, wr1, rfl⟩
    have Hr1 := Lib.hid hr1
    clear hr1
    cases t1 : flt .f64 r1 3706462493325918208
    · go_wp2_with fail
      refine (specSize_any a b _).mono ?_
      rintro e w' ⟨r2, n2, rfl, hr2, wr2, rfl⟩
      have Hr2 := Lib.hid hr2
      clear hr2
      cases t2 : fgt .f64 r2 5507902344274116608
      · go_wp2_with fail
        go_ret
        have hff := Hf.out
        rw [Bool.and_eq_true] at hff
        exact ⟨_, _, rfl, mod_of ha hb (fin_of_sub hff.1) (fin_of_sub hff.2) Hr1.out Hr2.out t1 t2, below_drewN B2.out _⟩
      · go_wp2_with fail
        go_ret
        exact ⟨_, _, rfl, mod_else, below_drewN B2.out _⟩
    · go_wp2_with fail
      go_ret
      exact ⟨_, _, rfl, mod_else, below_drewN B2.out _⟩
end Go.Proofs.Ytignncjmbcdpaaa
