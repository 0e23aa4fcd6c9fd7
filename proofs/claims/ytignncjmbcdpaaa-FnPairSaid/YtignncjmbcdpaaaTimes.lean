/-
Products of complex numbers: impl and spec, both widths; impl.IsMode.
-/
import Derived.Test.YtignncjmbcdpaaaMakeMode
namespace Go.Proofs.Ytignncjmbcdpaaa
open Go Go.RowKit Ieee

/-- A product, part by part. -/
def mulRe (a b c d : Nat) : Nat := fo .sub .f64 (fo .mul .f64 a c) (fo .mul .f64 b d)
def mulIm (a b c d : Nat) : Nat := fo .add .f64 (fo .mul .f64 a d) (fo .mul .f64 b c)
def TimesPost (a b c d : Nat) (w : World) (e : Ending) (w' : World) : Prop :=
  ∃ p q n, e = .returned (.complex .f64 p q) ∧ nrm .f64 p = nrm .f64 (mulRe a b c d) ∧ nrm .f64 q = nrm .f64 (mulIm a b c d) ∧ wfk .f64 p ∧ wfk .f64 q ∧ w.drewN n = w'

set_option maxHeartbeats 400000 in
theorem implTimes_any (a b c d : Nat) (w : World) : Calls Try.prog 79 #[.complex .f64 a b, .complex .f64 c d] w (TimesPost a b c d w) := by
  go_enter Try.func79, Try.ntmps79
  go_wp2_with fail
  go_ret
  exact ⟨_, _, _, rfl, fRo (fRo rfl rfl _) (fRo rfl rfl _) _, fRo (fRo rfl rfl _) (fRo rfl rfl _) _, fR_lt _ _ _ _ _, fR_lt _ _ _ _ _, rfl⟩

set_option maxHeartbeats 400000 in
theorem specTimes_any (a b c d : Nat) (w : World) : Calls Try.prog 25 #[.complex .f64 a b, .complex .f64 c d] w (TimesPost a b c d w) := by
  go_enter Try.func25, Try.ntmps25
  go_wp2_with fail
  go_ret
  exact ⟨_, _, _, rfl, fRo (fRo rfl rfl _) (fRo rfl rfl _) _, fRo (fRo rfl rfl _) (fRo rfl rfl _) _, fR_lt _ _ _ _ _, fR_lt _ _ _ _ _, rfl⟩

set_option maxHeartbeats 400000 in
theorem implWiden_any (a b : Nat) (w : World) (ha : wfk .f32 a) (hb : wfk .f32 b) : Calls Try.prog 90 #[.complex .f32 a b] w fun e w' => ∃ p q n, e = .returned (.complex .f64 p q) ∧ nrm .f64 p = wid a ∧ nrm .f64 q = wid b ∧ wfk .f64 p ∧ wfk .f64 q ∧ w.drewN n = w' := by
  have H1 := Lib.hid (fun w => cR_lt (s := .f32) (k := .f64) ha w)
  have H2 := Lib.hid (fun w => cR_lt (s := .f32) (k := .f64) hb w)
  go_enter Try.func90, Try.ntmps90
  go_wp2_with fail
  go_ret
  exact ⟨_, _, _, rfl, nrm_wid _ _, nrm_wid _ _, H1.out _, H2.out _, rfl⟩

/-- A double made a single. -/
def nar (x : Nat) : Nat := (floatToFloatBits .f64 x .f32).getD 0
theorem nar_ok {x : Nat} (hx : fin .f64 x) (h : ab (fv .f64 x) ≤ top .f32) : (∀ w, cR .f64 x .f32 w = nar x) ∧ RoundOf .f32 (fv .f64 x) (nar x) := by
  obtain ⟨r, h1, h2⟩ := narrow_spec hx h
  have e : nar x = r := by unfold nar; rw [h1]; rfl
  refine ⟨fun w => ?_, by rw [e]; exact h2⟩
  rw [e]; unfold cR; rw [h1]

/-- The words of a product in single precision. -/
def sRe (a b c d : Nat) : Nat := nar (mulRe (wid a) (wid b) (wid c) (wid d))
def sIm (a b c d : Nat) : Nat := nar (mulIm (wid a) (wid b) (wid c) (wid d))
/-- The product in double precision is finite, and not too great for single precision. -/
structure Mild (a b c d : Nat) : Prop where
  fr : fin .f64 (mulRe (wid a) (wid b) (wid c) (wid d))
  fi : fin .f64 (mulIm (wid a) (wid b) (wid c) (wid d))
  tr : ab (fv .f64 (mulRe (wid a) (wid b) (wid c) (wid d))) ≤ top .f32
  ti : ab (fv .f64 (mulIm (wid a) (wid b) (wid c) (wid d))) ≤ top .f32

set_option maxHeartbeats 400000 in
theorem implNarrow_any (x y : Nat) (w : World) (hx : fin .f64 x) (hy : fin .f64 y) (tx : ab (fv .f64 x) ≤ top .f32) (ty : ab (fv .f64 y) ≤ top .f32) :
    Calls Try.prog 111 #[.complex .f64 x y] w fun e w' => ∃ n, e = .returned (.complex .f32 (nar x) (nar y)) ∧ w.drewN n = w' := by
  have H1 := Lib.hid (nar_ok hx tx).1
  have H2 := Lib.hid (nar_ok hy ty).1
  clear hx hy tx ty
  go_enter Try.func111, Try.ntmps111
  go_wp2_with fail
  go_ret
  exact ⟨_, by rw [← H1.out, ← H2.out]; rfl, rfl⟩

theorem mul_congr {a b c d a' b' c' d' : Nat} (ha : nrm .f64 a = nrm .f64 a') (hb : nrm .f64 b = nrm .f64 b') (hc : nrm .f64 c = nrm .f64 c') (hd : nrm .f64 d = nrm .f64 d') :
    mulRe a b c d = mulRe a' b' c' d' ∧ mulIm a b c d = mulIm a' b' c' d' := by
  unfold mulRe mulIm
  constructor
  · exact fo_congr (by rw [nrm_fo, nrm_fo]; exact fo_congr ha hc) (by rw [nrm_fo, nrm_fo]; exact fo_congr hb hd)
  · exact fo_congr (by rw [nrm_fo, nrm_fo]; exact fo_congr ha hd) (by rw [nrm_fo, nrm_fo]; exact fo_congr hb hc)

set_option maxHeartbeats 400000 in
theorem implSingle_any (a b c d : Nat) (w : World) (wa : wfk .f32 a) (wb : wfk .f32 b) (wc : wfk .f32 c) (wd : wfk .f32 d) (h : Mild a b c d) :
    Calls Try.prog 91 #[.complex .f32 a b, .complex .f32 c d] w fun e w' => ∃ n, e = .returned (.complex .f32 (sRe a b c d) (sIm a b c d)) ∧ w.drewN n = w' := by
  have H := Lib.hid h
  clear h
  go_enter Try.func91, Try.ntmps91
  go_wp2_with fail
  refine (implWiden_any a b _ wa wb).mono ?_
  rintro e w' ⟨a', b', n1, rfl, ha, hb, _, _, rfl⟩
  have HA := Lib.hid ha
  have HB := Lib.hid hb
  clear ha hb
  go_wp2_with fail
  refine (implWiden_any c d _ wc wd).mono ?_
  rintro e w' ⟨c', d', n2, rfl, hc, hd, _, _, rfl⟩
  have E := Lib.hid (mul_congr (a' := wid a) (b' := wid b) (c' := wid c) (d' := wid d) (by rw [HA.out, nrm_cv (by decide)]) (by rw [HB.out, nrm_cv (by decide)]) (by rw [hc, nrm_cv (by decide)]) (by rw [hd, nrm_cv (by decide)]))
  clear hc hd
  go_wp2_with fail
  refine (implTimes_any a' b' c' d' _).mono ?_
  rintro e w' ⟨p, q, n3, rfl, hp, hq, _, _, rfl⟩
  rw [E.out.1, nrm_fin H.out.fr] at hp
  rw [E.out.2, nrm_fin H.out.fi] at hq
  have P := Lib.hid (nrm_fin_eq hp H.out.fr)
  have Q := Lib.hid (nrm_fin_eq hq H.out.fi)
  clear hp hq
  go_wp2_with fail
  refine (implNarrow_any p q _ (by rw [P.out]; exact H.out.fr) (by rw [Q.out]; exact H.out.fi) (by rw [P.out]; exact H.out.tr) (by rw [Q.out]; exact H.out.ti)).mono ?_
  rintro e w' ⟨n4, rfl, rfl⟩
  go_wp2_with fail
  go_ret
  exact ⟨_, by rw [P.out, Q.out]; rfl, rfl⟩

set_option maxHeartbeats 400000 in
theorem specSingle_any (a b c d : Nat) (w : World) (h : Mild a b c d) :
    Calls Try.prog 92 #[.complex .f32 a b, .complex .f32 c d] w fun e w' => ∃ n, e = .returned (.complex .f32 (sRe a b c d) (sIm a b c d)) ∧ w.drewN n = w' := by
  have H := Lib.hid h
  have E := Lib.hid (fun w1 w2 w3 w4 => mul_congr (a := cR .f32 a .f64 w1) (b := cR .f32 b .f64 w2) (c := cR .f32 c .f64 w3) (d := cR .f32 d .f64 w4) (a' := wid a) (b' := wid b) (c' := wid c) (d' := wid d) (by rw [nrm_wid, nrm_cv (by decide)]) (by rw [nrm_wid, nrm_cv (by decide)]) (by rw [nrm_wid, nrm_cv (by decide)]) (by rw [nrm_wid, nrm_cv (by decide)]))
  clear h
  go_enter Try.func92, Try.ntmps92
  go_wp2_with fail
  refine (specTimes_any _ _ _ _ _).mono ?_
  rintro e w' ⟨p, q, n3, rfl, hp, hq, _, _, rfl⟩
  rw [(E.out _ _ _ _).1, nrm_fin H.out.fr] at hp
  rw [(E.out _ _ _ _).2, nrm_fin H.out.fi] at hq
  have P := Lib.hid (nrm_fin_eq hp H.out.fr)
  have Q := Lib.hid (nrm_fin_eq hq H.out.fi)
  have N1 := Lib.hid (nar_ok H.out.fr H.out.tr).1
  have N2 := Lib.hid (nar_ok H.out.fi H.out.ti).1
  clear hp hq
  go_wp2_with fail
  go_ret
  exact ⟨_, by rw [P.out, Q.out, N1.out, N2.out]; rfl, rfl⟩
end Go.Proofs.Ytignncjmbcdpaaa
