/-
impl.UnitOf, impl.ScaleDouble, laws.small.
-/
import Derived.Test.YtignncjmbcdpaaaModerate
import Derived.Test.YtignncjmbcdpaaaAids
namespace Go.Proofs.Ytignncjmbcdpaaa
open Go Go.RowKit Ieee

theorem abs64_fin {b : Nat} (h : fin .f64 b) : fin .f64 (abs64 b) ∧ fv .f64 (abs64 b) = ab (fv .f64 b) := by
  obtain ⟨s, m, e, hr⟩ := h
  have ha : FloatKind.f64.format.read (abs64 b) = .number false m e := by
    show double.read _ = _
    rw [abs64_read, show double.read b = .number s m e from hr]; rfl
  refine ⟨⟨_, _, _, ha⟩, ?_⟩
  unfold fv
  rw [ha, hr, dval_ab, dval_num]; rfl
theorem abs64_lt (b : Nat) : wfk .f64 (abs64 b) := by rw [wfk_64]; unfold abs64; omega

/-- The size of a number, as a word. -/
def szW (a b : Nat) : Nat := fo .add .f64 (abs64 a) (abs64 b)
theorem szW_ok {a b : Nat} (h : Mod a b) : fin .f64 (szW a b) ∧ SizeIs (ab (fv .f64 a) + ab (fv .f64 b)) (fv .f64 (szW a b)) := by
  obtain ⟨a1, a2⟩ := abs64_fin h.fa
  obtain ⟨b1, b2⟩ := abs64_fin h.fb
  have := top210
  have hi := h.hi
  have hsz := size_spec (ab_nonneg _) (ab_nonneg _) (by grind) a1 b1 a2 b2
  exact ⟨hsz.1, sizeIs_of h.lo h.hi hsz⟩

theorem zeros {s x : Nat} (hs : fin .f64 s) (h0 : 0 < fv .f64 s) (hx : fin .f64 x) (hb : ab (fv .f64 x) ≤ 2 ^ 203) (hc : ab (fv .f64 s) ≤ 2 ^ 204) :
    fin .f64 (fo .add .f64 s (fo .mul .f64 (fo .quo .f64 0 s) 0)) ∧ fv .f64 (fo .add .f64 s (fo .mul .f64 (fo .quo .f64 0 s) 0)) = fv .f64 s ∧
    (∀ y, fin .f64 y → ab (fv .f64 y) ≤ 2 ^ 203 → fin .f64 (fo .add .f64 x (fo .mul .f64 y (fo .quo .f64 0 s))) ∧ fv .f64 (fo .add .f64 x (fo .mul .f64 y (fo .quo .f64 0 s))) = fv .f64 x ∧
      fin .f64 (fo .sub .f64 x (fo .mul .f64 y (fo .quo .f64 0 s))) ∧ fv .f64 (fo .sub .f64 x (fo .mul .f64 y (fo .quo .f64 0 s))) = fv .f64 x) := by
  obtain ⟨z1, z2⟩ := zero_fin .f64
  have ht := top210
  have hz0 : ab (0 : Rat) = 0 := ab_of_nonneg Rat.le_refl
  have e0 : (0 : Rat) / fv .f64 s = 0 := by grind
  have hr := div_spec z1 hs (by grind) (by rw [z2, e0, hz0]; grind)
  rw [z2, e0] at hr
  have rv := hr.exact z1 z2
  have hrd := mul_spec hr.1 z1 (by rw [rv, z2, Rat.zero_mul, hz0]; grind)
  rw [rv, z2, Rat.zero_mul] at hrd
  have rdv := hrd.exact z1 z2
  have hm := add_spec hs hrd.1 (by rw [rdv, Rat.add_zero]; grind)
  rw [rdv, Rat.add_zero] at hm
  refine ⟨hm.1, hm.exact hs rfl, fun y hy hyb => ?_⟩
  have hbr := mul_spec hy hr.1 (by rw [rv, Rat.mul_zero, hz0]; grind)
  rw [rv, Rat.mul_zero] at hbr
  have brv := hbr.exact z1 z2
  have h1 := add_spec hx hbr.1 (by rw [brv, Rat.add_zero]; grind)
  rw [brv, Rat.add_zero] at h1
  have e : fv .f64 x - 0 = fv .f64 x := by grind
  have h2 := sub_spec hx hbr.1 (by rw [brv, e]; grind)
  rw [brv, e] at h2
  exact ⟨h1.1, h1.exact hx rfl, h2.1, h2.exact hx rfl⟩

/-- What UnitOf returns. -/
structure UnitAt (a b u v : Nat) : Prop where
  fu : fin .f64 u
  fv' : fin .f64 v
  nu : ab (fv .f64 u - fv .f64 a / fv .f64 (szW a b)) ≤ ab (fv .f64 a) / fv .f64 (szW a b) / 2 ^ 52 + eta .f64
  nv : ab (fv .f64 v - fv .f64 b / fv .f64 (szW a b)) ≤ ab (fv .f64 b) / fv .f64 (szW a b) / 2 ^ 52 + eta .f64

theorem unitAt {a b : Nat} (h : Mod a b) : UnitAt a b (quoRe a b (szW a b) 0) (quoIm a b (szW a b) 0) := by
  obtain ⟨s1, s2⟩ := szW_ok h
  obtain ⟨p1, p2, p3, p4, p5⟩ := s2.pos
  have n1 := ab_nonneg (fv .f64 a)
  have n2 := ab_nonneg (fv .f64 b)
  have hi := h.hi
  have hsp : ab (fv .f64 (szW a b)) ≤ 2 ^ 204 := by rw [ab_of_nonneg (by grind)]; grind
  have hg : fge .f64 (abs64 (szW a b)) (abs64 0) = true := by
    obtain ⟨a1, a2⟩ := abs64_fin s1
    refine (fge_iff a1 (zero_fin .f64).1).2 ?_
    rw [a2, (zero_fin .f64).2]; exact ab_nonneg _
  obtain ⟨m1, m2, hx⟩ := zeros s1 p5 h.fa (by grind) hsp
  obtain ⟨_, _, hy⟩ := zeros s1 p5 h.fb (by grind) hsp
  obtain ⟨x1, x2, _, _⟩ := hx b h.fb (by grind)
  obtain ⟨_, _, y3, y4⟩ := hy a h.fa (by grind)
  have q1 := unit_part s2 x1 m1 x2 m2 (by grind)
  have q2 := unit_part s2 y3 m1 y4 m2 (by grind)
  unfold quoRe quoIm
  rw [if_pos hg, if_pos hg]
  exact ⟨q1.1, q2.1, q1.2, q2.2⟩

set_option maxHeartbeats 400000 in
theorem equalDouble_any (a b c d : Nat) (w : World) : Calls Try.prog 127 #[.complex .f64 a b, .complex .f64 c d] w fun e w' => e = .returned (.bool (feq .f64 a c && feq .f64 b d)) ∧ w = w' := by
  cases t : feq .f64 a c
  · go_enter Try.func127, Try.ntmps127
    go_wp2_with fail
    go_ret
    exact ⟨rfl, rfl⟩
  · go_enter Try.func127, Try.ntmps127
    go_wp2_with fail
    go_ret
    exact ⟨rfl, rfl⟩

theorem finB_of {b : Nat} (h : fin .f64 b) : finB b = true := (finB_iff b).2 h

set_option maxRecDepth 100000 in
set_option maxHeartbeats 400000 in
theorem divide_fin (a b c d : Nat) (w : World) (fa : fin .f64 a) (fb : fin .f64 b) (fc : fin .f64 c) (fd : fin .f64 d) (wa : wfk .f64 a) (wb : wfk .f64 b) (wc : wfk .f64 c) (wd : wfk .f64 d)
    (hz : (feq .f64 c 0 && feq .f64 d 0) = false) (hp : fin .f64 (quoRe a b c d)) (hq : fin .f64 (quoIm a b c d)) :
    Calls Try.prog 80 #[.complex .f64 a b, .complex .f64 c d] w fun e w' => ∃ n, e = .returned (.tuple #[.complex .f64 (quoRe a b c d) (quoIm a b c d), .bool true]) ∧ wfk .f64 (quoRe a b c d) ∧ wfk .f64 (quoIm a b c d) ∧ w.drewN n = w' := by
  have Ha := Lib.hid (show (finB a && finB b) = true by rw [finB_of fa, finB_of fb]; rfl)
  have Hc := Lib.hid (show (finB c && finB d) = true by rw [finB_of fc, finB_of fd]; rfl)
  have Hz := Lib.hid hz
  have Hq := Lib.hid (show (finB (quoRe a b c d) && finB (quoIm a b c d)) = true by rw [finB_of hp, finB_of hq]; rfl)
  have Hp := Lib.hid (And.intro hp hq)
  clear hz hp hq fa fb fc fd
  go_enter Try.func80, Try.ntmps80
  go_wp2_with fail
  refine (finiteDouble_any a b _ wa wb).mono ?_
  rintro e w' ⟨rfl, rfl⟩
  rw [Ha.out]
  go_wp2_with fail
  refine (finiteDouble_any c d _ wc wd).mono ?_
  rintro e w' ⟨rfl, rfl⟩
  rw [Hc.out]
  go_wp2_with fail
  refine (equalDouble_any c d 0 0 _).mono ?_
  rintro e w' ⟨rfl, rfl⟩
  rw [Hz.out]
  go_wp2_with fail
  refine (quot_any a b c d _ wc wd).mono ?_
  rintro e w' ⟨p, q, n, rfl, h1, h2, w1, w2, rfl⟩
  have h1 : p = quoRe a b c d := nrm_fin_eq (h1.trans (nrm_fin Hp.out.1)) Hp.out.1
  have h2 : q = quoIm a b c d := nrm_fin_eq (h2.trans (nrm_fin Hp.out.2)) Hp.out.2
  rw [← h1, ← h2] at Hq
  have P1 := Lib.hid h1
  have P2 := Lib.hid h2
  have W1 := Lib.hid w1
  have W2 := Lib.hid w2
  clear w1 w2 h1 h2
  go_wp2_with fail
  refine (finiteDouble_any p q _ W1.out W2.out).mono ?_
  rintro e w' ⟨rfl, rfl⟩
  rw [Hq.out]
  go_wp2_with fail
  go_ret2
  exact ⟨_, by rw [← P1.out, ← P2.out]; rfl, by rw [← P1.out]; exact W1.out, by rw [← P2.out]; exact W2.out, rfl⟩

set_option maxRecDepth 100000 in
set_option maxHeartbeats 400000 in
theorem unitOf_any (a b : Nat) (w : World) (h : Mod a b) : Calls Try.prog 27 #[.complex .f64 a b] w fun e w' => ∃ u v n, e = .returned (.tuple #[.complex .f64 u v, .bool true]) ∧ UnitAt a b u v ∧ wfk .f64 u ∧ wfk .f64 v ∧ w.drewN n = w' := by
  have H := Lib.hid h
  have hs := szW_ok h
  have hu := unitAt h
  have Hu := Lib.hid hu
  have Hs := Lib.hid hs
  clear h hs hu
  go_enter Try.func27, Try.ntmps27
  go_wp2_with fail
  refine (implSize_any a b _ H.out.wa H.out.wb).mono ?_
  rintro e w' ⟨r, n, rfl, hr, wr, rfl⟩
  obtain rfl : r = szW a b := nrm_fin_eq hr Hs.out.1
  clear hr
  have Hz : Hid ((feq .f64 (szW a b) 0 && feq .f64 0 0) = false) := by
    show (feq .f64 (szW a b) 0 && feq .f64 0 0) = false
    have : feq .f64 (szW a b) 0 = false := by
      cases t : feq .f64 (szW a b) 0
      · rfl
      · exfalso
        have h1 := (feq_iff Hs.out.1 (zero_fin .f64).1).1 t
        have h2 := Hs.out.2.pos
        rw [(zero_fin .f64).2] at h1
        grind
    rw [this]; rfl
  have Wr := Lib.hid wr
  clear wr
  generalize szW a b = s at *
  go_wp2_with fail
  refine (divide_fin a b s 0 _ H.out.fa H.out.fb Hs.out.1 (zero_fin .f64).1 H.out.wa H.out.wb Wr.out (by rw [wfk_64]; omega) Hz.out Hu.out.fu Hu.out.fv').mono ?_
  rintro e w' ⟨m, rfl, w1, w2, rfl⟩
  have W1 := Lib.hid w1
  have W2 := Lib.hid w2
  clear w1 w2
  generalize quoRe a b s 0 = u at *
  generalize quoIm a b s 0 = v at *
  go_wp2_with fail
  go_ret2
  exact ⟨_, _, _, rfl, Hu.out, W1.out, W2.out, rfl⟩

set_option maxHeartbeats 400000 in
theorem scale_any (a b x : Nat) (w : World) : Calls Try.prog 29 #[.complex .f64 a b, .float .f64 x] w fun e w' => ∃ p q n, e = .returned (.complex .f64 p q) ∧ nrm .f64 p = fo .mul .f64 a x ∧ nrm .f64 q = fo .mul .f64 b x ∧ wfk .f64 p ∧ wfk .f64 q ∧ w.drewN n = w' := by
  go_enter Try.func29, Try.ntmps29
  go_wp2_with fail
  go_ret
  exact ⟨_, _, _, rfl, nrm_fR _ _ _ _ _, nrm_fR _ _ _ _ _, fR_lt _ _ _ _ _, fR_lt _ _ _ _ _, rfl⟩

set_option maxHeartbeats 400000 in
theorem small_any (a b c d x : Nat) (w : World) (h1 : fin .f64 (fo .sub .f64 a c)) (h2 : fin .f64 (fo .sub .f64 b d)) :
    Calls Try.prog 24 #[.complex .f64 a b, .complex .f64 c d, .float .f64 x] w fun e w' => ∃ r n, e = .returned (.bool (fle .f64 r x)) ∧ nrm .f64 r = fo .add .f64 (absB (fo .sub .f64 a c)) (absB (fo .sub .f64 b d)) ∧ w.drewN n = w' := by
  have e1 := fun w => rnd_eq h1 w
  have e2 := fun w => rnd_eq h2 w
  have E1 := Lib.hid e1
  have E2 := Lib.hid e2
  clear h1 h2 e1 e2
  go_enter Try.func24, Try.ntmps24
  go_wp2_with fail
  refine (specSize_any _ _ _).mono ?_
  rintro e w' ⟨r, n, rfl, hr, wr, rfl⟩
  rw [E1.out, E2.out] at hr
  have Hr := Lib.hid hr
  clear hr
  go_wp2_with fail
  go_ret
  exact ⟨_, _, rfl, Hr.out, rfl⟩
end Go.Proofs.Ytignncjmbcdpaaa
