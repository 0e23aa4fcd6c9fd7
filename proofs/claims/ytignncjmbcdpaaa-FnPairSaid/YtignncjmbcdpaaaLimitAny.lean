/-
LimitSamples of both packages, on all samples; impl.isLimit.
-/
import Derived.Test.YtignncjmbcdpaaaLimiter
import Derived.Test.YtignncjmbcdpaaaFloatInt
import Derived.Test.YtignncjmbcdpaaaModerate
namespace Go.Proofs.Ytignncjmbcdpaaa
open Go Go.RowKit Ieee

/-- May a limiter have this ceiling and this release? -/
def limOk (c r : Nat) : Bool := finB (wid c) && fgt .f32 c 0 && fge .f32 r 0 && fle .f32 r 1065353216 && !signB (wid r)
theorem finB_nrm {a b : Nat} (h : nrm .f64 a = nrm .f64 b) : finB a = finB b := by
  cases ha : finB a
  · cases hb : finB b
    · rfl
    · have fb := (finB_iff b).1 hb
      have : a = b := nrm_fin_eq (h.trans (nrm_fin fb)) fb
      rw [this, hb] at ha; cases ha
  · have fa := (finB_iff a).1 ha
    have : b = a := nrm_fin_eq (h.symm.trans (nrm_fin fa)) fa
    rw [this, ha]
theorem fin_range {r : Nat} (h1 : fge .f32 r 0 = true) (h2 : fle .f32 r 1065353216 = true) : fin .f32 r := by
  have ho : FloatKind.f32.format.read 1065353216 = .number false 8388608 (-23) := by decide +kernel
  cases hr : FloatKind.f32.format.read r with
  | number s m e => exact ⟨s, m, e, hr⟩
  | nan s t =>
    exfalso
    unfold fge at h1
    rw [order_nan_l (by unfold isN; rw [hr]; rfl)] at h1; cases h1
  | infinity s =>
    exfalso
    cases s
    · unfold fle Format.order at h2
      rw [hr, ho] at h2; cases h2
    · unfold fge at h1
      rw [order_zero_inf hr] at h1; cases h1
theorem fin_sub (b : Nat) : feq .f64 (fo .sub .f64 b b) 0 = finB b := by
  cases h : finB b
  · cases h2 : feq .f64 (fo .sub .f64 b b) 0
    · rfl
    · rw [(finB_iff b).2 (fin_of_sub h2)] at h; cases h
  · have hx := (finB_iff b).1 h
    obtain ⟨z1, z2⟩ := zero_fin .f64
    have e : fv .f64 b - fv .f64 b = 0 := by grind
    have hs := sub_spec hx hx (by rw [e, ab_of_nonneg Rat.le_refl]; exact Rat.le_of_lt (pw_pos _))
    rw [e] at hs
    exact (feq_iff hs.1 z1).2 (by rw [hs.exact z1 z2, z2])

set_option maxHeartbeats 400000 in
theorem unit_gen (b : Nat) (w : World) : Calls Try.prog 123 #[.float .f32 b] w fun e w' => e = .returned (.bool (fge .f32 b 0 && fle .f32 b 1065353216)) ∧ w = w' := by
  cases h : fge .f32 b 0
  · go_enter Try.func123, Try.ntmps123
    go_wp2
    go_ret
    exact ⟨rfl, rfl⟩
  · go_enter Try.func123, Try.ntmps123
    go_wp2
    go_ret
    exact ⟨rfl, rfl⟩

set_option maxHeartbeats 400000 in
theorem isLimit_any (c r : Nat) (w : World) (hcw : wfk .f32 c) (hrw : wfk .f32 r) :
    Calls Try.prog 73 #[.float .f32 c, .float .f32 r] w fun e w' => ∃ n, e = .returned (.bool (limOk c r)) ∧ w.drewN n = w' := by
  have Hcw := Lib.hid (fun w => cR_lt (s := .f32) (k := .f64) hcw w)
  have Hrw := Lib.hid (fun w => cR_lt (s := .f32) (k := .f64) hrw w)
  have Hf := Lib.hid (fun w => (finB_nrm (by rw [nrm_wid, nrm_cv (by decide)]) : finB (cR .f32 c .f64 w) = finB (wid c)))
  have HL : Hid (limOk c r = (finB (wid c) && fgt .f32 c 0 && fge .f32 r 0 && fle .f32 r 1065353216 && !signB (wid r))) := rfl
  cases h1 : finB (wid c)
  · rw [h1] at HL
    go_enter Try.func73, Try.ntmps73
    go_wp2_with fail
    refine (finite_any _ _ (Hcw.out _)).mono ?_
    rintro e w' ⟨rfl, rfl⟩
    rw [Hf.out, h1]
    go_wp2_with fail
    go_ret
    exact ⟨_, by rw [HL.out]; rfl, rfl⟩
  cases h2 : fgt .f32 c 0
  · rw [h1, h2] at HL
    go_enter Try.func73, Try.ntmps73
    go_wp2_with fail
    refine (finite_any _ _ (Hcw.out _)).mono ?_
    rintro e w' ⟨rfl, rfl⟩
    rw [Hf.out, h1]
    go_wp2_with fail
    go_ret
    exact ⟨_, by rw [HL.out]; rfl, rfl⟩
  cases h3 : (fge .f32 r 0 && fle .f32 r 1065353216)
  · have e3 : limOk c r = false := by rw [HL.out, h1, h2, Bool.true_and, Bool.true_and, h3]; rfl
    have E3 := Lib.hid e3
    clear HL e3
    go_enter Try.func73, Try.ntmps73
    go_wp2_with fail
    refine (finite_any _ _ (Hcw.out _)).mono ?_
    rintro e w' ⟨rfl, rfl⟩
    rw [Hf.out, h1]
    go_wp2_with fail
    refine (unit_gen r _).mono ?_
    rintro e w' ⟨rfl, rfl⟩
    rw [h3]
    go_wp2_with fail
    go_ret
    exact ⟨_, by rw [E3.out]; rfl, rfl⟩
  · have e3 : limOk c r = !signB (wid r) := by rw [HL.out, h1, h2, Bool.true_and, Bool.true_and, h3]; rfl
    have E3 := Lib.hid e3
    rw [Bool.and_eq_true] at h3
    have Hr := Lib.hid (cR_wid_fin (fin_range h3.1 h3.2))
    have H3 := Lib.hid h3
    clear HL e3 h3
    go_enter Try.func73, Try.ntmps73
    go_wp2_with fail
    refine (finite_any _ _ (Hcw.out _)).mono ?_
    rintro e w' ⟨rfl, rfl⟩
    rw [Hf.out, h1]
    go_wp2_with fail
    refine (unit_gen r _).mono ?_
    rintro e w' ⟨rfl, rfl⟩
    rw [H3.out.1, H3.out.2]
    go_wp2_with fail
    refine (signbit_any _ _ (Hrw.out _)).mono ?_
    rintro e w' ⟨rfl, rfl⟩
    rw [Hr.out]
    go_wp2_with fail
    go_ret
    exact ⟨_, by rw [E3.out]; rfl, rfl⟩

theorem limE_congr {E E' x r : Nat} (h : nrm .f32 E = nrm .f32 E') : limE E x r = limE E' x r := by
  unfold limE; rw [show fo .mul .f32 E r = fo .mul .f32 E' r from fo_congr h rfl]
theorem limS_congr {E E' x c r : Nat} (h : nrm .f32 E = nrm .f32 E') : limS E x c r = limS E' x c r := by
  unfold limS; rw [limE_congr h]
theorem env_next {xs : List Nat} {r k E x g : Nat} (hE : nrm .f32 E = nrm .f32 (envAt xs r k)) (hx : xs.getD k 0 = x) (hg : nrm .f32 g = limE E x r) : nrm .f32 g = nrm .f32 (envAt xs r (k + 1)) := by
  show _ = nrm .f32 (limE (envAt xs r k) (xs.getD k 0) r)
  rw [nrm_limE, hx, hg, limE_congr hE]

/-- What LimitSamples returns. -/
def LimitPost (c r : Nat) (xs : List Nat) (w : World) (e : Ending) (w' : World) : Prop :=
  ∃ (A' : Option Addr) (c' : Nat) (ys : List Nat), e = .returned (.tuple #[.slice A' ys.length c', .bool (limOk c r)]) ∧ w'.ownsRow w.heap.size 25 1 (.slice A' ys.length c') ys.length (f32s ys) ∧
    (if limOk c r = true then limited xs c r ys xs.length else ys = []) ∧ Below w.heap.size w w'

set_option maxRecDepth 100000 in
set_option maxHeartbeats 600000 in
theorem implLimit_any (A : Option Addr) (cp c r : Nat) (xs : List Nat) (w : World) (hcw : wfk .f32 c) (hrw : wfk .f32 r) (hrd : Rd w A (f32s xs)) (hm : xs.length ≤ 1048576) (hwf : ∀ i, i < xs.length → wfk .f32 (xs.getD i 0)) :
    Calls Try.prog 17 #[.slice A xs.length cp, .float .f32 c, .float .f32 r] w (LimitPost c r xs w) := by
  cases hok : limOk c r
  · have HOK := Lib.hid hok
    clear hok
    go_enter Try.func17, Try.ntmps17
    go_wp2_with fail
    refine (isLimit_any c r _ hcw hrw).mono ?_
    rintro e w' ⟨n, rfl, rfl⟩
    rw [HOK.out]
    go_wp2_with fail
    go_ret2
    unfold LimitPost
    exact ⟨none, 0, [], by rw [HOK.out]; rfl, ⟨rfl, .inl ⟨rfl, rfl⟩⟩, by rw [HOK.out]; rfl, below_drewN (Below.refl _ _) _⟩
  have HOK := Lib.hid hok
  clear hok
  go_enter Try.func17, Try.ntmps17
  go_wp2_with fail
  refine (isLimit_any c r _ hcw hrw).mono ?_
  rintro e w' ⟨n, rfl, rfl⟩
  rw [HOK.out]
  go_wp2_with fail
  have hb0 : Below w.heap.size w ((w.drewN n).alloc (.cells #[] 25)) := (below_drewN (Below.refl _ _) n).alloc (Nat.le_refl _) _
  have hown0 := owns_empty (w.drewN n) 25
  have HW := Lib.hid hwf
  have H0 : Hid (limited xs c r [] 0) := ⟨rfl, fun i h => absurd h (Nat.not_lt_zero _)⟩
  clear hwf
  go_loopw [8, 9, 20] (fun v ev i wr => ∃ (k E : Nat) (ys : List Nat), i = .int .i64 k ∧ k ≤ xs.length ∧ ev = .float .f32 E ∧ Hid (nrm .f32 E = nrm .f32 (envAt xs r k)) ∧ Hid (limited xs c r ys k) ∧ wr.ownsRow w.heap.size 25 1 v k (f32s ys) ∧ Below w.heap.size w wr) (fun _ _ i _ => xs.length - (intOf i).toNat)
  case atStart => exact ⟨0, 0, [], rfl, by omega, rfl, rfl, H0, hown0, hb0⟩
  case round =>
    clear hb0 hown0 H0
    obtain ⟨k, E, ys, rfl, hk, rfl, HE, Hl, hown, hb⟩ := hrel
    by_cases hlt : k < xs.length
    · have hrd' := hrd.below hb
      obtain ⟨b, off, rfl, hbk, hcell⟩ := hrd' (by simp; omega)
      have e1 := hcell k _ (f32s_at hlt)
      have hxk := HW.out k hlt
      obtain ⟨x, hx⟩ : ∃ x, xs.getD k 0 = x := ⟨_, rfl⟩
      rw [hx] at e1 hxk
      have Hx := Lib.hid hx
      have Hxk := Lib.hid hxk
      clear hcell hrd hrd' hx hxk
      go_wp2_with fail
      refine (impl_limitNext E x c r _ Hxk.out).mono ?_
      rintro e w' ⟨s, g, m, rfl, hs1, hg1, hs2, hg2, rfl⟩
      have hb2 := below_drewN hb m
      have hown2 : (wr.drewN m).ownsRow w.heap.size 25 1 u8 k (f32s ys) := hown
      have Hs1 := Lib.hid hs1
      have HE2 := Lib.hid (env_next HE.out Hx.out hg1)
      clear hb hown hs1 hg1 e1 hbk
      generalize wr.drewN m = W2 at *
      have hsz := hb2.size
      have hL2 : Hid (limited xs c r (ys ++ [s]) (k + 1)) := limited_snoc Hl.out (by rw [Hs1.out, Hx.out]; exact limS_congr HE.out) hs2
      go_wp2_with (at_builtin; refine wpList_app1 rfl (.tmp 32) (.tmp 34) 23 rfl w.heap.size 25 (.float .f32 0) 4 Try.underlying23 f32_info rfl u8 k (f32s ys) _ rfl rfl rfl hown2 hsz (by omega) (by omega) ?_; intro v' w' hown' hbel')
      have hb3 := hb2.trans hbel'
      have hown3 : w'.ownsRow w.heap.size 25 1 v' (k + 1) (f32s (ys ++ [s])) := by simpa [f32s] using hown'
      clear hbel' hown' hb2 hown2 hsz
      go_roundw
      case rel => exact ⟨k + 1, g, ys ++ [s], by go_num, by omega, rfl, HE2, hL2, hown3, hb3⟩
      case measure => simp [intOf]; omega
    · obtain rfl : k = xs.length := by omega
      go_wp2
      go_ret2
      obtain ⟨A', cap, hv, hl, hrd2⟩ := own_rd hown
      subst hv
      have hl' := Hl.out.1
      unfold LimitPost
      exact ⟨A', cap, ys, by rw [hl', HOK.out]; rfl, by rw [hl']; exact hown, by rw [HOK.out]; exact Hl.out, hb⟩
end Go.Proofs.Ytignncjmbcdpaaa
