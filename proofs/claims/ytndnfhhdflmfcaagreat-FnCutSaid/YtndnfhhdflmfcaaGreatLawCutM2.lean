/-
Part 2 of 8 of the proof of the law FnCut: it returns true for all codes. No condition.
-/
import Derived.Test.YtndnfhhdflmfcaaGreatLawCutM1
import Derived.Deep.RegionWith
import Derived.Deep.AppendLies
import Derived.Deep.OwnRows

/-
What spec.LimitNext and impl.LimitNext return, up to the bits of a NaN.
-/
namespace Go.Proofs.YtndnfhhdflmfcaaGreat
open Go Go.RowKit Ieee

theorem run_f32bits (b : Nat) (w : World) : (callFunc 96 #[.float .f32 b]).run Tryz.prog w = .ok (.value (.int .u32 b)) w := by
  rw [run_callFunc_extern Tryz.func96 (by kernel_rfl) (by kernel_rfl) (by kernel_rfl) (e := Extern.MathFloatBits.float32bits) (by kernel_rfl)]; rfl
theorem run_f32frombits (n : Int) (w : World) : (callFunc 95 #[.int .u32 n]).run Tryz.prog w = .ok (.value (.float .f32 n.toNat)) w := by
  rw [run_callFunc_extern Tryz.func95 (by kernel_rfl) (by kernel_rfl) (by kernel_rfl) (e := Extern.MathFloatBits.float32frombits) (by kernel_rfl)]; rfl

theorem andNot_sign {b : Nat} (hb : wfk .f32 b) : (bits .andNot .u32 (b : Int) 2147483648).toNat = b % 2147483648 := by
  rw [wfk_32] at hb
  have e : (BitVec.ofInt 32 (b : Int) &&& ~~~BitVec.ofInt 32 2147483648).toNat = b % 2147483648 := by
    rw [BitVec.toNat_and, BitVec.ofInt_natCast, BitVec.toNat_ofNat, Nat.mod_eq_of_lt hb]
    have : (~~~BitVec.ofInt 32 2147483648).toNat = 2 ^ 31 - 1 := by decide
    rw [this, Nat.and_two_pow_sub_one_eq_mod]
  have e' : bits .andNot .u32 (b : Int) 2147483648 = IntKind.u32.wrap ((BitVec.ofInt 32 (b : Int) &&& ~~~BitVec.ofInt 32 2147483648).toNat : Int) := rfl
  rw [e', e, IntKind.wrap_u32]
  omega

set_option maxHeartbeats 400000 in
theorem size32_any (b : Nat) (w : World) (hb : wfk .f32 b) :
    Calls Tryz.prog 69 #[.float .f32 b] w fun e w' => e = .returned (.float .f32 (b % 2147483648)) ∧ w = w' := by
  have h1 := fun w => run_f32bits b w
  have h2 := fun n w => run_f32frombits n w
  go_enter Tryz.func69, Tryz.ntmps69
  go_wp2
  go_ret
  exact ⟨by rw [← andNot_sign hb]; rfl, rfl⟩

set_option maxHeartbeats 400000 in
theorem l1Abs_any (b : Nat) (w : World) :
    Calls Tryz.prog 106 #[.float .f64 b] w fun e w' => e = .returned (.float .f64 (absB b)) ∧ w = w' := by
  have H := Lib.hid (show absB b = if flt .f64 b 0 = true then Op.negFloat .f64 b else if feq .f64 b 0 = true then 0 else b from rfl)
  cases t1 : flt .f64 b 0
  · cases t2 : feq .f64 b 0
    all_goals
      go_enter Tryz.func106, Tryz.ntmps106
      go_wp2
      go_ret
      exact ⟨by rw [H.out, t1, t2]; rfl, rfl⟩
  · go_enter Tryz.func106, Tryz.ntmps106
    go_wp2
    go_ret
    exact ⟨by rw [H.out, t1]; rfl, rfl⟩

/-- The new envelope, and the sample, a NaN being the one NaN. -/
def limE (env x r : Nat) : Nat := if fgt .f32 (nrm .f32 (x % 2147483648)) (fo .mul .f32 env r) = true then nrm .f32 (x % 2147483648) else fo .mul .f32 env r
def limS (env x c r : Nat) : Nat := if fgt .f32 (limE env x r) c = true then fo .quo .f32 (fo .mul .f32 x c) (limE env x r) else nrm .f32 x
def LimPost (env x c r : Nat) (w : World) (e : Ending) (w' : World) : Prop :=
  ∃ s g n : Nat, e = .returned (.tuple #[.float .f32 s, .float .f32 g]) ∧ nrm .f32 s = limS env x c r ∧ nrm .f32 g = limE env x r ∧ wfk .f32 s ∧ wfk .f32 g ∧ w.drewN n = w'

theorem limE_yes {env x r a e : Nat} (ha : nrm .f32 a = nrm .f32 (x % 2147483648)) (he : nrm .f32 e = fo .mul .f32 env r) (h : fgt .f32 a e = true) : nrm .f32 a = limE env x r := by
  unfold limE
  rw [if_pos, ha]
  rw [← h]; exact (fgt_congr (by rw [nrm_nrm, ha]) (by rw [nrm_fo, he]))
theorem limE_no {env x r a e : Nat} (ha : nrm .f32 a = nrm .f32 (x % 2147483648)) (he : nrm .f32 e = fo .mul .f32 env r) (h : fgt .f32 a e = false) : nrm .f32 e = limE env x r := by
  unfold limE
  rw [if_neg, he]
  have : fgt .f32 (nrm .f32 (x % 2147483648)) (fo .mul .f32 env r) = fgt .f32 a e := fgt_congr (by rw [nrm_nrm, ha]) (by rw [nrm_fo, he])
  rw [this, h]; simp
theorem nrm_limE (env x r : Nat) : nrm .f32 (limE env x r) = limE env x r := by
  unfold limE; split
  · exact nrm_nrm _ _
  · exact nrm_fo _ _ _ _
theorem limS_yes {env x c r g p s : Nat} (hg : nrm .f32 g = limE env x r) (hp : nrm .f32 p = fo .mul .f32 x c) (hs : nrm .f32 s = fo .quo .f32 p g) (h : fgt .f32 g c = true) : nrm .f32 s = limS env x c r := by
  unfold limS
  have h1 : fgt .f32 (limE env x r) c = fgt .f32 g c := fgt_congr (by rw [nrm_limE, hg]) rfl
  rw [if_pos (by rw [h1, h]), hs]
  exact fo_congr (by rw [nrm_fo, hp]) (by rw [nrm_limE, hg])
theorem limS_no {env x c r g : Nat} (hg : nrm .f32 g = limE env x r) (h : fgt .f32 g c = false) : nrm .f32 x = limS env x c r := by
  unfold limS
  have h1 : fgt .f32 (limE env x r) c = fgt .f32 g c := fgt_congr (by rw [nrm_limE, hg]) rfl
  rw [if_neg (by rw [h1, h]; simp)]
theorem abs32_lt {x : Nat} : wfk .f32 (x % 2147483648) := by rw [wfk_32]; omega

set_option maxHeartbeats 400000 in
theorem impl_limitNext (env x c r : Nat) (w : World) (hx : wfk .f32 x) :
    Calls Tryz.prog 35 #[.float .f32 env, .float .f32 x, .float .f32 c, .float .f32 r] w (LimPost env x c r w) := by
  go_enter Tryz.func35, Tryz.ntmps35
  go_wp2_with (go_at_call 69; refine (size32_any _ _ hx).mono ?_; rintro e w' ⟨rfl, rfl⟩)
  · go_ret2
    have g1 := limE_yes rfl (nrm_fR _ _ _ _ _) ‹fgt .f32 (x % 2147483648) (fR .mul .f32 env r w) = true›
    exact ⟨_, _, _, rfl, limS_yes g1 (nrm_fR _ _ _ _ _) (nrm_fR _ _ _ _ _) ‹_›, g1, fR_lt _ _ _ _ _, abs32_lt, rfl⟩
  · go_ret2
    have g1 := limE_yes rfl (nrm_fR _ _ _ _ _) ‹fgt .f32 (x % 2147483648) (fR .mul .f32 env r w) = true›
    exact ⟨_, _, _, rfl, limS_no g1 ‹_›, g1, hx, abs32_lt, rfl⟩
  · go_ret2
    have g1 := limE_no rfl (nrm_fR _ _ _ _ _) ‹fgt .f32 (x % 2147483648) (fR .mul .f32 env r w) = false›
    exact ⟨_, _, _, rfl, limS_yes g1 (nrm_fR _ _ _ _ _) (nrm_fR _ _ _ _ _) ‹_›, g1, fR_lt _ _ _ _ _, fR_lt _ _ _ _ _, rfl⟩
  · go_ret2
    have g1 := limE_no rfl (nrm_fR _ _ _ _ _) ‹fgt .f32 (x % 2147483648) (fR .mul .f32 env r w) = false›
    exact ⟨_, _, _, rfl, limS_no g1 ‹_›, g1, hx, fR_lt _ _ _ _ _, rfl⟩

end Go.Proofs.YtndnfhhdflmfcaaGreat

/-
math.Abs, math.IsNaN, math.IsInf, impl.finite, impl.unit, impl.isLimit.
-/
namespace Go.Proofs.YtndnfhhdflmfcaaGreat
open Go Go.RowKit Ieee

theorem run_f64frombits (n : Int) (w : World) : (callFunc 125 #[.int .u64 n]).run Tryz.prog w = .ok (.value (.float .f64 n.toNat)) w := by
  rw [run_callFunc_extern Tryz.func125 (by kernel_rfl) (by kernel_rfl) (by kernel_rfl) (e := Extern.MathFloatBits.float64frombits) (by kernel_rfl)]; rfl

theorem andNot_sign64 {b : Nat} (hb : wfk .f64 b) : (bits .andNot .u64 (b : Int) 9223372036854775808).toNat = b % 9223372036854775808 := by
  rw [wfk_64] at hb
  have e : (BitVec.ofInt 64 (b : Int) &&& ~~~BitVec.ofInt 64 9223372036854775808).toNat = b % 9223372036854775808 := by
    rw [BitVec.toNat_and, BitVec.ofInt_natCast, BitVec.toNat_ofNat, Nat.mod_eq_of_lt hb]
    have : (~~~BitVec.ofInt 64 9223372036854775808).toNat = 2 ^ 63 - 1 := by decide
    rw [this, Nat.and_two_pow_sub_one_eq_mod]
  have e' : bits .andNot .u64 (b : Int) 9223372036854775808 = IntKind.u64.wrap ((BitVec.ofInt 64 (b : Int) &&& ~~~BitVec.ofInt 64 9223372036854775808).toNat : Int) := rfl
  rw [e', e, IntKind.wrap_u64]
  omega

/-- The word without its sign. -/
def abs64 (b : Nat) : Nat := b % 9223372036854775808

set_option maxHeartbeats 400000 in
theorem mathAbs_any (b : Nat) (w : World) (hb : wfk .f64 b) :
    Calls Tryz.prog 118 #[.float .f64 b] w fun e w' => e = .returned (.float .f64 (abs64 b)) ∧ w = w' := by
  have h1 := fun w => run_f64bits b w
  have h2 := fun n w => run_f64frombits n w
  go_enter Tryz.func118, Tryz.ntmps118
  go_wp2
  go_ret
  exact ⟨by rw [show abs64 b = (bits .andNot .u64 (b : Int) 9223372036854775808).toNat from (andNot_sign64 hb).symm]; rfl, rfl⟩

/-- Is the word a number? -/
def finB (b : Nat) : Bool := decide (abs64 b < 9218868437227405312)

theorem abs64_read (b : Nat) : double.read (abs64 b) = absD (match double.read b with | .nan _ t => .nan false t | d => d) := by
  have hs : double.signWeight = 9223372036854775808 := by decide +kernel
  unfold Format.read abs64
  simp only [hs, Nat.mod_mod]
  have : b % 9223372036854775808 / 9223372036854775808 = 0 := Nat.div_eq_of_lt (Nat.mod_lt _ (by decide))
  simp only [this]
  split
  · rfl
  · split
    · rfl
    · split <;> rfl

theorem finB_iff (b : Nat) : finB b = true ↔ fin .f64 b := by
  have hs : double.signWeight = 9223372036854775808 := by decide +kernel
  have hi : double.infRung = 9218868437227405312 := by decide +kernel
  unfold finB fin abs64
  show _ ↔ ∃ s m e, double.read b = .number s m e
  unfold Format.read
  simp only [hs, hi]
  constructor
  · intro h
    have h := of_decide_eq_true h
    split
    · exact ⟨_, _, _, rfl⟩
    · first | exact ⟨_, _, _, rfl⟩ | (rw [if_pos h]; exact ⟨_, _, _, rfl⟩)
  · rintro ⟨s, m, e, h⟩
    apply decide_eq_true
    have hb : double.binade ≤ double.infRung := binade_le _ (by decide)
    rw [hi] at hb
    split at h
    · omega
    · split at h
      · assumption
      · split at h <;> cases h

theorem max64_fin : fin .f64 9218868437227405311 := ⟨false, 9007199254740991, 971, by decide +kernel⟩
/-- What impl.finite asks. -/
theorem finB_ask (b : Nat) : (!isN .f64 b && !fgt .f64 (abs64 b) 9218868437227405311) = finB b := by
  cases hn : isN .f64 b
  · cases hf : finB b
    · -- an infinity
      have hnf : ¬ fin .f64 b := fun h => by rw [(finB_iff b).2 h] at hf; cases hf
      have hr : ∃ s, double.read b = .infinity s := by
        cases hr : double.read b with
        | number s m e => exact absurd ⟨s, m, e, hr⟩ hnf
        | infinity s => exact ⟨s, rfl⟩
        | nan s t => unfold isN at hn; rw [show FloatKind.f64.format.read b = .nan s t from hr] at hn; cases hn
      obtain ⟨s, hr⟩ := hr
      have ha : FloatKind.f64.format.read (abs64 b) = .infinity false := by
        show double.read _ = _
        rw [abs64_read, hr]; rfl
      have hm : FloatKind.f64.format.read 9218868437227405311 = .number false 9007199254740991 971 := by decide +kernel
      have : fgt .f64 (abs64 b) 9218868437227405311 = true := by unfold fgt Format.order; rw [ha, hm]; rfl
      rw [this]; rfl
    · obtain ⟨s, m, e, hr⟩ := (finB_iff b).1 hf
      have ha : FloatKind.f64.format.read (abs64 b) = .number false m e := by
        show double.read _ = _
        rw [abs64_read, show double.read b = .number s m e from hr]; rfl
      have hm : FloatKind.f64.format.read 9218868437227405311 = .number false 9007199254740991 971 := by decide +kernel
      obtain ⟨b1, b2, b3, b4, _⟩ := read_bounds double (by decide) hr
      have e1 : double.leastPlace = -1074 := by decide +kernel
      have e2 : double.binade = 4503599627370496 := by decide +kernel
      have e3 : double.infRung = 9218868437227405312 := by decide +kernel
      rw [e1] at b1 b3 b4
      rw [e2] at b2 b3 b4
      rw [e3] at b4
      have he : e ≤ 971 := by
        rcases Int.lt_or_le 971 e with h | h
        · exfalso; have := b3 (by omega); omega
        · exact h
      have hle : fv .f64 (abs64 b) ≤ fv .f64 9218868437227405311 := by
        unfold fv
        rw [ha, hm, dval_num, dval_num]
        simp only [Bool.false_eq_true, if_false]
        have h1 : mval m e ≤ mval 9007199254740991 e := mval_le (by omega)
        have h2 : mval 9007199254740991 e ≤ mval 9007199254740991 971 := Rat.mul_le_mul_of_nonneg_left (pw_mono he) Rat.natCast_nonneg
        exact Rat.le_trans h1 h2
      have : fgt .f64 (abs64 b) 9218868437227405311 = false := by
        cases h : fgt .f64 (abs64 b) 9218868437227405311
        · rfl
        · have := (fgt_iff ⟨_, _, _, ha⟩ max64_fin).1 h
          exact absurd this (Rat.not_lt.2 hle)
      rw [this]; rfl
  · cases hf : finB b
    · rfl
    · have := fin_num ((finB_iff b).1 hf)
      rw [hn] at this; cases this

set_option maxHeartbeats 400000 in
theorem isNaN_any (b : Nat) (w : World) : Calls Tryz.prog 99 #[.float .f64 b] w fun e w' => e = .returned (.bool (isN .f64 b)) ∧ w = w' := by
  have h := feq_self .f64 b
  go_enter Tryz.func99, Tryz.ntmps99
  go_wp2
  go_ret
  exact ⟨ret_bool (by simp), rfl⟩

def max64 : Nat := 9218868437227405311
set_option maxHeartbeats 400000 in
theorem isInf_any (b : Nat) (w : World) (hb : wfk .f64 b) : Calls Tryz.prog 100 #[.float .f64 b, .int .i64 0] w fun e w' => e = .returned (.bool (fgt .f64 (abs64 b) max64)) ∧ w = w' := by
  go_enter Tryz.func100, Tryz.ntmps100
  go_wp2_with fail
  refine (mathAbs_any b _ hb).mono ?_
  rintro e w' ⟨rfl, rfl⟩
  go_wp2_with fail
  go_ret
  exact ⟨rfl, rfl⟩

set_option maxHeartbeats 400000 in
theorem finite_any (b : Nat) (w : World) (hb : wfk .f64 b) : Calls Tryz.prog 75 #[.float .f64 b] w fun e w' => e = .returned (.bool (finB b)) ∧ w = w' := by
  have hask := Lib.hid (finB_ask b)
  cases hn : isN .f64 b
  · rw [hn] at hask
    go_enter Tryz.func75, Tryz.ntmps75
    go_wp2_with fail
    refine (isNaN_any b _).mono ?_
    rintro e w' ⟨rfl, rfl⟩
    go_wp2_with fail
    refine (isInf_any b _ hb).mono ?_
    rintro e w' ⟨rfl, rfl⟩
    go_wp2_with fail
    go_ret
    exact ⟨ret_bool (by rw [← hask.out]; rfl), rfl⟩
  · rw [hn] at hask
    go_enter Tryz.func75, Tryz.ntmps75
    go_wp2_with fail
    refine (isNaN_any b _).mono ?_
    rintro e w' ⟨rfl, rfl⟩
    go_wp2_with fail
    go_ret
    exact ⟨ret_bool (by rw [← hask.out]; rfl), rfl⟩
end Go.Proofs.YtndnfhhdflmfcaaGreat

/-
A number divided by its size. (Plain arithmetic.)
-/
namespace Go.Proofs.YtndnfhhdflmfcaaGreat
open Go Ieee

theorem rnd_eq {k : FloatKind} {op : BinOp} {x y : Nat} (h : fin k (fo op k x y)) (w : World) : fR op k x y w = fo op k x y := nrm_fin_eq (nrm_fR op k x y w) h

/-- A sum of two sizes. -/
theorem size_spec {a b : Rat} (h1 : 0 ≤ a) (h2 : 0 ≤ b) (h : a + b ≤ top .f64) {x y : Nat} (hx : fin .f64 x) (hy : fin .f64 y) (vx : fv .f64 x = a) (vy : fv .f64 y = b) :
    RoundOf .f64 (a + b) (fo .add .f64 x y) := by
  have := add_spec hx hy (by rw [vx, vy, ab_of_nonneg (by grind)]; exact h)
  rwa [vx, vy] at this

theorem top210 : (2 : Rat) ^ 210 ≤ top .f64 := by
  have h2 : pw 210 ≤ pw 1000 := pw_mono (by omega)
  have e2 : pw 210 = 2 ^ 210 := by unfold pw; grind
  show _ ≤ pw 1000; grind
theorem eta_small {S : Rat} (hS : pw (-201) ≤ S) : eta .f64 ≤ S / 2 ^ 60 := by
  have h1 : eta .f64 ≤ pw (-201 + -69) := pw_mono (by decide)
  rw [pw_add] at h1
  have h2 : pw (-69) = 1 / 2 ^ 69 := by unfold pw; grind
  have h3 := pw_pos (-201)
  rw [h2] at h1
  grind

/-- The size of a number, and what is known of it. -/
structure SizeIs (S c : Rat) : Prop where
  lo : pw (-201) ≤ S
  hi : S ≤ 2 ^ 202
  near : ab (c - S) ≤ S / 2 ^ 52
theorem SizeIs.pos {S c : Rat} (h : SizeIs S c) : 0 < S ∧ S / 2 ≤ c ∧ c ≤ 2 * S ∧ eta .f64 ≤ S / 2 ^ 60 ∧ 0 < c := by
  have h1 := pw_pos (-201)
  have h2 := h.lo
  have h3 := le_ab (c - S)
  have h4 := h.near
  have h5 := eta_small h.lo
  refine ⟨by grind, by grind, by grind, h5, by grind⟩
theorem sizeIs_of {S : Rat} {s : Nat} (lo : pw (-201) ≤ S) (hi : S ≤ 2 ^ 202) (hs : RoundOf .f64 S s) : SizeIs S (fv .f64 s) := by
  obtain ⟨k1, k2, k3⟩ := consts64
  have h5 := eta_small lo
  have h1 := pw_pos (-201)
  have h2 := hs.2.1
  rw [k1, ab_of_nonneg (x := S) (by grind)] at h2
  exact ⟨lo, hi, by grind⟩

/-- A part of the number divided by its size. -/
theorem unit_part {S c X : Rat} {x m : Nat} (h : SizeIs S c) (hx : fin .f64 x) (hm : fin .f64 m) (vx : fv .f64 x = X) (vm : fv .f64 m = c) (hX : ab X ≤ S) :
    fin .f64 (fo .quo .f64 x m) ∧ ab (fv .f64 (fo .quo .f64 x m) - X / c) ≤ ab X / c / 2 ^ 52 + eta .f64 := by
  obtain ⟨p1, p2, p3, p4, p5⟩ := h.pos
  obtain ⟨k1, k2, k3⟩ := consts64
  have hq : ab (X / c) = ab X / c := ab_div_pos X p5
  have hle : ab X / c ≤ 2 := by
    rcases rat_lt_or_le 2 (ab X / c) with h | h
    · exfalso
      have := (Rat.lt_div_iff p5).1 h
      grind
    · exact h
  have hd := div_spec hx hm (by rw [vm]; grind) (by rw [vm, vx, hq]; grind)
  rw [vm, vx] at hd
  refine ⟨hd.1, ?_⟩
  have := hd.2.1
  rw [hq, k1] at this
  grind

/-- The size of what is divided by its size is near 1. -/
theorem unit_size {S c X Y : Rat} {u v : Nat} (h : SizeIs S c) (hS : ab X + ab Y = S) (hu : ab (fv .f64 u - X / c) ≤ ab X / c / 2 ^ 52 + eta .f64) (hv : ab (fv .f64 v - Y / c) ≤ ab Y / c / 2 ^ 52 + eta .f64) :
    ab (ab (fv .f64 u) + ab (fv .f64 v) - 1) ≤ 1 / 2 ^ 48 := by
  obtain ⟨p1, p2, p3, p4, p5⟩ := h.pos
  obtain ⟨k1, k2, k3⟩ := consts64
  have hq1 : ab (X / c) = ab X / c := ab_div_pos X p5
  have hq2 : ab (Y / c) = ab Y / c := ab_div_pos Y p5
  obtain ⟨p, hp⟩ : ∃ p, ab X / c = p := ⟨_, rfl⟩
  obtain ⟨q, hq⟩ : ∃ q, ab Y / c = q := ⟨_, rfl⟩
  have hpc : p * c = ab X := by rw [← hp]; exact Rat.div_mul_cancel (by grind)
  have hqc : q * c = ab Y := by rw [← hq]; exact Rat.div_mul_cancel (by grind)
  have hsum : (p + q) * c = S := by grind
  have hnear := h.near
  have hn := le_ab (c - S)
  have up : p + q ≤ 1 + 1 / 2 ^ 51 := by
    rcases rat_lt_or_le (1 + 1 / 2 ^ 51) (p + q) with h | h
    · exfalso
      have := Rat.mul_lt_mul_of_pos_right h p5
      grind
    · exact h
  have lo : 1 - 1 / 2 ^ 51 ≤ p + q := by
    rcases rat_lt_or_le (p + q) (1 - 1 / 2 ^ 51) with h | h
    · exfalso
      have := Rat.mul_lt_mul_of_pos_right h p5
      grind
    · exact h
  rw [hp] at hu hq1
  rw [hq] at hv hq2
  have t1 := ab_tri (fv .f64 u) (X / c)
  have t2 := ab_tri (fv .f64 v) (Y / c)
  have t3 := ab_tri (X / c) (fv .f64 u)
  have t4 := ab_tri (Y / c) (fv .f64 v)
  have n1 := ab_neg (fv .f64 u - X / c)
  have n2 := ab_neg (fv .f64 v - Y / c)
  have e1 : X / c - fv .f64 u = -(fv .f64 u - X / c) := by grind
  have e2 : Y / c - fv .f64 v = -(fv .f64 v - Y / c) := by grind
  rw [e1, n1] at t3
  rw [e2, n2] at t4
  rw [hq1] at t1 t3
  rw [hq2] at t2 t4
  exact ab_le (by grind) (by grind)

/-- Multiplied by the size it is near the part. -/
theorem unit_back {S c X : Rat} {u s x : Nat} (h : SizeIs S c) (hX : ab X ≤ S) (hu : fin .f64 u) (hb : ab (fv .f64 u - X / c) ≤ ab X / c / 2 ^ 52 + eta .f64) (hs : fin .f64 s) (vs : fv .f64 s = c) (hx : fin .f64 x) (vx : fv .f64 x = X) :
    fin .f64 (fo .mul .f64 u s) ∧ fin .f64 (fo .sub .f64 (fo .mul .f64 u s) x) ∧ ab (fv .f64 (fo .sub .f64 (fo .mul .f64 u s) x)) ≤ S / 2 ^ 50 := by
  obtain ⟨p1, p2, p3, p4, p5⟩ := h.pos
  obtain ⟨k1, k2, k3⟩ := consts64
  have hhi := h.hi
  have hn := le_ab (c - S)
  have h1 : ab ((fv .f64 u - X / c) * c) ≤ (ab X / c / 2 ^ 52 + eta .f64) * c := by
    rw [ab_mul, ab_of_nonneg (x := c) (by grind)]
    exact Rat.mul_le_mul_of_nonneg_right hb (by grind)
  have e1 : (fv .f64 u - X / c) * c = fv .f64 u * c - X := by
    have : X / c * c = X := Rat.div_mul_cancel (by grind)
    grind
  have e2 : (ab X / c / 2 ^ 52 + eta .f64) * c = ab X / 2 ^ 52 + eta .f64 * c := by
    have : ab X / c * c = ab X := Rat.div_mul_cancel (by grind)
    grind
  rw [e1, e2] at h1
  clear hb e1 e2
  have k3 := top210
  have h2 : eta .f64 * c ≤ 1 / 2 ^ 200 * c := Rat.mul_le_mul_of_nonneg_right k2 (by grind)
  have t1 := ab_tri (fv .f64 u * c) X
  have hm := mul_spec hu hs (by rw [vs]; grind)
  rw [vs] at hm
  have m2 := hm.2.1
  rw [k1] at m2
  have t2 := ab_add (fv .f64 (fo .mul .f64 u s) - fv .f64 u * c) (fv .f64 u * c - X)
  have e3 : fv .f64 (fo .mul .f64 u s) - fv .f64 u * c + (fv .f64 u * c - X) = fv .f64 (fo .mul .f64 u s) - X := by grind
  rw [e3] at t2
  have hd := sub_spec hm.1 hx (by rw [vx]; grind)
  rw [vx] at hd
  have d2 := hd.2.1
  rw [k1] at d2
  have t3 := ab_tri (fv .f64 (fo .sub .f64 (fo .mul .f64 u s) x)) (fv .f64 (fo .mul .f64 u s) - X)
  refine ⟨hm.1, hd.1, by grind⟩
end Go.Proofs.YtndnfhhdflmfcaaGreat

/-
Walks of the small functions of complex numbers: sizes, finite, quotient of finite numbers.
-/
namespace Go.Proofs.YtndnfhhdflmfcaaGreat
open Go Go.RowKit Ieee

set_option maxHeartbeats 400000 in
theorem l1Finite_any (b : Nat) (w : World) : Calls Tryz.prog 64 #[.float .f64 b] w fun e w' => ∃ n, e = .returned (.bool (feq .f64 (fo .sub .f64 b b) 0)) ∧ w.drewN n = w' := by
  have h := Lib.hid (fun w => (feq_congr (by rw [nrm_fR, nrm_fo]) rfl : feq .f64 (fR .sub .f64 b b w) 0 = feq .f64 (fo .sub .f64 b b) 0))
  go_enter Tryz.func64, Tryz.ntmps64
  go_wp2_with fail
  go_ret
  exact ⟨_, ret_bool (h.out _), rfl⟩

set_option maxHeartbeats 400000 in
theorem finiteDouble_any (a b : Nat) (w : World) (ha : wfk .f64 a) (hb : wfk .f64 b) : Calls Tryz.prog 119 #[.complex .f64 a b] w fun e w' => e = .returned (.bool (finB a && finB b)) ∧ w = w' := by
  cases h : finB a
  · go_enter Tryz.func119, Tryz.ntmps119
    go_wp2_with fail
    refine (finite_any a _ ha).mono ?_
    rintro e w' ⟨rfl, rfl⟩
    rw [h]
    go_wp2_with fail
    go_ret
    exact ⟨rfl, rfl⟩
  · go_enter Tryz.func119, Tryz.ntmps119
    go_wp2_with fail
    refine (finite_any a _ ha).mono ?_
    rintro e w' ⟨rfl, rfl⟩
    rw [h]
    go_wp2_with fail
    refine (finite_any b _ hb).mono ?_
    rintro e w' ⟨rfl, rfl⟩
    go_wp2_with fail
    go_ret
    exact ⟨rfl, rfl⟩

set_option maxHeartbeats 400000 in
theorem specFinite_any (a b : Nat) (w : World) : Calls Tryz.prog 109 #[.complex .f64 a b] w fun e w' => ∃ n, e = .returned (.bool (feq .f64 (fo .sub .f64 a a) 0 && feq .f64 (fo .sub .f64 b b) 0)) ∧ w.drewN n = w' := by
  cases h : feq .f64 (fo .sub .f64 a a) 0
  · go_enter Tryz.func109, Tryz.ntmps109
    go_wp2_with fail
    refine (l1Finite_any a _).mono ?_
    rintro e w' ⟨n, rfl, rfl⟩
    rw [h]
    go_wp2_with fail
    go_ret
    exact ⟨_, rfl, rfl⟩
  · go_enter Tryz.func109, Tryz.ntmps109
    go_wp2_with fail
    refine (l1Finite_any a _).mono ?_
    rintro e w' ⟨n, rfl, rfl⟩
    rw [h]
    go_wp2_with fail
    refine (l1Finite_any b _).mono ?_
    rintro e w' ⟨m, rfl, rfl⟩
    go_wp2_with fail
    go_ret
    exact ⟨_, rfl, rfl⟩

theorem fRo {op : BinOp} {k : FloatKind} {x y x' y' : Nat} (hx : nrm k x = nrm k x') (hy : nrm k y = nrm k y') (w : World) : nrm k (fR op k x y w) = nrm k (fo op k x' y') := by
  rw [nrm_fR, nrm_fo]; exact fo_congr hx hy

/-- The quotient of finite numbers, part by part. -/
def quoRe (a b c d : Nat) : Nat :=
  if fge .f64 (abs64 c) (abs64 d) = true then fo .quo .f64 (fo .add .f64 a (fo .mul .f64 b (fo .quo .f64 d c))) (fo .add .f64 c (fo .mul .f64 (fo .quo .f64 d c) d))
  else fo .quo .f64 (fo .add .f64 (fo .mul .f64 a (fo .quo .f64 c d)) b) (fo .add .f64 d (fo .mul .f64 (fo .quo .f64 c d) c))
def quoIm (a b c d : Nat) : Nat :=
  if fge .f64 (abs64 c) (abs64 d) = true then fo .quo .f64 (fo .sub .f64 b (fo .mul .f64 a (fo .quo .f64 d c))) (fo .add .f64 c (fo .mul .f64 (fo .quo .f64 d c) d))
  else fo .quo .f64 (fo .sub .f64 (fo .mul .f64 b (fo .quo .f64 c d)) a) (fo .add .f64 d (fo .mul .f64 (fo .quo .f64 c d) c))

end Go.Proofs.YtndnfhhdflmfcaaGreat

/-
Sums too great for the bounded laws: infinite, or great. (Plain arithmetic.)
-/
namespace Go.Proofs.YtndnfhhdflmfcaaGreat
open Go Ieee
section
variable (f : Format)
theorem nearest_rung (neg : Bool) (mag : Nat) (place : Int) (h0 : mag ≠ 0) :
    ∃ j c : Nat, f.nearest neg mag place = f.word neg (min (j * f.binade + c) f.infRung) ∧ lastOf f mag place = f.leastPlace + j ∧ c ≤ 2 * f.binade ∧ (j = 0 ∨ f.binade ≤ c) := by
  have hsl := Nat.log2_self_le h0
  have hself := Nat.lt_log2_self (n := mag)
  rw [nearest_eq f neg mag place h0]
  have hLdef : lastOf f mag place = max (place + mag.log2 - f.fractionBits) f.leastPlace := rfl
  generalize lastOf f mag place = L at *
  obtain ⟨j, hj⟩ : ∃ j : Nat, L = f.leastPlace + j := ⟨(L - f.leastPlace).toNat, by omega⟩
  -- n, d: the number in units of 2^(L - d)
  obtain ⟨d, hd⟩ : ∃ d : Nat, (L - place).toNat = d := ⟨_, rfl⟩
  obtain ⟨up, hup⟩ : ∃ up : Nat, (place - L).toNat = up := ⟨_, rfl⟩
  rw [hd, hup, Nat.shiftLeft_eq, show (L - f.leastPlace).toNat = j by omega]
  have hn0 : mag * 2 ^ up ≠ 0 := Nat.mul_ne_zero h0 (by have := Nat.two_pow_pos up; omega)
  have hval : mval mag place = mval (mag * 2 ^ up) (L - d) := by
    rw [mval_scale']; congr 1; omega
  have hlogn : (mag * 2 ^ up).log2 = mag.log2 + up := log2_mul_pow mag up h0
  obtain ⟨c1, c2, c3, c4⟩ := cut_spec neg (mag * 2 ^ up) d
  have hnb : mag * 2 ^ up < 2 * f.binade * 2 ^ d := by
    have h1 := Nat.lt_log2_self (n := mag * 2 ^ up)
    rw [hlogn] at h1
    have h2 : 2 * f.binade * 2 ^ d = 2 ^ (f.fractionBits + 1 + d) := by
      unfold Format.binade; rw [Nat.pow_add, Nat.pow_succ, Nat.mul_comm 2]
    rw [h2]
    exact Nat.lt_of_lt_of_le h1 (Nat.pow_le_pow_right (by omega) (by omega))
  have hlo : f.leastPlace < L → f.binade * 2 ^ d ≤ mag * 2 ^ up := fun h => by
    have h1 := Nat.log2_self_le hn0
    rw [hlogn] at h1
    have h2 : f.binade * 2 ^ d = 2 ^ (f.fractionBits + d) := by unfold Format.binade; rw [Nat.pow_add]
    rw [h2]
    exact Nat.le_trans (Nat.pow_le_pow_right (by omega) (by omega)) h1
  generalize hn : mag * 2 ^ up = n at *
  have hcb : Toward.even.cut neg n d ≤ 2 * f.binade := c4 _ (by omega)
  have hcl : j = 0 ∨ f.binade ≤ Toward.even.cut neg n d := by
    rcases Nat.eq_zero_or_pos j with h | h
    · exact .inl h
    · exact .inr (c3 _ (hlo (by omega)))
  exact ⟨j, _, rfl, hj, hcb, hcl⟩
theorem nearest_big (neg : Bool) (mag : Nat) (place q : Int) (h0 : mag ≠ 0) (hv : pw q ≤ mval mag place) (hq : f.leastPlace + f.fractionBits < q) :
    f.nearest neg mag place = f.word neg f.infRung ∨ ∃ m e, f.read (f.nearest neg mag place) = .number neg m e ∧ pw q ≤ mval m e := by
  obtain ⟨j, c, h1, h2, h3, h4⟩ := nearest_rung f neg mag place h0
  have hlog : q ≤ place + mag.log2 := by
    rcases Int.lt_or_le (place + mag.log2) q with h | h
    · exfalso
      have a1 : mval mag place < mval (2 ^ (mag.log2 + 1)) place := mval_lt Nat.lt_log2_self
      have a2 : mval (2 ^ (mag.log2 + 1)) place = pw (place + mag.log2 + 1) := by
        unfold mval; rw [← pw_nat, ← pw_add]; congr 1; omega
      have a3 : pw (place + mag.log2 + 1) ≤ pw q := pw_mono (by omega)
      grind
    · exact h
  have hL : q - f.fractionBits ≤ lastOf f mag place := by unfold lastOf; omega
  have hc : f.binade ≤ c := by
    rcases h4 with h | h
    · omega
    · exact h
  rcases Nat.lt_or_ge (j * f.binade + c) f.infRung with hR | hR
  · right
    rw [h1, Nat.min_eq_left (Nat.le_of_lt hR)]
    obtain ⟨m, e, hr, hme⟩ := read_rung f neg j c h3 h4 hR
    refine ⟨m, e, hr, ?_⟩
    rw [hme]
    have b1 : mval f.binade (f.leastPlace + j) ≤ mval c (f.leastPlace + j) := mval_le hc
    have b2 : mval f.binade (f.leastPlace + j) = pw (f.leastPlace + j + f.fractionBits) := by
      unfold mval Format.binade; rw [← pw_nat, ← pw_add]; congr 1; omega
    have b3 : pw q ≤ pw (f.leastPlace + j + f.fractionBits) := pw_mono (by omega)
    grind
  · left
    rw [h1, Nat.min_eq_right hR]
end
theorem inf_read : FloatKind.f64.format.read (FloatKind.f64.format.word false FloatKind.f64.format.infRung) = .infinity false := by decide +kernel

/-- A great sum is greater than any bound. -/
theorem big_sum {a b c : Nat} (ha : fin .f64 a) (hb : fin .f64 b) (h : pw 900 ≤ fv .f64 a + fv .f64 b) (hc : fin .f64 c) (hcv : fv .f64 c < pw 900) : fgt .f64 (fo .add .f64 a b) c = true := by
  obtain ⟨s, m, i, ha⟩ := ha
  obtain ⟨t, n, j, hb⟩ := hb
  obtain ⟨s', m', e', h1, h2⟩ := sum_val s t m n i j
  have hp := pw_pos 900
  unfold fv at h
  rw [ha, hb, ← h2] at h
  have hs : s' = false := by
    cases s'
    · rfl
    · exfalso
      rw [dval_num] at h
      have := mval_nonneg m' e'
      simp only [if_true] at h
      grind
  subst hs
  rw [dval_num] at h
  simp only [Bool.false_eq_true, if_false] at h
  have h0 : m' ≠ 0 := by rintro rfl; rw [mval_zero] at h; grind
  have : fo .add .f64 a b = FloatKind.f64.format.write (.number false m' e') := fo_some (by
    show ((FloatKind.f64.format.read a).sum (FloatKind.f64.format.read b)).map FloatKind.f64.format.write = _
    rw [ha, hb, h1]; rfl)
  rw [this]
  show fgt .f64 (FloatKind.f64.format.nearest false m' e') c = true
  rcases nearest_big FloatKind.f64.format false m' e' 900 h0 h (by decide +kernel) with h3 | ⟨m2, e2, hr, hv⟩
  · rw [h3]
    obtain ⟨u, k, l, hc⟩ := hc
    unfold fgt Format.order
    rw [inf_read, hc]; rfl
  · refine (fgt_iff ⟨_, _, _, hr⟩ hc).2 ?_
    have e : fv .f64 (FloatKind.f64.format.nearest false m' e') = mval m2 e2 := by unfold fv; rw [hr, dval_num]; rfl
    rw [e]; grind
end Go.Proofs.YtndnfhhdflmfcaaGreat

/-
spec.MakeModerate: a number whose size is from 2^-200 to 2^200.
-/
namespace Go.Proofs.YtndnfhhdflmfcaaGreat
open Go Go.RowKit Ieee

/-- A word that is finite, told by its difference with itself. -/
theorem fin_of_sub {b : Nat} (h : feq .f64 (fo .sub .f64 b b) 0 = true) : fin .f64 b := by
  have hn := (feq_nan h).1
  cases hr : FloatKind.f64.format.read b with
  | number s m e => exact ⟨s, m, e, hr⟩
  | infinity s =>
    exfalso
    have : floatBits .sub .f64 b b = none := by
      show ((FloatKind.f64.format.read b).sum (FloatKind.f64.format.read b).opposite).map FloatKind.f64.format.write = none
      rw [hr]; cases s <;> rfl
    unfold fo at hn
    rw [this] at hn
    have := isN_qn .f64
    simp [this] at hn
  | nan s t =>
    exfalso
    have : floatBits .sub .f64 b b = none := by
      show ((FloatKind.f64.format.read b).sum (FloatKind.f64.format.read b).opposite).map FloatKind.f64.format.write = none
      rw [hr]; rfl
    unfold fo at hn
    rw [this] at hn
    have := isN_qn .f64
    simp [this] at hn

structure Mod (a b : Nat) : Prop where
  fa : fin .f64 a
  fb : fin .f64 b
  wa : wfk .f64 a
  wb : wfk .f64 b
  lo : pw (-201) ≤ ab (fv .f64 a) + ab (fv .f64 b)
  hi : ab (fv .f64 a) + ab (fv .f64 b) ≤ 2 ^ 202

theorem lo_fin : fin .f64 3706462493325918208 ∧ fv .f64 3706462493325918208 = pw (-200) := by
  have h : FloatKind.f64.format.read 3706462493325918208 = .number false 4503599627370496 (-252) := by decide +kernel
  obtain ⟨h1, h2⟩ := fin_of_read h
  refine ⟨h1, ?_⟩
  rw [h2, dval_num, show ((-200 : Int)) = 52 + -252 by decide, pw_add]
  unfold mval
  simp only [Bool.false_eq_true, if_false]
  congr 1
theorem hi_fin : fin .f64 5507902344274116608 ∧ fv .f64 5507902344274116608 = 2 ^ 200 := by
  have h : FloatKind.f64.format.read 5507902344274116608 = .number false 4503599627370496 148 := by decide +kernel
  obtain ⟨h1, h2⟩ := fin_of_read h
  refine ⟨h1, ?_⟩
  rw [h2, dval_num]
  unfold mval pw
  simp only [Bool.false_eq_true, if_false]
  grind

theorem mod_of {a b r1 r2 : Nat} (wa : wfk .f64 a) (wb : wfk .f64 b) (fa : fin .f64 a) (fb : fin .f64 b) (hr1 : nrm .f64 r1 = fo .add .f64 (absB a) (absB b)) (hr2 : nrm .f64 r2 = fo .add .f64 (absB a) (absB b))
    (h1 : flt .f64 r1 3706462493325918208 = false) (h2 : fgt .f64 r2 5507902344274116608 = false) : Mod a b := by
  obtain ⟨l1, l2⟩ := lo_fin
  obtain ⟨u1, u2⟩ := hi_fin
  obtain ⟨a1, a2⟩ := absB_fin fa
  obtain ⟨b1, b2⟩ := absB_fin fb
  have n1 := ab_nonneg (fv .f64 a)
  have n2 := ab_nonneg (fv .f64 b)
  have e900 : (2 : Rat) ^ 203 ≤ pw 900 := by
    have : pw 203 ≤ pw 900 := pw_mono (by omega)
    have : pw 203 = 2 ^ 203 := by unfold pw; grind
    grind
  have e900' : pw 900 ≤ top .f64 := pw_mono (show (900 : Int) ≤ 1000 by omega)
  have hlt : ab (fv .f64 a) + ab (fv .f64 b) < pw 900 := by
    rcases rat_lt_or_le (ab (fv .f64 a) + ab (fv .f64 b)) (pw 900) with h | h
    · exact h
    · exfalso
      have hb := big_sum a1 b1 (by rw [a2, b2]; exact h) u1 (by rw [u2]; grind)
      have : fgt .f64 r2 5507902344274116608 = fgt .f64 (fo .add .f64 (absB a) (absB b)) 5507902344274116608 := fgt_congr (by rw [hr2, nrm_fo]) rfl
      rw [h2, hb] at this; cases this
  have hsz := size_spec n1 n2 (by grind) a1 b1 a2 b2
  obtain rfl : r1 = fo .add .f64 (absB a) (absB b) := nrm_fin_eq hr1 hsz.1
  obtain rfl : r2 = fo .add .f64 (absB a) (absB b) := nrm_fin_eq hr2 hsz.1
  generalize fo .add .f64 (absB a) (absB b) = s at *
  have g1 : fv .f64 3706462493325918208 ≤ fv .f64 s := by
    rcases rat_lt_or_le (fv .f64 s) (fv .f64 3706462493325918208) with h | h
    · have := (flt_iff hsz.1 l1).2 h
      rw [h1] at this; cases this
    · exact h
  have g2 : fv .f64 s ≤ fv .f64 5507902344274116608 := by
    rcases rat_lt_or_le (fv .f64 5507902344274116608) (fv .f64 s) with h | h
    · have := (fgt_iff hsz.1 u1).2 h
      rw [h2] at this; cases this
    · exact h
  rw [l2] at g1
  rw [u2] at g2
  obtain ⟨k1, k2, k3⟩ := consts64
  have hn := hsz.2.1
  obtain ⟨S, hS⟩ : ∃ S, ab (fv .f64 a) + ab (fv .f64 b) = S := ⟨_, rfl⟩
  have hS0 : 0 ≤ S := by grind
  rw [hS, k1, ab_of_nonneg (x := S) hS0] at hn
  have hn1 := le_ab (fv .f64 s - S)
  have p200 : pw (-200) = 2 * pw (-201) := by rw [show (-200 : Int) = -201 + 1 by decide, pw_succ]
  have p201 := pw_pos (-201)
  have hel : eta .f64 ≤ pw (-201) / 2 ^ 60 := eta_small (Rat.le_refl)
  refine ⟨fa, fb, wa, wb, ?_, ?_⟩
  · rw [hS]
    rcases rat_lt_or_le S (pw (-201)) with h | h
    · exfalso; grind
    · exact h
  · rw [hS]
    rcases rat_lt_or_le (2 ^ 202) S with h | h
    · exfalso; grind
    · grind
theorem mod_else : Mod 4604930618986332160 13837309855095848960 := by
  have h1 : FloatKind.f64.format.read 4604930618986332160 = .number false 6755399441055744 (-53) := by decide +kernel
  have h2 : FloatKind.f64.format.read 13837309855095848960 = .number true 6755399441055744 (-51) := by decide +kernel
  obtain ⟨a1, a2⟩ := fin_of_read h1
  obtain ⟨b1, b2⟩ := fin_of_read h2
  have e1 : fv .f64 4604930618986332160 = 3 / 4 := by
    rw [a2, dval_num]; unfold mval pw; simp only [Bool.false_eq_true, if_false]; grind
  have e2 : fv .f64 13837309855095848960 = -3 := by
    rw [b2, dval_num]; unfold mval pw; simp only [if_true]; grind
  have hp : pw (-201) ≤ pw 0 := pw_mono (by omega)
  rw [pw_zero] at hp
  have n1 : ab (3 / 4 : Rat) = 3 / 4 := ab_of_nonneg (by grind)
  have n2 : ab (-3 : Rat) = 3 := by rw [ab_neg, ab_of_nonneg (by grind)]
  refine ⟨a1, b1, by rw [wfk_64]; omega, by rw [wfk_64]; omega, ?_, ?_⟩
  · rw [e1, e2, n1, n2]; grind
  · rw [e1, e2, n1, n2]; grind

end Go.Proofs.YtndnfhhdflmfcaaGreat

/-
spec.IsMode, spec.MakeMode.
-/
namespace Go.Proofs.YtndnfhhdflmfcaaGreat
open Go Go.RowKit Ieee

set_option maxHeartbeats 400000 in
theorem finiteSingle_any (a b : Nat) (w : World) : Calls Tryz.prog 90 #[.complex .f32 a b] w fun e w' => ∃ t n, e = .returned (.bool t) ∧ (t = true → feq .f64 (fo .sub .f64 (wid a) (wid a)) 0 = true ∧ feq .f64 (fo .sub .f64 (wid b) (wid b)) 0 = true) ∧ w.drewN n = w' := by
  have H1 := Lib.hid (fun w => (feq_congr (by rw [nrm_fo, nrm_fo]; exact fo_congr (by rw [nrm_wid, nrm_cv (by decide)]) (by rw [nrm_wid, nrm_cv (by decide)])) rfl : feq .f64 (fo .sub .f64 (cR .f32 a .f64 w) (cR .f32 a .f64 w)) 0 = feq .f64 (fo .sub .f64 (wid a) (wid a)) 0))
  have H2 := Lib.hid (fun w => (feq_congr (by rw [nrm_fo, nrm_fo]; exact fo_congr (by rw [nrm_wid, nrm_cv (by decide)]) (by rw [nrm_wid, nrm_cv (by decide)])) rfl : feq .f64 (fo .sub .f64 (cR .f32 b .f64 w) (cR .f32 b .f64 w)) 0 = feq .f64 (fo .sub .f64 (wid b) (wid b)) 0))
  go_enter Tryz.func90, Tryz.ntmps90
  go_wp2_with fail
  refine (specFinite_any _ _ _).mono ?_
  rintro e w' ⟨n, rfl, rfl⟩
  rw [H1.out, H2.out]
  go_wp2_with fail
  go_ret
  exact ⟨_, _, rfl, fun h => by rw [Bool.and_eq_true] at h; exact h, rfl⟩

set_option maxHeartbeats 400000 in
theorem l2Square_any (a b : Nat) (w : World) : Calls Tryz.prog 91 #[.complex .f64 a b] w fun e w' => ∃ r n, e = .returned (.float .f64 r) ∧ nrm .f64 r = nrm .f64 (fo .add .f64 (fo .mul .f64 a a) (fo .mul .f64 b b)) ∧ w.drewN n = w' := by
  go_enter Tryz.func91, Tryz.ntmps91
  go_wp2_with fail
  go_ret
  exact ⟨_, _, rfl, fRo (fRo rfl rfl _) (fRo rfl rfl _) _, rfl⟩

set_option maxHeartbeats 400000 in
theorem l2Gain_any (a b : Nat) (w : World) : Calls Tryz.prog 92 #[.complex .f64 a b] w fun e w' => e = .returned (.bool (fle .f64 (absB a) 4652218415073722368 && fle .f64 (absB b) 4652218415073722368)) ∧ w = w' := by
  cases t : fle .f64 (absB a) 4652218415073722368
  · go_enter Tryz.func92, Tryz.ntmps92
    go_wp2_with fail
    refine (l1Abs_any a _).mono ?_
    rintro e w' ⟨rfl, rfl⟩
    go_wp2_with fail
    go_ret
    exact ⟨rfl, rfl⟩
  · go_enter Tryz.func92, Tryz.ntmps92
    go_wp2_with fail
    refine (l1Abs_any a _).mono ?_
    rintro e w' ⟨rfl, rfl⟩
    go_wp2_with fail
    refine (l1Abs_any b _).mono ?_
    rintro e w' ⟨rfl, rfl⟩
    go_wp2_with fail
    go_ret
    exact ⟨rfl, rfl⟩

/-- A mode that is valid, word by word. -/
structure ModeOk (a b c d : Nat) : Prop where
  wa : wfk .f32 a
  wb : wfk .f32 b
  wc : wfk .f32 c
  wd : wfk .f32 d
  fa : fin .f64 (wid a)
  fb : fin .f64 (wid b)
  fc : fin .f64 (wid c)
  fd : fin .f64 (wid d)
  sq : fle .f64 (fo .add .f64 (fo .mul .f64 (wid a) (wid a)) (fo .mul .f64 (wid b) (wid b))) 4607182418800017408 = true
  gain : fle .f64 (absB (wid c)) 4652218415073722368 = true ∧ fle .f64 (absB (wid d)) 4652218415073722368 = true

set_option maxRecDepth 100000 in
set_option maxHeartbeats 400000 in
theorem isMode_any (a b c d : Nat) (w : World) (wa : wfk .f32 a) (wb : wfk .f32 b) (wc : wfk .f32 c) (wd : wfk .f32 d) : Calls Tryz.prog 62 #[.agg #[.complex .f32 a b, .complex .f32 c d]] w fun e w' =>
    ∃ t, e = .returned (.bool t) ∧ (t = true → ModeOk a b c d) ∧ Below w.heap.size w w' := by
  go_enter Tryz.func62, Tryz.ntmps62
  go_wp2_with fail
  have HB : Hid (Below w.heap.size w (w.alloc (.cells #[.complex .f32 a b, .complex .f32 c d] 87))) := (Below.refl w.heap.size w).alloc (Nat.le_refl _) _
  have hm : (w.alloc (.cells #[.complex .f32 a b, .complex .f32 c d] 87)).heap[w.heap.size]? = some (.cells #[.complex .f32 a b, .complex .f32 c d] 87 (0, 0)) := heap_alloc_new w _
  obtain ⟨c0, c1, _, _⟩ := m_cells hm
  clear hm
  generalize w.alloc (.cells #[.complex .f32 a b, .complex .f32 c d] 87) = W at *
  refine (finiteSingle_any a b _).mono ?_
  rintro e w' ⟨t1, n1, rfl, h1, rfl⟩
  cases t1
  · go_wp2_with fail
    go_ret
    exact ⟨_, rfl, (fun h => by cases h), below_drewN HB.out _⟩
  have F1 := Lib.hid (h1 rfl)
  clear h1
  go_wp2_with fail
  refine (finiteSingle_any c d _).mono ?_
  rintro e w' ⟨t2, n2, rfl, h2, rfl⟩
  cases t2
  · go_wp2_with fail
    go_ret
    exact ⟨_, rfl, (fun h => by cases h), below_drewN HB.out _⟩
  have F2 := Lib.hid (h2 rfl)
  clear h2
  have A1 := Lib.hid (fun w => nrm_fin_eq (nrm_wid a w) (fin_of_sub F1.out.1))
  have A2 := Lib.hid (fun w => nrm_fin_eq (nrm_wid b w) (fin_of_sub F1.out.2))
  have A3 := Lib.hid (fun w => nrm_fin_eq (nrm_wid c w) (fin_of_sub F2.out.1))
  have A4 := Lib.hid (fun w => nrm_fin_eq (nrm_wid d w) (fin_of_sub F2.out.2))
  go_wp2_with fail
  refine (l2Square_any _ _ _).mono ?_
  rintro e w' ⟨r, n3, rfl, hr, rfl⟩
  rw [A1.out, A2.out] at hr
  have Hr := Lib.hid hr
  clear hr
  cases t3 : fle .f64 r 4607182418800017408
  · go_wp2_with fail
    go_ret
    exact ⟨_, rfl, (fun h => by cases h), below_drewN HB.out _⟩
  go_wp2_with fail
  refine (l2Gain_any _ _ _).mono ?_
  rintro e w' ⟨rfl, rfl⟩
  rw [A3.out, A4.out]
  go_wp2_with fail
  go_ret
  refine ⟨_, rfl, fun h => ?_, below_drewN HB.out _⟩
  rw [Bool.and_eq_true] at h
  exact ⟨wa, wb, wc, wd, fin_of_sub F1.out.1, fin_of_sub F1.out.2, fin_of_sub F2.out.1, fin_of_sub F2.out.2, by rw [← t3]; exact fle_congr (by rw [Hr.out]) rfl, h⟩

theorem modeElse : ModeOk 1056964608 1048576000 1065353216 0 := by
  have key : ∀ (x m : Nat) (e : Int), double.read (wid x) = .number false m e → fin .f64 (wid x) := fun x m e h => ⟨_, _, _, h⟩
  exact ⟨by rw [wfk_32]; omega, by rw [wfk_32]; omega, by rw [wfk_32]; omega, by rw [wfk_32]; omega,
    key _ 4503599627370496 (-53) (by decide +kernel), key _ 4503599627370496 (-54) (by decide +kernel), key _ 4503599627370496 (-52) (by decide +kernel), key _ 0 (-1074) (by decide +kernel),
    by decide +kernel, by decide +kernel, by decide +kernel⟩

section
attribute [local go_sem] alloc_drewN setCell_drewN
end
end Go.Proofs.YtndnfhhdflmfcaaGreat

/-
Products of complex numbers: impl and spec, both widths; impl.IsMode.
-/
namespace Go.Proofs.YtndnfhhdflmfcaaGreat
open Go Go.RowKit Ieee

/-- A product, part by part. -/
def mulRe (a b c d : Nat) : Nat := fo .sub .f64 (fo .mul .f64 a c) (fo .mul .f64 b d)
def mulIm (a b c d : Nat) : Nat := fo .add .f64 (fo .mul .f64 a d) (fo .mul .f64 b c)
def TimesPost (a b c d : Nat) (w : World) (e : Ending) (w' : World) : Prop :=
  ∃ p q n, e = .returned (.complex .f64 p q) ∧ nrm .f64 p = nrm .f64 (mulRe a b c d) ∧ nrm .f64 q = nrm .f64 (mulIm a b c d) ∧ wfk .f64 p ∧ wfk .f64 q ∧ w.drewN n = w'

set_option maxHeartbeats 400000 in
theorem implTimes_any (a b c d : Nat) (w : World) : Calls Tryz.prog 124 #[.complex .f64 a b, .complex .f64 c d] w (TimesPost a b c d w) := by
  go_enter Tryz.func124, Tryz.ntmps124
  go_wp2_with fail
  go_ret
  exact ⟨_, _, _, rfl, fRo (fRo rfl rfl _) (fRo rfl rfl _) _, fRo (fRo rfl rfl _) (fRo rfl rfl _) _, fR_lt _ _ _ _ _, fR_lt _ _ _ _ _, rfl⟩

set_option maxHeartbeats 400000 in
theorem implWiden_any (a b : Nat) (w : World) (ha : wfk .f32 a) (hb : wfk .f32 b) : Calls Tryz.prog 104 #[.complex .f32 a b] w fun e w' => ∃ p q n, e = .returned (.complex .f64 p q) ∧ nrm .f64 p = wid a ∧ nrm .f64 q = wid b ∧ wfk .f64 p ∧ wfk .f64 q ∧ w.drewN n = w' := by
  have H1 := Lib.hid (fun w => cR_lt (s := .f32) (k := .f64) ha w)
  have H2 := Lib.hid (fun w => cR_lt (s := .f32) (k := .f64) hb w)
  go_enter Tryz.func104, Tryz.ntmps104
  go_wp2_with fail
  go_ret
  exact ⟨_, _, _, rfl, nrm_wid _ _, nrm_wid _ _, H1.out _, H2.out _, rfl⟩

/-- A double made a single. -/
def nar (x : Nat) : Nat := (floatToFloatBits .f64 x .f32).getD 0
theorem nar_ok {x : Nat} (hx : fin .f64 x) (h : ab (fv .f64 x) ≤ top .f32) : (∀ w, cR .f64 x .f32 w = nar x) ∧ RoundOf .f32 (fv .f64 x) (nar x) := by
  obtain ⟨r, h1, h2⟩ := narrow_spec hx h
  have e : nar x = r := by unfold nar; rw [h1]; rfl
  refine ⟨fun w => ?_, by rw [e]; exact h2⟩
  rw [e]; unfold cR; rw [h1]

/-- The words of a product in single precision. -/
def sRe (a b c d : Nat) : Nat := nar (mulRe (wid a) (wid b) (wid c) (wid d))
def sIm (a b c d : Nat) : Nat := nar (mulIm (wid a) (wid b) (wid c) (wid d))
/-- The product in double precision is finite, and not too great for single precision. -/
structure Mild (a b c d : Nat) : Prop where
  fr : fin .f64 (mulRe (wid a) (wid b) (wid c) (wid d))
  fi : fin .f64 (mulIm (wid a) (wid b) (wid c) (wid d))
  tr : ab (fv .f64 (mulRe (wid a) (wid b) (wid c) (wid d))) ≤ top .f32
  ti : ab (fv .f64 (mulIm (wid a) (wid b) (wid c) (wid d))) ≤ top .f32

set_option maxHeartbeats 400000 in
theorem implNarrow_any (x y : Nat) (w : World) (hx : fin .f64 x) (hy : fin .f64 y) (tx : ab (fv .f64 x) ≤ top .f32) (ty : ab (fv .f64 y) ≤ top .f32) :
    Calls Tryz.prog 123 #[.complex .f64 x y] w fun e w' => ∃ n, e = .returned (.complex .f32 (nar x) (nar y)) ∧ w.drewN n = w' := by
  have H1 := Lib.hid (nar_ok hx tx).1
  have H2 := Lib.hid (nar_ok hy ty).1
  clear hx hy tx ty
  go_enter Tryz.func123, Tryz.ntmps123
  go_wp2_with fail
  go_ret
  exact ⟨_, by rw [← H1.out, ← H2.out]; rfl, rfl⟩

theorem mul_congr {a b c d a' b' c' d' : Nat} (ha : nrm .f64 a = nrm .f64 a') (hb : nrm .f64 b = nrm .f64 b') (hc : nrm .f64 c = nrm .f64 c') (hd : nrm .f64 d = nrm .f64 d') :
    mulRe a b c d = mulRe a' b' c' d' ∧ mulIm a b c d = mulIm a' b' c' d' := by
  unfold mulRe mulIm
  constructor
  · exact fo_congr (by rw [nrm_fo, nrm_fo]; exact fo_congr ha hc) (by rw [nrm_fo, nrm_fo]; exact fo_congr hb hd)
  · exact fo_congr (by rw [nrm_fo, nrm_fo]; exact fo_congr ha hd) (by rw [nrm_fo, nrm_fo]; exact fo_congr hb hc)

set_option maxHeartbeats 400000 in
theorem implSingle_any (a b c d : Nat) (w : World) (wa : wfk .f32 a) (wb : wfk .f32 b) (wc : wfk .f32 c) (wd : wfk .f32 d) (h : Mild a b c d) :
    Calls Tryz.prog 117 #[.complex .f32 a b, .complex .f32 c d] w fun e w' => ∃ n, e = .returned (.complex .f32 (sRe a b c d) (sIm a b c d)) ∧ w.drewN n = w' := by
  have H := Lib.hid h
  clear h
  go_enter Tryz.func117, Tryz.ntmps117
  go_wp2_with fail
  refine (implWiden_any a b _ wa wb).mono ?_
  rintro e w' ⟨a', b', n1, rfl, ha, hb, _, _, rfl⟩
  have HA := Lib.hid ha
  have HB := Lib.hid hb
  clear ha hb
  go_wp2_with fail
  refine (implWiden_any c d _ wc wd).mono ?_
  rintro e w' ⟨c', d', n2, rfl, hc, hd, _, _, rfl⟩
  have E := Lib.hid (mul_congr (a' := wid a) (b' := wid b) (c' := wid c) (d' := wid d) (by rw [HA.out, nrm_cv (by decide)]) (by rw [HB.out, nrm_cv (by decide)]) (by rw [hc, nrm_cv (by decide)]) (by rw [hd, nrm_cv (by decide)]))
  clear hc hd
  go_wp2_with fail
  refine (implTimes_any a' b' c' d' _).mono ?_
  rintro e w' ⟨p, q, n3, rfl, hp, hq, _, _, rfl⟩
  rw [E.out.1, nrm_fin H.out.fr] at hp
  rw [E.out.2, nrm_fin H.out.fi] at hq
  have P := Lib.hid (nrm_fin_eq hp H.out.fr)
  have Q := Lib.hid (nrm_fin_eq hq H.out.fi)
  clear hp hq
  go_wp2_with fail
  refine (implNarrow_any p q _ (by rw [P.out]; exact H.out.fr) (by rw [Q.out]; exact H.out.fi) (by rw [P.out]; exact H.out.tr) (by rw [Q.out]; exact H.out.ti)).mono ?_
  rintro e w' ⟨n4, rfl, rfl⟩
  go_wp2_with fail
  go_ret
  exact ⟨_, by rw [P.out, Q.out]; rfl, rfl⟩

end Go.Proofs.YtndnfhhdflmfcaaGreat

/-
spec.l1Some gives numbers; the force of a strike is one.
-/
namespace Go.Proofs.YtndnfhhdflmfcaaGreat
open Go Go.RowKit Ieee

theorem quo_bd {n : Int} {c : Nat} {C : Rat} (h1 : -1000000 ≤ n) (h2 : n ≤ 1000000) (hc : fin .f64 c) (hv : fv .f64 c = C) (h3 : 3 ≤ C) : fin .f64 (fo .quo .f64 (floatOfInt .f64 n) c) ∧ ab (fv .f64 (fo .quo .f64 (floatOfInt .f64 n) c)) ≤ 400000 := by
  obtain ⟨u1, u2, u3⟩ := consts64
  obtain ⟨f1, f2⟩ := int_exact .f64 n (by
    have e : FloatKind.f64.format.binade = 4503599627370496 := by decide +kernel
    rw [e]; omega)
  have hn : ab (n : Rat) ≤ 1000000 := by
    have a1 : (n : Rat) ≤ ((1000000 : Int) : Rat) := Rat.intCast_le_intCast.2 h2
    have a2 : ((-1000000 : Int) : Rat) ≤ (n : Rat) := Rat.intCast_le_intCast.2 h1
    refine ab_le ?_ ?_
    · simpa using a1
    · have : ((-1000000 : Int) : Rat) = -1000000 := by simp
      grind
  have hq : ab ((n : Rat) / C) ≤ 1000000 / 3 := by
    rw [ab_div_pos _ (by grind)]
    have k : ab (n : Rat) / C ≤ 1000000 / C := by
      rw [Rat.div_def, Rat.div_def]
      exact Rat.mul_le_mul_of_nonneg_right hn (Rat.le_of_lt (Rat.inv_pos.2 (by grind)))
    have k2 : (1000000 : Rat) / C ≤ 1000000 / 3 := by
      have p : (0 : Rat) < C := by grind
      have e : (1000000 : Rat) / C * C = 1000000 := by rw [Rat.div_mul_cancel (by grind)]
      have q0 : (0 : Rat) ≤ 1000000 / C := by
        rw [Rat.div_def]; exact Rat.mul_nonneg (by grind) (Rat.le_of_lt (Rat.inv_pos.2 p))
      have m := Rat.mul_le_mul_of_nonneg_left h3 q0
      grind
    grind
  have d := div_spec f1 hc (by rw [hv]; grind) (by rw [f2, hv]; have : (2 : Rat) ^ 200 ≤ top .f64 := u3; grind)
  rw [f2, hv] at d
  have e := d.2.1
  rw [u1] at e
  have t := ab_tri (fv .f64 (fo .quo .f64 (floatOfInt .f64 n) c)) ((n : Rat) / C)
  exact ⟨d.1, by grind⟩
theorem whole_bd {n : Int} (h1 : -1000000 ≤ n) (h2 : n ≤ 1000000) : fin .f64 (floatOfInt .f64 n) ∧ ab (fv .f64 (floatOfInt .f64 n)) ≤ 1000000 := by
  obtain ⟨f1, f2⟩ := int_exact .f64 n (by
    have e : FloatKind.f64.format.binade = 4503599627370496 := by decide +kernel
    rw [e]; omega)
  refine ⟨f1, ?_⟩
  rw [f2]
  have a1 : (n : Rat) ≤ ((1000000 : Int) : Rat) := Rat.intCast_le_intCast.2 h2
  have a2 : ((-1000000 : Int) : Rat) ≤ (n : Rat) := Rat.intCast_le_intCast.2 h1
  refine ab_le ?_ ?_
  · simpa using a1
  · have : ((-1000000 : Int) : Rat) = -1000000 := by simp
    grind
theorem d16 : fin .f64 4625196817309499392 ∧ fv .f64 4625196817309499392 = 16 := by
  have h : FloatKind.f64.format.read 4625196817309499392 = .number false 4503599627370496 (-48) := by decide +kernel
  obtain ⟨h1, h2⟩ := fin_of_read h
  refine ⟨h1, ?_⟩
  rw [h2, dval_num]
  have e : mval 4503599627370496 (-48) = 16 := by unfold mval pw; grind
  rw [e]; simp
theorem d2p20 : fin .f64 4697254411347427328 ∧ fv .f64 4697254411347427328 = 1048576 := by
  have h : FloatKind.f64.format.read 4697254411347427328 = .number false 4503599627370496 (-32) := by decide +kernel
  obtain ⟨h1, h2⟩ := fin_of_read h
  refine ⟨h1, ?_⟩
  rw [h2, dval_num]
  have e : mval 4503599627370496 (-32) = 1048576 := by unfold mval pw; grind
  rw [e]; simp
theorem d3 : fin .f64 4613937818241073152 ∧ fv .f64 4613937818241073152 = 3 := by
  have h : FloatKind.f64.format.read 4613937818241073152 = .number false 6755399441055744 (-51) := by decide +kernel
  obtain ⟨h1, h2⟩ := fin_of_read h
  refine ⟨h1, ?_⟩
  rw [h2, dval_num]
  have e : mval 6755399441055744 (-51) = 3 := by unfold mval pw; grind
  rw [e]; simp
set_option maxHeartbeats 1000000 in
theorem some_fin (g : Nat) (w : World) (h : Cur w g) :
    Calls Tryz.prog 63 #[.pointer (some ⟨g, 0, none⟩)] w fun e w' => ∃ b : Nat, e = .returned (.float .f64 b) ∧ (fin .f64 b ∧ ab (fv .f64 b) ≤ 1000000) ∧ CurStep w w' g := by
  go_enter Tryz.func63, Tryz.ntmps63
  go_wp2_with fail
  refine (below_any g 4 _ h (by omega) (by omega)).mono ?_
  rintro e w1 ⟨x, rfl, hx, hs⟩
  go_wp2_with fail
  · refine (below_any g _ _ hs.1 (by omega) (by omega)).mono ?_
    rintro e w2 ⟨y, rfl, hy, hs2⟩
    have hb := Lib.hid (quo_bd (n := y - 32) (by omega) (by omega) d16.1 d16.2 (by grind))
    go_wp2_with fail
    go_ret
    exact ⟨_, rfl, by rw [rnd_eq hb.out.1]; exact ⟨hb.out.1, Rat.le_trans hb.out.2 (by grind)⟩, (hs.trans hs2).drewN _⟩
  · refine (below_any g _ _ hs.1 (by omega) (by omega)).mono ?_
    rintro e w2 ⟨y, rfl, hy, hs2⟩
    have hb := Lib.hid (quo_bd (n := y - 1000000) (by omega) (by omega) d2p20.1 d2p20.2 (by grind))
    go_wp2_with fail
    go_ret
    exact ⟨_, rfl, by rw [rnd_eq hb.out.1]; exact ⟨hb.out.1, Rat.le_trans hb.out.2 (by grind)⟩, (hs.trans hs2).drewN _⟩
  · refine (below_any g _ _ hs.1 (by omega) (by omega)).mono ?_
    rintro e w2 ⟨y, rfl, hy, hs2⟩
    have hb := Lib.hid (quo_bd (n := y - 1000000) (by omega) (by omega) d3.1 d3.2 (by grind))
    go_wp2_with fail
    go_ret
    exact ⟨_, rfl, by rw [rnd_eq hb.out.1]; exact ⟨hb.out.1, Rat.le_trans hb.out.2 (by grind)⟩, (hs.trans hs2).drewN _⟩
  · refine (below_any g _ _ hs.1 (by omega) (by omega)).mono ?_
    rintro e w2 ⟨y, rfl, hy, hs2⟩
    have hb := Lib.hid (whole_bd (n := y - 2) (by omega) (by omega))
    go_wp2_with fail
    go_ret
    exact ⟨_, rfl, hb.out, hs.trans hs2⟩
theorem sixtyfour : fin .f32 1115684864 ∧ fv .f32 1115684864 = 64 := by
  have h : FloatKind.f32.format.read 1115684864 = .number false 8388608 (-17) := by decide +kernel
  obtain ⟨h1, h2⟩ := fin_of_read h
  refine ⟨h1, ?_⟩
  rw [h2, dval_num]
  have e : mval 8388608 (-17) = 64 := by unfold mval pw; grind
  rw [e]; simp
/-- The force of a strike. -/
theorem force_ok {b : Nat} (hf : fin .f64 b) (hb : ab (fv .f64 b) ≤ 1000000) : (∀ w, cR .f64 b .f32 w = nar b) ∧ fin .f32 (fo .quo .f32 (nar b) 1115684864) ∧ ab (fv .f32 (fo .quo .f32 (nar b) 1115684864)) ≤ 16000 := by
  obtain ⟨u1, u2, u3⟩ := consts32
  obtain ⟨c1, c2⟩ := sixtyfour
  obtain ⟨n1, n2⟩ := nar_ok hf (by rw [u3]; grind)
  have e := n2.2.1
  rw [u1] at e
  have t := ab_tri (fv .f32 (nar b)) (fv .f64 b)
  have hn : ab (fv .f32 (nar b)) ≤ 1000001 := by grind
  have hq : ab (fv .f32 (nar b) / 64) ≤ 1000001 / 64 := by
    rw [ab_div_pos _ (by grind)]
    rw [Rat.div_def, Rat.div_def]
    exact Rat.mul_le_mul_of_nonneg_right hn (by grind)
  have d := div_spec n2.1 c1 (by rw [c2]; grind) (by rw [c2, u3]; grind)
  rw [c2] at d
  have e2 := d.2.1
  rw [u1] at e2
  have t2 := ab_tri (fv .f32 (fo .quo .f32 (nar b) 1115684864)) (fv .f32 (nar b) / 64)
  exact ⟨n1, d.1, by grind⟩
end Go.Proofs.YtndnfhhdflmfcaaGreat

/-
Events as lists; an insertion sort by their times: sorted, and those of one time in their order. (Plain.)
-/
namespace Go.Proofs.YtndnfhhdflmfcaaGreat

/-- An event: At, Kind, Body, Shape, Count, the word of Force. -/
abbrev Ev := Int × Int × Int × Int × Int × Nat
def ev0 : Ev := (0, 0, 0, 0, 0, 0)
def eAt (L : List Ev) (i : Nat) : Ev := L.getD i ev0
/-- Elements j and j - 1 change places. -/
def swapE (L : List Ev) (j : Nat) : List Ev := (L.set j (eAt L (j - 1))).set (j - 1) (eAt L j)
theorem swapE_len (L : List Ev) (j : Nat) : (swapE L j).length = L.length := by simp [swapE]
theorem eAt_set {L : List Ev} {k i : Nat} {e : Ev} (hk : k < L.length) : eAt (L.set k e) i = if i = k then e else eAt L i := by
  unfold eAt
  simp only [List.getD, List.getElem?_set]
  by_cases h : i = k
  · subst h; simp [hk]
  · rw [if_neg (fun q => h q.symm), if_neg h]
theorem eAt_swap {L : List Ev} {j i : Nat} (h0 : 0 < j) (hj : j < L.length) : eAt (swapE L j) i = if i = j - 1 then eAt L j else if i = j then eAt L (j - 1) else eAt L i := by
  unfold swapE
  rw [eAt_set (by rw [List.length_set]; omega), eAt_set hj]
/-- An element sinks to its place. -/
def sink (L : List Ev) : Nat → List Ev
  | 0 => L
  | j + 1 => if (eAt L (j + 1)).1 < (eAt L j).1 then sink (swapE L (j + 1)) j else L
/-- Elements i, i + 1, .. sink (d of them). -/
def isortE (L : List Ev) (i : Nat) : Nat → List Ev
  | 0 => L
  | d + 1 => isortE (sink L i) (i + 1) d
theorem sink_len (L : List Ev) (j : Nat) : (sink L j).length = L.length := by
  induction j generalizing L with
  | zero => rfl
  | succ j ih =>
    unfold sink
    split
    · rw [ih, swapE_len]
    · rfl
theorem isortE_len (L : List Ev) (i d : Nat) : (isortE L i d).length = L.length := by
  induction d generalizing L i with
  | zero => rfl
  | succ d ih =>
    unfold isortE
    rw [ih, sink_len]
def inOrder (L : List Ev) (n : Nat) : Prop := ∀ i, i + 1 < n → (eAt L i).1 ≤ (eAt L (i + 1)).1
/-- Sorted but for the element at j, which is less than none behind it. -/
structure Sinking (L : List Ev) (n j : Nat) : Prop where
  low : ∀ i, i + 1 < n → i + 1 ≠ j → i ≠ j → (eAt L i).1 ≤ (eAt L (i + 1)).1
  skip : 0 < j → j + 1 < n → (eAt L (j - 1)).1 ≤ (eAt L (j + 1)).1
  high : j + 1 < n → (eAt L j).1 ≤ (eAt L (j + 1)).1
theorem sink_sorted (L : List Ev) (n j : Nat) (hn : n ≤ L.length) (hj : j < n) (h : Sinking L n j) : inOrder (sink L j) n := by
  induction j generalizing L with
  | zero =>
    intro i hi
    by_cases e : i = 0
    · subst e; exact h.high hi
    · exact h.low i hi (by omega) e
  | succ j ih =>
    unfold sink
    split
    · rename_i hlt
      have sw := fun i => eAt_swap (L := L) (j := j + 1) (i := i) (by omega) (by omega)
      simp only [Nat.add_sub_cancel] at sw
      refine ih (swapE L (j + 1)) (by rw [swapE_len]; exact hn) (by omega) ⟨fun i hi h1 h2 => ?_, fun h0 h1 => ?_, fun h1 => ?_⟩
      · rw [sw i, sw (i + 1), if_neg h2]
        by_cases e : i = j + 1
        · subst e
          rw [if_pos rfl, if_neg (by omega), if_neg (by omega)]
          have := h.skip (by omega) hi
          simpa using this
        · rw [if_neg e, if_neg h1, if_neg (by omega)]
          exact h.low i hi (by omega) e
      · rw [sw (j - 1), sw (j + 1), if_neg (by omega), if_neg (by omega), if_neg (by omega), if_pos rfl]
        have := h.low (j - 1) (by omega) (by omega) (by omega)
        rwa [show j - 1 + 1 = j by omega] at this
      · rw [sw j, sw (j + 1), if_pos rfl, if_neg (by omega), if_pos rfl]
        omega
    · rename_i hge
      intro i hi
      by_cases e : i + 1 = j + 1
      · have : i = j := by omega
        subst this; omega
      · by_cases e2 : i = j + 1
        · subst e2; exact h.high hi
        · exact h.low i hi e e2
theorem sink_inOrder (L : List Ev) (i : Nat) (hi : i < L.length) (h : inOrder L i) : inOrder (sink L i) (i + 1) :=
  sink_sorted L (i + 1) i (by omega) (by omega) ⟨fun k hk h1 h2 => h k (by omega), fun _ hk => by omega, fun hk => by omega⟩
theorem isortE_inOrder (L : List Ev) (i d : Nat) (hi : i + d ≤ L.length) (h : inOrder L i) : inOrder (isortE L i d) (i + d) := by
  induction d generalizing L i with
  | zero => exact h
  | succ d ih =>
    unfold isortE
    have := ih (sink L i) (i + 1) (by rw [sink_len]; omega) (sink_inOrder L i (by omega) h)
    rwa [show i + 1 + d = i + (d + 1) by omega] at this
/-- Those of one time. -/
def ofTime (x : Int) (L : List Ev) : List Ev := L.filter fun e => decide (e.1 = x)
theorem swap_split (L : List Ev) (j : Nat) (h0 : 0 < j) (hj : j < L.length) : ∃ A B : List Ev, L = A ++ [eAt L (j - 1), eAt L j] ++ B ∧ swapE L j = A ++ [eAt L j, eAt L (j - 1)] ++ B := by
  refine ⟨L.take (j - 1), L.drop (j + 1), ?_, ?_⟩
  · refine List.ext_getElem (by simp; omega) fun i h1 h2 => ?_
    simp only [List.getElem_append, List.length_append, List.length_take, List.getElem_take, List.getElem_drop, List.length_cons, List.length_nil]
    have e1 : eAt L (j - 1) = L[j - 1] := by simp [eAt, List.getD, List.getElem?_eq_getElem (show j - 1 < L.length by omega)]
    have e2 : eAt L j = L[j] := by simp [eAt, List.getD, List.getElem?_eq_getElem hj]
    by_cases q1 : i < j - 1
    · rw [dif_pos (by omega), dif_pos (by omega)]
    · by_cases q2 : i = j - 1
      · subst q2
        rw [dif_pos (by omega), dif_neg (by omega)]
        simp only [show min (j - 1) L.length = j - 1 by omega, Nat.sub_self, List.getElem_cons_zero]
        exact e1.symm
      · by_cases q3 : i = j
        · subst q3
          rw [dif_pos (by omega), dif_neg (by omega)]
          have : i - min (i - 1) L.length = 1 := by omega
          simp only [this, List.getElem_cons_succ, List.getElem_cons_zero]
          exact e2.symm
        · rw [dif_neg (by omega)]
          congr 1
          omega
  · refine List.ext_getElem (by rw [swapE_len]; simp; omega) fun i h1 h2 => ?_
    have hi : i < L.length := by rw [swapE_len] at h1; exact h1
    have e0 : (swapE L j)[i] = eAt (swapE L j) i := by simp [eAt, List.getD, List.getElem?_eq_getElem h1]
    rw [e0, eAt_swap h0 hj]
    simp only [List.getElem_append, List.length_append, List.length_take, List.getElem_take, List.getElem_drop, List.length_cons, List.length_nil]
    by_cases q1 : i < j - 1
    · rw [if_neg (by omega), if_neg (by omega), dif_pos (by omega), dif_pos (by omega)]
      simp [eAt, List.getD, List.getElem?_eq_getElem hi]
    · by_cases q2 : i = j - 1
      · subst q2
        rw [if_pos rfl, dif_pos (by omega), dif_neg (by omega)]
        simp [show min (j - 1) L.length = j - 1 by omega]
      · by_cases q3 : i = j
        · subst q3
          rw [if_neg (by omega), if_pos rfl, dif_pos (by omega), dif_neg (by omega)]
          have : i - min (i - 1) L.length = 1 := by omega
          simp [this]
        · rw [if_neg q2, if_neg q3, dif_neg (by omega)]
          have : j + 1 + (i - (min (j - 1) L.length + (0 + 1 + 1))) = i := by omega
          simp [eAt, List.getD, List.getElem?_eq_getElem hi, this]
theorem ofTime_swap (x : Int) (L : List Ev) (j : Nat) (h0 : 0 < j) (hj : j < L.length) (hne : (eAt L j).1 ≠ (eAt L (j - 1)).1) : ofTime x (swapE L j) = ofTime x L := by
  obtain ⟨A, B, e1, e2⟩ := swap_split L j h0 hj
  generalize eAt L (j - 1) = a at *
  generalize eAt L j = b at *
  rw [e2]
  conv => rhs; rw [e1]
  unfold ofTime
  simp only [List.filter_append]
  congr 2
  simp only [List.filter_cons, List.filter_nil]
  by_cases ha : a.1 = x <;> by_cases hb : b.1 = x
  · exact absurd (hb.trans ha.symm) hne
  · simp [ha, hb]
  · simp [ha, hb]
  · simp [ha, hb]
theorem ofTime_sink (x : Int) (L : List Ev) (j : Nat) (hj : j < L.length) : ofTime x (sink L j) = ofTime x L := by
  induction j generalizing L with
  | zero => rfl
  | succ j ih =>
    unfold sink
    split
    · rename_i hlt
      rw [ih (swapE L (j + 1)) (by rw [swapE_len]; omega), ofTime_swap x L (j + 1) (by omega) hj (by simp only [Nat.add_sub_cancel]; omega)]
    · rfl
theorem ofTime_isort (x : Int) (L : List Ev) (i d : Nat) (hi : i + d ≤ L.length) : ofTime x (isortE L i d) = ofTime x L := by
  induction d generalizing L i with
  | zero => rfl
  | succ d ih =>
    unfold isortE
    rw [ih (sink L i) (i + 1) (by rw [sink_len]; omega), ofTime_sink x L i (by omega)]
/-- The rest of those of one time, from an element on. -/
theorem ofTime_drop {x : Int} {L : List Ev} {k : Nat} (hk : k < L.length) : ofTime x (L.drop k) = if (eAt L k).1 = x then eAt L k :: ofTime x (L.drop (k + 1)) else ofTime x (L.drop (k + 1)) := by
  have e : eAt L k = L[k] := by simp [eAt, List.getD, List.getElem?_eq_getElem hk]
  rw [e, List.drop_eq_getElem_cons hk]
  unfold ofTime
  rw [List.filter_cons]
  by_cases h : L[k].1 = x <;> simp [h]
theorem ofTime_end {x : Int} {L : List Ev} {k : Nat} (hk : L.length ≤ k) : ofTime x (L.drop k) = [] := by
  rw [List.drop_eq_nil_of_le hk]; rfl
/-- The events in order. -/
def sortedE (L : List Ev) : List Ev := isortE L 1 (L.length - 1)
theorem sortedE_len (L : List Ev) : (sortedE L).length = L.length := isortE_len _ _ _
theorem sortedE_inOrder (L : List Ev) : inOrder (sortedE L) L.length := by
  rcases Nat.eq_zero_or_pos L.length with h | h
  · intro i hi; omega
  · have := isortE_inOrder L 1 (L.length - 1) (by omega) (fun i hi => by omega)
    rwa [show 1 + (L.length - 1) = L.length by omega] at this
theorem ofTime_sorted (x : Int) (L : List Ev) : ofTime x (sortedE L) = ofTime x L := by
  rcases Nat.eq_zero_or_pos L.length with h | h
  · have : L = [] := List.eq_nil_of_length_eq_zero h
    subst this; rfl
  · exact ofTime_isort x L 1 (L.length - 1) (by omega)
end Go.Proofs.YtndnfhhdflmfcaaGreat

/-
Products in single precision: bounds. (Plain arithmetic.)
-/
namespace Go.Proofs.YtndnfhhdflmfcaaGreat
open Go Ieee

/-- A small word of single precision: its value is at most B. -/
theorem prod_part {x y : Nat} (hx : fin .f64 x) (hy : fin .f64 y) (bx : ab (fv .f64 x) ≤ 2 ^ 13) (by_ : ab (fv .f64 y) ≤ 2) :
    fin .f64 (fo .mul .f64 x y) ∧ ab (fv .f64 (fo .mul .f64 x y) - fv .f64 x * fv .f64 y) ≤ ab (fv .f64 x) * ab (fv .f64 y) / 2 ^ 53 + eta .f64 ∧ ab (fv .f64 x * fv .f64 y) ≤ 2 ^ 14 := by
  obtain ⟨k1, k2, k3⟩ := consts64
  have h0 := ab_nonneg (fv .f64 x)
  have h1 : ab (fv .f64 x * fv .f64 y) ≤ 2 ^ 14 := by
    rw [ab_mul]
    have := Rat.mul_le_mul_of_nonneg_right bx (ab_nonneg (fv .f64 y))
    grind
  have hm := mul_spec hx hy (by grind)
  refine ⟨hm.1, ?_, h1⟩
  have := hm.2.1
  rw [k1, ab_mul] at this
  grind

theorem prod_bound {x y : Nat} (hx : fin .f64 x) (hy : fin .f64 y) (bx : ab (fv .f64 x) ≤ 2 ^ 13) (by_ : ab (fv .f64 y) ≤ 2) : fin .f64 (fo .mul .f64 x y) ∧ ab (fv .f64 (fo .mul .f64 x y)) ≤ 2 ^ 15 := by
  obtain ⟨h1, h2, h3⟩ := prod_part hx hy bx by_
  obtain ⟨k1, k2, k3⟩ := consts64
  have t := ab_tri (fv .f64 (fo .mul .f64 x y)) (fv .f64 x * fv .f64 y)
  rw [ab_mul] at t h3
  refine ⟨h1, by grind⟩
theorem mild_of {a b c d : Nat} (fa : fin .f64 (wid a)) (fb : fin .f64 (wid b)) (fc : fin .f64 (wid c)) (fd : fin .f64 (wid d)) (ba : ab (fv .f64 (wid a)) ≤ 2 ^ 13) (bb : ab (fv .f64 (wid b)) ≤ 2 ^ 13)
    (bc : ab (fv .f64 (wid c)) ≤ 2) (bd : ab (fv .f64 (wid d)) ≤ 2) : Mild a b c d := by
  obtain ⟨k1, k2, k3⟩ := consts64
  have ct := consts32.2.2
  have p1 := prod_bound fa fc ba bc
  have p2 := prod_bound fb fd bb bd
  have p3 := prod_bound fa fd ba bd
  have p4 := prod_bound fb fc bb bc
  have l1 := le_ab (fv .f64 (fo .mul .f64 (wid a) (wid c)))
  have l2 := le_ab (fv .f64 (fo .mul .f64 (wid b) (wid d)))
  have l3 := le_ab (fv .f64 (fo .mul .f64 (wid a) (wid d)))
  have l4 := le_ab (fv .f64 (fo .mul .f64 (wid b) (wid c)))
  have b1 : ab (fv .f64 (fo .mul .f64 (wid a) (wid c)) - fv .f64 (fo .mul .f64 (wid b) (wid d))) ≤ 2 ^ 16 := ab_le (by grind) (by grind)
  have b2 : ab (fv .f64 (fo .mul .f64 (wid a) (wid d)) + fv .f64 (fo .mul .f64 (wid b) (wid c))) ≤ 2 ^ 16 := ab_le (by grind) (by grind)
  have s1 := sub_spec p1.1 p2.1 (by grind)
  have s2 := add_spec p3.1 p4.1 (by grind)
  have e1 := s1.2.1
  have e2 := s2.2.1
  rw [k1] at e1 e2
  have t1 := ab_tri (fv .f64 (fo .sub .f64 (fo .mul .f64 (wid a) (wid c)) (fo .mul .f64 (wid b) (wid d)))) (fv .f64 (fo .mul .f64 (wid a) (wid c)) - fv .f64 (fo .mul .f64 (wid b) (wid d)))
  have t2 := ab_tri (fv .f64 (fo .add .f64 (fo .mul .f64 (wid a) (wid d)) (fo .mul .f64 (wid b) (wid c)))) (fv .f64 (fo .mul .f64 (wid a) (wid d)) + fv .f64 (fo .mul .f64 (wid b) (wid c)))
  refine ⟨s1.1, s2.1, ?_, ?_⟩
  · unfold mulRe; rw [ct]; grind
  · unfold mulIm; rw [ct]; grind

theorem sq_nonneg (x : Rat) : 0 ≤ x * x := by
  rcases Rat.le_total (a := 0) (b := x) with h | h
  · exact Rat.mul_nonneg h h
  · have := Rat.mul_nonneg (show 0 ≤ -x by grind) (show 0 ≤ -x by grind)
    grind
theorem sq_le_of_ab {x y : Rat} (h : ab x ≤ y) : x * x ≤ y * y := by
  obtain ⟨h1, h2⟩ := le_ab x
  have := Rat.mul_nonneg (show 0 ≤ y - x by grind) (show 0 ≤ y + x by grind)
  grind
theorem ab_sq (x : Rat) : ab x * ab x = x * x := by
  rcases Rat.le_total (a := 0) (b := x) with h | h
  · rw [ab_of_nonneg h]
  · rw [← ab_neg, ab_of_nonneg (x := -x) (by grind)]; grind

/-- The square of the size grows little. -/
theorem norm_step {A B C D X Y N : Rat} (hN : A * A + B * B ≤ N) (hN1 : 1 ≤ N) (hp : C * C + D * D ≤ 1 + 1 / 2 ^ 40)
    (hx : ab (X - (A * C - B * D)) ≤ (ab A + ab B) / 2 ^ 22 + 1 / 2 ^ 90) (hy : ab (Y - (A * D + B * C)) ≤ (ab A + ab B) / 2 ^ 22 + 1 / 2 ^ 90) : X * X + Y * Y ≤ N + N / 2 ^ 18 := by
  obtain ⟨R, hR⟩ : ∃ R, A * C - B * D = R := ⟨_, rfl⟩
  obtain ⟨I, hI⟩ : ∃ I, A * D + B * C = I := ⟨_, rfl⟩
  rw [hR] at hx
  rw [hI] at hy
  have hRI : R * R + I * I = (A * A + B * B) * (C * C + D * D) := by rw [← hR, ← hI]; grind
  have h0 : 0 ≤ A * A + B * B := by have := sq_nonneg A; have := sq_nonneg B; grind
  have h1 : R * R + I * I ≤ N * (1 + 1 / 2 ^ 40) := by
    rw [hRI]
    have a1 := Rat.mul_le_mul_of_nonneg_left hp h0
    have a2 := Rat.mul_le_mul_of_nonneg_right hN (show (0 : Rat) ≤ 1 + 1 / 2 ^ 40 by grind)
    grind
  obtain ⟨M, hM⟩ : ∃ M, ab A + ab B = M := ⟨_, rfl⟩
  have hM2 : M * M ≤ 2 * N := by
    have a1 := ab_sq A
    have a2 := ab_sq B
    have a3 := sq_nonneg (ab A - ab B)
    rw [← hM]; grind
  rw [hM] at hx hy
  have ex := sq_le_of_ab hx
  have ey := sq_le_of_ab hy
  have m3 := sq_nonneg (M / 2 ^ 22 - 1 / 2 ^ 90)
  have g1 : (M / 2 ^ 22 + 1 / 2 ^ 90) * (M / 2 ^ 22 + 1 / 2 ^ 90) ≤ N / 2 ^ 41 := by grind
  have q1 := sq_nonneg (R / 2 ^ 10 - (X - R) * 2 ^ 10)
  have q2 := sq_nonneg (I / 2 ^ 10 - (Y - I) * 2 ^ 10)
  grind

/-- The error of one part: two products, their sum, narrowed. -/
theorem part_err {p q s r P Q : Rat} {S : Rat} (hp : ab (p - P) ≤ ab P / 2 ^ 53 + 1 / 2 ^ 200) (hq : ab (q - Q) ≤ ab Q / 2 ^ 53 + 1 / 2 ^ 200) (hs : ab (s - (p + q)) ≤ ab (p + q) / 2 ^ 53 + 1 / 2 ^ 200)
    (hr : ab (r - s) ≤ ab s / 2 ^ 24 + 1 / 2 ^ 149) (hS : ab P + ab Q ≤ S) : ab (r - (P + Q)) ≤ S / 2 ^ 23 + 1 / 2 ^ 100 := by
  have t1 := ab_tri p P
  have t2 := ab_tri q Q
  have t3 := ab_add p q
  have t4 := ab_tri s (p + q)
  have t5 := ab_add (r - s) (s - (p + q))
  have t6 := ab_add (r - (p + q)) ((p - P) + (q - Q))
  have t7 := ab_add (p - P) (q - Q)
  have e1 : r - s + (s - (p + q)) = r - (p + q) := by grind
  have e2 : r - (p + q) + ((p - P) + (q - Q)) = r - (P + Q) := by grind
  rw [e1] at t5
  rw [e2] at t6
  have n1 := ab_nonneg P
  have n2 := ab_nonneg Q
  clear e1 e2
  generalize ab (p - P) = x1 at *
  generalize ab (q - Q) = x2 at *
  generalize ab (s - (p + q)) = x3 at *
  generalize ab (r - s) = x4 at *
  generalize ab (r - (p + q)) = x5 at *
  generalize ab (p - P + (q - Q)) = x6 at *
  generalize ab (r - (P + Q)) = x7 at *
  generalize ab (p + q) = x8 at *
  generalize ab p = x9 at *
  generalize ab q = x10 at *
  generalize ab s = x11 at *
  generalize ab P = x12 at *
  generalize ab Q = x13 at *
  grind

theorem ab_le_of_sq {x y : Rat} (hy : 0 ≤ y) (h : x * x ≤ y * y) : ab x ≤ y := by
  rcases rat_lt_or_le y (ab x) with h1 | h1
  · exfalso
    have a1 := Rat.mul_lt_mul_of_pos_right h1 (show 0 < ab x by grind)
    have a2 := Rat.mul_le_mul_of_nonneg_left (Rat.le_of_lt h1) hy
    have a3 := ab_sq x
    grind
  · exact h1
end Go.Proofs.YtndnfhhdflmfcaaGreat

/-
One step of a mode in single precision: the words and their bound. (Plain arithmetic.)
-/
namespace Go.Proofs.YtndnfhhdflmfcaaGreat
open Go Ieee

theorem single_step {a b c d : Nat} {N : Rat} (fa : fin .f32 a) (fb : fin .f32 b) (fc : fin .f32 c) (fd : fin .f32 d) (hN : fv .f32 a * fv .f32 a + fv .f32 b * fv .f32 b ≤ N) (hN1 : 1 ≤ N) (hN2 : N ≤ 2 ^ 26)
    (hp : fv .f32 c * fv .f32 c + fv .f32 d * fv .f32 d ≤ 1 + 1 / 2 ^ 40) :
    Mild a b c d ∧ fin .f32 (sRe a b c d) ∧ fin .f32 (sIm a b c d) ∧ fv .f32 (sRe a b c d) * fv .f32 (sRe a b c d) + fv .f32 (sIm a b c d) * fv .f32 (sIm a b c d) ≤ N + N / 2 ^ 18 := by
  obtain ⟨a1, a2⟩ := wid_fin fa
  obtain ⟨b1, b2⟩ := wid_fin fb
  obtain ⟨c1, c2⟩ := wid_fin fc
  obtain ⟨d1, d2⟩ := wid_fin fd
  obtain ⟨k1, k2, k3⟩ := consts64
  obtain ⟨u1, u2, u3⟩ := consts32
  have sA := sq_nonneg (fv .f32 a)
  have sB := sq_nonneg (fv .f32 b)
  have sC := sq_nonneg (fv .f32 c)
  have sD := sq_nonneg (fv .f32 d)
  have bA : ab (fv .f32 a) ≤ 2 ^ 13 := ab_le_of_sq (by grind) (by grind)
  have bB : ab (fv .f32 b) ≤ 2 ^ 13 := ab_le_of_sq (by grind) (by grind)
  have bC : ab (fv .f32 c) ≤ 1 + 1 / 2 ^ 40 := ab_le_of_sq (by grind) (by grind)
  have bD : ab (fv .f32 d) ≤ 1 + 1 / 2 ^ 40 := ab_le_of_sq (by grind) (by grind)
  have M := mild_of a1 b1 c1 d1 (by rw [a2]; exact bA) (by rw [b2]; exact bB) (by rw [c2]; grind) (by rw [d2]; grind)
  refine ⟨M, (nar_ok M.fr M.tr).2.1, (nar_ok M.fi M.ti).2.1, ?_⟩
  obtain ⟨p1, e1, _⟩ := prod_part a1 c1 (by rw [a2]; exact bA) (by rw [c2]; grind)
  obtain ⟨p2, e2, _⟩ := prod_part b1 d1 (by rw [b2]; exact bB) (by rw [d2]; grind)
  obtain ⟨p3, e3, _⟩ := prod_part a1 d1 (by rw [a2]; exact bA) (by rw [d2]; grind)
  obtain ⟨p4, e4, _⟩ := prod_part b1 c1 (by rw [b2]; exact bB) (by rw [c2]; grind)
  have q1 := prod_bound a1 c1 (by rw [a2]; exact bA) (by rw [c2]; grind)
  have q2 := prod_bound b1 d1 (by rw [b2]; exact bB) (by rw [d2]; grind)
  have q3 := prod_bound a1 d1 (by rw [a2]; exact bA) (by rw [d2]; grind)
  have q4 := prod_bound b1 c1 (by rw [b2]; exact bB) (by rw [c2]; grind)
  have l1 := le_ab (fv .f64 (fo .mul .f64 (wid a) (wid c)))
  have l2 := le_ab (fv .f64 (fo .mul .f64 (wid b) (wid d)))
  have l3 := le_ab (fv .f64 (fo .mul .f64 (wid a) (wid d)))
  have l4 := le_ab (fv .f64 (fo .mul .f64 (wid b) (wid c)))
  have s1 := (sub_spec p1 p2 (Rat.le_trans (ab_le (y := 2 ^ 17) (by grind) (by grind)) (by grind))).2.1
  have s2 := (add_spec p3 p4 (Rat.le_trans (ab_le (y := 2 ^ 17) (by grind) (by grind)) (by grind))).2.1
  have r1 := (nar_ok M.fr M.tr).2.2.1
  have r2 := (nar_ok M.fi M.ti).2.2.1
  rw [k1] at s1 s2
  rw [u1] at r1 r2
  rw [a2, c2] at e1
  rw [b2, d2] at e2
  rw [a2, d2] at e3
  rw [b2, c2] at e4
  have nA := ab_nonneg (fv .f32 a)
  have nB := ab_nonneg (fv .f32 b)
  have g1 := Rat.mul_le_mul_of_nonneg_left bC nA
  have g2 := Rat.mul_le_mul_of_nonneg_left bD nB
  have g3 := Rat.mul_le_mul_of_nonneg_left bD nA
  have g4 := Rat.mul_le_mul_of_nonneg_left bC nB
  have m1 := ab_mul (fv .f32 a) (fv .f32 c)
  have m2 := ab_mul (fv .f32 b) (fv .f32 d)
  have m3 := ab_mul (fv .f32 a) (fv .f32 d)
  have m4 := ab_mul (fv .f32 b) (fv .f32 c)
  have x1 : ab (fv .f32 (sRe a b c d) - (fv .f32 a * fv .f32 c + -(fv .f32 b * fv .f32 d))) ≤ ((ab (fv .f32 a) + ab (fv .f32 b)) * (1 + 1 / 2 ^ 40)) / 2 ^ 23 + 1 / 2 ^ 100 := by
    refine part_err (p := fv .f64 (fo .mul .f64 (wid a) (wid c))) (q := -fv .f64 (fo .mul .f64 (wid b) (wid d))) (s := fv .f64 (mulRe (wid a) (wid b) (wid c) (wid d))) ?_ ?_ ?_ ?_ ?_
    · rw [m1]; grind
    · rw [ab_neg, m2, show -fv .f64 (fo .mul .f64 (wid b) (wid d)) - -(fv .f32 b * fv .f32 d) = -(fv .f64 (fo .mul .f64 (wid b) (wid d)) - fv .f32 b * fv .f32 d) by grind, ab_neg]; grind
    · rw [show fv .f64 (fo .mul .f64 (wid a) (wid c)) + -fv .f64 (fo .mul .f64 (wid b) (wid d)) = fv .f64 (fo .mul .f64 (wid a) (wid c)) - fv .f64 (fo .mul .f64 (wid b) (wid d)) by grind]
      unfold mulRe; grind
    · unfold sRe; grind
    · rw [ab_neg, m1, m2]; grind
  have x2 : ab (fv .f32 (sIm a b c d) - (fv .f32 a * fv .f32 d + fv .f32 b * fv .f32 c)) ≤ ((ab (fv .f32 a) + ab (fv .f32 b)) * (1 + 1 / 2 ^ 40)) / 2 ^ 23 + 1 / 2 ^ 100 := by
    refine part_err (p := fv .f64 (fo .mul .f64 (wid a) (wid d))) (q := fv .f64 (fo .mul .f64 (wid b) (wid c))) (s := fv .f64 (mulIm (wid a) (wid b) (wid c) (wid d))) ?_ ?_ ?_ ?_ ?_
    · rw [m3]; grind
    · rw [m4]; grind
    · unfold mulIm; grind
    · unfold sIm; grind
    · rw [m3, m4]; grind
  refine norm_step hN hN1 hp ?_ ?_
  · rw [show fv .f32 a * fv .f32 c - fv .f32 b * fv .f32 d = fv .f32 a * fv .f32 c + -(fv .f32 b * fv .f32 d) by grind]; grind
  · grind

/-- The state of a mode after so many steps: pole (a, b), gain (c, d). -/
def zAt (a b c d : Nat) : Nat → Nat × Nat
  | 0 => (c, d)
  | n + 1 => (sRe (zAt a b c d n).1 (zAt a b c d n).2 a b, sIm (zAt a b c d n).1 (zAt a b c d n).2 a b)
theorem zAt_ok {a b c d : Nat} (fa : fin .f32 a) (fb : fin .f32 b) (fc : fin .f32 c) (fd : fin .f32 d) (hp : fv .f32 a * fv .f32 a + fv .f32 b * fv .f32 b ≤ 1 + 1 / 2 ^ 40)
    (hg : fv .f32 c * fv .f32 c + fv .f32 d * fv .f32 d ≤ 2 ^ 21) (n : Nat) (hn : n ≤ 3000) :
    fin .f32 (zAt a b c d n).1 ∧ fin .f32 (zAt a b c d n).2 ∧ Mild (zAt a b c d n).1 (zAt a b c d n).2 a b ∧
    fv .f32 (zAt a b c d n).1 * fv .f32 (zAt a b c d n).1 + fv .f32 (zAt a b c d n).2 * fv .f32 (zAt a b c d n).2 ≤ 2 ^ 21 + (n : Rat) * 64 := by
  have hnn : ∀ k : Nat, k ≤ 3000 → (0 : Rat) ≤ (k : Rat) ∧ (k : Rat) ≤ 3000 := fun k hk => ⟨Rat.natCast_nonneg, by have := Rat.natCast_le_natCast.2 hk; simpa using this⟩
  induction n with
  | zero =>
    have h := single_step fc fd fa fb (N := 2 ^ 21) hg (by grind) (by grind) hp
    exact ⟨fc, fd, h.1, by show _ ≤ _; simp only [zAt]; grind⟩
  | succ n ih =>
    obtain ⟨i1, i2, i3, i4⟩ := ih (by omega)
    obtain ⟨k0, k1⟩ := hnn n (by omega)
    have h := single_step i1 i2 fa fb i4 (by grind) (by grind) hp
    have e : ((n + 1 : Nat) : Rat) = (n : Rat) + 1 := by simp
    have hb : fv .f32 (zAt a b c d (n + 1)).1 * fv .f32 (zAt a b c d (n + 1)).1 + fv .f32 (zAt a b c d (n + 1)).2 * fv .f32 (zAt a b c d (n + 1)).2 ≤ 2 ^ 21 + ((n + 1 : Nat) : Rat) * 64 := by
      have := h.2.2.2
      rw [e]; simp only [zAt]; grind
    obtain ⟨j0, j1⟩ := hnn (n + 1) (by omega)
    have h2 := single_step h.2.1 h.2.2.1 fa fb hb (by grind) (by grind) hp
    exact ⟨h.2.1, h.2.2.1, h2.1, hb⟩
end Go.Proofs.YtndnfhhdflmfcaaGreat

/-
What a valid mode's words mean. (Plain arithmetic.)
-/
namespace Go.Proofs.YtndnfhhdflmfcaaGreat
open Go Ieee

theorem fin_of_wid {a : Nat} (h : fin .f64 (wid a)) : fin .f32 a := by
  cases hr : FloatKind.f32.format.read a with
  | number s m e => exact ⟨s, m, e, hr⟩
  | infinity s =>
    exfalso
    have hd : FloatKind.f32.decode a = .infinity s := hr
    have e : wid a = FloatKind.f64.format.word s FloatKind.f64.format.infRung := by
      show (floatToFloatBits .f32 a .f64).getD _ = _
      unfold floatToFloatBits
      rw [if_neg (by decide), hd]; rfl
    rw [e] at h
    obtain ⟨t, m, j, h⟩ := h
    have hi : ∀ s, FloatKind.f64.format.read (FloatKind.f64.format.word s FloatKind.f64.format.infRung) = .infinity s := by decide +kernel
    rw [hi s] at h; cases h
  | nan s t =>
    exfalso
    have hd : FloatKind.f32.decode a = .nan s t := hr
    have e : wid a = qn .f64 := by
      show (floatToFloatBits .f32 a .f64).getD _ = _
      unfold floatToFloatBits
      rw [if_neg (by decide), hd]; rfl
    rw [e] at h
    have := fin_num h
    rw [isN_qn] at this; cases this

theorem one_val : fin .f64 4607182418800017408 ∧ fv .f64 4607182418800017408 = 1 := one_fin
theorem gain_val : fin .f64 4652218415073722368 ∧ fv .f64 4652218415073722368 = 1024 := by
  have h : FloatKind.f64.format.read 4652218415073722368 = .number false 4503599627370496 (-42) := by decide +kernel
  obtain ⟨h1, h2⟩ := fin_of_read h
  refine ⟨h1, ?_⟩
  rw [h2, dval_num]
  unfold mval pw
  simp only [Bool.false_eq_true, if_false]
  grind
theorem gain_le {x : Nat} (hx : fin .f64 (wid x)) (h : fle .f64 (absB (wid x)) 4652218415073722368 = true) : ab (fv .f32 x) ≤ 1024 := by
  obtain ⟨a1, a2⟩ := absB_fin hx
  obtain ⟨g1, g2⟩ := gain_val
  have := (fle_iff a1 g1).1 h
  rw [a2, g2, (wid_fin (fin_of_wid hx)).2] at this
  exact this
theorem ModeOk.gains {a b c d : Nat} (h : ModeOk a b c d) : fv .f32 c * fv .f32 c + fv .f32 d * fv .f32 d ≤ 2 ^ 21 := by
  have h1 := sq_le_of_ab (gain_le h.fc h.gain.1)
  have h2 := sq_le_of_ab (gain_le h.fd h.gain.2)
  grind

theorem single_bound {x : Nat} (hx : fin .f32 x) : ab (fv .f32 x) ≤ 2 ^ 130 := by
  obtain ⟨s, m, e, hr⟩ := hx
  obtain ⟨b1, b2, b3, b4, _⟩ := read_bounds FloatKind.f32.format (by decide) hr
  have e1 : FloatKind.f32.format.leastPlace = -149 := by decide +kernel
  have e2 : FloatKind.f32.format.binade = 8388608 := by decide +kernel
  have e3 : FloatKind.f32.format.infRung = 2139095040 := by decide +kernel
  rw [e1] at b1 b3 b4
  rw [e2] at b2 b3 b4
  rw [e3] at b4
  have he : e ≤ 104 := by
    rcases Int.lt_or_le 104 e with h | h
    · exfalso; have := b3 (by omega); omega
    · exact h
  unfold fv
  rw [hr, dval_ab]
  have h1 : mval m e ≤ mval 16777216 e := mval_le (by omega)
  have h2 : mval 16777216 e ≤ mval 16777216 104 := Rat.mul_le_mul_of_nonneg_left (pw_mono he) Rat.natCast_nonneg
  have h3 : mval 16777216 104 ≤ 2 ^ 130 := by unfold mval pw; grind
  exact Rat.le_trans h1 (Rat.le_trans h2 h3)

theorem top600 : (2 : Rat) ^ 130 * 2 ^ 130 * 4 ≤ top .f64 := by
  have h2 : pw (131 + 131) ≤ pw 1000 := pw_mono (by omega)
  have e2 : pw 131 = 2 ^ 131 := by unfold pw; grind
  rw [pw_add, e2] at h2
  show _ ≤ pw 1000; grind
theorem ModeOk.square {a b c d : Nat} (h : ModeOk a b c d) : fv .f32 a * fv .f32 a + fv .f32 b * fv .f32 b ≤ 1 + 1 / 2 ^ 40 := by
  have fa := fin_of_wid h.fa
  have fb := fin_of_wid h.fb
  obtain ⟨a1, a2⟩ := wid_fin fa
  obtain ⟨b1, b2⟩ := wid_fin fb
  obtain ⟨k1, k2, k3⟩ := consts64
  obtain ⟨o1, o2⟩ := one_val
  have ht := top600
  have sA := sq_nonneg (fv .f32 a)
  have sB := sq_nonneg (fv .f32 b)
  have qA := sq_le_of_ab (single_bound fa)
  have qB := sq_le_of_ab (single_bound fb)
  have p1 := mul_spec a1 a1 (by rw [a2, ab_of_nonneg sA]; grind)
  have p2 := mul_spec b1 b1 (by rw [b2, ab_of_nonneg sB]; grind)
  have e1 := p1.2.1
  have e2 := p2.2.1
  rw [a2, k1, ab_of_nonneg (x := fv .f32 a * fv .f32 a) sA] at e1
  rw [b2, k1, ab_of_nonneg (x := fv .f32 b * fv .f32 b) sB] at e2
  have l1 := le_ab (fv .f64 (fo .mul .f64 (wid a) (wid a)) - fv .f32 a * fv .f32 a)
  have l2 := le_ab (fv .f64 (fo .mul .f64 (wid b) (wid b)) - fv .f32 b * fv .f32 b)
  have s1 := add_spec p1.1 p2.1 (ab_le (by grind) (by grind))
  have hle := (fle_iff s1.1 o1).1 h.sq
  rw [o2] at hle
  have e3 := s1.2.1
  rw [k1] at e3
  have l3 := le_ab (fv .f64 (fo .add .f64 (fo .mul .f64 (wid a) (wid a)) (fo .mul .f64 (wid b) (wid b))) - (fv .f64 (fo .mul .f64 (wid a) (wid a)) + fv .f64 (fo .mul .f64 (wid b) (wid b))))
  have l4 : ab (fv .f64 (fo .mul .f64 (wid a) (wid a)) + fv .f64 (fo .mul .f64 (wid b) (wid b))) ≤ (fv .f64 (fo .mul .f64 (wid a) (wid a)) + fv .f64 (fo .mul .f64 (wid b) (wid b))) + 1 / 2 ^ 100 := ab_le (by grind) (by grind)
  grind
end Go.Proofs.YtndnfhhdflmfcaaGreat

/-
impl.UnitOf, impl.ScaleDouble, laws.small.
-/
namespace Go.Proofs.YtndnfhhdflmfcaaGreat
open Go Go.RowKit Ieee

theorem abs64_fin {b : Nat} (h : fin .f64 b) : fin .f64 (abs64 b) ∧ fv .f64 (abs64 b) = ab (fv .f64 b) := by
  obtain ⟨s, m, e, hr⟩ := h
  have ha : FloatKind.f64.format.read (abs64 b) = .number false m e := by
    show double.read _ = _
    rw [abs64_read, show double.read b = .number s m e from hr]; rfl
  refine ⟨⟨_, _, _, ha⟩, ?_⟩
  unfold fv
  rw [ha, hr, dval_ab, dval_num]; rfl
theorem abs64_lt (b : Nat) : wfk .f64 (abs64 b) := by rw [wfk_64]; unfold abs64; omega

/-- The size of a number, as a word. -/
def szW (a b : Nat) : Nat := fo .add .f64 (abs64 a) (abs64 b)
theorem szW_ok {a b : Nat} (h : Mod a b) : fin .f64 (szW a b) ∧ SizeIs (ab (fv .f64 a) + ab (fv .f64 b)) (fv .f64 (szW a b)) := by
  obtain ⟨a1, a2⟩ := abs64_fin h.fa
  obtain ⟨b1, b2⟩ := abs64_fin h.fb
  have := top210
  have hi := h.hi
  have hsz := size_spec (ab_nonneg _) (ab_nonneg _) (by grind) a1 b1 a2 b2
  exact ⟨hsz.1, sizeIs_of h.lo h.hi hsz⟩

theorem zeros {s x : Nat} (hs : fin .f64 s) (h0 : 0 < fv .f64 s) (hx : fin .f64 x) (hb : ab (fv .f64 x) ≤ 2 ^ 203) (hc : ab (fv .f64 s) ≤ 2 ^ 204) :
    fin .f64 (fo .add .f64 s (fo .mul .f64 (fo .quo .f64 0 s) 0)) ∧ fv .f64 (fo .add .f64 s (fo .mul .f64 (fo .quo .f64 0 s) 0)) = fv .f64 s ∧
    (∀ y, fin .f64 y → ab (fv .f64 y) ≤ 2 ^ 203 → fin .f64 (fo .add .f64 x (fo .mul .f64 y (fo .quo .f64 0 s))) ∧ fv .f64 (fo .add .f64 x (fo .mul .f64 y (fo .quo .f64 0 s))) = fv .f64 x ∧
      fin .f64 (fo .sub .f64 x (fo .mul .f64 y (fo .quo .f64 0 s))) ∧ fv .f64 (fo .sub .f64 x (fo .mul .f64 y (fo .quo .f64 0 s))) = fv .f64 x) := by
  obtain ⟨z1, z2⟩ := zero_fin .f64
  have ht := top210
  have hz0 : ab (0 : Rat) = 0 := ab_of_nonneg Rat.le_refl
  have e0 : (0 : Rat) / fv .f64 s = 0 := by grind
  have hr := div_spec z1 hs (by grind) (by rw [z2, e0, hz0]; grind)
  rw [z2, e0] at hr
  have rv := hr.exact z1 z2
  have hrd := mul_spec hr.1 z1 (by rw [rv, z2, Rat.zero_mul, hz0]; grind)
  rw [rv, z2, Rat.zero_mul] at hrd
  have rdv := hrd.exact z1 z2
  have hm := add_spec hs hrd.1 (by rw [rdv, Rat.add_zero]; grind)
  rw [rdv, Rat.add_zero] at hm
  refine ⟨hm.1, hm.exact hs rfl, fun y hy hyb => ?_⟩
  have hbr := mul_spec hy hr.1 (by rw [rv, Rat.mul_zero, hz0]; grind)
  rw [rv, Rat.mul_zero] at hbr
  have brv := hbr.exact z1 z2
  have h1 := add_spec hx hbr.1 (by rw [brv, Rat.add_zero]; grind)
  rw [brv, Rat.add_zero] at h1
  have e : fv .f64 x - 0 = fv .f64 x := by grind
  have h2 := sub_spec hx hbr.1 (by rw [brv, e]; grind)
  rw [brv, e] at h2
  exact ⟨h1.1, h1.exact hx rfl, h2.1, h2.exact hx rfl⟩

/-- What UnitOf returns. -/
structure UnitAt (a b u v : Nat) : Prop where
  fu : fin .f64 u
  fv' : fin .f64 v
  nu : ab (fv .f64 u - fv .f64 a / fv .f64 (szW a b)) ≤ ab (fv .f64 a) / fv .f64 (szW a b) / 2 ^ 52 + eta .f64
  nv : ab (fv .f64 v - fv .f64 b / fv .f64 (szW a b)) ≤ ab (fv .f64 b) / fv .f64 (szW a b) / 2 ^ 52 + eta .f64

theorem unitAt {a b : Nat} (h : Mod a b) : UnitAt a b (quoRe a b (szW a b) 0) (quoIm a b (szW a b) 0) := by
  obtain ⟨s1, s2⟩ := szW_ok h
  obtain ⟨p1, p2, p3, p4, p5⟩ := s2.pos
  have n1 := ab_nonneg (fv .f64 a)
  have n2 := ab_nonneg (fv .f64 b)
  have hi := h.hi
  have hsp : ab (fv .f64 (szW a b)) ≤ 2 ^ 204 := by rw [ab_of_nonneg (by grind)]; grind
  have hg : fge .f64 (abs64 (szW a b)) (abs64 0) = true := by
    obtain ⟨a1, a2⟩ := abs64_fin s1
    refine (fge_iff a1 (zero_fin .f64).1).2 ?_
    rw [a2, (zero_fin .f64).2]; exact ab_nonneg _
  obtain ⟨m1, m2, hx⟩ := zeros s1 p5 h.fa (by grind) hsp
  obtain ⟨_, _, hy⟩ := zeros s1 p5 h.fb (by grind) hsp
  obtain ⟨x1, x2, _, _⟩ := hx b h.fb (by grind)
  obtain ⟨_, _, y3, y4⟩ := hy a h.fa (by grind)
  have q1 := unit_part s2 x1 m1 x2 m2 (by grind)
  have q2 := unit_part s2 y3 m1 y4 m2 (by grind)
  unfold quoRe quoIm
  rw [if_pos hg, if_pos hg]
  exact ⟨q1.1, q2.1, q1.2, q2.2⟩

theorem finB_of {b : Nat} (h : fin .f64 b) : finB b = true := (finB_iff b).2 h

end Go.Proofs.YtndnfhhdflmfcaaGreat

/-
IsMode of both packages at a valid mode; the words after so many steps.
-/
namespace Go.Proofs.YtndnfhhdflmfcaaGreat
open Go Go.RowKit Ieee

theorem absB_eq {x : Nat} (hx : fin .f64 x) (hw : wfk .f64 x) : absB x = abs64 x := by
  have h1 := read_absB x
  have h2 := abs64_read x
  obtain ⟨s, m, e, hr⟩ := hx
  have hd : double.read x = .number s m e := hr
  rw [hd] at h1 h2
  have w1 := write_read double (by decide) (absB_lt hw) (by rw [h1]; rfl)
  have w2 := write_read double (by decide) (abs64_lt x) (by rw [h2]; rfl)
  rw [← w1, ← w2, h1, h2]
theorem sub_self {x : Nat} (h : fin .f64 x) : feq .f64 (fo .sub .f64 x x) 0 = true := by
  obtain ⟨z1, z2⟩ := zero_fin .f64
  have e : fv .f64 x - fv .f64 x = 0 := by grind
  have hs := sub_spec h h (by rw [e, ab_of_nonneg Rat.le_refl]; have := top210; grind)
  rw [e] at hs
  exact (feq_iff hs.1 z1).2 (by rw [hs.exact z1 z2, z2])

set_option maxHeartbeats 400000 in
theorem finiteSingle_ok (a b : Nat) (w : World) (fa : fin .f64 (wid a)) (fb : fin .f64 (wid b)) : Calls Tryz.prog 90 #[.complex .f32 a b] w fun e w' => ∃ n, e = .returned (.bool true) ∧ w.drewN n = w' := by
  have H1 := Lib.hid (fun w => (by rw [nrm_fin_eq (nrm_wid a w) fa]; exact sub_self fa : feq .f64 (fo .sub .f64 (cR .f32 a .f64 w) (cR .f32 a .f64 w)) 0 = true))
  have H2 := Lib.hid (fun w => (by rw [nrm_fin_eq (nrm_wid b w) fb]; exact sub_self fb : feq .f64 (fo .sub .f64 (cR .f32 b .f64 w) (cR .f32 b .f64 w)) 0 = true))
  go_enter Tryz.func90, Tryz.ntmps90
  go_wp2_with fail
  refine (specFinite_any _ _ _).mono ?_
  rintro e w' ⟨n, rfl, rfl⟩
  rw [H1.out, H2.out]
  go_wp2_with fail
  go_ret
  exact ⟨_, rfl, rfl⟩

set_option maxRecDepth 100000 in
set_option maxHeartbeats 400000 in
theorem specMode_ok (a b c d : Nat) (w : World) (h : ModeOk a b c d) : Calls Tryz.prog 62 #[.agg #[.complex .f32 a b, .complex .f32 c d]] w fun e w' =>
    e = .returned (.bool true) ∧ Below w.heap.size w w' := by
  have H := Lib.hid h
  clear h
  go_enter Tryz.func62, Tryz.ntmps62
  go_wp2_with fail
  have HB : Hid (Below w.heap.size w (w.alloc (.cells #[.complex .f32 a b, .complex .f32 c d] 87))) := (Below.refl w.heap.size w).alloc (Nat.le_refl _) _
  have hm : (w.alloc (.cells #[.complex .f32 a b, .complex .f32 c d] 87)).heap[w.heap.size]? = some (.cells #[.complex .f32 a b, .complex .f32 c d] 87 (0, 0)) := heap_alloc_new w _
  obtain ⟨c0, c1, _, _⟩ := m_cells hm
  clear hm
  generalize w.alloc (.cells #[.complex .f32 a b, .complex .f32 c d] 87) = W at *
  refine (finiteSingle_ok a b _ H.out.fa H.out.fb).mono ?_
  rintro e w' ⟨n1, rfl, rfl⟩
  go_wp2_with fail
  refine (finiteSingle_ok c d _ H.out.fc H.out.fd).mono ?_
  rintro e w' ⟨n2, rfl, rfl⟩
  have A1 := Lib.hid (fun w => nrm_fin_eq (nrm_wid a w) H.out.fa)
  have A2 := Lib.hid (fun w => nrm_fin_eq (nrm_wid b w) H.out.fb)
  have A3 := Lib.hid (fun w => nrm_fin_eq (nrm_wid c w) H.out.fc)
  have A4 := Lib.hid (fun w => nrm_fin_eq (nrm_wid d w) H.out.fd)
  go_wp2_with fail
  refine (l2Square_any _ _ _).mono ?_
  rintro e w' ⟨r, n3, rfl, hr, rfl⟩
  rw [A1.out, A2.out] at hr
  have t3 : fle .f64 r 4607182418800017408 = true := by rw [← H.out.sq]; exact fle_congr hr rfl
  clear hr
  go_wp2_with fail
  refine (l2Gain_any _ _ _).mono ?_
  rintro e w' ⟨rfl, rfl⟩
  rw [A3.out, A4.out, H.out.gain.1, H.out.gain.2]
  go_wp2_with fail
  go_ret
  exact ⟨rfl, below_drewN HB.out _⟩

theorem gain_no {x : Nat} (hx : fin .f64 x) (hw : wfk .f64 x) (h : fle .f64 (absB x) 4652218415073722368 = true) : fgt .f64 (abs64 x) 4652218415073722368 = false := by
  rw [absB_eq hx hw] at h
  obtain ⟨a1, _⟩ := abs64_fin hx
  obtain ⟨g1, _⟩ := gain_val
  have h1 := (fle_iff a1 g1).1 h
  cases hc : fgt .f64 (abs64 x) 4652218415073722368
  · rfl
  · exact absurd ((fgt_iff a1 g1).1 hc) (Rat.not_lt.2 h1)

set_option maxHeartbeats 400000 in
theorem isWide_ok (a b c d : Nat) (w : World) (h : ModeOk a b c d) : Calls Tryz.prog 103 #[.complex .f64 (wid a) (wid b), .complex .f64 (wid c) (wid d)] w fun e w' => ∃ n, e = .returned (.bool true) ∧ w.drewN n = w' := by
  have H := Lib.hid h
  have T := Lib.hid (fun w1 w2 w3 => (by rw [← h.sq]; refine fle_congr ?_ rfl; exact fRo (fRo rfl rfl _) (fRo rfl rfl _) _ : fle .f64 (fR .add .f64 (fR .mul .f64 (wid a) (wid a) w1) (fR .mul .f64 (wid b) (wid b) w2) w3) 4607182418800017408 = true))
  have g1 := gain_no h.fc (wid_lt _) h.gain.1
  have g2 := gain_no h.fd (wid_lt _) h.gain.2
  clear h
  go_enter Tryz.func103, Tryz.ntmps103
  go_wp2_with fail
  refine (finiteDouble_any _ _ _ (wid_lt _) (wid_lt _)).mono ?_
  rintro e w' ⟨rfl, rfl⟩
  rw [finB_of H.out.fa, finB_of H.out.fb]
  go_wp2_with fail
  refine (finiteDouble_any _ _ _ (wid_lt _) (wid_lt _)).mono ?_
  rintro e w' ⟨rfl, rfl⟩
  rw [finB_of H.out.fc, finB_of H.out.fd]
  go_wp2_with fail
  refine (mathAbs_any _ _ (wid_lt _)).mono ?_
  rintro e w' ⟨rfl, rfl⟩
  go_wp2_with fail
  refine (mathAbs_any _ _ (wid_lt _)).mono ?_
  rintro e w' ⟨rfl, rfl⟩
  go_wp2_with fail
  go_ret
  exact ⟨_, ret_bool (T.out _ _ _), rfl⟩

theorem implWiden_fin (a b : Nat) (w : World) (wa : wfk .f32 a) (wb : wfk .f32 b) (fa : fin .f64 (wid a)) (fb : fin .f64 (wid b)) :
    Calls Tryz.prog 104 #[.complex .f32 a b] w fun e w' => ∃ n, e = .returned (.complex .f64 (wid a) (wid b)) ∧ w.drewN n = w' := by
  refine (implWiden_any a b w wa wb).mono ?_
  rintro e w' ⟨p, q, n, rfl, hp, hq, _, _, rfl⟩
  exact ⟨n, by rw [nrm_fin_eq hp fa, nrm_fin_eq hq fb], rfl⟩

set_option maxRecDepth 100000 in
set_option maxHeartbeats 400000 in
theorem implMode_ok (a b c d : Nat) (w : World) (h : ModeOk a b c d) : Calls Tryz.prog 81 #[.agg #[.complex .f32 a b, .complex .f32 c d]] w fun e w' =>
    e = .returned (.bool true) ∧ Below w.heap.size w w' := by
  have H := Lib.hid h
  clear h
  go_enter Tryz.func81, Tryz.ntmps81
  go_wp2_with fail
  have HB : Hid (Below w.heap.size w (w.alloc (.cells #[.complex .f32 a b, .complex .f32 c d] 87))) := (Below.refl w.heap.size w).alloc (Nat.le_refl _) _
  have hm : (w.alloc (.cells #[.complex .f32 a b, .complex .f32 c d] 87)).heap[w.heap.size]? = some (.cells #[.complex .f32 a b, .complex .f32 c d] 87 (0, 0)) := heap_alloc_new w _
  obtain ⟨c0, c1, _, _⟩ := m_cells hm
  clear hm
  generalize w.alloc (.cells #[.complex .f32 a b, .complex .f32 c d] 87) = W at *
  go_region_with (first
    | (go_at_call_of 104 a
       refine (implWiden_fin a b _ H.out.wa H.out.wb H.out.fa H.out.fb).mono ?_
       rintro e w' ⟨n1, rfl, rfl⟩)
    | (go_at_call_of 104 c
       refine (implWiden_fin c d _ H.out.wc H.out.wd H.out.fc H.out.fd).mono ?_
       rintro e w' ⟨n2, rfl, rfl⟩)
    | (go_at_call 103
       refine (isWide_ok a b c d _ H.out).mono ?_
       rintro e w' ⟨n3, rfl, rfl⟩))
  all_goals
    go_wp2_with fail
    go_ret
    exact ⟨rfl, below_drewN HB.out _⟩

theorem nar_lt {x : Nat} (hx : fin .f64 x) (h : ab (fv .f64 x) ≤ top .f32) (hw : wfk .f64 x) (w : World) : wfk .f32 (nar x) := by
  rw [← (nar_ok hx h).1 w]; exact cR_lt hw w

/-- The state after so many steps. -/
structure ZOk (a b x y : Nat) : Prop where
  fx : fin .f32 x
  fy : fin .f32 y
  wx : wfk .f32 x
  wy : wfk .f32 y
  mild : Mild x y a b
  bx : ab (fv .f32 x) ≤ 2 ^ 12
  by' : ab (fv .f32 y) ≤ 2 ^ 12
theorem ModeOk.at {a b c d : Nat} (h : ModeOk a b c d) (w : World) (n : Nat) (hn : n ≤ 3000) : ZOk a b (zAt a b c d n).1 (zAt a b c d n).2 := by
  obtain ⟨z1, z2, z3, z4⟩ := zAt_ok (fin_of_wid h.fa) (fin_of_wid h.fb) (fin_of_wid h.fc) (fin_of_wid h.fd) h.square h.gains n hn
  have hw : wfk .f32 (zAt a b c d n).1 ∧ wfk .f32 (zAt a b c d n).2 := by
    cases n with
    | zero => exact ⟨h.wc, h.wd⟩
    | succ n =>
      obtain ⟨_, _, m, _⟩ := zAt_ok (fin_of_wid h.fa) (fin_of_wid h.fb) (fin_of_wid h.fc) (fin_of_wid h.fd) h.square h.gains n (by omega)
      exact ⟨nar_lt m.fr m.tr (fo_lt _ _ _ _) w, nar_lt m.fi m.ti (fo_lt _ _ _ _) w⟩
  have hb : (n : Rat) ≤ 3000 := by have := Rat.natCast_le_natCast.2 hn; simpa using this
  have s1 := sq_nonneg (fv .f32 (zAt a b c d n).1)
  have s2 := sq_nonneg (fv .f32 (zAt a b c d n).2)
  exact ⟨z1, z2, hw.1, hw.2, z3, ab_le_of_sq (by grind) (by grind), ab_le_of_sq (by grind) (by grind)⟩

/-- The size of a number in single precision, widened. -/
def sizeZ (z : Nat × Nat) : Nat := szW (wid z.1) (wid z.2)
theorem size_ok {a b x y : Nat} (h : ZOk a b x y) : fin .f64 (sizeZ (x, y)) ∧ fo .add .f64 (absB (wid x)) (absB (wid y)) = sizeZ (x, y) ∧ fin .f64 (fo .mul .f64 4611686018427387904 (sizeZ (x, y))) := by
  obtain ⟨a1, a2⟩ := wid_fin h.fx
  obtain ⟨b1, b2⟩ := wid_fin h.fy
  obtain ⟨c1, c2⟩ := abs64_fin a1
  obtain ⟨d1, d2⟩ := abs64_fin b1
  have ht := top210
  have hx := h.bx
  have hy := h.by'
  have n1 := ab_nonneg (fv .f64 (wid x))
  have n2 := ab_nonneg (fv .f64 (wid y))
  rw [← a2] at hx
  rw [← b2] at hy
  obtain ⟨k1, k2, k3⟩ := consts64
  have hs := size_spec n1 n2 (by grind) c1 d1 c2 d2
  have l := le_ab (fv .f64 (fo .add .f64 (abs64 (wid x)) (abs64 (wid y))) - (ab (fv .f64 (wid x)) + ab (fv .f64 (wid y))))
  have h2 := hs.2.1
  rw [k1, ab_of_nonneg (x := ab (fv .f64 (wid x)) + ab (fv .f64 (wid y))) (by grind)] at h2
  refine ⟨hs.1, by rw [absB_eq a1 (wid_lt _), absB_eq b1 (wid_lt _)]; rfl, ?_⟩
  obtain ⟨t1, t2⟩ := two_fin
  refine (mul_spec t1 hs.1 ?_).1
  rw [t2]
  exact ab_le (by grind) (by grind)
/-- Has the mode halved after so many steps? -/
def halved (a b c d n : Nat) : Bool := fle .f64 (fo .mul .f64 4611686018427387904 (sizeZ (zAt a b c d n))) (sizeZ (c, d))
/-- What HalfLife finds. -/
def Half (a b c d : Nat) (most k : Int) (t : Bool) : Prop :=
  (t = true ∧ 1 ≤ k ∧ k ≤ most ∧ halved a b c d k.toNat = true ∧ ∀ j : Nat, 1 ≤ j → (j : Int) < k → halved a b c d j = false) ∨
  (t = false ∧ k = 0 ∧ ∀ j : Nat, 1 ≤ j → (j : Int) ≤ most → halved a b c d j = false)
theorem Half.unique {a b c d : Nat} {most k k' : Int} {t t' : Bool} (h : Half a b c d most k t) (h' : Half a b c d most k' t') : k = k' ∧ t = t' := by
  rcases h with ⟨h1, h2, h3, h4, h5⟩ | ⟨h1, h2, h3⟩ <;> rcases h' with ⟨g1, g2, g3, g4, g5⟩ | ⟨g1, g2, g3⟩
  · refine ⟨?_, by rw [h1, g1]⟩
    rcases Int.lt_trichotomy k k' with hlt | he | hlt
    · have := g5 k.toNat (by omega) (by omega); rw [this] at h4; cases h4
    · exact he
    · have := h5 k'.toNat (by omega) (by omega); rw [this] at g4; cases g4
  · have := g3 k.toNat (by omega) (by omega); rw [this] at h4; cases h4
  · have := h3 k'.toNat (by omega) (by omega); rw [this] at g4; cases g4
  · exact ⟨by rw [h2, g2], by rw [h1, g1]⟩
theorem Half.short {a b c d : Nat} {most m k : Int} (h : Half a b c d most k true) (hm : m < k) : Half a b c d m 0 false := by
  rcases h with ⟨h1, h2, h3, h4, h5⟩ | ⟨h1, _⟩
  · exact .inr ⟨rfl, rfl, fun j j1 j2 => h5 j j1 (by omega)⟩
  · cases h1
theorem Half.same {a b c d : Nat} {most k : Int} (h : Half a b c d most k true) : Half a b c d k k true := by
  rcases h with ⟨h1, h2, h3, h4, h5⟩ | ⟨h1, _⟩
  · exact .inl ⟨rfl, h2, Int.le_refl _, h4, h5⟩
  · cases h1
theorem Half.less {a b c d : Nat} {most m k : Int} (h : Half a b c d most k false) (hm : m ≤ most) : Half a b c d m 0 false := by
  rcases h with ⟨h1, _⟩ | ⟨h1, h2, h3⟩
  · cases h1
  · exact .inr ⟨rfl, rfl, fun j j1 j2 => h3 j j1 (by omega)⟩
theorem Half.range {a b c d : Nat} {most k : Int} (h : Half a b c d most k true) : 1 ≤ k ∧ k ≤ most := by
  rcases h with ⟨h1, h2, h3, h4, h5⟩ | ⟨h1, _⟩
  · exact ⟨h2, h3⟩
  · cases h1
end Go.Proofs.YtndnfhhdflmfcaaGreat

/-
One step of a mode with an input, crudely bounded. (Plain arithmetic.)
-/
namespace Go.Proofs.YtndnfhhdflmfcaaGreat
open Go Ieee

theorem top32 : (2 : Rat) ^ 118 ≤ top .f32 := by
  have h2 : pw 118 ≤ pw 120 := pw_mono (by omega)
  have e2 : pw 118 = 2 ^ 118 := by unfold pw; grind
  rw [e2] at h2
  exact h2
/-- A product of two parts. -/
theorem part_mul {a c : Nat} {L : Rat} (fa : fin .f64 a) (fc : fin .f64 c) (ha : ab (fv .f64 a) ≤ L) (hL : 1 ≤ L) (hL2 : L ≤ 2 ^ 112) (hc : ab (fv .f64 c) ≤ 1 + 1 / 2 ^ 40) :
    fin .f64 (fo .mul .f64 a c) ∧ ab (fv .f64 (fo .mul .f64 a c)) ≤ L * (1 + 1 / 2 ^ 30) := by
  obtain ⟨k1, k2, k3⟩ := consts64
  have ht := top210
  have n1 := ab_nonneg (fv .f64 a)
  have h1 := Rat.mul_le_mul_of_nonneg_left hc n1
  have h2 : ab (fv .f64 a * fv .f64 c) ≤ L * (1 + 1 / 2 ^ 40) := by rw [ab_mul]; grind
  have hm := mul_spec fa fc (by grind)
  have e := hm.2.1
  rw [k1] at e
  have t := ab_tri (fv .f64 (fo .mul .f64 a c)) (fv .f64 a * fv .f64 c)
  exact ⟨hm.1, by grind⟩
theorem wide_mild {a b c d : Nat} {L : Rat} (fa : fin .f32 a) (fb : fin .f32 b) (fc : fin .f32 c) (fd : fin .f32 d) (ha : ab (fv .f32 a) ≤ L) (hb : ab (fv .f32 b) ≤ L) (hL : 1 ≤ L) (hL2 : L ≤ 2 ^ 112)
    (hc : ab (fv .f32 c) ≤ 1 + 1 / 2 ^ 40) (hd : ab (fv .f32 d) ≤ 1 + 1 / 2 ^ 40) :
    Mild a b c d ∧ fin .f32 (sRe a b c d) ∧ fin .f32 (sIm a b c d) ∧ ab (fv .f32 (sRe a b c d)) ≤ L * (9 / 4) ∧ ab (fv .f32 (sIm a b c d)) ≤ L * (9 / 4) := by
  obtain ⟨a1, a2⟩ := wid_fin fa
  obtain ⟨b1, b2⟩ := wid_fin fb
  obtain ⟨c1, c2⟩ := wid_fin fc
  obtain ⟨d1, d2⟩ := wid_fin fd
  obtain ⟨k1, k2, k3⟩ := consts64
  obtain ⟨u1, u2, u3⟩ := consts32
  have ht := top210
  have ht2 := top32
  rw [← a2] at ha
  rw [← b2] at hb
  rw [← c2] at hc
  rw [← d2] at hd
  obtain ⟨p1, e1⟩ := part_mul a1 c1 ha hL hL2 hc
  obtain ⟨p2, e2⟩ := part_mul b1 d1 hb hL hL2 hd
  obtain ⟨p3, e3⟩ := part_mul a1 d1 ha hL hL2 hd
  obtain ⟨p4, e4⟩ := part_mul b1 c1 hb hL hL2 hc
  have g1 := ab_add (fv .f64 (fo .mul .f64 (wid a) (wid c))) (-fv .f64 (fo .mul .f64 (wid b) (wid d)))
  rw [ab_neg, show fv .f64 (fo .mul .f64 (wid a) (wid c)) + -fv .f64 (fo .mul .f64 (wid b) (wid d)) = fv .f64 (fo .mul .f64 (wid a) (wid c)) - fv .f64 (fo .mul .f64 (wid b) (wid d)) by grind] at g1
  have g2 := ab_add (fv .f64 (fo .mul .f64 (wid a) (wid d))) (fv .f64 (fo .mul .f64 (wid b) (wid c)))
  have s1 := sub_spec p1 p2 (by grind)
  have s2 := add_spec p3 p4 (by grind)
  have x1 := s1.2.1
  have x2 := s2.2.1
  rw [k1] at x1 x2
  have t1 := ab_tri (fv .f64 (mulRe (wid a) (wid b) (wid c) (wid d))) (fv .f64 (fo .mul .f64 (wid a) (wid c)) - fv .f64 (fo .mul .f64 (wid b) (wid d)))
  have t2 := ab_tri (fv .f64 (mulIm (wid a) (wid b) (wid c) (wid d))) (fv .f64 (fo .mul .f64 (wid a) (wid d)) + fv .f64 (fo .mul .f64 (wid b) (wid c)))
  have y1 : ab (fv .f64 (mulRe (wid a) (wid b) (wid c) (wid d))) ≤ L * (2 + 1 / 2 ^ 20) := by unfold mulRe at t1 ⊢; grind
  have y2 : ab (fv .f64 (mulIm (wid a) (wid b) (wid c) (wid d))) ≤ L * (2 + 1 / 2 ^ 20) := by unfold mulIm at t2 ⊢; grind
  have M : Mild a b c d := ⟨s1.1, s2.1, by grind, by grind⟩
  have r1 := (nar_ok M.fr M.tr).2
  have r2 := (nar_ok M.fi M.ti).2
  have z1 := r1.2.1
  have z2 := r2.2.1
  rw [u1] at z1 z2
  have v1 := ab_tri (fv .f32 (sRe a b c d)) (fv .f64 (mulRe (wid a) (wid b) (wid c) (wid d)))
  have v2 := ab_tri (fv .f32 (sIm a b c d)) (fv .f64 (mulIm (wid a) (wid b) (wid c) (wid d)))
  exact ⟨M, r1.1, r2.1, by unfold sRe at v1 ⊢; grind, by unfold sIm at v2 ⊢; grind⟩
/-- A sum of a part and a gain's part times an input. -/
theorem plus_gain {s g x : Nat} {L : Rat} (fs : fin .f32 s) (fg : fin .f32 g) (fx : fin .f32 x) (hs : ab (fv .f32 s) ≤ L * (9 / 4)) (hg : ab (fv .f32 g) ≤ 1024) (hx : ab (fv .f32 x) ≤ 8) (hL : 2 ^ 14 ≤ L) (hL2 : L ≤ 2 ^ 112) :
    fin .f32 (fo .mul .f32 g x) ∧ fin .f32 (fo .add .f32 s (fo .mul .f32 g x)) ∧ ab (fv .f32 (fo .add .f32 s (fo .mul .f32 g x))) ≤ L * 3 := by
  obtain ⟨u1, u2, u3⟩ := consts32
  have ht2 := top32
  have n1 := ab_nonneg (fv .f32 g)
  have n2 := ab_nonneg (fv .f32 x)
  have h1 := Rat.mul_le_mul_of_nonneg_left hx n1
  have h2 : ab (fv .f32 g * fv .f32 x) ≤ 8192 := by rw [ab_mul]; grind
  have hm := mul_spec fg fx (by grind)
  have e := hm.2.1
  rw [u1] at e
  have t := ab_tri (fv .f32 (fo .mul .f32 g x)) (fv .f32 g * fv .f32 x)
  have h3 : ab (fv .f32 (fo .mul .f32 g x)) ≤ 8193 := by grind
  have g1 := ab_add (fv .f32 s) (fv .f32 (fo .mul .f32 g x))
  have ha := add_spec fs hm.1 (by grind)
  have e2 := ha.2.1
  rw [u1] at e2
  have t2 := ab_tri (fv .f32 (fo .add .f32 s (fo .mul .f32 g x))) (fv .f32 s + fv .f32 (fo .mul .f32 g x))
  exact ⟨hm.1, ha.1, by grind⟩
end Go.Proofs.YtndnfhhdflmfcaaGreat

/-
Rows of modes: two cells an element; append of one mode.
-/
namespace Go.Proofs.YtndnfhhdflmfcaaGreat
open Go Go.RowKit Ieee

/-- The words of a mode: pole, gain. -/
abbrev MW := Nat × Nat × Nat × Nat
def modeV (m : MW) : List Value := [.complex .f32 m.1 m.2.1, .complex .f32 m.2.2.1 m.2.2.2]
def flatM (ms : List MW) : List Value := ms.flatMap modeV
theorem flatM_len (ms : List MW) : (flatM ms).length = ms.length * 2 := by
  induction ms with
  | nil => rfl
  | cons m ms ih => simp [flatM, modeV] at ih ⊢; omega
theorem flatM_snoc (ms : List MW) (m : MW) : flatM ms ++ modeV m = flatM (ms ++ [m]) := by simp [flatM]
theorem flatM_at {ms : List MW} {i : Nat} (h : i < ms.length) : (flatM ms)[i * 2]? = some (.complex .f32 (ms.getD i (0, 0, 0, 0)).1 (ms.getD i (0, 0, 0, 0)).2.1) ∧ (flatM ms)[i * 2 + 1]? = some (.complex .f32 (ms.getD i (0, 0, 0, 0)).2.2.1 (ms.getD i (0, 0, 0, 0)).2.2.2) := by
  induction ms generalizing i with
  | nil => simp at h
  | cons m ms ih =>
    cases i with
    | zero => exact ⟨rfl, rfl⟩
    | succ i =>
      have h2 := ih (i := i) (by simpa using h)
      have e1 : (i + 1) * 2 = i * 2 + 2 := by omega
      rw [e1]
      exact h2
theorem mode_info : (Tryz.prog.info? 87).map (fun i => (i.zero, i.size, i.bytes)) = some (some (.agg #[.complex .f32 0 0, .complex .f32 0 0]), 2, 16) := by kernel_rfl

theorem wpList_app2 {P : Program} {w0 : World} {ops : Array Oper} {rest : List Oper} {o : Oper} {a : Act} {Q : Exit → Act → World → Prop} (hgd : o.guard = none) (s x : Operand) (t : TypeId)
    (ho : o.op = .call { callee := .builtin .append, args := #[s, x], argTypes := #[t, t] })
    (B : Nat) (e : TypeId) (z : Value) (bytes : Nat) (ht : P.underlying t = some (.slice e)) (hinfo : (P.info? e).map (fun i => (i.zero, i.size, i.bytes)) = some (some z, 2, bytes)) (hzs : z.cells.size = 2)
    (v : Value) (n : Nat) (xs : List Value) (u1 u2 : Value) (hs : a.eval s = v) (hx : a.eval x = .slice (some ⟨w0.heap.size, 0, none⟩) 1 1) (hu1 : u1.oneCell' = true) (hu2 : u2.oneCell' = true) (hown : w0.ownsRow B e 2 v n xs) (hB : B ≤ w0.heap.size)
    (h63 : n + 1 ≤ 1048576) (hby : bytes ≤ 1024)
    (h : ∀ v' w', w'.ownsRow B e 2 v' (n + 1) (xs ++ [u1, u2]) → Below B w0 w' → wpList P ops Q rest (a.put o.dst v') w') : wpList P ops Q (o :: rest) a (w0.alloc (.cells #[u1, u2] e)) := by
  obtain ⟨i, hi, hzz⟩ := Option.map_eq_some_iff.1 hinfo
  simp only [Prod.mk.injEq] at hzz
  obtain ⟨hz, hsz, hb⟩ := hzz
  refine wpList_append_own _ hgd s x t ho B e i z 2 bytes ht hi hz hsz hb hzs (by decide) v n xs hs (hown.alloc _) ⟨w0.heap.size, 0, none⟩ 1 1 [u1, u2] hx rfl ?_ ?_ ?_ ?_ ?_ ?_
  · intro j y hy
    have hb' : (w0.alloc (.cells #[u1, u2] e)).heap[w0.heap.size]? = some (.cells #[u1, u2] e (0, 0)) := heap_alloc_new w0 _
    match j, hy with
    | 0, hy =>
      simp at hy; subst hy
      exact (cell_of_row _ _ 0 _ _ (0, 0) hb').trans (by simp)
    | 1, hy =>
      simp at hy; subst hy
      exact (cell_of_row _ _ 1 _ _ (0, 0) hb').trans (by simp)
  · intro y hy
    simp at hy
    rcases hy with rfl | rfl
    · exact hu1
    · exact hu2
  · simp only [maxLen]; omega
  · have := Nat.mul_le_mul h63 hby; omega
  · simp; omega
  · intro v' w' h2 h3 _
    refine h v' w' h2 ?_
    have h4 : Below B w0 (w0.alloc (.cells #[u1, u2] e)) := (Below.refl _ _).alloc hB _
    exact h4.grown h3 (Nat.le_trans hB h4.size) (fun k hk => (hown.lt k hk).1)
end Go.Proofs.YtndnfhhdflmfcaaGreat

/-
spec.l2Body, spec.MakeBody: a valid body.
-/
namespace Go.Proofs.YtndnfhhdflmfcaaGreat
open Go Go.RowKit Ieee

/-- The state of spec.l2Body: the result's block, the body's block behind it, the modes' row behind both. -/
structure BSt (w wr : World) (g : Nat) (v : Value) (ms : List MW) : Prop where
  cur : Cur wr g
  gr : w.grownBy wr (some g)
  hg : g < w.heap.size
  r : wr.heap[w.heap.size]? = some (.cells #[.slice none 0 0] 68 (0, 0))
  b : wr.heap[w.heap.size + 1]? = some (.cells #[v] 68 (0, 0))
  own : wr.ownsRow (w.heap.size + 2) 87 2 v ms.length (flatM ms)
  ok : ∀ m ∈ ms, ModeOk m.1 m.2.1 m.2.2.1 m.2.2.2
theorem BSt.keep {w wr wr' : World} {g : Nat} {v : Value} {ms : List MW} (h : BSt w wr g v ms) (hcur : Cur wr' g) (hgr : w.grownBy wr' (some g)) (hk : ∀ j, j < wr.heap.size → j ≠ g → wr'.heap[j]? = wr.heap[j]?) : BSt w wr' g v ms := by
  have hg := h.hg
  refine ⟨hcur, hgr, hg, (hk _ (lt_of_some h.r) (by omega)).trans h.r, (hk _ (lt_of_some h.b) (by omega)).trans h.b, ?_, h.ok⟩
  obtain ⟨h1, h2⟩ := h.own
  refine ⟨h1, ?_⟩
  rcases h2 with h2 | ⟨G, cap, cur, e1, e2, e3, e4⟩
  · exact .inl h2
  · exact .inr ⟨G, cap, cur, e1, e2, (hk G (lt_of_some e3) (by omega)).trans e3, e4⟩
theorem BSt.step {w wr wr' : World} {g : Nat} {v : Value} {ms : List MW} (h : BSt w wr g v ms) (s : CurStep wr wr' g) : BSt w wr' g v ms :=
  h.keep s.1 (grown_trans h.gr s.2) fun j hj hn => s.2.block j hj (by intro e; injection e with e; exact hn e)
theorem BSt.alloc {w wr : World} {g : Nat} {v : Value} {ms : List MW} (h : BSt w wr g v ms) (o : Obj) : BSt w (wr.alloc o) g v ms :=
  h.keep (h.cur.alloc o) (grown_trans h.gr ⟨rfl, rfl, rfl, by simp, fun i hi _ => Below.heap_alloc wr o i hi⟩) fun j hj _ => Below.heap_alloc wr o j hj
theorem BSt.below {w wr wr' : World} {g : Nat} {v : Value} {ms : List MW} (h : BSt w wr g v ms) {B : Nat} (hb : Below B wr wr') (hB : wr.heap.size ≤ B) : BSt w wr' g v ms :=
  h.keep (h.cur.below hb (by have := h.cur.lt; omega)) (grown_trans h.gr ⟨hb.os, hb.tape, hb.output, hb.size, fun i hi _ => hb.block i (by omega)⟩) fun j hj _ => hb.block j (by omega)
theorem BSt.cells {w wr : World} {g : Nat} {v : Value} {ms : List MW} (h : BSt w wr g v ms) : wr.cell? ⟨w.heap.size + 1, 0, none⟩ = some v ∧ wr.frozen? ⟨w.heap.size + 1, 0, none⟩ = false ∧ wr.cell? ⟨w.heap.size, 0, none⟩ = some (.slice none 0 0) ∧ wr.frozen? ⟨w.heap.size, 0, none⟩ = false :=
  ⟨cell_of_row wr _ 0 _ _ (0, 0) h.b, by unfold World.frozen?; simp only [h.b]; simp, cell_of_row wr _ 0 _ _ (0, 0) h.r, by unfold World.frozen?; simp only [h.r]; simp⟩
/-- A mode appended, and the slice stored. -/
theorem BSt.app {w wr w' : World} {g : Nat} {v v' : Value} {ms : List MW} {m : MW} (h : BSt w wr g v ms) (hm : ModeOk m.1 m.2.1 m.2.2.1 m.2.2.2) (hown : w'.ownsRow (w.heap.size + 2) 87 2 v' (ms.length + 1) (flatM ms ++ modeV m)) (hb : Below (w.heap.size + 2) wr w') :
    BSt w (w'.setCell ⟨w.heap.size + 1, 0, none⟩ v') g v' (ms ++ [m]) := by
  have hg := h.hg
  have k : ∀ j, j ≠ w.heap.size + 1 → (w'.setCell ⟨w.heap.size + 1, 0, none⟩ v').heap[j]? = w'.heap[j]? := fun j hj => Below.heap_setCell _ _ _ _ hj
  have hb1 : w'.heap[w.heap.size + 1]? = some (.cells #[v] 68 (0, 0)) := (hb.block _ (by omega)).trans h.b
  refine ⟨cur_set (h.cur.below hb (by omega)) _ _ _ (by omega) (by omega), ?_, hg, ?_, ?_, ?_, ?_⟩
  · refine grown_set' ?_ (by omega)
    exact ⟨hb.os.trans h.gr.os, hb.tape.trans h.gr.tape, hb.output.trans h.gr.output, Nat.le_trans h.gr.size hb.size, fun i hi hn => (hb.block i (by omega)).trans (h.gr.block i hi hn)⟩
  · exact (k _ (by omega)).trans ((hb.block _ (by omega)).trans h.r)
  · simp [World.setCell, Array.getElem?_modify, hb1]
  · rw [← flatM_snoc, List.length_append]
    obtain ⟨h1, h2⟩ := hown
    refine ⟨h1, ?_⟩
    rcases h2 with h2 | ⟨G, cap, cur, e1, e2, e3, e4⟩
    · exact .inl h2
    · exact .inr ⟨G, cap, cur, e1, e2, (k G (by omega)).trans e3, e4⟩
  · intro x hx
    rcases List.mem_append.1 hx with hx | hx
    · exact h.ok x hx
    · simp at hx; subst hx; exact hm

theorem BSt.done {w wr : World} {g : Nat} {v : Value} {ms : List MW} (h : BSt w wr g v ms) : ∃ A c, v = .slice A ms.length c ∧ (wr.setCell ⟨w.heap.size, 0, none⟩ v).ownsRow (w.heap.size + 2) 87 2 (.slice A ms.length c) ms.length (flatM ms) ∧
    CurStep w (wr.setCell ⟨w.heap.size, 0, none⟩ v) g ∧ (wr.setCell ⟨w.heap.size, 0, none⟩ v).heap[w.heap.size]? = some (.cells #[v] 68 (0, 0)) := by
  have hg := h.hg
  have k : ∀ j, j ≠ w.heap.size → (wr.setCell ⟨w.heap.size, 0, none⟩ v).heap[j]? = wr.heap[j]? := fun j hj => Below.heap_setCell _ _ _ _ hj
  have hc : CurStep w (wr.setCell ⟨w.heap.size, 0, none⟩ v) g := ⟨cur_set h.cur _ _ _ (by omega) (by omega), grown_set' h.gr (Nat.le_refl _)⟩
  have hr : (wr.setCell ⟨w.heap.size, 0, none⟩ v).heap[w.heap.size]? = some (.cells #[v] 68 (0, 0)) := by
    simp [World.setCell, Array.getElem?_modify, h.r]
  obtain ⟨h1, h2⟩ := h.own
  rcases h2 with ⟨h2, h3⟩ | ⟨G, cap, cur, e1, e2, e3, e4⟩
  · exact ⟨none, 0, by rw [h2, h3], ⟨h1, .inl ⟨by rw [h3], h3⟩⟩, hc, hr⟩
  · exact ⟨_, cap, e1, ⟨h1, .inr ⟨G, cap, cur, rfl, e2, (k G (by omega)).trans e3, e4⟩⟩, hc, hr⟩
/-- What MakeBody returns. -/
def BodyPost (most : Int) (w : World) (e : Ending) (w' : World) : Prop :=
  ∃ (A : Option Addr) (c : Nat) (ms : List MW), e = .returned (.agg #[.slice A ms.length c]) ∧ w'.ownsRow (w.heap.size + 2) 87 2 (.slice A ms.length c) ms.length (flatM ms) ∧ (∀ m ∈ ms, ModeOk m.1 m.2.1 m.2.2.1 m.2.2.2) ∧ (ms.length : Int) ≤ most

set_option maxRecDepth 100000 in
set_option maxHeartbeats 800000 in
theorem l2Body_any (g : Nat) (most : Int) (w : World) (h : Cur w g) (h0 : 0 ≤ most) (h1 : most ≤ 16) :
    Calls Tryz.prog 27 #[.pointer (some ⟨g, 0, none⟩), .int .i64 most] w fun e w' => BodyPost most w e w' ∧ CurStep w w' g := by
  have S0 : BSt w ((w.alloc (.cells #[.slice none 0 0] 68)).alloc (.cells #[.slice none 0 0] 68)) g (.slice none 0 0) [] := by
    have e1 : (w.alloc (.cells #[.slice none 0 0] 68)).heap.size = w.heap.size + 1 := by simp
    refine ⟨(h.alloc _).alloc _, ⟨rfl, rfl, rfl, by simp; omega, fun i hi _ => ?_⟩, h.lt, ?_, ?_, ⟨rfl, .inl ⟨rfl, rfl⟩⟩, fun m hm => by cases hm⟩
    · exact (Below.heap_alloc _ _ i (by omega)).trans (Below.heap_alloc _ _ i hi)
    · exact (Below.heap_alloc _ _ _ (by omega)).trans (heap_alloc_new w _)
    · rw [← e1]; exact heap_alloc_new _ _
  go_enter Tryz.func27, Tryz.ntmps27
  go_wp2_with fail
  generalize (w.alloc (.cells #[.slice none 0 0] 68)).alloc (.cells #[.slice none 0 0] 68) = W0 at *
  refine (below_any g (most + 1) _ S0.cur (by omega) (by omega)).mono ?_
  rintro e W1 ⟨k0, rfl, ⟨hk0, hk1⟩, s1⟩
  have S1 := Lib.hid (S0.step s1)
  clear S0 s1
  go_wp2_with fail
  go_loopw [6, 7] (fun kk _ wr => ∃ (j : Int) (v : Value) (ms : List MW), kk = .int .i64 j ∧ 0 ≤ j ∧ j + ms.length ≤ most ∧ Hid (BSt w wr g v ms)) (fun kk _ _ => (intOf kk).toNat)
  case atStart => exact ⟨k0, _, [], rfl, hk0, by simp; omega, S1⟩
  case round =>
    obtain ⟨j, v, ms, rfl, hj0, hjm, hS⟩ := hrel
    by_cases hp : 0 < j
    · go_wp2_with fail
      refine (mode_any g _ hS.out.cur).mono ?_
      rintro e W2 ⟨a, b, c, d, rfl, wa, wb, wc, wd, s2⟩
      have S2 := Lib.hid (hS.out.step s2)
      clear s2
      go_wp2_with fail
      have S3 := S2.out.alloc (.cells #[.complex .f32 a b, .complex .f32 c d] 87)
      have hM : (W2.alloc (.cells #[.complex .f32 a b, .complex .f32 c d] 87)).heap[W2.heap.size]? = some (.cells #[.complex .f32 a b, .complex .f32 c d] 87 (0, 0)) := heap_alloc_new W2 _
      have hlt : W2.heap.size < (W2.alloc (.cells #[.complex .f32 a b, .complex .f32 c d] 87)).heap.size := by simp
      refine (isMode_any a b c d _ wa wb wc wd).mono ?_
      rintro e W4 ⟨t, rfl, hok, hb⟩
      have S4 := S3.below hb (Nat.le_refl _)
      have hM4 := (hb.block _ hlt).trans hM
      obtain ⟨c0, c1, _, _⟩ := m_cells hM4
      obtain ⟨b0, b1, _, _⟩ := S4.cells
      have H4 := Lib.hid S4
      have hsz : w.heap.size + 2 ≤ W4.heap.size := lt_of_some S4.b
      clear S3 S4 hM hM4 hlt hb
      cases t
      · go_wp2_with fail
        go_roundw
        case rel => exact ⟨j - 1, v, ms, by go_num, by omega, by omega, H4⟩
        case measure => simp [intOf]; omega
      · have Hok := Lib.hid (hok rfl)
        clear hok
        go_wp2_with (at_builtin; refine wpList_app2 rfl (.tmp 22) (.tmp 24) 56 rfl (w.heap.size + 2) 87 (.agg #[.complex .f32 0 0, .complex .f32 0 0]) 16 Tryz.underlying56 mode_info rfl v ms.length (flatM ms) _ _ rfl rfl rfl rfl H4.out.own hsz (by omega) (by omega) ?_; intro v' w' hown' hbel'; obtain ⟨G, capG, rfl, _, _⟩ := hown'.form (by omega); have hB1 := (hbel'.block (w.heap.size + 1) (by omega)).trans H4.out.b; have c3 := cell_of_row w' (w.heap.size + 1) 0 _ _ (0, 0) hB1; have f3 : w'.frozen? ⟨w.heap.size + 1, 0, none⟩ = false := (by unfold World.frozen?; simp only [hB1]; simp))
        go_roundw
        case rel => exact ⟨j - 1, _, ms ++ [(a, b, c, d)], by go_num, by omega, by simp; omega, H4.out.app (m := (a, b, c, d)) Hok.out hown' hbel'⟩
        case measure => simp [intOf]; omega
    · obtain ⟨b0, b1, r0, r1⟩ := hS.out.cells
      obtain ⟨A', cp', hv, ho, hcs, hres⟩ := hS.out.done
      subst hv
      have HO := Lib.hid ho
      have HC := Lib.hid hcs
      have HR := Lib.hid hres
      have HK := Lib.hid hS.out.ok
      clear ho hcs hres
      go_wp2_with fail
      refine bodyPost_ret (results_cell_row rfl _ _ w.heap.size 68 #[.slice A' ms.length cp'] (0, 0) _ rfl HR.out Tryz.underlying68 rfl (by kernel_rfl)) rfl ?_
      exact ⟨⟨A', cp', ms, rfl, HO.out, HK.out, by omega⟩, HC.out⟩

/-- Modes that lie from a block on. -/
def OwnM (w : World) (lo hi : Nat) (A : Option Addr) (c : Nat) (ms : List MW) : Prop :=
  w.ownsRow lo 87 2 (.slice A ms.length c) ms.length (flatM ms) ∧ ∀ k, (Value.slice A ms.length c).ownBlock = some k → k < hi
theorem OwnM.keep {w w' : World} {lo hi : Nat} {A : Option Addr} {c : Nat} {ms : List MW} (h : OwnM w lo hi A c ms) (hk : ∀ j, lo ≤ j → j < hi → w'.heap[j]? = w.heap[j]?) : OwnM w' lo hi A c ms := by
  obtain ⟨⟨h1, h2⟩, h3⟩ := h
  refine ⟨⟨h1, ?_⟩, h3⟩
  rcases h2 with h2 | ⟨g, cap, cur, e1, e2, e3, e4⟩
  · exact .inl h2
  · refine .inr ⟨g, cap, cur, e1, e2, (hk g e2 (h3 g (by rw [e1]; rfl))).trans e3, e4⟩
theorem OwnM.below {w w' : World} {lo hi B : Nat} {A : Option Addr} {c : Nat} {ms : List MW} (h : OwnM w lo hi A c ms) (hb : Below B w w') (hB : hi ≤ B) : OwnM w' lo hi A c ms :=
  h.keep fun j _ hj => hb.block j (by omega)
theorem OwnM.of {w : World} {lo : Nat} {A : Option Addr} {c : Nat} {ms : List MW} (h : w.ownsRow lo 87 2 (.slice A ms.length c) ms.length (flatM ms)) : OwnM w lo w.heap.size A c ms := by
  refine ⟨h, fun k hk => ?_⟩
  rcases h.2 with ⟨e, _⟩ | ⟨g, cap, cur, e1, e2, e3, e4⟩
  · rw [e] at hk; cases hk
  · rw [e1] at hk
    have : g = k := by injection hk
    subst this
    exact lt_of_some e3
/-- What its cells hold. -/
theorem OwnM.cells {w : World} {lo hi : Nat} {A : Option Addr} {c : Nat} {ms : List MW} (h : OwnM w lo hi A c ms) (h0 : 0 < ms.length) : ∃ b, A = some ⟨b, 0, none⟩ ∧ lo ≤ b ∧ b < w.heap.size ∧ ms.length ≤ c ∧ c ≤ maxLen ∧
    ∀ i, i < ms.length → w.cell? ⟨b, i * 2, none⟩ = some (.complex .f32 (ms.getD i (0, 0, 0, 0)).1 (ms.getD i (0, 0, 0, 0)).2.1) ∧ w.cell? ⟨b, i * 2 + 1, none⟩ = some (.complex .f32 (ms.getD i (0, 0, 0, 0)).2.2.1 (ms.getD i (0, 0, 0, 0)).2.2.2) := by
  obtain ⟨⟨h1, h2⟩, h3⟩ := h
  rcases h2 with ⟨_, h2⟩ | ⟨g, cap, cur, e1, e2, e3, e4, e5, e6, e7⟩
  · omega
  · injection e1 with q1 q2 q3
    subst q1 q3
    refine ⟨g, rfl, e2, lt_of_some e3, e4, e5, fun i hi => ?_⟩
    obtain ⟨f1, f2⟩ := flatM_at hi
    have key : ∀ j u, j < ms.length * 2 → (flatM ms)[j]? = some u → w.cell? ⟨g, j, none⟩ = some u := fun j u hj hu => by
      rw [cell_of_row w g j _ _ (0, 0) e3]
      rw [← e7, List.getElem?_take, if_pos hj] at hu
      simpa using hu
    exact ⟨key _ _ (by omega) f1, key _ _ (by omega) f2⟩

end Go.Proofs.YtndnfhhdflmfcaaGreat

/-
impl.IsBody at valid modes.
-/
namespace Go.Proofs.YtndnfhhdflmfcaaGreat
open Go Go.RowKit Ieee

def ModesOk (ms : List MW) : Prop := ∀ m ∈ ms, ModeOk m.1 m.2.1 m.2.2.1 m.2.2.2
theorem ModesOk.at_ {ms : List MW} (h : ModesOk ms) {i : Nat} (hi : i < ms.length) : ModeOk (ms.getD i (0, 0, 0, 0)).1 (ms.getD i (0, 0, 0, 0)).2.1 (ms.getD i (0, 0, 0, 0)).2.2.1 (ms.getD i (0, 0, 0, 0)).2.2.2 := by
  have : ms.getD i (0, 0, 0, 0) ∈ ms := by
    simp only [List.getD, List.getElem?_eq_getElem hi, Option.getD_some]
    exact List.getElem_mem hi
  exact h _ this

set_option maxRecDepth 100000 in
set_option maxHeartbeats 400000 in
theorem notMode_any (a b c d : Nat) (w : World) (h : ModeOk a b c d) : Calls Tryz.prog 80 #[.agg #[.complex .f32 a b, .complex .f32 c d]] w fun e w' => e = .returned (.bool false) ∧ Below w.heap.size w w' := by
  go_enter Tryz.func80, Tryz.ntmps80
  go_wp2_with fail
  have HB : Hid (Below w.heap.size w (w.alloc (.cells #[.complex .f32 a b, .complex .f32 c d] 87))) := (Below.refl w.heap.size w).alloc (Nat.le_refl _) _
  refine (implMode_ok a b c d _ h).mono ?_
  rintro e w' ⟨rfl, hb⟩
  have HB2 : Hid (Below w.heap.size w w') := HB.out.trans (hb.mono HB.out.size)
  clear hb
  go_wp2_with fail
  go_ret
  exact ⟨rfl, HB2.out⟩

set_option maxRecDepth 100000 in
set_option maxHeartbeats 400000 in
theorem indexMode_any (A : Option Addr) (c lo hi : Nat) (ms : List MW) (w : World) (h : OwnM w lo hi A c ms) (hh : hi ≤ w.heap.size) (hok : ModesOk ms) (hl : ms.length ≤ 16) :
    Calls Tryz.prog 102 #[.slice A ms.length c, .func (.func 80) #[] #[]] w fun e w' => e = .returned (.int .i64 (-1)) ∧ Below w.heap.size w w' := by
  have H := Lib.hid h
  have HK := Lib.hid hok
  clear h hok
  go_enter Tryz.func102, Tryz.ntmps102
  go_wp2_with fail
  go_loopw [8] (fun i wr => ∃ k : Nat, i = .int .i64 (k : Int) ∧ k ≤ ms.length ∧ Hid (Below w.heap.size w wr)) (fun i _ => ms.length - (intOf i).toNat)
  case atStart => exact ⟨0, rfl, by omega, Below.refl _ _⟩
  case round =>
    obtain ⟨k, rfl, hk, hb⟩ := hrel
    by_cases hlt : k < ms.length
    · obtain ⟨b, rfl, _, hbl, hlc, _, hcell⟩ := (H.out.below hb.out hh).cells (by omega)
      obtain ⟨e1, e2⟩ := hcell k hlt
      have HM := Lib.hid (HK.out.at_ hlt)
      clear hcell
      generalize ms.getD k (0, 0, 0, 0) = m at *
      obtain ⟨a, b', c', d⟩ := m
      simp only at e1 e2
      go_wp2_with fail
      refine (notMode_any a b' c' d _ HM.out).mono ?_
      rintro e w' ⟨rfl, hb2⟩
      have HB : Hid (Below w.heap.size w w') := hb.out.trans (hb2.mono hb.out.size)
      clear hb2 e1 e2
      go_wp2_with fail
      go_roundw
      case rel => exact ⟨k + 1, by go_num, by omega, HB⟩
      case measure => simp [intOf]; omega
    · go_wp2_with fail
      go_ret
      exact ⟨rfl, hb.out⟩

set_option maxRecDepth 100000 in
set_option maxHeartbeats 400000 in
theorem containsMode_any (A : Option Addr) (c lo hi : Nat) (ms : List MW) (w : World) (h : OwnM w lo hi A c ms) (hh : hi ≤ w.heap.size) (hok : ModesOk ms) (hl : ms.length ≤ 16) :
    Calls Tryz.prog 79 #[.slice A ms.length c, .func (.func 80) #[] #[]] w fun e w' => e = .returned (.bool false) ∧ Below w.heap.size w w' := by
  have H := Lib.hid h
  have HK := Lib.hid hok
  clear h hok
  go_enter Tryz.func79, Tryz.ntmps79
  go_wp2_with fail
  refine (indexMode_any A c lo hi ms _ H.out hh HK.out hl).mono ?_
  rintro e w' ⟨rfl, hb⟩
  have HB := Lib.hid hb
  clear hb
  go_wp2_with fail
  go_ret
  exact ⟨rfl, HB.out⟩

set_option maxRecDepth 100000 in
set_option maxHeartbeats 400000 in
theorem isBody_any (A : Option Addr) (c lo hi : Nat) (ms : List MW) (w : World) (h : OwnM w lo hi A c ms) (hh : hi ≤ w.heap.size) (hok : ModesOk ms) (hl : ms.length ≤ 16) :
    Calls Tryz.prog 46 #[.agg #[.slice A ms.length c]] w fun e w' => e = .returned (.bool true) ∧ Below w.heap.size w w' := by
  have HB : Hid (Below w.heap.size w (w.alloc (.cells #[.slice A ms.length c] 68))) := (Below.refl w.heap.size w).alloc (Nat.le_refl _) _
  have H : Hid (OwnM (w.alloc (.cells #[.slice A ms.length c] 68)) lo hi A c ms) := h.below HB.out hh
  have HK := Lib.hid hok
  have hsz : hi ≤ (w.alloc (.cells #[.slice A ms.length c] 68)).heap.size := by simp; omega
  clear h hok
  go_enter Tryz.func46, Tryz.ntmps46
  go_wp2_with fail
  generalize w.alloc (.cells #[.slice A ms.length c] 68) = W at *
  refine (containsMode_any A c lo hi ms _ H.out hsz HK.out hl).mono ?_
  rintro e w' ⟨rfl, hb⟩
  have HB2 : Hid (Below w.heap.size w w') := HB.out.trans (hb.mono HB.out.size)
  clear hb
  go_wp2_with fail
  go_ret
  exact ⟨rfl, HB2.out⟩
end Go.Proofs.YtndnfhhdflmfcaaGreat

/-
impl.StepMode at a valid mode, a finite state and a finite input.
-/
namespace Go.Proofs.YtndnfhhdflmfcaaGreat
open Go Go.RowKit Ieee

/-- The next state. -/
def stepW (m : MW) (s : Nat × Nat) (x : Nat) : Nat × Nat :=
  (fo .add .f32 (sRe s.1 s.2 m.1 m.2.1) (fo .mul .f32 m.2.2.1 x), fo .add .f32 (sIm s.1 s.2 m.1 m.2.1) (fo .mul .f32 m.2.2.2 x))
/-- A state that is finite, its parts at most L. -/
structure StOk (L : Rat) (s : Nat × Nat) : Prop where
  f1 : fin .f32 s.1
  f2 : fin .f32 s.2
  w1 : wfk .f32 s.1
  w2 : wfk .f32 s.2
  b1 : ab (fv .f32 s.1) ≤ L
  b2 : ab (fv .f32 s.2) ≤ L
/-- What one step needs. -/
structure StepOk (m : MW) (s : Nat × Nat) (x : Nat) : Prop where
  mild : Mild s.1 s.2 m.1 m.2.1
  w1 : wfk .f32 s.1
  w2 : wfk .f32 s.2
  g1 : fin .f32 (fo .mul .f32 m.2.2.1 x)
  g2 : fin .f32 (fo .mul .f32 m.2.2.2 x)
  n1 : fin .f32 (stepW m s x).1
  n2 : fin .f32 (stepW m s x).2
theorem step_ok {m : MW} {s : Nat × Nat} {x : Nat} {L : Rat} (hm : ModeOk m.1 m.2.1 m.2.2.1 m.2.2.2) (hs : StOk L s) (fx : fin .f32 x) (hx : ab (fv .f32 x) ≤ 8) (hL : 2 ^ 14 ≤ L) (hL2 : L ≤ 2 ^ 112) : StOk (L * 3) (stepW m s x) ∧ StepOk m s x := by
  have hsq := hm.square
  have q1 := sq_nonneg (fv .f32 m.1)
  have q2 := sq_nonneg (fv .f32 m.2.1)
  have p1 : ab (fv .f32 m.1) ≤ 1 + 1 / 2 ^ 40 := ab_le_of_sq (by grind) (by grind)
  have p2 : ab (fv .f32 m.2.1) ≤ 1 + 1 / 2 ^ 40 := ab_le_of_sq (by grind) (by grind)
  obtain ⟨M, n1, n2, c1, c2⟩ := wide_mild hs.f1 hs.f2 (fin_of_wid hm.fa) (fin_of_wid hm.fb) hs.b1 hs.b2 (by grind) hL2 p1 p2
  obtain ⟨g1, a1, d1⟩ := plus_gain n1 (fin_of_wid hm.fc) fx c1 (gain_le hm.fc hm.gain.1) hx hL hL2
  obtain ⟨g2, a2, d2⟩ := plus_gain n2 (fin_of_wid hm.fd) fx c2 (gain_le hm.fd hm.gain.2) hx hL hL2
  exact ⟨⟨a1, a2, fo_lt _ _ _ _, fo_lt _ _ _ _, d1, d2⟩, ⟨M, hs.w1, hs.w2, g1, g2, a1, a2⟩⟩

set_option maxHeartbeats 400000 in
theorem implScaleS_any (a b x : Nat) (w : World) (h1 : fin .f32 (fo .mul .f32 a x)) (h2 : fin .f32 (fo .mul .f32 b x)) : Calls Tryz.prog 114 #[.complex .f32 a b, .float .f32 x] w fun e w' => e = .returned (.complex .f32 (fo .mul .f32 a x) (fo .mul .f32 b x)) ∧ ∃ n, w.drewN n = w' := by
  have e1 := fun w => rnd_eq h1 w
  have e2 := fun w => rnd_eq h2 w
  clear h1 h2
  go_enter Tryz.func114, Tryz.ntmps114
  go_wp2_with fail
  go_ret
  exact ⟨rfl, _, rfl⟩
set_option maxHeartbeats 400000 in
theorem implAddS_any (a b c d : Nat) (w : World) (h1 : fin .f32 (fo .add .f32 a c)) (h2 : fin .f32 (fo .add .f32 b d)) : Calls Tryz.prog 116 #[.complex .f32 a b, .complex .f32 c d] w fun e w' => e = .returned (.complex .f32 (fo .add .f32 a c) (fo .add .f32 b d)) ∧ ∃ n, w.drewN n = w' := by
  have e1 := fun w => rnd_eq h1 w
  have e2 := fun w => rnd_eq h2 w
  clear h1 h2
  go_enter Tryz.func116, Tryz.ntmps116
  go_wp2_with fail
  go_ret
  exact ⟨rfl, _, rfl⟩

set_option maxRecDepth 100000 in
set_option maxHeartbeats 400000 in
theorem stepMode_any (m : MW) (s : Nat × Nat) (x : Nat) (w : World) (hm : ModeOk m.1 m.2.1 m.2.2.1 m.2.2.2) (h : StepOk m s x) :
    Calls Tryz.prog 98 #[.agg #[.complex .f32 m.1 m.2.1, .complex .f32 m.2.2.1 m.2.2.2], .complex .f32 s.1 s.2, .float .f32 x] w fun e w' => e = .returned (.complex .f32 (stepW m s x).1 (stepW m s x).2) ∧ Below w.heap.size w w' := by
  obtain ⟨a, b, c, d⟩ := m
  obtain ⟨s1, s2⟩ := s
  have T1 := Lib.hid (fun W => (implSingle_any s1 s2 a b W h.w1 h.w2 hm.wa hm.wb h.mild).mono fun e w' h => (by
    obtain ⟨n, rfl, rfl⟩ := h; exact ⟨rfl, n, rfl⟩ : e = .returned (.complex .f32 (sRe s1 s2 a b) (sIm s1 s2 a b)) ∧ ∃ j, W.drewN j = w'))
  have T2 := Lib.hid (fun W => implScaleS_any c d x W h.g1 h.g2)
  have T3 := Lib.hid (fun W => implAddS_any _ _ _ _ W h.n1 h.n2)
  unfold stepW at T3 ⊢
  simp only at T3 ⊢
  clear h hm
  go_enter Tryz.func98, Tryz.ntmps98
  go_wp2_with fail
  have HB : Hid (Below w.heap.size w (w.alloc (.cells #[.complex .f32 a b, .complex .f32 c d] 87))) := (Below.refl w.heap.size w).alloc (Nat.le_refl _) _
  have hm : (w.alloc (.cells #[.complex .f32 a b, .complex .f32 c d] 87)).heap[w.heap.size]? = some (.cells #[.complex .f32 a b, .complex .f32 c d] 87 (0, 0)) := heap_alloc_new w _
  obtain ⟨c0, c1, _, _⟩ := m_cells hm
  clear hm
  generalize w.alloc (.cells #[.complex .f32 a b, .complex .f32 c d] 87) = W at *
  refine wp_region_rx (by kernel_rfl) (by kernel_rfl) ?_; apply Exists.intro
  repeat (first | (apply wpR_val; intro K hK; go_simp; refine ⟨rfl, hK _ ?_⟩; clear hK K) | (apply wpR_skip; intro K hK; go_simp; refine hK _ ?_; clear hK K))
  apply wpR_val (v := .complex .f32 (sRe s1 s2 a b) (sIm s1 s2 a b)); intro K hK; go_simp; refine ⟨fun m => rcall0 (T1.out _), hK _ ?_⟩; clear hK K
  repeat (first | (apply wpR_val; intro K hK; go_simp; refine ⟨rfl, hK _ ?_⟩; clear hK K) | (apply wpR_skip; intro K hK; go_simp; refine hK _ ?_; clear hK K))
  apply wpR_val (v := .complex .f32 (fo .mul .f32 c x) (fo .mul .f32 d x)); intro K hK; go_simp; refine ⟨fun m => rcall0 (T2.out _), hK _ ?_⟩; clear hK K
  repeat (first | (apply wpR_val; intro K hK; go_simp; refine ⟨rfl, hK _ ?_⟩; clear hK K) | (apply wpR_skip; intro K hK; go_simp; refine hK _ ?_; clear hK K))
  apply wpR_val (v := .complex .f32 (fo .add .f32 (sRe s1 s2 a b) (fo .mul .f32 c x)) (fo .add .f32 (sIm s1 s2 a b) (fo .mul .f32 d x))); intro K hK; go_simp; refine ⟨fun m => rcall0 (T3.out _), hK _ ?_⟩; clear hK K
  repeat (first | (apply wpR_val; intro K hK; go_simp; refine ⟨rfl, hK _ ?_⟩; clear hK K) | (apply wpR_skip; intro K hK; go_simp; refine hK _ ?_; clear hK K))
  apply wpR_nil (Rs := []); rintro _ ⟨nq, rfl⟩
  go_wp2_with fail
  go_ret
  exact ⟨rfl, below_drewN HB.out _⟩
end Go.Proofs.YtndnfhhdflmfcaaGreat

/-
impl.step: all modes, one step.
-/
namespace Go.Proofs.YtndnfhhdflmfcaaGreat
open Go Go.RowKit Ieee

def mAt (ms : List MW) (i : Nat) : MW := ms.getD i (0, 0, 0, 0)
def sAt (ss : List (Nat × Nat)) (i : Nat) : Nat × Nat := ss.getD i (0, 0)
def sV (s : Nat × Nat) : Value := .complex .f32 s.1 s.2
/-- The output of the first k modes. -/
def outAt (ms : List MW) (ss : List (Nat × Nat)) (x : Nat) : Nat → Nat
  | 0 => 0
  | k + 1 => fo .add .f32 (outAt ms ss x k) (stepW (mAt ms k) (sAt ss k) x).1
theorem nrm_outAt (ms : List MW) (ss : List (Nat × Nat)) (x k : Nat) : nrm .f32 (outAt ms ss x k) = outAt ms ss x k := by
  cases k with
  | zero => exact (nrm_of_num (by decide +kernel) : nrm .f32 0 = 0)
  | succ k => exact nrm_fo _ _ _ _
/-- All states, one step on. -/
def nextS (ms : List MW) (ss : List (Nat × Nat)) (x : Nat) : List (Nat × Nat) := (List.range ss.length).map fun i => stepW (mAt ms i) (sAt ss i) x
theorem nextS_at {ms : List MW} {ss : List (Nat × Nat)} {x i : Nat} (h : i < ss.length) : sAt (nextS ms ss x) i = stepW (mAt ms i) (sAt ss i) x := by
  show (nextS ms ss x).getD i (0, 0) = _
  simp [nextS, List.getD, h]

set_option maxRecDepth 100000 in
set_option maxHeartbeats 400000 in
theorem step_any (A : Option Addr) (c lo hi g : Nat) (ms : List MW) (ss : List (Nat × Nat)) (x : Nat) (w : World) (h : OwnM w lo hi A c ms) (hh : hi ≤ g) (hok : ModesOk ms) (hl : ms.length ≤ 16) (hs : ss.length = ms.length)
    (hrow : w.rowIs g 85 ms.length (fun i => sV (sAt ss i))) (hst : ∀ i, i < ms.length → StepOk (mAt ms i) (sAt ss i) x) :
    Calls Tryz.prog 72 #[.slice A ms.length c, .slice (some ⟨g, 0, none⟩) ms.length ms.length, .float .f32 x] w fun e w' => ∃ r, e = .returned (.float .f32 r) ∧ nrm .f32 r = outAt ms ss x ms.length ∧ wfk .f32 r ∧
      w'.rowIs g 85 ms.length (fun i => sV (sAt (nextS ms ss x) i)) ∧ w.grownBy w' (some g) := by
  have H := Lib.hid h
  have HK := Lib.hid hok
  have HST := Lib.hid hst
  have hgl := hrow.lt
  have hrow0 : w.rowIs g 85 ms.length (fun i => if i < 0 then sV (stepW (mAt ms i) (sAt ss i) x) else sV (sAt ss i)) := hrow.congr fun i _ => by rw [if_neg (by omega)]
  clear h hok hst hrow
  go_enter Tryz.func72, Tryz.ntmps72
  go_wp2_with fail
  go_loopw [7, 12] (fun o i wr => ∃ k r : Nat, i = .int .i64 (k : Int) ∧ k ≤ ms.length ∧ o = .float .f32 r ∧ Hid (nrm .f32 r = outAt ms ss x k ∧ wfk .f32 r) ∧
    wr.rowIs g 85 ms.length (fun i => if i < k then sV (stepW (mAt ms i) (sAt ss i) x) else sV (sAt ss i)) ∧ Hid (w.grownBy wr (some g))) (fun _ i _ => ms.length - (intOf i).toNat)
  case atStart => exact ⟨0, 0, rfl, by omega, rfl, ⟨nrm_of_num (by decide +kernel), by rw [wfk_32]; omega⟩, hrow0, rfl, rfl, rfl, Nat.le_refl _, fun _ _ _ => rfl⟩
  case round =>
    clear hrow0
    obtain ⟨k, r, rfl, hk, rfl, hr, hrow, hgr⟩ := hrel
    by_cases hlt : k < ms.length
    · have hgr1 := hgr.out
      have HM : Hid (OwnM wr lo hi A c ms) := H.out.keep fun j _ hj => hgr1.block j (by omega) (by intro e; injection e with e; omega)
      obtain ⟨b, rfl, hb1, hb2, hlc, _, hcell⟩ := HM.out.cells (by omega)
      obtain ⟨e1, e2⟩ := hcell k hlt
      have hst := HST.out k hlt
      have hmk := HK.out.at_ hlt
      have e3 := hrow.cell hlt
      have hgw := hrow.lt
      simp only [Nat.lt_irrefl, if_false] at e3
      have HO : Hid (outAt ms ss x (k + 1) = fo .add .f32 (outAt ms ss x k) (stepW (mAt ms k) (sAt ss k) x).1) := rfl
      have HST1 := Lib.hid hst
      have HMK : Hid (ModeOk (mAt ms k).1 (mAt ms k).2.1 (mAt ms k).2.2.1 (mAt ms k).2.2.2) := hmk
      have hN : Hid (∀ (W : World), W.rowIs g 85 ms.length (fun i => if i < k then sV (stepW (mAt ms i) (sAt ss i) x) else sV (sAt ss i)) →
          (W.setCell ⟨g, k, none⟩ (sV (stepW (mAt ms k) (sAt ss k) x))).rowIs g 85 ms.length (fun i => if i < k + 1 then sV (stepW (mAt ms i) (sAt ss i) x) else sV (sAt ss i))) := fun W hW =>
        (hW.set k _).congr fun i hi => by
          show (if i = k then _ else _) = _
          by_cases e : i = k
          · subst e; rw [if_pos rfl, if_pos (by omega)]
          · rw [if_neg e]
            by_cases e' : i < k
            · rw [if_pos e', if_pos (by omega)]
            · rw [if_neg e', if_neg (by omega)]
      have e1' : wr.cell? ⟨b, k * 2, none⟩ = some (.complex .f32 (mAt ms k).1 (mAt ms k).2.1) := e1
      have e2' : wr.cell? ⟨b, k * 2 + 1, none⟩ = some (.complex .f32 (mAt ms k).2.2.1 (mAt ms k).2.2.2) := e2
      clear e1 e2 hcell hst hmk
      unfold sV at e3 hN
      generalize hmm : mAt ms k = m at *
      generalize hss : sAt ss k = s at *
      obtain ⟨a, b', c', d⟩ := m
      obtain ⟨s1, s2⟩ := s
      simp only at e1' e2' e3
      have R1 : Hid ((wr.alloc (.cells #[.complex .f32 a b', .complex .f32 c' d] 87)).rowIs g 85 ms.length (fun i => if i < k then .complex .f32 (stepW (mAt ms i) (sAt ss i) x).1 (stepW (mAt ms i) (sAt ss i) x).2 else .complex .f32 (sAt ss i).1 (sAt ss i).2)) := hrow.alloc _
      have G1 : Hid (w.grownBy (wr.alloc (.cells #[.complex .f32 a b', .complex .f32 c' d] 87)) (some g)) := grown_trans hgr1 ⟨rfl, rfl, rfl, by simp, fun i hi _ => Below.heap_alloc wr _ i hi⟩
      have hmB : (wr.alloc (.cells #[.complex .f32 a b', .complex .f32 c' d] 87)).heap[wr.heap.size]? = some (.cells #[.complex .f32 a b', .complex .f32 c' d] 87 (0, 0)) := heap_alloc_new wr _
      have hlt1 : wr.heap.size < (wr.alloc (.cells #[.complex .f32 a b', .complex .f32 c' d] 87)).heap.size := by simp
      go_wp2_with fail
      obtain ⟨m0, m1, _, _⟩ := m_cells hmB
      have s0 := R1.out.cell hlt
      have s1' := R1.out.frozen k
      simp only [Nat.lt_irrefl, if_false, hss] at s0
      generalize wr.alloc (.cells #[.complex .f32 a b', .complex .f32 c' d] 87) = W1 at *
      have hgW : g < W1.heap.size := R1.out.lt
      have KEY : Hid (∀ W2, Below W1.drew.heap.size W1.drew W2 → W2.rowIs g 85 ms.length (fun i => if i < k then .complex .f32 (stepW (mAt ms i) (sAt ss i) x).1 (stepW (mAt ms i) (sAt ss i) x).2 else .complex .f32 (sAt ss i).1 (sAt ss i).2) ∧
          w.grownBy W2 (some g) ∧ W2.cell? ⟨g, k, none⟩ = some (.complex .f32 s1 s2) ∧ W2.frozen? ⟨g, k, none⟩ = false ∧ ∀ v, (W2.setCell ⟨g, k, none⟩ v).cell? ⟨g, k, none⟩ = some v) := fun W2 hb3 => by
        have R2 := R1.out.of_block (w' := W2) (hb3.block g hgW)
        have t0 := R2.cell hlt
        simp only [Nat.lt_irrefl, if_false, hss] at t0
        refine ⟨R2, grown_trans G1.out ⟨hb3.os, hb3.tape, hb3.output, hb3.size, fun i hi _ => hb3.block i hi⟩, t0, R2.frozen k, fun v => ?_⟩
        have := (R2.set k v).cell hlt
        simpa using this
      go_region_with (first
        | (go_at_call 98
           refine (stepMode_any (a, b', c', d) (s1, s2) x _ HMK.out HST1.out).mono ?_
           rintro e W2 ⟨rfl, hb3⟩
           obtain ⟨r2, g2, t0, t1, c6⟩ := KEY.out _ hb3
           have R2 := Lib.hid r2
           have G2 := Lib.hid g2
           clear hb3 r2 g2))
      all_goals
        go_wp2_with fail
        go_roundw
        case rel =>
          refine ⟨k + 1, _, by go_num, by omega, rfl, ⟨?_, fR_lt _ _ _ _ _⟩, hN.out _ R2.out, ?_⟩
          · rw [nrm_fR, HO.out]; exact fo_congr (by rw [hr.out.1, nrm_outAt]) rfl
          · exact ⟨G2.out.os, G2.out.tape, G2.out.output, by have := G2.out.size; simpa using this, fun i hi hn => (Below.heap_setCell _ _ _ _ (by show i ≠ g; intro e; subst e; exact hn rfl)).trans (G2.out.block i hi hn)⟩
        case measure => simp [intOf]; omega
    · obtain rfl : k = ms.length := by omega
      go_wp2_with fail
      go_ret
      refine ⟨r, rfl, hr.out.1, hr.out.2, hrow.congr fun i hi => ?_, hgr.out⟩
      rw [if_pos hi, nextS_at (by omega)]
end Go.Proofs.YtndnfhhdflmfcaaGreat

/-
The error of the quotient of complex numbers. (Plain arithmetic.)
-/
namespace Go.Proofs.YtndnfhhdflmfcaaGreat
open Go Ieee

theorem quot_pos {c d a b X Y M r rd den br ne q κ : Rat} (_hκ : 0 ≤ κ) (hc : 0 < c) (hcd : ab d ≤ c) (hX : ab X ≤ M) (hY : ab Y ≤ M) (ha : a = X * c - Y * d) (hb : b = X * d + Y * c)
    (hq : q * c = d) (e1 : ab (r - q) ≤ 1 / 2 ^ 51) (e2 : ab (rd - r * d) ≤ c / 2 ^ 51) (e3 : ab (den - (c + rd)) ≤ c / 2 ^ 50) (e4 : ab (br - b * r) ≤ ab b / 2 ^ 51 + κ)
    (e5 : ab (ne - (a + br)) ≤ (ab a + ab b) / 2 ^ 50 + κ) :
    c / 2 ≤ den ∧ ab (ne - X * den) ≤ M * c / 2 ^ 46 + 2 * κ := by
  have hc' : ab c = c := ab_of_nonneg (Rat.le_of_lt hc)
  have n1 := ab_nonneg d
  have n2 := ab_nonneg X
  have n3 := ab_nonneg Y
  have n4 := ab_nonneg b
  have h1 := ab_mul q c
  rw [hq, hc'] at h1
  have h2 : ab q ≤ 1 := by
    rcases rat_lt_or_le 1 (ab q) with h | h
    · exfalso
      have := Rat.mul_lt_mul_of_pos_right h hc
      grind
    · exact h
  have h3 : ab (r * d - q * d) ≤ c / 2 ^ 51 := by
    rw [show r * d - q * d = (r - q) * d by grind, ab_mul]
    have := Rat.mul_le_mul_of_nonneg_right e1 n1
    grind
  have h4 : ab (rd - q * d) ≤ c / 2 ^ 50 := by
    have := ab_add (rd - r * d) (r * d - q * d)
    rw [show rd - r * d + (r * d - q * d) = rd - q * d by grind] at this
    grind
  have h5 : 0 ≤ q * d := by
    rw [← hq, show q * (q * c) = q * q * c by grind]
    exact Rat.mul_nonneg (sq_nonneg q) (Rat.le_of_lt hc)
  have h6 : ab (den - (c + q * d)) ≤ c / 2 ^ 49 := by
    have := ab_add (den - (c + rd)) (rd - q * d)
    rw [show den - (c + rd) + (rd - q * d) = den - (c + q * d) by grind] at this
    grind
  have h7 := le_ab (den - (c + q * d))
  have m1 := Rat.mul_le_mul_of_nonneg_right hX (Rat.le_of_lt hc)
  have m2 := Rat.mul_le_mul_of_nonneg_right hY (Rat.le_of_lt hc)
  have m3 : ab X * ab d ≤ M * c := by
    have := Rat.mul_le_mul_of_nonneg_left hcd n2
    grind
  have m4 : ab Y * ab d ≤ M * c := by
    have := Rat.mul_le_mul_of_nonneg_left hcd n3
    grind
  have hA : ab a ≤ 2 * (M * c) := by
    have := ab_add (X * c) (-(Y * d))
    rw [ab_neg, ab_mul, ab_mul, hc', show X * c + -(Y * d) = a by grind] at this
    grind
  have hB : ab b ≤ 2 * (M * c) := by
    have := ab_add (X * d) (Y * c)
    rw [ab_mul, ab_mul, hc', ← hb] at this
    grind
  have h8 : ab (br - b * q) ≤ ab b / 2 ^ 50 + κ := by
    have t := ab_add (br - b * r) (b * r - b * q)
    rw [show br - b * r + (b * r - b * q) = br - b * q by grind, show b * r - b * q = b * (r - q) by grind, ab_mul] at t
    have := Rat.mul_le_mul_of_nonneg_left e1 n4
    grind
  have h9 : ab (ne - (a + b * q)) ≤ 6 * (M * c) / 2 ^ 50 + 2 * κ := by
    have t := ab_add (ne - (a + br)) (br - b * q)
    rw [show ne - (a + br) + (br - b * q) = ne - (a + b * q) by grind] at t
    grind
  have hid : a + b * q = X * (c + q * d) := by rw [ha, hb, ← hq]; grind
  have h10 : ab (X * (c + q * d) - X * den) ≤ M * c / 2 ^ 49 := by
    rw [show X * (c + q * d) - X * den = X * -(den - (c + q * d)) by grind, ab_mul, ab_neg]
    have := Rat.mul_le_mul_of_nonneg_left h6 n2
    grind
  constructor
  · grind
  · have t := ab_add (ne - (a + b * q)) (X * (c + q * d) - X * den)
    rw [hid] at t h9
    rw [show ne - X * (c + q * d) + (X * (c + q * d) - X * den) = ne - X * den by grind] at t
    have : 0 ≤ M * c := Rat.mul_nonneg (by grind) (Rat.le_of_lt hc)
    grind
/-- One part of the quotient, the first case: the exact part is X; a = X c - Y d, b = X d + Y c, |d| <= |c|. -/
theorem quot_core {c d a b X Y M r rd den br ne q κ : Rat} (hκ : 0 ≤ κ) (hc : 0 < ab c) (hcd : ab d ≤ ab c) (hX : ab X ≤ M) (hY : ab Y ≤ M) (ha : a = X * c - Y * d) (hb : b = X * d + Y * c)
    (hq : q * c = d) (e1 : ab (r - q) ≤ 1 / 2 ^ 51) (e2 : ab (rd - r * d) ≤ ab c / 2 ^ 51) (e3 : ab (den - (c + rd)) ≤ ab c / 2 ^ 50) (e4 : ab (br - b * r) ≤ ab b / 2 ^ 51 + κ)
    (e5 : ab (ne - (a + br)) ≤ (ab a + ab b) / 2 ^ 50 + κ) :
    ab c / 2 ≤ ab den ∧ ab (ne - X * den) ≤ M * ab c / 2 ^ 46 + 2 * κ := by
  rcases rat_lt_or_le c 0 with h | h
  · have hc' : ab c = -c := by rw [← ab_neg]; exact ab_of_nonneg (by grind)
    rw [hc'] at hc hcd e2 e3 ⊢
    obtain ⟨g1, g2⟩ := quot_pos (c := -c) (d := -d) (a := -a) (b := -b) (X := X) (Y := Y) (M := M) (r := r) (rd := -rd) (den := -den) (br := -br) (ne := -ne) (q := q) hκ hc (by rw [ab_neg]; exact hcd) hX hY (by rw [ha]; grind) (by rw [hb]; grind)
      (by grind) e1 (by rw [show -rd - r * -d = -(rd - r * d) by grind, ab_neg]; exact e2) (by rw [show -den - (-c + -rd) = -(den - (c + rd)) by grind, ab_neg]; exact e3)
      (by rw [show -br - -b * r = -(br - b * r) by grind, ab_neg, ab_neg]; exact e4) (by rw [show -ne - (-a + -br) = -(ne - (a + br)) by grind, ab_neg, ab_neg, ab_neg]; exact e5)
    have l := le_ab den
    rw [show -ne - X * -den = -(ne - X * den) by grind, ab_neg] at g2
    exact ⟨by grind, g2⟩
  · rw [ab_of_nonneg h] at hc hcd e2 e3 ⊢
    obtain ⟨g1, g2⟩ := quot_pos hκ hc hcd hX hY ha hb hq e1 e2 e3 e4 e5
    have l := le_ab den
    exact ⟨by grind, g2⟩

theorem eta_tiny {C : Rat} (h : pw (-300) ≤ C) : eta .f64 ≤ C / 2 ^ 100 ∧ eta .f64 ≤ C * (1 / 2 ^ 110) ∧ 0 ≤ eta .f64 := by
  have h1 : eta .f64 ≤ pw (-300 + -200) := pw_mono (by decide)
  rw [pw_add] at h1
  have h2 : pw (-200) = 1 / 2 ^ 200 := by unfold pw; grind
  have h3 := pw_pos (-300)
  rw [h2] at h1
  refine ⟨by grind, by grind, eta_nonneg _⟩
/-- The ratio of the lesser part to the greater one, and the divisor made of it. -/
theorem ratio_ok {c d : Nat} (fc : fin .f64 c) (fd : fin .f64 d) (hcd : ab (fv .f64 d) ≤ ab (fv .f64 c)) (lo : pw (-300) ≤ ab (fv .f64 c)) (hi : ab (fv .f64 c) ≤ 2 ^ 60) :
    ∃ q : Rat, q * fv .f64 c = fv .f64 d ∧ fin .f64 (fo .quo .f64 d c) ∧ ab (fv .f64 (fo .quo .f64 d c) - q) ≤ 1 / 2 ^ 51 ∧ ab (fv .f64 (fo .quo .f64 d c)) ≤ 2 ∧
      fin .f64 (fo .mul .f64 (fo .quo .f64 d c) d) ∧ ab (fv .f64 (fo .mul .f64 (fo .quo .f64 d c) d) - fv .f64 (fo .quo .f64 d c) * fv .f64 d) ≤ ab (fv .f64 c) / 2 ^ 51 ∧
      fin .f64 (fo .add .f64 c (fo .mul .f64 (fo .quo .f64 d c) d)) ∧ ab (fv .f64 (fo .add .f64 c (fo .mul .f64 (fo .quo .f64 d c) d)) - (fv .f64 c + fv .f64 (fo .mul .f64 (fo .quo .f64 d c) d))) ≤ ab (fv .f64 c) / 2 ^ 50 := by
  obtain ⟨k1, k2, k3⟩ := consts64
  obtain ⟨t1, t2, t3⟩ := eta_tiny lo
  have ht := top210
  have hp := pw_pos (-300)
  have nc := ab_nonneg (fv .f64 c)
  have nd := ab_nonneg (fv .f64 d)
  have hc0 : fv .f64 c ≠ 0 := by
    intro h; rw [h, ab_of_nonneg Rat.le_refl] at lo; grind
  have hq : fv .f64 d / fv .f64 c * fv .f64 c = fv .f64 d := Rat.div_mul_cancel hc0
  obtain ⟨q, hqd⟩ : ∃ q, fv .f64 d / fv .f64 c = q := ⟨_, rfl⟩
  rw [hqd] at hq
  have h1 := ab_mul q (fv .f64 c)
  rw [hq] at h1
  have hq1 : ab q ≤ 1 := by
    rcases rat_lt_or_le 1 (ab q) with h | h
    · exfalso
      have := Rat.mul_lt_mul_of_pos_right h (show 0 < ab (fv .f64 c) by grind)
      grind
    · exact h
  have nq := ab_nonneg q
  have hd := div_spec fd fc hc0 (by rw [hqd]; grind)
  rw [hqd] at hd
  have e1 := hd.2.1
  rw [k1] at e1
  have g1 : ab (fv .f64 (fo .quo .f64 d c) - q) ≤ 1 / 2 ^ 51 := by grind
  have g2 : ab (fv .f64 (fo .quo .f64 d c)) ≤ 2 := by
    have := ab_tri (fv .f64 (fo .quo .f64 d c)) q
    grind
  have f1 := hd.1
  generalize fo .quo .f64 d c = r at *
  have nr := ab_nonneg (fv .f64 r)
  have m1 : ab (fv .f64 r * fv .f64 d) ≤ 2 * ab (fv .f64 c) := by
    rw [ab_mul]
    have a1 := Rat.mul_le_mul_of_nonneg_right g2 nd
    grind
  have hm := mul_spec f1 fd (by grind)
  have e2 := hm.2.1
  rw [k1] at e2
  have f2 := hm.1
  have g3 : ab (fv .f64 (fo .mul .f64 r d) - fv .f64 r * fv .f64 d) ≤ ab (fv .f64 c) / 2 ^ 51 := by grind
  generalize fo .mul .f64 r d = rd at *
  have m2 : ab (fv .f64 rd) ≤ 3 * ab (fv .f64 c) := by
    have := ab_tri (fv .f64 rd) (fv .f64 r * fv .f64 d)
    grind
  have m3 := ab_add (fv .f64 c) (fv .f64 rd)
  have ha := add_spec fc f2 (by grind)
  have e3 := ha.2.1
  rw [k1] at e3
  exact ⟨q, hq, f1, g1, g2, f2, g3, ha.1, by grind⟩
/-- A numerator: a sum, a difference. -/
theorem num_ok {x y r : Nat} (fx : fin .f64 x) (fy : fin .f64 y) (fr : fin .f64 r) (hr : ab (fv .f64 r) ≤ 2) (hx : ab (fv .f64 x) ≤ 2 ^ 100) (hy : ab (fv .f64 y) ≤ 2 ^ 100) :
    fin .f64 (fo .mul .f64 y r) ∧ ab (fv .f64 (fo .mul .f64 y r) - fv .f64 y * fv .f64 r) ≤ ab (fv .f64 y) / 2 ^ 51 + 2 * eta .f64 ∧
    (fin .f64 (fo .add .f64 x (fo .mul .f64 y r)) ∧ ab (fv .f64 (fo .add .f64 x (fo .mul .f64 y r)) - (fv .f64 x + fv .f64 (fo .mul .f64 y r))) ≤ (ab (fv .f64 x) + ab (fv .f64 y)) / 2 ^ 50 + 2 * eta .f64) ∧
    (fin .f64 (fo .add .f64 (fo .mul .f64 y r) x) ∧ ab (fv .f64 (fo .add .f64 (fo .mul .f64 y r) x) - (fv .f64 x + fv .f64 (fo .mul .f64 y r))) ≤ (ab (fv .f64 x) + ab (fv .f64 y)) / 2 ^ 50 + 2 * eta .f64) ∧
    (fin .f64 (fo .sub .f64 x (fo .mul .f64 y r)) ∧ ab (fv .f64 (fo .sub .f64 x (fo .mul .f64 y r)) - (fv .f64 x + -fv .f64 (fo .mul .f64 y r))) ≤ (ab (fv .f64 x) + ab (fv .f64 y)) / 2 ^ 50 + 2 * eta .f64) ∧
    (fin .f64 (fo .sub .f64 (fo .mul .f64 y r) x) ∧ ab (fv .f64 (fo .sub .f64 (fo .mul .f64 y r) x) - (-fv .f64 x + fv .f64 (fo .mul .f64 y r))) ≤ (ab (fv .f64 x) + ab (fv .f64 y)) / 2 ^ 50 + 2 * eta .f64) := by
  obtain ⟨k1, k2, k3⟩ := consts64
  have t3 := eta_nonneg .f64
  have ht := top210
  have nx := ab_nonneg (fv .f64 x)
  have ny := ab_nonneg (fv .f64 y)
  have nr := ab_nonneg (fv .f64 r)
  have m1 : ab (fv .f64 y * fv .f64 r) ≤ 2 * ab (fv .f64 y) := by
    rw [ab_mul]
    have a1 := Rat.mul_le_mul_of_nonneg_left hr ny
    grind
  have hm := mul_spec fy fr (by grind)
  have e2 := hm.2.1
  rw [k1] at e2
  have f2 := hm.1
  have g3 : ab (fv .f64 (fo .mul .f64 y r) - fv .f64 y * fv .f64 r) ≤ ab (fv .f64 y) / 2 ^ 51 + 2 * eta .f64 := by grind
  have m2 : ab (fv .f64 (fo .mul .f64 y r)) ≤ 3 * ab (fv .f64 y) + 2 * eta .f64 := by
    have := ab_tri (fv .f64 (fo .mul .f64 y r)) (fv .f64 y * fv .f64 r)
    grind
  generalize fo .mul .f64 y r = z at *
  have c1 := ab_add (fv .f64 x) (fv .f64 z)
  have c2 := ab_add (fv .f64 x) (-fv .f64 z)
  rw [ab_neg] at c2
  have c3 : ab (fv .f64 z - fv .f64 x) = ab (fv .f64 x + -fv .f64 z) := by rw [← ab_neg, show -(fv .f64 z - fv .f64 x) = fv .f64 x + -fv .f64 z by grind]
  have q1 := add_spec fx f2 (by grind)
  have q2 := add_spec f2 fx (by rw [show fv .f64 z + fv .f64 x = fv .f64 x + fv .f64 z by grind]; grind)
  have q3 := sub_spec fx f2 (by rw [show fv .f64 x - fv .f64 z = fv .f64 x + -fv .f64 z by grind]; grind)
  have q4 := sub_spec f2 fx (by rw [c3]; grind)
  have d1 := q1.2.1
  have d2 := q2.2.1
  have d3 := q3.2.1
  have d4 := q4.2.1
  rw [k1] at d1 d2 d3 d4
  rw [show fv .f64 z + fv .f64 x = fv .f64 x + fv .f64 z by grind] at d2
  rw [show fv .f64 x - fv .f64 z = fv .f64 x + -fv .f64 z by grind] at d3
  rw [c3] at d4
  rw [show fv .f64 z - fv .f64 x = -fv .f64 x + fv .f64 z by grind] at d4
  exact ⟨f2, g3, ⟨q1.1, by grind⟩, ⟨q2.1, by grind⟩, ⟨q3.1, by grind⟩, ⟨q4.1, by grind⟩⟩
/-- One part of the quotient. -/
theorem quo_part {c d ne : Nat} {a b X Y M br : Rat} (fc : fin .f64 c) (fd : fin .f64 d) (hcd : ab (fv .f64 d) ≤ ab (fv .f64 c)) (lo : pw (-300) ≤ ab (fv .f64 c)) (hi : ab (fv .f64 c) ≤ 2 ^ 60)
    (hX : ab X ≤ M) (hY : ab Y ≤ M) (hM : M ≤ 2 ^ 30) (ha : a = X * fv .f64 c - Y * fv .f64 d) (hb : b = X * fv .f64 d + Y * fv .f64 c) (fn : fin .f64 ne)
    (e4 : ab (br - b * fv .f64 (fo .quo .f64 d c)) ≤ ab b / 2 ^ 51 + 2 * eta .f64) (e5 : ab (fv .f64 ne - (a + br)) ≤ (ab a + ab b) / 2 ^ 50 + 2 * eta .f64) :
    fin .f64 (fo .quo .f64 ne (fo .add .f64 c (fo .mul .f64 (fo .quo .f64 d c) d))) ∧ ab (fv .f64 (fo .quo .f64 ne (fo .add .f64 c (fo .mul .f64 (fo .quo .f64 d c) d))) - X) ≤ M / 2 ^ 44 + 1 / 2 ^ 90 := by
  obtain ⟨k1, k2, k3⟩ := consts64
  obtain ⟨t1, t2, t3⟩ := eta_tiny lo
  have ht := top210
  have hp := pw_pos (-300)
  obtain ⟨q, hq, f1, g1, g2, f2, g3, f3, g4⟩ := ratio_ok fc fd hcd lo hi
  have hc0 : 0 < ab (fv .f64 c) := by grind
  obtain ⟨h1, h2⟩ := quot_core (κ := 2 * eta .f64) (by grind) hc0 hcd hX hY ha hb hq g1 g3 g4 e4 e5
  generalize fo .add .f64 c (fo .mul .f64 (fo .quo .f64 d c) d) = den at *
  have hdn : 0 < ab (fv .f64 den) := by grind
  have hd0 : fv .f64 den ≠ 0 := by
    intro h; rw [h, ab_of_nonneg Rat.le_refl] at hdn; grind
  obtain ⟨v, hv⟩ : ∃ v, fv .f64 ne / fv .f64 den = v := ⟨_, rfl⟩
  have hvd : v * fv .f64 den = fv .f64 ne := by rw [← hv]; exact Rat.div_mul_cancel hd0
  have nX := ab_nonneg X
  have hvX : ab (v - X) ≤ M / 2 ^ 45 + 1 / 2 ^ 95 := by
    have e : (v - X) * fv .f64 den = fv .f64 ne - X * fv .f64 den := by rw [← hvd]; grind
    have h3 := ab_mul (v - X) (fv .f64 den)
    rw [e] at h3
    rcases rat_lt_or_le (M / 2 ^ 45 + 1 / 2 ^ 95) (ab (v - X)) with h | h
    · exfalso
      have h4 := Rat.mul_lt_mul_of_pos_right h hdn
      have h5 := Rat.mul_le_mul_of_nonneg_left h1 (show 0 ≤ M / 2 ^ 45 + 1 / 2 ^ 95 by grind)
      have h6 : (M / 2 ^ 45 + 1 / 2 ^ 95) * (ab (fv .f64 c) / 2) = M * ab (fv .f64 c) / 2 ^ 46 + ab (fv .f64 c) / 2 ^ 96 := by grind
      grind
    · exact h
  have hvb : ab v ≤ 2 * M + 1 / 2 ^ 95 := by
    have := ab_tri v X
    grind
  have hd := div_spec fn f3 hd0 (by rw [hv]; grind)
  rw [hv] at hd
  have e6 := hd.2.1
  rw [k1] at e6
  have hM0 : 0 ≤ M := by grind
  clear e4 e5 g1 g2 g3 g4 hcd hq ha hb hvd hd0 hX hY
  refine ⟨hd.1, ?_⟩
  have t := ab_add (fv .f64 (fo .quo .f64 ne den) - v) (v - X)
  rw [show fv .f64 (fo .quo .f64 ne den) - v + (v - X) = fv .f64 (fo .quo .f64 ne den) - X by grind] at t
  grind
/-- **THE QUOTIENT**, both parts. -/
theorem quot_err {a b c d : Nat} {X Y M : Rat} (fa : fin .f64 a) (fb : fin .f64 b) (fc : fin .f64 c) (fd : fin .f64 d) (lo : pw (-300) ≤ ab (fv .f64 c) ∨ pw (-300) ≤ ab (fv .f64 d)) (hc : ab (fv .f64 c) ≤ 2 ^ 60) (hd : ab (fv .f64 d) ≤ 2 ^ 60)
    (hX : ab X ≤ M) (hY : ab Y ≤ M) (hM : M ≤ 2 ^ 30) (ha : fv .f64 a = X * fv .f64 c - Y * fv .f64 d) (hb : fv .f64 b = X * fv .f64 d + Y * fv .f64 c) (ha2 : ab (fv .f64 a) ≤ 2 ^ 100) (hb2 : ab (fv .f64 b) ≤ 2 ^ 100) :
    (fin .f64 (quoRe a b c d) ∧ ab (fv .f64 (quoRe a b c d) - X) ≤ M / 2 ^ 44 + 1 / 2 ^ 90) ∧ (fin .f64 (quoIm a b c d) ∧ ab (fv .f64 (quoIm a b c d) - Y) ≤ M / 2 ^ 44 + 1 / 2 ^ 90) := by
  obtain ⟨c1, c2⟩ := abs64_fin fc
  obtain ⟨d1, d2⟩ := abs64_fin fd
  have nY : ab (-Y) ≤ M := by rw [ab_neg]; exact hY
  have nX : ab (-X) ≤ M := by rw [ab_neg]; exact hX
  unfold quoRe quoIm
  by_cases h : fge .f64 (abs64 c) (abs64 d) = true
  · rw [if_pos h, if_pos h]
    have hcd := (fge_iff c1 d1).1 h
    rw [c2, d2] at hcd
    have lo' : pw (-300) ≤ ab (fv .f64 c) := by rcases lo with h | h <;> grind
    obtain ⟨q, hq, f1, g1, g2, f2, g3, f3, g4⟩ := ratio_ok fc fd hcd lo' hc
    obtain ⟨n1, n2, n3, _, _, _⟩ := num_ok fa fb f1 g2 ha2 hb2
    obtain ⟨m1, m2, _, _, m3, _⟩ := num_ok fb fa f1 g2 hb2 ha2
    refine ⟨quo_part fc fd hcd lo' hc hX hY hM ha hb n3.1 n2 n3.2, ?_⟩
    refine quo_part (a := fv .f64 b) (b := -fv .f64 a) (br := -fv .f64 (fo .mul .f64 a (fo .quo .f64 d c))) fc fd hcd lo' hc hY nX hM (by rw [hb]; grind) (by rw [ha]; grind) m3.1 ?_ ?_
    · rw [show -fv .f64 (fo .mul .f64 a (fo .quo .f64 d c)) - -fv .f64 a * fv .f64 (fo .quo .f64 d c) = -(fv .f64 (fo .mul .f64 a (fo .quo .f64 d c)) - fv .f64 a * fv .f64 (fo .quo .f64 d c)) by grind, ab_neg, ab_neg]; exact m2
    · rw [ab_neg]; exact m3.2
  · rw [if_neg h, if_neg h]
    have hcd : ab (fv .f64 c) ≤ ab (fv .f64 d) := by
      rcases rat_lt_or_le (ab (fv .f64 d)) (ab (fv .f64 c)) with h2 | h2
      · exact absurd ((fge_iff c1 d1).2 (by rw [c2, d2]; grind)) h
      · exact h2
    have lo' : pw (-300) ≤ ab (fv .f64 d) := by rcases lo with h | h <;> grind
    obtain ⟨q, hq, f1, g1, g2, f2, g3, f3, g4⟩ := ratio_ok fd fc hcd lo' hd
    obtain ⟨n1, n2, _, n3, _, _⟩ := num_ok fb fa f1 g2 hb2 ha2
    obtain ⟨m1, m2, _, _, _, m3⟩ := num_ok fa fb f1 g2 ha2 hb2
    refine ⟨?_, ?_⟩
    · exact quo_part (a := fv .f64 b) (b := fv .f64 a) (br := fv .f64 (fo .mul .f64 a (fo .quo .f64 c d))) fd fc hcd lo' hd hX nY hM (by rw [hb]; grind) (by rw [ha]; grind) n3.1 n2 n3.2
    · refine quo_part (a := -fv .f64 a) (b := fv .f64 b) (br := fv .f64 (fo .mul .f64 b (fo .quo .f64 c d))) fd fc hcd lo' hd hY hX hM (by rw [ha]; grind) (by rw [hb]; grind) m3.1 m2 ?_
      rw [ab_neg]; exact m3.2
end Go.Proofs.YtndnfhhdflmfcaaGreat

/-
Exact arithmetic: numbers that are whole multiples of a power of two; complex whole numbers. (Plain arithmetic.)
-/
namespace Go.Proofs.YtndnfhhdflmfcaaGreat
open Go Ieee

/-- The word's value is n / 2^e, |n| at most B. -/
structure Ex (x : Nat) (n : Int) (e B : Nat) : Prop where
  f : fin .f64 x
  v : fv .f64 x = (n : Rat) * pw (-(e : Int))
  b : n.natAbs ≤ B
theorem ex_top {n : Int} {e : Nat} (h : n.natAbs < 2 ^ 53) : ab ((n : Rat) * pw (-(e : Int))) ≤ top .f64 ∧ ab ((n : Rat) * pw (-(e : Int))) ≤ 2 ^ 53 := by
  have hp : pw (-(e : Int)) ≤ 1 := by rw [← pw_zero]; exact pw_mono (by omega)
  have h0 := Rat.le_of_lt (pw_pos (-(e : Int)))
  have hn : ab (n : Rat) ≤ 2 ^ 53 := by
    have e1 : ((2 ^ 53 : Int) : Rat) = 2 ^ 53 := by simp; grind
    have h1 : (n : Rat) ≤ ((2 ^ 53 : Int) : Rat) := Rat.intCast_le_intCast.2 (by omega)
    have h2 : ((-n : Int) : Rat) ≤ ((2 ^ 53 : Int) : Rat) := Rat.intCast_le_intCast.2 (by omega)
    rw [e1] at h1 h2
    rw [Rat.intCast_neg] at h2
    exact ab_le h1 h2
  have ht := top210
  have hx : ab ((n : Rat) * pw (-(e : Int))) ≤ 2 ^ 53 := by
    rw [ab_mul, ab_of_nonneg h0]
    have := Rat.mul_le_mul_of_nonneg_left hp (ab_nonneg (n : Rat))
    grind
  exact ⟨by grind, hx⟩
theorem ex_few {n : Int} {e : Nat} (h : n.natAbs < 2 ^ 53) (he : e ≤ 1000) : Few .f64 ((n : Rat) * pw (-(e : Int))) := by
  refine ⟨n, -(e : Int), rfl, ?_, ?_⟩
  · have : FloatKind.f64.format.binade = 4503599627370496 := by decide +kernel
    rw [this]; omega
  · have : FloatKind.f64.format.leastPlace = -1074 := by decide +kernel
    rw [this]; omega
theorem Ex.of {x : Nat} {v : Rat} {n : Int} {e B : Nat} (h : RoundOf .f64 v x) (hv : v = (n : Rat) * pw (-(e : Int))) (hb : n.natAbs ≤ B) (hB : B < 2 ^ 53) (he : e ≤ 1000) : Ex x n e B := by
  subst hv
  exact ⟨h.1, h.few (ex_few (by omega) he) (ex_top (by omega)).1, hb⟩
theorem Ex.mul {x y : Nat} {n m : Int} {e f B C : Nat} (hx : Ex x n e B) (hy : Ex y m f C) (hB : B * C < 2 ^ 53) (he : e + f ≤ 1000) : Ex (fo .mul .f64 x y) (n * m) (e + f) (B * C) := by
  have hb : (n * m).natAbs ≤ B * C := by rw [Int.natAbs_mul]; exact Nat.mul_le_mul hx.b hy.b
  have e1 : fv .f64 x * fv .f64 y = ((n * m : Int) : Rat) * pw (-((e + f : Nat) : Int)) := by
    rw [hx.v, hy.v, show -((e + f : Nat) : Int) = -(e : Int) + -(f : Int) by omega, pw_add, Rat.intCast_mul]; grind
  exact Ex.of (mul_spec hx.f hy.f (by rw [e1]; exact (ex_top (by omega)).1)) e1 hb hB he
theorem Ex.add {x y : Nat} {n m : Int} {e B C : Nat} (hx : Ex x n e B) (hy : Ex y m e C) (hB : B + C < 2 ^ 53) (he : e ≤ 1000) : Ex (fo .add .f64 x y) (n + m) e (B + C) := by
  have hb : (n + m).natAbs ≤ B + C := by have := hx.b; have := hy.b; omega
  have e1 : fv .f64 x + fv .f64 y = ((n + m : Int) : Rat) * pw (-(e : Int)) := by rw [hx.v, hy.v, Rat.intCast_add]; grind
  exact Ex.of (add_spec hx.f hy.f (by rw [e1]; exact (ex_top (by omega)).1)) e1 hb hB he
theorem Ex.sub {x y : Nat} {n m : Int} {e B C : Nat} (hx : Ex x n e B) (hy : Ex y m e C) (hB : B + C < 2 ^ 53) (he : e ≤ 1000) : Ex (fo .sub .f64 x y) (n - m) e (B + C) := by
  have hb : (n - m).natAbs ≤ B + C := by have := hx.b; have := hy.b; omega
  have e1 : fv .f64 x - fv .f64 y = ((n - m : Int) : Rat) * pw (-(e : Int)) := by rw [hx.v, hy.v, Rat.intCast_sub]; grind
  exact Ex.of (sub_spec hx.f hy.f (by rw [e1]; exact (ex_top (by omega)).1)) e1 hb hB he
theorem Ex.wid {x : Nat} {n : Int} {e B C : Nat} (hx : Ex x n e B) (h : B ≤ C) : Ex x n e C := ⟨hx.f, hx.v, Nat.le_trans hx.b h⟩

/-- Two words, a complex number. -/
structure CEx (x y : Nat) (n m : Int) (e B : Nat) : Prop where
  re : Ex x n e B
  im : Ex y m e B
theorem CEx.mul {x y u v : Nat} {n m k l : Int} {e f B C : Nat} (h : CEx x y n m e B) (g : CEx u v k l f C) (hB : 2 * (B * C) < 2 ^ 53) (he : e + f ≤ 1000) :
    CEx (mulRe x y u v) (mulIm x y u v) (n * k - m * l) (n * l + m * k) (e + f) (2 * (B * C)) := by
  unfold mulRe mulIm
  have h1 := h.re.mul g.re (by omega) he
  have h2 := h.im.mul g.im (by omega) he
  have h3 := h.re.mul g.im (by omega) he
  have h4 := h.im.mul g.re (by omega) he
  exact ⟨(h1.sub h2 (by omega) he).wid (by omega), (h3.add h4 (by omega) he).wid (by omega)⟩
theorem CEx.add {x y u v : Nat} {n m k l : Int} {e B C : Nat} (h : CEx x y n m e B) (g : CEx u v k l e C) (hB : B + C < 2 ^ 53) (he : e ≤ 1000) :
    CEx (fo .add .f64 x u) (fo .add .f64 y v) (n + k) (m + l) e (B + C) := ⟨h.re.add g.re hB he, h.im.add g.im hB he⟩
theorem CEx.sub {x y u v : Nat} {n m k l : Int} {e B C : Nat} (h : CEx x y n m e B) (g : CEx u v k l e C) (hB : B + C < 2 ^ 53) (he : e ≤ 1000) :
    CEx (fo .sub .f64 x u) (fo .sub .f64 y v) (n - k) (m - l) e (B + C) := ⟨h.re.sub g.re hB he, h.im.sub g.im hB he⟩

/-! Complex whole numbers. -/
/-- The recurrence, part by part, gives the quotients. -/
theorem pair_sum (s1 s2 t1 t2 x0 y0 x1 y1 x2 y2 x3 y3 : Int) (h2 : x2 = (s1 * x1 - s2 * y1) - (t1 * x0 - t2 * y0)) (g2 : y2 = (s1 * y1 + s2 * x1) - (t1 * y0 + t2 * x0))
    (h3 : x3 = (s1 * x2 - s2 * y2) - (t1 * x1 - t2 * y1)) (g3 : y3 = (s1 * y2 + s2 * x2) - (t1 * y1 + t2 * x1)) (d1 d2 : Int) (hd1 : d1 = (x1 * x1 - y1 * y1) - (x0 * x2 - y0 * y2)) (hd2 : d2 = (x1 * y1 + y1 * x1) - (x0 * y2 + y0 * x2)) :
    (x1 * x2 - y1 * y2) - (x0 * x3 - y0 * y3) = s1 * d1 - s2 * d2 ∧ (x1 * y2 + y1 * x2) - (x0 * y3 + y0 * x3) = s1 * d2 + s2 * d1 ∧
    (x2 * x2 - y2 * y2) - (x1 * x3 - y1 * y3) = t1 * d1 - t2 * d2 ∧ (x2 * y2 + y2 * x2) - (x1 * y3 + y1 * x3) = t1 * d2 + t2 * d1 := by
  subst h2 g2
  subst h3 g3
  subst hd1 hd2
  refine ⟨by grind, by grind, by grind, by grind⟩
theorem norm_mul (a b c d : Int) : (a * c - b * d) * (a * c - b * d) + (a * d + b * c) * (a * d + b * c) = (a * a + b * b) * (c * c + d * d) := by grind
theorem int_sq (a : Int) : 0 ≤ a * a := by
  rcases Int.le_total 0 a with h | h
  · exact Int.mul_nonneg h h
  · have := Int.mul_nonneg (show 0 ≤ -a by omega) (show 0 ≤ -a by omega)
    rwa [Int.neg_mul_neg] at this
theorem norm_pos {a b : Int} (h : ¬(a = 0 ∧ b = 0)) : 0 < a * a + b * b := by
  by_cases ha : a = 0
  · have hb : b ≠ 0 := fun hb => h ⟨ha, hb⟩
    subst ha
    have := int_sq b
    have h2 : b * b ≠ 0 := Int.mul_ne_zero hb hb
    omega
  · have h1 := int_sq a
    have h2 := int_sq b
    have h3 : a * a ≠ 0 := Int.mul_ne_zero ha ha
    omega
/-- The determinant of the two modes, not 0. -/
theorem pair_det (a1 a2 b1 b2 p1 p2 q1 q2 : Int) (ha : ¬(a1 = 0 ∧ a2 = 0)) (hb : ¬(b1 = 0 ∧ b2 = 0)) (hpq : ¬(p1 = q1 ∧ p2 = q2)) (u1 u2 v1 v2 x1 y1 x2 y2 : Int)
    (hu1 : u1 = a1 * p1 - a2 * p2) (hu2 : u2 = a1 * p2 + a2 * p1) (hv1 : v1 = b1 * q1 - b2 * q2) (hv2 : v2 = b1 * q2 + b2 * q1)
    (hx1 : x1 = u1 + v1) (hy1 : y1 = u2 + v2) (hx2 : x2 = (u1 * p1 - u2 * p2) + (v1 * q1 - v2 * q2)) (hy2 : y2 = (u1 * p2 + u2 * p1) + (v1 * q2 + v2 * q1)) :
    ¬((x1 * x1 - y1 * y1) - ((a1 + b1) * x2 - (a2 + b2) * y2) = 0 ∧ (x1 * y1 + y1 * x1) - ((a1 + b1) * y2 + (a2 + b2) * x2) = 0) := by
  rintro ⟨h1, h2⟩
  have hr : ¬(p1 - q1 = 0 ∧ p2 - q2 = 0) := fun h => hpq ⟨by omega, by omega⟩
  have n1 := norm_pos ha
  have n2 := norm_pos hb
  have n3 := norm_pos hr
  -- the product of the starts, and of the differences
  have e1 : (a1 * b1 - a2 * b2) * ((p1 - q1) * (p1 - q1) - (p2 - q2) * (p2 - q2)) - (a1 * b2 + a2 * b1) * ((p1 - q1) * (p2 - q2) + (p2 - q2) * (p1 - q1)) = 0 := by
    subst hx1 hy1 hx2 hy2 hu1 hu2 hv1 hv2
    grind
  have e2 : (a1 * b1 - a2 * b2) * ((p1 - q1) * (p2 - q2) + (p2 - q2) * (p1 - q1)) + (a1 * b2 + a2 * b1) * ((p1 - q1) * (p1 - q1) - (p2 - q2) * (p2 - q2)) = 0 := by
    subst hx1 hy1 hx2 hy2 hu1 hu2 hv1 hv2
    grind
  have m1 := norm_mul a1 a2 b1 b2
  have m2 := norm_mul (p1 - q1) (p2 - q2) (p1 - q1) (p2 - q2)
  have m3 := norm_mul (a1 * b1 - a2 * b2) (a1 * b2 + a2 * b1) ((p1 - q1) * (p1 - q1) - (p2 - q2) * (p2 - q2)) ((p1 - q1) * (p2 - q2) + (p2 - q2) * (p1 - q1))
  rw [e1, e2, m1, m2] at m3
  have k1 := Int.mul_pos n1 n2
  have k2 := Int.mul_pos n3 n3
  have k3 := Int.mul_pos k1 k2
  omega
end Go.Proofs.YtndnfhhdflmfcaaGreat

/-
The limiter on finite samples. (Plain arithmetic.)
-/
namespace Go.Proofs.YtndnfhhdflmfcaaGreat
open Go Ieee

theorem mul_le_self {E r : Rat} (hE : 0 ≤ E) (hr : r ≤ 1) : E * r ≤ E := by
  have := Rat.mul_le_mul_of_nonneg_left hr hE
  grind

theorem limE_spec {E x r : Nat} {X : Rat} (hE : fin .f32 E) (hE0 : 0 ≤ fv .f32 E) (hEX : fv .f32 E ≤ X) (hx : fin .f32 x) (hxX : ab (fv .f32 x) ≤ X) (hX : X ≤ 2 ^ 61)
    (hr : fin .f32 r) (hr0 : 0 ≤ fv .f32 r) (hr1 : fv .f32 r ≤ 1) :
    fin .f32 (limE E x r) ∧ ab (fv .f32 x) ≤ fv .f32 (limE E x r) ∧ fv .f32 (limE E x r) ≤ X ∧ (∀ C : Rat, ab (fv .f32 x) ≤ C → fv .f32 E ≤ C → fv .f32 (limE E x r) ≤ C) := by
  obtain ⟨cu, ce, ct⟩ := consts32
  obtain ⟨a1, a2⟩ := abs32_fin hx
  have hpos : 0 ≤ fv .f32 E * fv .f32 r := Rat.mul_nonneg hE0 hr0
  have hle := mul_le_self hE0 hr1
  obtain ⟨p1, p2, p3⟩ := mul_spec hE hr (by rw [ab_of_nonneg hpos, ct]; grind)
  have p4 := (p3 E hE).2 hle
  unfold limE
  rw [nrm_fin a1]
  cases t : fgt .f32 (x % 2147483648) (fo .mul .f32 E r)
  · rw [if_neg (by simp)]
    have hle2 : ab (fv .f32 x) ≤ fv .f32 (fo .mul .f32 E r) := by
      rcases rat_lt_or_le (fv .f32 (fo .mul .f32 E r)) (ab (fv .f32 x)) with h | h
      · have := (fgt_iff a1 p1).2 (by rw [a2]; exact h)
        rw [t] at this; cases this
      · exact h
    exact ⟨p1, hle2, by grind, fun C _ h2 => by grind⟩
  · rw [if_pos rfl, a2]
    exact ⟨a1, Rat.le_refl, hxX, fun C h1 _ => h1⟩

theorem limS_spec {E x c r : Nat} {X : Rat} (hE : fin .f32 E) (hE0 : 0 ≤ fv .f32 E) (hEX : fv .f32 E ≤ X) (hx : fin .f32 x) (hxX : ab (fv .f32 x) ≤ X) (hX : X ≤ 2 ^ 61)
    (hr : fin .f32 r) (hr0 : 0 ≤ fv .f32 r) (hr1 : fv .f32 r ≤ 1) (hc : fin .f32 c) (hc0 : 1 / 2 ^ 41 ≤ fv .f32 c) (hc1 : fv .f32 c ≤ 2 ^ 41) :
    fin .f32 (limS E x c r) ∧ ab (fv .f32 (limS E x c r)) ≤ fv .f32 c + fv .f32 c / 4194304 ∧ (ab (fv .f32 x) ≤ fv .f32 c → fv .f32 E ≤ fv .f32 c → limS E x c r = x) := by
  obtain ⟨cu, ce, ct⟩ := consts32
  obtain ⟨g1, g2, g3, g4⟩ := limE_spec hE hE0 hEX hx hxX hX hr hr0 hr1
  unfold limS
  cases t : fgt .f32 (limE E x r) c
  · rw [if_neg (by simp), nrm_fin hx]
    have hle : fv .f32 (limE E x r) ≤ fv .f32 c := by
      rcases rat_lt_or_le (fv .f32 c) (fv .f32 (limE E x r)) with h | h
      · have := (fgt_iff g1 hc).2 h
        rw [t] at this; cases this
      · exact h
    exact ⟨hx, by grind, fun _ _ => rfl⟩
  · rw [if_pos rfl]
    have hlt := (fgt_iff g1 hc).1 t
    obtain ⟨G, hG⟩ : ∃ G, fv .f32 (limE E x r) = G := ⟨_, rfl⟩
    obtain ⟨Cc, hCc⟩ : ∃ C, fv .f32 c = C := ⟨_, rfl⟩
    rw [hG] at g2 g3 hlt
    rw [hCc] at hlt hc0 hc1
    have hX0 : 0 ≤ X := Rat.le_trans (ab_nonneg _) hxX
    have hxc : ab (fv .f32 x * Cc) ≤ G * Cc := by
      rw [ab_mul, ab_of_nonneg (x := Cc) (by grind)]
      exact Rat.mul_le_mul_of_nonneg_right g2 (by grind)
    have hGC : G * Cc ≤ 2 ^ 102 := by
      have h1 := Rat.mul_le_mul_of_nonneg_right (Rat.le_trans g3 hX) (show 0 ≤ Cc by grind)
      have h2 := Rat.mul_le_mul_of_nonneg_left hc1 (show (0 : Rat) ≤ 2 ^ 61 by decide)
      grind
    have hm := mul_spec hx hc (by rw [hCc, ct]; grind)
    rw [hCc] at hm
    obtain ⟨m1, m2, _⟩ := hm
    have m3 := ab_tri (fv .f32 (fo .mul .f32 x c)) (fv .f32 x * Cc)
    obtain ⟨P, hP⟩ : ∃ P, fv .f32 (fo .mul .f32 x c) = P := ⟨_, rfl⟩
    rw [hP] at m2 m3
    rw [cu] at m2
    have hGpos : 0 < G := by grind
    -- |P| <= G Cc (1 + u) + eta
    have hPle : ab P ≤ G * Cc + G * Cc / 16777216 + 1 / 2 ^ 149 := by grind
    have hPG : ab (P / G) ≤ Cc + Cc / 16777216 + 1 / 2 ^ 100 := by
      rw [ab_div_pos P hGpos]
      rcases rat_lt_or_le (Cc + Cc / 16777216 + 1 / 2 ^ 100) (ab P / G) with h | h
      · exfalso
        have h2 := (Rat.lt_div_iff hGpos).1 h
        have h3 : 1 / 2 ^ 41 * (1 / 2 ^ 100) ≤ G * (1 / 2 ^ 100) := Rat.mul_le_mul_of_nonneg_right (by grind) (by grind)
        have h4 : (Cc + Cc / 16777216 + 1 / 2 ^ 100) * G = G * Cc + G * Cc / 16777216 + G * (1 / 2 ^ 100) := by grind
        have h5 : (1 : Rat) / 2 ^ 149 < 1 / 2 ^ 41 * (1 / 2 ^ 100) := by grind
        grind
      · exact h
    have hd := div_spec m1 g1 (by rw [hG]; grind) (by rw [hG, hP, ct]; grind)
    rw [hP, hG] at hd
    obtain ⟨d1, d2, _⟩ := hd
    have d3 := ab_tri (fv .f32 (fo .quo .f32 (fo .mul .f32 x c) (limE E x r))) (P / G)
    rw [cu] at d2
    refine ⟨d1, ?_, fun h1 h2 => ?_⟩
    · rw [hCc]; grind
    · exfalso
      have := g4 Cc (by rw [← hCc]; exact h1) (by rw [← hCc]; exact h2)
      rw [hG] at this; grind

/-- The envelope behind the first 'k' samples. -/
def envAt (xs : List Nat) (r : Nat) : Nat → Nat
  | 0 => 0
  | k + 1 => limE (envAt xs r k) (xs.getD k 0) r
end Go.Proofs.YtndnfhhdflmfcaaGreat

/-
impl.isLimit, impl.LimitSamples: on finite samples.
-/
namespace Go.Proofs.YtndnfhhdflmfcaaGreat
open Go Go.RowKit Ieee

theorem cR_wid_fin {c : Nat} (h : fin .f32 c) (w : World) : cR .f32 c .f64 w = wid c := nrm_fin_eq (nrm_wid c w) (wid_fin h).1

set_option maxHeartbeats 400000 in
theorem unit_any (b : Nat) (w : World) (h1 : fge .f32 b 0 = true) (h2 : fle .f32 b 1065353216 = true) : Calls Tryz.prog 76 #[.float .f32 b] w fun e w' => e = .returned (.bool true) ∧ w = w' := by
  go_enter Tryz.func76, Tryz.ntmps76
  go_wp2
  go_ret
  exact ⟨rfl, rfl⟩

set_option maxHeartbeats 400000 in
theorem isLimit_true (c r : Nat) (w : World) (hc : fin .f32 c) (hcw : wfk .f32 c) (hc0 : fgt .f32 c 0 = true) (hr : fin .f32 r) (hrw : wfk .f32 r) (h1 : fge .f32 r 0 = true) (h2 : fle .f32 r 1065353216 = true) (hs : signB (wid r) = false) :
    Calls Tryz.prog 43 #[.float .f32 c, .float .f32 r] w fun e w' => ∃ n, e = .returned (.bool true) ∧ w.drewN n = w' := by
  have Hc := Lib.hid (cR_wid_fin hc)
  have Hr := Lib.hid (cR_wid_fin hr)
  have Hcw := Lib.hid (fun w => cR_lt (s := .f32) (k := .f64) hcw w)
  have Hrw := Lib.hid (fun w => cR_lt (s := .f32) (k := .f64) hrw w)
  have Hf : finB (wid c) = true := (finB_iff _).2 (wid_fin hc).1
  go_enter Tryz.func43, Tryz.ntmps43
  go_wp2_with fail
  refine (finite_any _ _ (Hcw.out _)).mono ?_
  rintro e w' ⟨rfl, rfl⟩
  rw [Hc.out, Hf]
  go_wp2_with fail
  refine (unit_any r _ h1 h2).mono ?_
  rintro e w' ⟨rfl, rfl⟩
  go_wp2_with fail
  refine (signbit_any _ _ (Hrw.out _)).mono ?_
  rintro e w' ⟨rfl, rfl⟩
  rw [Hr.out, hs]
  go_wp2_with fail
  go_ret
  exact ⟨_, rfl, rfl⟩

/-- The samples limited. -/
def limited (xs : List Nat) (c r : Nat) (ys : List Nat) (k : Nat) : Prop :=
  ys.length = k ∧ ∀ i, i < k → nrm .f32 (ys.getD i 0) = limS (envAt xs r i) (xs.getD i 0) c r ∧ wfk .f32 (ys.getD i 0)

theorem limited_snoc {xs ys : List Nat} {c r k s : Nat} (h : limited xs c r ys k) (hs : nrm .f32 s = limS (envAt xs r k) (xs.getD k 0) c r) (hw : wfk .f32 s) : limited xs c r (ys ++ [s]) (k + 1) := by
  obtain ⟨hl, h⟩ := h
  refine ⟨by simp [hl], fun i hi => ?_⟩
  rcases Nat.lt_or_ge i k with h1 | h1
  · have e : (ys ++ [s]).getD i 0 = ys.getD i 0 := by
      simp only [List.getD]; rw [List.getElem?_append_left (by omega)]
    rw [e]; exact h i h1
  · obtain rfl : i = k := by omega
    have e : (ys ++ [s]).getD i 0 = s := by
      simp only [List.getD]; rw [List.getElem?_append_right (by omega), hl]; simp
    rw [e]; exact ⟨hs, hw⟩

end Go.Proofs.YtndnfhhdflmfcaaGreat

/-
A floating-point number as an integer: int(x), cut towards zero. (Plain arithmetic.)
-/
namespace Go.Proofs.YtndnfhhdflmfcaaGreat
open Go Go.RowKit Ieee

theorem cut_zero (s : Bool) (n d : Nat) : Toward.zero.cut s n d = n / 2 ^ d := by
  unfold Toward.cut
  simp only [Bool.toNat_false, Nat.add_zero, Nat.shiftLeft_eq, Nat.one_mul]
  rcases Nat.le_total d (n.log2 + 2) with h | h
  · rw [Nat.min_eq_left h]
  · rw [Nat.min_eq_right h]
    have h1 : n < 2 ^ (n.log2 + 1) := Nat.lt_log2_self
    have h2 : 2 ^ (n.log2 + 1) ≤ 2 ^ (n.log2 + 2) := Nat.pow_le_pow_right (by decide) (by omega)
    have h3 : 2 ^ (n.log2 + 2) ≤ 2 ^ d := Nat.pow_le_pow_right (by decide) h
    rw [Nat.div_eq_of_lt (by omega), Nat.div_eq_of_lt (by omega)]
theorem floor_val (m d : Nat) : ((m / 2 ^ d : Nat) : Rat) ≤ mval m (-(d : Int)) ∧ mval m (-(d : Int)) < ((m / 2 ^ d : Nat) : Rat) + 1 := by
  have e : ∀ q : Nat, mval (q * 2 ^ d) (-(d : Int)) = (q : Rat) := fun q => by
    rw [mval_scale', show -(d : Int) + d = 0 by omega]; unfold mval; rw [pw_zero]; simp
  have hp : 0 < 2 ^ d := Nat.two_pow_pos d
  have h := Nat.div_add_mod m (2 ^ d)
  have hr := Nat.mod_lt m hp
  constructor
  · rw [← e (m / 2 ^ d)]
    exact mval_le (Nat.div_mul_le_self m (2 ^ d))
  · have := e (m / 2 ^ d + 1)
    rw [show ((m / 2 ^ d : Nat) : Rat) + 1 = ((m / 2 ^ d + 1 : Nat) : Rat) by simp, ← this]
    refine mval_lt ?_
    rw [Nat.add_mul, Nat.mul_comm (m / 2 ^ d)]
    omega
theorem to_int {x : Nat} (hx : fin .f64 x) (h0 : 0 ≤ fv .f64 x) (h1 : fv .f64 x < 2 ^ 53) : ∃ n : Nat, floatToIntVal .f64 x .i64 = some (n : Int) ∧ (n : Rat) ≤ fv .f64 x ∧ fv .f64 x < (n : Rat) + 1 ∧ n < 2 ^ 53 := by
  obtain ⟨s, m, i, hr⟩ := hx
  have hv : fv .f64 x = if s = true then -mval m i else mval m i := by unfold fv; rw [hr, dval_num]
  have hd : FloatKind.f64.decode x = .number s m i := hr
  have hm0 := mval_nonneg m i
  have key : mval m i = mval (m * 2 ^ i.toNat) (-(((-i).toNat : Nat) : Int)) := by
    rw [mval_scale']; congr 1; omega
  obtain ⟨f1, f2⟩ := floor_val (m * 2 ^ i.toNat) (-i).toNat
  rw [← key] at f1 f2
  have hi : (FloatKind.f64.decode x).toInt .zero = some (signed s (m * 2 ^ i.toNat / 2 ^ (-i).toNat) 0) := by
    rw [hd]; unfold Datum.toInt Datum.integral
    simp only [cut_zero, Nat.shiftLeft_eq]
  have hs : signed s (m * 2 ^ i.toNat / 2 ^ (-i).toNat) 0 = ((m * 2 ^ i.toNat / 2 ^ (-i).toNat : Nat) : Int) ∧ fv .f64 x = mval m i := by
    cases s
    · refine ⟨?_, by rw [hv]; simp⟩
      simp [signed]
    · simp only [if_true] at hv
      have hz : mval m i = 0 := by rw [hv] at h0; grind
      have := mval_eq_zero hz
      subst this
      refine ⟨?_, by rw [hv, hz]; simp⟩
      simp [signed]
  generalize m * 2 ^ i.toNat / 2 ^ (-i).toNat = q at *
  rw [hs.2]
  have hq : q < 2 ^ 53 := by
    rw [hs.2] at h1
    have h2 : (q : Rat) < ((2 ^ 53 : Nat) : Rat) := by
      have : ((2 ^ 53 : Nat) : Rat) = 2 ^ 53 := by simp; grind
      rw [this]; grind
    exact Rat.natCast_lt_natCast.1 h2
  refine ⟨q, ?_, f1, f2, hq⟩
  unfold floatToIntVal
  rw [hi, hs.1]
  have e1 : IntKind.i64.min = -9223372036854775808 := by decide
  have e2 : IntKind.i64.max = 9223372036854775807 := by decide
  simp only [e1, e2]
  rw [if_pos (by omega)]
end Go.Proofs.YtndnfhhdflmfcaaGreat

/-
LimitSamples of both packages, on all samples; impl.isLimit.
-/
namespace Go.Proofs.YtndnfhhdflmfcaaGreat
open Go Go.RowKit Ieee

/-- May a limiter have this ceiling and this release? -/
def limOk (c r : Nat) : Bool := finB (wid c) && fgt .f32 c 0 && fge .f32 r 0 && fle .f32 r 1065353216 && !signB (wid r)
theorem finB_nrm {a b : Nat} (h : nrm .f64 a = nrm .f64 b) : finB a = finB b := by
  cases ha : finB a
  · cases hb : finB b
    · rfl
    · have fb := (finB_iff b).1 hb
      have : a = b := nrm_fin_eq (h.trans (nrm_fin fb)) fb
      rw [this, hb] at ha; cases ha
  · have fa := (finB_iff a).1 ha
    have : b = a := nrm_fin_eq (h.symm.trans (nrm_fin fa)) fa
    rw [this, ha]
theorem fin_range {r : Nat} (h1 : fge .f32 r 0 = true) (h2 : fle .f32 r 1065353216 = true) : fin .f32 r := by
  have ho : FloatKind.f32.format.read 1065353216 = .number false 8388608 (-23) := by decide +kernel
  cases hr : FloatKind.f32.format.read r with
  | number s m e => exact ⟨s, m, e, hr⟩
  | nan s t =>
    exfalso
    unfold fge at h1
    rw [order_nan_l (by unfold isN; rw [hr]; rfl)] at h1; cases h1
  | infinity s =>
    exfalso
    cases s
    · unfold fle Format.order at h2
      rw [hr, ho] at h2; cases h2
    · unfold fge at h1
      rw [order_zero_inf hr] at h1; cases h1
theorem fin_sub (b : Nat) : feq .f64 (fo .sub .f64 b b) 0 = finB b := by
  cases h : finB b
  · cases h2 : feq .f64 (fo .sub .f64 b b) 0
    · rfl
    · rw [(finB_iff b).2 (fin_of_sub h2)] at h; cases h
  · have hx := (finB_iff b).1 h
    obtain ⟨z1, z2⟩ := zero_fin .f64
    have e : fv .f64 b - fv .f64 b = 0 := by grind
    have hs := sub_spec hx hx (by rw [e, ab_of_nonneg Rat.le_refl]; exact Rat.le_of_lt (pw_pos _))
    rw [e] at hs
    exact (feq_iff hs.1 z1).2 (by rw [hs.exact z1 z2, z2])

set_option maxHeartbeats 400000 in
theorem unit_gen (b : Nat) (w : World) : Calls Tryz.prog 76 #[.float .f32 b] w fun e w' => e = .returned (.bool (fge .f32 b 0 && fle .f32 b 1065353216)) ∧ w = w' := by
  cases h : fge .f32 b 0
  · go_enter Tryz.func76, Tryz.ntmps76
    go_wp2
    go_ret
    exact ⟨rfl, rfl⟩
  · go_enter Tryz.func76, Tryz.ntmps76
    go_wp2
    go_ret
    exact ⟨rfl, rfl⟩

set_option maxHeartbeats 400000 in
theorem isLimit_any (c r : Nat) (w : World) (hcw : wfk .f32 c) (hrw : wfk .f32 r) :
    Calls Tryz.prog 43 #[.float .f32 c, .float .f32 r] w fun e w' => ∃ n, e = .returned (.bool (limOk c r)) ∧ w.drewN n = w' := by
  have Hcw := Lib.hid (fun w => cR_lt (s := .f32) (k := .f64) hcw w)
  have Hrw := Lib.hid (fun w => cR_lt (s := .f32) (k := .f64) hrw w)
  have Hf := Lib.hid (fun w => (finB_nrm (by rw [nrm_wid, nrm_cv (by decide)]) : finB (cR .f32 c .f64 w) = finB (wid c)))
  have HL : Hid (limOk c r = (finB (wid c) && fgt .f32 c 0 && fge .f32 r 0 && fle .f32 r 1065353216 && !signB (wid r))) := rfl
  cases h1 : finB (wid c)
  · rw [h1] at HL
    go_enter Tryz.func43, Tryz.ntmps43
    go_wp2_with fail
    refine (finite_any _ _ (Hcw.out _)).mono ?_
    rintro e w' ⟨rfl, rfl⟩
    rw [Hf.out, h1]
    go_wp2_with fail
    go_ret
    exact ⟨_, by rw [HL.out]; rfl, rfl⟩
  cases h2 : fgt .f32 c 0
  · rw [h1, h2] at HL
    go_enter Tryz.func43, Tryz.ntmps43
    go_wp2_with fail
    refine (finite_any _ _ (Hcw.out _)).mono ?_
    rintro e w' ⟨rfl, rfl⟩
    rw [Hf.out, h1]
    go_wp2_with fail
    go_ret
    exact ⟨_, by rw [HL.out]; rfl, rfl⟩
  cases h3 : (fge .f32 r 0 && fle .f32 r 1065353216)
  · have e3 : limOk c r = false := by rw [HL.out, h1, h2, Bool.true_and, Bool.true_and, h3]; rfl
    have E3 := Lib.hid e3
    clear HL e3
    go_enter Tryz.func43, Tryz.ntmps43
    go_wp2_with fail
    refine (finite_any _ _ (Hcw.out _)).mono ?_
    rintro e w' ⟨rfl, rfl⟩
    rw [Hf.out, h1]
    go_wp2_with fail
    refine (unit_gen r _).mono ?_
    rintro e w' ⟨rfl, rfl⟩
    rw [h3]
    go_wp2_with fail
    go_ret
    exact ⟨_, by rw [E3.out]; rfl, rfl⟩
  · have e3 : limOk c r = !signB (wid r) := by rw [HL.out, h1, h2, Bool.true_and, Bool.true_and, h3]; rfl
    have E3 := Lib.hid e3
    rw [Bool.and_eq_true] at h3
    have Hr := Lib.hid (cR_wid_fin (fin_range h3.1 h3.2))
    have H3 := Lib.hid h3
    clear HL e3 h3
    go_enter Tryz.func43, Tryz.ntmps43
    go_wp2_with fail
    refine (finite_any _ _ (Hcw.out _)).mono ?_
    rintro e w' ⟨rfl, rfl⟩
    rw [Hf.out, h1]
    go_wp2_with fail
    refine (unit_gen r _).mono ?_
    rintro e w' ⟨rfl, rfl⟩
    rw [H3.out.1, H3.out.2]
    go_wp2_with fail
    refine (signbit_any _ _ (Hrw.out _)).mono ?_
    rintro e w' ⟨rfl, rfl⟩
    rw [Hr.out]
    go_wp2_with fail
    go_ret
    exact ⟨_, by rw [E3.out]; rfl, rfl⟩

theorem limE_congr {E E' x r : Nat} (h : nrm .f32 E = nrm .f32 E') : limE E x r = limE E' x r := by
  unfold limE; rw [show fo .mul .f32 E r = fo .mul .f32 E' r from fo_congr h rfl]
theorem limS_congr {E E' x c r : Nat} (h : nrm .f32 E = nrm .f32 E') : limS E x c r = limS E' x c r := by
  unfold limS; rw [limE_congr h]
theorem env_next {xs : List Nat} {r k E x g : Nat} (hE : nrm .f32 E = nrm .f32 (envAt xs r k)) (hx : xs.getD k 0 = x) (hg : nrm .f32 g = limE E x r) : nrm .f32 g = nrm .f32 (envAt xs r (k + 1)) := by
  show _ = nrm .f32 (limE (envAt xs r k) (xs.getD k 0) r)
  rw [nrm_limE, hx, hg, limE_congr hE]

/-- What LimitSamples returns. -/
def LimitPost (c r : Nat) (xs : List Nat) (w : World) (e : Ending) (w' : World) : Prop :=
  ∃ (A' : Option Addr) (c' : Nat) (ys : List Nat), e = .returned (.tuple #[.slice A' ys.length c', .bool (limOk c r)]) ∧ w'.ownsRow w.heap.size 23 1 (.slice A' ys.length c') ys.length (f32s ys) ∧
    (if limOk c r = true then limited xs c r ys xs.length else ys = []) ∧ Below w.heap.size w w'

end Go.Proofs.YtndnfhhdflmfcaaGreat

/-
spec.MakeStart; a complex number divided by 4.
-/
namespace Go.Proofs.YtndnfhhdflmfcaaGreat
open Go Go.RowKit Ieee

theorem pow_val (b : Nat) (m : Nat) (e : Int) (v : Rat) (h : double.read b = .number false m e) (hv : (m : Rat) * pw e = v) : fin .f64 b ∧ fv .f64 b = v := by
  obtain ⟨h1, h2⟩ := fin_of_read (k := .f64) h
  refine ⟨h1, ?_⟩
  rw [h2, dval_num]
  simpa [mval] using hv
theorem w16 : fin .f64 4625196817309499392 ∧ fv .f64 4625196817309499392 = 16 := pow_val _ 4503599627370496 (-48) _ (by decide +kernel) (by unfold pw; grind)
theorem w4 : fin .f64 4616189618054758400 ∧ fv .f64 4616189618054758400 = 4 := pow_val _ 4503599627370496 (-50) _ (by decide +kernel) (by unfold pw; grind)
theorem Ex.quo {x W : Nat} {n : Int} {e B k : Nat} (hx : Ex x n e B) (hW : fin .f64 W) (hv : fv .f64 W = pw (k : Int)) (hB : B < 2 ^ 53) (he : e + k ≤ 1000) : Ex (fo .quo .f64 x W) n (e + k) B := by
  have hp := pw_pos (k : Int)
  have e1 : fv .f64 x / fv .f64 W = (n : Rat) * pw (-((e + k : Nat) : Int)) := by
    rw [hx.v, hv]
    have : pw (-(e : Int)) = pw (-((e + k : Nat) : Int)) * pw (k : Int) := by rw [← pw_add]; congr 1; omega
    rw [this, ← Rat.mul_assoc]
    exact Rat.mul_div_cancel (by grind)
  have hb := hx.b
  obtain ⟨t1, t2⟩ := ex_top (n := n) (e := e + k) (by omega)
  have ht := top210
  have hd := div_spec hx.f hW (by rw [hv]; grind) (by rw [e1]; grind)
  rw [e1] at hd
  exact ⟨hd.1, hd.few (ex_few (by omega) he) t1, hb⟩
theorem p16 : fv .f64 4625196817309499392 = pw ((4 : Nat) : Int) := by rw [w16.2]; unfold pw; grind
theorem p4 : fv .f64 4616189618054758400 = pw ((2 : Nat) : Int) := by rw [w4.2]; unfold pw; grind
theorem Ex.int (n : Int) (B : Nat) (h : n.natAbs ≤ B) (hB : B < 2 ^ 53) : Ex (floatOfInt .f64 n) n 0 B := by
  have hx := int_exact .f64 n (by have : FloatKind.f64.format.binade = 4503599627370496 := by decide +kernel
                                  rw [this]; omega)
  exact ⟨hx.1, by rw [hx.2]; show _ = (n : Rat) * pw (-((0 : Nat) : Int)); rw [show -((0 : Nat) : Int) = 0 from rfl, pw_zero]; grind, h⟩
theorem Ex.zero (e : Nat) : Ex 0 0 e 0 := ⟨(zero_fin .f64).1, by rw [(zero_fin .f64).2]; simp, by simp⟩
theorem Ex.isZero {x : Nat} {n : Int} {e B : Nat} (h : Ex x n e B) : feq .f64 x 0 = decide (n = 0) := by
  obtain ⟨z1, z2⟩ := zero_fin .f64
  have hp := pw_pos (-(e : Int))
  by_cases hn : n = 0
  · subst hn
    rw [(feq_iff h.f z1).2 (by rw [h.v, z2]; simp)]; simp
  · cases hc : feq .f64 x 0
    · simp [hn]
    · exfalso
      have := (feq_iff h.f z1).1 hc
      rw [h.v, z2] at this
      have hne : (n : Rat) ≠ 0 := fun h => hn (by exact_mod_cast h)
      rcases Rat.mul_eq_zero.1 this with h | h
      · exact hne h
      · grind
theorem some_of_fin {op : BinOp} {k : FloatKind} {x y : Nat} (h : fin k (fo op k x y)) : floatBits op k x y = some (fo op k x y) := by
  unfold fo at h ⊢
  cases hb : floatBits op k x y with
  | some r => rfl
  | none =>
    rw [hb] at h
    have := fin_num h
    rw [show (none : Option Nat).getD (qn k) = qn k from rfl, isN_qn] at this; cases this
theorem run_arith {P : Program} {op : BinOp} {x y r : Nat} (hop : op = .add ∨ op = .sub ∨ op = .mul ∨ op = .quo) (h : floatBits op .f64 x y = some r) (w : World) : (Op.Complex.arith op .f64 x y).run P w = .ok r w := by
  unfold floatBits at h
  rcases hop with rfl | rfl | rfl | rfl <;> simp only at h <;> simp [Op.Complex.arith, Op.floatArith, h]
theorem nan_of_fin {x : Nat} (h : fin .f64 x) : Op.Complex.isNaN x = false := fin_num h
/-- A complex quotient whose divisor's first part is the greater one, no part of it a NaN. -/
theorem run_cquo {P : Program} {a b c d r p den z1 a1 e z2 b1 f : Nat} (h1 : floatBits .quo .f64 d c = some r) (h2 : floatBits .mul .f64 r d = some p) (h3 : floatBits .add .f64 c p = some den)
    (h4 : floatBits .mul .f64 b r = some z1) (h5 : floatBits .add .f64 a z1 = some a1) (h6 : floatBits .quo .f64 a1 den = some e) (h7 : floatBits .mul .f64 a r = some z2) (h8 : floatBits .sub .f64 b z2 = some b1)
    (h9 : floatBits .quo .f64 b1 den = some f) (hn : Op.Complex.isNaN e = false) (hge : ∀ w, (Op.Complex.cmp .geq .f64 (Op.Complex.abs c) (Op.Complex.abs d)).run P w = .ok true w)
    (hz : ∃ x y : Bool, (∀ w, (Op.Complex.cmp .eql .f64 c 0).run P w = .ok x w) ∧ ∀ w, (Op.Complex.cmp .eql .f64 d 0).run P w = .ok y w) (t : TypeId) (w : World) :
    (binOp .quo t (.complex .f64 a b) (.complex .f64 c d)).run P w = .ok (.complex .f64 e f) w := by
  obtain ⟨x, y, hx, hy⟩ := hz
  have g1 := fun w => run_arith (P := P) (.inr (.inr (.inr rfl))) h1 w
  have g2 := fun w => run_arith (P := P) (.inr (.inr (.inl rfl))) h2 w
  have g3 := fun w => run_arith (P := P) (.inl rfl) h3 w
  have g4 := fun w => run_arith (P := P) (.inr (.inr (.inl rfl))) h4 w
  have g5 := fun w => run_arith (P := P) (.inl rfl) h5 w
  have g6 := fun w => run_arith (P := P) (.inr (.inr (.inr rfl))) h6 w
  have g7 := fun w => run_arith (P := P) (.inr (.inr (.inl rfl))) h7 w
  have g8 := fun w => run_arith (P := P) (.inr (.inl rfl)) h8 w
  have g9 := fun w => run_arith (P := P) (.inr (.inr (.inr rfl))) h9 w
  have hcv : ∀ x w, (Op.Complex.conv .f64 x .f64).run P w = .ok x w := fun x w => by unfold Op.Complex.conv; rw [if_pos rfl]; exact Sem.run_pure ..
  have hq : ∀ w, (Op.Complex.quotient a b c d).run P w = .ok (e, f) w := fun w => by
    unfold Op.Complex.quotient Op.Complex.quo Op.Complex.mul Op.Complex.add Op.Complex.sub
    simp only [Sem.run_bind, Sem.run_pure, hge, Result.andThen_ok, if_true, g1, g2, g3, g4, g5, g6, g7, g8, g9, hx, hy]
    rw [if_pos (by rw [hn]; rfl)]
    exact Sem.run_pure ..
  show (Op.complexOp .quo .f64 a b c d).run P w = _
  unfold Op.complexOp
  simp only [Sem.run_bind, hcv, Result.andThen_ok]
  rw [if_neg (by decide)]
  simp only [Sem.run_bind, hq, hcv, Result.andThen_ok, Sem.run_pure]
theorem k4 : floatBits .quo .f64 0 4616189618054758400 = some 0 ∧ floatBits .mul .f64 0 0 = some 0 ∧ floatBits .add .f64 4616189618054758400 0 = some 4616189618054758400 :=
  ⟨by decide +kernel, by decide +kernel, by decide +kernel⟩
theorem cmp_run {P : Program} {op : BinOp} {x y : Nat} {v : Bool} (h : Op.floatCmp op .f64 x y = (pure (.bool v) : Sem Value)) (w : World) : (Op.Complex.cmp op .f64 x y).run P w = .ok v w := by
  simp [Op.Complex.cmp, h, asBool]
theorem g4 {P : Program} (w : World) : (Op.Complex.cmp .geq .f64 (Op.Complex.abs 4616189618054758400) (Op.Complex.abs 0)).run P w = .ok true w := cmp_run rfl w
theorem z4 {P : Program} : ∃ x y : Bool, (∀ w, (Op.Complex.cmp .eql .f64 4616189618054758400 0).run P w = .ok x w) ∧ ∀ w, (Op.Complex.cmp .eql .f64 0 0).run P w = .ok y w :=
  ⟨_, _, fun w => cmp_run rfl w, fun w => cmp_run rfl w⟩
/-- What is a quarter of a number, as the complex quotient gives it. -/
def q4 (a b : Nat) : Nat := fo .quo .f64 (fo .add .f64 a (fo .mul .f64 b 0)) 4616189618054758400
def q4i (a b : Nat) : Nat := fo .quo .f64 (fo .sub .f64 b (fo .mul .f64 a 0)) 4616189618054758400
theorem q4_ok {a b : Nat} {n m : Int} {e B : Nat} (h : CEx a b n m e B) (hB : B < 2 ^ 53) (he : e ≤ 900) : CEx (q4 a b) (q4i a b) n m (e + 2) B ∧
    ∀ (P : Program) (t : TypeId) (w : World), (binOp .quo t (.complex .f64 a b) (.complex .f64 4616189618054758400 0)).run P w = .ok (.complex .f64 (q4 a b) (q4i a b)) w := by
  have z1 := h.im.mul (Ex.zero 0) (by omega) (by omega)
  have z2 := h.re.mul (Ex.zero 0) (by omega) (by omega)
  have a1 := h.re.add (e := e) (z1 : Ex _ _ e _) (by omega) (by omega)
  have b1 := h.im.sub (e := e) (z2 : Ex _ _ e _) (by omega) (by omega)
  have a2 := a1.quo w4.1 p4 (by omega) (by omega)
  have b2 := b1.quo w4.1 p4 (by omega) (by omega)
  have e1 : n + m * 0 = n := by omega
  have e2 : m - n * 0 = m := by omega
  rw [e1] at a2
  rw [e2] at b2
  refine ⟨⟨⟨a2.f, a2.v, by have := h.re.b; omega⟩, ⟨b2.f, b2.v, by have := h.im.b; omega⟩⟩, fun P t w => ?_⟩
  exact run_cquo k4.1 k4.2.1 k4.2.2 (some_of_fin z1.f) (some_of_fin a1.f) (some_of_fin a2.f) (some_of_fin z2.f) (some_of_fin b1.f) (some_of_fin b2.f) (nan_of_fin a2.f) g4 z4 t w

end Go.Proofs.YtndnfhhdflmfcaaGreat

/-
HalfLife of both packages at a valid mode.
-/
namespace Go.Proofs.YtndnfhhdflmfcaaGreat
open Go Go.RowKit Ieee

set_option maxHeartbeats 400000 in
theorem l1In_any (n lo hi : Int) (w : World) : Calls Tryz.prog 29 #[.int .i64 n, .int .i64 lo, .int .i64 hi] w fun e w' => e = .returned (.bool (decide (lo ≤ n) && decide (n ≤ hi))) ∧ w = w' := by
  by_cases h1 : lo ≤ n
  · by_cases h2 : n ≤ hi
    · go_enter Tryz.func29, Tryz.ntmps29
      go_wp2_with fail
      go_ret
      exact ⟨by simp [h1, h2], rfl⟩
    · go_enter Tryz.func29, Tryz.ntmps29
      go_wp2_with fail
      go_ret
      exact ⟨by simp [h2], rfl⟩
  · go_enter Tryz.func29, Tryz.ntmps29
    go_wp2_with fail
    go_ret
    exact ⟨by rw [decide_eq_false (Int.not_le.2 h1)]; rfl, rfl⟩

theorem zAt_succ (a b c d n : Nat) : zAt a b c d (n + 1) = (sRe (zAt a b c d n).1 (zAt a b c d n).2 a b, sIm (zAt a b c d n).1 (zAt a b c d n).2 a b) := rfl
theorem halved_test {a b c d n x y : Nat} (h : ZOk a b x y) (hz : (x, y) = zAt a b c d n) (w : World) : fle .f64 (fR .mul .f64 4611686018427387904 (sizeZ (x, y)) w) (sizeZ (c, d)) = halved a b c d n := by
  rw [rnd_eq (size_ok h).2.2 w]; unfold halved; rw [hz]

/-- What HalfLife returns. -/
def HalfPost (a b c d : Nat) (most : Int) (w : World) (e : Ending) (w' : World) : Prop :=
  ∃ k t, e = .returned (.tuple #[.int .i64 k, .bool t]) ∧ Half a b c d most k t ∧ Below w.heap.size w w'
end Go.Proofs.YtndnfhhdflmfcaaGreat

/-
RingMode: a mode of double precision that rings.
-/
namespace Go.Proofs.YtndnfhhdflmfcaaGreat
open Go Go.RowKit Ieee

/-- The state after so many steps. -/
def zC (p a : Nat × Nat) : Nat → Nat × Nat
  | 0 => a
  | n + 1 => (mulRe (zC p a n).1 (zC p a n).2 p.1 p.2, mulIm (zC p a n).1 (zC p a n).2 p.1 p.2)
def finC (z : Nat × Nat) : Prop := fin .f64 z.1 ∧ fin .f64 z.2
def c64s (zs : List (Nat × Nat)) : List Value := zs.map fun z => .complex .f64 z.1 z.2
def zList (p a : Nat × Nat) (n : Nat) : List (Nat × Nat) := (List.range n).map (zC p a)
theorem zList_len (p a : Nat × Nat) (n : Nat) : (zList p a n).length = n := by simp [zList]
theorem zList_snoc (p a : Nat × Nat) (n : Nat) : c64s (zList p a n) ++ [.complex .f64 (zC p a n).1 (zC p a n).2] = c64s (zList p a (n + 1)) := by
  simp [c64s, zList, List.range_succ]
theorem c128_info : (Tryz.prog.info? 129).map (fun i => (i.zero, i.size, i.bytes)) = some (some (.complex .f64 0 0), 1, 16) := by kernel_rfl
theorem implTimes_fin (a b c d : Nat) (w : World) (h1 : fin .f64 (mulRe a b c d)) (h2 : fin .f64 (mulIm a b c d)) : Calls Tryz.prog 124 #[.complex .f64 a b, .complex .f64 c d] w fun e w' => ∃ n, e = .returned (.complex .f64 (mulRe a b c d) (mulIm a b c d)) ∧ w.drewN n = w' := by
  refine (implTimes_any a b c d w).mono ?_
  rintro e w' ⟨p, q, n, rfl, hp, hq, _, _, rfl⟩
  exact ⟨n, by rw [nrm_fin_eq (hp.trans (nrm_fin h1)) h1, nrm_fin_eq (hq.trans (nrm_fin h2)) h2], rfl⟩

/-- What RingMode returns. -/
def RingPost (p a : Nat × Nat) (n : Nat) (w : World) (e : Ending) (w' : World) : Prop :=
  ∃ A' c', e = .returned (.tuple #[.slice A' n c', .bool true]) ∧ w'.ownsRow w.heap.size 129 1 (.slice A' n c') n (c64s (zList p a n)) ∧ Below w.heap.size w w'

set_option maxHeartbeats 400000 in
theorem count_any (n : Int) (w : World) : Calls Tryz.prog 42 #[.int .i64 n] w fun e w' => e = .returned (.bool (decide (0 ≤ n) && decide (n ≤ 2000))) ∧ w = w' := by
  by_cases h1 : 0 ≤ n
  · by_cases h2 : n ≤ 2000
    · go_enter Tryz.func42, Tryz.ntmps42
      go_wp2_with fail
      go_ret
      exact ⟨by simp [h1, h2], rfl⟩
    · go_enter Tryz.func42, Tryz.ntmps42
      go_wp2_with fail
      go_ret
      exact ⟨by simp [h2], rfl⟩
  · go_enter Tryz.func42, Tryz.ntmps42
    go_wp2_with fail
    go_ret
    exact ⟨by rw [decide_eq_false (Int.not_le.2 h1)]; rfl, rfl⟩
end Go.Proofs.YtndnfhhdflmfcaaGreat

/-
spec.l1Parts, for numbers from 0 to 1 of single precision.
-/
namespace Go.Proofs.YtndnfhhdflmfcaaGreat
open Go Go.RowKit Ieee

theorem parts_le {N k : Nat} (h1 : N < 2 ^ 24) : (N : Rat) * pw (-(k : Int)) ≤ 2 ^ 24 ∧ 0 ≤ (N : Rat) * pw (-(k : Int)) := by
  have hp : pw (-(k : Int)) ≤ 1 := by rw [← pw_zero]; exact pw_mono (by omega)
  have h0 := Rat.le_of_lt (pw_pos (-(k : Int)))
  have hN : (0 : Rat) ≤ N := Rat.natCast_nonneg
  have hN2 : (N : Rat) ≤ 2 ^ 24 := by
    have := Rat.natCast_le_natCast.2 (Nat.le_of_lt h1)
    have e : ((2 ^ 24 : Nat) : Rat) = 2 ^ 24 := by simp; grind
    rw [e] at this; exact this
  have := Rat.mul_le_mul_of_nonneg_left hp hN
  have h3 := Rat.mul_nonneg hN h0
  grind
theorem dbl {r N k : Nat} (hr : fin .f64 r) (hv : fv .f64 r = (N : Rat) * pw (-((k + 1 : Nat) : Int))) (h1 : N < 2 ^ 24) (hk : k ≤ 149) (w : World) :
    fin .f64 (fR .mul .f64 r 4611686018427387904 w) ∧ fv .f64 (fR .mul .f64 r 4611686018427387904 w) = (N : Rat) * pw (-(k : Int)) := by
  obtain ⟨t1, t2⟩ := two_fin
  have e : fv .f64 r * 2 = (N : Rat) * pw (-(k : Int)) := by
    have := pw_succ (-((k + 1 : Nat) : Int))
    rw [show -((k + 1 : Nat) : Int) + 1 = -(k : Int) by omega] at this
    rw [hv, this]; grind
  obtain ⟨p1, p2⟩ := parts_le (k := k) h1
  have ht := top210
  have hm := mul_spec hr t1 (by rw [t2, e, ab_of_nonneg p2]; grind)
  rw [t2, e] at hm
  have hf : Few .f64 ((N : Rat) * pw (-(k : Int))) := by
    refine ⟨(N : Int), -(k : Int), by rw [Rat.intCast_natCast], ?_, ?_⟩
    · have : FloatKind.f64.format.binade = 4503599627370496 := by decide +kernel
      rw [this]; omega
    · have : FloatKind.f64.format.leastPlace = -1074 := by decide +kernel
      rw [this]; omega
  have hx := hm.few hf (by rw [ab_of_nonneg p2]; grind)
  have hn := nrm_fin_eq (nrm_fR .mul .f64 r 4611686018427387904 w) hm.1
  rw [hn]
  exact ⟨hm.1, hx⟩
theorem big53 : fin .f64 4845873199050653696 ∧ fv .f64 4845873199050653696 = 2 ^ 53 := by
  have h : FloatKind.f64.format.read 4845873199050653696 = .number false 4503599627370496 1 := by decide +kernel
  obtain ⟨h1, h2⟩ := fin_of_read h
  refine ⟨h1, ?_⟩
  rw [h2, dval_num]
  unfold mval pw
  simp only [Bool.false_eq_true, if_false]
  grind
theorem not_big {r : Nat} (hr : fin .f64 r) (h : fv .f64 r ≤ 2 ^ 24) : fge .f64 r 4845873199050653696 = false := by
  obtain ⟨b1, b2⟩ := big53
  cases hc : fge .f64 r 4845873199050653696
  · rfl
  · have := (fge_iff hr b1).1 hc
    rw [b2] at this; grind
/-- int(x), and whether x is whole. -/
theorem whole {r N k : Nat} (hr : fin .f64 r) (hv : fv .f64 r = (N : Rat) * pw (-(k : Int))) (h0 : 0 < N) (h1 : N < 2 ^ 24) :
    ∃ n : Nat, floatToIntVal .f64 r .i64 = some (n : Int) ∧ n ≤ 2 ^ 24 ∧ (feq .f64 r (floatOfInt .f64 n) = true → 1 ≤ n) ∧ (k = 0 → feq .f64 r (floatOfInt .f64 n) = true) := by
  obtain ⟨p1, p2⟩ := parts_le (k := k) h1
  obtain ⟨n, q1, q2, q3, q4⟩ := to_int hr (by rw [hv]; exact p2) (by rw [hv]; grind)
  have hx := int_exact .f64 (n : Int) (by have : FloatKind.f64.format.binade = 4503599627370496 := by decide +kernel
                                          rw [this]; omega)
  have hxv : fv .f64 (floatOfInt .f64 n) = (n : Rat) := by rw [hx.2, Rat.intCast_natCast]
  refine ⟨n, q1, ?_, fun h => ?_, fun h => ?_⟩
  · rw [hv] at q2
    have h3 : (n : Rat) ≤ ((2 ^ 24 : Nat) : Rat) := by
      have e : ((2 ^ 24 : Nat) : Rat) = 2 ^ 24 := by simp; grind
      rw [e]; grind
    exact Rat.natCast_le_natCast.1 h3
  · have := (feq_iff hr hx.1).1 h
    rw [hxv, hv] at this
    rcases Nat.eq_zero_or_pos n with hz | hz
    · exfalso
      subst hz
      have hp := pw_pos (-(k : Int))
      have hN : (0 : Rat) < N := by have := Rat.natCast_lt_natCast.2 h0; simpa using this
      have := Rat.mul_pos hN hp
      simp at *
      grind
    · exact hz
  · subst h
    have e : fv .f64 r = (N : Rat) := by rw [hv, show -((0 : Nat) : Int) = 0 from rfl, pw_zero]; grind
    rw [e] at q2 q3
    have h2 := Rat.natCast_le_natCast.1 q2
    have h3 : N < n + 1 := Rat.natCast_lt_natCast.1 (by simpa using q3)
    obtain rfl : n = N := by omega
    exact (feq_iff hr hx.1).2 (by rw [hxv, e])
theorem half_ok {a n c : Nat} (h : a * 2 ^ c = n) (hn : n ≤ 2 ^ 24) (ha : 1 ≤ a) : c ≤ 24 := by
  have h1 : 2 ^ c ≤ 2 ^ 24 := by
    have := Nat.mul_le_mul_right (2 ^ c) ha
    omega
  exact (Nat.pow_le_pow_iff_right (by decide)).1 h1

set_option maxHeartbeats 400000 in
theorem parts_any (x N k0 : Nat) (w : World) (hx : fin .f64 x) (hv : fv .f64 x = (N : Rat) * pw (-(k0 : Int))) (h0 : 0 < N) (h1 : N < 2 ^ 24) (hk0 : k0 ≤ 149) : Calls Tryz.prog 105 #[.float .f64 x] w fun e w' =>
    ∃ (m j : Int) (n : Nat), e = .returned (.tuple #[.int .i64 m, .int .i64 j]) ∧ 1 ≤ m ∧ m ≤ 16777216 ∧ -200 ≤ j ∧ j ≤ 200 ∧ w.drewN n = w' := by
  have hbig := not_big hx (by rw [hv]; exact (parts_le h1).1)
  have HX := Lib.hid (And.intro hx hv)
  clear hx hv
  go_enter Tryz.func105, Tryz.ntmps105
  go_wp2_with fail
  go_loopw [0, 4] (fun y j wr => y = .float .f64 x ∧ j = .int .i64 0 ∧ wr = w) (fun _ _ _ => 0)
  case atStart => exact ⟨rfl, rfl, rfl⟩
  case round =>
    obtain ⟨rfl, rfl, rfl⟩ := hrel
    go_wp2_with fail
    go_loopw [0, 4] (fun y j w2 => ∃ (r k n : Nat) (i : Int), y = .float .f64 r ∧ j = .int .i64 i ∧ Hid (fin .f64 r ∧ fv .f64 r = (N : Rat) * pw (-(k : Int))) ∧ (k : Int) - 149 ≤ i ∧ i ≤ 0 ∧ k ≤ 149 ∧ w2 = wr.drewN n) (fun _ j _ => (intOf j + 149).toNat)
    case atStart => exact ⟨x, k0, 0, 0, rfl, rfl, HX, by omega, by omega, hk0, rfl⟩
    case round =>
      obtain ⟨r, k, n, i, rfl, rfl, hr, hi1, hi2, hk, rfl⟩ := hrel
      obtain ⟨q, q1, q2, q3, q4⟩ := whole hr.out.1 hr.out.2 h0 h1
      have hc := fun W => run_convert_float_int (P := Tryz.prog) W 63 3 .f64 .i64 r q (by kernel_rfl) (by kernel_rfl) q1
      have Q3 := Lib.hid q3
      have Q4 := Lib.hid q4
      clear q1 q3 q4
      cases t : feq .f64 r (floatOfInt .f64 q)
      · obtain ⟨k', rfl⟩ : ∃ k', k = k' + 1 := by
          rcases Nat.eq_zero_or_pos k with hz | hz
          · rw [Q4.out hz] at t; cases t
          · exact ⟨k - 1, by omega⟩
        have D := Lib.hid (fun w => dbl hr.out.1 hr.out.2 h1 (by omega) w)
        go_wp2_with fail
        go_roundw
        case rel => exact ⟨_, k', _, i - 1, rfl, by go_num, D.out _, by omega, by omega, by omega, rfl⟩
        case measure => simp [intOf]; omega
      · have hq1 := Q3.out t
        clear Q3 Q4
        go_wp2_with fail
        go_loopw [4, 5] (fun j m w3 => ∃ (a c : Nat), m = .int .i64 (a : Int) ∧ j = .int .i64 (i + c) ∧ a * 2 ^ c = q ∧ 1 ≤ a ∧ w3 = wr.drewN n) (fun _ m _ => (intOf m).toNat)
        case atStart => exact ⟨q, 0, rfl, by simp, by simp, hq1, rfl⟩
        case round =>
          obtain ⟨a, c, rfl, rfl, ha, ha1, rfl⟩ := hrel
          have hc24 := half_ok ha q2 ha1
          have hle : a ≤ q := by rw [← ha]; exact Nat.le_mul_of_pos_right a (Nat.two_pow_pos c)
          clear hc t
          by_cases hp : a % 2 = 0
          · obtain ⟨b, rfl⟩ : ∃ b, a = 2 * b := ⟨a / 2, by omega⟩
            have hm : decide (((2 * b : Nat) : Int) % 2 = 0) = true := by simp
            go_wp2_with fail
            go_roundw
            case rel => exact ⟨b, c + 1, by go_num, by go_num, by rw [Nat.pow_succ, ← ha, Nat.mul_comm 2 b, Nat.mul_assoc, Nat.mul_comm (2 ^ c)], by omega, trivial⟩
            case measure => simp [intOf]; omega
          · have hm : decide (((a : Nat) : Int) % 2 = 0) = false := by simp; omega
            go_wp2_with fail
            go_ret2
            exact ⟨_, _, _, rfl, by omega, by omega, by omega, by omega, rfl⟩
end Go.Proofs.YtndnfhhdflmfcaaGreat
