/-
What spec.LimitNext and impl.LimitNext return, up to the bits of a NaN.
-/
import Derived.Test.YtignncjmbcdpaaaSame
namespace Go.Proofs.Ytignncjmbcdpaaa
open Go Go.RowKit Ieee

theorem run_f32bits (b : Nat) (w : World) : (callFunc 157 #[.float .f32 b]).run Try.prog w = .ok (.value (.int .u32 b)) w := by
  rw [run_callFunc_extern Try.func157 (by kernel_rfl) (by kernel_rfl) (by kernel_rfl) (e := Extern.MathFloatBits.float32bits) (by kernel_rfl)]; rfl
theorem run_f32frombits (n : Int) (w : World) : (callFunc 156 #[.int .u32 n]).run Try.prog w = .ok (.value (.float .f32 n.toNat)) w := by
  rw [run_callFunc_extern Try.func156 (by kernel_rfl) (by kernel_rfl) (by kernel_rfl) (e := Extern.MathFloatBits.float32frombits) (by kernel_rfl)]; rfl

theorem andNot_sign {b : Nat} (hb : wfk .f32 b) : (bits .andNot .u32 (b : Int) 2147483648).toNat = b % 2147483648 := by
  rw [wfk_32] at hb
  have e : (BitVec.ofInt 32 (b : Int) &&& ~~~BitVec.ofInt 32 2147483648).toNat = b % 2147483648 := by
    rw [BitVec.toNat_and, BitVec.ofInt_natCast, BitVec.toNat_ofNat, Nat.mod_eq_of_lt hb]
    have : (~~~BitVec.ofInt 32 2147483648).toNat = 2 ^ 31 - 1 := by decide
    rw [this, Nat.and_two_pow_sub_one_eq_mod]
  have e' : bits .andNot .u32 (b : Int) 2147483648 = IntKind.u32.wrap ((BitVec.ofInt 32 (b : Int) &&& ~~~BitVec.ofInt 32 2147483648).toNat : Int) := rfl
  rw [e', e, IntKind.wrap_u32]
  omega

set_option maxHeartbeats 400000 in
theorem size32_any (b : Nat) (w : World) (hb : wfk .f32 b) :
    Calls Try.prog 125 #[.float .f32 b] w fun e w' => e = .returned (.float .f32 (b % 2147483648)) ∧ w = w' := by
  have h1 := fun w => run_f32bits b w
  have h2 := fun n w => run_f32frombits n w
  go_enter Try.func125, Try.ntmps125
  go_wp2
  go_ret
  exact ⟨by rw [← andNot_sign hb]; rfl, rfl⟩

set_option maxHeartbeats 400000 in
theorem l1Abs_any (b : Nat) (w : World) :
    Calls Try.prog 105 #[.float .f64 b] w fun e w' => e = .returned (.float .f64 (absB b)) ∧ w = w' := by
  have H := Lib.hid (show absB b = if flt .f64 b 0 = true then Op.negFloat .f64 b else if feq .f64 b 0 = true then 0 else b from rfl)
  cases t1 : flt .f64 b 0
  · cases t2 : feq .f64 b 0
    all_goals
      go_enter Try.func105, Try.ntmps105
      go_wp2
      go_ret
      exact ⟨by rw [H.out, t1, t2]; rfl, rfl⟩
  · go_enter Try.func105, Try.ntmps105
    go_wp2
    go_ret
    exact ⟨by rw [H.out, t1]; rfl, rfl⟩

/-- The new envelope, and the sample, a NaN being the one NaN. -/
def limE (env x r : Nat) : Nat := if fgt .f32 (nrm .f32 (x % 2147483648)) (fo .mul .f32 env r) = true then nrm .f32 (x % 2147483648) else fo .mul .f32 env r
def limS (env x c r : Nat) : Nat := if fgt .f32 (limE env x r) c = true then fo .quo .f32 (fo .mul .f32 x c) (limE env x r) else nrm .f32 x
def LimPost (env x c r : Nat) (w : World) (e : Ending) (w' : World) : Prop :=
  ∃ s g n : Nat, e = .returned (.tuple #[.float .f32 s, .float .f32 g]) ∧ nrm .f32 s = limS env x c r ∧ nrm .f32 g = limE env x r ∧ wfk .f32 s ∧ wfk .f32 g ∧ w.drewN n = w'

theorem limE_yes {env x r a e : Nat} (ha : nrm .f32 a = nrm .f32 (x % 2147483648)) (he : nrm .f32 e = fo .mul .f32 env r) (h : fgt .f32 a e = true) : nrm .f32 a = limE env x r := by
  unfold limE
  rw [if_pos, ha]
  rw [← h]; exact (fgt_congr (by rw [nrm_nrm, ha]) (by rw [nrm_fo, he]))
theorem limE_no {env x r a e : Nat} (ha : nrm .f32 a = nrm .f32 (x % 2147483648)) (he : nrm .f32 e = fo .mul .f32 env r) (h : fgt .f32 a e = false) : nrm .f32 e = limE env x r := by
  unfold limE
  rw [if_neg, he]
  have : fgt .f32 (nrm .f32 (x % 2147483648)) (fo .mul .f32 env r) = fgt .f32 a e := fgt_congr (by rw [nrm_nrm, ha]) (by rw [nrm_fo, he])
  rw [this, h]; simp
theorem nrm_limE (env x r : Nat) : nrm .f32 (limE env x r) = limE env x r := by
  unfold limE; split
  · exact nrm_nrm _ _
  · exact nrm_fo _ _ _ _
theorem limS_yes {env x c r g p s : Nat} (hg : nrm .f32 g = limE env x r) (hp : nrm .f32 p = fo .mul .f32 x c) (hs : nrm .f32 s = fo .quo .f32 p g) (h : fgt .f32 g c = true) : nrm .f32 s = limS env x c r := by
  unfold limS
  have h1 : fgt .f32 (limE env x r) c = fgt .f32 g c := fgt_congr (by rw [nrm_limE, hg]) rfl
  rw [if_pos (by rw [h1, h]), hs]
  exact fo_congr (by rw [nrm_fo, hp]) (by rw [nrm_limE, hg])
theorem limS_no {env x c r g : Nat} (hg : nrm .f32 g = limE env x r) (h : fgt .f32 g c = false) : nrm .f32 x = limS env x c r := by
  unfold limS
  have h1 : fgt .f32 (limE env x r) c = fgt .f32 g c := fgt_congr (by rw [nrm_limE, hg]) rfl
  rw [if_neg (by rw [h1, h]; simp)]
theorem abs32_lt {x : Nat} : wfk .f32 (x % 2147483648) := by rw [wfk_32]; omega

set_option maxHeartbeats 400000 in
theorem impl_limitNext (env x c r : Nat) (w : World) (hx : wfk .f32 x) :
    Calls Try.prog 74 #[.float .f32 env, .float .f32 x, .float .f32 c, .float .f32 r] w (LimPost env x c r w) := by
  go_enter Try.func74, Try.ntmps74
  go_wp2_with (go_at_call 125; refine (size32_any _ _ hx).mono ?_; rintro e w' ⟨rfl, rfl⟩)
  · go_ret2
    have g1 := limE_yes rfl (nrm_fR _ _ _ _ _) ‹fgt .f32 (x % 2147483648) (fR .mul .f32 env r w) = true›
    exact ⟨_, _, _, rfl, limS_yes g1 (nrm_fR _ _ _ _ _) (nrm_fR _ _ _ _ _) ‹_›, g1, fR_lt _ _ _ _ _, abs32_lt, rfl⟩
  · go_ret2
    have g1 := limE_yes rfl (nrm_fR _ _ _ _ _) ‹fgt .f32 (x % 2147483648) (fR .mul .f32 env r w) = true›
    exact ⟨_, _, _, rfl, limS_no g1 ‹_›, g1, hx, abs32_lt, rfl⟩
  · go_ret2
    have g1 := limE_no rfl (nrm_fR _ _ _ _ _) ‹fgt .f32 (x % 2147483648) (fR .mul .f32 env r w) = false›
    exact ⟨_, _, _, rfl, limS_yes g1 (nrm_fR _ _ _ _ _) (nrm_fR _ _ _ _ _) ‹_›, g1, fR_lt _ _ _ _ _, fR_lt _ _ _ _ _, rfl⟩
  · go_ret2
    have g1 := limE_no rfl (nrm_fR _ _ _ _ _) ‹fgt .f32 (x % 2147483648) (fR .mul .f32 env r w) = false›
    exact ⟨_, _, _, rfl, limS_no g1 ‹_›, g1, hx, fR_lt _ _ _ _ _, rfl⟩

set_option maxHeartbeats 400000 in
theorem spec_limitNext (env x c r : Nat) (w : World) (hx : wfk .f32 x) :
    Calls Try.prog 85 #[.float .f32 env, .float .f32 x, .float .f32 c, .float .f32 r] w (LimPost env x c r w) := by
  have hab : ∀ w1 w2, nrm .f32 (cR .f64 (absB (cR .f32 x .f64 w1)) .f32 w2) = nrm .f32 (x % 2147483648) := fun w1 w2 => nrm_narrow_abs (nrm_wid x w1) w2
  have Hab := Lib.hid hab
  have Hlt := Lib.hid (fun w1 w2 => cR_lt (s := .f64) (k := .f32) (absB_lt (cR_lt (k := .f64) hx w1)) w2)
  clear hab
  go_enter Try.func85, Try.ntmps85
  go_wp2_with (go_at_call 105; refine (l1Abs_any _ _).mono ?_; rintro e w' ⟨rfl, rfl⟩)
  · go_ret2
    have g1 := limE_yes (Hab.out _ _) (nrm_fR _ _ _ _ _) ‹fgt .f32 (cR .f64 _ .f32 _) (fR .mul .f32 env r w) = true›
    exact ⟨_, _, _, rfl, limS_yes g1 (nrm_fR _ _ _ _ _) (nrm_fR _ _ _ _ _) ‹_›, g1, fR_lt _ _ _ _ _, Hlt.out _ _, rfl⟩
  · go_ret2
    have g1 := limE_yes (Hab.out _ _) (nrm_fR _ _ _ _ _) ‹fgt .f32 (cR .f64 _ .f32 _) (fR .mul .f32 env r w) = true›
    exact ⟨_, _, _, rfl, limS_no g1 ‹_›, g1, hx, Hlt.out _ _, rfl⟩
  · go_ret2
    have g1 := limE_no (Hab.out _ _) (nrm_fR _ _ _ _ _) ‹fgt .f32 (cR .f64 _ .f32 _) (fR .mul .f32 env r w) = false›
    exact ⟨_, _, _, rfl, limS_yes g1 (nrm_fR _ _ _ _ _) (nrm_fR _ _ _ _ _) ‹_›, g1, fR_lt _ _ _ _ _, fR_lt _ _ _ _ _, rfl⟩
  · go_ret2
    have g1 := limE_no (Hab.out _ _) (nrm_fR _ _ _ _ _) ‹fgt .f32 (cR .f64 _ .f32 _) (fR .mul .f32 env r w) = false›
    exact ⟨_, _, _, rfl, limS_no g1 ‹_›, g1, hx, fR_lt _ _ _ _ _, rfl⟩
end Go.Proofs.Ytignncjmbcdpaaa
