/-
impl.PeakOf and impl.EnergyOf.
-/
import Derived.Test.YtckdfmalmdclgaaSmall
import Derived.Test.YtckdfmalmdclgaaLimitNext
import Derived.Test.YtckdfmalmdclgaaFloatDiv
namespace Go.Proofs.Ytckdfmalmdclgaa
open Go Go.RowKit Ieee

def peakStep (acc x : Nat) : Nat := if fgt .f32 (x % 2147483648) acc = true then x % 2147483648 else acc
def peakL (xs : List Nat) : Nat := xs.foldl peakStep 0
def energyStep (acc x : Nat) : Nat := fo .add .f64 acc (fo .mul .f64 (wid x) (wid x))
def energyL (xs : List Nat) : Nat := xs.foldl energyStep 0
theorem take_snoc {xs : List Nat} {k : Nat} (h : k < xs.length) : xs.take (k + 1) = xs.take k ++ [xs.getD k 0] := by
  rw [List.take_succ_eq_append_getElem h]
  simp [List.getD, List.getElem?_eq_getElem h]
theorem peak_snoc {xs : List Nat} {k : Nat} (h : k < xs.length) : peakL (xs.take (k + 1)) = peakStep (peakL (xs.take k)) (xs.getD k 0) := by
  rw [take_snoc h]; simp [peakL, List.foldl_append]
theorem energy_snoc {xs : List Nat} {k : Nat} (h : k < xs.length) : energyL (xs.take (k + 1)) = energyStep (energyL (xs.take k)) (xs.getD k 0) := by
  rw [take_snoc h]; simp [energyL, List.foldl_append]

set_option maxHeartbeats 400000 in
theorem peak_any (A : Option Addr) (c : Nat) (xs : List Nat) (w : World) (hr : Rd w A (f32s xs)) (hm : xs.length ≤ 1048576) (hwf : ∀ i, i < xs.length → wfk .f32 (xs.getD i 0)) :
    Calls Try.prog 20 #[.slice A xs.length c] w fun e w' => e = .returned (.float .f32 (peakL xs)) ∧ w = w' := by
  go_enter Try.func20, Try.ntmps20
  go_wp2
  go_loop [3, 5, 8] (fun m _ i => ∃ k : Nat, k ≤ xs.length ∧ i = .int .i64 k ∧ m = .float .f32 (peakL (xs.take k))) (fun _ _ i => xs.length - (intOf i).toNat)
  case atStart => exact ⟨0, by omega, rfl, rfl⟩
  case round =>
    obtain ⟨k, hk, rfl, rfl⟩ := hrel
    by_cases hlt : k < xs.length
    · obtain ⟨b, off, rfl, hb, hc⟩ := hr (by simp; omega)
      have e1 := hc k _ (f32s_at hlt)
      have Hs := Lib.hid (peak_snoc hlt)
      have hw := hwf k hlt
      clear hc hwf
      generalize xs.getD k 0 = x at *
      generalize peakL (xs.take k) = p at *
      cases t1 : fgt .f32 (x % 2147483648) p
      all_goals
        go_wp2_with (go_at_call 23; refine (size32_any _ _ hw).mono ?_; rintro e w' ⟨rfl, rfl⟩)
        go_round
        case rel => exact ⟨k + 1, by omega, by go_num, by rw [Hs.out]; simp [peakStep, t1]⟩
        case measure => simp [intOf]; omega
    · go_wp2
      go_ret
      exact ⟨by rw [List.take_of_length_le (by omega)]; rfl, rfl⟩

def FloatPost (k : FloatKind) (z : Nat) (w : World) (e : Ending) (w' : World) : Prop := ∃ r n : Nat, e = .returned (.float k r) ∧ nrm k r = z ∧ wfk k r ∧ w.drewN n = w'

theorem energyStep_eq {acc x r p s : Nat} {w1 w2 : World} (hr : nrm .f64 r = nrm .f64 acc) (hp : nrm .f64 p = fo .mul .f64 (cR .f32 x .f64 w1) (cR .f32 x .f64 w2)) (hs : nrm .f64 s = fo .add .f64 r p) : nrm .f64 s = energyStep acc x := by
  rw [hs]; unfold energyStep
  refine fo_congr hr ?_
  rw [hp, nrm_fo]
  exact fo_congr (by rw [nrm_wid, nrm_cv (by decide)]) (by rw [nrm_wid, nrm_cv (by decide)])
theorem nrm_energyL (xs : List Nat) : nrm .f64 (energyL xs) = energyL xs := by
  rcases List.eq_nil_or_concat xs with rfl | ⟨l, x, rfl⟩
  · show nrm .f64 0 = 0; decide +kernel
  · simp only [energyL, List.concat_eq_append, List.foldl_append, List.foldl_cons, List.foldl_nil, energyStep, nrm_fo]

set_option maxHeartbeats 400000 in
theorem energy_any (A : Option Addr) (c : Nat) (xs : List Nat) (w : World) (hr : Rd w A (f32s xs)) (hm : xs.length ≤ 1048576) :
    Calls Try.prog 21 #[.slice A xs.length c] w (FloatPost .f64 (energyL xs) w) := by
  go_enter Try.func21, Try.ntmps21
  go_wp2
  go_loopw [3, 5, 6, 9] (fun s _ _ i wr => ∃ k n r : Nat, k ≤ xs.length ∧ i = .int .i64 k ∧ s = .float .f64 r ∧ nrm .f64 r = energyL (xs.take k) ∧ wfk .f64 r ∧ wr = w.drewN n) (fun _ _ _ i _ => xs.length - (intOf i).toNat)
  case atStart => exact ⟨0, 0, 0, by omega, rfl, rfl, nrm_energyL [], by rw [wfk_64]; decide, rfl⟩
  case round =>
    obtain ⟨k, n, r, hk, rfl, rfl, hr', hwr, rfl⟩ := hrel
    have Hr := Lib.hid hr'
    clear hr'
    by_cases hlt : k < xs.length
    · obtain ⟨b, off, rfl, hb, hc⟩ := hr (by simp; omega)
      have e1 := hc k _ (f32s_at hlt)
      have Hs := Lib.hid (energy_snoc hlt)
      clear hc
      generalize xs.getD k 0 = x at *
      go_wp2
      go_roundw
      case rel => exact ⟨k + 1, _, _, by omega, by go_num, rfl, by rw [Hs.out]; exact energyStep_eq (by rw [Hr.out, nrm_energyL]) (nrm_fR _ _ _ _ _) (nrm_fR _ _ _ _ _), fR_lt _ _ _ _ _, rfl⟩
      case measure => simp [intOf]; omega
    · go_wp2
      go_ret
      exact ⟨r, n, rfl, by rw [Hr.out, List.take_of_length_le (by omega)], hwr, rfl⟩
end Go.Proofs.Ytckdfmalmdclgaa
