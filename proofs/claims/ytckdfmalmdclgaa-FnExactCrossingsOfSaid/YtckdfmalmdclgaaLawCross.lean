/-
The law FnExactCrossingsOf returns true for all samples. No condition.
-/
import Derived.Test.YtckdfmalmdclgaaCross
import Derived.Test.YtckdfmalmdclgaaSlices32
import Derived.Test.YtckdfmalmdclgaaOpen
namespace Go.Proofs.Ytckdfmalmdclgaa.lawCross
open Go Go.RowKit Go.ChangeShapes Go.WideShapes

theorem same_self {k : FloatKind} (a : Nat) : sameB k a a = true := by simp [sameB]

set_option maxHeartbeats 1000000 in
theorem walk (A : Option Addr) (c : Nat) (bs : List Nat) (w : World) (hr : Rd w A (f32s bs)) (hwf : ∀ i, i < bs.length → wfk .f32 (bs.getD i 0)) :
    Calls Try.prog 3 #[.slice A bs.length c] w fun e w' => e = .returned (.bool true) ∧ Below w.heap.size w w' := by
  by_cases hm : bs.length ≤ 1048576
  · have Hwf := Lib.hid (fun i hi => (⟨hwf i hi, hwf i hi, same_self _⟩ : wfk .f32 (bs.getD i 0) ∧ wfk .f32 (bs.getD i 0) ∧ sameB .f32 (bs.getD i 0) (bs.getD i 0) = true))
    clear hwf
    go_enter Try.func3, Try.ntmps3
    go_wp2_with fail
    refine (toF32_any A c bs w hr hm).mono ?_
    rintro e w1 ⟨rfl, h1⟩
    go_wp2_with fail
    refine (spec_crossings _ _ _ _ h1.rd hm).mono ?_
    rintro e w' ⟨rfl, rfl⟩
    go_wp2_with fail
    have hr1 := hr.below h1.below
    refine (toF32_any A c bs w1 hr1 hm).mono ?_
    rintro e w2 ⟨rfl, h2⟩
    go_wp2_with fail
    refine (impl_crossings _ _ _ _ h2.rd hm).mono ?_
    rintro e w' ⟨rfl, rfl⟩
    go_wp2_with fail
    refine (toF32_any A c bs w2 (hr1.below h2.below) hm).mono ?_
    rintro e w3 ⟨rfl, h3⟩
    go_wp2_with fail
    refine (eqF32_any _ _ _ _ _ bs bs w3 (h2.rd.below h3.below) h3.rd hm rfl rfl Hwf.out).mono ?_
    rintro e w4 ⟨rfl, n, rfl⟩
    go_wp2_with fail
    go_ret
    exact ⟨rfl, below_drewN ((h1.below.trans (h2.below.mono h1.below.size)).trans (h3.below.mono (Nat.le_trans h1.below.size h2.below.size))) n⟩
  · go_enter Try.func3, Try.ntmps3
    go_wp2
    go_ret
    exact ⟨rfl, Below.refl _ _⟩

set_option maxRecDepth 100000 in
theorem lifted (os : Os) (started : os.Started) (H : Type) (enc : TypeId × Value → H) :
    ReturnsInHanded {} Try.checked os 3 .any (Rows.fnExactCrossingsOfSpec.pre6 enc Try.prog Try.f3 Rows.fnExactCrossingsOfRow.domain false) (Rows.fnExactCrossingsOfSpec.post enc Try.prog Try.f3 false true false false) := by
  refine returnsInHanded_of_change (C := Try.checked) own started (by kernel_rfl) Try.func3
    (ChangeSpec.witness6 (enc := enc) (C := Try.checked) false ⟨#[], #[.slice none 0 0], []⟩ 8 (by kernel_rfl) (by kernel_rfl) (by kernel_rfl) (by kernel_rfl)) ?_
  intro W base args ds gs before hval0 hW hcnd _
  have hval : ∀ (j : Nat) t v, Try.f3.params[j]? = some t → args[j]? = some v → Value.okWide Try.prog W .any base t v := hval0
  have hW' := hW
  obtain ⟨p, q, hA0, hV, rfl, hfz, hnd⟩ := hW
  have hA : DataW.TrodAll enc Try.prog W 0 (fun _ => true) true Try.f3.params.toList args.toList ds p := hA0
  rw [Try.params3] at hA hval
  obtain ⟨v0, vs0, d0, ds0, p0, q0, hargs, rfl, rfl, h0, r0⟩ := trodAll_cons hA
  obtain ⟨rfl, rfl, rfl⟩ := trodAll_nil r0
  obtain rfl : args = #[v0] := by cases args; simp_all
  obtain ⟨rfl, rfl⟩ := trodVars_none hV
  obtain ⟨a0, len0, cap0, rfl⟩ := okWide_slice Try.underlying22 (hval 0 22 v0 rfl rfl)
  have lt0 : ∀ x ∈ p0, x.block < W.heap.size := by obtain ⟨m, hm⟩ := h0; exact DataW.trod_lt m _ _ _ hm
  obtain ⟨bs0, rfl, _, rd0, wf0⟩ := open_floats rfl Try.underlying22 Try.underlying27 (by kernel_rfl) h0
  clear hA0 hval0
  refine (walk a0 cap0 bs0 W rd0 wf0).mono fun e W' ⟨he, bel⟩ => ?_
  subst he
  exact ⟨_, rfl, _, _, _, [], _, [], hW', trodAll_mk1 (shut_bool Try.underlying4 _), (trodAll_cons_mk (Below.trod laidOut (by kernel_rfl) (of_decide_eq_true (by kernel_rfl)) h0 bel lt0) trodAll_mk0), rfl, bel.frame _, fun h => by cases h⟩

theorem proved : Rows.FnExactCrossingsOfSaid :=
  OpenClaim.holds_of_wide 3 Try.f3 rfl rfl rfl rfl rfl rfl rfl ⟨rfl, rfl, rfl, rfl, rfl⟩ rfl rfl rfl rfl rfl (by kernel_rfl) Try.func3 (by kernel_rfl)
    (of_decide_eq_true (by kernel_rfl)) (by unfold Func.isWrapper; first | (rw [if_pos (by decide +kernel)]; kernel_rfl) | (rw [if_neg (by decide +kernel)]; exact ⟨rfl, rfl⟩))
    (fun os started H enc _ => lifted os started H enc)
#print axioms proved
end Go.Proofs.Ytckdfmalmdclgaa.lawCross
