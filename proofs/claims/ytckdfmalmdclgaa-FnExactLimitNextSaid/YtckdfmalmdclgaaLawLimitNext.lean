/-
The law FnExactLimitNext returns true for all floats. No condition.
-/
import Derived.Test.YtckdfmalmdclgaaLimitNext
import Derived.Test.YtckdfmalmdclgaaOpen
namespace Go.Proofs.Ytckdfmalmdclgaa.lawLimitNext
open Go Go.RowKit Go.ChangeShapes Go.WideShapes

set_option maxHeartbeats 1000000 in
theorem walk (a b c d : Nat) (w : World) (wa : (Lit.float .f32 a).wf = true) (wb : (Lit.float .f32 b).wf = true) (wc : (Lit.float .f32 c).wf = true) (wd : (Lit.float .f32 d).wf = true) :
    Calls Try.prog 4 #[.float .f32 a, .float .f32 b, .float .f32 c, .float .f32 d] w fun e w' => e = .returned (.bool true) ∧ Below w.heap.size w w' := by
  have hb := wfk_lit wb
  clear wa wb wc wd
  go_enter Try.func4, Try.ntmps4
  go_wp2_with fail
  refine (spec_limitNext a b c d _ hb).mono ?_
  rintro e w1 ⟨s1, g1, n1, rfl, hs1, hg1, ws1, wg1, rfl⟩
  have Hs1 := Lib.hid hs1
  have Hg1 := Lib.hid hg1
  clear hs1 hg1
  go_wp2_with fail
  refine (impl_limitNext a b c d _ hb).mono ?_
  rintro e w1 ⟨s2, g2, n2, rfl, hs2, hg2, ws2, wg2, rfl⟩
  have Hs2 := Lib.hid hs2
  have Hg2 := Lib.hid hg2
  clear hs2 hg2
  go_wp2_with fail
  refine (sameFloat_true _ _ _ (cR_lt ws2 _) (cR_lt ws1 _) (wid_same (Hs2.out.trans Hs1.out.symm) _ _)).mono ?_
  rintro e w1 ⟨rfl, rfl⟩
  go_wp2_with fail
  refine (sameFloat_true _ _ _ (cR_lt wg2 _) (cR_lt wg1 _) (wid_same (Hg2.out.trans Hg1.out.symm) _ _)).mono ?_
  rintro e w1 ⟨rfl, rfl⟩
  go_wp2_with fail
  go_ret
  exact ⟨rfl, below_drewN (Below.refl _ _) _⟩
set_option maxRecDepth 100000 in
theorem lifted (os : Os) (started : os.Started) (H : Type) (enc : TypeId × Value → H) :
    ReturnsInHanded {} Try.checked os 4 .any (Rows.fnExactLimitNextSpec.pre6 enc Try.prog Try.f4 Rows.fnExactLimitNextRow.domain false) (Rows.fnExactLimitNextSpec.post enc Try.prog Try.f4 false true false false) := by
  refine returnsInHanded_of_change (C := Try.checked) own started (by kernel_rfl) Try.func4
    (ChangeSpec.witness6 (enc := enc) (C := Try.checked) false ⟨#[], #[.float .f32 0, .float .f32 0, .float .f32 0, .float .f32 0], []⟩ 8 (by kernel_rfl) (by kernel_rfl) (by kernel_rfl) (by kernel_rfl)) ?_
  intro W base args ds gs before hval0 hW hcnd _
  have hval : ∀ (j : Nat) t v, Try.f4.params[j]? = some t → args[j]? = some v → Value.okWide Try.prog W .any base t v := hval0
  have hW' := hW
  obtain ⟨p, q, hA0, hV, rfl, hfz, hnd⟩ := hW
  have hA : DataW.TrodAll enc Try.prog W 0 (fun _ => true) true Try.f4.params.toList args.toList ds p := hA0
  rw [Try.params4] at hA hval
  obtain ⟨v0, vs0, d0, ds0, p0, q0, hargs, rfl, rfl, h0, r0⟩ := trodAll_cons hA
  obtain ⟨v1, vs1, d1, ds1, p1, q1, rfl, rfl, rfl, h1, r1⟩ := trodAll_cons r0
  obtain ⟨v2, vs2, d2, ds2, p2, q2, rfl, rfl, rfl, h2, r2⟩ := trodAll_cons r1
  obtain ⟨v3, vs3, d3, ds3, p3, q3, rfl, rfl, rfl, h3, r3⟩ := trodAll_cons r2
  obtain ⟨rfl, rfl, rfl⟩ := trodAll_nil r3
  obtain rfl : args = #[v0, v1, v2, v3] := by cases args; simp_all
  obtain ⟨rfl, rfl⟩ := trodVars_none hV
  obtain ⟨a0, rfl, rfl, rfl, wf0⟩ := open_float Try.underlying27 (hval 0 27 v0 rfl rfl) h0
  obtain ⟨a1, rfl, rfl, rfl, wf1⟩ := open_float Try.underlying27 (hval 1 27 v1 rfl rfl) h1
  obtain ⟨a2, rfl, rfl, rfl, wf2⟩ := open_float Try.underlying27 (hval 2 27 v2 rfl rfl) h2
  obtain ⟨a3, rfl, rfl, rfl, wf3⟩ := open_float Try.underlying27 (hval 3 27 v3 rfl rfl) h3
  clear hA0 hval0
  refine (walk a0 a1 a2 a3 W wf0 wf1 wf2 wf3).mono fun e W' ⟨he, bel⟩ => ?_
  subst he
  exact ⟨_, rfl, _, _, _, [], _, [], hW', trodAll_mk1 (shut_bool Try.underlying4 _), (trodAll_cons_mk (shut_float Try.underlying27 wf0) (trodAll_cons_mk (shut_float Try.underlying27 wf1) (trodAll_cons_mk (shut_float Try.underlying27 wf2) (trodAll_cons_mk (shut_float Try.underlying27 wf3) trodAll_mk0)))), rfl, bel.frame _, fun h => by cases h⟩

theorem proved : Rows.FnExactLimitNextSaid :=
  OpenClaim.holds_of_wide 4 Try.f4 rfl rfl rfl rfl rfl rfl rfl ⟨rfl, rfl, rfl, rfl, rfl⟩ rfl rfl rfl rfl rfl (by kernel_rfl) Try.func4 (by kernel_rfl)
    (of_decide_eq_true (by kernel_rfl)) (by unfold Func.isWrapper; first | (rw [if_pos (by decide +kernel)]; kernel_rfl) | (rw [if_neg (by decide +kernel)]; exact ⟨rfl, rfl⟩))
    (fun os started H enc _ => lifted os started H enc)
#print axioms proved
end Go.Proofs.Ytckdfmalmdclgaa.lawLimitNext
