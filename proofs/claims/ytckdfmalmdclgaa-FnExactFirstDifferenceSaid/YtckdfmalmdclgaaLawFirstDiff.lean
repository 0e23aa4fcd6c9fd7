/-
The law FnExactFirstDifference returns true for all samples. No condition.
-/
import Derived.Test.YtckdfmalmdclgaaFirstDiff
import Derived.Test.YtckdfmalmdclgaaOpen
namespace Go.Proofs.Ytckdfmalmdclgaa.lawFirstDiff
open Go Go.RowKit Go.ChangeShapes Go.WideShapes

theorem same_self {k : FloatKind} (a : Nat) : sameB k a a = true := by simp [sameB]

set_option maxHeartbeats 1000000 in
theorem walk (A : Option Addr) (c : Nat) (xs : List Nat) (B : Option Addr) (d : Nat) (ys : List Nat) (w : World) (_ : xs.length ≤ maxLen) (hr : Rd w A (f32s xs)) (hx : ∀ i, i < xs.length → wfk .f32 (xs.getD i 0))
    (_ : ys.length ≤ maxLen) (hs : Rd w B (f32s ys)) (hy : ∀ i, i < ys.length → wfk .f32 (ys.getD i 0)) :
    Calls Try.prog 6 #[.slice A xs.length c, .slice B ys.length d] w fun e w' => e = .returned (.bool true) ∧ Below w.heap.size w w' := by
  by_cases hm : xs.length ≤ 1048576
  · by_cases hl : ys.length ≤ 1048576
    · have Hx := Lib.hid hx
      have Hy := Lib.hid hy
      have Hwx := Lib.hid (fun i hi => (⟨hx i hi, hx i hi, same_self _⟩ : wfk .f32 (xs.getD i 0) ∧ wfk .f32 (xs.getD i 0) ∧ sameB .f32 (xs.getD i 0) (xs.getD i 0) = true))
      have Hwy := Lib.hid (fun i hi => (⟨hy i hi, hy i hi, same_self _⟩ : wfk .f32 (ys.getD i 0) ∧ wfk .f32 (ys.getD i 0) ∧ sameB .f32 (ys.getD i 0) (ys.getD i 0) = true))
      clear hx hy
      go_enter Try.func6, Try.ntmps6
      go_wp2_with fail
      refine (toF32_any A c xs w hr hm).mono ?_
      rintro e w1 ⟨rfl, h1⟩
      go_wp2_with fail
      refine (toF32_any B d ys w1 (hs.below h1.below) hl).mono ?_
      rintro e w2 ⟨rfl, h2⟩
      go_wp2_with fail
      refine (spec_firstDiff _ _ _ _ xs ys _ (h1.rd.below h2.below) h2.rd hm hl Hx.out Hy.out).mono ?_
      rintro e w' ⟨r1, n1, rfl, f1, rfl⟩
      have b2 : Below w.heap.size w (w2.drewN n1) := below_drewN (h1.below.trans (h2.below.mono h1.below.size)) n1
      go_wp2_with fail
      refine (toF32_any A c xs _ (hr.below b2) hm).mono ?_
      rintro e w3 ⟨rfl, h3⟩
      have b3 := b2.trans (h3.below.mono b2.size)
      go_wp2_with fail
      refine (toF32_any B d ys w3 (hs.below b3) hl).mono ?_
      rintro e w4 ⟨rfl, h4⟩
      have b4 := b3.trans (h4.below.mono b3.size)
      go_wp2_with fail
      refine (impl_firstDiff _ _ _ _ xs ys _ (h3.rd.below h4.below) h4.rd hm hl Hx.out Hy.out).mono ?_
      rintro e w' ⟨r2, n2, rfl, f2, rfl⟩
      obtain rfl := f1.unique f2
      go_wp2_with fail
      refine (toF32_any A c xs _ ((hr.below b4).drewN n2) hm).mono ?_
      rintro e w5 ⟨rfl, h5⟩
      have b5 := (below_drewN b4 n2).trans (h5.below.mono b4.size)
      go_wp2_with fail
      refine (eqF32_any _ _ _ _ _ xs xs w5 (((h3.rd.below h4.below).drewN n2).below h5.below) h5.rd hm rfl rfl Hwx.out).mono ?_
      rintro e w' ⟨rfl, n3, rfl⟩
      go_wp2_with fail
      refine (toF32_any B d ys _ ((hs.below b5).drewN n3) hl).mono ?_
      rintro e w6 ⟨rfl, h6⟩
      have b6 := (below_drewN b5 n3).trans (h6.below.mono b5.size)
      go_wp2_with fail
      refine (eqF32_any _ _ _ _ _ ys ys w6 ((((h4.rd.drewN n2).below h5.below).drewN n3).below h6.below) h6.rd hl rfl rfl Hwy.out).mono ?_
      rintro e w' ⟨rfl, n4, rfl⟩
      go_wp2_with fail
      go_ret
      exact ⟨rfl, below_drewN b6 n4⟩
    · go_enter Try.func6, Try.ntmps6
      go_wp2
      go_ret
      exact ⟨rfl, Below.refl _ _⟩
  · go_enter Try.func6, Try.ntmps6
    go_wp2
    go_ret
    exact ⟨rfl, Below.refl _ _⟩
set_option maxRecDepth 100000 in
theorem lifted (os : Os) (started : os.Started) (H : Type) (enc : TypeId × Value → H) :
    ReturnsInHanded {} Try.checked os 6 .any (Rows.fnExactFirstDifferenceSpec.pre6 enc Try.prog Try.f6 Rows.fnExactFirstDifferenceRow.domain false) (Rows.fnExactFirstDifferenceSpec.post enc Try.prog Try.f6 false true false false) := by
  refine returnsInHanded_of_change (C := Try.checked) own started (by kernel_rfl) Try.func6
    (ChangeSpec.witness6 (enc := enc) (C := Try.checked) false ⟨#[], #[.slice none 0 0, .slice none 0 0], []⟩ 8 (by kernel_rfl) (by kernel_rfl) (by kernel_rfl) (by kernel_rfl)) ?_
  intro W base args ds gs before hval0 hW hcnd _
  have hval : ∀ (j : Nat) t v, Try.f6.params[j]? = some t → args[j]? = some v → Value.okWide Try.prog W .any base t v := hval0
  have hW' := hW
  obtain ⟨p, q, hA0, hV, rfl, hfz, hnd⟩ := hW
  have hA : DataW.TrodAll enc Try.prog W 0 (fun _ => true) true Try.f6.params.toList args.toList ds p := hA0
  rw [Try.params6] at hA hval
  obtain ⟨v0, vs0, d0, ds0, p0, q0, hargs, rfl, rfl, h0, r0⟩ := trodAll_cons hA
  obtain ⟨v1, vs1, d1, ds1, p1, q1, rfl, rfl, rfl, h1, r1⟩ := trodAll_cons r0
  obtain ⟨rfl, rfl, rfl⟩ := trodAll_nil r1
  obtain rfl : args = #[v0, v1] := by cases args; simp_all
  obtain ⟨rfl, rfl⟩ := trodVars_none hV
  obtain ⟨a0, len0, cap0, rfl⟩ := okWide_slice Try.underlying22 (hval 0 22 v0 rfl rfl)
  have lt0 : ∀ x ∈ p0, x.block < W.heap.size := by obtain ⟨m, hm⟩ := h0; exact DataW.trod_lt m _ _ _ hm
  obtain ⟨bs0, rfl, mx0, rd0, wf0⟩ := open_floats rfl Try.underlying22 Try.underlying27 (by kernel_rfl) h0
  obtain ⟨a1, len1, cap1, rfl⟩ := okWide_slice Try.underlying22 (hval 1 22 v1 rfl rfl)
  have lt1 : ∀ x ∈ p1, x.block < W.heap.size := by obtain ⟨m, hm⟩ := h1; exact DataW.trod_lt m _ _ _ hm
  obtain ⟨bs1, rfl, mx1, rd1, wf1⟩ := open_floats rfl Try.underlying22 Try.underlying27 (by kernel_rfl) h1
  clear hA0 hval0
  refine (walk a0 cap0 bs0 a1 cap1 bs1 W mx0 rd0 wf0 mx1 rd1 wf1).mono fun e W' ⟨he, bel⟩ => ?_
  subst he
  exact ⟨_, rfl, _, _, _, [], _, [], hW', trodAll_mk1 (shut_bool Try.underlying4 _), (trodAll_cons_mk (Below.trod laidOut (by kernel_rfl) (of_decide_eq_true (by kernel_rfl)) h0 bel lt0) (trodAll_cons_mk (Below.trod laidOut (by kernel_rfl) (of_decide_eq_true (by kernel_rfl)) h1 bel lt1) trodAll_mk0)), rfl, bel.frame _, fun h => by cases h⟩

theorem proved : Rows.FnExactFirstDifferenceSaid :=
  OpenClaim.holds_of_wide 6 Try.f6 rfl rfl rfl rfl rfl rfl rfl ⟨rfl, rfl, rfl, rfl, rfl⟩ rfl rfl rfl rfl rfl (by kernel_rfl) Try.func6 (by kernel_rfl)
    (of_decide_eq_true (by kernel_rfl)) (by unfold Func.isWrapper; first | (rw [if_pos (by decide +kernel)]; kernel_rfl) | (rw [if_neg (by decide +kernel)]; exact ⟨rfl, rfl⟩))
    (fun os started H enc _ => lifted os started H enc)
#print axioms proved
end Go.Proofs.Ytckdfmalmdclgaa.lawFirstDiff
