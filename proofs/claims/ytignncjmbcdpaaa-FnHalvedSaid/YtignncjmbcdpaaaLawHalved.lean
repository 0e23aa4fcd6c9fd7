/-
The law FnHalved returns true for all codes. No condition.
-/
import Derived.Test.YtignncjmbcdpaaaHalvedS
import Derived.Test.YtignncjmbcdpaaaOpen
namespace Go.Proofs.Ytignncjmbcdpaaa.lawHalved
open Go Go.RowKit Go.ChangeShapes Go.WideShapes

theorem keep_m {W W' : World} {M : Nat} {o : Obj} (hm : W.heap[M]? = some o) (hb : Below W.heap.size W W') : W'.heap[M]? = some o := (hb.block M (lt_of_some hm)).trans hm

set_option maxRecDepth 100000 in
set_option maxHeartbeats 400000 in
theorem walk_some (A : Option Addr) (cp : Nat) (bs : List Int) (w : World) (hr : Rd w A (bs.map (.int .u8))) (hm : bs.length ≤ 1048576) (hb : ∀ i, i < bs.length → 0 ≤ bs.getD i 0 ∧ bs.getD i 0 ≤ 255) :
    Calls Try.prog 7 #[.slice A bs.length cp] w fun e w' => e = .returned (.bool true) ∧ Below w.heap.size w w' := by
  have hlen0 : ¬ (1048576 : Int) < (bs.length : Int) := by omega
  have Hr := Lib.hid hr
  have Hb := Lib.hid hb
  go_enter Try.func7, Try.ntmps7
  go_wp2_with fail
  refine (makeMode_any A cp bs _ hr hm).mono ?_
  rintro e w1 ⟨a, b, c, d, rfl, hmode, hb1⟩
  have H := Lib.hid hmode
  have B0 : Hid (Below w.heap.size w (w1.alloc (.cells #[.complex .f32 a b, .complex .f32 c d] 52))) := hb1.alloc hb1.size _
  have hM0 : (w1.alloc (.cells #[.complex .f32 a b, .complex .f32 c d] 52)).heap[w1.heap.size]? = some (.cells #[.complex .f32 a b, .complex .f32 c d] 52 (0, 0)) := heap_alloc_new w1 _
  have HM0 := Lib.hid hM0
  have hq1 := atL_bound hb 1
  have HA := Lib.hid (fun w h => at_any A cp bs 1 w h hm (by omega) Hb.out)
  generalize atL bs 1 = q at *
  clear hb1 hr hb hmode hM0 Hb
  go_wp2_with fail
  obtain ⟨c0, c1, _, _⟩ := m_cells HM0.out
  generalize w1.alloc (.cells #[.complex .f32 a b, .complex .f32 c d] 52) = W0 at *
  generalize w1.heap.size = M at *
  refine (implHalf_any a b c d 2000 _ H.out (by omega) (by omega)).mono ?_
  rintro e W1 ⟨n, ok, rfl, h1, hb1⟩
  have HM1 := Lib.hid (keep_m HM0.out hb1)
  have B1 : Hid (Below w.heap.size w W1) := B0.out.trans (hb1.mono B0.out.size)
  have P1 := Lib.hid h1
  clear c0 c1 h1 hb1 HM0 B0
  obtain ⟨c0, c1, _, _⟩ := m_cells HM1.out
  go_wp2_with fail
  refine (specHalf_any a b c d 2000 _ H.out (by omega) (by omega)).mono ?_
  rintro e W2 ⟨n', ok', rfl, h2, hb2⟩
  have HM2 := Lib.hid (keep_m HM1.out hb2)
  have B2 : Hid (Below w.heap.size w W2) := B1.out.trans (hb2.mono B1.out.size)
  obtain ⟨rfl, rfl⟩ := P1.out.unique h2
  clear c0 c1 h2 hb2 HM1 B1
  obtain ⟨c0, c1, _, _⟩ := m_cells HM2.out
  cases ok
  · have Hr2 := Lib.hid (Hr.out.below B2.out)
    have hwr : IntKind.i64.wrap (1 + q) = 1 + q := by rw [IntKind.wrap_i64]; omega
    go_wp2_with fail
    go_region_with (first
      | (go_at_call 16
         refine (HA.out _ ?_).mono ?_
         · exact Hr2.out
         rintro e w' ⟨rfl, rfl⟩)
      | (go_at_call 36
         refine (implHalf_any a b c d (1 + q) _ H.out (by omega) (by omega)).mono ?_
         rintro e W3 ⟨n3, ok3, rfl, h3, hb3⟩
         obtain ⟨rfl, rfl⟩ := h3.unique (P1.out.less (by omega))
         have B3 : Hid (Below w.heap.size w W3) := B2.out.drew.trans (hb3.mono B2.out.size)
         clear h3 hb3))
    all_goals
      go_wp2_with fail
      go_ret
      exact ⟨rfl, B3.out⟩
  · have hrg := P1.out.range
    go_wp2_with fail
    refine (implHalf_any a b c d n _ H.out (by omega) (by omega)).mono ?_
    rintro e W3 ⟨n3, ok3, rfl, h3, hb3⟩
    obtain ⟨rfl, rfl⟩ := h3.unique P1.out.same
    have HM3 := Lib.hid (keep_m HM2.out hb3)
    have B3 : Hid (Below w.heap.size w W3) := B2.out.trans (hb3.mono B2.out.size)
    clear c0 c1 h3 hb3 HM2 B2
    obtain ⟨c0, c1, _, _⟩ := m_cells HM3.out
    by_cases hn : 1 < n3
    · go_wp2_with fail
      refine (implHalf_any a b c d (n3 - 1) _ H.out (by omega) (by omega)).mono ?_
      rintro e W4 ⟨n4, ok4, rfl, h4, hb4⟩
      obtain ⟨rfl, rfl⟩ := h4.unique (P1.out.short (by omega))
      have B4 : Hid (Below w.heap.size w W4) := B3.out.trans (hb4.mono B3.out.size)
      clear c0 c1 h4 hb4 HM3 B3
      go_wp2_with fail
      go_ret
      exact ⟨rfl, B4.out⟩
    · go_wp2_with fail
      go_ret
      exact ⟨rfl, B3.out⟩

theorem walk (A : Option Addr) (c : Nat) (bs : List Int) (w : World) (_ : bs.length ≤ maxLen) (hr : Rd w A (bs.map (.int .u8))) (hb : ∀ i, i < bs.length → 0 ≤ bs.getD i 0 ∧ bs.getD i 0 ≤ 255) :
    Calls Try.prog 7 #[.slice A bs.length c] w fun e w' => e = .returned (.bool true) ∧ Below w.heap.size w w' := by
  by_cases hm : bs.length ≤ 1048576
  · exact walk_some A c bs w hr hm hb
  · go_enter Try.func7, Try.ntmps7
    go_wp2
    go_ret
    exact ⟨rfl, Below.refl _ _⟩
set_option maxRecDepth 100000 in
theorem lifted (os : Os) (started : os.Started) (H : Type) (enc : TypeId × Value → H) :
    ReturnsInHanded {} Try.checked os 7 .any (Rows.fnHalvedSpec.pre6 enc Try.prog Try.f7 Rows.fnHalvedRow.domain false) (Rows.fnHalvedSpec.post enc Try.prog Try.f7 false true false false) := by
  refine returnsInHanded_of_change (C := Try.checked) own started (by kernel_rfl) Try.func7
    (ChangeSpec.witness6 (enc := enc) (C := Try.checked) false ⟨#[], #[.slice none 0 0], []⟩ 8 (by kernel_rfl) (by kernel_rfl) (by kernel_rfl) (by kernel_rfl)) ?_
  intro W base args ds gs before hval0 hW hcnd _
  have hval : ∀ (j : Nat) t v, Try.f7.params[j]? = some t → args[j]? = some v → Value.okWide Try.prog W .any base t v := hval0
  have hW' := hW
  obtain ⟨p, q, hA0, hV, rfl, hfz, hnd⟩ := hW
  have hA : DataW.TrodAll enc Try.prog W 0 (fun _ => true) true Try.f7.params.toList args.toList ds p := hA0
  rw [Try.params7] at hA hval
  obtain ⟨v0, vs0, d0, ds0, p0, q0, hargs, rfl, rfl, h0, r0⟩ := trodAll_cons hA
  obtain ⟨rfl, rfl, rfl⟩ := trodAll_nil r0
  obtain rfl : args = #[v0] := by cases args; simp_all
  obtain ⟨rfl, rfl⟩ := trodVars_none hV
  obtain ⟨a0, len0, cap0, rfl⟩ := okWide_slice Try.underlying22 (hval 0 22 v0 rfl rfl)
  have lt0 : ∀ x ∈ p0, x.block < W.heap.size := by obtain ⟨m, hm⟩ := h0; exact DataW.trod_lt m _ _ _ hm
  obtain ⟨bs0, rfl, mx0, rd0, wf0⟩ := open_bytes rfl Try.underlying22 Try.underlying5 (by kernel_rfl) h0
  clear hA0 hval0
  refine (walk a0 cap0 bs0 W mx0 rd0 wf0).mono fun e W' ⟨he, bel⟩ => ?_
  subst he
  exact ⟨_, rfl, _, _, _, [], _, [], hW', trodAll_mk1 (shut_bool Try.underlying4 _), (trodAll_cons_mk (Below.trod laidOut (by kernel_rfl) (of_decide_eq_true (by kernel_rfl)) h0 bel lt0) trodAll_mk0), rfl, bel.frame _, fun h => by cases h⟩

theorem proved : Rows.FnHalvedSaid :=
  OpenClaim.holds_of_wide 7 Try.f7 rfl rfl rfl rfl rfl rfl rfl ⟨rfl, rfl, rfl, rfl, rfl⟩ rfl rfl rfl rfl rfl (by kernel_rfl) Try.func7 (by kernel_rfl)
    (of_decide_eq_true (by kernel_rfl)) (by unfold Func.isWrapper; first | (rw [if_pos (by decide +kernel)]; kernel_rfl) | (rw [if_neg (by decide +kernel)]; exact ⟨rfl, rfl⟩))
    (fun os started H enc _ => lifted os started H enc)
#print axioms proved
end Go.Proofs.Ytignncjmbcdpaaa.lawHalved
