/-
The law FnExactLimitSamples returns true for all arguments. No condition.
-/
import Derived.Test.YtignncjmbcdpaaaMark
import Derived.Test.YtignncjmbcdpaaaOpen
namespace Go.Proofs.Ytignncjmbcdpaaa.lawLimitS
open Go Go.RowKit Go.ChangeShapes Go.WideShapes

/-- Two results that agree: lengths and elements. -/
def Agree (ys zs : List Nat) : Prop := ys.length = zs.length ∧ ∀ i, i < ys.length → wfk .f32 (ys.getD i 0) ∧ wfk .f32 (zs.getD i 0) ∧ sameB .f32 (ys.getD i 0) (zs.getD i 0) = true
theorem agree {c r : Nat} {xs ys zs : List Nat} (hy : if limOk c r = true then limited xs c r ys xs.length else ys = []) (hz : if limOk c r = true then limited xs c r zs xs.length else zs = []) : Agree ys zs := by
  cases h : limOk c r
  · rw [if_neg (by simp [h])] at hy hz
    subst hy hz
    exact ⟨rfl, fun i hi => by simp at hi⟩
  · rw [if_pos h] at hy hz
    refine ⟨by rw [hy.1, hz.1], fun i hi => ?_⟩
    rw [hy.1] at hi
    obtain ⟨y1, y2⟩ := hy.2 i hi
    obtain ⟨z1, z2⟩ := hz.2 i hi
    exact ⟨y2, z2, by unfold sameB; rw [y1, z1]; simp⟩
theorem len_ok {c r : Nat} {xs ys : List Nat} (hy : if limOk c r = true then limited xs c r ys xs.length else ys = []) (hm : xs.length ≤ 1048576) : ys.length ≤ 1048576 := by
  cases h : limOk c r
  · rw [if_neg (by simp [h])] at hy
    subst hy; simp
  · rw [if_pos h] at hy
    rw [hy.1]; exact hm
theorem eq_lists (A B : Option Addr) (c d : Nat) (xs ys : List Nat) (w : World) (hr : Rd w A (f32s xs)) (hs : Rd w B (f32s ys)) (hm : xs.length ≤ 1048576) (h : Agree xs ys) :
    Calls Try.prog 32 #[.slice A xs.length c, .slice B ys.length d] w fun e w' => e = .returned (.bool true) ∧ ∃ n, w.drewN n = w' := by
  rw [← h.1]
  exact eqF32_any A B c d xs.length xs ys w hr hs hm rfl h.1.symm h.2

set_option maxRecDepth 100000 in
set_option maxHeartbeats 600000 in
theorem walk_some (A : Option Addr) (cp : Nat) (xs : List Nat) (c r : Nat) (w : World) (hr : Rd w A (f32s xs)) (hm : xs.length ≤ 1048576) (hwf : ∀ i, i < xs.length → wfk .f32 (xs.getD i 0)) (hcw : wfk .f32 c) (hrw : wfk .f32 r) :
    Calls Try.prog 6 #[.slice A xs.length cp, .float .f32 c, .float .f32 r] w fun e w' => e = .returned (.bool true) ∧ Below w.heap.size w w' := by
  have Hr := Lib.hid hr
  have Hwf := Lib.hid hwf
  have Hself : Hid (Agree xs xs) := ⟨rfl, fun i hi => ⟨hwf i hi, hwf i hi, by unfold sameB; simp⟩⟩
  have hlen0 : ¬ (1048576 : Int) < (xs.length : Int) := by omega
  clear hr hwf
  go_enter Try.func6, Try.ntmps6
  go_wp2_with fail
  refine (toF32_any A cp xs _ Hr.out hm).mono ?_
  rintro e W1 ⟨rfl, hm1⟩
  have B1 : Hid (Below w.heap.size w W1) := hm1.below
  have R1 := Lib.hid hm1.rd
  clear hm1
  go_wp2_with fail
  refine (specLimit_any _ _ c r xs _ hcw hrw R1.out hm Hwf.out).mono ?_
  rintro e W2 h2
  unfold LimitPost at h2
  obtain ⟨A1, c1, ys, rfl, own1, res1, hb2⟩ := h2
  have B2 : Hid (Below w.heap.size w W2) := B1.out.trans (hb2.mono B1.out.size)
  have O1 : Hid (Own W2 W1.heap.size W2.heap.size A1 c1 ys) := Own.of own1 rfl
  have S1 := Lib.hid res1
  clear own1 res1 hb2 R1 B1
  go_wp2_with fail
  refine (toF32_any A cp xs _ (Hr.out.below B2.out) hm).mono ?_
  rintro e W3 ⟨rfl, hm3⟩
  have B3 : Hid (Below w.heap.size w W3) := B2.out.trans (hm3.below.mono B2.out.size)
  have O13 : Hid (Own W3 W1.heap.size W2.heap.size A1 c1 ys) := O1.out.below hm3.below (Nat.le_refl _)
  have O0 : Hid (Own W3 W2.heap.size W3.heap.size (some ⟨W2.heap.size, 0, none⟩) xs.length xs) := hm3.own hm
  have L3 := Lib.hid hm3.below.size
  have L0 := Lib.hid B2.out.size
  clear O1 hm3 B2
  go_wp2_with fail
  refine (implLimit_any _ _ c r xs _ hcw hrw O0.out.rd hm Hwf.out).mono ?_
  rintro e W4 h4
  unfold LimitPost at h4
  obtain ⟨A2, c2, zs, rfl, own2, res2, hb4⟩ := h4
  have B4 : Hid (Below w.heap.size w W4) := B3.out.trans (hb4.mono B3.out.size)
  have O2 : Hid (Own W4 W3.heap.size W4.heap.size A2 c2 zs) := Own.of own2 rfl
  have O14 : Hid (Own W4 W1.heap.size W2.heap.size A1 c1 ys) := O13.out.below hb4 L3.out
  have O04 : Hid (Own W4 W2.heap.size W3.heap.size (some ⟨W2.heap.size, 0, none⟩) xs.length xs) := O0.out.below hb4 (Nat.le_refl _)
  have Hag : Hid (Agree zs ys) := agree res2 S1.out
  have Hl : Hid (zs.length ≤ 1048576) := len_ok res2 hm
  have L4 := Lib.hid hb4.size
  clear own2 res2 hb4 O13 O0 B3
  go_wp2_with fail
  refine (eq_lists A2 A1 c2 c1 zs ys _ O2.out.rd O14.out.rd Hl.out Hag.out).mono ?_
  rintro e w' ⟨rfl, n1, rfl⟩
  go_wp2_with fail
  have B4' := below_drewN B4.out n1
  have L4' : Hid (W4.heap.size ≤ (W4.drewN n1).heap.size) := Nat.le_refl _
  have P2 : Hid (Own (W4.drewN n1) W3.heap.size W4.heap.size A2 c2 zs) := O2.out
  have P1 : Hid (Own (W4.drewN n1) W1.heap.size W2.heap.size A1 c1 ys) := O14.out
  have P0 : Hid (Own (W4.drewN n1) W2.heap.size W3.heap.size (some ⟨W2.heap.size, 0, none⟩) xs.length xs) := O04.out
  have HB4 := Lib.hid B4'
  clear O2 O14 O04 B4 B4'
  generalize W4.drewN n1 = V4 at *
  refine (toF32_any A cp xs _ (Hr.out.below HB4.out) hm).mono ?_
  rintro e W5 ⟨rfl, hm5⟩
  have B5 : Hid (Below w.heap.size w W5) := HB4.out.trans (hm5.below.mono HB4.out.size)
  have Q2 : Hid (Own W5 W3.heap.size W4.heap.size A2 c2 zs) := P2.out.below hm5.below L4'.out
  have Q1 : Hid (Own W5 W1.heap.size W2.heap.size A1 c1 ys) := P1.out.below hm5.below (by have := L3.out; have := L4.out; have := L4'.out; omega)
  have Q0 : Hid (Own W5 W2.heap.size W3.heap.size (some ⟨W2.heap.size, 0, none⟩) xs.length xs) := P0.out.below hm5.below (by have := L4.out; have := L4'.out; omega)
  have R5 := Lib.hid hm5.rd
  have L5 : Hid (W4.heap.size ≤ W5.heap.size) := by have := hm5.below.size; have := L4'.out; show W4.heap.size ≤ W5.heap.size; omega
  clear hm5 P2 P1 P0 HB4 L4'
  go_wp2_with fail
  refine (eq_lists _ _ _ _ xs xs _ Q0.out.rd R5.out hm Hself.out).mono ?_
  rintro e w' ⟨rfl, n2, rfl⟩
  clear R5
  go_wp2_with fail
  refine (mark_any W2.heap.size W3.heap.size _ _ xs 1 _ (Q0.out.drewN n2) hm (by omega)).mono ?_
  rintro e W6 ⟨rfl, O06, k1, k2, k3, k4, k5⟩
  have K6 : Hid (∀ j, (j < W2.heap.size ∨ W3.heap.size ≤ j) → W6.heap[j]? = W5.heap[j]?) := k5
  have B6 : Hid (Below w.heap.size w W6) := ⟨k1.trans B5.out.os, k2.trans B5.out.tape, k3.trans B5.out.output, by rw [k4]; exact B5.out.size, fun j hj => (K6.out j (.inl (by have := L0.out; omega))).trans (B5.out.block j hj)⟩
  have O16 : Hid (Own W6 W1.heap.size W2.heap.size A1 c1 ys) := Q1.out.keep fun j h1 h2 => K6.out j (.inl h2)
  have O26 : Hid (Own W6 W3.heap.size W4.heap.size A2 c2 zs) := Q2.out.keep fun j h1 h2 => K6.out j (.inr h1)
  have L6 : Hid (W4.heap.size ≤ W6.heap.size) := by show W4.heap.size ≤ W6.heap.size; rw [k4]; exact L5.out
  clear O06 k1 k2 k3 k4 k5 K6 Q0 Q1 Q2 B5 L5
  go_wp2_with fail
  refine (eq_lists A2 A1 c2 c1 zs ys _ O26.out.rd O16.out.rd Hl.out Hag.out).mono ?_
  rintro e w' ⟨rfl, n3, rfl⟩
  go_wp2_with fail
  refine (mark_any W3.heap.size W4.heap.size _ _ zs 1 _ (O26.out.drewN n3) Hl.out (by omega)).mono ?_
  rintro e W7 ⟨rfl, O27', k1, k2, k3, k4, k5⟩
  have K7 : Hid (∀ j, (j < W3.heap.size ∨ W4.heap.size ≤ j) → W7.heap[j]? = W6.heap[j]?) := k5
  have B7 : Hid (Below w.heap.size w W7) := ⟨k1.trans B6.out.os, k2.trans B6.out.tape, k3.trans B6.out.output, by rw [k4]; exact B6.out.size, fun j hj => (K7.out j (.inl (by have := L0.out; have := L3.out; omega))).trans (B6.out.block j hj)⟩
  have O17 : Hid (Own W7 W1.heap.size W2.heap.size A1 c1 ys) := O16.out.keep fun j h1 h2 => K7.out j (.inl (by have := L3.out; omega))
  have O27 := Lib.hid O27'
  have L7 : Hid (W4.heap.size ≤ W7.heap.size) := by show W4.heap.size ≤ W7.heap.size; rw [k4]; exact L6.out
  clear O27' k1 k2 k3 k4 k5 K7 O16 O26 B6 L6
  go_wp2_with fail
  refine (held_any A2 c2 zs.length 1 _ O27.out.rd Hl.out (by omega)).mono ?_
  rintro e w' ⟨rfl, rfl⟩
  go_wp2_with fail
  refine (toF32_any A cp xs _ (Hr.out.below B7.out) hm).mono ?_
  rintro e W8 ⟨rfl, hm8⟩
  have B8 : Hid (Below w.heap.size w W8) := B7.out.trans (hm8.below.mono B7.out.size)
  have O18 : Hid (Own W8 W1.heap.size W2.heap.size A1 c1 ys) := O17.out.below hm8.below (by have := L3.out; have := L4.out; have := L7.out; omega)
  have O28 : Hid (Own W8 W3.heap.size W4.heap.size A2 c2 (marks 1 zs.length)) := O27.out.below hm8.below L7.out
  have R8 := Lib.hid hm8.rd
  have L8 : Hid (W4.heap.size ≤ W8.heap.size) := Nat.le_trans L7.out hm8.below.size
  clear hm8 O17 O27 B7 L7
  go_wp2_with fail
  refine (implLimit_any _ _ c r xs _ hcw hrw R8.out hm Hwf.out).mono ?_
  rintro e W9 h9
  unfold LimitPost at h9
  obtain ⟨A3, c3, us, rfl, own3, res3, hb9⟩ := h9
  have B9 : Hid (Below w.heap.size w W9) := B8.out.trans (hb9.mono B8.out.size)
  have O19 : Hid (Own W9 W1.heap.size W2.heap.size A1 c1 ys) := O18.out.below hb9 (by have := L3.out; have := L4.out; have := L8.out; omega)
  have O29 : Hid (Own W9 W3.heap.size W4.heap.size A2 c2 (marks 1 zs.length)) := O28.out.below hb9 L8.out
  have O39 : Hid (Own W9 W8.heap.size W9.heap.size A3 c3 us) := Own.of own3 rfl
  have Hag3 : Hid (Agree us ys) := agree res3 S1.out
  have Hl3 : Hid (us.length ≤ 1048576) := len_ok res3 hm
  clear own3 res3 hb9 O18 O28 R8 B8 L8
  go_wp2_with fail
  refine (eq_lists A3 A1 c3 c1 us ys _ O39.out.rd O19.out.rd Hl3.out Hag3.out).mono ?_
  rintro e w' ⟨rfl, n4, rfl⟩
  go_wp2_with fail
  refine (held_any A2 c2 zs.length 1 _ (O29.out.drewN n4).rd Hl.out (by omega)).mono ?_
  rintro e w' ⟨rfl, rfl⟩
  go_wp2_with fail
  go_ret
  exact ⟨rfl, below_drewN B9.out _⟩

theorem walk (A : Option Addr) (cp : Nat) (xs : List Nat) (c r : Nat) (w : World) (_ : xs.length ≤ maxLen) (hr : Rd w A (f32s xs)) (hwf : ∀ i, i < xs.length → wfk .f32 (xs.getD i 0)) (wc : (Lit.float .f32 c).wf = true) (wr : (Lit.float .f32 r).wf = true) :
    Calls Try.prog 6 #[.slice A xs.length cp, .float .f32 c, .float .f32 r] w fun e w' => e = .returned (.bool true) ∧ Below w.heap.size w w' := by
  by_cases hm : xs.length ≤ 1048576
  · exact walk_some A cp xs c r w hr hm hwf (wfk_lit wc) (wfk_lit wr)
  · go_enter Try.func6, Try.ntmps6
    go_wp2
    go_ret
    exact ⟨rfl, Below.refl _ _⟩
set_option maxRecDepth 100000 in
theorem lifted (os : Os) (started : os.Started) (H : Type) (enc : TypeId × Value → H) :
    ReturnsInHanded {} Try.checked os 6 .any (Rows.fnExactLimitSamplesSpec.pre6 enc Try.prog Try.f6 Rows.fnExactLimitSamplesRow.domain false) (Rows.fnExactLimitSamplesSpec.post enc Try.prog Try.f6 false true false false) := by
  refine returnsInHanded_of_change (C := Try.checked) own started (by kernel_rfl) Try.func6
    (ChangeSpec.witness6 (enc := enc) (C := Try.checked) false ⟨#[], #[.slice none 0 0, .float .f32 0, .float .f32 0], []⟩ 8 (by kernel_rfl) (by kernel_rfl) (by kernel_rfl) (by kernel_rfl)) ?_
  intro W base args ds gs before hval0 hW hcnd _
  have hval : ∀ (j : Nat) t v, Try.f6.params[j]? = some t → args[j]? = some v → Value.okWide Try.prog W .any base t v := hval0
  have hW' := hW
  obtain ⟨p, q, hA0, hV, rfl, hfz, hnd⟩ := hW
  have hA : DataW.TrodAll enc Try.prog W 0 (fun _ => true) true Try.f6.params.toList args.toList ds p := hA0
  rw [Try.params6] at hA hval
  obtain ⟨v0, vs0, d0, ds0, p0, q0, hargs, rfl, rfl, h0, r0⟩ := trodAll_cons hA
  obtain ⟨v1, vs1, d1, ds1, p1, q1, rfl, rfl, rfl, h1, r1⟩ := trodAll_cons r0
  obtain ⟨v2, vs2, d2, ds2, p2, q2, rfl, rfl, rfl, h2, r2⟩ := trodAll_cons r1
  obtain ⟨rfl, rfl, rfl⟩ := trodAll_nil r2
  obtain rfl : args = #[v0, v1, v2] := by cases args; simp_all
  obtain ⟨rfl, rfl⟩ := trodVars_none hV
  obtain ⟨a0, len0, cap0, rfl⟩ := okWide_slice Try.underlying23 (hval 0 23 v0 rfl rfl)
  have lt0 : ∀ x ∈ p0, x.block < W.heap.size := by obtain ⟨m, hm⟩ := h0; exact DataW.trod_lt m _ _ _ hm
  obtain ⟨bs0, rfl, mx0, rd0, wf0⟩ := open_floats rfl Try.underlying23 Try.underlying25 (by kernel_rfl) h0
  obtain ⟨a1, rfl, rfl, rfl, wf1⟩ := open_float Try.underlying25 (hval 1 25 v1 rfl rfl) h1
  obtain ⟨a2, rfl, rfl, rfl, wf2⟩ := open_float Try.underlying25 (hval 2 25 v2 rfl rfl) h2
  clear hA0 hval0
  refine (walk a0 cap0 bs0 a1 a2 W mx0 rd0 wf0 wf1 wf2).mono fun e W' ⟨he, bel⟩ => ?_
  subst he
  exact ⟨_, rfl, _, _, _, [], _, [], hW', trodAll_mk1 (shut_bool Try.underlying4 _), (trodAll_cons_mk (Below.trod laidOut (by kernel_rfl) (of_decide_eq_true (by kernel_rfl)) h0 bel lt0) (trodAll_cons_mk (shut_float Try.underlying25 wf1) (trodAll_cons_mk (shut_float Try.underlying25 wf2) trodAll_mk0))), rfl, bel.frame _, fun h => by cases h⟩

theorem proved : Rows.FnExactLimitSamplesSaid :=
  OpenClaim.holds_of_wide 6 Try.f6 rfl rfl rfl rfl rfl rfl rfl ⟨rfl, rfl, rfl, rfl, rfl⟩ rfl rfl rfl rfl rfl (by kernel_rfl) Try.func6 (by kernel_rfl)
    (of_decide_eq_true (by kernel_rfl)) (by unfold Func.isWrapper; first | (rw [if_pos (by decide +kernel)]; kernel_rfl) | (rw [if_neg (by decide +kernel)]; exact ⟨rfl, rfl⟩))
    (fun os started H enc _ => lifted os started H enc)
#print axioms proved
end Go.Proofs.Ytignncjmbcdpaaa.lawLimitS
