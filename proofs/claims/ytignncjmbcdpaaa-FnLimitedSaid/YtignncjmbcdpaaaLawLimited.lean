/-
The law FnLimited returns true for all codes. No condition.
-/
import Derived.Test.YtignncjmbcdpaaaLimitedVal
import Derived.Test.YtignncjmbcdpaaaOpen
namespace Go.Proofs.Ytignncjmbcdpaaa.lawLimited
open Go Go.RowKit Go.ChangeShapes Go.WideShapes

theorem pick {a b c d : Nat} {j : Nat} (hj : j < 4) : ∀ h, ([.float .f32 a, .float .f32 b, .float .f32 c, .float .f32 d] : List Value)[j]'h = .float .f32 ([a, b, c, d].getD j 0) := by
  intro h
  match j, hj with
  | 0, _ => rfl
  | 1, _ => rfl
  | 2, _ => rfl
  | 3, _ => rfl
set_option maxRecDepth 100000 in
set_option maxHeartbeats 600000 in
theorem walk_some (A : Option Addr) (c : Nat) (bs : List Int) (w : World) (hr : Rd w A (bs.map (.int .u8))) (hm : bs.length ≤ 1048576) (hb : ∀ i, i < bs.length → 0 ≤ bs.getD i 0 ∧ bs.getD i 0 ≤ 255) :
    Calls Try.prog 3 #[.slice A bs.length c] w fun e w' => e = .returned (.bool true) ∧ Below w.heap.size w w' := by
  have hlen0 : ¬ (1048576 : Int) < (bs.length : Int) := by omega
  have Hb := Lib.hid hb
  have hq1 := atL_bound hb 1
  have hq2 := atL_bound hb 2
  have hq3 := atL_bound hb 3
  clear hb
  have h1 := fun w h => at_any A c bs 1 w h hm (by omega) Hb.out
  have h2 := fun w h => at_any A c bs 2 w h hm (by omega) Hb.out
  have h3 := fun w h => at_any A c bs 3 w h hm (by omega) Hb.out
  have H1 := Lib.hid h1
  have H2 := Lib.hid h2
  have H3 := Lib.hid h3
  clear h1 h2 h3
  generalize atL bs 1 = q1 at *
  generalize atL bs 2 = q2 at *
  generalize atL bs 3 = q3 at *
  have Hr := Lib.hid hr
  clear hr
  obtain ⟨j1, hj1, hj1'⟩ : ∃ j : Nat, q1 % 4 = j ∧ j < 4 := ⟨(q1 % 4).toNat, by omega, by omega⟩
  obtain ⟨j2, hj2, hj2'⟩ : ∃ j : Nat, q2 % 4 = j ∧ j < 4 := ⟨(q2 % 4).toNat, by omega, by omega⟩
  have p1 := pick (a := 1048576000) (b := 1073741824) (c := 1232348160) (d := 1566444395) hj1'
  have p2 := pick (a := 1056964608) (b := 1065353216) (c := 730643660) (d := 1399379109) hj2'
  have Hmo := Lib.hid (most_ok hj1')
  have Hce := Lib.hid (ceil_ok hj2')
  generalize [1048576000, 1073741824, 1232348160, 1566444395].getD j1 0 = mo at *
  generalize [1056964608, 1065353216, 730643660, 1399379109].getD j2 0 = ce at *
  go_enter Try.func3, Try.ntmps3
  go_wp2_with fail
  refine (H1.out _ ?_).mono ?_
  · exact Rd.alloc Hr.out _
  rintro e w' ⟨rfl, rfl⟩
  go_wp2_with fail
  refine (makeSmall_any A c bs mo _ ?_ hm).mono ?_
  · exact Rd.alloc Hr.out _
  rintro e w1 ⟨A', c', xs, rfl, hrd, hlen, hall, hb1⟩
  have B1 : Hid (Below w.heap.size w w1) := ((Below.refl w.heap.size w).alloc (Nat.le_refl _) _).trans (hb1.mono (by simp))
  have Hx := Lib.hid (fun i (hi : i < xs.length) => sample_ok Hmo.out (hall (xs.getD i 0) (by simp [List.getD, List.getElem?_eq_getElem hi])))
  have Hw : Hid (∀ i, i < xs.length → wfk .f32 (xs.getD i 0)) := fun i hi => by
    obtain ⟨_, _, _, _, h⟩ := hall _ (List.getElem_mem hi)
    simpa [List.getD, List.getElem?_eq_getElem hi] using h
  have Hrd := Lib.hid hrd
  clear hall hb1 hrd p1
  go_wp2_with fail
  refine (H2.out _ ?_).mono ?_
  · exact Rd.alloc (Hr.out.below B1.out) _
  rintro e w' ⟨rfl, rfl⟩
  go_wp2_with fail
  refine (H3.out _ ?_).mono ?_
  · exact Rd.alloc (Hr.out.below B1.out) _
  rintro e w' ⟨rfl, rfl⟩
  have B2 : Hid (Below w.heap.size w (w1.alloc (.cells #[.float .f32 1056964608, .float .f32 1065353216, .float .f32 730643660, .float .f32 1399379109] 25))) := B1.out.alloc B1.out.size _
  have Hrd2 := Lib.hid (Rd.alloc Hrd.out (.cells #[.float .f32 1056964608, .float .f32 1065353216, .float .f32 730643660, .float .f32 1399379109] 25))
  generalize w1.alloc (.cells #[.float .f32 1056964608, .float .f32 1065353216, .float .f32 730643660, .float .f32 1399379109] 25) = W at *
  go_wp2_with fail
  obtain ⟨r1, r2, r3, r4, r5, r6, r7⟩ := rel_ok (q := q3 % 5) (by omega) (by omega)
  have hre : ∀ W, fR .quo .f32 (floatOfInt .f32 (q3 % 5)) 1082130432 W = rel (q3 % 5) := fun W => nrm_fin_eq (nrm_fR _ _ _ _ _) r1
  rw [hre]
  have B2' := Lib.hid (below_drewN B2.out (fN .quo .f32 (floatOfInt .f32 (q3 % 5)) 1082130432))
  have Hrd2' := Lib.hid (Rd.drewN Hrd2.out (fN .quo .f32 (floatOfInt .f32 (q3 % 5)) 1082130432))
  clear B2 Hrd2
  generalize W.drewN (fN .quo .f32 (floatOfInt .f32 (q3 % 5)) 1082130432) = W3 at *
  have Hlow : Hid (∀ i ys, limited xs ce (rel (q3 % 5)) ys xs.length → i < xs.length → fin .f32 (ys.getD i 0) ∧ ab (fv .f32 (ys.getD i 0)) ≤ fv .f32 ce + fv .f32 ce / 4194304 ∧ (lowB xs ce (i + 1) = true → ys.getD i 0 = xs.getD i 0)) := fun i ys hl hi =>
    out_ok Hx.out r1 r3 r4 Hce.out (Nat.le_refl _) hl hi
  have hen := fun i hi => (env_ok Hx.out r1 r3 r4 i hi).1
  clear hre p2
  generalize rel (q3 % 5) = re at *
  refine (limitSamples_any A' c' ce re xs _ Hce.out.1 Hce.out.2.1 Hce.out.2.2.2.2 r1 r2 r6 r7 r5 Hrd2'.out (by omega) Hw.out hen).mono ?_
  rintro e w2 ⟨A2, c2, ys, rfl, hrdy, hlim, hb2⟩
  have B3 := Lib.hid (B2'.out.trans (hb2.mono B2'.out.size))
  have Hrdx := Lib.hid (Hrd2'.out.below hb2)
  have Hrdy := Lib.hid hrdy
  have Hlo := Lib.hid (fun i hi => Hlow.out i ys hlim hi)
  have Hyw := Lib.hid (fun i hi => (hlim.2 i hi).2)
  have hyl : ys.length = xs.length := hlim.1
  clear r1 r2 r3 r4 r5 r6 r7 hen hb2 hrdy hlim Hlow Hrd2' Hrd B2' B1
  rw [hyl]
  have hb0 : ((ys.length : Int) == (xs.length : Int)) = true := by rw [hyl]; exact beq_self_eq_true _
  go_wp2_with fail
  clear H1 H2 H3 Hr Hb hq1 hq2 hq3
  go_loopw [8, 51] (fun l i wr => ∃ k : Nat, k ≤ xs.length ∧ i = .int .i64 k ∧ l = .bool (lowB xs ce k) ∧ Hid (Below w2.heap.size w2 wr)) (fun _ i _ => xs.length - (intOf i).toNat)
  case atStart => exact ⟨0, by omega, rfl, by simp [lowB], Below.refl _ _⟩
  case round =>
    obtain ⟨k, hk, rfl, rfl, HB⟩ := hrel
    by_cases hlt : k < xs.length
    · obtain ⟨b, off, rfl, hbk, hc⟩ := (Hrdx.out.below HB.out) (by simp; omega)
      obtain ⟨b2, off2, rfl, hbk2, hc2⟩ := (Hrdy.out.below HB.out) (by simp; omega)
      have e1 := hc k _ (f32s_at hlt)
      have e2 := hc2 k _ (f32s_at (by omega))
      have e3 := fun o => rd_cell (Rd.alloc (Hrdx.out.below HB.out) o) hlt
      have Hs := Lib.hid (lowB_snoc (c := ce) hlt)
      obtain ⟨f1, f2, f3⟩ := Hlo.out k hlt
      have Hbd := Lib.hid (fun p hp hpv wa wb wc wd => bound_ok (p := p) Hce.out f1 f2 hp hpv wa wb wc wd)
      have Hsame := Lib.hid f3
      have Hyk := Lib.hid (Hyw.out k (by omega))
      rw [Hs.out] at Hsame
      clear hc hc2 hbk hbk2 f1 f2 f3
      generalize xs.getD k 0 = x at *
      generalize ys.getD k 0 = y at *
      generalize lowB xs ce k = mb at *
      cases mb
      · go_wp2_with fail
        refine (power_neg (-22) _ (by omega) (by omega)).mono ?_
        rintro e w' ⟨p1, m1, rfl, f1, v1, rfl⟩
        have hb1 := fun wa wb wc wd => (Hbd.out p1 f1 v1 wa wb wc wd).1
        clear f1 v1
        go_wp2_with fail
        refine (power_neg (-22) _ (by omega) (by omega)).mono ?_
        rintro e w' ⟨p2, m2, rfl, f2, v2, rfl⟩
        have hb2 := fun wa wb wc wd => (Hbd.out p2 f2 v2 wa wb wc wd).2
        clear f2 v2
        go_wp2_with fail
        go_roundw
        case rel => exact ⟨k + 1, by omega, by go_num, by rw [Hs.out]; rfl, below_drewN HB.out _⟩
        case measure => simp [intOf]; omega
      · cases t1 : fle .f32 x ce
        · go_wp2_with fail
          refine (power_neg (-22) _ (by omega) (by omega)).mono ?_
          rintro e w' ⟨p1, m1, rfl, f1, v1, rfl⟩
          have hb1 := fun wa wb wc wd => (Hbd.out p1 f1 v1 wa wb wc wd).1
          clear f1 v1
          go_wp2_with fail
          refine (power_neg (-22) _ (by omega) (by omega)).mono ?_
          rintro e w' ⟨p2, m2, rfl, f2, v2, rfl⟩
          have hb2 := fun wa wb wc wd => (Hbd.out p2 f2 v2 wa wb wc wd).2
          clear f2 v2
          go_wp2_with fail
          go_roundw
          case rel => exact ⟨k + 1, by omega, by go_num, by rw [Hs.out]; rw [t1]; rfl, below_drewN HB.out _⟩
          case measure => simp [intOf]; omega
        · cases t2 : fle .f32 (Op.negFloat .f32 x) ce
          · go_wp2_with fail
            refine (power_neg (-22) _ (by omega) (by omega)).mono ?_
            rintro e w' ⟨p1, m1, rfl, f1, v1, rfl⟩
            have hb1 := fun wa wb wc wd => (Hbd.out p1 f1 v1 wa wb wc wd).1
            clear f1 v1
            go_wp2_with fail
            refine (power_neg (-22) _ (by omega) (by omega)).mono ?_
            rintro e w' ⟨p2, m2, rfl, f2, v2, rfl⟩
            have hb2 := fun wa wb wc wd => (Hbd.out p2 f2 v2 wa wb wc wd).2
            clear f2 v2
            go_wp2_with fail
            go_roundw
            case rel => exact ⟨k + 1, by omega, by go_num, by rw [Hs.out]; rw [t1, t2]; rfl, below_drewN HB.out _⟩
            case measure => simp [intOf]; omega
          · obtain rfl : y = x := Hsame.out (by rw [t1, t2]; rfl)
            go_wp2_with fail
            refine (same_one _ _ _ _ y _ ?_ ?_ Hyk.out).mono ?_
            · exact Rd.alloc (rd_one wr _ y _ rfl) _
            · exact rd_one _ _ y _ (by simp)
            have HB2 : Hid (Below w2.heap.size w2 ((wr.alloc (.cells #[.float .f32 y] 25)).alloc (.cells #[.float .f32 y] 25))) := (HB.out.alloc HB.out.size _).alloc (by have := HB.out.size; simp; omega) _
            generalize (wr.alloc (.cells #[.float .f32 y] 25)).alloc (.cells #[.float .f32 y] 25) = W4 at *
            rintro e w' ⟨m0, rfl, rfl⟩
            go_wp2_with fail
            refine (power_neg (-22) _ (by omega) (by omega)).mono ?_
            rintro e w' ⟨p1, m1, rfl, f1, v1, rfl⟩
            have hb1 := fun wa wb wc wd => (Hbd.out p1 f1 v1 wa wb wc wd).1
            clear f1 v1
            go_wp2_with fail
            refine (power_neg (-22) _ (by omega) (by omega)).mono ?_
            rintro e w' ⟨p2, m2, rfl, f2, v2, rfl⟩
            have hb2 := fun wa wb wc wd => (Hbd.out p2 f2 v2 wa wb wc wd).2
            clear f2 v2
            go_wp2_with fail
            go_roundw
            case rel => exact ⟨k + 1, by omega, by go_num, by rw [Hs.out]; rw [t1, t2]; rfl, below_drewN HB2.out _⟩
            case measure => simp [intOf]; omega
    · obtain rfl : k = xs.length := by omega
      go_wp2
      go_ret
      exact ⟨rfl, B3.out.trans (HB.out.mono B3.out.size)⟩

theorem walk (A : Option Addr) (c : Nat) (bs : List Int) (w : World) (_ : bs.length ≤ maxLen) (hr : Rd w A (bs.map (.int .u8))) (hb : ∀ i, i < bs.length → 0 ≤ bs.getD i 0 ∧ bs.getD i 0 ≤ 255) :
    Calls Try.prog 3 #[.slice A bs.length c] w fun e w' => e = .returned (.bool true) ∧ Below w.heap.size w w' := by
  by_cases hm : bs.length ≤ 1048576
  · exact walk_some A c bs w hr hm hb
  · clear hb
    go_enter Try.func3, Try.ntmps3
    go_wp2
    go_ret
    exact ⟨rfl, Below.refl _ _⟩
set_option maxRecDepth 100000 in
theorem lifted (os : Os) (started : os.Started) (H : Type) (enc : TypeId × Value → H) :
    ReturnsInHanded {} Try.checked os 3 .any (Rows.fnLimitedSpec.pre6 enc Try.prog Try.f3 Rows.fnLimitedRow.domain false) (Rows.fnLimitedSpec.post enc Try.prog Try.f3 false true false false) := by
  refine returnsInHanded_of_change (C := Try.checked) own started (by kernel_rfl) Try.func3
    (ChangeSpec.witness6 (enc := enc) (C := Try.checked) false ⟨#[], #[.slice none 0 0], []⟩ 8 (by kernel_rfl) (by kernel_rfl) (by kernel_rfl) (by kernel_rfl)) ?_
  intro W base args ds gs before hval0 hW hcnd _
  have hval : ∀ (j : Nat) t v, Try.f3.params[j]? = some t → args[j]? = some v → Value.okWide Try.prog W .any base t v := hval0
  have hW' := hW
  obtain ⟨p, q, hA0, hV, rfl, hfz, hnd⟩ := hW
  have hA : DataW.TrodAll enc Try.prog W 0 (fun _ => true) true Try.f3.params.toList args.toList ds p := hA0
  rw [Try.params3] at hA hval
  obtain ⟨v0, vs0, d0, ds0, p0, q0, hargs, rfl, rfl, h0, r0⟩ := trodAll_cons hA
  obtain ⟨rfl, rfl, rfl⟩ := trodAll_nil r0
  obtain rfl : args = #[v0] := by cases args; simp_all
  obtain ⟨rfl, rfl⟩ := trodVars_none hV
  obtain ⟨a0, len0, cap0, rfl⟩ := okWide_slice Try.underlying22 (hval 0 22 v0 rfl rfl)
  have lt0 : ∀ x ∈ p0, x.block < W.heap.size := by obtain ⟨m, hm⟩ := h0; exact DataW.trod_lt m _ _ _ hm
  obtain ⟨bs0, rfl, mx0, rd0, wf0⟩ := open_bytes rfl Try.underlying22 Try.underlying5 (by kernel_rfl) h0
  clear hA0 hval0
  refine (walk a0 cap0 bs0 W mx0 rd0 wf0).mono fun e W' ⟨he, bel⟩ => ?_
  subst he
  exact ⟨_, rfl, _, _, _, [], _, [], hW', trodAll_mk1 (shut_bool Try.underlying4 _), (trodAll_cons_mk (Below.trod laidOut (by kernel_rfl) (of_decide_eq_true (by kernel_rfl)) h0 bel lt0) trodAll_mk0), rfl, bel.frame _, fun h => by cases h⟩

theorem proved : Rows.FnLimitedSaid :=
  OpenClaim.holds_of_wide 3 Try.f3 rfl rfl rfl rfl rfl rfl rfl ⟨rfl, rfl, rfl, rfl, rfl⟩ rfl rfl rfl rfl rfl (by kernel_rfl) Try.func3 (by kernel_rfl)
    (of_decide_eq_true (by kernel_rfl)) (by unfold Func.isWrapper; first | (rw [if_pos (by decide +kernel)]; kernel_rfl) | (rw [if_neg (by decide +kernel)]; exact ⟨rfl, rfl⟩))
    (fun os started H enc _ => lifted os started H enc)
#print axioms proved
end Go.Proofs.Ytignncjmbcdpaaa.lawLimited
