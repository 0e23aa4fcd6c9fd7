/-
The law FnExactMixTracks returns true for all arguments. No condition.
-/
import Derived.Test.YtignncjmbcdpaaaMixVal
import Derived.Test.YtignncjmbcdpaaaOpen
namespace Go.Proofs.Ytignncjmbcdpaaa.lawMix
open Go Go.RowKit Go.ChangeShapes Go.WideShapes

theorem copy_same {b : Nat} {rs : List Row} : ∀ i, i < rs.length → (rowAt (copyRows b rs) i).2.2 = (rowAt rs i).2.2 := fun i hi => by rw [copyRows_at hi]
theorem copy_len {b : Nat} {rs : List Row} {i : Nat} (hi : i < rs.length) : rowLen (copyRows b rs) i = rowLen rs i := by unfold rowLen; rw [copy_same i hi]
theorem mixPost_x {c r b : Nat} {rs : List Row} {w w' : World} {e : Ending} (h : MixPost c r (copyRows b rs) w e w') : MixPost c r rs w e w' := by
  obtain ⟨A', c', ys, ok, h1, h2, h3, h4⟩ := h
  exact ⟨A', c', ys, ok, h1, h2, mixRes_x (copyRows_len b rs) copy_same h3, h4⟩
theorem specCopy (b c r : Nat) (rs : List Row) (w : World) (hcw : wfk .f32 c) (hrw : wfk .f32 r) (h : CopySS w b rs) (hn : rs.length ≤ 1048576) (hl : ∀ i, i < rs.length → rowLen rs i ≤ 1048576) (hwf : ∀ i, i < rs.length → ∀ j, j < (rowAt rs i).2.2.length → wfk .f32 ((rowAt rs i).2.2.getD j 0)) :
    Calls Try.prog 39 #[.slice (some ⟨b, 0, none⟩) rs.length rs.length, .float .f32 c, .float .f32 r] w (MixPost c r rs w) := by
  have := specMix_any (some ⟨b, 0, none⟩) rs.length c r (copyRows b rs) w hcw hrw h.rd (by rw [copyRows_len]; exact hn) (fun i hi => by rw [copyRows_len] at hi; rw [copy_len hi]; exact hl i hi) (fun i hi => by rw [copyRows_len] at hi; rw [copy_same i hi]; exact hwf i hi)
  rw [copyRows_len] at this
  exact this.mono fun _ _ => mixPost_x
theorem implCopy (b c r : Nat) (rs : List Row) (w : World) (hcw : wfk .f32 c) (hrw : wfk .f32 r) (h : CopySS w b rs) (hn : rs.length ≤ 1048576) (hl : ∀ i, i < rs.length → rowLen rs i ≤ 1048576) (hwf : ∀ i, i < rs.length → ∀ j, j < (rowAt rs i).2.2.length → wfk .f32 ((rowAt rs i).2.2.getD j 0)) :
    Calls Try.prog 41 #[.slice (some ⟨b, 0, none⟩) rs.length rs.length, .float .f32 c, .float .f32 r] w (MixPost c r rs w) := by
  have := implMix_any (some ⟨b, 0, none⟩) rs.length c r (copyRows b rs) w hcw hrw h.rd (by rw [copyRows_len]; exact hn) (fun i hi => by rw [copyRows_len] at hi; rw [copy_len hi]; exact hl i hi) (fun i hi => by rw [copyRows_len] at hi; rw [copy_same i hi]; exact hwf i hi)
  rw [copyRows_len] at this
  exact this.mono fun _ _ => mixPost_x
theorem eqCopies (b b' : Nat) (rs : List Row) (w : World) (h : CopySS w b rs) (h' : CopySS w b' rs) (hn : rs.length ≤ 1048576) (hl : ∀ i, i < rs.length → rowLen rs i ≤ 1048576) (hwf : ∀ i, i < rs.length → ∀ j, j < (rowAt rs i).2.2.length → wfk .f32 ((rowAt rs i).2.2.getD j 0)) :
    Calls Try.prog 42 #[.slice (some ⟨b, 0, none⟩) rs.length rs.length, .slice (some ⟨b', 0, none⟩) rs.length rs.length] w fun e w' => e = .returned (.bool true) ∧ ∃ n, w.drewN n = w' := by
  have := eqFF_any (some ⟨b, 0, none⟩) (some ⟨b', 0, none⟩) rs.length rs.length (copyRows b rs) (copyRows b' rs) w h.rd h'.rd (by rw [copyRows_len]; exact hn) (by rw [copyRows_len, copyRows_len]) (fun i hi => by
    rw [copyRows_len] at hi
    rw [copy_same i hi, copy_same i hi]
    exact ⟨rfl, hl i hi, hwf i hi⟩)
  rwa [copyRows_len, copyRows_len] at this

set_option maxRecDepth 100000 in
set_option maxHeartbeats 1000000 in
theorem walk (A : Option Addr) (cp : Nat) (rs : List Row) (c r : Nat) (w : World) (hmx : rs.length ≤ maxLen) (hr : RdSS w A rs) (hwf : ∀ i, i < rs.length → (rowAt rs i).2.2.length ≤ maxLen ∧ ∀ j, j < (rowAt rs i).2.2.length → wfk .f32 ((rowAt rs i).2.2.getD j 0))
    (wc : (Lit.float .f32 c).wf = true) (wr : (Lit.float .f32 r).wf = true) :
    Calls Try.prog 8 #[.slice A rs.length cp, .float .f32 c, .float .f32 r] w fun e w' => e = .returned (.bool true) ∧ Below w.heap.size w w' := by
  have hcw := wfk_lit wc
  have hrw := wfk_lit wr
  have Hr := Lib.hid hr
  have Hwf := Lib.hid hwf
  have Hmx := Lib.hid hmx
  clear wc wr hr hwf hmx
  go_enter Try.func8, Try.ntmps8
  go_wp2_with fail
  refine (szSS_any A cp rs _ Hr.out Hmx.out (fun i hi => (Hwf.out i hi).1)).mono ?_
  rintro e w' ⟨L, rfl, hsz, rfl⟩
  by_cases hL : L < 0
  · go_wp2_with fail
    go_ret
    exact ⟨rfl, Below.refl _ _⟩
  have hn := hsz (by omega)
  have Hln : Hid (∀ i, i < rs.length → rowLen rs i ≤ 1048576) := fun i hi => by
    have := totL_row rs hi; show (rowAt rs i).2.2.length ≤ _; omega
  have HN := Lib.hid hn
  have hn1 : rs.length ≤ 1048576 := by omega
  clear hsz
  go_wp2_with fail
  refine (toFF_any A cp rs _ Hr.out hn1 Hln.out).mono ?_
  rintro e W1 ⟨rfl, hc1, hb1, hs1⟩
  have C1 := Lib.hid hc1
  have B1 := Lib.hid hb1
  have Wf : Hid (∀ i, i < rs.length → ∀ j, j < (rowAt rs i).2.2.length → wfk .f32 ((rowAt rs i).2.2.getD j 0)) := fun i hi => (Hwf.out i hi).2
  clear hc1 hb1 hs1 hL hn
  go_wp2_with fail
  refine (specCopy _ c r rs _ hcw hrw C1.out hn1 Hln.out Wf.out).mono ?_
  rintro e W2 h2
  unfold MixPost at h2
  obtain ⟨A1, c1, ys, ok, rfl, o1, r1, hb2⟩ := h2
  have B2 : Hid (Below w.heap.size w W2) := B1.out.trans (hb2.mono B1.out.size)
  have O1 := Lib.hid o1
  have R1 := Lib.hid r1
  clear o1 r1 hb2 C1 B1
  go_wp2_with fail
  refine (toFF_any A cp rs _ (Hr.out.below B2.out) hn1 Hln.out).mono ?_
  rintro e W3 ⟨rfl, hc3, hb3, hs3⟩
  have C3 := Lib.hid hc3
  have B3 : Hid (Below w.heap.size w W3) := B2.out.trans (hb3.mono B2.out.size)
  have O13 : Hid (Own W3 W1.heap.size W2.heap.size A1 c1 ys) := O1.out.below hb3 (Nat.le_refl _)
  have L3 := Lib.hid hs3
  have L0 := Lib.hid B2.out.size
  clear hc3 hb3 hs3 O1 B2
  go_wp2_with fail
  refine (implCopy _ c r rs _ hcw hrw C3.out hn1 Hln.out Wf.out).mono ?_
  rintro e W4 h4
  unfold MixPost at h4
  obtain ⟨A2, c2, zs, ok2, rfl, o2, r2, hb4⟩ := h4
  obtain ⟨hok, hag⟩ := mix_agree r2 R1.out
  subst hok
  have Hag := Lib.hid hag
  have Hl : Hid (zs.length ≤ 1048576) := mix_len r2 Hln.out
  have B4 : Hid (Below w.heap.size w W4) := B3.out.trans (hb4.mono B3.out.size)
  have O2 := Lib.hid o2
  have O14 : Hid (Own W4 W1.heap.size W2.heap.size A1 c1 ys) := O13.out.below hb4 (by have := L3.out; omega)
  have C4 : Hid (CopySS W4 W2.heap.size rs) := C3.out.below hb4 (by have := L3.out; omega)
  have L4 := Lib.hid hb4.size
  clear o2 r2 hb4 hag O13 C3 B3
  go_wp2_with fail
  refine (eq_agree A2 A1 c2 c1 zs ys _ O2.out.rd O14.out.rd Hl.out Hag.out).mono ?_
  rintro e w' ⟨rfl, n1, rfl⟩
  go_wp2_with fail
  have P2 : Hid (Own (W4.drewN n1) W3.heap.size W4.heap.size A2 c2 zs) := O2.out
  have P1 : Hid (Own (W4.drewN n1) W1.heap.size W2.heap.size A1 c1 ys) := O14.out
  have P0 : Hid (CopySS (W4.drewN n1) W2.heap.size rs) := ⟨C4.out.top, C4.out.rows⟩
  have HB4 : Hid (Below w.heap.size w (W4.drewN n1)) := below_drewN B4.out n1
  have L4' : Hid (W4.heap.size ≤ (W4.drewN n1).heap.size) := Nat.le_refl _
  clear O2 O14 C4 B4
  generalize W4.drewN n1 = V4 at *
  refine (toFF_any A cp rs _ (Hr.out.below HB4.out) hn1 Hln.out).mono ?_
  rintro e W5 ⟨rfl, hc5, hb5, hs5⟩
  have C5 := Lib.hid hc5
  have B5 : Hid (Below w.heap.size w W5) := HB4.out.trans (hb5.mono HB4.out.size)
  have Q2 : Hid (Own W5 W3.heap.size W4.heap.size A2 c2 zs) := P2.out.below hb5 L4'.out
  have Q1 : Hid (Own W5 W1.heap.size W2.heap.size A1 c1 ys) := P1.out.below hb5 (by have := L3.out; have := L4.out; have := L4'.out; omega)
  have Q0 : Hid (CopySS W5 W2.heap.size rs) := P0.out.below hb5 (by have := L3.out; have := L4.out; have := L4'.out; omega)
  have L5 : Hid (W4.heap.size ≤ W5.heap.size) := Nat.le_trans L4'.out hb5.size
  clear hc5 hb5 hs5 P2 P1 P0 HB4 L4'
  go_wp2_with fail
  refine (eqCopies _ _ rs _ Q0.out C5.out hn1 Hln.out Wf.out).mono ?_
  rintro e w' ⟨rfl, n2, rfl⟩
  clear C5
  go_wp2_with fail
  refine (markFF_any W2.heap.size rs _ (⟨Q0.out.top, Q0.out.rows⟩ : CopySS (W5.drewN n2) W2.heap.size rs) HN.out).mono ?_
  rintro e W6 ⟨rfl, k1, k2, k3, k4, k5⟩
  have K6 : Hid (∀ j, (j < W2.heap.size ∨ W3.heap.size ≤ j) → W6.heap[j]? = W5.heap[j]?) := fun j hj => k5 j (by have := L3.out; omega)
  have B6 : Hid (Below w.heap.size w W6) := ⟨k1.trans B5.out.os, k2.trans B5.out.tape, k3.trans B5.out.output, by rw [k4]; exact B5.out.size, fun j hj => (K6.out j (.inl (by have := L0.out; omega))).trans (B5.out.block j hj)⟩
  have O16 : Hid (Own W6 W1.heap.size W2.heap.size A1 c1 ys) := Q1.out.keep fun j h1 h2 => K6.out j (.inl h2)
  have O26 : Hid (Own W6 W3.heap.size W4.heap.size A2 c2 zs) := Q2.out.keep fun j h1 h2 => K6.out j (.inr h1)
  have L6 : Hid (W4.heap.size ≤ W6.heap.size) := by show W4.heap.size ≤ W6.heap.size; rw [k4]; exact L5.out
  clear k1 k2 k3 k4 k5 K6 Q0 Q1 Q2 B5 L5
  go_wp2_with fail
  refine (eq_agree A2 A1 c2 c1 zs ys _ O26.out.rd O16.out.rd Hl.out Hag.out).mono ?_
  rintro e w' ⟨rfl, n3, rfl⟩
  go_wp2_with fail
  refine (mark_any W3.heap.size W4.heap.size _ _ zs 1 _ (O26.out.drewN n3) Hl.out (by omega)).mono ?_
  rintro e W7 ⟨rfl, O27', k1, k2, k3, k4, k5⟩
  have K7 : Hid (∀ j, (j < W3.heap.size ∨ W4.heap.size ≤ j) → W7.heap[j]? = W6.heap[j]?) := k5
  have B7 : Hid (Below w.heap.size w W7) := ⟨k1.trans B6.out.os, k2.trans B6.out.tape, k3.trans B6.out.output, by rw [k4]; exact B6.out.size, fun j hj => (K7.out j (.inl (by have := L0.out; have := L3.out; omega))).trans (B6.out.block j hj)⟩
  have O17 : Hid (Own W7 W1.heap.size W2.heap.size A1 c1 ys) := O16.out.keep fun j h1 h2 => K7.out j (.inl (by have := L3.out; omega))
  have O27 := Lib.hid O27'
  have L7 : Hid (W4.heap.size ≤ W7.heap.size) := by show W4.heap.size ≤ W7.heap.size; rw [k4]; exact L6.out
  clear O27' k1 k2 k3 k4 k5 K7 O16 O26 B6 L6
  go_wp2_with fail
  refine (held_any A2 c2 zs.length 1 _ O27.out.rd Hl.out (by omega)).mono ?_
  rintro e w' ⟨rfl, rfl⟩
  go_wp2_with fail
  refine (toFF_any A cp rs _ (Hr.out.below B7.out) hn1 Hln.out).mono ?_
  rintro e W8 ⟨rfl, hc8, hb8, hs8⟩
  have C8 := Lib.hid hc8
  have B8 : Hid (Below w.heap.size w W8) := B7.out.trans (hb8.mono B7.out.size)
  have O18 : Hid (Own W8 W1.heap.size W2.heap.size A1 c1 ys) := O17.out.below hb8 (by have := L3.out; have := L4.out; have := L7.out; omega)
  have O28 : Hid (Own W8 W3.heap.size W4.heap.size A2 c2 (marks 1 zs.length)) := O27.out.below hb8 L7.out
  have L8 : Hid (W4.heap.size ≤ W8.heap.size) := Nat.le_trans L7.out hb8.size
  clear hc8 hb8 hs8 O17 O27 B7 L7
  go_wp2_with fail
  refine (implCopy _ c r rs _ hcw hrw C8.out hn1 Hln.out Wf.out).mono ?_
  rintro e W9 h9
  unfold MixPost at h9
  obtain ⟨A3, c3, us, ok3, rfl, o3, r3, hb9⟩ := h9
  obtain ⟨hok, hag3⟩ := mix_agree r3 R1.out
  subst hok
  have Hag3 := Lib.hid hag3
  have Hl3 : Hid (us.length ≤ 1048576) := mix_len r3 Hln.out
  have B9 : Hid (Below w.heap.size w W9) := B8.out.trans (hb9.mono B8.out.size)
  have O19 : Hid (Own W9 W1.heap.size W2.heap.size A1 c1 ys) := O18.out.below hb9 (by have := L3.out; have := L4.out; have := L8.out; omega)
  have O29 : Hid (Own W9 W3.heap.size W4.heap.size A2 c2 (marks 1 zs.length)) := O28.out.below hb9 L8.out
  have O39 := Lib.hid o3
  clear o3 r3 hag3 hb9 O18 O28 C8 B8 L8
  go_wp2_with fail
  refine (eq_agree A3 A1 c3 c1 us ys _ O39.out.rd O19.out.rd Hl3.out Hag3.out).mono ?_
  rintro e w' ⟨rfl, n4, rfl⟩
  go_wp2_with fail
  refine (held_any A2 c2 zs.length 1 _ (O29.out.drewN n4).rd Hl.out (by omega)).mono ?_
  rintro e w' ⟨rfl, rfl⟩
  go_wp2_with fail
  go_ret
  exact ⟨rfl, below_drewN B9.out _⟩
set_option maxRecDepth 100000 in
theorem lifted (os : Os) (started : os.Started) (H : Type) (enc : TypeId × Value → H) :
    ReturnsInHanded {} Try.checked os 8 .any (Rows.fnExactMixTracksSpec.pre6 enc Try.prog Try.f8 Rows.fnExactMixTracksRow.domain false) (Rows.fnExactMixTracksSpec.post enc Try.prog Try.f8 false true false false) := by
  refine returnsInHanded_of_change (C := Try.checked) own started (by kernel_rfl) Try.func8
    (ChangeSpec.witness6 (enc := enc) (C := Try.checked) false ⟨#[], #[.slice none 0 0, .float .f32 0, .float .f32 0], []⟩ 8 (by kernel_rfl) (by kernel_rfl) (by kernel_rfl) (by kernel_rfl)) ?_
  intro W base args ds gs before hval0 hW hcnd _
  have hval : ∀ (j : Nat) t v, Try.f8.params[j]? = some t → args[j]? = some v → Value.okWide Try.prog W .any base t v := hval0
  have hW' := hW
  obtain ⟨p, q, hA0, hV, rfl, hfz, hnd⟩ := hW
  have hA : DataW.TrodAll enc Try.prog W 0 (fun _ => true) true Try.f8.params.toList args.toList ds p := hA0
  rw [Try.params8] at hA hval
  obtain ⟨v0, vs0, d0, ds0, p0, q0, hargs, rfl, rfl, h0, r0⟩ := trodAll_cons hA
  obtain ⟨v1, vs1, d1, ds1, p1, q1, rfl, rfl, rfl, h1, r1⟩ := trodAll_cons r0
  obtain ⟨v2, vs2, d2, ds2, p2, q2, rfl, rfl, rfl, h2, r2⟩ := trodAll_cons r1
  obtain ⟨rfl, rfl, rfl⟩ := trodAll_nil r2
  obtain rfl : args = #[v0, v1, v2] := by cases args; simp_all
  obtain ⟨rfl, rfl⟩ := trodVars_none hV
  obtain ⟨a0, len0, cap0, rfl⟩ := okWide_slice Try.underlying56 (hval 0 56 v0 rfl rfl)
  have lt0 : ∀ x ∈ p0, x.block < W.heap.size := by obtain ⟨m, hm⟩ := h0; exact DataW.trod_lt m _ _ _ hm
  obtain ⟨bs0, rfl, mx0, rd0, wf0⟩ := open_rows rfl Try.underlying56 Try.underlying23 Try.underlying25 (by kernel_rfl) (by kernel_rfl) h0
  obtain ⟨a1, rfl, rfl, rfl, wf1⟩ := open_float Try.underlying25 (hval 1 25 v1 rfl rfl) h1
  obtain ⟨a2, rfl, rfl, rfl, wf2⟩ := open_float Try.underlying25 (hval 2 25 v2 rfl rfl) h2
  clear hA0 hval0
  refine (walk a0 cap0 bs0 a1 a2 W mx0 rd0 wf0 wf1 wf2).mono fun e W' ⟨he, bel⟩ => ?_
  subst he
  exact ⟨_, rfl, _, _, _, [], _, [], hW', trodAll_mk1 (shut_bool Try.underlying4 _), (trodAll_cons_mk (Below.trod laidOut (by kernel_rfl) (of_decide_eq_true (by kernel_rfl)) h0 bel lt0) (trodAll_cons_mk (shut_float Try.underlying25 wf1) (trodAll_cons_mk (shut_float Try.underlying25 wf2) trodAll_mk0))), rfl, bel.frame _, fun h => by cases h⟩

theorem proved : Rows.FnExactMixTracksSaid :=
  OpenClaim.holds_of_wide 8 Try.f8 rfl rfl rfl rfl rfl rfl rfl ⟨rfl, rfl, rfl, rfl, rfl⟩ rfl rfl rfl rfl rfl (by kernel_rfl) Try.func8 (by kernel_rfl)
    (of_decide_eq_true (by kernel_rfl)) (by unfold Func.isWrapper; first | (rw [if_pos (by decide +kernel)]; kernel_rfl) | (rw [if_neg (by decide +kernel)]; exact ⟨rfl, rfl⟩))
    (fun os started H enc _ => lifted os started H enc)
#print axioms proved
end Go.Proofs.Ytignncjmbcdpaaa.lawMix
