/-
spec.l7Limits, spec.LimitSamples.
-/
import Derived.Test.YtignncjmbcdpaaaText
import Derived.Test.YtignncjmbcdpaaaLimitAny
namespace Go.Proofs.Ytignncjmbcdpaaa
open Go Go.RowKit Ieee

theorem range_val {r : Nat} (h1 : fge .f32 r 0 = true) (h2 : fle .f32 r 1065353216 = true) : 0 ≤ fv .f32 r ∧ fv .f32 r ≤ 1 := by
  have hr := fin_range h1 h2
  obtain ⟨z1, z2⟩ := zero_fin .f32
  have ho : FloatKind.f32.format.read 1065353216 = .number false 8388608 (-23) := by decide +kernel
  obtain ⟨o1, o2⟩ := fin_of_read (k := .f32) ho
  have o3 : fv .f32 1065353216 = 1 := by
    rw [o2, dval_num]
    unfold mval pw
    simp only [Bool.false_eq_true, if_false]
    grind
  have g1 := (fge_iff hr z1).1 h1
  have g2 := (fle_iff hr o1).1 h2
  rw [z2] at g1
  rw [o3] at g2
  exact ⟨g1, g2⟩

set_option maxHeartbeats 400000 in
theorem single_text (r : Nat) (w : World) (hw : wfk .f32 r) (h1 : fge .f32 r 0 = true) (h2 : fle .f32 r 1065353216 = true) : Calls Try.prog 133 #[.float .f32 r] w fun e w' =>
    ∃ s : ByteArray, e = .returned (.string s) ∧ (s.toList == [45, 48]) = signB (wid r) ∧ Below w.heap.size w w' := by
  have hr := fin_range h1 h2
  obtain ⟨v1, v2⟩ := range_val h1 h2
  have hc := cR_wid_fin hr
  have F := Lib.hid (fun w => format_any (wid r) r w (wid_fin hr).1 (wid_lt _) (wid_fin hr).2 hr v1 v2)
  clear h1 h2 hr v1 v2
  go_enter Try.func133, Try.ntmps133
  go_wp2_with fail
  refine (F.out _).mono ?_
  rintro e w' ⟨s, rfl, hs, hb⟩
  go_wp2_with fail
  go_ret
  exact ⟨s, rfl, hs, (below_drewN (Below.refl _ _) _).trans hb⟩

set_option maxHeartbeats 400000 in
theorem limits_any (c r : Nat) (w : World) (hcw : wfk .f32 c) (hrw : wfk .f32 r) :
    Calls Try.prog 84 #[.float .f32 c, .float .f32 r] w fun e w' => e = .returned (.bool (limOk c r)) ∧ Below w.heap.size w w' := by
  have HL : Hid (limOk c r = (finB (wid c) && fgt .f32 c 0 && fge .f32 r 0 && fle .f32 r 1065353216 && !signB (wid r))) := rfl
  have Hf := Lib.hid (fun w => (by rw [fin_sub, finB_nrm (by rw [nrm_wid, nrm_cv (by decide)] : nrm .f64 (cR .f32 c .f64 w) = nrm .f64 (wid c))] : feq .f64 (fo .sub .f64 (cR .f32 c .f64 w) (cR .f32 c .f64 w)) 0 = finB (wid c)))
  cases h2 : fgt .f32 c 0
  · have e3 : limOk c r = false := by rw [HL.out, h2, Bool.and_false]; rfl
    have E3 := Lib.hid e3
    clear HL e3
    go_enter Try.func84, Try.ntmps84
    go_wp2_with fail
    go_ret
    exact ⟨by rw [E3.out]; rfl, Below.refl _ _⟩
  cases h1 : finB (wid c)
  · have e3 : limOk c r = false := by rw [HL.out, h1]; rfl
    have E3 := Lib.hid e3
    clear HL e3
    go_enter Try.func84, Try.ntmps84
    go_wp2_with fail
    refine (l1Finite_any _ _).mono ?_
    rintro e w' ⟨n1, rfl, rfl⟩
    rw [Hf.out, h1]
    go_wp2_with fail
    go_ret
    exact ⟨by rw [E3.out]; rfl, below_drewN (Below.refl _ _) _⟩
  cases h3 : fge .f32 r 0
  · have e3 : limOk c r = false := by rw [HL.out, h1, h2, h3]; rfl
    have E3 := Lib.hid e3
    clear HL e3
    go_enter Try.func84, Try.ntmps84
    go_wp2_with fail
    refine (l1Finite_any _ _).mono ?_
    rintro e w' ⟨n1, rfl, rfl⟩
    rw [Hf.out, h1]
    go_wp2_with fail
    go_ret
    exact ⟨by rw [E3.out]; rfl, below_drewN (Below.refl _ _) _⟩
  cases h4 : fle .f32 r 1065353216
  · have e3 : limOk c r = false := by rw [HL.out, h1, h2, h3, h4]; rfl
    have E3 := Lib.hid e3
    clear HL e3
    go_enter Try.func84, Try.ntmps84
    go_wp2_with fail
    refine (l1Finite_any _ _).mono ?_
    rintro e w' ⟨n1, rfl, rfl⟩
    rw [Hf.out, h1]
    go_wp2_with fail
    go_ret
    exact ⟨by rw [E3.out]; rfl, below_drewN (Below.refl _ _) _⟩
  · have e3 : limOk c r = !signB (wid r) := by rw [HL.out, h1, h2, h3, h4]; rfl
    have E3 := Lib.hid e3
    have T := Lib.hid (fun w => single_text r w hrw h3 h4)
    clear HL e3
    go_enter Try.func84, Try.ntmps84
    go_wp2_with fail
    refine (l1Finite_any _ _).mono ?_
    rintro e w' ⟨n1, rfl, rfl⟩
    rw [Hf.out, h1]
    go_wp2_with fail
    refine (T.out _).mono ?_
    rintro e w' ⟨s, rfl, hs, hb⟩
    have HB : Hid (Below w.heap.size w w') := (below_drewN (Below.refl _ _) _).trans hb
    clear hb
    go_wp2_with fail
    go_ret
    exact ⟨by rw [E3.out]; rfl, HB.out⟩

set_option maxRecDepth 100000 in
set_option maxHeartbeats 600000 in
theorem specLimit_any (A : Option Addr) (cp c r : Nat) (xs : List Nat) (w : World) (hcw : wfk .f32 c) (hrw : wfk .f32 r) (hrd : Rd w A (f32s xs)) (hm : xs.length ≤ 1048576) (hwf : ∀ i, i < xs.length → wfk .f32 (xs.getD i 0)) :
    Calls Try.prog 30 #[.slice A xs.length cp, .float .f32 c, .float .f32 r] w (LimitPost c r xs w) := by
  cases hok : limOk c r
  · have HOK := Lib.hid hok
    clear hok
    go_enter Try.func30, Try.ntmps30
    go_wp2_with fail
    refine (limits_any c r _ hcw hrw).mono ?_
    rintro e w' ⟨rfl, hb⟩
    rw [HOK.out]
    go_wp2_with fail
    go_ret2
    unfold LimitPost
    exact ⟨none, 0, [], by rw [HOK.out]; rfl, ⟨rfl, .inl ⟨rfl, rfl⟩⟩, by rw [HOK.out]; rfl, hb⟩
  have HOK := Lib.hid hok
  clear hok
  go_enter Try.func30, Try.ntmps30
  go_wp2_with fail
  refine (limits_any c r _ hcw hrw).mono ?_
  rintro e W1 ⟨rfl, hbW⟩
  rw [HOK.out]
  go_wp2_with fail
  have hb0 : Below w.heap.size w (W1.alloc (.cells #[] 25)) := hbW.alloc hbW.size _
  have hown0 : (W1.alloc (.cells #[] 25)).ownsRow w.heap.size 25 1 (.slice (some ⟨W1.heap.size, 0, none⟩) 0 0) 0 [] := by
    obtain ⟨h1, h2⟩ := owns_empty W1 25
    refine ⟨h1, ?_⟩
    rcases h2 with h2 | ⟨g, cap, cur, e1, e2, e3⟩
    · exact .inl h2
    · exact .inr ⟨g, cap, cur, e1, Nat.le_trans hbW.size e2, e3⟩
  have HW := Lib.hid hwf
  have H0 : Hid (limited xs c r [] 0) := ⟨rfl, fun i h => absurd h (Nat.not_lt_zero _)⟩
  clear hwf hbW
  go_loopw [8, 9, 21] (fun v ev i wr => ∃ (k E : Nat) (ys : List Nat), i = .int .i64 k ∧ k ≤ xs.length ∧ ev = .float .f32 E ∧ Hid (nrm .f32 E = nrm .f32 (envAt xs r k)) ∧ Hid (limited xs c r ys k) ∧ wr.ownsRow w.heap.size 25 1 v k (f32s ys) ∧ Below w.heap.size w wr) (fun _ _ i _ => xs.length - (intOf i).toNat)
  case atStart => exact ⟨0, 0, [], rfl, by omega, rfl, rfl, H0, hown0, hb0⟩
  case round =>
    clear hb0 hown0 H0
    obtain ⟨k, E, ys, rfl, hk, rfl, HE, Hl, hown, hb⟩ := hrel
    by_cases hlt : k < xs.length
    · have hrd' := hrd.below hb
      obtain ⟨b, off, rfl, hbk, hcell⟩ := hrd' (by simp; omega)
      have e1 := hcell k _ (f32s_at hlt)
      have hxk := HW.out k hlt
      obtain ⟨x, hx⟩ : ∃ x, xs.getD k 0 = x := ⟨_, rfl⟩
      rw [hx] at e1 hxk
      have Hx := Lib.hid hx
      have Hxk := Lib.hid hxk
      clear hcell hrd hrd' hx hxk
      go_wp2_with fail
      refine (spec_limitNext E x c r _ Hxk.out).mono ?_
      rintro e w' ⟨s, g, m, rfl, hs1, hg1, hs2, hg2, rfl⟩
      have hb2 := below_drewN hb m
      have hown2 : (wr.drewN m).ownsRow w.heap.size 25 1 u8 k (f32s ys) := hown
      have Hs1 := Lib.hid hs1
      have HE2 := Lib.hid (env_next HE.out Hx.out hg1)
      clear hb hown hs1 hg1 e1 hbk
      generalize wr.drewN m = W2 at *
      have hsz := hb2.size
      have hL2 : Hid (limited xs c r (ys ++ [s]) (k + 1)) := limited_snoc Hl.out (by rw [Hs1.out, Hx.out]; exact limS_congr HE.out) hs2
      go_wp2_with (at_builtin; refine wpList_app1 rfl (.tmp 34) (.tmp 36) 23 rfl w.heap.size 25 (.float .f32 0) 4 Try.underlying23 f32_info rfl u8 k (f32s ys) _ rfl rfl rfl hown2 hsz (by omega) (by omega) ?_; intro v' w' hown' hbel')
      have hb3 := hb2.trans hbel'
      have hown3 : w'.ownsRow w.heap.size 25 1 v' (k + 1) (f32s (ys ++ [s])) := by simpa [f32s] using hown'
      clear hbel' hown' hb2 hown2 hsz
      go_roundw
      case rel => exact ⟨k + 1, g, ys ++ [s], by go_num, by omega, rfl, HE2, hL2, hown3, hb3⟩
      case measure => simp [intOf]; omega
    · obtain rfl : k = xs.length := by omega
      go_wp2
      go_ret2
      obtain ⟨A', cap, hv, hl, hrd2⟩ := own_rd hown
      subst hv
      have hl' := Hl.out.1
      unfold LimitPost
      exact ⟨A', cap, ys, by rw [hl', HOK.out]; rfl, by rw [hl']; exact hown, by rw [HOK.out]; exact Hl.out, hb⟩
end Go.Proofs.Ytignncjmbcdpaaa
