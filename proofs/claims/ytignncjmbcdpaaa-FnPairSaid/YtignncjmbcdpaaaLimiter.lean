/-
impl.isLimit, impl.LimitSamples: on finite samples.
-/
import Derived.Test.YtignncjmbcdpaaaLimitVal
import Derived.Test.YtignncjmbcdpaaaFin64
namespace Go.Proofs.Ytignncjmbcdpaaa
open Go Go.RowKit Ieee

theorem cR_wid_fin {c : Nat} (h : fin .f32 c) (w : World) : cR .f32 c .f64 w = wid c := nrm_fin_eq (nrm_wid c w) (wid_fin h).1

set_option maxHeartbeats 400000 in
theorem unit_any (b : Nat) (w : World) (h1 : fge .f32 b 0 = true) (h2 : fle .f32 b 1065353216 = true) : Calls Try.prog 123 #[.float .f32 b] w fun e w' => e = .returned (.bool true) ∧ w = w' := by
  go_enter Try.func123, Try.ntmps123
  go_wp2
  go_ret
  exact ⟨rfl, rfl⟩

set_option maxHeartbeats 400000 in
theorem isLimit_true (c r : Nat) (w : World) (hc : fin .f32 c) (hcw : wfk .f32 c) (hc0 : fgt .f32 c 0 = true) (hr : fin .f32 r) (hrw : wfk .f32 r) (h1 : fge .f32 r 0 = true) (h2 : fle .f32 r 1065353216 = true) (hs : signB (wid r) = false) :
    Calls Try.prog 73 #[.float .f32 c, .float .f32 r] w fun e w' => ∃ n, e = .returned (.bool true) ∧ w.drewN n = w' := by
  have Hc := Lib.hid (cR_wid_fin hc)
  have Hr := Lib.hid (cR_wid_fin hr)
  have Hcw := Lib.hid (fun w => cR_lt (s := .f32) (k := .f64) hcw w)
  have Hrw := Lib.hid (fun w => cR_lt (s := .f32) (k := .f64) hrw w)
  have Hf : finB (wid c) = true := (finB_iff _).2 (wid_fin hc).1
  go_enter Try.func73, Try.ntmps73
  go_wp2_with fail
  refine (finite_any _ _ (Hcw.out _)).mono ?_
  rintro e w' ⟨rfl, rfl⟩
  rw [Hc.out, Hf]
  go_wp2_with fail
  refine (unit_any r _ h1 h2).mono ?_
  rintro e w' ⟨rfl, rfl⟩
  go_wp2_with fail
  refine (signbit_any _ _ (Hrw.out _)).mono ?_
  rintro e w' ⟨rfl, rfl⟩
  rw [Hr.out, hs]
  go_wp2_with fail
  go_ret
  exact ⟨_, rfl, rfl⟩

/-- The samples limited. -/
def limited (xs : List Nat) (c r : Nat) (ys : List Nat) (k : Nat) : Prop :=
  ys.length = k ∧ ∀ i, i < k → nrm .f32 (ys.getD i 0) = limS (envAt xs r i) (xs.getD i 0) c r ∧ wfk .f32 (ys.getD i 0)

theorem limited_snoc {xs ys : List Nat} {c r k s : Nat} (h : limited xs c r ys k) (hs : nrm .f32 s = limS (envAt xs r k) (xs.getD k 0) c r) (hw : wfk .f32 s) : limited xs c r (ys ++ [s]) (k + 1) := by
  obtain ⟨hl, h⟩ := h
  refine ⟨by simp [hl], fun i hi => ?_⟩
  rcases Nat.lt_or_ge i k with h1 | h1
  · have e : (ys ++ [s]).getD i 0 = ys.getD i 0 := by
      simp only [List.getD]; rw [List.getElem?_append_left (by omega)]
    rw [e]; exact h i h1
  · obtain rfl : i = k := by omega
    have e : (ys ++ [s]).getD i 0 = s := by
      simp only [List.getD]; rw [List.getElem?_append_right (by omega), hl]; simp
    rw [e]; exact ⟨hs, hw⟩

set_option maxRecDepth 100000 in
set_option maxHeartbeats 600000 in
theorem limitSamples_any (A : Option Addr) (cp c r : Nat) (xs : List Nat) (w : World) (hc : fin .f32 c) (hcw : wfk .f32 c) (hc0 : fgt .f32 c 0 = true) (hr : fin .f32 r) (hrw : wfk .f32 r) (h1 : fge .f32 r 0 = true) (h2 : fle .f32 r 1065353216 = true)
    (hs : signB (wid r) = false) (hrd : Rd w A (f32s xs)) (hm : xs.length ≤ 1000000) (hwf : ∀ i, i < xs.length → wfk .f32 (xs.getD i 0)) (hen : ∀ i, i ≤ xs.length → fin .f32 (envAt xs r i)) :
    Calls Try.prog 17 #[.slice A xs.length cp, .float .f32 c, .float .f32 r] w fun e w' => ∃ (A' : Option Addr) (c' : Nat) (ys : List Nat), e = .returned (.tuple #[.slice A' ys.length c', .bool true]) ∧ Rd w' A' (f32s ys) ∧
      limited xs c r ys xs.length ∧ Below w.heap.size w w' := by
  go_enter Try.func17, Try.ntmps17
  go_wp2_with fail
  refine (isLimit_true c r _ hc hcw hc0 hr hrw h1 h2 hs).mono ?_
  rintro e w' ⟨n, rfl, rfl⟩
  go_wp2_with fail
  have hb0 : Below w.heap.size w ((w.drewN n).alloc (.cells #[] 25)) := (below_drewN (Below.refl _ _) n).alloc (Nat.le_refl _) _
  have hown0 := owns_empty (w.drewN n) 25
  have HE := Lib.hid hen
  have HW := Lib.hid hwf
  have H0 : Hid (limited xs c r [] 0) := ⟨rfl, fun i h => absurd h (Nat.not_lt_zero _)⟩
  clear hen hwf
  go_loopw [8, 9, 20] (fun v ev i wr => ∃ (k : Nat) (ys : List Nat), i = .int .i64 k ∧ k ≤ xs.length ∧ ev = .float .f32 (envAt xs r k) ∧ Hid (limited xs c r ys k) ∧ wr.ownsRow w.heap.size 25 1 v k (f32s ys) ∧ Below w.heap.size w wr) (fun _ _ i _ => xs.length - (intOf i).toNat)
  case atStart => exact ⟨0, [], rfl, by omega, rfl, H0, hown0, hb0⟩
  case round =>
    clear hb0 hown0 H0
    obtain ⟨k, ys, rfl, hk, rfl, Hl, hown, hb⟩ := hrel
    by_cases hlt : k < xs.length
    · have hrd' := hrd.below hb
      obtain ⟨b, off, rfl, hbk, hcell⟩ := hrd' (by simp; omega)
      have e1 := hcell k _ (f32s_at hlt)
      have hxk := HW.out k hlt
      have HE1 := Lib.hid (HE.out (k + 1) hlt)
      obtain ⟨x, hx⟩ : ∃ x, xs.getD k 0 = x := ⟨_, rfl⟩
      obtain ⟨E, hE⟩ : ∃ E, envAt xs r k = E := ⟨_, rfl⟩
      have Hst : Hid (envAt xs r (k + 1) = limE E x r) := by show envAt xs r (k + 1) = _; rw [← hE, ← hx]; rfl
      rw [hx] at e1 hxk
      rw [hE]
      have Hx := Lib.hid hx
      have HEE := Lib.hid hE
      have Hxk := Lib.hid hxk
      clear hcell hrd hrd' hx hE hxk
      go_wp2_with fail
      refine (impl_limitNext E x c r _ Hxk.out).mono ?_
      rintro e w' ⟨s, g, m, rfl, hs1, hg1, hs2, hg2, rfl⟩
      have hb2 := below_drewN hb m
      have hown2 : (wr.drewN m).ownsRow w.heap.size 25 1 u8 k (f32s ys) := hown
      have Hs1 := Lib.hid hs1
      have Hg1 := Lib.hid hg1
      clear hb hown hs1 hg1 e1 hbk
      generalize wr.drewN m = W2 at *
      have hsz := hb2.size
      have hE2 : g = envAt xs r (k + 1) := nrm_fin_eq (by rw [Hst.out]; exact Hg1.out) HE1.out
      rw [hE2]
      have hL2 : Hid (limited xs c r (ys ++ [s]) (k + 1)) := limited_snoc Hl.out (by rw [HEE.out, Hx.out]; exact Hs1.out) hs2
      clear hE2
      go_wp2_with (at_builtin; refine wpList_app1 rfl (.tmp 32) (.tmp 34) 23 rfl w.heap.size 25 (.float .f32 0) 4 Try.underlying23 f32_info rfl u8 k (f32s ys) _ rfl rfl rfl hown2 hsz (by omega) (by omega) ?_; intro v' w' hown' hbel')
      have hb3 := hb2.trans hbel'
      have hown3 : w'.ownsRow w.heap.size 25 1 v' (k + 1) (f32s (ys ++ [s])) := by simpa [f32s] using hown'
      clear hbel' hown' hb2 hown2 hsz
      go_roundw
      case rel => exact ⟨k + 1, ys ++ [s], by go_num, by omega, rfl, hL2, hown3, hb3⟩
      case measure => simp [intOf]; omega
    · obtain rfl : k = xs.length := by omega
      go_wp2
      go_ret2
      obtain ⟨A', cap, hv, hl, hrd2⟩ := own_rd hown
      subst hv
      have := Hl.out.1
      exact ⟨A', cap, ys, by rw [this]; rfl, hrd2, Hl.out, hb⟩
end Go.Proofs.Ytignncjmbcdpaaa
