/-
spec.l1Any and what it calls: any number; spec.MakeModerate.
-/
import Derived.Test.YtignncjmbcdpaaaGen
import Derived.Test.YtignncjmbcdpaaaComplex
namespace Go.Proofs.Ytignncjmbcdpaaa
open Go Go.RowKit Ieee

theorem CurStep.drewN {w w' : World} {g : Nat} (h : CurStep w w' g) (n : Nat) : CurStep w (w'.drewN n) g := ⟨h.1, grown_drewN h.2 n⟩

set_option maxHeartbeats 400000 in
theorem once_any (g : Nat) (n : Int) (w : World) (h : Cur w g) (h0 : 0 < n) (h1 : n ≤ 4294967296) :
    Calls Try.prog 135 #[.pointer (some ⟨g, 0, none⟩), .int .i64 n] w fun e w' => ∃ b : Bool, e = .returned (.bool b) ∧ CurStep w w' g := by
  go_enter Try.func135, Try.ntmps135
  go_wp2_with fail
  refine (below_any g n _ h h0 h1).mono ?_
  rintro e w' ⟨x, rfl, _, hs⟩
  go_wp2_with fail
  go_ret
  exact ⟨_, rfl, hs⟩

set_option maxHeartbeats 1000000 in
theorem odd_any (g : Nat) (w : World) (h : Cur w g) :
    Calls Try.prog 158 #[.pointer (some ⟨g, 0, none⟩)] w fun e w' => ∃ b : Nat, e = .returned (.float .f64 b) ∧ wfk .f64 b ∧ CurStep w w' g := by
  go_enter Try.func158, Try.ntmps158
  go_wp2_with fail
  refine (below_any g 12 _ h (by omega) (by omega)).mono ?_
  rintro e w' ⟨x, rfl, hx, hs⟩
  go_wp2_with fail
  all_goals
    go_ret
    refine ⟨_, rfl, ?_, ?_⟩
    · first | exact fR_lt _ _ _ _ _ | (rw [wfk_64]; decide)
    · first | exact hs | exact hs.drewN _

set_option maxHeartbeats 1000000 in
theorem some_any (g : Nat) (w : World) (h : Cur w g) :
    Calls Try.prog 150 #[.pointer (some ⟨g, 0, none⟩)] w fun e w' => ∃ b : Nat, e = .returned (.float .f64 b) ∧ wfk .f64 b ∧ CurStep w w' g := by
  go_enter Try.func150, Try.ntmps150
  go_wp2_with fail
  refine (below_any g 4 _ h (by omega) (by omega)).mono ?_
  rintro e w1 ⟨x, rfl, hx, hs⟩
  go_wp2_with fail
  · refine (below_any g _ _ hs.1 (by omega) (by omega)).mono ?_
    rintro e w2 ⟨y, rfl, hy, hs2⟩
    go_wp2_with fail
    go_ret
    exact ⟨_, rfl, fR_lt _ _ _ _ _, (hs.trans hs2).drewN _⟩
  · refine (below_any g _ _ hs.1 (by omega) (by omega)).mono ?_
    rintro e w2 ⟨y, rfl, hy, hs2⟩
    go_wp2_with fail
    go_ret
    exact ⟨_, rfl, fR_lt _ _ _ _ _, (hs.trans hs2).drewN _⟩
  · refine (below_any g _ _ hs.1 (by omega) (by omega)).mono ?_
    rintro e w2 ⟨y, rfl, hy, hs2⟩
    go_wp2_with fail
    go_ret
    exact ⟨_, rfl, fR_lt _ _ _ _ _, (hs.trans hs2).drewN _⟩
  · refine (below_any g _ _ hs.1 (by omega) (by omega)).mono ?_
    rintro e w2 ⟨y, rfl, hy, hs2⟩
    go_wp2_with fail
    go_ret
    exact ⟨_, rfl, wfk_lit (floatOfInt_wf .f64 _), hs.trans hs2⟩

set_option maxHeartbeats 1000000 in
theorem any_any (g : Nat) (w : World) (h : Cur w g) :
    Calls Try.prog 129 #[.pointer (some ⟨g, 0, none⟩)] w fun e w' => ∃ b : Nat, e = .returned (.float .f64 b) ∧ wfk .f64 b ∧ CurStep w w' g := by
  go_enter Try.func129, Try.ntmps129
  go_wp2_with fail
  refine (once_any g 9 _ h (by omega) (by omega)).mono ?_
  rintro e w1 ⟨b1, rfl, h1⟩
  cases b1
  · go_wp2_with fail
    refine (some_any g _ h1.1).mono ?_
    rintro e w2 ⟨x, rfl, hx, h2⟩
    have h2 := h1.trans h2
    clear h1
    go_wp2_with fail
    refine (once_any g 9 _ h2.1 (by omega) (by omega)).mono ?_
    rintro e w3 ⟨b2, rfl, h3⟩
    have h3 := h2.trans h3
    clear h2
    cases b2
    · go_wp2_with fail
      refine (once_any g 9 _ h3.1 (by omega) (by omega)).mono ?_
      rintro e w4 ⟨b3, rfl, h4⟩
      have h4 := h3.trans h4
      clear h3
      cases b3
      · go_wp2_with fail
        go_ret
        exact ⟨_, rfl, hx, h4⟩
      · go_wp2_with fail
        refine (below_any g 250 _ h4.1 (by omega) (by omega)).mono ?_
        rintro e w5 ⟨k, rfl, hk, h5⟩
        have h5 := h4.trans h5
        clear h4
        have H5 := Lib.hid h5
        clear h5
        go_wp2_with fail
        go_loopw [3, 5] (fun x k wr => ∃ (b : Nat) (j : Int), x = .float .f64 b ∧ wfk .f64 b ∧ k = .int .i64 j ∧ (0 ≤ j ∧ j ≤ 250) ∧ Hid (CurStep w wr g)) (fun _ k _ => (intOf k).toNat)
        case atStart => exact ⟨_, k, rfl, hx, rfl, by omega, H5⟩
        case round =>
          obtain ⟨b, j, rfl, hb, rfl, hj, HC⟩ := hrel
          by_cases hp : 0 < j
          · go_wp2_with fail
            go_roundw
            case rel => exact ⟨_, j - 1, rfl, fR_lt _ _ _ _ _, by go_num, by omega, HC.out.drewN _⟩
            case measure => simp [intOf]; omega
          · go_wp2
            go_ret
            exact ⟨_, rfl, ‹_›, HC.out⟩
    · go_wp2_with fail
      refine (below_any g 250 _ h3.1 (by omega) (by omega)).mono ?_
      rintro e w5 ⟨k, rfl, hk, h5⟩
      have h5 := h3.trans h5
      clear h3
      have H5 := Lib.hid h5
      clear h5
      go_wp2_with fail
      go_loopw [3, 4] (fun x k wr => ∃ (b : Nat) (j : Int), x = .float .f64 b ∧ wfk .f64 b ∧ k = .int .i64 j ∧ (0 ≤ j ∧ j ≤ 250) ∧ Hid (CurStep w wr g)) (fun _ k _ => (intOf k).toNat)
      case atStart => exact ⟨_, k, rfl, hx, rfl, by omega, H5⟩
      case round =>
        clear H5
        obtain ⟨b, j, rfl, hb, rfl, hj, HC⟩ := hrel
        by_cases hp : 0 < j
        · go_wp2_with fail
          go_roundw
          case rel => exact ⟨_, j - 1, rfl, fR_lt _ _ _ _ _, by go_num, by omega, HC.out.drewN _⟩
          case measure => simp [intOf]; omega
        · have h3 := HC.out
          clear HC
          go_wp2_with fail
          refine (once_any g 9 _ h3.1 (by omega) (by omega)).mono ?_
          rintro e w4 ⟨b3, rfl, h4⟩
          have h4 := h3.trans h4
          clear h3
          cases b3
          · go_wp2_with fail
            go_ret
            exact ⟨_, rfl, hb, h4⟩
          · go_wp2_with fail
            refine (below_any g 250 _ h4.1 (by omega) (by omega)).mono ?_
            rintro e w5 ⟨k, rfl, hk, h5⟩
            have h5 := h4.trans h5
            clear h4
            have H5 := Lib.hid h5
            clear h5
            go_wp2_with fail
            go_loopw [3, 5] (fun x k wr => ∃ (b : Nat) (j : Int), x = .float .f64 b ∧ wfk .f64 b ∧ k = .int .i64 j ∧ (0 ≤ j ∧ j ≤ 250) ∧ Hid (CurStep w wr g)) (fun _ k _ => (intOf k).toNat)
            case atStart => exact ⟨_, k, rfl, hb, rfl, by omega, H5⟩
            case round =>
              obtain ⟨b, j, rfl, hb, rfl, hj, HC⟩ := hrel
              by_cases hp : 0 < j
              · go_wp2_with fail
                go_roundw
                case rel => exact ⟨_, j - 1, rfl, fR_lt _ _ _ _ _, by go_num, by omega, HC.out.drewN _⟩
                case measure => simp [intOf]; omega
              · go_wp2
                go_ret
                exact ⟨_, rfl, ‹_›, HC.out⟩
  · go_wp2_with fail
    refine (odd_any g _ h1.1).mono ?_
    rintro e w2 ⟨x, rfl, hx, h2⟩
    have h2 := h1.trans h2
    clear h1
    go_wp2_with fail
    go_ret
    exact ⟨_, rfl, hx, h2⟩
end Go.Proofs.Ytignncjmbcdpaaa
