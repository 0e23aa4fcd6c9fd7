/-
What spec.FirstDifference returns.
-/
import Derived.Test.YtignncjmbcdpaaaSlices32
import Derived.Lib.MinMax
namespace Go.Proofs.Ytignncjmbcdpaaa
open Go Go.RowKit Ieee

/-- Both have an element there, the same one. -/
def AlikeAt (xs ys : List Nat) (k : Nat) : Prop := k < xs.length ∧ k < ys.length ∧ sameB .f32 (xs.getD k 0) (ys.getD k 0) = true
/-- The first difference. -/
def FirstDiff (xs ys : List Nat) (r : Int) : Prop :=
  (∃ k : Nat, r = k ∧ (k < xs.length ∨ k < ys.length) ∧ ¬ AlikeAt xs ys k ∧ ∀ j, j < k → AlikeAt xs ys j) ∨ (r = -1 ∧ ∀ j, j < xs.length ∨ j < ys.length → AlikeAt xs ys j)
theorem FirstDiff.unique {xs ys : List Nat} {r s : Int} (h : FirstDiff xs ys r) (h' : FirstDiff xs ys s) : r = s := by
  rcases h with ⟨k, rfl, hk, hn, hj⟩ | ⟨rfl, hj⟩ <;> rcases h' with ⟨k', rfl, hk', hn', hj'⟩ | ⟨rfl, hj'⟩
  · rcases Nat.lt_trichotomy k k' with h | h | h
    · exact absurd (hj' k h) hn
    · rw [h]
    · exact absurd (hj k' h) hn'
  · exact absurd (hj' k hk) hn
  · exact absurd (hj k' hk') hn'
  · rfl
def FdPost (xs ys : List Nat) (w : World) (e : Ending) (w' : World) : Prop := ∃ (r : Int) (n : Nat), e = .returned (.int .i64 r) ∧ FirstDiff xs ys r ∧ w.drewN n = w'

set_option maxHeartbeats 1000000 in
theorem spec_firstDiff (A B : Option Addr) (c d : Nat) (xs ys : List Nat) (w : World) (hr : Rd w A (f32s xs)) (hs : Rd w B (f32s ys)) (hm : xs.length ≤ 1048576) (hl : ys.length ≤ 1048576)
    (wx : ∀ i, i < xs.length → wfk .f32 (xs.getD i 0)) (wy : ∀ i, i < ys.length → wfk .f32 (ys.getD i 0)) :
    Calls Try.prog 75 #[.slice A xs.length c, .slice B ys.length d] w (FdPost xs ys w) := by
  go_enter Try.func75, Try.ntmps75
  go_wp2
  go_loopw [5] (fun i wr => ∃ k n : Nat, (∀ j, j < k → AlikeAt xs ys j) ∧ (k ≤ xs.length ∧ k ≤ ys.length) ∧ i = .int .i64 k ∧ wr = w.drewN n) (fun i _ => xs.length - (intOf i).toNat)
  case atStart => exact ⟨0, 0, fun _ h => absurd h (Nat.not_lt_zero _), by omega, rfl, rfl⟩
  case round =>
    obtain ⟨k, n, hj, hk, rfl, rfl⟩ := hrel
    have Hj := Lib.hid hj
    clear hj
    by_cases h1 : k < xs.length
    · have g0 : decide (k < xs.length) = true := by simp; omega
      have g1 : decide (xs.length ≤ k) = false := by simp; omega
      by_cases h2 : k < ys.length
      · obtain ⟨b, off, rfl, hb, hc⟩ := hr (by simp; omega)
        obtain ⟨b', off', rfl, hb', hc'⟩ := hs (by simp; omega)
        have e1 := hc k _ (f32s_at h1)
        have e2 := hc' k _ (f32s_at h2)
        clear hc hc'
        have v1 := fun w => isF_wid (wx k h1) w
        have v2 := fun w => isF_wid (wy k h2) w
        have W1 := wx k h1
        have W2 := wy k h2
        have Hd : Hid (AlikeAt xs ys k ↔ sameB .f32 (xs.getD k 0) (ys.getD k 0) = true) := ⟨fun h => h.2.2, fun h => ⟨h1, h2, h⟩⟩
        clear wx wy
        generalize xs.getD k 0 = x at *
        generalize ys.getD k 0 = y at *
        have g2 : decide (ys.length ≤ k) = false := by simp; omega
        have Hl := Lib.hid (fun r1 r2 (w1 : wfk .f64 r1) (w2 : wfk .f64 r2) h1 h2 => l8Same_wid (x := x) (y := y) W1 W2 w1 w2 h1 h2)
        clear W1 W2
        cases hsb : sameB .f32 x y <;> rw [hsb] at Hd Hl <;> clear hsb
        all_goals
          go_wp2
          refine wp_region_rx (by kernel_rfl) (by kernel_rfl) ?_; apply Exists.intro
          repeat (first | (apply wpR_val; intro K hK; go_simp; refine ⟨rfl, hK _ ?_⟩; clear hK K) | (apply wpR_skip; intro K hK; go_simp; refine hK _ ?_; clear hK K))
          apply wpR_any (R := isF .f64 (wid x)); intro K hK; go_simp; rintro _ ⟨r1, rfl, hr1, hw1⟩; refine hK _ ?_; clear hK K
          have Hr1 := Lib.hid hr1
          clear hr1
          repeat (first | (apply wpR_val; intro K hK; go_simp; refine ⟨rfl, hK _ ?_⟩; clear hK K) | (apply wpR_skip; intro K hK; go_simp; refine hK _ ?_; clear hK K))
          apply wpR_any (R := isF .f64 (wid y)); intro K hK; go_simp; rintro _ ⟨r2, rfl, hr2, hw2⟩; refine hK _ ?_; clear hK K
          have Hr2 := Lib.hid hr2
          clear hr2
          first
            | (apply wpR_val (v := .bool false); intro K hK; go_simp; refine ⟨fun m => rcall_same (Hl.out _ _ hw1 hw2 Hr1.out Hr2.out _), hK _ ?_⟩; clear hK K)
            | (apply wpR_val (v := .bool true); intro K hK; go_simp; refine ⟨fun m => rcall_same (Hl.out _ _ hw1 hw2 Hr1.out Hr2.out _), hK _ ?_⟩; clear hK K)
          repeat (first | (apply wpR_val; intro K hK; go_simp; refine ⟨rfl, hK _ ?_⟩; clear hK K) | (apply wpR_skip; intro K hK; go_simp; refine hK _ ?_; clear hK K))
          apply wpR_nil (Rs := []); rintro _ ⟨nq, rfl⟩
          go_wp2
        · go_ret
          exact ⟨k, _, rfl, .inl ⟨k, rfl, .inl h1, fun h => (by have h3 := Hd.out.1 h; simp at h3), Hj.out⟩, (World.drewN_drewN _ _ _).symm⟩
        · go_roundw
          case rel => exact ⟨k + 1, _, fun j hj => (by rcases Nat.lt_succ_iff_lt_or_eq.1 hj with h | rfl; exact Hj.out j h; exact Hd.out.2 (by simp)), by omega, by go_num, rfl⟩
          case measure => simp [intOf]; omega
      · have g2 : decide (ys.length ≤ k) = true := by simp; omega
        have Hd : Hid (¬ AlikeAt xs ys k) := fun h => h2 h.2.1
        go_wp2
        refine wp_region_rx (by kernel_rfl) (by kernel_rfl) ?_; apply Exists.intro
        repeat (first | (apply wpR_val; intro K hK; go_simp; refine ⟨rfl, hK _ ?_⟩; clear hK K) | (apply wpR_skip; intro K hK; go_simp; refine hK _ ?_; clear hK K))
        apply wpR_nil (Rs := []); rintro _ ⟨nq, rfl⟩
        go_wp2
        go_ret
        exact ⟨k, _, rfl, .inl ⟨k, rfl, .inl h1, Hd.out, Hj.out⟩, (World.drewN_drewN _ _ _).symm⟩
    · have g0 : decide (k < xs.length) = false := by simp; omega
      by_cases h2 : k < ys.length
      · have g1 : decide (xs.length ≤ k) = true := by simp; omega
        have g3 : decide (k < ys.length) = true := by simp; omega
        have Hd : Hid (¬ AlikeAt xs ys k) := fun h => h1 h.1
        go_wp2
        refine wp_region_rx (by kernel_rfl) (by kernel_rfl) ?_; apply Exists.intro
        repeat (first | (apply wpR_val; intro K hK; go_simp; refine ⟨rfl, hK _ ?_⟩; clear hK K) | (apply wpR_skip; intro K hK; go_simp; refine hK _ ?_; clear hK K))
        apply wpR_nil (Rs := []); rintro _ ⟨nq, rfl⟩
        go_wp2
        go_ret
        exact ⟨k, _, rfl, .inl ⟨k, rfl, .inr h2, Hd.out, Hj.out⟩, (World.drewN_drewN _ _ _).symm⟩
      · have g3 : decide (k < ys.length) = false := by simp; omega
        go_wp2
        go_ret
        exact ⟨-1, _, rfl, .inr ⟨rfl, fun j hj => Hj.out j (by omega)⟩, rfl⟩
end Go.Proofs.Ytignncjmbcdpaaa
