/-
What spec.CrossingsOf and impl.CrossingsOf return.
-/
import Derived.Test.YtckdfmalmdclgaaSlices32
namespace Go.Proofs.Ytckdfmalmdclgaa
open Go Go.RowKit

/-- Is there a crossing at 'i'? -/
def crossAt (bs : List Nat) (i : Nat) : Bool := flt .f32 (bs.getD (i - 1) 0) 0 && fge .f32 (bs.getD i 0) 0
/-- The crossings at 1 .. n - 1. -/
def cross (bs : List Nat) : Nat → Nat
  | 0 => 0
  | n + 1 => cross bs n + if n ≠ 0 ∧ crossAt bs n = true then 1 else 0

theorem cross_le (bs : List Nat) (n : Nat) : cross bs n ≤ n := by
  induction n with
  | zero => simp [cross]
  | succ n ih => simp only [cross]; split <;> omega
theorem cross_yes {bs : List Nat} {k : Nat} (h1 : 1 ≤ k) (h : flt .f32 (bs.getD (k - 1) 0) 0 = true) (h' : fge .f32 (bs.getD k 0) 0 = true) : ((cross bs k : Nat) : Int) + 1 = (cross bs (k + 1) : Nat) := by
  have : crossAt bs k = true := by simp only [crossAt, h, h']; rfl
  simp only [cross]; rw [if_pos ⟨by omega, this⟩]; omega
theorem cross_no {bs : List Nat} {k : Nat} (h : flt .f32 (bs.getD (k - 1) 0) 0 = false ∨ fge .f32 (bs.getD k 0) 0 = false) : cross bs k = cross bs (k + 1) := by
  have : crossAt bs k = false := by unfold crossAt; rcases h with h | h <;> rw [h] <;> simp
  simp [cross, this]
theorem cross_end {bs : List Nat} {k : Nat} (hk : k ≤ bs.length ∨ k = 1) (hge : ¬ k < bs.length) : cross bs k = cross bs bs.length := by
  rcases hk with hk | rfl
  · rw [show k = bs.length by omega]
  · by_cases h : bs.length = 1
    · rw [h]
    · rw [show bs.length = 0 by omega]; simp [cross]

set_option maxHeartbeats 400000 in
theorem spec_crossings (A : Option Addr) (c : Nat) (bs : List Nat) (w : World) (hr : Rd w A (f32s bs)) (hm : bs.length ≤ 1048576) :
    Calls Try.prog 8 #[.slice A bs.length c] w fun e w' => e = .returned (.int .i64 (cross bs bs.length)) ∧ w = w' := by
  go_enter Try.func8, Try.ntmps8
  go_wp2
  go_loop [3, 4] (fun n i => ∃ k : Nat, 1 ≤ k ∧ (k ≤ bs.length ∨ k = 1) ∧ i = .int .i64 k ∧ n = .int .i64 (cross bs k)) (fun _ i => bs.length - (intOf i).toNat)
  case atStart => exact ⟨1, by omega, by omega, rfl, rfl⟩
  case round =>
    obtain ⟨k, h1, hk, rfl, rfl⟩ := hrel
    have hcl := cross_le bs k
    by_cases hlt : k < bs.length
    · obtain ⟨b, off, rfl, hb, hc⟩ := hr (by simp; omega)
      have e1 := hc k _ (f32s_at hlt)
      have e0 := hc (k - 1) _ (f32s_at (by omega))
      clear hc
      have Hy := Lib.hid (cross_yes (bs := bs) h1)
      have Hn := Lib.hid (cross_no (bs := bs) (k := k))
      generalize bs.getD k 0 = x at *
      generalize bs.getD (k - 1) 0 = y at *
      cases t1 : flt .f32 y 0 <;> cases t2 : fge .f32 x 0
      all_goals
        go_wp2
        go_round
        case rel => exact ⟨k + 1, by omega, by omega, by go_num, by first | rw [Hy.out t1 t2] | rw [Hn.out (.inl t1)] | rw [Hn.out (.inr t2)]⟩
        case measure => simp [intOf]; omega
    · go_wp2
      go_ret
      exact ⟨ret_int (by rw [cross_end hk hlt]), rfl⟩

set_option maxHeartbeats 400000 in
theorem impl_crossings (A : Option Addr) (c : Nat) (bs : List Nat) (w : World) (hr : Rd w A (f32s bs)) (hm : bs.length ≤ 1048576) :
    Calls Try.prog 10 #[.slice A bs.length c] w fun e w' => e = .returned (.int .i64 (cross bs bs.length)) ∧ w = w' := by
  go_enter Try.func10, Try.ntmps10
  go_wp2
  go_loop [3, 4] (fun n i => ∃ k : Nat, 1 ≤ k ∧ (k ≤ bs.length ∨ k = 1) ∧ i = .int .i64 k ∧ n = .int .i64 (cross bs k)) (fun _ i => bs.length - (intOf i).toNat)
  case atStart => exact ⟨1, by omega, by omega, rfl, rfl⟩
  case round =>
    obtain ⟨k, h1, hk, rfl, rfl⟩ := hrel
    have hcl := cross_le bs k
    by_cases hlt : k < bs.length
    · obtain ⟨b, off, rfl, hb, hc⟩ := hr (by simp; omega)
      have e1 := hc k _ (f32s_at hlt)
      have e0 := hc (k - 1) _ (f32s_at (by omega))
      clear hc
      have Hy := Lib.hid (cross_yes (bs := bs) h1)
      have Hn := Lib.hid (cross_no (bs := bs) (k := k))
      generalize bs.getD k 0 = x at *
      generalize bs.getD (k - 1) 0 = y at *
      cases t1 : flt .f32 y 0 <;> cases t2 : fge .f32 x 0
      all_goals
        go_wp2
        go_round
        case rel => exact ⟨k + 1, by omega, by omega, by go_num, by first | rw [Hy.out t1 t2] | rw [Hn.out (.inl t1)] | rw [Hn.out (.inr t2)]⟩
        case measure => simp [intOf]; omega
    · go_wp2
      go_ret
      exact ⟨ret_int (by rw [cross_end hk hlt]), rfl⟩

end Go.Proofs.Ytckdfmalmdclgaa
