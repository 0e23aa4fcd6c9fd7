/-
laws.fresh.
-/
import Derived.Test.YtignncjmbcdpaaaSmall
import Derived.Test.YtignncjmbcdpaaaAids
namespace Go.Proofs.Ytignncjmbcdpaaa
open Go Go.RowKit Ieee

theorem u8_info : (Try.prog.info? 5).map (fun i => (i.zero, i.size, i.bytes)) = some (some (.int .u8 0), 1, 1) := by kernel_rfl
theorem owns_one (w : World) (e : TypeId) (v : Value) : (w.alloc (.cells #[v] e)).ownsRow w.heap.size e 1 (.slice (some ⟨w.heap.size, 0, none⟩) 1 1) 1 [v] :=
  ⟨rfl, .inr ⟨w.heap.size, 1, #[v], rfl, Nat.le_refl _, heap_alloc_new w _, Nat.le_refl _, by simp [maxLen], rfl, rfl⟩⟩

set_option maxRecDepth 100000 in
set_option maxHeartbeats 600000 in
theorem fresh_any (A : Option Addr) (cp : Nat) (bs : List Int) (salt : Int) (w : World) (hr : Rd w A (bs.map (.int .u8))) (hm : bs.length ≤ 1048576) (hb : ∀ i, i < bs.length → 0 ≤ bs.getD i 0 ∧ bs.getD i 0 ≤ 255) (hs : salt = 3 ∨ salt = 5 ∨ salt = 7) :
    Calls Try.prog 21 #[.slice A bs.length cp, .int .i64 salt] w fun e w' => ∃ (A' : Option Addr) (c' : Nat) (ys : List Int), e = .returned (.slice A' ys.length c') ∧ Rd w' A' (ys.map (.int .u8)) ∧ ys.length ≤ 601 ∧ Below w.heap.size w w' := by
  rcases hs with rfl | rfl | rfl
  all_goals
    go_enter Try.func21, Try.ntmps21
    go_wp2_with fail
    go_loopw [5, 6] (fun v i wr => ∃ (k : Nat) (ys : List Int), i = .int .i64 (k : Int) ∧ k ≤ bs.length ∧ k ≤ 600 ∧ wr.ownsRow w.heap.size 5 1 v (k + 1) (ys.map (.int .u8)) ∧ Below w.heap.size w wr) (fun _ i _ => bs.length - (intOf i).toNat)
    case atStart => exact ⟨0, [_], rfl, by omega, by omega, owns_one w _ _, (Below.refl w.heap.size w).alloc (Nat.le_refl _) _⟩
    case round =>
      obtain ⟨k, ys, rfl, hk, hk6, hown, hbel⟩ := hrel
      by_cases hlt : k < bs.length
      · by_cases h6 : k < 600
        · obtain ⟨b, off, rfl, hbk, hc⟩ := (hr.below hbel) (by simp; omega)
          have e1 := hc k (.int .u8 (bs.getD k 0)) (by simp [List.getD, List.getElem?_eq_getElem hlt])
          have hx := hb k hlt
          have hsz := hbel.size
          generalize bs.getD k 0 = x at *
          clear hc
          go_wp2_with (at_builtin; refine wpList_app1 rfl (.tmp 20) (.tmp 34) 22 rfl w.heap.size 5 (.int .u8 0) 1 Try.underlying22 u8_info rfl u5 (k + 1) (ys.map (.int .u8)) _ rfl rfl rfl hown hsz (by omega) (by omega) ?_; intro v' w' hown' hbel')
          go_roundw
          case rel => exact ⟨k + 1, ys ++ [_], by go_num, by omega, by omega, by rw [List.map_append]; exact hown', hbel.trans hbel'⟩
          case measure => simp [intOf]; omega
        · go_wp2_with fail
          go_ret
          obtain ⟨A', cap, hv, hl, hrd⟩ := own_rd hown
          have hl' : ys.length = k + 1 := by simpa using hl
          exact ⟨A', cap, ys, by rw [hl', ← hv]; rfl, hrd, by omega, hbel⟩
      · go_wp2_with fail
        go_ret
        obtain ⟨A', cap, hv, hl, hrd⟩ := own_rd hown
        have hl' : ys.length = k + 1 := by simpa using hl
        exact ⟨A', cap, ys, by rw [hl', ← hv]; rfl, hrd, by omega, hbel⟩
end Go.Proofs.Ytignncjmbcdpaaa
