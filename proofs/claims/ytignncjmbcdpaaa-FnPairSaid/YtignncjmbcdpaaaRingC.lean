/-
RingMode: a mode of double precision that rings.
-/
import Derived.Test.YtignncjmbcdpaaaStart
import Derived.Test.YtignncjmbcdpaaaHalved
namespace Go.Proofs.Ytignncjmbcdpaaa
open Go Go.RowKit Ieee

/-- The state after so many steps. -/
def zC (p a : Nat × Nat) : Nat → Nat × Nat
  | 0 => a
  | n + 1 => (mulRe (zC p a n).1 (zC p a n).2 p.1 p.2, mulIm (zC p a n).1 (zC p a n).2 p.1 p.2)
def finC (z : Nat × Nat) : Prop := fin .f64 z.1 ∧ fin .f64 z.2
def c64s (zs : List (Nat × Nat)) : List Value := zs.map fun z => .complex .f64 z.1 z.2
def zList (p a : Nat × Nat) (n : Nat) : List (Nat × Nat) := (List.range n).map (zC p a)
theorem zList_len (p a : Nat × Nat) (n : Nat) : (zList p a n).length = n := by simp [zList]
theorem zList_snoc (p a : Nat × Nat) (n : Nat) : c64s (zList p a n) ++ [.complex .f64 (zC p a n).1 (zC p a n).2] = c64s (zList p a (n + 1)) := by
  simp [c64s, zList, List.range_succ]
theorem c128_info : (Try.prog.info? 33).map (fun i => (i.zero, i.size, i.bytes)) = some (some (.complex .f64 0 0), 1, 16) := by kernel_rfl
theorem specTimes_fin (a b c d : Nat) (w : World) (h1 : fin .f64 (mulRe a b c d)) (h2 : fin .f64 (mulIm a b c d)) : Calls Try.prog 25 #[.complex .f64 a b, .complex .f64 c d] w fun e w' => ∃ n, e = .returned (.complex .f64 (mulRe a b c d) (mulIm a b c d)) ∧ w.drewN n = w' := by
  refine (specTimes_any a b c d w).mono ?_
  rintro e w' ⟨p, q, n, rfl, hp, hq, _, _, rfl⟩
  exact ⟨n, by rw [nrm_fin_eq (hp.trans (nrm_fin h1)) h1, nrm_fin_eq (hq.trans (nrm_fin h2)) h2], rfl⟩
theorem implTimes_fin (a b c d : Nat) (w : World) (h1 : fin .f64 (mulRe a b c d)) (h2 : fin .f64 (mulIm a b c d)) : Calls Try.prog 79 #[.complex .f64 a b, .complex .f64 c d] w fun e w' => ∃ n, e = .returned (.complex .f64 (mulRe a b c d) (mulIm a b c d)) ∧ w.drewN n = w' := by
  refine (implTimes_any a b c d w).mono ?_
  rintro e w' ⟨p, q, n, rfl, hp, hq, _, _, rfl⟩
  exact ⟨n, by rw [nrm_fin_eq (hp.trans (nrm_fin h1)) h1, nrm_fin_eq (hq.trans (nrm_fin h2)) h2], rfl⟩

/-- What RingMode returns. -/
def RingPost (p a : Nat × Nat) (n : Nat) (w : World) (e : Ending) (w' : World) : Prop :=
  ∃ A' c', e = .returned (.tuple #[.slice A' n c', .bool true]) ∧ w'.ownsRow w.heap.size 33 1 (.slice A' n c') n (c64s (zList p a n)) ∧ Below w.heap.size w w'

set_option maxRecDepth 100000 in
set_option maxHeartbeats 600000 in
theorem specRing_any (p a : Nat × Nat) (n : Nat) (w : World) (hn : n ≤ 2000) (hf : ∀ k, k ≤ n → finC (zC p a k)) :
    Calls Try.prog 22 #[.complex .f64 p.1 p.2, .complex .f64 a.1 a.2, .int .i64 n] w (RingPost p a n w) := by
  have HF := Lib.hid hf
  have hin : (decide ((0 : Int) ≤ (n : Int)) && decide ((n : Int) ≤ 2000)) = true := by simp; omega
  clear hf
  go_enter Try.func22, Try.ntmps22
  go_wp2_with fail
  refine (l1In_any n 0 2000 _).mono ?_
  rintro e w' ⟨rfl, rfl⟩
  rw [hin]
  go_wp2_with fail
  have hown0 := owns_empty w 33
  have hb0 : Below w.heap.size w (w.alloc (.cells #[] 33)) := (Below.refl w.heap.size w).alloc (Nat.le_refl _) _
  generalize w.alloc (.cells #[] 33) = W0 at *
  go_loopw [8, 9, 10] (fun v z i wr => ∃ k : Nat, i = .int .i64 (k : Int) ∧ k ≤ n ∧ z = .complex .f64 (zC p a k).1 (zC p a k).2 ∧ wr.ownsRow w.heap.size 33 1 v k (c64s (zList p a k)) ∧ Below w.heap.size w wr) (fun _ _ i _ => n - (intOf i).toNat)
  case atStart => exact ⟨0, rfl, by omega, rfl, hown0, hb0⟩
  case round =>
    clear hown0 hb0
    obtain ⟨k, rfl, hk, rfl, hown, hbel⟩ := hrel
    by_cases hlt : k < n
    · have hsz := hbel.size
      have F := HF.out (k + 1) (by omega)
      have hz : zC p a (k + 1) = (mulRe (zC p a k).1 (zC p a k).2 p.1 p.2, mulIm (zC p a k).1 (zC p a k).2 p.1 p.2) := rfl
      rw [hz] at F
      have HFk := Lib.hid F
      have HZ := Lib.hid hz
      have hsn := Lib.hid (zList_snoc p a k)
      clear F hz
      generalize (zC p a k).1 = x at *
      generalize (zC p a k).2 = y at *
      go_wp2_with (at_builtin; refine wpList_app1 rfl (.tmp 21) (.tmp 23) 36 rfl w.heap.size 33 (.complex .f64 0 0) 16 Try.underlying36 c128_info rfl u8 k (c64s (zList p a k)) _ rfl rfl rfl hown hsz (by omega) (by omega) ?_; intro v' w' hown' hbel')
      rw [hsn.out] at hown'
      have hb2 := hbel.trans hbel'
      clear hown hbel hbel' hsz
      refine (specTimes_fin x y p.1 p.2 _ HFk.out.1 HFk.out.2).mono ?_
      rintro e w'' ⟨m, rfl, rfl⟩
      go_wp2_with fail
      go_roundw
      case rel => exact ⟨k + 1, by go_num, by omega, by rw [HZ.out], hown', below_drewN hb2 _⟩
      case measure => simp [intOf]; omega
    · obtain rfl : k = n := by omega
      go_wp2_with fail
      go_ret2
      obtain ⟨A', cap, hv, hl, hrd⟩ := own_rd hown
      subst hv
      unfold RingPost
      exact ⟨A', cap, rfl, hown, hbel⟩
set_option maxHeartbeats 400000 in
theorem count_any (n : Int) (w : World) : Calls Try.prog 94 #[.int .i64 n] w fun e w' => e = .returned (.bool (decide (0 ≤ n) && decide (n ≤ 2000))) ∧ w = w' := by
  by_cases h1 : 0 ≤ n
  · by_cases h2 : n ≤ 2000
    · go_enter Try.func94, Try.ntmps94
      go_wp2_with fail
      go_ret
      exact ⟨by simp [h1, h2], rfl⟩
    · go_enter Try.func94, Try.ntmps94
      go_wp2_with fail
      go_ret
      exact ⟨by simp [h1, h2], rfl⟩
  · go_enter Try.func94, Try.ntmps94
    go_wp2_with fail
    go_ret
    exact ⟨by rw [decide_eq_false (Int.not_le.2 h1)]; rfl, rfl⟩
set_option maxRecDepth 100000 in
set_option maxHeartbeats 600000 in
theorem implRing_any (p a : Nat × Nat) (n : Nat) (w : World) (hn : n ≤ 2000) (hf : ∀ k, k ≤ n → finC (zC p a k)) :
    Calls Try.prog 45 #[.complex .f64 p.1 p.2, .complex .f64 a.1 a.2, .int .i64 n] w (RingPost p a n w) := by
  have HF := Lib.hid hf
  have hin : (decide ((0 : Int) ≤ (n : Int)) && decide ((n : Int) ≤ 2000)) = true := by simp; omega
  clear hf
  go_enter Try.func45, Try.ntmps45
  go_wp2_with fail
  refine (count_any n _).mono ?_
  rintro e w' ⟨rfl, rfl⟩
  rw [hin]
  go_wp2_with fail
  have hown0 := owns_empty w 33
  have hb0 : Below w.heap.size w (w.alloc (.cells #[] 33)) := (Below.refl w.heap.size w).alloc (Nat.le_refl _) _
  generalize w.alloc (.cells #[] 33) = W0 at *
  go_loopw [8, 9, 16] (fun v z i wr => ∃ k : Nat, i = .int .i64 (k : Int) ∧ k ≤ n ∧ z = .complex .f64 (zC p a k).1 (zC p a k).2 ∧ wr.ownsRow w.heap.size 33 1 v k (c64s (zList p a k)) ∧ Below w.heap.size w wr) (fun _ _ i _ => n - (intOf i).toNat)
  case atStart => exact ⟨0, rfl, by omega, rfl, hown0, hb0⟩
  case round =>
    clear hown0 hb0
    obtain ⟨k, rfl, hk, rfl, hown, hbel⟩ := hrel
    by_cases hlt : k < n
    · have hsz := hbel.size
      have F := HF.out (k + 1) (by omega)
      have hz : zC p a (k + 1) = (mulRe (zC p a k).1 (zC p a k).2 p.1 p.2, mulIm (zC p a k).1 (zC p a k).2 p.1 p.2) := rfl
      rw [hz] at F
      have HFk := Lib.hid F
      have HZ := Lib.hid hz
      have hsn := Lib.hid (zList_snoc p a k)
      clear F hz
      generalize (zC p a k).1 = x at *
      generalize (zC p a k).2 = y at *
      go_wp2_with (at_builtin; refine wpList_app1 rfl (.tmp 18) (.tmp 20) 36 rfl w.heap.size 33 (.complex .f64 0 0) 16 Try.underlying36 c128_info rfl u8 k (c64s (zList p a k)) _ rfl rfl rfl hown hsz (by omega) (by omega) ?_; intro v' w' hown' hbel')
      rw [hsn.out] at hown'
      have hb2 := hbel.trans hbel'
      clear hown hbel hbel' hsz
      refine (implTimes_fin x y p.1 p.2 _ HFk.out.1 HFk.out.2).mono ?_
      rintro e w'' ⟨m, rfl, rfl⟩
      go_wp2_with fail
      go_roundw
      case rel => exact ⟨k + 1, by go_num, by omega, by rw [HZ.out], hown', below_drewN hb2 _⟩
      case measure => simp [intOf]; omega
    · obtain rfl : k = n := by omega
      go_wp2_with fail
      go_ret2
      obtain ⟨A', cap, hv, hl, hrd⟩ := own_rd hown
      subst hv
      unfold RingPost
      exact ⟨A', cap, rfl, hown, hbel⟩
end Go.Proofs.Ytignncjmbcdpaaa
