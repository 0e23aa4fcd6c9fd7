/-
HalfLife of both packages at a valid mode.
-/
import Derived.Test.YtignncjmbcdpaaaModeAsk
namespace Go.Proofs.Ytignncjmbcdpaaa
open Go Go.RowKit Ieee

set_option maxHeartbeats 400000 in
theorem l1In_any (n lo hi : Int) (w : World) : Calls Try.prog 76 #[.int .i64 n, .int .i64 lo, .int .i64 hi] w fun e w' => e = .returned (.bool (decide (lo ≤ n) && decide (n ≤ hi))) ∧ w = w' := by
  by_cases h1 : lo ≤ n
  · by_cases h2 : n ≤ hi
    · go_enter Try.func76, Try.ntmps76
      go_wp2_with fail
      go_ret
      exact ⟨by simp [h1, h2], rfl⟩
    · go_enter Try.func76, Try.ntmps76
      go_wp2_with fail
      go_ret
      exact ⟨by simp [h1, h2], rfl⟩
  · go_enter Try.func76, Try.ntmps76
    go_wp2_with fail
    go_ret
    exact ⟨by rw [decide_eq_false (Int.not_le.2 h1)]; rfl, rfl⟩

theorem zAt_succ (a b c d n : Nat) : zAt a b c d (n + 1) = (sRe (zAt a b c d n).1 (zAt a b c d n).2 a b, sIm (zAt a b c d n).1 (zAt a b c d n).2 a b) := rfl
theorem sizeW_any (x y : Nat) (w : World) {a b : Nat} (h : ZOk a b x y) : Calls Try.prog 28 #[.complex .f64 (wid x) (wid y)] w fun e w' => ∃ n, e = .returned (.float .f64 (sizeZ (x, y))) ∧ w.drewN n = w' := by
  refine (implSize_any _ _ w (wid_lt _) (wid_lt _)).mono ?_
  rintro e w' ⟨r, n, rfl, hr, _, rfl⟩
  exact ⟨n, by rw [nrm_fin_eq (show nrm .f64 r = sizeZ (x, y) from hr) (size_ok h).1], rfl⟩
theorem sizeS_any (x y : Nat) (p q : Nat) (w : World) {a b : Nat} (h : ZOk a b x y) (hp : p = wid x) (hq : q = wid y) : Calls Try.prog 56 #[.complex .f64 p q] w fun e w' => ∃ n, e = .returned (.float .f64 (sizeZ (x, y))) ∧ w.drewN n = w' := by
  subst hp hq
  refine (specSize_any _ _ w).mono ?_
  rintro e w' ⟨r, n, rfl, hr, _, rfl⟩
  rw [(size_ok h).2.1] at hr
  exact ⟨n, by rw [nrm_fin_eq (show nrm .f64 r = sizeZ (x, y) from hr) (size_ok h).1], rfl⟩
theorem halved_test {a b c d n x y : Nat} (h : ZOk a b x y) (hz : (x, y) = zAt a b c d n) (w : World) : fle .f64 (fR .mul .f64 4611686018427387904 (sizeZ (x, y)) w) (sizeZ (c, d)) = halved a b c d n := by
  rw [rnd_eq (size_ok h).2.2 w]; unfold halved; rw [hz]

/-- What HalfLife returns. -/
def HalfPost (a b c d : Nat) (most : Int) (w : World) (e : Ending) (w' : World) : Prop :=
  ∃ k t, e = .returned (.tuple #[.int .i64 k, .bool t]) ∧ Half a b c d most k t ∧ Below w.heap.size w w'
set_option maxRecDepth 100000 in
set_option maxHeartbeats 400000 in
theorem implHalf_any (a b c d : Nat) (most : Int) (w : World) (h : ModeOk a b c d) (h1 : 1 ≤ most) (h2 : most ≤ 2000) :
    Calls Try.prog 36 #[.agg #[.complex .f32 a b, .complex .f32 c d], .int .i64 most] w (HalfPost a b c d most w) := by
  have H := Lib.hid h
  have Z0 := Lib.hid (h.at w 0 (by omega))
  have F1 := Lib.hid (wid_fin (fin_of_wid h.fc)).1
  have F2 := Lib.hid (wid_fin (fin_of_wid h.fd)).1
  clear h
  go_enter Try.func36, Try.ntmps36
  go_wp2_with fail
  have HB : Hid (Below w.heap.size w (w.alloc (.cells #[.complex .f32 a b, .complex .f32 c d] 52))) := (Below.refl w.heap.size w).alloc (Nat.le_refl _) _
  have hm : (w.alloc (.cells #[.complex .f32 a b, .complex .f32 c d] 52)).heap[w.heap.size]? = some (.cells #[.complex .f32 a b, .complex .f32 c d] 52 (0, 0)) := heap_alloc_new w _
  have hlt : w.heap.size < (w.alloc (.cells #[.complex .f32 a b, .complex .f32 c d] 52)).heap.size := by simp
  have HM := Lib.hid hm
  obtain ⟨c0, c1, _, _⟩ := m_cells hm
  clear hm
  generalize w.alloc (.cells #[.complex .f32 a b, .complex .f32 c d] 52) = W at *
  refine (implMode_ok a b c d _ H.out).mono ?_
  rintro e W2 ⟨rfl, hb⟩
  have HM2 : Hid (W2.heap[w.heap.size]? = some (.cells #[.complex .f32 a b, .complex .f32 c d] 52 (0, 0))) := (hb.block w.heap.size hlt).trans HM.out
  have HB2 : Hid (Below w.heap.size w W2) := HB.out.trans (hb.mono (by omega))
  obtain ⟨d0, d1, _, _⟩ := m_cells HM2.out
  clear hb c0 c1 HB HM hlt
  go_wp2_with fail
  go_region_with (first
    | (go_at_call 90
       refine (implWiden_fin c d _ H.out.wc H.out.wd F1.out F2.out).mono ?_
       rintro e w' ⟨n1, rfl, rfl⟩)
    | (go_at_call 28
       refine (sizeW_any c d _ Z0.out).mono ?_
       rintro e w' ⟨n2, rfl, rfl⟩))
  all_goals
    go_wp2_with fail
    go_loopw [7, 8] (fun z i wr => ∃ (n x y m : Nat), z = .complex .f32 x y ∧ i = .int .i64 ((n : Int) + 1) ∧ (n : Int) ≤ most ∧ Hid ((x, y) = zAt a b c d n) ∧ Hid (∀ j : Nat, 1 ≤ j → j ≤ n → halved a b c d j = false) ∧ wr = W2.drewN m) (fun _ i _ => (most + 1 - intOf i).toNat)
    case atStart => exact ⟨0, c, d, _, rfl, rfl, by omega, rfl, fun j j1 j2 => by omega, rfl⟩
    case round =>
      obtain ⟨n, x, y, m, rfl, rfl, hn, hz, hno, rfl⟩ := hrel
      by_cases hj : (n : Int) < most
      · have Z1 : Hid (ZOk a b x y) := by have := H.out.at w n (by omega); rw [← hz.out] at this; exact this
        have hz2 : Hid ((sRe x y a b, sIm x y a b) = zAt a b c d (n + 1)) := by rw [zAt_succ, ← hz.out]; rfl
        have Z2 : Hid (ZOk a b (sRe x y a b) (sIm x y a b)) := by have := H.out.at w (n + 1) (by omega); rw [← hz2.out] at this; exact this
        have G1 := Lib.hid (wid_fin Z2.out.fx).1
        have G2 := Lib.hid (wid_fin Z2.out.fy).1
        have T0 := Lib.hid (halved_test Z2.out hz2.out)
        go_wp2_with fail
        refine (implSingle_any x y a b _ Z1.out.wx Z1.out.wy H.out.wa H.out.wb Z1.out.mild).mono ?_
        rintro e w' ⟨n3, rfl, rfl⟩
        go_wp2_with fail
        refine (implWiden_fin _ _ _ Z2.out.wx Z2.out.wy G1.out G2.out).mono ?_
        rintro e w' ⟨n4, rfl, rfl⟩
        go_wp2_with fail
        refine (sizeW_any _ _ _ Z2.out).mono ?_
        rintro e w' ⟨n5, rfl, rfl⟩
        cases t : halved a b c d (n + 1)
        · have T : ∀ w, fle .f64 (fR .mul .f64 4611686018427387904 (sizeZ (sRe x y a b, sIm x y a b)) w) (sizeZ (c, d)) = false := fun w => (T0.out w).trans t
          have N := Lib.hid t
          clear t
          go_wp2_with fail
          go_roundw
          case rel => exact ⟨n + 1, _, _, _, rfl, by go_num, by omega, hz2, fun j j1 j2 => (by
            rcases Nat.lt_or_ge n j with h | h
            · obtain rfl : j = n + 1 := by omega
              exact N.out
            · exact hno.out j j1 h), rfl⟩
          case measure => simp [intOf]; omega
        · have T : ∀ w, fle .f64 (fR .mul .f64 4611686018427387904 (sizeZ (sRe x y a b, sIm x y a b)) w) (sizeZ (c, d)) = true := fun w => (T0.out w).trans t
          have N := Lib.hid t
          clear t
          go_wp2_with fail
          go_ret2
          unfold HalfPost
          exact ⟨_, _, rfl, .inl ⟨rfl, by omega, by omega, by rw [show ((n : Int) + 1).toNat = n + 1 by omega]; exact N.out, fun j j1 j2 => hno.out j j1 (by omega)⟩, below_drewN HB2.out _⟩
      · go_wp2_with fail
        go_ret2
        unfold HalfPost
        exact ⟨_, _, rfl, .inr ⟨rfl, rfl, fun j j1 j2 => hno.out j j1 (by omega)⟩, below_drewN HB2.out _⟩
end Go.Proofs.Ytignncjmbcdpaaa
