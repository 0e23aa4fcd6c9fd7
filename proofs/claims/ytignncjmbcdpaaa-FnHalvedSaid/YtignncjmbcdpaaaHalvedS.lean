/-
spec.HalfLife at a valid mode.
-/
import Derived.Test.YtignncjmbcdpaaaHalved
namespace Go.Proofs.Ytignncjmbcdpaaa
open Go Go.RowKit Ieee

set_option maxRecDepth 100000 in
set_option maxHeartbeats 400000 in
theorem specHalf_any (a b c d : Nat) (most : Int) (w : World) (h : ModeOk a b c d) (h1 : 1 ≤ most) (h2 : most ≤ 2000) :
    Calls Try.prog 37 #[.agg #[.complex .f32 a b, .complex .f32 c d], .int .i64 most] w (HalfPost a b c d most w) := by
  have H := Lib.hid h
  have Z0 := Lib.hid (h.at w 0 (by omega))
  have F1 := Lib.hid (fun w => nrm_fin_eq (nrm_wid c w) (wid_fin (fin_of_wid h.fc)).1)
  have F2 := Lib.hid (fun w => nrm_fin_eq (nrm_wid d w) (wid_fin (fin_of_wid h.fd)).1)
  have hin : (decide ((1 : Int) ≤ most) && decide (most ≤ 2000)) = true := by simp; omega
  clear h
  go_enter Try.func37, Try.ntmps37
  go_wp2_with fail
  have HB : Hid (Below w.heap.size w (w.alloc (.cells #[.complex .f32 a b, .complex .f32 c d] 52))) := (Below.refl w.heap.size w).alloc (Nat.le_refl _) _
  have hm : (w.alloc (.cells #[.complex .f32 a b, .complex .f32 c d] 52)).heap[w.heap.size]? = some (.cells #[.complex .f32 a b, .complex .f32 c d] 52 (0, 0)) := heap_alloc_new w _
  have hlt : w.heap.size < (w.alloc (.cells #[.complex .f32 a b, .complex .f32 c d] 52)).heap.size := by simp
  have HM := Lib.hid hm
  obtain ⟨c0, c1, _, _⟩ := m_cells hm
  clear hm
  generalize w.alloc (.cells #[.complex .f32 a b, .complex .f32 c d] 52) = W at *
  refine (specMode_ok a b c d _ H.out).mono ?_
  rintro e W2 ⟨rfl, hb⟩
  have HM2 : Hid (W2.heap[w.heap.size]? = some (.cells #[.complex .f32 a b, .complex .f32 c d] 52 (0, 0))) := (hb.block w.heap.size hlt).trans HM.out
  have HB2 : Hid (Below w.heap.size w W2) := HB.out.trans (hb.mono (by omega))
  obtain ⟨d0, d1, _, _⟩ := m_cells HM2.out
  clear hb c0 c1 HB HM hlt
  go_wp2_with fail
  refine (l1In_any most 1 2000 _).mono ?_
  rintro e w' ⟨rfl, rfl⟩
  rw [hin]
  go_wp2_with fail
  go_loopw [6, 7] (fun z i wr => ∃ (n x y m : Nat), z = .complex .f32 x y ∧ i = .int .i64 ((n : Int) + 1) ∧ (n : Int) ≤ most ∧ Hid ((x, y) = zAt a b c d n) ∧ Hid (∀ j : Nat, 1 ≤ j → j ≤ n → halved a b c d j = false) ∧ wr = W2.drewN m) (fun _ i _ => (most + 1 - intOf i).toNat)
  case atStart => exact ⟨0, c, d, 0, rfl, rfl, by omega, rfl, fun j j1 j2 => by omega, rfl⟩
  case round =>
    obtain ⟨n, x, y, m, rfl, rfl, hn, hz, hno, rfl⟩ := hrel
    by_cases hj : (n : Int) < most
    · have Z1 : Hid (ZOk a b x y) := by have := H.out.at w n (by omega); rw [← hz.out] at this; exact this
      have hz2 : Hid ((sRe x y a b, sIm x y a b) = zAt a b c d (n + 1)) := by rw [zAt_succ, ← hz.out]; rfl
      have Z2 : Hid (ZOk a b (sRe x y a b) (sIm x y a b)) := by have := H.out.at w (n + 1) (by omega); rw [← hz2.out] at this; exact this
      have G1 := Lib.hid (fun w => nrm_fin_eq (nrm_wid (sRe x y a b) w) (wid_fin Z2.out.fx).1)
      have G2 := Lib.hid (fun w => nrm_fin_eq (nrm_wid (sIm x y a b) w) (wid_fin Z2.out.fy).1)
      have T0 := Lib.hid (halved_test Z2.out hz2.out)
      go_wp2_with fail
      refine (specSingle_any x y a b _ Z1.out.mild).mono ?_
      rintro e w' ⟨n3, rfl, rfl⟩
      have F1' := F1.out
      have F2' := F2.out
      have G1' := G1.out
      have G2' := G2.out
      go_wp2_with fail
      have M := Lib.hid (fun w => rnd_eq (op := .mul) (size_ok Z2.out).2.2 w)
      have S1 := Lib.hid (fun W => (sizeS_any (sRe x y a b) (sIm x y a b) _ _ W Z2.out rfl rfl).mono fun e w' h => (by
        obtain ⟨n, rfl, rfl⟩ := h; exact ⟨rfl, n, rfl⟩ : e = .returned (.float .f64 (sizeZ (sRe x y a b, sIm x y a b))) ∧ ∃ j, W.drewN j = w'))
      have S0 := Lib.hid (fun W => (sizeS_any c d _ _ W Z0.out rfl rfl).mono fun e w' h => (by
        obtain ⟨n, rfl, rfl⟩ := h; exact ⟨rfl, n, rfl⟩ : e = .returned (.float .f64 (sizeZ (c, d))) ∧ ∃ j, W.drewN j = w'))
      have M' := M.out
      have T1 : fle .f64 (fo .mul .f64 4611686018427387904 (sizeZ (sRe x y a b, sIm x y a b))) (sizeZ (c, d)) = halved a b c d (n + 1) := by rw [← T0.out w, M.out]
      cases t : halved a b c d (n + 1) <;> rw [t] at T1
      all_goals
        have N := Lib.hid t
        clear t
        refine wp_region_rx (by kernel_rfl) (by kernel_rfl) ?_; apply Exists.intro
        repeat (first | (apply wpR_val; intro K hK; go_simp; refine ⟨rfl, hK _ ?_⟩; clear hK K) | (apply wpR_skip; intro K hK; go_simp; refine hK _ ?_; clear hK K))
        apply wpR_val (v := .float .f64 (sizeZ (sRe x y a b, sIm x y a b))); intro K hK; go_simp; refine ⟨fun m => rcall (S1.out _), hK _ ?_⟩; clear hK K
        repeat (first | (apply wpR_val; intro K hK; go_simp; refine ⟨rfl, hK _ ?_⟩; clear hK K) | (apply wpR_skip; intro K hK; go_simp; refine hK _ ?_; clear hK K))
        apply wpR_val (v := .float .f64 (sizeZ (c, d))); intro K hK; go_simp; refine ⟨fun m => rcall (S0.out _), hK _ ?_⟩; clear hK K
        repeat (first | (apply wpR_val; intro K hK; go_simp; refine ⟨rfl, hK _ ?_⟩; clear hK K) | (apply wpR_skip; intro K hK; go_simp; refine hK _ ?_; clear hK K))
        apply wpR_nil (Rs := []); rintro _ ⟨nq, rfl⟩
        go_wp2_with fail
      · go_roundw
        case rel => exact ⟨n + 1, _, _, _, rfl, by go_num, by omega, hz2, fun j j1 j2 => (by
          rcases Nat.lt_or_ge n j with h | h
          · obtain rfl : j = n + 1 := by omega
            exact N.out
          · exact hno.out j j1 h), rfl⟩
        case measure => simp [intOf]; omega
      · go_ret2
        unfold HalfPost
        exact ⟨_, _, rfl, .inl ⟨rfl, by omega, by omega, by rw [show ((n : Int) + 1).toNat = n + 1 by omega]; exact N.out, fun j j1 j2 => hno.out j j1 (by omega)⟩, below_drewN (below_drewN HB2.out _) _⟩
    · go_wp2_with fail
      go_ret2
      unfold HalfPost
      exact ⟨_, _, rfl, .inr ⟨rfl, rfl, fun j j1 j2 => hno.out j j1 (by omega)⟩, below_drewN HB2.out _⟩
end Go.Proofs.Ytignncjmbcdpaaa
