/-
Part 4 of 4 of the proof of the law FnRung: it returns true for all codes. No condition.
-/
import Derived.Test.YtignncjmbcdpaaaLawRungM3

/-
impl.TouchBody, where the modes are the same in all steps.
-/
namespace Go.Proofs.Ytignncjmbcdpaaa
open Go Go.RowKit Ieee

theorem own_size {w : World} {base n : Nat} {e : TypeId} {v : Value} {xs : List Value} (h : w.ownsRow base e 1 v (n + 1) xs) : base < w.heap.size := by
  rcases h.2 with ⟨_, h⟩ | ⟨g, cap, cur, e1, e2, e3, e4⟩
  · omega
  · have := lt_of_some e3; omega

set_option maxRecDepth 100000 in
set_option maxHeartbeats 1000000 in
theorem touchBody_any (A B : Option Addr) (c d lo hi f fr : Nat) (ms es : List MW) (xs : List Nat) (n : Nat) (w : World) (h : OwnM w lo hi A c ms) (hh : hi ≤ w.heap.size) (hok : ModesOk ms) (hl : ms.length ≤ 16) (hf : FacOk f)
    (hr : Rd w B (f32s xs)) (hm : xs.length ≤ 1048576) (hn : n ≤ 2000) (hfr : fr ≤ 2000) (hes : ∀ i, i < n → es = if i < fr then ms else ms.map (dampM f)) (hel : es.length = ms.length) (hcalm : Calm es xs n) :
    Calls Try.prog 60 #[.agg #[.slice A ms.length c], .slice B xs.length d, .float .f32 f, .int .i64 fr, .int .i64 n] w fun e w' => ∃ (A' : Option Addr) (c' : Nat) (ys : List Nat), e = .returned (.tuple #[.slice A' ys.length c', .bool true]) ∧
      w'.ownsRow w.heap.size 25 1 (.slice A' ys.length c') ys.length (f32s ys) ∧ Rung es xs ys n ∧ Below w.heap.size w w' := by
  have HB : Hid (Below w.heap.size w (w.alloc (.cells #[.slice A ms.length c] 69))) := (Below.refl w.heap.size w).alloc (Nat.le_refl _) _
  have hin : (decide ((0 : Int) ≤ (n : Int)) && decide ((n : Int) ≤ 2000)) = true := by simp; omega
  have H : Hid (OwnM (w.alloc (.cells #[.slice A ms.length c] 69)) lo hi A c ms) := h.below HB.out hh
  have HBd : Hid ((w.alloc (.cells #[.slice A ms.length c] 69)).heap[w.heap.size]? = some (.cells #[.slice A ms.length c] 69 (0, 0))) := heap_alloc_new w _
  have hsz : w.heap.size < (w.alloc (.cells #[.slice A ms.length c] 69)).heap.size := by simp
  have HK := Lib.hid hok
  have HC := Lib.hid hcalm
  have HF := Lib.hid hf
  have H0 := Lib.hid h
  have Hr0 := Lib.hid hr
  have HES := Lib.hid hes
  clear h hr hok hcalm hf hes
  have hmk := fun W => run_make_row' (P := Try.prog) 122 50 (.complex .f32 0 0) 8 Try.underlying122 c64_info rfl .i64 .i64 ms.length (by omega) (by omega) W
  have c0 := cell_of_row _ w.heap.size 0 _ _ (0, 0) HBd.out
  have hfr0 : ¬ (fr : Int) < 0 := by omega
  go_enter Try.func60, Try.ntmps60
  go_wp2_with fail
  generalize w.alloc (.cells #[.slice A ms.length c] 69) = W at *
  refine (dampBody_any A c lo hi f ms W H.out (by omega) HK.out hl HF.out).mono ?_
  rintro e W1 ⟨A1, c1, rfl, ho1, hb1⟩
  have hs1 := hb1.size
  have HBd1 : Hid ((W1.alloc (.cells #[.slice A1 ms.length c1] 69)).heap[w.heap.size]? = some (.cells #[.slice A ms.length c] 69 (0, 0))) := (Below.heap_alloc _ _ _ (by omega)).trans ((hb1.block _ hsz).trans HBd.out)
  have HBq1 : Hid ((W1.alloc (.cells #[.slice A1 ms.length c1] 69)).heap[W1.heap.size]? = some (.cells #[.slice A1 ms.length c1] 69 (0, 0))) := heap_alloc_new W1 _
  have HO1 : Hid (OwnM (W1.alloc (.cells #[.slice A1 ms.length c1] 69)) W.heap.size W1.heap.size A1 c1 (ms.map (dampM f))) := ho1.below ((Below.refl W1.heap.size W1).alloc (Nat.le_refl _) _) (Nat.le_refl _)
  have HB1 : Hid (Below w.heap.size w (W1.alloc (.cells #[.slice A1 ms.length c1] 69))) := (HB.out.trans (hb1.mono (by omega))).alloc (by omega) _
  have hq : W1.heap.size < (W1.alloc (.cells #[.slice A1 ms.length c1] 69)).heap.size := by simp
  have d0 := cell_of_row _ w.heap.size 0 _ _ (0, 0) HBd1.out
  have d1 := cell_of_row _ W1.heap.size 0 _ _ (0, 0) HBq1.out
  clear c0 ho1 hb1 HB H HBd
  go_wp2_with fail
  have hwq : w.heap.size < W1.heap.size := by omega
  generalize W1.alloc (.cells #[.slice A1 ms.length c1] 69) = Wb at *
  generalize W1.heap.size = q at *
  refine (count_any n _).mono ?_
  rintro e w' ⟨rfl, rfl⟩
  rw [hin]
  have S0 : Hid (((Wb.alloc (.cells (madeCells #[.complex .f32 0 0] ms.length) 50)).alloc (.cells #[] 25)).rowIs Wb.heap.size 50 ms.length (fun i => sV (sAt (stAt es xs 0) i))) :=
    ((World.rowIs_made Wb (.complex .f32 0 0) ms.length 50).alloc _).congr fun i hi => by simp [stAt, sAt, sV, List.getD, hi, hel]
  have hz1 : (Wb.alloc (.cells (madeCells #[.complex .f32 0 0] ms.length) 50)).heap.size = Wb.heap.size + 1 := by simp
  have own0 : ((Wb.alloc (.cells (madeCells #[.complex .f32 0 0] ms.length) 50)).alloc (.cells #[] 25)).ownsRow (Wb.heap.size + 1) 25 1 (.slice (some ⟨Wb.heap.size + 1, 0, none⟩) 0 0) 0 (f32s []) := by
    have := owns_empty (Wb.alloc (.cells (madeCells #[.complex .f32 0 0] ms.length) 50)) 25
    rw [hz1] at this; exact this
  have K0 : ∀ j, j < Wb.heap.size → ((Wb.alloc (.cells (madeCells #[.complex .f32 0 0] ms.length) 50)).alloc (.cells #[] 25)).heap[j]? = Wb.heap[j]? := fun j hj =>
    (Below.heap_alloc _ _ _ (by rw [hz1]; omega)).trans (Below.heap_alloc _ _ _ hj)
  have D0 := Lib.hid ((K0 _ (by omega)).trans HBd1.out)
  have Q0 := Lib.hid ((K0 _ hq).trans HBq1.out)
  have B0 : Hid (Below w.heap.size w ((Wb.alloc (.cells (madeCells #[.complex .f32 0 0] ms.length) 50)).alloc (.cells #[] 25))) := (HB1.out.alloc (by omega) _).alloc (by rw [hz1]; omega) _
  have O0 : Hid (OwnM ((Wb.alloc (.cells (madeCells #[.complex .f32 0 0] ms.length) 50)).alloc (.cells #[] 25)) W.heap.size q A1 c1 (ms.map (dampM f))) := HO1.out.keep fun j _ hj => K0 j (by omega)
  have hz2 : ((Wb.alloc (.cells (madeCells #[.complex .f32 0 0] ms.length) 50)).alloc (.cells #[] 25)).heap.size = Wb.heap.size + 2 := by simp
  clear K0
  go_wp2_with fail
  clear d0 d1 HBd1 HBq1 HO1 HB1
  generalize (Wb.alloc (.cells (madeCells #[.complex .f32 0 0] ms.length) 50)).alloc (.cells #[] 25) = W2 at *
  generalize Wb.heap.size = g at *
  clear hz1
  go_loopw [15, 41] (fun v i wr => ∃ (k : Nat) (ys : List Nat), i = .int .i64 (k : Int) ∧ k ≤ n ∧ wr.ownsRow (g + 1) 25 1 v k (f32s ys) ∧ Hid (Rung es xs ys k) ∧ Hid (wr.rowIs g 50 ms.length (fun i => sV (sAt (stAt es xs k) i))) ∧
    Hid (Below w.heap.size w wr) ∧ Hid (wr.heap[w.heap.size]? = some (.cells #[.slice A ms.length c] 69 (0, 0))) ∧ Hid (wr.heap[q]? = some (.cells #[.slice A1 ms.length c1] 69 (0, 0))) ∧ Hid (OwnM wr W.heap.size q A1 c1 (ms.map (dampM f))) ∧ g + 2 ≤ wr.heap.size) (fun _ i _ => n - (intOf i).toNat)
  case atStart => exact ⟨0, [], rfl, by omega, own0, ⟨rfl, fun i hi => absurd hi (Nat.not_lt_zero _)⟩, S0.out, B0.out, D0.out, Q0.out, O0.out, by omega⟩
  case round =>
    clear own0 S0 B0 D0 Q0 O0
    obtain ⟨k, ys, rfl, hk, hown, hrg, hrow, hbel, hbd, hbq, hod, hgs⟩ := hrel
    by_cases hlt : k < n
    · have d0 := cell_of_row wr w.heap.size 0 _ _ (0, 0) hbd.out
      have d1 := cell_of_row wr q 0 _ _ (0, 0) hbq.out
      have HRD := Lib.hid (Hr0.out.below hbel.out)
      have hge := HES.out k hlt
      have HOM := Lib.hid (H0.out.below hbel.out hh)
      have hcm := HC.out k hlt
      by_cases hkf : k < fr
      · rw [if_pos hkf] at hge
        have hkf' : (k : Int) < (fr : Int) := by omega
        have T : Hid (∀ W0, W0 = wr → Calls Try.prog 103 #[.slice A ms.length c, .slice (some ⟨g, 0, none⟩) ms.length ms.length, .float .f32 (inAt xs k)] W0 fun e w' => ∃ r, e = .returned (.float .f32 r) ∧ nrm .f32 r = outAt es (stAt es xs k) (inAt xs k) es.length ∧ wfk .f32 r ∧
            w'.rowIs g 50 ms.length (fun i => sV (sAt (stAt es xs (k + 1)) i)) ∧ W0.grownBy w' (some g)) := fun W0 hW => by
          rw [hW]
          have hrow' := hrow.out
          rw [hge] at hcm hrow' ⊢
          exact step_any A c lo hi g ms (stAt ms xs k) (inAt xs k) wr HOM.out (by omega) HK.out hl (stAt_len _ _ _) hrow' hcm
        clear hge hcm
        go_wp2_with fail
        refine (element_any B d xs k _ HRD.out hm (by omega)).mono ?_
        rintro e w' ⟨rfl, rfl⟩
        go_wp2_with fail
        refine (T.out wr rfl).mono ?_
        rintro e W3 ⟨r, rfl, hr1, hr2, hrow3, hgr3⟩
        have hsz3 : wr.heap.size ≤ W3.heap.size := hgr3.size
        have blk3 : Hid (∀ j, j < wr.heap.size → j ≠ g → W3.heap[j]? = wr.heap[j]?) := fun j hj hn => hgr3.block j hj (by intro e; injection e with e; exact hn e)
        have hown3 : W3.ownsRow (g + 1) 25 1 u15 k (f32s ys) := owns_keep hown fun j h1 h2 => blk3.out j h2 (by omega)
        have hrow3' := Lib.hid hrow3
        have HR := Lib.hid (rung_snoc hrg.out hr1 hr2)
        have B3 : Hid (Below w.heap.size w W3) := ⟨hgr3.os.trans hbel.out.os, hgr3.tape.trans hbel.out.tape, hgr3.output.trans hbel.out.output, Nat.le_trans hbel.out.size hsz3, fun j hj => (blk3.out j (by omega) (by omega)).trans (hbel.out.block j hj)⟩
        have hbd3 := Lib.hid ((blk3.out _ (by omega) (by omega)).trans hbd.out)
        have hbq3 := Lib.hid ((blk3.out _ (by omega) (by omega)).trans hbq.out)
        have hod3 := Lib.hid (hod.out.keep (w' := W3) fun j _ hj => blk3.out j (by omega) (by omega))
        have hgs3 : g + 1 ≤ W3.heap.size := by omega
        clear hown hr1 hr2 hrow3 hgr3 d0 d1 T
        go_wp2_with (at_builtin; refine wpList_app1 rfl (.tmp 51) (.tmp 58) 23 rfl (g + 1) 25 (.float .f32 0) 4 Try.underlying23 f32_info rfl u15 k (f32s ys) _ rfl rfl rfl hown3 hgs3 (by omega) (by omega) ?_; intro v' w4 hown4 hbel4)
        go_roundw
        case rel =>
          refine ⟨k + 1, ys ++ [r], by go_num, by omega, by simpa [f32s] using hown4, HR.out, hrow3'.out.of_block (hbel4.block g (by omega)), B3.out.trans (hbel4.mono (by have := B3.out.size; omega)), ?_, ?_, ?_, ?_⟩
          · exact (hbel4.block _ (by omega)).trans hbd3.out
          · exact (hbel4.block _ (by omega)).trans hbq3.out
          · exact hod3.out.keep fun j _ hj => hbel4.block j (by omega)
          · have := hbel4.size; have := own_size hown4; omega
        case measure => simp [intOf]; omega
      · rw [if_neg hkf] at hge
        have hkf' : (fr : Int) ≤ (k : Int) := by omega
        have T : Hid (∀ W0, W0 = wr → Calls Try.prog 103 #[.slice A1 ms.length c1, .slice (some ⟨g, 0, none⟩) ms.length ms.length, .float .f32 (inAt xs k)] W0 fun e w' => ∃ r, e = .returned (.float .f32 r) ∧ nrm .f32 r = outAt es (stAt es xs k) (inAt xs k) es.length ∧ wfk .f32 r ∧
            w'.rowIs g 50 ms.length (fun i => sV (sAt (stAt es xs (k + 1)) i)) ∧ W0.grownBy w' (some g)) := fun W0 hW => by
          rw [hW]
          have hrow' := hrow.out
          rw [← hel] at hrow' ⊢
          have hod' := hod.out
          rw [← hge] at hod'
          exact step_any A1 c1 W.heap.size q g es (stAt es xs k) (inAt xs k) wr hod' (by omega) (by rw [hge]; exact damps_ok HK.out HF.out) (by omega) (stAt_len _ _ _) hrow' hcm
        clear hge hcm
        go_wp2_with fail
        refine (element_any B d xs k _ HRD.out hm (by omega)).mono ?_
        rintro e w' ⟨rfl, rfl⟩
        go_wp2_with fail
        refine (T.out wr rfl).mono ?_
        rintro e W3 ⟨r, rfl, hr1, hr2, hrow3, hgr3⟩
        have hsz3 : wr.heap.size ≤ W3.heap.size := hgr3.size
        have blk3 : Hid (∀ j, j < wr.heap.size → j ≠ g → W3.heap[j]? = wr.heap[j]?) := fun j hj hn => hgr3.block j hj (by intro e; injection e with e; exact hn e)
        have hown3 : W3.ownsRow (g + 1) 25 1 u15 k (f32s ys) := owns_keep hown fun j h1 h2 => blk3.out j h2 (by omega)
        have hrow3' := Lib.hid hrow3
        have HR := Lib.hid (rung_snoc hrg.out hr1 hr2)
        have B3 : Hid (Below w.heap.size w W3) := ⟨hgr3.os.trans hbel.out.os, hgr3.tape.trans hbel.out.tape, hgr3.output.trans hbel.out.output, Nat.le_trans hbel.out.size hsz3, fun j hj => (blk3.out j (by omega) (by omega)).trans (hbel.out.block j hj)⟩
        have hbd3 := Lib.hid ((blk3.out _ (by omega) (by omega)).trans hbd.out)
        have hbq3 := Lib.hid ((blk3.out _ (by omega) (by omega)).trans hbq.out)
        have hod3 := Lib.hid (hod.out.keep (w' := W3) fun j _ hj => blk3.out j (by omega) (by omega))
        have hgs3 : g + 1 ≤ W3.heap.size := by omega
        clear hown hr1 hr2 hrow3 hgr3 d0 d1 T
        go_wp2_with (at_builtin; refine wpList_app1 rfl (.tmp 51) (.tmp 58) 23 rfl (g + 1) 25 (.float .f32 0) 4 Try.underlying23 f32_info rfl u15 k (f32s ys) _ rfl rfl rfl hown3 hgs3 (by omega) (by omega) ?_; intro v' w4 hown4 hbel4)
        go_roundw
        case rel =>
          refine ⟨k + 1, ys ++ [r], by go_num, by omega, by simpa [f32s] using hown4, HR.out, hrow3'.out.of_block (hbel4.block g (by omega)), B3.out.trans (hbel4.mono (by have := B3.out.size; omega)), ?_, ?_, ?_, ?_⟩
          · exact (hbel4.block _ (by omega)).trans hbd3.out
          · exact (hbel4.block _ (by omega)).trans hbq3.out
          · exact hod3.out.keep fun j _ hj => hbel4.block j (by omega)
          · have := hbel4.size; have := own_size hown4; omega
        case measure => simp [intOf]; omega
    · have hkn : n = k := by omega
      subst hkn
      go_wp2_with fail
      go_ret2
      obtain ⟨A', cap, hv, hl', hrd⟩ := own_rd hown
      subst hv
      have e := hrg.out.1
      exact ⟨A', cap, ys, by rw [e]; rfl, by rw [e]; exact owns_low hown (by omega), hrg.out, hbel.out⟩
end Go.Proofs.Ytignncjmbcdpaaa

/-
laws.equal at equal numbers.
-/
namespace Go.Proofs.Ytignncjmbcdpaaa
open Go Go.RowKit

set_option maxRecDepth 100000 in
set_option maxHeartbeats 400000 in
theorem equal_true (A B : Option Addr) (c d n : Nat) (xs ys : List Nat) (w : World) (hr : Rd w A (f32s xs)) (hs : Rd w B (f32s ys)) (hx : xs.length = n) (hy : ys.length = n) (hm : n ≤ 1048576) (ha : ∀ i, i < n → feq .f32 (xs.getD i 0) (ys.getD i 0) = true) :
    Calls Try.prog 58 #[.slice A n c, .slice B n d] w fun e w' => e = .returned (.bool true) ∧ ∃ m, w.drewN m = w' := by
  have hb0 : ((n : Int) == (n : Int)) = true := beq_self_eq_true _
  have Ha := Lib.hid ha
  have Hr := Lib.hid hr
  have Hs := Lib.hid hs
  clear hr hs ha
  go_enter Try.func58, Try.ntmps58
  go_wp2_with fail
  go_loopw [13] (fun i wr => ∃ k : Nat, i = .int .i64 k ∧ k ≤ n ∧ ∃ m, wr = w.drewN m) (fun i _ => n - (intOf i).toNat)
  case atStart => exact ⟨0, rfl, by omega, 0, (World.drewN_zero w).symm⟩
  case round =>
    obtain ⟨k, rfl, hk, m, rfl⟩ := hrel
    by_cases hlt : k < n
    · obtain ⟨b, off, rfl, hbk, hc⟩ := Hr.out (by simp; omega)
      obtain ⟨b2, off2, rfl, hbk2, hc2⟩ := Hs.out (by simp; omega)
      have e1 := hc k _ (f32s_at (by omega))
      have e2 := hc2 k _ (f32s_at (by omega))
      have e3 := Ha.out k hlt
      clear hc hc2
      obtain ⟨x, hx'⟩ : ∃ x, xs.getD k 0 = x := ⟨_, rfl⟩
      obtain ⟨y, hy'⟩ : ∃ y, ys.getD k 0 = y := ⟨_, rfl⟩
      rw [hx'] at e1 e3
      rw [hy'] at e2 e3
      clear hx' hy'
      go_wp2_with fail
      refine wp_region_rx (by kernel_rfl) (by kernel_rfl) ?_; apply Exists.intro
      repeat (first | (apply wpR_val; intro K hK; go_simp; refine ⟨rfl, hK _ ?_⟩; clear hK K) | (apply wpR_skip; intro K hK; go_simp; refine hK _ ?_; clear hK K))
      apply wpR_nil (Rs := []); rintro _ ⟨nq, rfl⟩
      go_wp2_with fail
      go_roundw
      case rel => exact ⟨k + 1, by go_num, by omega, _, rfl⟩
      case measure => simp [intOf]; omega
    · have hkn : n = k := by omega
      subst hkn
      go_wp2_with fail
      go_ret
      exact ⟨rfl, m, rfl⟩
end Go.Proofs.Ytignncjmbcdpaaa

/-
laws.fresh.
-/
namespace Go.Proofs.Ytignncjmbcdpaaa
open Go Go.RowKit Ieee

theorem u8_info : (Try.prog.info? 5).map (fun i => (i.zero, i.size, i.bytes)) = some (some (.int .u8 0), 1, 1) := by kernel_rfl
theorem owns_one (w : World) (e : TypeId) (v : Value) : (w.alloc (.cells #[v] e)).ownsRow w.heap.size e 1 (.slice (some ⟨w.heap.size, 0, none⟩) 1 1) 1 [v] :=
  ⟨rfl, .inr ⟨w.heap.size, 1, #[v], rfl, Nat.le_refl _, heap_alloc_new w _, Nat.le_refl _, by simp [maxLen], rfl, rfl⟩⟩

set_option maxRecDepth 100000 in
set_option maxHeartbeats 600000 in
theorem fresh_any (A : Option Addr) (cp : Nat) (bs : List Int) (salt : Int) (w : World) (hr : Rd w A (bs.map (.int .u8))) (hm : bs.length ≤ 1048576) (hb : ∀ i, i < bs.length → 0 ≤ bs.getD i 0 ∧ bs.getD i 0 ≤ 255) (hs : salt = 3 ∨ salt = 5 ∨ salt = 7) :
    Calls Try.prog 21 #[.slice A bs.length cp, .int .i64 salt] w fun e w' => ∃ (A' : Option Addr) (c' : Nat) (ys : List Int), e = .returned (.slice A' ys.length c') ∧ Rd w' A' (ys.map (.int .u8)) ∧ ys.length ≤ 601 ∧ Below w.heap.size w w' := by
  rcases hs with rfl | rfl | rfl
  all_goals
    go_enter Try.func21, Try.ntmps21
    go_wp2_with fail
    go_loopw [5, 6] (fun v i wr => ∃ (k : Nat) (ys : List Int), i = .int .i64 (k : Int) ∧ k ≤ bs.length ∧ k ≤ 600 ∧ wr.ownsRow w.heap.size 5 1 v (k + 1) (ys.map (.int .u8)) ∧ Below w.heap.size w wr) (fun _ i _ => bs.length - (intOf i).toNat)
    case atStart => exact ⟨0, [_], rfl, by omega, by omega, owns_one w _ _, (Below.refl w.heap.size w).alloc (Nat.le_refl _) _⟩
    case round =>
      obtain ⟨k, ys, rfl, hk, hk6, hown, hbel⟩ := hrel
      by_cases hlt : k < bs.length
      · by_cases h6 : k < 600
        · obtain ⟨b, off, rfl, hbk, hc⟩ := (hr.below hbel) (by simp; omega)
          have e1 := hc k (.int .u8 (bs.getD k 0)) (by simp [List.getD, List.getElem?_eq_getElem hlt])
          have hx := hb k hlt
          have hsz := hbel.size
          generalize bs.getD k 0 = x at *
          clear hc
          go_wp2_with (at_builtin; refine wpList_app1 rfl (.tmp 20) (.tmp 34) 22 rfl w.heap.size 5 (.int .u8 0) 1 Try.underlying22 u8_info rfl u5 (k + 1) (ys.map (.int .u8)) _ rfl rfl rfl hown hsz (by omega) (by omega) ?_; intro v' w' hown' hbel')
          go_roundw
          case rel => exact ⟨k + 1, ys ++ [_], by go_num, by omega, by omega, by rw [List.map_append]; exact hown', hbel.trans hbel'⟩
          case measure => simp [intOf]; omega
        · go_wp2_with fail
          go_ret
          obtain ⟨A', cap, hv, hl, hrd⟩ := own_rd hown
          have hl' : ys.length = k + 1 := by simpa using hl
          exact ⟨A', cap, ys, by rw [hl', ← hv]; rfl, hrd, by omega, hbel⟩
      · go_wp2_with fail
        go_ret
        obtain ⟨A', cap, hv, hl, hrd⟩ := own_rd hown
        have hl' : ys.length = k + 1 := by simpa using hl
        exact ⟨A', cap, ys, by rw [hl', ← hv]; rfl, hrd, by omega, hbel⟩
end Go.Proofs.Ytignncjmbcdpaaa

/-
The law FnRung returns true for all codes. No condition.
-/
namespace Go.Proofs.Ytignncjmbcdpaaa.lawRung
open Go Go.RowKit Go.ChangeShapes Go.WideShapes

/-- What stays: the body with its box, the input. -/
structure RSt (w W : World) (A : Option Addr) (c lo gb : Nat) (ms : List MW) (B : Option Addr) (xs : List Nat) : Prop where
  own : OwnM W lo gb A c ms
  box : W.heap[gb]? = some (.cells #[.slice A ms.length c] 69 (0, 0))
  rx : Rd W B (f32s xs)
  bel : Below w.heap.size w W
theorem RSt.lt {w W : World} {A B : Option Addr} {c lo gb : Nat} {ms : List MW} {xs : List Nat} (h : RSt w W A c lo gb ms B xs) : gb < W.heap.size := lt_of_some h.box
theorem RSt.below {w W W' : World} {A B : Option Addr} {c lo gb : Nat} {ms : List MW} {xs : List Nat} (h : RSt w W A c lo gb ms B xs) (hb : Below W.heap.size W W') : RSt w W' A c lo gb ms B xs :=
  ⟨h.own.below hb (Nat.le_of_lt h.lt), (hb.block _ h.lt).trans h.box, h.rx.below hb, h.bel.trans (hb.mono h.bel.size)⟩
theorem RSt.drewN {w W : World} {A B : Option Addr} {c lo gb : Nat} {ms : List MW} {xs : List Nat} (h : RSt w W A c lo gb ms B xs) (n : Nat) : RSt w (W.drewN n) A c lo gb ms B xs := ⟨h.own, h.box, h.rx, below_drewN h.bel n⟩
theorem RSt.cell {w W : World} {A B : Option Addr} {c lo gb : Nat} {ms : List MW} {xs : List Nat} (h : RSt w W A c lo gb ms B xs) : W.cell? ⟨gb, 0, none⟩ = some (.slice A ms.length c) := cell_of_row W gb 0 _ _ (0, 0) h.box
theorem RSt.input {w W : World} {A B B' : Option Addr} {c lo gb : Nat} {ms : List MW} {xs xs' : List Nat} (h : RSt w W A c lo gb ms B xs) (hr : Rd W B' (f32s xs')) : RSt w W A c lo gb ms B' xs' := ⟨h.own, h.box, hr, h.bel⟩
theorem RSt.make {w W0 W : World} {A : Option Addr} {c : Nat} {ms : List MW} (hb : Below w.heap.size w W0) (h : OwnM W W0.heap.size W.heap.size A c ms) (hb1 : Below W0.heap.size W0 W) :
    RSt w (W.alloc (.cells #[.slice A ms.length c] 69)) A c W0.heap.size W.heap.size ms none [] :=
  ⟨h.below ((Below.refl W.heap.size W).alloc (Nat.le_refl _) _) (Nat.le_refl _), heap_alloc_new W _, fun hl => absurd hl (Nat.not_lt_zero _), (hb.trans (hb1.mono hb.size)).alloc (Nat.le_trans hb.size hb1.size) _⟩

theorem own_rd' {w : World} {base n c : Nat} {e : TypeId} {A : Option Addr} {xs : List Value} (h : w.ownsRow base e 1 (.slice A n c) n xs) : Rd w A xs := by
  obtain ⟨_, _, q, _, rd⟩ := own_rd h
  injection q with q1 _ q2
  subst q1 q2
  exact rd
theorem own_addr {w : World} {base n c : Nat} {e : TypeId} {A : Option Addr} {xs : List Value} (h : w.ownsRow base e 1 (.slice A n c) n xs) : (A = none ∧ n = 0 ∧ c = 0) ∨ ∃ g, A = some ⟨g, 0, none⟩ ∧ n ≤ c ∧ c ≤ maxLen := by
  rcases h.2 with ⟨q, h0⟩ | ⟨g, cap, cur, q, _, _, h1, h2, _⟩
  · injection q with q1 q2 q3
    exact .inl ⟨q1, h0, q3⟩
  · injection q with q1 q2 q3
    exact .inr ⟨g, q1, by omega, by omega⟩
theorem own_lit (w : World) (e : TypeId) (v : Value) : (w.alloc (.cells #[v] e)).ownsRow w.heap.size e 1 (.slice (some ⟨w.heap.size, 0, none⟩) 1 1) 1 [v] :=
  ⟨rfl, .inr ⟨w.heap.size, 1, #[v], rfl, Nat.le_refl _, heap_alloc_new w _, Nat.le_refl _, by simp [maxLen], rfl, rfl⟩⟩
theorem rd_take {w : World} {A : Option Addr} {xs : List Nat} (h : Rd w A (f32s xs)) (k : Nat) : Rd w A (f32s (xs.take k)) := fun hl => by
  have hl' : 0 < (f32s xs).length := by
    simp only [f32s, List.length_map, List.length_take] at hl ⊢; omega
  obtain ⟨b, off, e, hb, hc⟩ := h hl'
  refine ⟨b, off, e, hb, fun j u hu => hc j u ?_⟩
  simp only [f32s] at hu
  rw [List.map_take, List.getElem?_take] at hu
  split at hu
  · exact hu
  · cases hu
theorem rd_drop {w : World} {b off : Nat} {xs : List Nat} (h : Rd w (some ⟨b, off, none⟩) (f32s xs)) : Rd w (some ⟨b, off + 1, none⟩) (f32s (xs.drop 1)) := fun hl => by
  have hl' : 0 < (f32s xs).length := by
    simp only [f32s, List.length_map, List.length_drop] at hl ⊢; omega
  obtain ⟨b', off', e, hb, hc⟩ := h hl'
  injection e with e
  injection e with e1 e2
  subst e1 e2
  refine ⟨b, off + 1, rfl, hb, fun j u hu => ?_⟩
  simp only [f32s] at hu
  rw [List.map_drop, List.getElem?_drop] at hu
  have := hc (1 + j) u hu
  rw [show off + 1 + j = off + (1 + j) by omega]
  exact this
theorem getD_take {xs : List Nat} {k i : Nat} (hi : i < k) : (xs.take k).getD i 0 = xs.getD i 0 := by
  simp only [List.getD, List.getElem?_take, if_pos hi]
theorem getD_drop (xs : List Nat) (i : Nat) : (xs.drop 1).getD i 0 = xs.getD (i + 1) 0 := by
  simp only [List.getD, List.getElem?_drop]
  rw [Nat.add_comm]
theorem four : fin .f32 1082130432 ∧ fv .f32 1082130432 = 4 := by
  have h : FloatKind.f32.format.read 1082130432 = .number false 8388608 (-21) := by decide +kernel
  obtain ⟨h1, h2⟩ := fin_of_read h
  refine ⟨h1, ?_⟩
  rw [h2, dval_num]
  have e : mval 8388608 (-21) = 4 := by unfold mval pw; grind
  rw [e]; simp
theorem fac_one : FacOk 1065353216 := ⟨one32.1, by rw [wfk_32]; omega, by rw [one32.2]; grind, .inl rfl⟩
theorem same_rung {ms : List MW} {xs : List Nat} (A B : Option Addr) (c d : Nat) (ys zs : List Nat) (n : Nat) (w : World) (h1 : Rd w A (f32s ys)) (h2 : Rd w B (f32s zs)) (hn : n ≤ 59) (hy : Rung ms xs ys n) (hz : Rung ms xs zs n) :
    Calls Try.prog 18 #[.slice A n c, .slice B n d] w fun e w' => ∃ m, e = .returned (.bool true) ∧ w.drewN m = w' := by
  have h := same_true A B c d ys zs w h1 h2 (by rw [hy.1]; omega) (by rw [hz.1]; omega) (fun i hi => (hy.2 i (by rw [hy.1] at hi; exact hi)).2) (fun i hi => (hz.2 i (by rw [hz.1] at hi; exact hi)).2) (by rw [hy.1, hz.1])
    (fun i hi => rung_prefix hz hy (Nat.le_refl _) i (by rw [hy.1] at hi; exact hi))
  rw [hy.1, hz.1] at h
  exact h
theorem low_small {xs : List Nat} (h : ∀ x ∈ xs, SmallAt 1082130432 x) : Low xs ∧ ∀ i, i < xs.length → wfk .f32 (xs.getD i 0) := by
  refine ⟨fun i hi => ?_, fun i hi => ?_⟩
  · have := small_spec four.1 (X := 4) (by rw [four.2, ab_of_nonneg (by grind)]; exact Rat.le_refl) (by grind) (h (xs.getD i 0) (by simp [List.getD, List.getElem?_eq_getElem hi]))
    exact ⟨this.1, Rat.le_trans this.2 (by grind)⟩
  · obtain ⟨_, _, _, _, h⟩ := h _ (List.getElem_mem hi)
    simpa [List.getD, List.getElem?_eq_getElem hi] using h

set_option maxRecDepth 100000 in
set_option maxHeartbeats 4000000 in
theorem walk_some (A : Option Addr) (c : Nat) (bs : List Int) (w : World) (hr : Rd w A (bs.map (.int .u8))) (hm : bs.length ≤ 1048576) (hb : ∀ i, i < bs.length → 0 ≤ bs.getD i 0 ∧ bs.getD i 0 ≤ 255) :
    Calls Try.prog 12 #[.slice A bs.length c] w fun e w' => e = .returned (.bool true) ∧ Below w.heap.size w w' := by
  have hlen0 : ¬ (1048576 : Int) < (bs.length : Int) := by omega
  have hq1 := atL_bound hb 1
  have hq2 := atL_bound hb 2
  have hq3 := atL_bound hb 3
  have Hb := Lib.hid hb
  have H1 := Lib.hid (fun w h => at_any A c bs 1 w h hm (by omega) hb)
  have H2 := Lib.hid (fun w h => at_any A c bs 2 w h hm (by omega) hb)
  have H3 := Lib.hid (fun w h => at_any A c bs 3 w h hm (by omega) hb)
  clear hb
  generalize atL bs 1 = q1 at *
  generalize atL bs 2 = q2 at *
  generalize atL bs 3 = q3 at *
  have Hr := Lib.hid hr
  clear hr
  obtain ⟨n, hn, hn1⟩ : ∃ n : Nat, q1 % 60 = (n : Int) ∧ n ≤ 59 := ⟨(q1 % 60).toNat, by omega, by omega⟩
  have hmod : 0 ≤ q2 % ((n : Int) + 1) ∧ q2 % ((n : Int) + 1) < (n : Int) + 1 := ⟨Int.emod_nonneg _ (by omega), Int.emod_lt_of_pos _ (by omega)⟩
  obtain ⟨k, hk, hk1⟩ : ∃ k : Nat, q2 % ((n : Int) + 1) = (k : Int) ∧ k ≤ n := ⟨(q2 % ((n : Int) + 1)).toNat, by omega, by omega⟩
  clear hmod
  have hfac := fac_ok hq3.1 hq3.2
  obtain ⟨fq, hfq⟩ : ∃ fq, floatOfInt .f32 q3 = fq := ⟨_, rfl⟩
  unfold fac at hfac
  rw [hfq] at hfac
  obtain ⟨F, hF⟩ : ∃ F, fo .quo .f32 fq 1132396544 = F := ⟨_, rfl⟩
  have hR : ∀ W, fR .quo .f32 fq 1132396544 W = F := fun W => by rw [← hF]; exact rnd_eq hfac.ff W
  rw [hF] at hfac
  have HF := Lib.hid hfac
  clear hF hfac
  go_enter Try.func12, Try.ntmps12
  go_wp2_with fail
  refine (makeBody_any A c bs 5 _ Hr.out hm (.inr rfl)).mono ?_
  rintro e W1 ⟨A', c', ms, rfl, hown, hok, hl5, hb1⟩
  have S1 := Lib.hid (RSt.make (Below.refl w.heap.size w) hown hb1)
  have KM := Lib.hid (show ModesOk ms from hok)
  clear hown hok hb1
  go_wp2_with fail
  generalize W1.alloc (.cells #[.slice A' ms.length c'] 69) = V1 at *
  generalize W1.heap.size = gb at *
  generalize w.heap.size = lo at S1
  refine (fresh_any A c bs 3 _ (Hr.out.below S1.out.bel) hm Hb.out (.inl rfl)).mono ?_
  rintro e W2 ⟨A2, c2, ys0, rfl, hrd2, hlen2, hb2⟩
  have S2 := Lib.hid (S1.out.below hb2)
  have R2 := Lib.hid hrd2
  clear S1 hb2 hrd2
  go_wp2_with fail
  refine (makeSmall_any A2 c2 ys0 1082130432 _ R2.out (by omega)).mono ?_
  rintro e W3 ⟨A3, c3, xs, rfl, hrd3, hlen3, hall, hb3⟩
  have S3 := Lib.hid ((S2.out.below hb3).input hrd3)
  have L := Lib.hid (low_small hall)
  clear S2 R2 hb3 hrd3 hall
  go_wp2_with fail
  refine (H1.out _ (Hr.out.below S3.out.bel)).mono ?_
  rintro e w' ⟨rfl, rfl⟩
  go_wp2_with fail
  refine (H2.out _ (Hr.out.below S3.out.bel)).mono ?_
  rintro e w' ⟨rfl, rfl⟩
  have c3' := S3.out.cell
  go_wp2_with fail
  have hcon := ringBody_any A' A3 c' c3 _ gb ms xs n W3 S3.out.own (Nat.le_of_lt S3.out.lt) KM.out (by omega) S3.out.rx (by omega) (by omega) (calm_of KM.out L.out.1 n (by omega))
  refine hcon.mono ?_
  clear hcon c3'
  rintro e W4 ⟨A4, c4, ys, he, ho4, hr4, hb4⟩
  rw [hr4.1] at he ho4
  subst he
  have S4 := Lib.hid (S3.out.below hb4)
  have RY4 := Lib.hid (own_rd' ho4)
  have YA := Lib.hid (own_addr ho4)
  have HY := Lib.hid hr4
  have c4' := S4.out.cell
  clear S3 ho4 hr4 hb4
  go_wp2_with fail
  have hcon := ringBody_any A' A3 c' c3 _ gb ms xs k W4 S4.out.own (Nat.le_of_lt S4.out.lt) KM.out (by omega) S4.out.rx (by omega) (by omega) (calm_of KM.out L.out.1 k (by omega))
  refine hcon.mono ?_
  clear hcon c4'
  rintro e W5 ⟨A5, c5, zs, he, ho5, hr5, hb5⟩
  rw [hr5.1] at he ho5
  subst he
  have S5 := Lib.hid (S4.out.below hb5)
  have RY5 := Lib.hid (RY4.out.below hb5)
  have RZ5 := Lib.hid (own_rd' ho5)
  have HZ := Lib.hid hr5
  have c5' := S5.out.cell
  have hw1 := IntWalk.i64_in ((n : Int) + 1) (by omega)
  have own1 := Lib.hid (own_lit (W5.drewN 1) 25 (.float .f32 0))
  have b0 : Below W5.heap.size (W5.drewN 1) ((W5.drewN 1).alloc (.cells #[.float .f32 0] 25)) := (Below.refl (W5.drewN 1).heap.size (W5.drewN 1)).alloc (Nat.le_refl _) _
  have Hlx : Hid ((f32s xs).length = xs.length) := by show _ = _; simp
  have HB0 := Lib.hid b0.size
  have S5d := S5.out.drewN 1
  have Rdx := Lib.hid (S5d.rx.below b0)
  have hcx := Lib.hid (S5d.below b0).cell
  have SB := Lib.hid b0
  clear S4 RY4 ho5 hr5 hb5 b0 S5d
  go_wp2_with fail
  refine wp_region_held_drew (S := fun w' => w'.cell? ⟨gb, 0, none⟩ = some (.slice A' ms.length c')) (by kernel_rfl) c5' (fun hHeld => ?_)
  refine wpAnyH_take (i := 0) (oi := _) (v := ?_) rfl (by kernel_rfl) (by kernel_rfl) (by kernel_rfl) (fun _ _ _ h => h) (Or.inl ⟨by rfl, ?_⟩) (by assumption) ?_
  rotate_left
  · (intro w hSw; (try dsimp only at hSw); go_simp; try (with_reducible rfl))
  (try simp only [Act.put, List.setIfInBounds_toArray, List.set_cons_zero, List.set_cons_succ])
  refine wpAnyH_take (i := 2) (oi := _) (v := ?_) rfl (by kernel_rfl) (by kernel_rfl) (by kernel_rfl) (fun _ _ _ h => h) (Or.inl ⟨by rfl, ?_⟩) (by assumption) ?_
  rotate_left
  · (intro w hSw; (try dsimp only at hSw); go_simp; try (with_reducible rfl))
  (try simp only [Act.put, List.setIfInBounds_toArray, List.set_cons_zero, List.set_cons_succ])
  refine wpAnyH_take (i := 4) (oi := _) (v := ?_) rfl (by kernel_rfl) (by kernel_rfl) (by kernel_rfl) (fun _ _ _ h => h) (Or.inl ⟨by rfl, ?_⟩) (by assumption) ?_
  rotate_left
  · (intro w hSw; (try dsimp only at hSw); go_simp; try (with_reducible rfl))
  (try simp only [Act.put, List.setIfInBounds_toArray, List.set_cons_zero, List.set_cons_succ])
  refine wpAnyH_take (i := 5) (oi := _) (v := ?_) rfl (by kernel_rfl) (by kernel_rfl) (by kernel_rfl) (fun _ _ _ h => h) (Or.inl ⟨by rfl, ?_⟩) (by assumption) ?_
  rotate_left
  · (intro w hSw; (try dsimp only at hSw); go_simp; try (with_reducible rfl))
  (try simp only [Act.put, List.setIfInBounds_toArray, List.set_cons_zero, List.set_cons_succ])
  refine wpAnyH_ready (rs := [1]) (by kernel_rfl) (by simp) ?_
  refine AllReadyH.cons (o := _) rfl (fun K hK => ?_) AllReadyH.nil
  go_simp
  refine hK.out _ _ ?_ (fun hHeld4 => ?_)
  · exact hcx.out
  clear hK K
  (try simp only [Act.put, List.setIfInBounds_toArray, List.set_cons_zero, List.set_cons_succ])
  refine wpAnyH_ready (rs := [3]) (by kernel_rfl) (by simp) ?_
  refine AllReadyH.cons (o := _) rfl (fun K hK => ?_) AllReadyH.nil
  refine step_appRd (by rfl) (.tmp 56) (.tmp 57) 23 (by rfl) W5.heap.size 25 (.float .f32 0) 4 Try.underlying23 f32_info rfl (.slice (some ⟨W5.heap.size, 0, none⟩) 1 1) 1 [.float .f32 0] A3 xs.length c3 (f32s xs) (by rfl) (by rfl) (fun u hu => by simp [f32s] at hu; obtain ⟨_, _, rfl⟩ := hu; rfl) own1.out HB0.out Rdx.out Hlx.out (by omega) (by omega) ?_
  intro A6 c6 W6 hown6 hbel6
  have B56 : Below (W5.drewN 1).heap.size (W5.drewN 1) W6 := SB.out.trans hbel6
  have S6 := Lib.hid ((S5.out.drewN 1).below B56)
  have RY6 := Lib.hid ((RY5.out.drewN 1).below B56)
  have RZ6 := Lib.hid ((RZ5.out.drewN 1).below B56)
  have R6 : Hid (Rd W6 A6 (f32s (0 :: xs))) := by
    have := own_rd' hown6
    show Rd W6 A6 (f32s (0 :: xs))
    simpa [f32s] using this
  refine hK.out _ _ ?_ (fun hHeld5 => ?_)
  · exact S6.out.cell
  clear hK K S5 RY5 RZ5 hown6 hbel6 B56 SB own1 Rdx HB0 hcx c5'
  (try simp only [Act.put, List.setIfInBounds_toArray, List.set_cons_zero, List.set_cons_succ])
  refine wpAnyH_ready (rs := [6]) (by kernel_rfl) (by simp) ?_
  refine AllReadyH.cons (o := _) rfl (fun K hK => ?_) AllReadyH.nil
  go_simp
  have hcon := ringBody_any A' A6 c' c6 _ gb ms (0 :: xs) (n + 1) W6 S6.out.own (Nat.le_of_lt S6.out.lt) KM.out (by omega) R6.out (by simp; omega) (by omega) (calm_of KM.out (low_late L.out.1) (n + 1) (by omega))
  rw [show (0 :: xs).length = 1 + xs.length by simp; omega] at hcon
  refine hcon.mono ?_
  clear hcon
  rintro e W7 ⟨A7, c7, us, he, ho7, hr7, hb7⟩
  rw [hr7.1] at he ho7
  subst he
  have S7 := Lib.hid (S6.out.below hb7)
  have RY7 := Lib.hid (RY6.out.below hb7)
  have RZ7 := Lib.hid (RZ6.out.below hb7)
  have RU7 := Lib.hid (own_rd' ho7)
  have UA := Lib.hid (own_addr ho7)
  have HU := Lib.hid hr7
  clear S6 RY6 RZ6 R6 ho7 hr7 hb7
  go_wp2_with fail
  refine hK.out _ _ ?_ (fun hHeld6 => ?_)
  · exact S7.out.cell
  clear hK K
  (try simp only [Act.put, List.setIfInBounds_toArray, List.set_cons_zero, List.set_cons_succ])
  refine wpAnyH_take (i := 7) (oi := _) (v := ?_) rfl (by kernel_rfl) (by kernel_rfl) (by kernel_rfl) (fun _ _ _ h => h) (Or.inl ⟨by rfl, ?_⟩) (by assumption) ?_
  rotate_left
  · (intro w hSw; (try dsimp only at hSw); go_simp; try (with_reducible rfl))
  (try simp only [Act.put, List.setIfInBounds_toArray, List.set_cons_zero, List.set_cons_succ])
  refine wpAnyH_take (i := 8) (oi := _) (v := ?_) rfl (by kernel_rfl) (by kernel_rfl) (by kernel_rfl) (fun _ _ _ h => h) (Or.inl ⟨by rfl, ?_⟩) (by assumption) ?_
  rotate_left
  · (intro w hSw; (try dsimp only at hSw); go_simp; try (with_reducible rfl))
  (try simp only [Act.put, List.setIfInBounds_toArray, List.set_cons_zero, List.set_cons_succ])
  refine wpAnyH_take (i := 9) (oi := _) (v := ?_) rfl (by kernel_rfl) (by kernel_rfl) (by kernel_rfl) (fun _ _ _ h => h) (Or.inl ⟨by rfl, ?_⟩) (by assumption) ?_
  rotate_left
  · (intro w hSw; (try dsimp only at hSw); go_simp; try (with_reducible rfl))
  (try simp only [Act.put, List.setIfInBounds_toArray, List.set_cons_zero, List.set_cons_succ])
  refine wpAnyH_take (i := 10) (oi := _) (v := ?_) rfl (by kernel_rfl) (by kernel_rfl) (by kernel_rfl) (fun _ _ _ h => h) (Or.inl ⟨by rfl, ?_⟩) (by assumption) ?_
  rotate_left
  · (intro w hSw; (try dsimp only at hSw); go_simp; try (with_reducible rfl))
  (try simp only [Act.put, List.setIfInBounds_toArray, List.set_cons_zero, List.set_cons_succ])
  refine wpAnyH_take (i := 11) (oi := _) (v := ?_) rfl (by kernel_rfl) (by kernel_rfl) (by kernel_rfl) (fun _ _ _ h => h) (Or.inl ⟨by rfl, ?_⟩) (by assumption) ?_
  rotate_left
  · (intro w hSw; (try dsimp only at hSw); go_simp; try (with_reducible rfl))
  (try simp only [Act.put, List.setIfInBounds_toArray, List.set_cons_zero, List.set_cons_succ])
  refine wpAnyH_done (by kernel_rfl) ?_ _
  clear hHeld hHeld4 hHeld5 hHeld6
  have hkc : (k : Int) ≤ (c4 : Int) := by rcases YA.out with ⟨_, h0, h1⟩ | ⟨g4, _, hle4, hmx4⟩ <;> omega
  rcases UA.out with ⟨rfl, h0, rfl⟩ | ⟨g7, rfl, hle7, hmx7⟩
  · omega
  go_wp2_with fail
  have hs1 := same_true A5 A4 c5 c4 zs (ys.take k) W7 RZ7.out (rd_take RY7.out k) (by rw [HZ.out.1]; omega) (by rw [List.length_take, HY.out.1]; omega) (fun i hi => (HZ.out.2 i (by rw [HZ.out.1] at hi; exact hi)).2)
    (fun i hi => by rw [getD_take (by rw [List.length_take, HY.out.1] at hi; omega)]; exact (HY.out.2 i (by rw [List.length_take, HY.out.1] at hi; omega)).2) (by rw [HZ.out.1, List.length_take, HY.out.1]; omega)
    (fun i hi => by rw [HZ.out.1] at hi; rw [getD_take hi]; exact rung_prefix HY.out HZ.out hk1 i hi)
  rw [HZ.out.1, List.length_take, HY.out.1, Nat.min_eq_left hk1] at hs1
  refine hs1.mono ?_
  clear hs1
  rintro e w' ⟨m1, rfl, rfl⟩
  have HE : Hid (∀ (D : Option Addr) (cc : Nat), (D = some ⟨g7, 1, none⟩ ∨ n = 0) → Calls Try.prog 58 #[.slice D n cc, .slice A4 n c4] (W7.drewN m1) fun e w' => e = .returned (.bool true) ∧ ∃ m, (W7.drewN m1).drewN m = w') := fun D cc hD =>
    equal_true D A4 cc c4 n (us.drop 1) ys (W7.drewN m1) (by
      rcases hD with rfl | h0
      · exact rd_drop (RU7.out.drewN m1)
      · intro hl
        exfalso
        simp only [f32s, List.length_map, List.length_drop, HU.out.1] at hl; omega) (RY7.out.drewN m1) (by rw [List.length_drop, HU.out.1]; omega) HY.out.1 (by omega) (fun i hi => by
    have := late_out W7 KM.out hl5 L.out.1 (by omega) HY.out HU.out i hi
    rw [getD_drop]; exact this)
  go_wp2_with fail
  all_goals
    refine (HE.out _ _ (by first | exact .inl rfl | (right; omega))).mono ?_
    rintro e w' ⟨rfl, m2, rfl⟩
    go_wp2_with fail
    have S8 := Lib.hid (S7.out.drewN (m1 + m2))
    have RY8 := Lib.hid (RY7.out.drewN (m1 + m2))
    clear S7 RY7 RZ7 RU7 HE YA UA HU HZ
    generalize W7.drewN (m1 + m2) = W8 at *
    refine (H3.out _ (Hr.out.below S8.out.bel)).mono ?_
    rintro e w' ⟨rfl, rfl⟩
    have k8 := S8.out.cell
    go_wp2_with fail
    have S9 := Lib.hid (S8.out.drewN (fN .quo .f32 fq 1132396544))
    have RY9 := Lib.hid (RY8.out.drewN (fN .quo .f32 fq 1132396544))
    clear S8 RY8 k8
    generalize W8.drewN (fN .quo .f32 fq 1132396544) = W9 at *
    refine (dampBody_any A' c' _ gb F ms W9 S9.out.own (Nat.le_of_lt S9.out.lt) KM.out (by omega) HF.out).mono ?_
    rintro e W10 ⟨A10, c10, he, ho10, hb10⟩
    obtain ⟨ds, hds⟩ : ∃ ds, ms.map (dampM F) = ds := ⟨_, rfl⟩
    have hdl : ms.length = ds.length := by rw [← hds]; simp
    rw [hds] at ho10
    rw [hdl] at he
    subst he
    have KD : Hid (ModesOk ds) := by
      have := damps_ok KM.out HF.out
      rw [hds] at this; exact this
    have HDS := Lib.hid hds
    have HDL := Lib.hid hdl
    have B10 : Below W10.heap.size W10 (W10.alloc (.cells #[.slice A10 ds.length c10] 69)) := (Below.refl W10.heap.size W10).alloc (Nat.le_refl _) _
    have S11 := Lib.hid ((S9.out.below hb10).below B10)
    have RY11 := Lib.hid ((RY9.out.below hb10).below B10)
    have D11 := Lib.hid ((RSt.make S9.out.bel ho10 hb10).input S11.out.rx)
    clear S9 RY9 ho10 hb10 hds hdl B10
    have k11 := S11.out.cell
    go_wp2_with fail
    generalize W10.alloc (.cells #[.slice A10 ds.length c10] 69) = W11 at *
    generalize W10.heap.size = gd at *
    have hdl16 : ds.length ≤ 16 := by rw [← HDL.out]; omega
    have hcon := touchBody_any A' A3 c' c3 _ gb 1065353216 k ms ms xs n W11 S11.out.own (Nat.le_of_lt S11.out.lt) KM.out (by omega) fac_one S11.out.rx (by omega) (by omega) (by omega) (fun i _ => by rw [damps_one KM.out]; split <;> rfl) rfl (calm_of KM.out L.out.1 n (by omega))
    refine hcon.mono ?_
    clear hcon k11
    rintro e W12 ⟨A12, c12, t12, he, ho12, hr12, hb12⟩
    rw [hr12.1] at he ho12
    subst he
    have S12 := Lib.hid (S11.out.below hb12)
    have D12 := Lib.hid (D11.out.below hb12)
    have RY12 := Lib.hid (RY11.out.below hb12)
    have RA12 := Lib.hid (own_rd' ho12)
    have HA := Lib.hid hr12
    clear S11 D11 RY11 ho12 hr12 hb12
    have k12 := S12.out.cell
    go_wp2_with fail
    have hcon := touchBody_any A' A3 c' c3 _ gb F n ms ms xs n W12 S12.out.own (Nat.le_of_lt S12.out.lt) KM.out (by omega) HF.out S12.out.rx (by omega) (by omega) (by omega) (fun i hi => by rw [if_pos hi]) rfl (calm_of KM.out L.out.1 n (by omega))
    refine hcon.mono ?_
    clear hcon k12
    rintro e W13 ⟨A13, c13, t13, he, ho13, hr13, hb13⟩
    rw [hr13.1] at he ho13
    subst he
    have S13 := Lib.hid (S12.out.below hb13)
    have D13 := Lib.hid (D12.out.below hb13)
    have RY13 := Lib.hid (RY12.out.below hb13)
    have RA13 := Lib.hid (RA12.out.below hb13)
    have RN13 := Lib.hid (own_rd' ho13)
    have HN := Lib.hid hr13
    clear S12 D12 RY12 RA12 ho13 hr13 hb13
    have k13 := S13.out.cell
    go_wp2_with fail
    have hcon := touchBody_any A' A3 c' c3 _ gb F 0 ms ds xs n W13 S13.out.own (Nat.le_of_lt S13.out.lt) KM.out (by omega) HF.out S13.out.rx (by omega) (by omega) (by omega) (fun i _ => by rw [if_neg (by omega), HDS.out]) HDL.out.symm (calm_of KD.out L.out.1 n (by omega))
    refine hcon.mono ?_
    clear hcon k13
    rintro e W14 ⟨A14, c14, t14, he, ho14, hr14, hb14⟩
    rw [hr14.1] at he ho14
    subst he
    have S14 := Lib.hid (S13.out.below hb14)
    have D14 := Lib.hid (D13.out.below hb14)
    have RY14 := Lib.hid (RY13.out.below hb14)
    have RA14 := Lib.hid (RA13.out.below hb14)
    have RN14 := Lib.hid (RN13.out.below hb14)
    have RO14 := Lib.hid (own_rd' ho14)
    have HO := Lib.hid hr14
    clear S13 D13 RY13 RA13 RN13 ho14 hr14 hb14
    have k14 := D14.out.cell
    go_wp2_with fail
    have hcon := ringBody_any A10 A3 c10 c3 _ gd ds xs n W14 D14.out.own (Nat.le_of_lt D14.out.lt) KD.out hdl16 D14.out.rx (by omega) (by omega) (calm_of KD.out L.out.1 n (by omega))
    refine hcon.mono ?_
    clear hcon k14
    rintro e W15 ⟨A15, c15, t15, he, ho15, hr15, hb15⟩
    rw [hr15.1] at he ho15
    subst he
    have B15 := Lib.hid (S14.out.below hb15).bel
    have RY15 := Lib.hid (RY14.out.below hb15)
    have RA15 := Lib.hid (RA14.out.below hb15)
    have RN15 := Lib.hid (RN14.out.below hb15)
    have RO15 := Lib.hid (RO14.out.below hb15)
    have RF15 := Lib.hid (own_rd' ho15)
    have HF15 := Lib.hid hr15
    clear S14 D14 RY14 RA14 RN14 RO14 ho15 hr15 hb15
    have Z1 := Lib.hid (fun W h1 h2 => same_rung (ms := ms) (xs := xs) A12 A4 c12 c4 t12 ys n W h1 h2 hn1 HA.out HY.out)
    have Z2 := Lib.hid (fun W h1 h2 => same_rung (ms := ms) (xs := xs) A13 A4 c13 c4 t13 ys n W h1 h2 hn1 HN.out HY.out)
    have Z3 := Lib.hid (fun W h1 h2 => same_rung (ms := ds) (xs := xs) A14 A15 c14 c15 t14 t15 n W h1 h2 hn1 HO.out HF15.out)
    clear HA HY HN HO HF15
    go_wp2_with fail
    refine (Z1.out _ RA15.out RY15.out).mono ?_
    rintro e w' ⟨n1, rfl, rfl⟩
    go_wp2_with fail
    refine (Z2.out _ (RN15.out.drewN n1) (RY15.out.drewN n1)).mono ?_
    rintro e w' ⟨n2, rfl, rfl⟩
    go_wp2_with fail
    refine (Z3.out _ (RO15.out.drewN (n1 + n2)) (RF15.out.drewN (n1 + n2))).mono ?_
    rintro e w' ⟨n3, rfl, rfl⟩
    go_wp2_with fail
    go_ret
    exact ⟨rfl, below_drewN B15.out _⟩

set_option maxRecDepth 100000 in
theorem walk (A : Option Addr) (c : Nat) (bs : List Int) (w : World) (_ : bs.length ≤ maxLen) (hr : Rd w A (bs.map (.int .u8))) (hb : ∀ i, i < bs.length → 0 ≤ bs.getD i 0 ∧ bs.getD i 0 ≤ 255) :
    Calls Try.prog 12 #[.slice A bs.length c] w fun e w' => e = .returned (.bool true) ∧ Below w.heap.size w w' := by
  by_cases hm : bs.length ≤ 1048576
  · exact walk_some A c bs w hr hm hb
  · clear hb
    go_enter Try.func12, Try.ntmps12
    go_wp2
    go_ret
    exact ⟨rfl, Below.refl _ _⟩
set_option maxRecDepth 100000 in
theorem lifted (os : Os) (started : os.Started) (H : Type) (enc : TypeId × Value → H) :
    ReturnsInHanded {} Try.checked os 12 .any (Rows.fnRungSpec.pre6 enc Try.prog Try.f12 Rows.fnRungRow.domain false) (Rows.fnRungSpec.post enc Try.prog Try.f12 false true false false) := by
  refine returnsInHanded_of_change (C := Try.checked) own started (by kernel_rfl) Try.func12
    (ChangeSpec.witness6 (enc := enc) (C := Try.checked) false ⟨#[], #[.slice none 0 0], []⟩ 8 (by kernel_rfl) (by kernel_rfl) (by kernel_rfl) (by kernel_rfl)) ?_
  intro W base args ds gs before hval0 hW hcnd _
  have hval : ∀ (j : Nat) t v, Try.f12.params[j]? = some t → args[j]? = some v → Value.okWide Try.prog W .any base t v := hval0
  have hW' := hW
  obtain ⟨p, q, hA0, hV, rfl, hfz, hnd⟩ := hW
  have hA : DataW.TrodAll enc Try.prog W 0 (fun _ => true) true Try.f12.params.toList args.toList ds p := hA0
  rw [Try.params12] at hA hval
  obtain ⟨v0, vs0, d0, ds0, p0, q0, hargs, rfl, rfl, h0, r0⟩ := trodAll_cons hA
  obtain ⟨rfl, rfl, rfl⟩ := trodAll_nil r0
  obtain rfl : args = #[v0] := by cases args; simp_all
  obtain ⟨rfl, rfl⟩ := trodVars_none hV
  obtain ⟨a0, len0, cap0, rfl⟩ := okWide_slice Try.underlying22 (hval 0 22 v0 rfl rfl)
  have lt0 : ∀ x ∈ p0, x.block < W.heap.size := by obtain ⟨m, hm⟩ := h0; exact DataW.trod_lt m _ _ _ hm
  obtain ⟨bs0, rfl, mx0, rd0, wf0⟩ := open_bytes rfl Try.underlying22 Try.underlying5 (by kernel_rfl) h0
  clear hA0 hval0
  refine (walk a0 cap0 bs0 W mx0 rd0 wf0).mono fun e W' ⟨he, bel⟩ => ?_
  subst he
  exact ⟨_, rfl, _, _, _, [], _, [], hW', trodAll_mk1 (shut_bool Try.underlying4 _), (trodAll_cons_mk (Below.trod laidOut (by kernel_rfl) (of_decide_eq_true (by kernel_rfl)) h0 bel lt0) trodAll_mk0), rfl, bel.frame _, fun h => by cases h⟩

theorem proved : Rows.FnRungSaid :=
  OpenClaim.holds_of_wide 12 Try.f12 rfl rfl rfl rfl rfl rfl rfl ⟨rfl, rfl, rfl, rfl, rfl⟩ rfl rfl rfl rfl rfl (by kernel_rfl) Try.func12 (by kernel_rfl)
    (of_decide_eq_true (by kernel_rfl)) (by unfold Func.isWrapper; first | (rw [if_pos (by decide +kernel)]; kernel_rfl) | (rw [if_neg (by decide +kernel)]; exact ⟨rfl, rfl⟩))
    (fun os started H enc _ => lifted os started H enc)
#print axioms proved
end Go.Proofs.Ytignncjmbcdpaaa.lawRung
