/-
Part 3 of 5 of the proof of the law FnFitted: it returns true for all codes. No condition.
-/
import Derived.Test.YtignncjmbcdpaaaLawFittedM2
import Derived.Deep.AppendLies
import Derived.Laws.ResultCell
import Derived.Lib.SliceRun
import Derived.Deep.RegionHeld3
import Derived.Deep.OwnRows
import Derived.Deep.RegionWith
import Derived.Laws.BytesArg
import Derived.Laws.Concat
import Derived.ProofKit
import Derived.OpenShut
import Derived.Deep.Slices
import Derived.Deep.CutRange

/-
impl.FitPair of four numbers.
-/
namespace Go.Proofs.Ytignncjmbcdpaaa
open Go Go.RowKit Ieee

def prodC (x y : Nat × Nat) : Nat × Nat := (mulRe x.1 x.2 y.1 y.2, mulIm x.1 x.2 y.1 y.2)
def subC (x y : Nat × Nat) : Nat × Nat := (fo .sub .f64 x.1 y.1, fo .sub .f64 x.2 y.2)
def cgetD (zs : List (Nat × Nat)) (i : Nat) : Nat × Nat := zs.getD i (0, 0)
theorem c64s_at {zs : List (Nat × Nat)} {k : Nat} (h : k < zs.length) : (c64s zs)[k]? = some (.complex .f64 (cgetD zs k).1 (cgetD zs k).2) := by
  simp [c64s, cgetD, List.getD, List.getElem?_eq_getElem h]

set_option maxHeartbeats 400000 in
theorem subD_any (a b c d : Nat) (w : World) (h1 : fin .f64 (fo .sub .f64 a c)) (h2 : fin .f64 (fo .sub .f64 b d)) : Calls Try.prog 78 #[.complex .f64 a b, .complex .f64 c d] w fun e w' => ∃ n, e = .returned (.complex .f64 (fo .sub .f64 a c) (fo .sub .f64 b d)) ∧ w.drewN n = w' := by
  have e1 := fun w => rnd_eq h1 w
  have e2 := fun w => rnd_eq h2 w
  clear h1 h2
  go_enter Try.func78, Try.ntmps78
  go_wp2_with fail
  go_ret
  exact ⟨_, rfl, rfl⟩

/-- A minor of the four numbers. -/
def minorW (zs : List (Nat × Nat)) (i j k l : Nat) : Nat × Nat := subC (prodC (cgetD zs i) (cgetD zs j)) (prodC (cgetD zs k) (cgetD zs l))
set_option maxRecDepth 100000 in
set_option maxHeartbeats 400000 in
theorem minor_any (zs : List (Nat × Nat)) (A : Option Addr) (cp b i j k l : Nat) (w : World) (hr : Rd w A (c64s zs)) (hl : zs.length = 4) (hc : w.cell? ⟨b, 0, none⟩ = some (.slice A 4 cp)) (hi : i < 4) (hj : j < 4) (hk : k < 4) (hl' : l < 4)
    (f1 : finC (prodC (cgetD zs i) (cgetD zs j))) (f2 : finC (prodC (cgetD zs k) (cgetD zs l))) (f3 : finC (minorW zs i j k l)) :
    Calls Try.prog 77 #[.int .i64 i, .int .i64 j, .int .i64 k, .int .i64 l, .pointer (some ⟨b, 0, none⟩)] w fun e w' => ∃ n, e = .returned (.complex .f64 (minorW zs i j k l).1 (minorW zs i j k l).2) ∧ w.drewN n = w' := by
  obtain ⟨bz, off, rfl, hb, hcell⟩ := hr (by simp [c64s]; omega)
  have ei := hcell i _ (c64s_at (by omega))
  have ej := hcell j _ (c64s_at (by omega))
  have ek := hcell k _ (c64s_at (by omega))
  have el := hcell l _ (c64s_at (by omega))
  have F1 := Lib.hid f1
  have F2 := Lib.hid f2
  have F3 := Lib.hid f3
  clear hcell hr f1 f2 f3
  unfold minorW at F3 ⊢
  generalize cgetD zs i = zi at *
  generalize cgetD zs j = zj at *
  generalize cgetD zs k = zk at *
  generalize cgetD zs l = zl at *
  obtain ⟨i1, i2⟩ := zi
  obtain ⟨j1, j2⟩ := zj
  obtain ⟨k1, k2⟩ := zk
  obtain ⟨l1, l2⟩ := zl
  unfold prodC at F1 F2 F3 ⊢
  unfold subC at F3 ⊢
  have T1 := Lib.hid (fun W => (implTimes_fin i1 i2 j1 j2 W F1.out.1 F1.out.2).mono fun e w' h => (by
    obtain ⟨n, rfl, rfl⟩ := h; exact ⟨rfl, n, rfl⟩ : e = .returned (.complex .f64 (mulRe i1 i2 j1 j2) (mulIm i1 i2 j1 j2)) ∧ ∃ j, W.drewN j = w'))
  have T2 := Lib.hid (fun W => (implTimes_fin k1 k2 l1 l2 W F2.out.1 F2.out.2).mono fun e w' h => (by
    obtain ⟨n, rfl, rfl⟩ := h; exact ⟨rfl, n, rfl⟩ : e = .returned (.complex .f64 (mulRe k1 k2 l1 l2) (mulIm k1 k2 l1 l2)) ∧ ∃ j, W.drewN j = w'))
  have T3 := Lib.hid (fun W => (subD_any _ _ _ _ W F3.out.1 F3.out.2).mono fun e w' h => (by
    obtain ⟨n, rfl, rfl⟩ := h; exact ⟨rfl, n, rfl⟩ : e = .returned (.complex .f64 (fo .sub .f64 (mulRe i1 i2 j1 j2) (mulRe k1 k2 l1 l2)) (fo .sub .f64 (mulIm i1 i2 j1 j2) (mulIm k1 k2 l1 l2))) ∧ ∃ j, W.drewN j = w'))
  go_enter Try.func77, Try.ntmps77
  have gi : (i : Int) < 4 := by omega
  have gj : (j : Int) < 4 := by omega
  have gk : (k : Int) < 4 := by omega
  have gl : (l : Int) < 4 := by omega
  go_wp2_with fail
  refine wp_region_rx (by kernel_rfl) (by kernel_rfl) ?_; apply Exists.intro
  repeat (first | (apply wpR_val; intro K hK; go_simp; refine ⟨rfl, hK _ ?_⟩; clear hK K) | (apply wpR_skip; intro K hK; go_simp; refine hK _ ?_; clear hK K))
  apply wpR_val (v := .complex .f64 (mulRe i1 i2 j1 j2) (mulIm i1 i2 j1 j2)); intro K hK; go_simp; refine ⟨fun m => rcall0 (T1.out _), hK _ ?_⟩; clear hK K
  repeat (first | (apply wpR_val; intro K hK; go_simp; refine ⟨rfl, hK _ ?_⟩; clear hK K) | (apply wpR_skip; intro K hK; go_simp; refine hK _ ?_; clear hK K))
  apply wpR_val (v := .complex .f64 (mulRe k1 k2 l1 l2) (mulIm k1 k2 l1 l2)); intro K hK; go_simp; refine ⟨fun m => rcall0 (T2.out _), hK _ ?_⟩; clear hK K
  repeat (first | (apply wpR_val; intro K hK; go_simp; refine ⟨rfl, hK _ ?_⟩; clear hK K) | (apply wpR_skip; intro K hK; go_simp; refine hK _ ?_; clear hK K))
  apply wpR_val (v := .complex .f64 (fo .sub .f64 (mulRe i1 i2 j1 j2) (mulRe k1 k2 l1 l2)) (fo .sub .f64 (mulIm i1 i2 j1 j2) (mulIm k1 k2 l1 l2))); intro K hK; go_simp; refine ⟨fun m => rcall0 (T3.out _), hK _ ?_⟩; clear hK K
  repeat (first | (apply wpR_val; intro K hK; go_simp; refine ⟨rfl, hK _ ?_⟩; clear hK K) | (apply wpR_skip; intro K hK; go_simp; refine hK _ ?_; clear hK K))
  apply wpR_nil (Rs := []); rintro _ ⟨nq, rfl⟩
  go_wp2_with fail
  go_ret
  exact ⟨_, rfl, rfl⟩

/-- The minors of the four numbers are finite, and the quotients are. -/
structure PairOk (zs : List (Nat × Nat)) : Prop where
  p : ∀ i j, i < 4 → j < 4 → i + j ≤ 4 → finC (prodC (cgetD zs i) (cgetD zs j))
  d : finC (minorW zs 1 1 0 2)
  s : finC (minorW zs 1 2 0 3)
  t : finC (minorW zs 2 2 1 3)
  z : (feq .f64 (minorW zs 1 1 0 2).1 0 && feq .f64 (minorW zs 1 1 0 2).2 0) = false
  qs : finC (quoRe (minorW zs 1 2 0 3).1 (minorW zs 1 2 0 3).2 (minorW zs 1 1 0 2).1 (minorW zs 1 1 0 2).2, quoIm (minorW zs 1 2 0 3).1 (minorW zs 1 2 0 3).2 (minorW zs 1 1 0 2).1 (minorW zs 1 1 0 2).2)
  qt : finC (quoRe (minorW zs 2 2 1 3).1 (minorW zs 2 2 1 3).2 (minorW zs 1 1 0 2).1 (minorW zs 1 1 0 2).2, quoIm (minorW zs 2 2 1 3).1 (minorW zs 2 2 1 3).2 (minorW zs 1 1 0 2).1 (minorW zs 1 1 0 2).2)
theorem minor_lt (zs : List (Nat × Nat)) (i j k l : Nat) : wfk .f64 (minorW zs i j k l).1 ∧ wfk .f64 (minorW zs i j k l).2 := ⟨fo_lt _ _ _ _, fo_lt _ _ _ _⟩

set_option maxRecDepth 100000 in
set_option maxHeartbeats 400000 in
theorem fitPair_any (A : Option Addr) (cp : Nat) (zs : List (Nat × Nat)) (w : World) (hr : Rd w A (c64s zs)) (hl : zs.length = 4) (h : PairOk zs) :
    Calls Try.prog 23 #[.slice A 4 cp] w fun e w' => ∃ n b, e = .returned (.tuple #[.complex .f64 (quoRe (minorW zs 1 2 0 3).1 (minorW zs 1 2 0 3).2 (minorW zs 1 1 0 2).1 (minorW zs 1 1 0 2).2) (quoIm (minorW zs 1 2 0 3).1 (minorW zs 1 2 0 3).2 (minorW zs 1 1 0 2).1 (minorW zs 1 1 0 2).2),
      .complex .f64 (quoRe (minorW zs 2 2 1 3).1 (minorW zs 2 2 1 3).2 (minorW zs 1 1 0 2).1 (minorW zs 1 1 0 2).2) (quoIm (minorW zs 2 2 1 3).1 (minorW zs 2 2 1 3).2 (minorW zs 1 1 0 2).1 (minorW zs 1 1 0 2).2), .bool true]) ∧ (w.alloc b).drewN n = w' := by
  have H := Lib.hid h
  have M1 := Lib.hid (fun W (hr : Rd W A (c64s zs)) b (hc : W.cell? ⟨b, 0, none⟩ = some (.slice A 4 cp)) => minor_any zs A cp b 1 1 0 2 W hr hl hc (by omega) (by omega) (by omega) (by omega) (h.p 1 1 (by omega) (by omega) (by omega)) (h.p 0 2 (by omega) (by omega) (by omega)) h.d)
  have M2 := Lib.hid (fun W (hr : Rd W A (c64s zs)) b (hc : W.cell? ⟨b, 0, none⟩ = some (.slice A 4 cp)) => minor_any zs A cp b 1 2 0 3 W hr hl hc (by omega) (by omega) (by omega) (by omega) (h.p 1 2 (by omega) (by omega) (by omega)) (h.p 0 3 (by omega) (by omega) (by omega)) h.s)
  have M3 := Lib.hid (fun W (hr : Rd W A (c64s zs)) b (hc : W.cell? ⟨b, 0, none⟩ = some (.slice A 4 cp)) => minor_any zs A cp b 2 2 1 3 W hr hl hc (by omega) (by omega) (by omega) (by omega) (h.p 2 2 (by omega) (by omega) (by omega)) (h.p 1 3 (by omega) (by omega) (by omega)) h.t)
  have L1 := Lib.hid (minor_lt zs 1 1 0 2)
  have L2 := Lib.hid (minor_lt zs 1 2 0 3)
  have L3 := Lib.hid (minor_lt zs 2 2 1 3)
  have HD := Lib.hid (And.intro h.d (And.intro h.s (And.intro h.t (And.intro h.z (And.intro h.qs h.qt)))))
  clear h H
  generalize minorW zs 1 1 0 2 = d at *
  generalize minorW zs 1 2 0 3 = s at *
  generalize minorW zs 2 2 1 3 = t at *
  obtain ⟨d1, d2⟩ := d
  obtain ⟨s1, s2⟩ := s
  obtain ⟨t1, t2⟩ := t
  go_enter Try.func23, Try.ntmps23
  go_wp2_with fail
  have hR : Rd (w.alloc (.cells #[.slice A 4 cp] 36)) A (c64s zs) := hr.below ((Below.refl w.heap.size w).alloc (Nat.le_refl _) _)
  have hC : (w.alloc (.cells #[.slice A 4 cp] 36)).cell? ⟨w.heap.size, 0, none⟩ = some (.slice A 4 cp) := (cell_of_row _ _ 0 _ _ (0, 0) (heap_alloc_new w _)).trans (by simp)
  have HR := Lib.hid hR
  have HC := Lib.hid hC
  have HW : Hid (∃ b, w.alloc (.cells #[.slice A 4 cp] 36) = w.alloc b) := ⟨_, rfl⟩
  clear hR hC hr
  generalize w.alloc (.cells #[.slice A 4 cp] 36) = W at *
  refine (M1.out _ HR.out _ HC.out).mono ?_
  rintro e w' ⟨n1, rfl, rfl⟩
  go_wp2_with fail
  refine (M2.out _ (HR.out.drewN _) _ HC.out).mono ?_
  rintro e w' ⟨n2, rfl, rfl⟩
  go_wp2_with fail
  refine (divide_fin s1 s2 d1 d2 _ HD.out.2.1.1 HD.out.2.1.2 HD.out.1.1 HD.out.1.2 L2.out.1 L2.out.2 L1.out.1 L1.out.2 HD.out.2.2.2.1 HD.out.2.2.2.2.1.1 HD.out.2.2.2.2.1.2).mono ?_
  rintro e w' ⟨n3, rfl, _, _, rfl⟩
  go_wp2_with fail
  refine (M3.out _ (HR.out.drewN _) _ HC.out).mono ?_
  rintro e w' ⟨n4, rfl, rfl⟩
  go_wp2_with fail
  refine (divide_fin t1 t2 d1 d2 _ HD.out.2.2.1.1 HD.out.2.2.1.2 HD.out.1.1 HD.out.1.2 L3.out.1 L3.out.2 L1.out.1 L1.out.2 HD.out.2.2.2.1 HD.out.2.2.2.2.2.1 HD.out.2.2.2.2.2.2).mono ?_
  rintro e w' ⟨n5, rfl, _, _, rfl⟩
  go_wp2_with fail
  go_ret3
  obtain ⟨bb, hbb⟩ := HW.out
  exact ⟨_, bb, rfl, by rw [← hbb]⟩
end Go.Proofs.Ytignncjmbcdpaaa

/-
impl.correlated at finite numbers.
-/
namespace Go.Proofs.Ytignncjmbcdpaaa
open Go Go.RowKit Ieee

/-- The conjugate. -/
def conjW (y : Nat × Nat) : Nat × Nat := (y.1, Op.negFloat .f64 y.2)
/-- The sum over the first k products. -/
def corrW (xs ys : List (Nat × Nat)) : Nat → Nat × Nat
  | 0 => (0, 0)
  | k + 1 => (fo .add .f64 (corrW xs ys k).1 (prodC (cgetD xs k) (conjW (cgetD ys k))).1, fo .add .f64 (corrW xs ys k).2 (prodC (cgetD xs k) (conjW (cgetD ys k))).2)
/-- All that is computed is finite. -/
def CorrOk (xs ys : List (Nat × Nat)) (n : Nat) : Prop := ∀ k, k < n → finC (prodC (cgetD xs k) (conjW (cgetD ys k))) ∧ finC (corrW xs ys (k + 1))
set_option maxHeartbeats 400000 in
theorem conj_any (a b : Nat) (w : World) : Calls Try.prog 143 #[.complex .f64 a b] w fun e w' => e = .returned (.complex .f64 a (Op.negFloat .f64 b)) ∧ ∃ j, w.drewN j = w' := by
  go_enter Try.func143, Try.ntmps143
  go_wp2_with fail
  go_ret
  exact ⟨rfl, 0, World.drewN_zero w⟩
set_option maxHeartbeats 400000 in
theorem addD_fin (a b c d : Nat) (w : World) (h1 : fin .f64 (fo .add .f64 a c)) (h2 : fin .f64 (fo .add .f64 b d)) : Calls Try.prog 96 #[.complex .f64 a b, .complex .f64 c d] w fun e w' => e = .returned (.complex .f64 (fo .add .f64 a c) (fo .add .f64 b d)) ∧ ∃ j, w.drewN j = w' := by
  have e1 := fun w => rnd_eq h1 w
  have e2 := fun w => rnd_eq h2 w
  clear h1 h2
  go_enter Try.func96, Try.ntmps96
  go_wp2_with fail
  go_ret
  exact ⟨rfl, _, rfl⟩
/-- One round, its words without a body. -/
theorem corr_pack {xs ys : List (Nat × Nat)} {n k : Nat} (h : CorrOk xs ys n) (hk : k < n) : ∃ x1 x2 y1 y2 s1 s2 c2 p q t1 t2 : Nat, (cgetD xs k).1 = x1 ∧ (cgetD xs k).2 = x2 ∧ (cgetD ys k).1 = y1 ∧ (cgetD ys k).2 = y2 ∧ (corrW xs ys k).1 = s1 ∧ (corrW xs ys k).2 = s2 ∧
    (corrW xs ys (k + 1)).1 = t1 ∧ (corrW xs ys (k + 1)).2 = t2 ∧ Hid (∀ W, Calls Try.prog 143 #[.complex .f64 y1 y2] W fun e w' => e = .returned (.complex .f64 y1 c2) ∧ ∃ j, W.drewN j = w') ∧
    Hid (∀ W, Calls Try.prog 79 #[.complex .f64 x1 x2, .complex .f64 y1 c2] W fun e w' => e = .returned (.complex .f64 p q) ∧ ∃ j, W.drewN j = w') ∧
    Hid (∀ W, Calls Try.prog 96 #[.complex .f64 s1 s2, .complex .f64 p q] W fun e w' => e = .returned (.complex .f64 t1 t2) ∧ ∃ j, W.drewN j = w') := by
  obtain ⟨h1, h2⟩ := h k hk
  refine ⟨_, _, _, _, _, _, _, _, _, _, _, rfl, rfl, rfl, rfl, rfl, rfl, rfl, rfl, fun W => conj_any _ _ W, fun W => ?_, fun W => addD_fin _ _ _ _ W h2.1 h2.2⟩
  refine (implTimes_fin _ _ _ _ W h1.1 h1.2).mono fun e w' ⟨n, he, hw⟩ => ⟨he, n, hw⟩

set_option maxRecDepth 100000 in
set_option maxHeartbeats 800000 in
theorem corr_any (A B : Option Addr) (c d n m : Nat) (xs ys : List (Nat × Nat)) (w : World) (hr : Rd w A (c64s xs)) (hs : Rd w B (c64s ys)) (hx : xs.length = n) (hy : ys.length = n) (hn : n ≤ 2000) (hm : m = n) (h : CorrOk xs ys n) :
    Calls Try.prog 97 #[.slice A n c, .slice B m d] w fun e w' => e = .returned (.complex .f64 (corrW xs ys n).1 (corrW xs ys n).2) ∧ ∃ j, w.drewN j = w' := by
  subst hm
  have Hr := Lib.hid hr
  have Hs := Lib.hid hs
  have Hx := Lib.hid hx
  have Hy := Lib.hid hy
  have H := Lib.hid h
  clear hr hs hx hy h
  go_enter Try.func97, Try.ntmps97
  go_wp2_with fail
  go_loopw [5, 12] (fun s i wr => ∃ (k j : Nat), i = .int .i64 (k : Int) ∧ k ≤ m ∧ s = .complex .f64 (corrW xs ys k).1 (corrW xs ys k).2 ∧ wr = w.drewN j) (fun _ i _ => m - (intOf i).toNat)
  case atStart => exact ⟨0, 0, rfl, by omega, rfl, (World.drewN_zero w).symm⟩
  case round =>
    obtain ⟨k, j, rfl, hk, rfl, rfl⟩ := hrel
    by_cases hlt : k < m
    · obtain ⟨b, off, rfl, hbk, hc⟩ := Hr.out (by simp [c64s]; rw [Hx.out]; omega)
      obtain ⟨b2, off2, rfl, hbk2, hc2⟩ := Hs.out (by simp [c64s]; rw [Hy.out]; omega)
      have e1 := hc k _ (c64s_at (by rw [Hx.out]; exact hlt))
      have e2 := hc2 k _ (c64s_at (by rw [Hy.out]; exact hlt))
      obtain ⟨x1, x2, y1, y2, s1, s2, c2, p, q, t1, t2, a1, a2, a3, a4, a5, a6, a7, a8, T1, T2, T3⟩ := corr_pack H.out hlt
      rw [a1, a2] at e1
      rw [a3, a4] at e2
      rw [a5, a6]
      have A7 := Lib.hid a7
      have A8 := Lib.hid a8
      clear hc hc2 a1 a2 a3 a4 a5 a6 a7 a8
      go_wp2_with fail
      refine wp_region_rx (by kernel_rfl) (by kernel_rfl) ?_; apply Exists.intro
      repeat (first | (apply wpR_val; intro K hK; go_simp; refine ⟨rfl, hK _ ?_⟩; clear hK K) | (apply wpR_skip; intro K hK; go_simp; refine hK _ ?_; clear hK K))
      apply wpR_val (v := .complex .f64 y1 c2); intro K hK; go_simp; refine ⟨fun m => rcall (T1.out _), hK _ ?_⟩; clear hK K
      repeat (first | (apply wpR_val; intro K hK; go_simp; refine ⟨rfl, hK _ ?_⟩; clear hK K) | (apply wpR_skip; intro K hK; go_simp; refine hK _ ?_; clear hK K))
      apply wpR_val (v := .complex .f64 p q); intro K hK; go_simp; refine ⟨fun m => rcall (T2.out _), hK _ ?_⟩; clear hK K
      repeat (first | (apply wpR_val; intro K hK; go_simp; refine ⟨rfl, hK _ ?_⟩; clear hK K) | (apply wpR_skip; intro K hK; go_simp; refine hK _ ?_; clear hK K))
      apply wpR_val (v := .complex .f64 t1 t2); intro K hK; go_simp; refine ⟨fun m => rcall (T3.out _), hK _ ?_⟩; clear hK K
      repeat (first | (apply wpR_val; intro K hK; go_simp; refine ⟨rfl, hK _ ?_⟩; clear hK K) | (apply wpR_skip; intro K hK; go_simp; refine hK _ ?_; clear hK K))
      apply wpR_nil (Rs := []); rintro _ ⟨nq, rfl⟩
      go_wp2_with fail
      go_roundw
      case rel => exact ⟨k + 1, _, by go_num, by omega, by rw [A7.out, A8.out], rfl⟩
      case measure => simp [intOf]; omega
    · have hkn : m = k := by omega
      subst hkn
      go_wp2_with fail
      go_ret
      exact ⟨rfl, j, rfl⟩
end Go.Proofs.Ytignncjmbcdpaaa

/-
One step of a mode with an input, crudely bounded. (Plain arithmetic.)
-/
namespace Go.Proofs.Ytignncjmbcdpaaa
open Go Ieee

theorem top32 : (2 : Rat) ^ 118 ≤ top .f32 := by
  have h2 : pw 118 ≤ pw 120 := pw_mono (by omega)
  have e2 : pw 118 = 2 ^ 118 := by unfold pw; grind
  rw [e2] at h2
  exact h2
/-- A product of two parts. -/
theorem part_mul {a c : Nat} {L : Rat} (fa : fin .f64 a) (fc : fin .f64 c) (ha : ab (fv .f64 a) ≤ L) (hL : 1 ≤ L) (hL2 : L ≤ 2 ^ 112) (hc : ab (fv .f64 c) ≤ 1 + 1 / 2 ^ 40) :
    fin .f64 (fo .mul .f64 a c) ∧ ab (fv .f64 (fo .mul .f64 a c)) ≤ L * (1 + 1 / 2 ^ 30) := by
  obtain ⟨k1, k2, k3⟩ := consts64
  have ht := top210
  have n1 := ab_nonneg (fv .f64 a)
  have h1 := Rat.mul_le_mul_of_nonneg_left hc n1
  have h2 : ab (fv .f64 a * fv .f64 c) ≤ L * (1 + 1 / 2 ^ 40) := by rw [ab_mul]; grind
  have hm := mul_spec fa fc (by grind)
  have e := hm.2.1
  rw [k1] at e
  have t := ab_tri (fv .f64 (fo .mul .f64 a c)) (fv .f64 a * fv .f64 c)
  exact ⟨hm.1, by grind⟩
theorem wide_mild {a b c d : Nat} {L : Rat} (fa : fin .f32 a) (fb : fin .f32 b) (fc : fin .f32 c) (fd : fin .f32 d) (ha : ab (fv .f32 a) ≤ L) (hb : ab (fv .f32 b) ≤ L) (hL : 1 ≤ L) (hL2 : L ≤ 2 ^ 112)
    (hc : ab (fv .f32 c) ≤ 1 + 1 / 2 ^ 40) (hd : ab (fv .f32 d) ≤ 1 + 1 / 2 ^ 40) :
    Mild a b c d ∧ fin .f32 (sRe a b c d) ∧ fin .f32 (sIm a b c d) ∧ ab (fv .f32 (sRe a b c d)) ≤ L * (9 / 4) ∧ ab (fv .f32 (sIm a b c d)) ≤ L * (9 / 4) := by
  obtain ⟨a1, a2⟩ := wid_fin fa
  obtain ⟨b1, b2⟩ := wid_fin fb
  obtain ⟨c1, c2⟩ := wid_fin fc
  obtain ⟨d1, d2⟩ := wid_fin fd
  obtain ⟨k1, k2, k3⟩ := consts64
  obtain ⟨u1, u2, u3⟩ := consts32
  have ht := top210
  have ht2 := top32
  rw [← a2] at ha
  rw [← b2] at hb
  rw [← c2] at hc
  rw [← d2] at hd
  obtain ⟨p1, e1⟩ := part_mul a1 c1 ha hL hL2 hc
  obtain ⟨p2, e2⟩ := part_mul b1 d1 hb hL hL2 hd
  obtain ⟨p3, e3⟩ := part_mul a1 d1 ha hL hL2 hd
  obtain ⟨p4, e4⟩ := part_mul b1 c1 hb hL hL2 hc
  have g1 := ab_add (fv .f64 (fo .mul .f64 (wid a) (wid c))) (-fv .f64 (fo .mul .f64 (wid b) (wid d)))
  rw [ab_neg, show fv .f64 (fo .mul .f64 (wid a) (wid c)) + -fv .f64 (fo .mul .f64 (wid b) (wid d)) = fv .f64 (fo .mul .f64 (wid a) (wid c)) - fv .f64 (fo .mul .f64 (wid b) (wid d)) by grind] at g1
  have g2 := ab_add (fv .f64 (fo .mul .f64 (wid a) (wid d))) (fv .f64 (fo .mul .f64 (wid b) (wid c)))
  have s1 := sub_spec p1 p2 (by grind)
  have s2 := add_spec p3 p4 (by grind)
  have x1 := s1.2.1
  have x2 := s2.2.1
  rw [k1] at x1 x2
  have t1 := ab_tri (fv .f64 (mulRe (wid a) (wid b) (wid c) (wid d))) (fv .f64 (fo .mul .f64 (wid a) (wid c)) - fv .f64 (fo .mul .f64 (wid b) (wid d)))
  have t2 := ab_tri (fv .f64 (mulIm (wid a) (wid b) (wid c) (wid d))) (fv .f64 (fo .mul .f64 (wid a) (wid d)) + fv .f64 (fo .mul .f64 (wid b) (wid c)))
  have y1 : ab (fv .f64 (mulRe (wid a) (wid b) (wid c) (wid d))) ≤ L * (2 + 1 / 2 ^ 20) := by unfold mulRe at t1 ⊢; grind
  have y2 : ab (fv .f64 (mulIm (wid a) (wid b) (wid c) (wid d))) ≤ L * (2 + 1 / 2 ^ 20) := by unfold mulIm at t2 ⊢; grind
  have M : Mild a b c d := ⟨s1.1, s2.1, by grind, by grind⟩
  have r1 := (nar_ok M.fr M.tr).2
  have r2 := (nar_ok M.fi M.ti).2
  have z1 := r1.2.1
  have z2 := r2.2.1
  rw [u1] at z1 z2
  have v1 := ab_tri (fv .f32 (sRe a b c d)) (fv .f64 (mulRe (wid a) (wid b) (wid c) (wid d)))
  have v2 := ab_tri (fv .f32 (sIm a b c d)) (fv .f64 (mulIm (wid a) (wid b) (wid c) (wid d)))
  exact ⟨M, r1.1, r2.1, by unfold sRe at v1 ⊢; grind, by unfold sIm at v2 ⊢; grind⟩
/-- A sum of a part and a gain's part times an input. -/
theorem plus_gain {s g x : Nat} {L : Rat} (fs : fin .f32 s) (fg : fin .f32 g) (fx : fin .f32 x) (hs : ab (fv .f32 s) ≤ L * (9 / 4)) (hg : ab (fv .f32 g) ≤ 1024) (hx : ab (fv .f32 x) ≤ 8) (hL : 2 ^ 14 ≤ L) (hL2 : L ≤ 2 ^ 112) :
    fin .f32 (fo .mul .f32 g x) ∧ fin .f32 (fo .add .f32 s (fo .mul .f32 g x)) ∧ ab (fv .f32 (fo .add .f32 s (fo .mul .f32 g x))) ≤ L * 3 := by
  obtain ⟨u1, u2, u3⟩ := consts32
  have ht2 := top32
  have n1 := ab_nonneg (fv .f32 g)
  have n2 := ab_nonneg (fv .f32 x)
  have h1 := Rat.mul_le_mul_of_nonneg_left hx n1
  have h2 : ab (fv .f32 g * fv .f32 x) ≤ 8192 := by rw [ab_mul]; grind
  have hm := mul_spec fg fx (by grind)
  have e := hm.2.1
  rw [u1] at e
  have t := ab_tri (fv .f32 (fo .mul .f32 g x)) (fv .f32 g * fv .f32 x)
  have h3 : ab (fv .f32 (fo .mul .f32 g x)) ≤ 8193 := by grind
  have g1 := ab_add (fv .f32 s) (fv .f32 (fo .mul .f32 g x))
  have ha := add_spec fs hm.1 (by grind)
  have e2 := ha.2.1
  rw [u1] at e2
  have t2 := ab_tri (fv .f32 (fo .add .f32 s (fo .mul .f32 g x))) (fv .f32 s + fv .f32 (fo .mul .f32 g x))
  exact ⟨hm.1, ha.1, by grind⟩
end Go.Proofs.Ytignncjmbcdpaaa

/-
Rows of modes: two cells an element; append of one mode.
-/
namespace Go.Proofs.Ytignncjmbcdpaaa
open Go Go.RowKit Ieee

/-- The words of a mode: pole, gain. -/
abbrev MW := Nat × Nat × Nat × Nat
def modeV (m : MW) : List Value := [.complex .f32 m.1 m.2.1, .complex .f32 m.2.2.1 m.2.2.2]
def flatM (ms : List MW) : List Value := ms.flatMap modeV
theorem flatM_len (ms : List MW) : (flatM ms).length = ms.length * 2 := by
  induction ms with
  | nil => rfl
  | cons m ms ih => simp [flatM, modeV] at ih ⊢; omega
theorem flatM_snoc (ms : List MW) (m : MW) : flatM ms ++ modeV m = flatM (ms ++ [m]) := by simp [flatM]
theorem flatM_at {ms : List MW} {i : Nat} (h : i < ms.length) : (flatM ms)[i * 2]? = some (.complex .f32 (ms.getD i (0, 0, 0, 0)).1 (ms.getD i (0, 0, 0, 0)).2.1) ∧ (flatM ms)[i * 2 + 1]? = some (.complex .f32 (ms.getD i (0, 0, 0, 0)).2.2.1 (ms.getD i (0, 0, 0, 0)).2.2.2) := by
  induction ms generalizing i with
  | nil => simp at h
  | cons m ms ih =>
    cases i with
    | zero => exact ⟨rfl, rfl⟩
    | succ i =>
      have h2 := ih (i := i) (by simpa using h)
      have e1 : (i + 1) * 2 = i * 2 + 2 := by omega
      rw [e1]
      exact h2
theorem mode_info : (Try.prog.info? 52).map (fun i => (i.zero, i.size, i.bytes)) = some (some (.agg #[.complex .f32 0 0, .complex .f32 0 0]), 2, 16) := by kernel_rfl

theorem wpList_app2 {P : Program} {w0 : World} {ops : Array Oper} {rest : List Oper} {o : Oper} {a : Act} {Q : Exit → Act → World → Prop} (hgd : o.guard = none) (s x : Operand) (t : TypeId)
    (ho : o.op = .call { callee := .builtin .append, args := #[s, x], argTypes := #[t, t] })
    (B : Nat) (e : TypeId) (z : Value) (bytes : Nat) (ht : P.underlying t = some (.slice e)) (hinfo : (P.info? e).map (fun i => (i.zero, i.size, i.bytes)) = some (some z, 2, bytes)) (hzs : z.cells.size = 2)
    (v : Value) (n : Nat) (xs : List Value) (u1 u2 : Value) (hs : a.eval s = v) (hx : a.eval x = .slice (some ⟨w0.heap.size, 0, none⟩) 1 1) (hu1 : u1.oneCell' = true) (hu2 : u2.oneCell' = true) (hown : w0.ownsRow B e 2 v n xs) (hB : B ≤ w0.heap.size)
    (h63 : n + 1 ≤ 1048576) (hby : bytes ≤ 1024)
    (h : ∀ v' w', w'.ownsRow B e 2 v' (n + 1) (xs ++ [u1, u2]) → Below B w0 w' → wpList P ops Q rest (a.put o.dst v') w') : wpList P ops Q (o :: rest) a (w0.alloc (.cells #[u1, u2] e)) := by
  obtain ⟨i, hi, hzz⟩ := Option.map_eq_some_iff.1 hinfo
  simp only [Prod.mk.injEq] at hzz
  obtain ⟨hz, hsz, hb⟩ := hzz
  refine wpList_append_own _ hgd s x t ho B e i z 2 bytes ht hi hz hsz hb hzs (by decide) v n xs hs (hown.alloc _) ⟨w0.heap.size, 0, none⟩ 1 1 [u1, u2] hx rfl ?_ ?_ ?_ ?_ ?_ ?_
  · intro j y hy
    have hb' : (w0.alloc (.cells #[u1, u2] e)).heap[w0.heap.size]? = some (.cells #[u1, u2] e (0, 0)) := heap_alloc_new w0 _
    match j, hy with
    | 0, hy =>
      simp at hy; subst hy
      exact (cell_of_row _ _ 0 _ _ (0, 0) hb').trans (by simp)
    | 1, hy =>
      simp at hy; subst hy
      exact (cell_of_row _ _ 1 _ _ (0, 0) hb').trans (by simp)
  · intro y hy
    simp at hy
    rcases hy with rfl | rfl
    · exact hu1
    · exact hu2
  · simp only [maxLen]; omega
  · have := Nat.mul_le_mul h63 hby; omega
  · simp; omega
  · intro v' w' h2 h3 _
    refine h v' w' h2 ?_
    have h4 : Below B w0 (w0.alloc (.cells #[u1, u2] e)) := (Below.refl _ _).alloc hB _
    exact h4.grown h3 (Nat.le_trans hB h4.size) (fun k hk => (hown.lt k hk).1)
end Go.Proofs.Ytignncjmbcdpaaa

/-
spec.l2Body, spec.MakeBody: a valid body.
-/
namespace Go.Proofs.Ytignncjmbcdpaaa
open Go Go.RowKit Ieee

/-- The state of spec.l2Body: the result's block, the body's block behind it, the modes' row behind both. -/
structure BSt (w wr : World) (g : Nat) (v : Value) (ms : List MW) : Prop where
  cur : Cur wr g
  gr : w.grownBy wr (some g)
  hg : g < w.heap.size
  r : wr.heap[w.heap.size]? = some (.cells #[.slice none 0 0] 69 (0, 0))
  b : wr.heap[w.heap.size + 1]? = some (.cells #[v] 69 (0, 0))
  own : wr.ownsRow (w.heap.size + 2) 52 2 v ms.length (flatM ms)
  ok : ∀ m ∈ ms, ModeOk m.1 m.2.1 m.2.2.1 m.2.2.2
theorem BSt.keep {w wr wr' : World} {g : Nat} {v : Value} {ms : List MW} (h : BSt w wr g v ms) (hcur : Cur wr' g) (hgr : w.grownBy wr' (some g)) (hk : ∀ j, j < wr.heap.size → j ≠ g → wr'.heap[j]? = wr.heap[j]?) : BSt w wr' g v ms := by
  have hg := h.hg
  refine ⟨hcur, hgr, hg, (hk _ (lt_of_some h.r) (by omega)).trans h.r, (hk _ (lt_of_some h.b) (by omega)).trans h.b, ?_, h.ok⟩
  obtain ⟨h1, h2⟩ := h.own
  refine ⟨h1, ?_⟩
  rcases h2 with h2 | ⟨G, cap, cur, e1, e2, e3, e4⟩
  · exact .inl h2
  · exact .inr ⟨G, cap, cur, e1, e2, (hk G (lt_of_some e3) (by omega)).trans e3, e4⟩
theorem BSt.step {w wr wr' : World} {g : Nat} {v : Value} {ms : List MW} (h : BSt w wr g v ms) (s : CurStep wr wr' g) : BSt w wr' g v ms :=
  h.keep s.1 (grown_trans h.gr s.2) fun j hj hn => s.2.block j hj (by intro e; injection e with e; exact hn e)
theorem BSt.alloc {w wr : World} {g : Nat} {v : Value} {ms : List MW} (h : BSt w wr g v ms) (o : Obj) : BSt w (wr.alloc o) g v ms :=
  h.keep (h.cur.alloc o) (grown_trans h.gr ⟨rfl, rfl, rfl, by simp, fun i hi _ => Below.heap_alloc wr o i hi⟩) fun j hj _ => Below.heap_alloc wr o j hj
theorem BSt.below {w wr wr' : World} {g : Nat} {v : Value} {ms : List MW} (h : BSt w wr g v ms) {B : Nat} (hb : Below B wr wr') (hB : wr.heap.size ≤ B) : BSt w wr' g v ms :=
  h.keep (h.cur.below hb (by have := h.cur.lt; omega)) (grown_trans h.gr ⟨hb.os, hb.tape, hb.output, hb.size, fun i hi _ => hb.block i (by omega)⟩) fun j hj _ => hb.block j (by omega)
theorem BSt.cells {w wr : World} {g : Nat} {v : Value} {ms : List MW} (h : BSt w wr g v ms) : wr.cell? ⟨w.heap.size + 1, 0, none⟩ = some v ∧ wr.frozen? ⟨w.heap.size + 1, 0, none⟩ = false ∧ wr.cell? ⟨w.heap.size, 0, none⟩ = some (.slice none 0 0) ∧ wr.frozen? ⟨w.heap.size, 0, none⟩ = false :=
  ⟨cell_of_row wr _ 0 _ _ (0, 0) h.b, by unfold World.frozen?; simp only [h.b]; simp, cell_of_row wr _ 0 _ _ (0, 0) h.r, by unfold World.frozen?; simp only [h.r]; simp⟩
/-- A mode appended, and the slice stored. -/
theorem BSt.app {w wr w' : World} {g : Nat} {v v' : Value} {ms : List MW} {m : MW} (h : BSt w wr g v ms) (hm : ModeOk m.1 m.2.1 m.2.2.1 m.2.2.2) (hown : w'.ownsRow (w.heap.size + 2) 52 2 v' (ms.length + 1) (flatM ms ++ modeV m)) (hb : Below (w.heap.size + 2) wr w') :
    BSt w (w'.setCell ⟨w.heap.size + 1, 0, none⟩ v') g v' (ms ++ [m]) := by
  have hg := h.hg
  have k : ∀ j, j ≠ w.heap.size + 1 → (w'.setCell ⟨w.heap.size + 1, 0, none⟩ v').heap[j]? = w'.heap[j]? := fun j hj => Below.heap_setCell _ _ _ _ hj
  have hb1 : w'.heap[w.heap.size + 1]? = some (.cells #[v] 69 (0, 0)) := (hb.block _ (by omega)).trans h.b
  refine ⟨cur_set (h.cur.below hb (by omega)) _ _ _ (by omega) (by omega), ?_, hg, ?_, ?_, ?_, ?_⟩
  · refine grown_set' ?_ (by omega)
    exact ⟨hb.os.trans h.gr.os, hb.tape.trans h.gr.tape, hb.output.trans h.gr.output, Nat.le_trans h.gr.size hb.size, fun i hi hn => (hb.block i (by omega)).trans (h.gr.block i hi hn)⟩
  · exact (k _ (by omega)).trans ((hb.block _ (by omega)).trans h.r)
  · simp [World.setCell, Array.getElem?_modify, hb1]
  · rw [← flatM_snoc, List.length_append]
    obtain ⟨h1, h2⟩ := hown
    refine ⟨h1, ?_⟩
    rcases h2 with h2 | ⟨G, cap, cur, e1, e2, e3, e4⟩
    · exact .inl h2
    · exact .inr ⟨G, cap, cur, e1, e2, (k G (by omega)).trans e3, e4⟩
  · intro x hx
    rcases List.mem_append.1 hx with hx | hx
    · exact h.ok x hx
    · simp at hx; subst hx; exact hm

theorem BSt.done {w wr : World} {g : Nat} {v : Value} {ms : List MW} (h : BSt w wr g v ms) : ∃ A c, v = .slice A ms.length c ∧ (wr.setCell ⟨w.heap.size, 0, none⟩ v).ownsRow (w.heap.size + 2) 52 2 (.slice A ms.length c) ms.length (flatM ms) ∧
    CurStep w (wr.setCell ⟨w.heap.size, 0, none⟩ v) g ∧ (wr.setCell ⟨w.heap.size, 0, none⟩ v).heap[w.heap.size]? = some (.cells #[v] 69 (0, 0)) := by
  have hg := h.hg
  have k : ∀ j, j ≠ w.heap.size → (wr.setCell ⟨w.heap.size, 0, none⟩ v).heap[j]? = wr.heap[j]? := fun j hj => Below.heap_setCell _ _ _ _ hj
  have hc : CurStep w (wr.setCell ⟨w.heap.size, 0, none⟩ v) g := ⟨cur_set h.cur _ _ _ (by omega) (by omega), grown_set' h.gr (Nat.le_refl _)⟩
  have hr : (wr.setCell ⟨w.heap.size, 0, none⟩ v).heap[w.heap.size]? = some (.cells #[v] 69 (0, 0)) := by
    simp [World.setCell, Array.getElem?_modify, h.r]
  obtain ⟨h1, h2⟩ := h.own
  rcases h2 with ⟨h2, h3⟩ | ⟨G, cap, cur, e1, e2, e3, e4⟩
  · exact ⟨none, 0, by rw [h2, h3], ⟨h1, .inl ⟨by rw [h3], h3⟩⟩, hc, hr⟩
  · exact ⟨_, cap, e1, ⟨h1, .inr ⟨G, cap, cur, rfl, e2, (k G (by omega)).trans e3, e4⟩⟩, hc, hr⟩
/-- What MakeBody returns. -/
def BodyPost (most : Int) (w : World) (e : Ending) (w' : World) : Prop :=
  ∃ (A : Option Addr) (c : Nat) (ms : List MW), e = .returned (.agg #[.slice A ms.length c]) ∧ w'.ownsRow (w.heap.size + 2) 52 2 (.slice A ms.length c) ms.length (flatM ms) ∧ (∀ m ∈ ms, ModeOk m.1 m.2.1 m.2.2.1 m.2.2.2) ∧ (ms.length : Int) ≤ most

set_option maxRecDepth 100000 in
set_option maxHeartbeats 800000 in
theorem l2Body_any (g : Nat) (most : Int) (w : World) (h : Cur w g) (h0 : 0 ≤ most) (h1 : most ≤ 16) :
    Calls Try.prog 100 #[.pointer (some ⟨g, 0, none⟩), .int .i64 most] w fun e w' => BodyPost most w e w' ∧ CurStep w w' g := by
  have S0 : BSt w ((w.alloc (.cells #[.slice none 0 0] 69)).alloc (.cells #[.slice none 0 0] 69)) g (.slice none 0 0) [] := by
    have e1 : (w.alloc (.cells #[.slice none 0 0] 69)).heap.size = w.heap.size + 1 := by simp
    refine ⟨(h.alloc _).alloc _, ⟨rfl, rfl, rfl, by simp; omega, fun i hi _ => ?_⟩, h.lt, ?_, ?_, ⟨rfl, .inl ⟨rfl, rfl⟩⟩, fun m hm => by cases hm⟩
    · exact (Below.heap_alloc _ _ i (by omega)).trans (Below.heap_alloc _ _ i hi)
    · exact (Below.heap_alloc _ _ _ (by omega)).trans (heap_alloc_new w _)
    · rw [← e1]; exact heap_alloc_new _ _
  go_enter Try.func100, Try.ntmps100
  go_wp2_with fail
  generalize (w.alloc (.cells #[.slice none 0 0] 69)).alloc (.cells #[.slice none 0 0] 69) = W0 at *
  refine (below_any g (most + 1) _ S0.cur (by omega) (by omega)).mono ?_
  rintro e W1 ⟨k0, rfl, ⟨hk0, hk1⟩, s1⟩
  have S1 := Lib.hid (S0.step s1)
  clear S0 s1
  go_wp2_with fail
  go_loopw [6, 7] (fun kk _ wr => ∃ (j : Int) (v : Value) (ms : List MW), kk = .int .i64 j ∧ 0 ≤ j ∧ j + ms.length ≤ most ∧ Hid (BSt w wr g v ms)) (fun kk _ _ => (intOf kk).toNat)
  case atStart => exact ⟨k0, _, [], rfl, hk0, by simp; omega, S1⟩
  case round =>
    obtain ⟨j, v, ms, rfl, hj0, hjm, hS⟩ := hrel
    by_cases hp : 0 < j
    · go_wp2_with fail
      refine (mode_any g _ hS.out.cur).mono ?_
      rintro e W2 ⟨a, b, c, d, rfl, wa, wb, wc, wd, s2⟩
      have S2 := Lib.hid (hS.out.step s2)
      clear s2
      go_wp2_with fail
      have S3 := S2.out.alloc (.cells #[.complex .f32 a b, .complex .f32 c d] 52)
      have hM : (W2.alloc (.cells #[.complex .f32 a b, .complex .f32 c d] 52)).heap[W2.heap.size]? = some (.cells #[.complex .f32 a b, .complex .f32 c d] 52 (0, 0)) := heap_alloc_new W2 _
      have hlt : W2.heap.size < (W2.alloc (.cells #[.complex .f32 a b, .complex .f32 c d] 52)).heap.size := by simp
      refine (isMode_any a b c d _ wa wb wc wd).mono ?_
      rintro e W4 ⟨t, rfl, hok, hb⟩
      have S4 := S3.below hb (Nat.le_refl _)
      have hM4 := (hb.block _ hlt).trans hM
      obtain ⟨c0, c1, _, _⟩ := m_cells hM4
      obtain ⟨b0, b1, _, _⟩ := S4.cells
      have H4 := Lib.hid S4
      have hsz : w.heap.size + 2 ≤ W4.heap.size := lt_of_some S4.b
      clear S3 S4 hM hM4 hlt hb
      cases t
      · go_wp2_with fail
        go_roundw
        case rel => exact ⟨j - 1, v, ms, by go_num, by omega, by omega, H4⟩
        case measure => simp [intOf]; omega
      · have Hok := Lib.hid (hok rfl)
        clear hok
        go_wp2_with (at_builtin; refine wpList_app2 rfl (.tmp 22) (.tmp 24) 67 rfl (w.heap.size + 2) 52 (.agg #[.complex .f32 0 0, .complex .f32 0 0]) 16 Try.underlying67 mode_info rfl v ms.length (flatM ms) _ _ rfl rfl rfl rfl H4.out.own hsz (by omega) (by omega) ?_; intro v' w' hown' hbel'; obtain ⟨G, capG, rfl, _, _⟩ := hown'.form (by omega); have hB1 := (hbel'.block (w.heap.size + 1) (by omega)).trans H4.out.b; have c3 := cell_of_row w' (w.heap.size + 1) 0 _ _ (0, 0) hB1; have f3 : w'.frozen? ⟨w.heap.size + 1, 0, none⟩ = false := (by unfold World.frozen?; simp only [hB1]; simp))
        go_roundw
        case rel => exact ⟨j - 1, _, ms ++ [(a, b, c, d)], by go_num, by omega, by simp; omega, H4.out.app (m := (a, b, c, d)) Hok.out hown' hbel'⟩
        case measure => simp [intOf]; omega
    · obtain ⟨b0, b1, r0, r1⟩ := hS.out.cells
      obtain ⟨A', cp', hv, ho, hcs, hres⟩ := hS.out.done
      subst hv
      have HO := Lib.hid ho
      have HC := Lib.hid hcs
      have HR := Lib.hid hres
      have HK := Lib.hid hS.out.ok
      clear ho hcs hres
      go_wp2_with fail
      refine bodyPost_ret (results_cell_row rfl _ _ w.heap.size 69 #[.slice A' ms.length cp'] (0, 0) _ rfl HR.out Try.underlying69 rfl (by kernel_rfl)) rfl ?_
      exact ⟨⟨A', cp', ms, rfl, HO.out, HK.out, by omega⟩, HC.out⟩

/-- Modes that lie from a block on. -/
def OwnM (w : World) (lo hi : Nat) (A : Option Addr) (c : Nat) (ms : List MW) : Prop :=
  w.ownsRow lo 52 2 (.slice A ms.length c) ms.length (flatM ms) ∧ ∀ k, (Value.slice A ms.length c).ownBlock = some k → k < hi
theorem OwnM.keep {w w' : World} {lo hi : Nat} {A : Option Addr} {c : Nat} {ms : List MW} (h : OwnM w lo hi A c ms) (hk : ∀ j, lo ≤ j → j < hi → w'.heap[j]? = w.heap[j]?) : OwnM w' lo hi A c ms := by
  obtain ⟨⟨h1, h2⟩, h3⟩ := h
  refine ⟨⟨h1, ?_⟩, h3⟩
  rcases h2 with h2 | ⟨g, cap, cur, e1, e2, e3, e4⟩
  · exact .inl h2
  · refine .inr ⟨g, cap, cur, e1, e2, (hk g e2 (h3 g (by rw [e1]; rfl))).trans e3, e4⟩
theorem OwnM.below {w w' : World} {lo hi B : Nat} {A : Option Addr} {c : Nat} {ms : List MW} (h : OwnM w lo hi A c ms) (hb : Below B w w') (hB : hi ≤ B) : OwnM w' lo hi A c ms :=
  h.keep fun j _ hj => hb.block j (by omega)
theorem OwnM.of {w : World} {lo : Nat} {A : Option Addr} {c : Nat} {ms : List MW} (h : w.ownsRow lo 52 2 (.slice A ms.length c) ms.length (flatM ms)) : OwnM w lo w.heap.size A c ms := by
  refine ⟨h, fun k hk => ?_⟩
  rcases h.2 with ⟨e, _⟩ | ⟨g, cap, cur, e1, e2, e3, e4⟩
  · rw [e] at hk; cases hk
  · rw [e1] at hk
    have : g = k := by injection hk
    subst this
    exact lt_of_some e3
/-- What its cells hold. -/
theorem OwnM.cells {w : World} {lo hi : Nat} {A : Option Addr} {c : Nat} {ms : List MW} (h : OwnM w lo hi A c ms) (h0 : 0 < ms.length) : ∃ b, A = some ⟨b, 0, none⟩ ∧ lo ≤ b ∧ b < w.heap.size ∧ ms.length ≤ c ∧ c ≤ maxLen ∧
    ∀ i, i < ms.length → w.cell? ⟨b, i * 2, none⟩ = some (.complex .f32 (ms.getD i (0, 0, 0, 0)).1 (ms.getD i (0, 0, 0, 0)).2.1) ∧ w.cell? ⟨b, i * 2 + 1, none⟩ = some (.complex .f32 (ms.getD i (0, 0, 0, 0)).2.2.1 (ms.getD i (0, 0, 0, 0)).2.2.2) := by
  obtain ⟨⟨h1, h2⟩, h3⟩ := h
  rcases h2 with ⟨_, h2⟩ | ⟨g, cap, cur, e1, e2, e3, e4, e5, e6, e7⟩
  · omega
  · injection e1 with q1 q2 q3
    subst q1 q3
    refine ⟨g, rfl, e2, lt_of_some e3, e4, e5, fun i hi => ?_⟩
    obtain ⟨f1, f2⟩ := flatM_at hi
    have key : ∀ j u, j < ms.length * 2 → (flatM ms)[j]? = some u → w.cell? ⟨g, j, none⟩ = some u := fun j u hj hu => by
      rw [cell_of_row w g j _ _ (0, 0) e3]
      rw [← e7, List.getElem?_take, if_pos hj] at hu
      simpa using hu
    exact ⟨key _ _ (by omega) f1, key _ _ (by omega) f2⟩

set_option maxRecDepth 100000 in
set_option maxHeartbeats 400000 in
theorem makeBody_any (A : Option Addr) (cp : Nat) (bs : List Int) (most : Int) (w : World) (hr : Rd w A (bs.map (.int .u8))) (hm : bs.length ≤ 1048576) (h : most = 3 ∨ most = 5) :
    Calls Try.prog 53 #[.slice A bs.length cp, .int .i64 most] w fun e w' => ∃ (A' : Option Addr) (c : Nat) (ms : List MW), e = .returned (.agg #[.slice A' ms.length c]) ∧ OwnM w' w.heap.size w'.heap.size A' c ms ∧ (∀ m ∈ ms, ModeOk m.1 m.2.1 m.2.2.1 m.2.2.2) ∧ ms.length ≤ 5 ∧ Below w.heap.size w w' := by
  rcases h with rfl | rfl
  all_goals
    have hr0 := hr.alloc (.cells #[.slice none 0 0] 69)
    go_enter Try.func53, Try.ntmps53
    go_wp2_with fail
    refine (new_any A cp bs _ hr0 hm).mono ?_
    rintro e w1 ⟨g, rfl, hg, hcur, hb1⟩
    have hgs : w.heap.size < g := by simp at hg; omega
    have hsz1 : w.heap.size + 1 ≤ w1.heap.size := by have := hb1.size; simp at this; omega
    have hR1 : w1.heap[w.heap.size]? = some (.cells #[.slice none 0 0] 69 (0, 0)) := (hb1.block w.heap.size (by simp)).trans (heap_alloc_new w _)
    have HB1 : Hid (Below w.heap.size w w1) := ((Below.refl w.heap.size w).alloc (Nat.le_refl _) _).trans (hb1.mono (by simp))
    clear hb1 hg hr0
    go_wp2_with fail
    refine (l2Body_any g _ _ hcur (by omega) (by omega)).mono ?_
    rintro e w2 ⟨⟨A', c', ms, rfl, ho, hok, hl⟩, hs⟩
    have hR2 : w2.heap[w.heap.size]? = some (.cells #[.slice none 0 0] 69 (0, 0)) := (hs.2.block w.heap.size (by omega) (by intro e; injection e with e; omega)).trans hR1
    have HB2 : Hid (Below w.heap.size w w2) := HB1.out.trans (below_of_step hs (by omega) HB1.out.size)
    have r0 := cell_of_row w2 w.heap.size 0 _ _ (0, 0) hR2
    have r1 : w2.frozen? ⟨w.heap.size, 0, none⟩ = false := by unfold World.frozen?; simp only [hR2]; simp
    have HRes : Hid (∀ v, (w2.setCell ⟨w.heap.size, 0, none⟩ v).heap[w.heap.size]? = some (.cells #[v] 69 (0, 0))) := fun v => by
      simp [World.setCell, Array.getElem?_modify, hR2]
    have HO : Hid (OwnM (w2.setCell ⟨w.heap.size, 0, none⟩ (.slice A' ms.length c')) w.heap.size (w2.setCell ⟨w.heap.size, 0, none⟩ (.slice A' ms.length c')).heap.size A' c' ms) := by
      refine OwnM.of ?_
      obtain ⟨p1, p2⟩ := ho
      refine ⟨p1, ?_⟩
      rcases p2 with p2 | ⟨G, cap, cur, q1, q2, q3, q4⟩
      · exact .inl p2
      · exact .inr ⟨G, cap, cur, q1, by omega, (Below.heap_setCell _ _ _ _ (by show G ≠ w.heap.size; omega)).trans q3, q4⟩
    have HK := Lib.hid hok
    clear ho hok hs hcur hR1 hR2
    go_wp2_with fail
    refine bodyPost_ret (results_cell_row rfl _ _ w.heap.size 69 #[.slice A' ms.length c'] (0, 0) _ rfl (HRes.out _) Try.underlying69 rfl (by kernel_rfl)) rfl ?_
    exact ⟨A', c', ms, rfl, HO.out, HK.out, by omega, HB2.out.setCell (Nat.le_refl _) _⟩
end Go.Proofs.Ytignncjmbcdpaaa

/-
impl.IsBody at valid modes.
-/
namespace Go.Proofs.Ytignncjmbcdpaaa
open Go Go.RowKit Ieee

def ModesOk (ms : List MW) : Prop := ∀ m ∈ ms, ModeOk m.1 m.2.1 m.2.2.1 m.2.2.2
theorem ModesOk.at_ {ms : List MW} (h : ModesOk ms) {i : Nat} (hi : i < ms.length) : ModeOk (ms.getD i (0, 0, 0, 0)).1 (ms.getD i (0, 0, 0, 0)).2.1 (ms.getD i (0, 0, 0, 0)).2.2.1 (ms.getD i (0, 0, 0, 0)).2.2.2 := by
  have : ms.getD i (0, 0, 0, 0) ∈ ms := by
    simp only [List.getD, List.getElem?_eq_getElem hi, Option.getD_some]
    exact List.getElem_mem hi
  exact h _ this

set_option maxRecDepth 100000 in
set_option maxHeartbeats 400000 in
theorem notMode_any (a b c d : Nat) (w : World) (h : ModeOk a b c d) : Calls Try.prog 147 #[.agg #[.complex .f32 a b, .complex .f32 c d]] w fun e w' => e = .returned (.bool false) ∧ Below w.heap.size w w' := by
  go_enter Try.func147, Try.ntmps147
  go_wp2_with fail
  have HB : Hid (Below w.heap.size w (w.alloc (.cells #[.complex .f32 a b, .complex .f32 c d] 52))) := (Below.refl w.heap.size w).alloc (Nat.le_refl _) _
  refine (implMode_ok a b c d _ h).mono ?_
  rintro e w' ⟨rfl, hb⟩
  have HB2 : Hid (Below w.heap.size w w') := HB.out.trans (hb.mono HB.out.size)
  clear hb
  go_wp2_with fail
  go_ret
  exact ⟨rfl, HB2.out⟩

set_option maxRecDepth 100000 in
set_option maxHeartbeats 400000 in
theorem indexMode_any (A : Option Addr) (c lo hi : Nat) (ms : List MW) (w : World) (h : OwnM w lo hi A c ms) (hh : hi ≤ w.heap.size) (hok : ModesOk ms) (hl : ms.length ≤ 16) :
    Calls Try.prog 160 #[.slice A ms.length c, .func (.func 147) #[] #[]] w fun e w' => e = .returned (.int .i64 (-1)) ∧ Below w.heap.size w w' := by
  have H := Lib.hid h
  have HK := Lib.hid hok
  clear h hok
  go_enter Try.func160, Try.ntmps160
  go_wp2_with fail
  go_loopw [8] (fun i wr => ∃ k : Nat, i = .int .i64 (k : Int) ∧ k ≤ ms.length ∧ Hid (Below w.heap.size w wr)) (fun i _ => ms.length - (intOf i).toNat)
  case atStart => exact ⟨0, rfl, by omega, Below.refl _ _⟩
  case round =>
    obtain ⟨k, rfl, hk, hb⟩ := hrel
    by_cases hlt : k < ms.length
    · obtain ⟨b, rfl, _, hbl, hlc, _, hcell⟩ := (H.out.below hb.out hh).cells (by omega)
      obtain ⟨e1, e2⟩ := hcell k hlt
      have HM := Lib.hid (HK.out.at_ hlt)
      clear hcell
      generalize ms.getD k (0, 0, 0, 0) = m at *
      obtain ⟨a, b', c', d⟩ := m
      simp only at e1 e2
      go_wp2_with fail
      refine (notMode_any a b' c' d _ HM.out).mono ?_
      rintro e w' ⟨rfl, hb2⟩
      have HB : Hid (Below w.heap.size w w') := hb.out.trans (hb2.mono hb.out.size)
      clear hb2 e1 e2
      go_wp2_with fail
      go_roundw
      case rel => exact ⟨k + 1, by go_num, by omega, HB⟩
      case measure => simp [intOf]; omega
    · go_wp2_with fail
      go_ret
      exact ⟨rfl, hb.out⟩

set_option maxRecDepth 100000 in
set_option maxHeartbeats 400000 in
theorem containsMode_any (A : Option Addr) (c lo hi : Nat) (ms : List MW) (w : World) (h : OwnM w lo hi A c ms) (hh : hi ≤ w.heap.size) (hok : ModesOk ms) (hl : ms.length ≤ 16) :
    Calls Try.prog 146 #[.slice A ms.length c, .func (.func 147) #[] #[]] w fun e w' => e = .returned (.bool false) ∧ Below w.heap.size w w' := by
  have H := Lib.hid h
  have HK := Lib.hid hok
  clear h hok
  go_enter Try.func146, Try.ntmps146
  go_wp2_with fail
  refine (indexMode_any A c lo hi ms _ H.out hh HK.out hl).mono ?_
  rintro e w' ⟨rfl, hb⟩
  have HB := Lib.hid hb
  clear hb
  go_wp2_with fail
  go_ret
  exact ⟨rfl, HB.out⟩

set_option maxRecDepth 100000 in
set_option maxHeartbeats 400000 in
theorem isBody_any (A : Option Addr) (c lo hi : Nat) (ms : List MW) (w : World) (h : OwnM w lo hi A c ms) (hh : hi ≤ w.heap.size) (hok : ModesOk ms) (hl : ms.length ≤ 16) :
    Calls Try.prog 102 #[.agg #[.slice A ms.length c]] w fun e w' => e = .returned (.bool true) ∧ Below w.heap.size w w' := by
  have HB : Hid (Below w.heap.size w (w.alloc (.cells #[.slice A ms.length c] 69))) := (Below.refl w.heap.size w).alloc (Nat.le_refl _) _
  have H : Hid (OwnM (w.alloc (.cells #[.slice A ms.length c] 69)) lo hi A c ms) := h.below HB.out hh
  have HK := Lib.hid hok
  have hsz : hi ≤ (w.alloc (.cells #[.slice A ms.length c] 69)).heap.size := by simp; omega
  clear h hok
  go_enter Try.func102, Try.ntmps102
  go_wp2_with fail
  generalize w.alloc (.cells #[.slice A ms.length c] 69) = W at *
  refine (containsMode_any A c lo hi ms _ H.out hsz HK.out hl).mono ?_
  rintro e w' ⟨rfl, hb⟩
  have HB2 : Hid (Below w.heap.size w w') := HB.out.trans (hb.mono HB.out.size)
  clear hb
  go_wp2_with fail
  go_ret
  exact ⟨rfl, HB2.out⟩
end Go.Proofs.Ytignncjmbcdpaaa

/-
impl.StepMode at a valid mode, a finite state and a finite input.
-/
namespace Go.Proofs.Ytignncjmbcdpaaa
open Go Go.RowKit Ieee

/-- The next state. -/
def stepW (m : MW) (s : Nat × Nat) (x : Nat) : Nat × Nat :=
  (fo .add .f32 (sRe s.1 s.2 m.1 m.2.1) (fo .mul .f32 m.2.2.1 x), fo .add .f32 (sIm s.1 s.2 m.1 m.2.1) (fo .mul .f32 m.2.2.2 x))
/-- A state that is finite, its parts at most L. -/
structure StOk (L : Rat) (s : Nat × Nat) : Prop where
  f1 : fin .f32 s.1
  f2 : fin .f32 s.2
  w1 : wfk .f32 s.1
  w2 : wfk .f32 s.2
  b1 : ab (fv .f32 s.1) ≤ L
  b2 : ab (fv .f32 s.2) ≤ L
/-- What one step needs. -/
structure StepOk (m : MW) (s : Nat × Nat) (x : Nat) : Prop where
  mild : Mild s.1 s.2 m.1 m.2.1
  w1 : wfk .f32 s.1
  w2 : wfk .f32 s.2
  g1 : fin .f32 (fo .mul .f32 m.2.2.1 x)
  g2 : fin .f32 (fo .mul .f32 m.2.2.2 x)
  n1 : fin .f32 (stepW m s x).1
  n2 : fin .f32 (stepW m s x).2
theorem step_ok {m : MW} {s : Nat × Nat} {x : Nat} {L : Rat} (hm : ModeOk m.1 m.2.1 m.2.2.1 m.2.2.2) (hs : StOk L s) (fx : fin .f32 x) (hx : ab (fv .f32 x) ≤ 8) (hL : 2 ^ 14 ≤ L) (hL2 : L ≤ 2 ^ 112) : StOk (L * 3) (stepW m s x) ∧ StepOk m s x := by
  have hsq := hm.square
  have q1 := sq_nonneg (fv .f32 m.1)
  have q2 := sq_nonneg (fv .f32 m.2.1)
  have p1 : ab (fv .f32 m.1) ≤ 1 + 1 / 2 ^ 40 := ab_le_of_sq (by grind) (by grind)
  have p2 : ab (fv .f32 m.2.1) ≤ 1 + 1 / 2 ^ 40 := ab_le_of_sq (by grind) (by grind)
  obtain ⟨M, n1, n2, c1, c2⟩ := wide_mild hs.f1 hs.f2 (fin_of_wid hm.fa) (fin_of_wid hm.fb) hs.b1 hs.b2 (by grind) hL2 p1 p2
  obtain ⟨g1, a1, d1⟩ := plus_gain n1 (fin_of_wid hm.fc) fx c1 (gain_le hm.fc hm.gain.1) hx hL hL2
  obtain ⟨g2, a2, d2⟩ := plus_gain n2 (fin_of_wid hm.fd) fx c2 (gain_le hm.fd hm.gain.2) hx hL hL2
  exact ⟨⟨a1, a2, fo_lt _ _ _ _, fo_lt _ _ _ _, d1, d2⟩, ⟨M, hs.w1, hs.w2, g1, g2, a1, a2⟩⟩

set_option maxHeartbeats 400000 in
theorem implScaleS_any (a b x : Nat) (w : World) (h1 : fin .f32 (fo .mul .f32 a x)) (h2 : fin .f32 (fo .mul .f32 b x)) : Calls Try.prog 107 #[.complex .f32 a b, .float .f32 x] w fun e w' => e = .returned (.complex .f32 (fo .mul .f32 a x) (fo .mul .f32 b x)) ∧ ∃ n, w.drewN n = w' := by
  have e1 := fun w => rnd_eq h1 w
  have e2 := fun w => rnd_eq h2 w
  clear h1 h2
  go_enter Try.func107, Try.ntmps107
  go_wp2_with fail
  go_ret
  exact ⟨rfl, _, rfl⟩
set_option maxHeartbeats 400000 in
theorem implAddS_any (a b c d : Nat) (w : World) (h1 : fin .f32 (fo .add .f32 a c)) (h2 : fin .f32 (fo .add .f32 b d)) : Calls Try.prog 161 #[.complex .f32 a b, .complex .f32 c d] w fun e w' => e = .returned (.complex .f32 (fo .add .f32 a c) (fo .add .f32 b d)) ∧ ∃ n, w.drewN n = w' := by
  have e1 := fun w => rnd_eq h1 w
  have e2 := fun w => rnd_eq h2 w
  clear h1 h2
  go_enter Try.func161, Try.ntmps161
  go_wp2_with fail
  go_ret
  exact ⟨rfl, _, rfl⟩

set_option maxRecDepth 100000 in
set_option maxHeartbeats 400000 in
theorem stepMode_any (m : MW) (s : Nat × Nat) (x : Nat) (w : World) (hm : ModeOk m.1 m.2.1 m.2.2.1 m.2.2.2) (h : StepOk m s x) :
    Calls Try.prog 148 #[.agg #[.complex .f32 m.1 m.2.1, .complex .f32 m.2.2.1 m.2.2.2], .complex .f32 s.1 s.2, .float .f32 x] w fun e w' => e = .returned (.complex .f32 (stepW m s x).1 (stepW m s x).2) ∧ Below w.heap.size w w' := by
  obtain ⟨a, b, c, d⟩ := m
  obtain ⟨s1, s2⟩ := s
  have T1 := Lib.hid (fun W => (implSingle_any s1 s2 a b W h.w1 h.w2 hm.wa hm.wb h.mild).mono fun e w' h => (by
    obtain ⟨n, rfl, rfl⟩ := h; exact ⟨rfl, n, rfl⟩ : e = .returned (.complex .f32 (sRe s1 s2 a b) (sIm s1 s2 a b)) ∧ ∃ j, W.drewN j = w'))
  have T2 := Lib.hid (fun W => implScaleS_any c d x W h.g1 h.g2)
  have T3 := Lib.hid (fun W => implAddS_any _ _ _ _ W h.n1 h.n2)
  unfold stepW at T3 ⊢
  simp only at T3 ⊢
  clear h hm
  go_enter Try.func148, Try.ntmps148
  go_wp2_with fail
  have HB : Hid (Below w.heap.size w (w.alloc (.cells #[.complex .f32 a b, .complex .f32 c d] 52))) := (Below.refl w.heap.size w).alloc (Nat.le_refl _) _
  have hm : (w.alloc (.cells #[.complex .f32 a b, .complex .f32 c d] 52)).heap[w.heap.size]? = some (.cells #[.complex .f32 a b, .complex .f32 c d] 52 (0, 0)) := heap_alloc_new w _
  obtain ⟨c0, c1, _, _⟩ := m_cells hm
  clear hm
  generalize w.alloc (.cells #[.complex .f32 a b, .complex .f32 c d] 52) = W at *
  refine wp_region_rx (by kernel_rfl) (by kernel_rfl) ?_; apply Exists.intro
  repeat (first | (apply wpR_val; intro K hK; go_simp; refine ⟨rfl, hK _ ?_⟩; clear hK K) | (apply wpR_skip; intro K hK; go_simp; refine hK _ ?_; clear hK K))
  apply wpR_val (v := .complex .f32 (sRe s1 s2 a b) (sIm s1 s2 a b)); intro K hK; go_simp; refine ⟨fun m => rcall0 (T1.out _), hK _ ?_⟩; clear hK K
  repeat (first | (apply wpR_val; intro K hK; go_simp; refine ⟨rfl, hK _ ?_⟩; clear hK K) | (apply wpR_skip; intro K hK; go_simp; refine hK _ ?_; clear hK K))
  apply wpR_val (v := .complex .f32 (fo .mul .f32 c x) (fo .mul .f32 d x)); intro K hK; go_simp; refine ⟨fun m => rcall0 (T2.out _), hK _ ?_⟩; clear hK K
  repeat (first | (apply wpR_val; intro K hK; go_simp; refine ⟨rfl, hK _ ?_⟩; clear hK K) | (apply wpR_skip; intro K hK; go_simp; refine hK _ ?_; clear hK K))
  apply wpR_val (v := .complex .f32 (fo .add .f32 (sRe s1 s2 a b) (fo .mul .f32 c x)) (fo .add .f32 (sIm s1 s2 a b) (fo .mul .f32 d x))); intro K hK; go_simp; refine ⟨fun m => rcall0 (T3.out _), hK _ ?_⟩; clear hK K
  repeat (first | (apply wpR_val; intro K hK; go_simp; refine ⟨rfl, hK _ ?_⟩; clear hK K) | (apply wpR_skip; intro K hK; go_simp; refine hK _ ?_; clear hK K))
  apply wpR_nil (Rs := []); rintro _ ⟨nq, rfl⟩
  go_wp2_with fail
  go_ret
  exact ⟨rfl, below_drewN HB.out _⟩
end Go.Proofs.Ytignncjmbcdpaaa

/-
Operations at equal values give equal values (zeros may differ in sign). (Plain arithmetic.)
-/
namespace Go.Proofs.Ytignncjmbcdpaaa
open Go Ieee

theorem one32 : fin .f32 1065353216 ∧ fv .f32 1065353216 = 1 := by
  have h : FloatKind.f32.format.read 1065353216 = .number false 8388608 (-23) := by decide +kernel
  obtain ⟨h1, h2⟩ := fin_of_read h
  refine ⟨h1, ?_⟩
  rw [h2, dval_num]
  have e : mval 8388608 (-23) = 1 := by unfold mval pw; grind
  rw [e]; simp
/-- Words with the same value, both numbers. -/
structure Eqv (k : FloatKind) (a b : Nat) : Prop where
  fa : fin k a
  fb : fin k b
  wa : wfk k a
  wb : wfk k b
  v : fv k a = fv k b

/-- A value other than 0 has one word. -/
theorem word_eq {k : FloatKind} {a b : Nat} (ha : fin k a) (hb : fin k b) (wa : wfk k a) (wb : wfk k b) (h : fv k a = fv k b) (h0 : fv k a ≠ 0) : a = b := by
  obtain ⟨s, m, e, ha⟩ := ha
  obtain ⟨t, n, f, hb⟩ := hb
  have ea := write_read k.format (eb_ge k) wa (by rw [ha]; rfl)
  have eb := write_read k.format (eb_ge k) wb (by rw [hb]; rfl)
  rw [ha] at ea
  rw [hb] at eb
  unfold fv at h h0
  rw [ha, dval_num] at h h0
  rw [hb, dval_num] at h
  have pm := mval_nonneg m e
  have pn := mval_nonneg n f
  have hm : mval m e ≠ 0 := by intro hz; apply h0; rw [hz]; cases s <;> simp
  have hst : s = t ∧ mval m e = mval n f := by
    cases s <;> cases t <;> simp at h ⊢
    · exact h
    · exfalso; grind
    · exfalso; grind
    · grind
  obtain ⟨rfl, hv⟩ := hst
  have key : ∀ (m n : Nat) (e f : Int), e ≤ f → mval m e = mval n f → k.format.write (.number s m e) = k.format.write (.number s n f) := by
    intro m n e f hef hv
    obtain ⟨j, rfl⟩ : ∃ j : Nat, f = e + j := ⟨(f - e).toNat, by omega⟩
    rw [← mval_scale'] at hv
    have h1 := le_of_mval (by rw [hv]; exact Rat.le_refl : mval m e ≤ mval (n * 2 ^ j) e)
    have h2 := le_of_mval (by rw [hv]; exact Rat.le_refl : mval (n * 2 ^ j) e ≤ mval m e)
    obtain rfl : m = n * 2 ^ j := Nat.le_antisymm h1 h2
    have := nearest_scale k.format s n (e + j) j
    rw [show e + (j : Int) - j = e by omega] at this
    exact this
  rw [← ea, ← eb]
  rcases Int.le_total e f with hef | hef
  · exact key m n e f hef hv
  · exact (key n m f e hef hv.symm).symm

theorem Eqv.refl {k : FloatKind} {a : Nat} (f : fin k a) (w : wfk k a) : Eqv k a a := ⟨f, f, w, w, rfl⟩
theorem Eqv.cases {k : FloatKind} {a b : Nat} (h : Eqv k a b) : a = b ∨ (fv k a = 0 ∧ fv k b = 0) := by
  by_cases h0 : fv k a = 0
  · exact .inr ⟨h0, by rw [← h.v]; exact h0⟩
  · exact .inl (word_eq h.fa h.fb h.wa h.wb h.v h0)
theorem top_pos (k : FloatKind) : (0 : Rat) ≤ top k := by cases k <;> exact Rat.le_of_lt (pw_pos _)
theorem round_zero {k : FloatKind} {v : Rat} {r : Nat} (h : RoundOf k v r) (h0 : v = 0) : fv k r = 0 := by
  have := h.exact (zero_fin k).1 (by rw [(zero_fin k).2, h0])
  rw [this, h0]
theorem Eqv.mul {k : FloatKind} {a a' b b' : Nat} (h : Eqv k a a') (g : Eqv k b b') (t : ab (fv k a * fv k b) ≤ top k) : Eqv k (fo .mul k a b) (fo .mul k a' b') := by
  have r := mul_spec h.fa g.fa t
  have t' : ab (fv k a' * fv k b') ≤ top k := by rw [← h.v, ← g.v]; exact t
  have r' := mul_spec h.fb g.fb t'
  refine ⟨r.1, r'.1, fo_lt _ _ _ _, fo_lt _ _ _ _, ?_⟩
  rcases h.cases with rfl | ⟨z, z'⟩
  · rcases g.cases with rfl | ⟨y, y'⟩
    · rfl
    · rw [round_zero r (by rw [y, Rat.mul_zero]), round_zero r' (by rw [y', Rat.mul_zero])]
  · rw [round_zero r (by rw [z, Rat.zero_mul]), round_zero r' (by rw [z', Rat.zero_mul])]
theorem Eqv.add {k : FloatKind} {a a' b b' : Nat} (h : Eqv k a a') (g : Eqv k b b') (t : ab (fv k a + fv k b) ≤ top k) : Eqv k (fo .add k a b) (fo .add k a' b') := by
  have r := add_spec h.fa g.fa t
  have t' : ab (fv k a' + fv k b') ≤ top k := by rw [← h.v, ← g.v]; exact t
  have r' := add_spec h.fb g.fb t'
  refine ⟨r.1, r'.1, fo_lt _ _ _ _, fo_lt _ _ _ _, ?_⟩
  rcases h.cases with rfl | ⟨z, z'⟩
  · rcases g.cases with rfl | ⟨y, y'⟩
    · rfl
    · rw [r.exact h.fa (by rw [y]; grind), r'.exact h.fb (by rw [y']; grind), y, y']
  · rw [r.exact g.fa (by rw [z]; grind), r'.exact g.fb (by rw [z']; grind), z, z', g.v]
theorem Eqv.sub {k : FloatKind} {a a' b b' : Nat} (h : Eqv k a a') (g : Eqv k b b') (t : ab (fv k a - fv k b) ≤ top k) : Eqv k (fo .sub k a b) (fo .sub k a' b') := by
  have r := sub_spec h.fa g.fa t
  have t' : ab (fv k a' - fv k b') ≤ top k := by rw [← h.v, ← g.v]; exact t
  have r' := sub_spec h.fb g.fb t'
  refine ⟨r.1, r'.1, fo_lt _ _ _ _, fo_lt _ _ _ _, ?_⟩
  rcases h.cases with rfl | ⟨z, z'⟩
  · rcases g.cases with rfl | ⟨y, y'⟩
    · rfl
    · rw [r.exact h.fa (by rw [y]; grind), r'.exact h.fb (by rw [y']; grind), y, y']
  · obtain ⟨n1, n2⟩ := neg_fin g.fa
    obtain ⟨n3, n4⟩ := neg_fin g.fb
    rw [r.exact n1 (by rw [n2, z]; grind), r'.exact n3 (by rw [n4, z']; grind), z, z', g.v]
theorem Eqv.wid {a b : Nat} (h : Eqv .f32 a b) : Eqv .f64 (wid a) (wid b) := by
  obtain ⟨a1, a2⟩ := wid_fin h.fa
  obtain ⟨b1, b2⟩ := wid_fin h.fb
  exact ⟨a1, b1, wid_lt a, wid_lt b, by rw [a2, b2, h.v]⟩
theorem nar_wf {x : Nat} (hx : fin .f64 x) (h : ab (fv .f64 x) ≤ top .f32) (w : wfk .f64 x) (W : World) : wfk .f32 (nar x) := by
  rw [← (nar_ok hx h).1 W]
  exact cR_lt w W
theorem Eqv.nar {x y : Nat} (h : Eqv .f64 x y) (t : ab (fv .f64 x) ≤ top .f32) (W : World) : Eqv .f32 (nar x) (nar y) := by
  have t' : ab (fv .f64 y) ≤ top .f32 := by rw [← h.v]; exact t
  have r := (nar_ok h.fa t).2
  have r' := (nar_ok h.fb t').2
  refine ⟨r.1, r'.1, nar_wf h.fa t h.wa W, nar_wf h.fb t' h.wb W, ?_⟩
  rcases h.cases with rfl | ⟨z, z'⟩
  · rfl
  · rw [round_zero r z, round_zero r' z']
end Go.Proofs.Ytignncjmbcdpaaa

/-
'append(out, xs...)': a slice that reads as a list onto a row of the call's own.
-/
namespace Go.Proofs.Ytignncjmbcdpaaa
open Go Go.RowKit

theorem run_append_none {P : Program} (w : World) (t ty e : TypeId) (i : TypeInfo) (ht : P.underlying t = some (.slice e)) (hi : P.info? e = some i) {base n size : Nat} {v : Value} {xs : List Value}
    (hown : w.ownsRow base e size v n xs) (c : Nat) : (Builtin.append_ #[t, t] ty #[v, .slice none 0 c]).run P w = .ok v w := by
  rcases hown.2 with ⟨rfl, rfl⟩ | ⟨g, cap, cur, rfl, _, _, hnc, _⟩
  · simp [Builtin.append_, run_underlying ht, sizeOf, typeInfo, hi, Builtin.lenOf, Builtin.firstCells]
  · simp [Builtin.append_, run_underlying ht, sizeOf, typeInfo, hi, Builtin.lenOf, Builtin.firstCells, hnc, storeCells]

theorem wpList_appRd {P : Program} {w : World} {ops : Array Oper} {rest : List Oper} {o : Oper} {a : Act} {Q : Exit → Act → World → Prop} (hgd : o.guard = none) (s x : Operand) (t : TypeId)
    (ho : o.op = .call { callee := .builtin .append, args := #[s, x], argTypes := #[t, t] })
    (B : Nat) (e : TypeId) (z : Value) (bytes : Nat) (ht : P.underlying t = some (.slice e)) (hinfo : (P.info? e).map (fun i => (i.zero, i.size, i.bytes)) = some (some z, 1, bytes)) (hzs : z.cells.size = 1)
    (v : Value) (n : Nat) (xs : List Value) (A : Option Addr) (m c : Nat) (news : List Value) (hs : a.eval s = v) (hx : a.eval x = .slice A m c) (hu : ∀ u ∈ news, u.oneCell' = true) (hown : w.ownsRow B e 1 v n xs) (hB : B ≤ w.heap.size)
    (hr : Rd w A news) (hm : news.length = m) (h63 : n + m ≤ 1048576) (hby : bytes ≤ 1024)
    (h : ∀ v' w', w'.ownsRow B e 1 v' (n + m) (xs ++ news) → Below B w w' → wpList P ops Q rest (a.put o.dst v') w') : wpList P ops Q (o :: rest) a w := by
  obtain ⟨i, hi, hzz⟩ := Option.map_eq_some_iff.1 hinfo
  simp only [Prod.mk.injEq] at hzz
  obtain ⟨hz, hsz, hb⟩ := hzz
  rcases A with _ | ad
  · have hm0 : news = [] := by
      rcases Nat.eq_zero_or_pos news.length with h0 | h0
      · exact List.eq_nil_of_length_eq_zero h0
      · obtain ⟨b, off, h1, _⟩ := hr h0; cases h1
    subst hm0
    simp at hm; subst hm
    refine wpList_plain hgd fun K hK => ?_
    have hrun := run_append_none (P := P) w t o.type e i ht hi hown c
    unfold Oper.wp execOp
    simp only [ho, resolve, invoke, builtin, Sem.run_bind, Sem.run_pure, Result.andThen_ok, List.map_toArray, List.map_cons, List.map_nil, hs, hx, hrun]
    exact hK _ _ (h v w (by simpa using hown) (Below.refl _ _))
  · have hcells : ∀ j u, news[j]? = some u → w.cell? (ad.add j) = some u := fun j u hj => by
      have hpos : 0 < news.length := by
        rcases Nat.eq_zero_or_pos news.length with h0 | h0
        · rw [List.eq_nil_of_length_eq_zero h0] at hj; simp at hj
        · exact h0
      obtain ⟨b, off, h1, _, hc⟩ := hr hpos
      injection h1 with h1
      subst h1
      have := hc j u hj
      rw [← this]
      congr 1
      unfold Addr.add
      by_cases h0 : j = 0 <;> simp [h0]
    refine wpList_append_own _ hgd s x t ho B e i z 1 bytes ht hi hz hsz hb hzs (by decide) v n xs hs hown ad m c news hx (by omega) hcells hu ?_ ?_ hB ?_
    · simp only [maxLen]; omega
    · have := Nat.mul_le_mul h63 hby; omega
    · intro v' w' h2 h3 _
      exact h v' w' h2 ((Below.refl _ _).grown h3 hB (fun k hk => (hown.lt k hk).1))
/-- The same, at one operation of a region. -/
theorem step_appRd {P : Program} {w : World} {ops : Array Oper} {o : Oper} {a : Act} {K : Act → World → Prop} {Q : Exit → Act → World → Prop} {E : Prop} (hgd : o.guard = none) (s x : Operand) (t : TypeId)
    (ho : o.op = .call { callee := .builtin .append, args := #[s, x], argTypes := #[t, t] })
    (B : Nat) (e : TypeId) (z : Value) (bytes : Nat) (ht : P.underlying t = some (.slice e)) (hinfo : (P.info? e).map (fun i => (i.zero, i.size, i.bytes)) = some (some z, 1, bytes)) (hzs : z.cells.size = 1)
    (v : Value) (n : Nat) (xs : List Value) (A : Option Addr) (m c : Nat) (news : List Value) (hs : a.eval s = v) (hx : a.eval x = .slice A m c) (hu : ∀ u ∈ news, u.oneCell' = true) (hown : w.ownsRow B e 1 v n xs) (hB : B ≤ w.heap.size)
    (hr : Rd w A news) (hm : news.length = m) (h63 : n + m ≤ 1048576) (hby : bytes ≤ 1024)
    (h : ∀ A' c' w', w'.ownsRow B e 1 (.slice A' (n + m) c') (n + m) (xs ++ news) → Below B w w' → K (a.put o.dst (.slice A' (n + m) c')) w') : if Region.wanted o (yielded ops a.tmps) = true then Oper.wp P o a w K Q else E := by
  have hw : Region.wanted o (yielded ops a.tmps) = true := by simp [Region.wanted, hgd]
  rw [if_pos hw]
  obtain ⟨i, hi, hzz⟩ := Option.map_eq_some_iff.1 hinfo
  simp only [Prod.mk.injEq] at hzz
  obtain ⟨hz, hsz, hb⟩ := hzz
  rcases A with _ | ad
  · have hm0 : news = [] := by
      rcases Nat.eq_zero_or_pos news.length with h0 | h0
      · exact List.eq_nil_of_length_eq_zero h0
      · obtain ⟨b, off, h1, _⟩ := hr h0; cases h1
    subst hm0
    simp at hm; subst hm
    have hrun := run_append_none (P := P) w t o.type e i ht hi hown c
    unfold Oper.wp execOp
    simp only [ho, resolve, invoke, builtin, Sem.run_bind, Sem.run_pure, Result.andThen_ok, List.map_toArray, List.map_cons, List.map_nil, hs, hx, hrun]
    obtain ⟨A', c', rfl, _, _⟩ := own_rd hown
    exact h A' c' w (by simpa using hown) (Below.refl _ _)
  · have hcells : ∀ j u, news[j]? = some u → w.cell? (ad.add j) = some u := fun j u hj => by
      have hpos : 0 < news.length := by
        rcases Nat.eq_zero_or_pos news.length with h0 | h0
        · rw [List.eq_nil_of_length_eq_zero h0] at hj; simp at hj
        · exact h0
      obtain ⟨b, off, h1, _, hc⟩ := hr hpos
      injection h1 with h1
      subst h1
      have := hc j u hj
      rw [← this]
      congr 1
      unfold Addr.add
      by_cases h0 : j = 0 <;> simp [h0]
    refine wp_append_own _ s x t ho B e i z 1 bytes ht hi hz hsz hb hzs (by decide) v n xs hs hown ad m c news hx (by omega) hcells hu ?_ ?_ hB ?_
    · simp only [maxLen]; omega
    · have := Nat.mul_le_mul h63 hby; omega
    · intro v' w' h2 h3 _
      obtain ⟨A', c', rfl, _, _⟩ := own_rd h2
      exact h A' c' w' h2 ((Below.refl _ _).grown h3 hB (fun k hk => (hown.lt k hk).1))
end Go.Proofs.Ytignncjmbcdpaaa

/-
slices.Clone of modes, impl.copyBody.
-/
namespace Go.Proofs.Ytignncjmbcdpaaa
open Go Go.RowKit Ieee

theorem results_cell_tmp_row {P : Program} {fn : Func} {p u : Tmp} {ty : TypeId} (h : fn.results = #[.cell p ty, .tmp u]) (tmps : Array Value) (w : World) (g : Nat) (t : TypeId) (cs : Array Value) (fr : Nat × Nat) (d : TypeDesc)
    (hp : tmps.getD p undef = .pointer (some ⟨g, 0, none⟩)) (hg : w.heap[g]? = some (.cells cs t fr))
    (hu : P.underlying ty = some d) (hd : (match d with | .struct _ | .array _ _ => true | _ => false) = true) (hi : (P.info? ty).map (·.size) = some cs.size) :
    (results fn tmps).run P w = .ok (.tuple #[.agg cs, tmps.getD u undef]) w := by
  rw [results_cell_tmp h]
  have hp' : tmps[p]?.getD undef = .pointer (some ⟨g, 0, none⟩) := by simpa using hp
  simp [hp', asAddr, run_loadVar_row w g t ty cs fr d hg hu hd hi]

theorem own_size {w : World} {base n : Nat} {e : TypeId} {v : Value} {xs : List Value} (h : w.ownsRow base e 1 v (n + 1) xs) : base < w.heap.size := by
  rcases h.2 with ⟨_, h⟩ | ⟨g, cap, cur, e1, e2, e3, e4⟩
  · omega
  · have := lt_of_some e3; omega

/-- Append of all modes of a row onto a row of the call's own. -/
theorem wpList_appM {P : Program} {w : World} {ops : Array Oper} {rest : List Oper} {o : Oper} {a : Act} {Q : Exit → Act → World → Prop} (hgd : o.guard = none) (s x : Operand) (t : TypeId)
    (ho : o.op = .call { callee := .builtin .append, args := #[s, x], argTypes := #[t, t] })
    (B : Nat) (e : TypeId) (z : Value) (bytes : Nat) (ht : P.underlying t = some (.slice e)) (hinfo : (P.info? e).map (fun i => (i.zero, i.size, i.bytes)) = some (some z, 2, bytes)) (hzs : z.cells.size = 2)
    (v : Value) (n : Nat) (xs : List Value) (b m c : Nat) (news : List Value) (hs : a.eval s = v) (hx : a.eval x = .slice (some ⟨b, 0, none⟩) m c) (hu : ∀ u ∈ news, u.oneCell' = true) (hown : w.ownsRow B e 2 v n xs) (hB : B ≤ w.heap.size)
    (hr : ∀ j u, news[j]? = some u → w.cell? ⟨b, j, none⟩ = some u) (hm : news.length = m * 2) (h63 : n + m ≤ 1048576) (hby : bytes ≤ 1024)
    (h : ∀ v' w', w'.ownsRow B e 2 v' (n + m) (xs ++ news) → Below B w w' → wpList P ops Q rest (a.put o.dst v') w') : wpList P ops Q (o :: rest) a w := by
  obtain ⟨i, hi, hzz⟩ := Option.map_eq_some_iff.1 hinfo
  simp only [Prod.mk.injEq] at hzz
  obtain ⟨hz, hsz, hb⟩ := hzz
  have hcells : ∀ j u, news[j]? = some u → w.cell? ((⟨b, 0, none⟩ : Addr).add j) = some u := fun j u hj => by
    rw [← hr j u hj]
    congr 1
    unfold Addr.add
    by_cases h0 : j = 0 <;> simp [h0]
  refine wpList_append_own _ hgd s x t ho B e i z 2 bytes ht hi hz hsz hb hzs (by decide) v n xs hs hown ⟨b, 0, none⟩ m c news hx (by omega) hcells hu ?_ ?_ hB ?_
  · simp only [maxLen]; omega
  · have := Nat.mul_le_mul h63 hby; omega
  · intro v' w' h2 h3 _
    exact h v' w' h2 ((Below.refl _ _).grown h3 hB (fun k hk => (hown.lt k hk).1))

theorem flatM_one (ms : List MW) : ∀ u ∈ flatM ms, u.oneCell' = true := fun u hu => by
  obtain ⟨m, _, h⟩ := List.mem_flatMap.1 hu
  simp [modeV] at h
  rcases h with rfl | rfl <;> rfl
theorem OwnM.flat {w : World} {lo hi b c : Nat} {ms : List MW} (h : OwnM w lo hi (some ⟨b, 0, none⟩) c ms) : ∀ j u, (flatM ms)[j]? = some u → w.cell? ⟨b, j, none⟩ = some u := fun j u hu => by
  obtain ⟨⟨h1, h2⟩, h3⟩ := h
  rcases h2 with ⟨h2, _⟩ | ⟨g, cap, cur, e1, e2, e3, e4, e5, e6, e7⟩
  · cases h2
  · injection e1 with q1 q2 q3
    injection q1 with q1
    injection q1 with q1
    subst q1
    have hj : j < ms.length * 2 := by
      rcases Nat.lt_or_ge j (flatM ms).length with h | h
      · omega
      · rw [List.getElem?_eq_none h] at hu; cases hu
    rw [cell_of_row w b j _ _ (0, 0) e3]
    rw [← e7, List.getElem?_take, if_pos hj] at hu
    simpa using hu

def CloneP (lo : Nat) (ms : List MW) (w : World) (e : Ending) (w' : World) : Prop :=
  ∃ (A' : Option Addr) (c' : Nat), e = .returned (.slice A' ms.length c') ∧ OwnM w' lo w'.heap.size A' c' ms ∧ Below w.heap.size w w'
set_option maxRecDepth 100000 in
set_option maxHeartbeats 400000 in
theorem clone_any (A : Option Addr) (c lo hi : Nat) (ms : List MW) (w : World) (h : OwnM w lo hi A c ms) (hl : ms.length ≤ 16) :
    Calls Try.prog 149 #[.slice A ms.length c] w (CloneP w.heap.size ms w) := by
  have h2 := h.1.2
  rcases h2 with ⟨h2, h0⟩ | ⟨g, cap, cur, e1, _⟩
  · injection h2 with q1 q2 q3
    subst q1 q3
    have hn : ms = [] := List.eq_nil_of_length_eq_zero h0
    subst hn
    clear h0 q2
    have hq := fun W => Lib.run_eql_slice_nil (P := Try.prog) W 67 52 none 0 0 0 0 Try.underlying67
    go_enter Try.func149, Try.ntmps149
    go_wp2_with fail
    go_ret
    exact ⟨none, 0, rfl, ⟨⟨rfl, .inl ⟨rfl, rfl⟩⟩, fun k hk => by cases hk⟩, Below.refl _ _⟩
  · injection e1 with q1 q2 q3
    subst q1 q3
    have HC : Hid (∀ o j u, (flatM ms)[j]? = some u → (w.alloc o).cell? ⟨g, j, none⟩ = some u) := fun o j u hu => by
      have hg : g < w.heap.size := h.1.lt g rfl |>.2
      exact (World.cell?_of_block (Below.heap_alloc w o g hg)).trans (h.flat j u hu)
    have own0 : (w.alloc (.cells #[] 52)).ownsRow w.heap.size 52 2 (.slice (some ⟨w.heap.size, 0, none⟩) 0 0) 0 [] := ⟨by simp, .inr ⟨w.heap.size, 0, #[], rfl, Nat.le_refl _, heap_alloc_new w _, Nat.le_refl _, by simp [maxLen], by simp, by simp⟩⟩
    have b0 : Below w.heap.size w (w.alloc (.cells #[] 52)) := (Below.refl w.heap.size w).alloc (Nat.le_refl _) _
    have hl2 : (flatM ms).length = ms.length * 2 := flatM_len ms
    have HL2 := Lib.hid hl2
    clear h hl2
    have hq := fun W => Lib.run_eql_slice_nil (P := Try.prog) W 67 52 (some ⟨g, 0, none⟩) ms.length c 0 0 Try.underlying67
    go_enter Try.func149, Try.ntmps149
    go_wp2_with (at_builtin; refine wpList_appM rfl (.tmp 5) (.tmp 6) 67 rfl w.heap.size 52 (.agg #[.complex .f32 0 0, .complex .f32 0 0]) 16 Try.underlying67 mode_info rfl (.slice (some ⟨w.heap.size, 0, none⟩) 0 0) 0 [] g ms.length c (flatM ms) rfl rfl (flatM_one ms) own0 b0.size (HC.out _) HL2.out (by omega) (by omega) ?_; intro v1 w2 hown1 hbel1)
    go_ret
    rw [Nat.zero_add, List.nil_append] at hown1
    have hv : ∃ A' c', v1 = .slice A' ms.length c' := by
      rcases hown1.2 with ⟨rfl, h0⟩ | ⟨G, cap', cur', rfl, _⟩
      · exact ⟨none, 0, by rw [h0]⟩
      · exact ⟨_, _, rfl⟩
    obtain ⟨A', c', rfl⟩ := hv
    exact ⟨A', c', rfl, OwnM.of hown1, b0.trans hbel1⟩

set_option maxRecDepth 100000 in
set_option maxHeartbeats 400000 in
theorem copyBody_any (A : Option Addr) (c lo hi : Nat) (ms : List MW) (w : World) (h : OwnM w lo hi A c ms) (hh : hi ≤ w.heap.size) (hl : ms.length ≤ 16) :
    Calls Try.prog 106 #[.agg #[.slice A ms.length c]] w fun e w' => ∃ (A' : Option Addr) (c' : Nat), e = .returned (.agg #[.slice A' ms.length c']) ∧ OwnM w' w.heap.size w'.heap.size A' c' ms ∧ Below w.heap.size w w' := by
  have HB : Hid (Below w.heap.size w ((w.alloc (.cells #[.slice A ms.length c] 69)).alloc (.cells #[.slice none 0 0] 69))) := ((Below.refl w.heap.size w).alloc (Nat.le_refl _) _).alloc (by simp) _
  have H : Hid (OwnM ((w.alloc (.cells #[.slice A ms.length c] 69)).alloc (.cells #[.slice none 0 0] 69)) lo hi A c ms) := h.below HB.out hh
  have hR : ((w.alloc (.cells #[.slice A ms.length c] 69)).alloc (.cells #[.slice none 0 0] 69)).heap[w.heap.size + 1]? = some (.cells #[.slice none 0 0] 69 (0, 0)) := by
    have := heap_alloc_new (w.alloc (.cells #[.slice A ms.length c] 69)) (.cells #[.slice none 0 0] 69)
    simpa using this
  have hsz : w.heap.size + 1 < ((w.alloc (.cells #[.slice A ms.length c] 69)).alloc (.cells #[.slice none 0 0] 69)).heap.size := by simp
  clear h
  go_enter Try.func106, Try.ntmps106
  go_wp2_with fail
  generalize (w.alloc (.cells #[.slice A ms.length c] 69)).alloc (.cells #[.slice none 0 0] 69) = W at *
  refine (clone_any A c lo hi ms _ H.out hl).mono ?_
  intro e w2 hp
  unfold CloneP at hp
  obtain ⟨A', c', rfl, ho, hb⟩ := hp
  have hR2 := (hb.block _ hsz).trans hR
  have r0 := cell_of_row w2 (w.heap.size + 1) 0 _ _ (0, 0) hR2
  have r1 : w2.frozen? ⟨w.heap.size + 1, 0, none⟩ = false := by unfold World.frozen?; simp only [hR2]; simp
  have HRes : Hid (∀ v, (w2.setCell ⟨w.heap.size + 1, 0, none⟩ v).heap[w.heap.size + 1]? = some (.cells #[v] 69 (0, 0))) := fun v => by
    simp [World.setCell, Array.getElem?_modify, hR2]
  have HB2 : Hid (Below w.heap.size w w2) := HB.out.trans (hb.mono (by omega))
  have HO : Hid (OwnM (w2.setCell ⟨w.heap.size + 1, 0, none⟩ (.slice A' ms.length c')) w.heap.size (w2.setCell ⟨w.heap.size + 1, 0, none⟩ (.slice A' ms.length c')).heap.size A' c' ms) := by
    refine OwnM.of ?_
    obtain ⟨p1, p2⟩ := ho.1
    refine ⟨p1, ?_⟩
    rcases p2 with p2 | ⟨G, cap, cur, q1, q2, q3, q4⟩
    · exact .inl p2
    · exact .inr ⟨G, cap, cur, q1, by omega, (Below.heap_setCell _ _ _ _ (by show G ≠ w.heap.size + 1; omega)).trans q3, q4⟩
  clear ho hb hR hR2
  go_wp2_with fail
  refine bodyPost_ret (results_cell_row rfl _ _ (w.heap.size + 1) 69 #[.slice A' ms.length c'] (0, 0) _ rfl (HRes.out _) Try.underlying69 rfl (by kernel_rfl)) rfl ?_
  exact ⟨A', c', rfl, HO.out, HB2.out.setCell (by show w.heap.size ≤ w.heap.size + 1; omega) _⟩
end Go.Proofs.Ytignncjmbcdpaaa

/-
Rows of wide modes; impl.widened.
-/
namespace Go.Proofs.Ytignncjmbcdpaaa
open Go Go.RowKit Ieee

/-- The words of a wide mode: pole, gain. -/
abbrev DW := Nat × Nat × Nat × Nat
def modeD (m : DW) : List Value := [.complex .f64 m.1 m.2.1, .complex .f64 m.2.2.1 m.2.2.2]
def flatD (ms : List DW) : List Value := ms.flatMap modeD
theorem flatD_len (ms : List DW) : (flatD ms).length = ms.length * 2 := by
  induction ms with
  | nil => rfl
  | cons m ms ih => simp [flatD, modeD] at ih ⊢; omega
theorem flatD_snoc (ms : List DW) (m : DW) : flatD ms ++ modeD m = flatD (ms ++ [m]) := by simp [flatD]
theorem flatD_at {ms : List DW} {i : Nat} (h : i < ms.length) : (flatD ms)[i * 2]? = some (.complex .f64 (ms.getD i (0, 0, 0, 0)).1 (ms.getD i (0, 0, 0, 0)).2.1) ∧ (flatD ms)[i * 2 + 1]? = some (.complex .f64 (ms.getD i (0, 0, 0, 0)).2.2.1 (ms.getD i (0, 0, 0, 0)).2.2.2) := by
  induction ms generalizing i with
  | nil => simp at h
  | cons m ms ih =>
    cases i with
    | zero => exact ⟨rfl, rfl⟩
    | succ i =>
      have h2 := ih (i := i) (by simpa using h)
      have e1 : (i + 1) * 2 = i * 2 + 2 := by omega
      rw [e1]
      exact h2
theorem wide_info : (Try.prog.info? 131).map (fun i => (i.zero, i.size, i.bytes)) = some (some (.agg #[.complex .f64 0 0, .complex .f64 0 0]), 2, 32) := by kernel_rfl
/-- A row of wide modes of one's own. -/
def OwnD (w : World) (lo hi : Nat) (A : Option Addr) (c : Nat) (ms : List DW) : Prop :=
  w.ownsRow lo 131 2 (.slice A ms.length c) ms.length (flatD ms) ∧ ∀ k, (Value.slice A ms.length c).ownBlock = some k → k < hi
theorem OwnD.keep {w w' : World} {lo hi : Nat} {A : Option Addr} {c : Nat} {ms : List DW} (h : OwnD w lo hi A c ms) (hk : ∀ j, lo ≤ j → j < hi → w'.heap[j]? = w.heap[j]?) : OwnD w' lo hi A c ms := by
  obtain ⟨⟨h1, h2⟩, h3⟩ := h
  refine ⟨⟨h1, ?_⟩, h3⟩
  rcases h2 with h2 | ⟨g, cap, cur, e1, e2, e3, e4⟩
  · exact .inl h2
  · refine .inr ⟨g, cap, cur, e1, e2, (hk g e2 (h3 g (by rw [e1]; rfl))).trans e3, e4⟩
theorem OwnD.below {w w' : World} {lo hi B : Nat} {A : Option Addr} {c : Nat} {ms : List DW} (h : OwnD w lo hi A c ms) (hb : Below B w w') (hB : hi ≤ B) : OwnD w' lo hi A c ms :=
  h.keep fun j _ hj => hb.block j (by omega)
theorem OwnD.of {w : World} {lo : Nat} {A : Option Addr} {c : Nat} {ms : List DW} (h : w.ownsRow lo 131 2 (.slice A ms.length c) ms.length (flatD ms)) : OwnD w lo w.heap.size A c ms := by
  refine ⟨h, fun k hk => ?_⟩
  rcases h.2 with ⟨e, _⟩ | ⟨g, cap, cur, e1, e2, e3, e4⟩
  · rw [e] at hk; cases hk
  · rw [e1] at hk
    have : g = k := by injection hk
    subst this
    exact lt_of_some e3
theorem OwnD.cells {w : World} {lo hi : Nat} {A : Option Addr} {c : Nat} {ms : List DW} (h : OwnD w lo hi A c ms) (h0 : 0 < ms.length) : ∃ b, A = some ⟨b, 0, none⟩ ∧ lo ≤ b ∧ b < w.heap.size ∧ ms.length ≤ c ∧ c ≤ maxLen ∧
    ∀ i, i < ms.length → w.cell? ⟨b, i * 2, none⟩ = some (.complex .f64 (ms.getD i (0, 0, 0, 0)).1 (ms.getD i (0, 0, 0, 0)).2.1) ∧ w.cell? ⟨b, i * 2 + 1, none⟩ = some (.complex .f64 (ms.getD i (0, 0, 0, 0)).2.2.1 (ms.getD i (0, 0, 0, 0)).2.2.2) := by
  obtain ⟨⟨h1, h2⟩, h3⟩ := h
  rcases h2 with ⟨_, h2⟩ | ⟨g, cap, cur, e1, e2, e3, e4, e5, e6, e7⟩
  · omega
  · injection e1 with q1 q2 q3
    subst q1 q3
    refine ⟨g, rfl, e2, lt_of_some e3, e4, e5, fun i hi => ?_⟩
    obtain ⟨f1, f2⟩ := flatD_at hi
    have key : ∀ j u, j < ms.length * 2 → (flatD ms)[j]? = some u → w.cell? ⟨g, j, none⟩ = some u := fun j u hj hu => by
      rw [cell_of_row w g j _ _ (0, 0) e3]
      rw [← e7, List.getElem?_take, if_pos hj] at hu
      simpa using hu
    exact ⟨key _ _ (by omega) f1, key _ _ (by omega) f2⟩

/-- A mode, widened. -/
def widM (m : MW) : DW := (wid m.1, wid m.2.1, wid m.2.2.1, wid m.2.2.2)
/-- At numbers widening neither draws nor turns. -/
theorem widFin {b : Nat} (h : fin .f64 (wid b)) : (∀ W, cR .f32 b .f64 W = wid b) ∧ cN .f32 b .f64 = 0 := by
  refine ⟨fun W => nrm_fin_eq (nrm_wid b W) h, ?_⟩
  have hn : isN .f32 b = false := by rw [← isN_wid]; exact fin_num h
  unfold cN
  rw [widen_some hn]
set_option maxHeartbeats 400000 in
theorem widenFin_any (a b : Nat) (w : World) (ha : fin .f64 (wid a)) (hb : fin .f64 (wid b)) : Calls Try.prog 90 #[.complex .f32 a b] w fun e w' => e = .returned (.complex .f64 (wid a) (wid b)) ∧ w = w' := by
  obtain ⟨h1, h2⟩ := widFin ha
  obtain ⟨h3, h4⟩ := widFin hb
  obtain ⟨A, hA⟩ : ∃ A, wid a = A := ⟨_, rfl⟩
  obtain ⟨B, hB⟩ : ∃ B, wid b = B := ⟨_, rfl⟩
  rw [hA] at h1 ⊢
  rw [hB] at h3 ⊢
  clear hA hB ha hb
  go_enter Try.func90, Try.ntmps90
  go_wp2_with fail
  go_ret
  exact ⟨rfl, rfl⟩
end Go.Proofs.Ytignncjmbcdpaaa

/-
impl.step: all modes, one step.
-/
namespace Go.Proofs.Ytignncjmbcdpaaa
open Go Go.RowKit Ieee

def mAt (ms : List MW) (i : Nat) : MW := ms.getD i (0, 0, 0, 0)
def sAt (ss : List (Nat × Nat)) (i : Nat) : Nat × Nat := ss.getD i (0, 0)
def sV (s : Nat × Nat) : Value := .complex .f32 s.1 s.2
/-- The output of the first k modes. -/
def outAt (ms : List MW) (ss : List (Nat × Nat)) (x : Nat) : Nat → Nat
  | 0 => 0
  | k + 1 => fo .add .f32 (outAt ms ss x k) (stepW (mAt ms k) (sAt ss k) x).1
theorem nrm_outAt (ms : List MW) (ss : List (Nat × Nat)) (x k : Nat) : nrm .f32 (outAt ms ss x k) = outAt ms ss x k := by
  cases k with
  | zero => exact (nrm_of_num (by decide +kernel) : nrm .f32 0 = 0)
  | succ k => exact nrm_fo _ _ _ _
/-- All states, one step on. -/
def nextS (ms : List MW) (ss : List (Nat × Nat)) (x : Nat) : List (Nat × Nat) := (List.range ss.length).map fun i => stepW (mAt ms i) (sAt ss i) x
theorem nextS_at {ms : List MW} {ss : List (Nat × Nat)} {x i : Nat} (h : i < ss.length) : sAt (nextS ms ss x) i = stepW (mAt ms i) (sAt ss i) x := by
  show (nextS ms ss x).getD i (0, 0) = _
  simp [nextS, List.getD, h]

set_option maxRecDepth 100000 in
set_option maxHeartbeats 400000 in
theorem step_any (A : Option Addr) (c lo hi g : Nat) (ms : List MW) (ss : List (Nat × Nat)) (x : Nat) (w : World) (h : OwnM w lo hi A c ms) (hh : hi ≤ g) (hok : ModesOk ms) (hl : ms.length ≤ 16) (hs : ss.length = ms.length)
    (hrow : w.rowIs g 50 ms.length (fun i => sV (sAt ss i))) (hst : ∀ i, i < ms.length → StepOk (mAt ms i) (sAt ss i) x) :
    Calls Try.prog 103 #[.slice A ms.length c, .slice (some ⟨g, 0, none⟩) ms.length ms.length, .float .f32 x] w fun e w' => ∃ r, e = .returned (.float .f32 r) ∧ nrm .f32 r = outAt ms ss x ms.length ∧ wfk .f32 r ∧
      w'.rowIs g 50 ms.length (fun i => sV (sAt (nextS ms ss x) i)) ∧ w.grownBy w' (some g) := by
  have H := Lib.hid h
  have HK := Lib.hid hok
  have HST := Lib.hid hst
  have hgl := hrow.lt
  have hrow0 : w.rowIs g 50 ms.length (fun i => if i < 0 then sV (stepW (mAt ms i) (sAt ss i) x) else sV (sAt ss i)) := hrow.congr fun i _ => by rw [if_neg (by omega)]
  clear h hok hst hrow
  go_enter Try.func103, Try.ntmps103
  go_wp2_with fail
  go_loopw [7, 12] (fun o i wr => ∃ k r : Nat, i = .int .i64 (k : Int) ∧ k ≤ ms.length ∧ o = .float .f32 r ∧ Hid (nrm .f32 r = outAt ms ss x k ∧ wfk .f32 r) ∧
    wr.rowIs g 50 ms.length (fun i => if i < k then sV (stepW (mAt ms i) (sAt ss i) x) else sV (sAt ss i)) ∧ Hid (w.grownBy wr (some g))) (fun _ i _ => ms.length - (intOf i).toNat)
  case atStart => exact ⟨0, 0, rfl, by omega, rfl, ⟨nrm_of_num (by decide +kernel), by rw [wfk_32]; omega⟩, hrow0, rfl, rfl, rfl, Nat.le_refl _, fun _ _ _ => rfl⟩
  case round =>
    clear hrow0
    obtain ⟨k, r, rfl, hk, rfl, hr, hrow, hgr⟩ := hrel
    by_cases hlt : k < ms.length
    · have hgr1 := hgr.out
      have HM : Hid (OwnM wr lo hi A c ms) := H.out.keep fun j _ hj => hgr1.block j (by omega) (by intro e; injection e with e; omega)
      obtain ⟨b, rfl, hb1, hb2, hlc, _, hcell⟩ := HM.out.cells (by omega)
      obtain ⟨e1, e2⟩ := hcell k hlt
      have hst := HST.out k hlt
      have hmk := HK.out.at_ hlt
      have e3 := hrow.cell hlt
      have hgw := hrow.lt
      simp only [Nat.lt_irrefl, if_false] at e3
      have HO : Hid (outAt ms ss x (k + 1) = fo .add .f32 (outAt ms ss x k) (stepW (mAt ms k) (sAt ss k) x).1) := rfl
      have HST1 := Lib.hid hst
      have HMK : Hid (ModeOk (mAt ms k).1 (mAt ms k).2.1 (mAt ms k).2.2.1 (mAt ms k).2.2.2) := hmk
      have hN : Hid (∀ (W : World), W.rowIs g 50 ms.length (fun i => if i < k then sV (stepW (mAt ms i) (sAt ss i) x) else sV (sAt ss i)) →
          (W.setCell ⟨g, k, none⟩ (sV (stepW (mAt ms k) (sAt ss k) x))).rowIs g 50 ms.length (fun i => if i < k + 1 then sV (stepW (mAt ms i) (sAt ss i) x) else sV (sAt ss i))) := fun W hW =>
        (hW.set k _).congr fun i hi => by
          show (if i = k then _ else _) = _
          by_cases e : i = k
          · subst e; rw [if_pos rfl, if_pos (by omega)]
          · rw [if_neg e]
            by_cases e' : i < k
            · rw [if_pos e', if_pos (by omega)]
            · rw [if_neg e', if_neg (by omega)]
      have e1' : wr.cell? ⟨b, k * 2, none⟩ = some (.complex .f32 (mAt ms k).1 (mAt ms k).2.1) := e1
      have e2' : wr.cell? ⟨b, k * 2 + 1, none⟩ = some (.complex .f32 (mAt ms k).2.2.1 (mAt ms k).2.2.2) := e2
      clear e1 e2 hcell hst hmk
      unfold sV at e3 hN
      generalize hmm : mAt ms k = m at *
      generalize hss : sAt ss k = s at *
      obtain ⟨a, b', c', d⟩ := m
      obtain ⟨s1, s2⟩ := s
      simp only at e1' e2' e3
      have R1 : Hid ((wr.alloc (.cells #[.complex .f32 a b', .complex .f32 c' d] 52)).rowIs g 50 ms.length (fun i => if i < k then .complex .f32 (stepW (mAt ms i) (sAt ss i) x).1 (stepW (mAt ms i) (sAt ss i) x).2 else .complex .f32 (sAt ss i).1 (sAt ss i).2)) := hrow.alloc _
      have G1 : Hid (w.grownBy (wr.alloc (.cells #[.complex .f32 a b', .complex .f32 c' d] 52)) (some g)) := grown_trans hgr1 ⟨rfl, rfl, rfl, by simp, fun i hi _ => Below.heap_alloc wr _ i hi⟩
      have hmB : (wr.alloc (.cells #[.complex .f32 a b', .complex .f32 c' d] 52)).heap[wr.heap.size]? = some (.cells #[.complex .f32 a b', .complex .f32 c' d] 52 (0, 0)) := heap_alloc_new wr _
      have hlt1 : wr.heap.size < (wr.alloc (.cells #[.complex .f32 a b', .complex .f32 c' d] 52)).heap.size := by simp
      go_wp2_with fail
      obtain ⟨m0, m1, _, _⟩ := m_cells hmB
      have s0 := R1.out.cell hlt
      have s1' := R1.out.frozen k
      simp only [Nat.lt_irrefl, if_false, hss] at s0
      generalize wr.alloc (.cells #[.complex .f32 a b', .complex .f32 c' d] 52) = W1 at *
      have hgW : g < W1.heap.size := R1.out.lt
      have KEY : Hid (∀ W2, Below W1.drew.heap.size W1.drew W2 → W2.rowIs g 50 ms.length (fun i => if i < k then .complex .f32 (stepW (mAt ms i) (sAt ss i) x).1 (stepW (mAt ms i) (sAt ss i) x).2 else .complex .f32 (sAt ss i).1 (sAt ss i).2) ∧
          w.grownBy W2 (some g) ∧ W2.cell? ⟨g, k, none⟩ = some (.complex .f32 s1 s2) ∧ W2.frozen? ⟨g, k, none⟩ = false ∧ ∀ v, (W2.setCell ⟨g, k, none⟩ v).cell? ⟨g, k, none⟩ = some v) := fun W2 hb3 => by
        have R2 := R1.out.of_block (w' := W2) (hb3.block g hgW)
        have t0 := R2.cell hlt
        simp only [Nat.lt_irrefl, if_false, hss] at t0
        refine ⟨R2, grown_trans G1.out ⟨hb3.os, hb3.tape, hb3.output, hb3.size, fun i hi _ => hb3.block i hi⟩, t0, R2.frozen k, fun v => ?_⟩
        have := (R2.set k v).cell hlt
        simpa using this
      go_region_with (first
        | (go_at_call 148
           refine (stepMode_any (a, b', c', d) (s1, s2) x _ HMK.out HST1.out).mono ?_
           rintro e W2 ⟨rfl, hb3⟩
           obtain ⟨r2, g2, t0, t1, c6⟩ := KEY.out _ hb3
           have R2 := Lib.hid r2
           have G2 := Lib.hid g2
           clear hb3 r2 g2))
      all_goals
        go_wp2_with fail
        go_roundw
        case rel =>
          refine ⟨k + 1, _, by go_num, by omega, rfl, ⟨?_, fR_lt _ _ _ _ _⟩, hN.out _ R2.out, ?_⟩
          · rw [nrm_fR, HO.out]; exact fo_congr (by rw [hr.out.1, nrm_outAt]) rfl
          · exact ⟨G2.out.os, G2.out.tape, G2.out.output, by have := G2.out.size; simpa using this, fun i hi hn => (Below.heap_setCell _ _ _ _ (by show i ≠ g; intro e; subst e; exact hn rfl)).trans (G2.out.block i hi hn)⟩
        case measure => simp [intOf]; omega
    · obtain rfl : k = ms.length := by omega
      go_wp2_with fail
      go_ret
      refine ⟨r, rfl, hr.out.1, hr.out.2, hrow.congr fun i hi => ?_, hgr.out⟩
      rw [if_pos hi, nextS_at (by omega)]
end Go.Proofs.Ytignncjmbcdpaaa

/-
spec.l1Parts, for numbers from 0 to 1 of single precision.
-/
namespace Go.Proofs.Ytignncjmbcdpaaa
open Go Go.RowKit Ieee

theorem parts_le {N k : Nat} (h1 : N < 2 ^ 24) : (N : Rat) * pw (-(k : Int)) ≤ 2 ^ 24 ∧ 0 ≤ (N : Rat) * pw (-(k : Int)) := by
  have hp : pw (-(k : Int)) ≤ 1 := by rw [← pw_zero]; exact pw_mono (by omega)
  have h0 := Rat.le_of_lt (pw_pos (-(k : Int)))
  have hN : (0 : Rat) ≤ N := Rat.natCast_nonneg
  have hN2 : (N : Rat) ≤ 2 ^ 24 := by
    have := Rat.natCast_le_natCast.2 (Nat.le_of_lt h1)
    have e : ((2 ^ 24 : Nat) : Rat) = 2 ^ 24 := by simp; grind
    rw [e] at this; exact this
  have := Rat.mul_le_mul_of_nonneg_left hp hN
  have h3 := Rat.mul_nonneg hN h0
  grind
theorem dbl {r N k : Nat} (hr : fin .f64 r) (hv : fv .f64 r = (N : Rat) * pw (-((k + 1 : Nat) : Int))) (h1 : N < 2 ^ 24) (hk : k ≤ 149) (w : World) :
    fin .f64 (fR .mul .f64 r 4611686018427387904 w) ∧ fv .f64 (fR .mul .f64 r 4611686018427387904 w) = (N : Rat) * pw (-(k : Int)) := by
  obtain ⟨t1, t2⟩ := two_fin
  have e : fv .f64 r * 2 = (N : Rat) * pw (-(k : Int)) := by
    have := pw_succ (-((k + 1 : Nat) : Int))
    rw [show -((k + 1 : Nat) : Int) + 1 = -(k : Int) by omega] at this
    rw [hv, this]; grind
  obtain ⟨p1, p2⟩ := parts_le (k := k) h1
  have ht := top210
  have hm := mul_spec hr t1 (by rw [t2, e, ab_of_nonneg p2]; grind)
  rw [t2, e] at hm
  have hf : Few .f64 ((N : Rat) * pw (-(k : Int))) := by
    refine ⟨(N : Int), -(k : Int), by rw [Rat.intCast_natCast], ?_, ?_⟩
    · have : FloatKind.f64.format.binade = 4503599627370496 := by decide +kernel
      rw [this]; omega
    · have : FloatKind.f64.format.leastPlace = -1074 := by decide +kernel
      rw [this]; omega
  have hx := hm.few hf (by rw [ab_of_nonneg p2]; grind)
  have hn := nrm_fin_eq (nrm_fR .mul .f64 r 4611686018427387904 w) hm.1
  rw [hn]
  exact ⟨hm.1, hx⟩
theorem big53 : fin .f64 4845873199050653696 ∧ fv .f64 4845873199050653696 = 2 ^ 53 := by
  have h : FloatKind.f64.format.read 4845873199050653696 = .number false 4503599627370496 1 := by decide +kernel
  obtain ⟨h1, h2⟩ := fin_of_read h
  refine ⟨h1, ?_⟩
  rw [h2, dval_num]
  unfold mval pw
  simp only [Bool.false_eq_true, if_false]
  grind
theorem not_big {r : Nat} (hr : fin .f64 r) (h : fv .f64 r ≤ 2 ^ 24) : fge .f64 r 4845873199050653696 = false := by
  obtain ⟨b1, b2⟩ := big53
  cases hc : fge .f64 r 4845873199050653696
  · rfl
  · have := (fge_iff hr b1).1 hc
    rw [b2] at this; grind
/-- int(x), and whether x is whole. -/
theorem whole {r N k : Nat} (hr : fin .f64 r) (hv : fv .f64 r = (N : Rat) * pw (-(k : Int))) (h0 : 0 < N) (h1 : N < 2 ^ 24) :
    ∃ n : Nat, floatToIntVal .f64 r .i64 = some (n : Int) ∧ n ≤ 2 ^ 24 ∧ (feq .f64 r (floatOfInt .f64 n) = true → 1 ≤ n) ∧ (k = 0 → feq .f64 r (floatOfInt .f64 n) = true) := by
  obtain ⟨p1, p2⟩ := parts_le (k := k) h1
  obtain ⟨n, q1, q2, q3, q4⟩ := to_int hr (by rw [hv]; exact p2) (by rw [hv]; grind)
  have hx := int_exact .f64 (n : Int) (by have : FloatKind.f64.format.binade = 4503599627370496 := by decide +kernel
                                          rw [this]; omega)
  have hxv : fv .f64 (floatOfInt .f64 n) = (n : Rat) := by rw [hx.2, Rat.intCast_natCast]
  refine ⟨n, q1, ?_, fun h => ?_, fun h => ?_⟩
  · rw [hv] at q2
    have h3 : (n : Rat) ≤ ((2 ^ 24 : Nat) : Rat) := by
      have e : ((2 ^ 24 : Nat) : Rat) = 2 ^ 24 := by simp; grind
      rw [e]; grind
    exact Rat.natCast_le_natCast.1 h3
  · have := (feq_iff hr hx.1).1 h
    rw [hxv, hv] at this
    rcases Nat.eq_zero_or_pos n with hz | hz
    · exfalso
      subst hz
      have hp := pw_pos (-(k : Int))
      have hN : (0 : Rat) < N := by have := Rat.natCast_lt_natCast.2 h0; simpa using this
      have := Rat.mul_pos hN hp
      simp at *
      grind
    · exact hz
  · subst h
    have e : fv .f64 r = (N : Rat) := by rw [hv, show -((0 : Nat) : Int) = 0 from rfl, pw_zero]; grind
    rw [e] at q2 q3
    have h2 := Rat.natCast_le_natCast.1 q2
    have h3 : N < n + 1 := Rat.natCast_lt_natCast.1 (by simpa using q3)
    obtain rfl : n = N := by omega
    exact (feq_iff hr hx.1).2 (by rw [hxv, e])
theorem half_ok {a n c : Nat} (h : a * 2 ^ c = n) (hn : n ≤ 2 ^ 24) (ha : 1 ≤ a) : c ≤ 24 := by
  have h1 : 2 ^ c ≤ 2 ^ 24 := by
    have := Nat.mul_le_mul_right (2 ^ c) ha
    omega
  exact (Nat.pow_le_pow_iff_right (by decide)).1 h1

set_option maxHeartbeats 400000 in
theorem parts_any (x N k0 : Nat) (w : World) (hx : fin .f64 x) (hv : fv .f64 x = (N : Rat) * pw (-(k0 : Int))) (h0 : 0 < N) (h1 : N < 2 ^ 24) (hk0 : k0 ≤ 149) : Calls Try.prog 163 #[.float .f64 x] w fun e w' =>
    ∃ (m j : Int) (n : Nat), e = .returned (.tuple #[.int .i64 m, .int .i64 j]) ∧ 1 ≤ m ∧ m ≤ 16777216 ∧ -200 ≤ j ∧ j ≤ 200 ∧ w.drewN n = w' := by
  have hbig := not_big hx (by rw [hv]; exact (parts_le h1).1)
  have HX := Lib.hid (And.intro hx hv)
  clear hx hv
  go_enter Try.func163, Try.ntmps163
  go_wp2_with fail
  go_loopw [0, 4] (fun y j wr => y = .float .f64 x ∧ j = .int .i64 0 ∧ wr = w) (fun _ _ _ => 0)
  case atStart => exact ⟨rfl, rfl, rfl⟩
  case round =>
    obtain ⟨rfl, rfl, rfl⟩ := hrel
    go_wp2_with fail
    go_loopw [0, 4] (fun y j w2 => ∃ (r k n : Nat) (i : Int), y = .float .f64 r ∧ j = .int .i64 i ∧ Hid (fin .f64 r ∧ fv .f64 r = (N : Rat) * pw (-(k : Int))) ∧ (k : Int) - 149 ≤ i ∧ i ≤ 0 ∧ k ≤ 149 ∧ w2 = wr.drewN n) (fun _ j _ => (intOf j + 149).toNat)
    case atStart => exact ⟨x, k0, 0, 0, rfl, rfl, HX, by omega, by omega, hk0, rfl⟩
    case round =>
      obtain ⟨r, k, n, i, rfl, rfl, hr, hi1, hi2, hk, rfl⟩ := hrel
      obtain ⟨q, q1, q2, q3, q4⟩ := whole hr.out.1 hr.out.2 h0 h1
      have hc := fun W => run_convert_float_int (P := Try.prog) W 30 3 .f64 .i64 r q (by kernel_rfl) (by kernel_rfl) q1
      have Q3 := Lib.hid q3
      have Q4 := Lib.hid q4
      clear q1 q3 q4
      cases t : feq .f64 r (floatOfInt .f64 q)
      · obtain ⟨k', rfl⟩ : ∃ k', k = k' + 1 := by
          rcases Nat.eq_zero_or_pos k with hz | hz
          · rw [Q4.out hz] at t; cases t
          · exact ⟨k - 1, by omega⟩
        have D := Lib.hid (fun w => dbl hr.out.1 hr.out.2 h1 (by omega) w)
        go_wp2_with fail
        go_roundw
        case rel => exact ⟨_, k', _, i - 1, rfl, by go_num, D.out _, by omega, by omega, by omega, rfl⟩
        case measure => simp [intOf]; omega
      · have hq1 := Q3.out t
        clear Q3 Q4
        go_wp2_with fail
        go_loopw [4, 5] (fun j m w3 => ∃ (a c : Nat), m = .int .i64 (a : Int) ∧ j = .int .i64 (i + c) ∧ a * 2 ^ c = q ∧ 1 ≤ a ∧ w3 = wr.drewN n) (fun _ m _ => (intOf m).toNat)
        case atStart => exact ⟨q, 0, rfl, by simp, by simp, hq1, rfl⟩
        case round =>
          obtain ⟨a, c, rfl, rfl, ha, ha1, rfl⟩ := hrel
          have hc24 := half_ok ha q2 ha1
          have hle : a ≤ q := by rw [← ha]; exact Nat.le_mul_of_pos_right a (Nat.two_pow_pos c)
          clear hc t
          by_cases hp : a % 2 = 0
          · obtain ⟨b, rfl⟩ : ∃ b, a = 2 * b := ⟨a / 2, by omega⟩
            have hm : decide (((2 * b : Nat) : Int) % 2 = 0) = true := by simp
            go_wp2_with fail
            go_roundw
            case rel => exact ⟨b, c + 1, by go_num, by go_num, by rw [Nat.pow_succ, ← ha, Nat.mul_comm 2 b, Nat.mul_assoc, Nat.mul_comm (2 ^ c)], by omega, trivial⟩
            case measure => simp [intOf]; omega
          · have hm : decide (((a : Nat) : Int) % 2 = 0) = false := by simp; omega
            go_wp2_with fail
            go_ret2
            exact ⟨_, _, _, rfl, by omega, by omega, by omega, by omega, rfl⟩
end Go.Proofs.Ytignncjmbcdpaaa

/-
spec.l1Number: its text is not empty.
-/
namespace Go.Proofs.Ytignncjmbcdpaaa
open Go Go.RowKit Ieee

theorem byte_text (b : Int) (W : World) : (convert 22 9 (.slice (some ⟨W.heap.size, 0, none⟩) 1 1)).run Try.prog (W.alloc (.cells #[.int .u8 b] 5)) = .ok (.string (strOfNums [b])) (W.alloc (.cells #[.int .u8 b] 5)) := by
  refine run_convert_bytes_arg _ 22 5 (by kernel_rfl) (by kernel_rfl) W.heap.size 0 1 1 [b] rfl (fun i hi => ?_) 9 (by kernel_rfl)
  have hb : (W.alloc (.cells #[.int .u8 b] 5)).heap[W.heap.size]? = some (.cells #[.int .u8 b] 5 (0, 0)) := heap_alloc_new W _
  obtain rfl : i = 0 := by omega
  exact (cell_of_row _ _ 0 _ _ (0, 0) hb).trans (by simp)
theorem join_text {a b : ByteArray} (ha : a.size ≤ 1000) (hb : b.size ≤ 1000) (W : World) : (Op.stringOp .add a b).run Try.prog W = .ok (.string (a ++ b)) W := run_string_add W a b (by omega) (by omega)

set_option maxRecDepth 100000 in
set_option maxHeartbeats 400000 in
theorem number_pos (n0 : Nat) (w : World) (h1 : n0 ≤ 1152921504606846976) : Calls Try.prog 164 #[.int .i64 n0] w fun e w' =>
    ∃ s : ByteArray, e = .returned (.string s) ∧ 1 ≤ s.size ∧ s.size ≤ 21 ∧ Below w.heap.size w w' := by
  have hconv := byte_text
  go_enter Try.func164, Try.ntmps164
  go_wp2_with fail
  have hB0 : Hid (Below w.heap.size w (w.alloc (.cells #[.int .u8 (48 + (n0 : Int) % 10)] 5))) := (Below.refl w.heap.size w).alloc (Nat.le_refl _) _
  generalize w.alloc (.cells #[.int .u8 (48 + (n0 : Int) % 10)] 5) = W0 at *
  go_loopw [0, 3] (fun n o wr => ∃ (k d : Nat) (s : ByteArray), n = .int .i64 (k : Int) ∧ o = .string s ∧ k ≤ n0 ∧ Hid (k < 10 ^ d ∧ s.size + d ≤ 21 ∧ 1 ≤ s.size) ∧ Hid (Below w.heap.size w wr)) (fun n _ _ => (intOf n).toNat)
  case atStart => exact ⟨n0 / 10, 18, _, by go_num, rfl, by omega, ⟨by omega, by rw [strOfNums_size]; simp, by rw [strOfNums_size]; simp⟩, hB0⟩
  case round =>
    obtain ⟨k, d, s, rfl, rfl, hk, hs, hb⟩ := hrel
    have hadd := fun b => join_text (a := strOfNums [b]) (b := s) (by rw [strOfNums_size]; simp) (by have := hs.out; omega)
    by_cases h0 : 0 < k
    · go_wp2_with fail
      go_roundw
      case rel =>
        obtain ⟨hs1, hs2, hs3⟩ := hs.out
        obtain ⟨d, rfl⟩ : ∃ e, d = e + 1 := by
          rcases Nat.eq_zero_or_pos d with hz | hz
          · subst hz; omega
          · exact ⟨d - 1, by omega⟩
        refine ⟨k / 10, d, _, by go_num, rfl, by omega, ⟨?_, ?_, ?_⟩, hb.out.alloc hb.out.size _⟩
        · rw [Nat.pow_succ] at hs1; omega
        · rw [ByteArray.size_append, strOfNums_size]; simp; omega
        · rw [ByteArray.size_append, strOfNums_size]; simp
      case measure => simp [intOf]; omega
    · go_wp2_with fail
      go_ret
      exact ⟨s, rfl, hs.out.2.2, by have := hs.out; omega, hb.out⟩

set_option maxRecDepth 100000 in
set_option maxHeartbeats 400000 in
theorem number_any (n : Int) (w : World) (h0 : -1152921504606846976 ≤ n) (h1 : n ≤ 1152921504606846976) : Calls Try.prog 164 #[.int .i64 n] w fun e w' =>
    ∃ s : ByteArray, e = .returned (.string s) ∧ 1 ≤ s.size ∧ s.size ≤ 22 ∧ Below w.heap.size w w' := by
  by_cases hn : 0 ≤ n
  · obtain ⟨k, rfl⟩ := Int.eq_ofNat_of_zero_le hn
    refine (number_pos k w (by omega)).mono ?_
    rintro e w' ⟨s, rfl, h2, h3, hb⟩
    exact ⟨s, rfl, h2, by omega, hb⟩
  · obtain ⟨k, hk⟩ : ∃ k : Nat, -n = k := Int.eq_ofNat_of_zero_le (by omega)
    have hneg : decide (n < 0) = true := by simp; omega
    go_enter Try.func164, Try.ntmps164
    go_wp2_with fail
    refine (number_pos k _ (by omega)).mono ?_
    rintro e w' ⟨s, rfl, h2, h3, hb⟩
    have hadd := join_text (a := ⟨#[45]⟩) (b := s) (by decide) (by omega)
    go_wp2_with fail
    go_ret
    exact ⟨_, rfl, by rw [ByteArray.size_append]; omega, by rw [ByteArray.size_append]; have : (ByteArray.mk #[45]).size = 1 := rfl; omega, hb⟩
end Go.Proofs.Ytignncjmbcdpaaa

/-
spec.FormatSingle of a number from 0 to 1; spec.l7Limits.
-/
namespace Go.Proofs.Ytignncjmbcdpaaa
open Go Go.RowKit Ieee

/-- A positive number of single precision that is at most 1. -/
theorem pos_parts {r : Nat} (hr : fin .f32 r) (h0 : 0 < fv .f32 r) (h1 : fv .f32 r ≤ 1) : ∃ N k : Nat, fv .f32 r = (N : Rat) * pw (-(k : Int)) ∧ 0 < N ∧ N < 2 ^ 24 ∧ k ≤ 149 := by
  obtain ⟨s, m, e, hrd⟩ := hr
  obtain ⟨b1, b2, b3, b4, _⟩ := read_bounds FloatKind.f32.format (by decide) hrd
  have e1 : FloatKind.f32.format.leastPlace = -149 := by decide +kernel
  have e2 : FloatKind.f32.format.binade = 8388608 := by decide +kernel
  rw [e1] at b1
  rw [e2] at b2
  have hv : fv .f32 r = if s = true then -mval m e else mval m e := by unfold fv; rw [hrd, dval_num]
  have hm0 := mval_nonneg m e
  have hs : s = false := by
    cases s
    · rfl
    · simp only [if_true] at hv; exfalso; grind
  subst hs
  simp only [Bool.false_eq_true, if_false] at hv
  rw [hv] at h0 h1
  have hm : 0 < m := by
    rcases Nat.eq_zero_or_pos m with hz | hz
    · subst hz; rw [mval_zero] at h0; grind
    · exact hz
  have he : e ≤ 0 := by
    rcases Int.lt_or_le 0 e with h | h
    · exfalso
      have h2 : mval 1 1 ≤ mval m e := by
        refine Rat.le_trans (mval_le (e := 1) hm) ?_
        exact Rat.mul_le_mul_of_nonneg_left (pw_mono (by omega)) Rat.natCast_nonneg
      have h3 : mval 1 1 = 2 := by unfold mval pw; grind
      grind
    · exact h
  refine ⟨m, (-e).toNat, ?_, hm, by omega, by omega⟩
  rw [hv, show -(((-e).toNat : Nat) : Int) = e by omega]; rfl

theorem sign_flt (w : World) : flt .f64 (fR .quo .f64 4607182418800017408 0 w) 0 = false ∧ flt .f64 (fR .quo .f64 4607182418800017408 9223372036854775808 w) 0 = true := by
  have h1 : floatBits .quo .f64 4607182418800017408 0 = some 9218868437227405312 := by decide +kernel
  have h2 : floatBits .quo .f64 4607182418800017408 9223372036854775808 = some 18442240474082181120 := by decide +kernel
  constructor
  · unfold fR; rw [h1]
    show flt .f64 9218868437227405312 0 = false
    decide +kernel
  · unfold fR; rw [h2]
    show flt .f64 18442240474082181120 0 = true
    decide +kernel

/-- What FormatDouble returns: the text of -0, or another. -/
def TextPost (x : Nat) (w : World) (e : Ending) (w' : World) : Prop :=
  ∃ s : ByteArray, e = .returned (.string s) ∧ (s.toList == [45, 48]) = signB x ∧ Below w.heap.size w w'
theorem not_minus {s : ByteArray} (h : s.size ≠ 2) : (s.toList == [45, 48]) = false := by
  cases hc : (s.toList == [45, 48])
  · rfl
  · exfalso
    have := eq_of_beq hc
    rw [ByteArray.toList_eq] at this
    have h2 := congrArg List.length this
    simp at h2
    exact h h2
theorem sign_pos {x : Nat} (hx : fin .f64 x) (hw : wfk .f64 x) (h : 0 < fv .f64 x) : signB x = false := by
  obtain ⟨s, m, e, hr⟩ := hx
  obtain ⟨_, _, _, _, _, h6⟩ := read_bounds FloatKind.f64.format (by decide) hr
  have hs : FloatKind.f64.format.signWeight = 9223372036854775808 := by decide +kernel
  rw [hs] at h6
  have hm0 := mval_nonneg m e
  have hv : fv .f64 x = if s = true then -mval m e else mval m e := by unfold fv; rw [hr, dval_num]
  cases hc : signB x
  · rfl
  · exfalso
    have h1 : 9223372036854775808 ≤ x := of_decide_eq_true hc
    rw [wfk_64] at hw
    have : s = true := by rw [h6]; simp; omega
    subst this
    simp only [if_true] at hv
    grind

set_option maxRecDepth 100000 in
set_option maxHeartbeats 400000 in
theorem format_any (x r : Nat) (w : World) (hx : fin .f64 x) (hw : wfk .f64 x) (hv : fv .f64 x = fv .f32 r) (hr : fin .f32 r) (h0 : 0 ≤ fv .f32 r) (h1 : fv .f32 r ≤ 1) :
    Calls Try.prog 159 #[.float .f64 x] w (TextPost x w) := by
  obtain ⟨z1, z2⟩ := zero_fin .f64
  have hfin : feq .f64 (fo .sub .f64 x x) 0 = true := by rw [fin_sub]; exact (finB_iff x).2 hx
  cases t : feq .f64 x 0
  · have hpos : 0 < fv .f32 r := by
      rcases Rat.le_iff_lt_or_eq.1 h0 with h | h
      · exact h
      · have : feq .f64 x 0 = true := (feq_iff hx z1).2 (by rw [hv, z2, ← h])
        rw [this] at t; cases t
    have hsg : signB x = false := sign_pos hx hw (by rw [hv]; exact hpos)
    have hlt : flt .f64 x 0 = false := by
      cases hc : flt .f64 x 0
      · rfl
      · have := (flt_iff hx z1).1 hc
        rw [z2, hv] at this; grind
    obtain ⟨N, k, p1, p2, p3, p4⟩ := pos_parts hr hpos h1
    obtain ⟨a1, a2⟩ := absB_fin hx
    have a3 : fv .f64 (absB x) = (N : Rat) * pw (-(k : Int)) := by rw [a2, hv, ab_of_nonneg h0, p1]
    have PA := Lib.hid (fun w => parts_any (absB x) N k w a1 a3 p2 p3 p4)
    have SG := Lib.hid hsg
    clear a1 a2 a3 p1 p2 p3 p4 hsg hv hr h0 h1 hpos hx
    go_enter Try.func159, Try.ntmps159
    go_wp2_with fail
    refine (l1Finite_any x _).mono ?_
    rintro e w' ⟨n1, rfl, rfl⟩
    rw [hfin]
    go_wp2_with fail
    refine (l1Abs_any x _).mono ?_
    rintro e w' ⟨rfl, rfl⟩
    go_wp2_with fail
    refine (PA.out _).mono ?_
    rintro e w' ⟨m, j, n2, rfl, m1, m2, j1, j2, rfl⟩
    go_wp2_with fail
    refine (number_any m _ (by omega) (by omega)).mono ?_
    rintro e w1 ⟨s1, rfl, l1, l2, hb1⟩
    have HB1 : Hid (Below w.heap.size w w1) := (below_drewN (Below.refl _ _) _).trans hb1
    have hadd1 := join_text (a := ⟨#[]⟩) (b := s1) (by decide) (by omega)
    have hsz1 : ((⟨#[]⟩ : ByteArray) ++ s1).size = s1.size := by rw [ByteArray.size_append]; have : (ByteArray.mk #[]).size = 0 := rfl; omega
    generalize (⟨#[]⟩ : ByteArray) ++ s1 = u1 at *
    have hadd2 := join_text (a := u1) (b := ⟨#[112]⟩) (by omega) (by decide)
    have hsz2 : (u1 ++ (⟨#[112]⟩ : ByteArray)).size = u1.size + 1 := by rw [ByteArray.size_append]; rfl
    generalize u1 ++ (⟨#[112]⟩ : ByteArray) = u2 at *
    clear hb1
    go_wp2_with fail
    refine (number_any j _ (by omega) (by omega)).mono ?_
    rintro e w2 ⟨s2, rfl, l3, l4, hb2⟩
    have HB2 : Hid (Below w.heap.size w w2) := HB1.out.trans (hb2.mono HB1.out.size)
    have hadd3 := join_text (a := u2) (b := s2) (by omega) (by omega)
    have hsz3 : (u2 ++ s2).size = u2.size + s2.size := ByteArray.size_append
    generalize u2 ++ s2 = u3 at *
    clear hb2
    go_wp2_with fail
    go_ret
    exact ⟨u3, rfl, by rw [SG.out]; exact not_minus (by omega), HB2.out⟩
  · rcases feq_zero hw t with rfl | rfl
    · have s0 := fun w => (sign_flt w).1
      go_enter Try.func159, Try.ntmps159
      go_wp2_with fail
      refine (l1Finite_any _ _).mono ?_
      rintro e w' ⟨n1, rfl, rfl⟩
      rw [hfin]
      go_wp2_with fail
      go_ret
      exact ⟨_, rfl, by rw [not_minus (by decide)]; decide, below_drewN (Below.refl _ _) _⟩
    · have s0 := fun w => (sign_flt w).2
      go_enter Try.func159, Try.ntmps159
      go_wp2_with fail
      refine (l1Finite_any _ _).mono ?_
      rintro e w' ⟨n1, rfl, rfl⟩
      rw [hfin]
      go_wp2_with fail
      go_ret
      exact ⟨_, rfl, by rw [ByteArray.toList_eq]; decide, below_drewN (Below.refl _ _) _⟩
end Go.Proofs.Ytignncjmbcdpaaa

/-
spec.l7Limits, spec.LimitSamples.
-/
namespace Go.Proofs.Ytignncjmbcdpaaa
open Go Go.RowKit Ieee

theorem range_val {r : Nat} (h1 : fge .f32 r 0 = true) (h2 : fle .f32 r 1065353216 = true) : 0 ≤ fv .f32 r ∧ fv .f32 r ≤ 1 := by
  have hr := fin_range h1 h2
  obtain ⟨z1, z2⟩ := zero_fin .f32
  have ho : FloatKind.f32.format.read 1065353216 = .number false 8388608 (-23) := by decide +kernel
  obtain ⟨o1, o2⟩ := fin_of_read (k := .f32) ho
  have o3 : fv .f32 1065353216 = 1 := by
    rw [o2, dval_num]
    unfold mval pw
    simp only [Bool.false_eq_true, if_false]
    grind
  have g1 := (fge_iff hr z1).1 h1
  have g2 := (fle_iff hr o1).1 h2
  rw [z2] at g1
  rw [o3] at g2
  exact ⟨g1, g2⟩

set_option maxHeartbeats 400000 in
theorem single_text (r : Nat) (w : World) (_hw : wfk .f32 r) (h1 : fge .f32 r 0 = true) (h2 : fle .f32 r 1065353216 = true) : Calls Try.prog 133 #[.float .f32 r] w fun e w' =>
    ∃ s : ByteArray, e = .returned (.string s) ∧ (s.toList == [45, 48]) = signB (wid r) ∧ Below w.heap.size w w' := by
  have hr := fin_range h1 h2
  obtain ⟨v1, v2⟩ := range_val h1 h2
  have hc := cR_wid_fin hr
  have F := Lib.hid (fun w => format_any (wid r) r w (wid_fin hr).1 (wid_lt _) (wid_fin hr).2 hr v1 v2)
  clear h1 h2 hr v1 v2
  go_enter Try.func133, Try.ntmps133
  go_wp2_with fail
  refine (F.out _).mono ?_
  rintro e w' ⟨s, rfl, hs, hb⟩
  go_wp2_with fail
  go_ret
  exact ⟨s, rfl, hs, (below_drewN (Below.refl _ _) _).trans hb⟩

set_option maxHeartbeats 400000 in
theorem limits_any (c r : Nat) (w : World) (_hcw : wfk .f32 c) (hrw : wfk .f32 r) :
    Calls Try.prog 84 #[.float .f32 c, .float .f32 r] w fun e w' => e = .returned (.bool (limOk c r)) ∧ Below w.heap.size w w' := by
  have HL : Hid (limOk c r = (finB (wid c) && fgt .f32 c 0 && fge .f32 r 0 && fle .f32 r 1065353216 && !signB (wid r))) := rfl
  have Hf := Lib.hid (fun w => (by rw [fin_sub, finB_nrm (by rw [nrm_wid, nrm_cv (by decide)] : nrm .f64 (cR .f32 c .f64 w) = nrm .f64 (wid c))] : feq .f64 (fo .sub .f64 (cR .f32 c .f64 w) (cR .f32 c .f64 w)) 0 = finB (wid c)))
  cases h2 : fgt .f32 c 0
  · have e3 : limOk c r = false := by rw [HL.out, h2, Bool.and_false]; rfl
    have E3 := Lib.hid e3
    clear HL e3
    go_enter Try.func84, Try.ntmps84
    go_wp2_with fail
    go_ret
    exact ⟨by rw [E3.out]; rfl, Below.refl _ _⟩
  cases h1 : finB (wid c)
  · have e3 : limOk c r = false := by rw [HL.out, h1]; rfl
    have E3 := Lib.hid e3
    clear HL e3
    go_enter Try.func84, Try.ntmps84
    go_wp2_with fail
    refine (l1Finite_any _ _).mono ?_
    rintro e w' ⟨n1, rfl, rfl⟩
    rw [Hf.out, h1]
    go_wp2_with fail
    go_ret
    exact ⟨by rw [E3.out]; rfl, below_drewN (Below.refl _ _) _⟩
  cases h3 : fge .f32 r 0
  · have e3 : limOk c r = false := by rw [HL.out, h1, h2, h3]; rfl
    have E3 := Lib.hid e3
    clear HL e3
    go_enter Try.func84, Try.ntmps84
    go_wp2_with fail
    refine (l1Finite_any _ _).mono ?_
    rintro e w' ⟨n1, rfl, rfl⟩
    rw [Hf.out, h1]
    go_wp2_with fail
    go_ret
    exact ⟨by rw [E3.out]; rfl, below_drewN (Below.refl _ _) _⟩
  cases h4 : fle .f32 r 1065353216
  · have e3 : limOk c r = false := by rw [HL.out, h1, h2, h3, h4]; rfl
    have E3 := Lib.hid e3
    clear HL e3
    go_enter Try.func84, Try.ntmps84
    go_wp2_with fail
    refine (l1Finite_any _ _).mono ?_
    rintro e w' ⟨n1, rfl, rfl⟩
    rw [Hf.out, h1]
    go_wp2_with fail
    go_ret
    exact ⟨by rw [E3.out]; rfl, below_drewN (Below.refl _ _) _⟩
  · have e3 : limOk c r = !signB (wid r) := by rw [HL.out, h1, h2, h3, h4]; rfl
    have E3 := Lib.hid e3
    have T := Lib.hid (fun w => single_text r w hrw h3 h4)
    clear HL e3
    go_enter Try.func84, Try.ntmps84
    go_wp2_with fail
    refine (l1Finite_any _ _).mono ?_
    rintro e w' ⟨n1, rfl, rfl⟩
    rw [Hf.out, h1]
    go_wp2_with fail
    refine (T.out _).mono ?_
    rintro e w' ⟨s, rfl, hs, hb⟩
    have HB : Hid (Below w.heap.size w w') := (below_drewN (Below.refl _ _) _).trans hb
    clear hb
    go_wp2_with fail
    go_ret
    exact ⟨by rw [E3.out]; rfl, HB.out⟩

set_option maxRecDepth 100000 in
set_option maxHeartbeats 600000 in
theorem specLimit_any (A : Option Addr) (cp c r : Nat) (xs : List Nat) (w : World) (hcw : wfk .f32 c) (hrw : wfk .f32 r) (hrd : Rd w A (f32s xs)) (hm : xs.length ≤ 1048576) (hwf : ∀ i, i < xs.length → wfk .f32 (xs.getD i 0)) :
    Calls Try.prog 30 #[.slice A xs.length cp, .float .f32 c, .float .f32 r] w (LimitPost c r xs w) := by
  cases hok : limOk c r
  · have HOK := Lib.hid hok
    clear hok
    go_enter Try.func30, Try.ntmps30
    go_wp2_with fail
    refine (limits_any c r _ hcw hrw).mono ?_
    rintro e w' ⟨rfl, hb⟩
    rw [HOK.out]
    go_wp2_with fail
    go_ret2
    unfold LimitPost
    exact ⟨none, 0, [], by rw [HOK.out]; rfl, ⟨rfl, .inl ⟨rfl, rfl⟩⟩, by rw [HOK.out]; rfl, hb⟩
  have HOK := Lib.hid hok
  clear hok
  go_enter Try.func30, Try.ntmps30
  go_wp2_with fail
  refine (limits_any c r _ hcw hrw).mono ?_
  rintro e W1 ⟨rfl, hbW⟩
  rw [HOK.out]
  go_wp2_with fail
  have hb0 : Below w.heap.size w (W1.alloc (.cells #[] 25)) := hbW.alloc hbW.size _
  have hown0 : (W1.alloc (.cells #[] 25)).ownsRow w.heap.size 25 1 (.slice (some ⟨W1.heap.size, 0, none⟩) 0 0) 0 [] := by
    obtain ⟨h1, h2⟩ := owns_empty W1 25
    refine ⟨h1, ?_⟩
    rcases h2 with h2 | ⟨g, cap, cur, e1, e2, e3⟩
    · exact .inl h2
    · exact .inr ⟨g, cap, cur, e1, Nat.le_trans hbW.size e2, e3⟩
  have HW := Lib.hid hwf
  have H0 : Hid (limited xs c r [] 0) := ⟨rfl, fun i h => absurd h (Nat.not_lt_zero _)⟩
  clear hwf hbW
  go_loopw [8, 9, 21] (fun v ev i wr => ∃ (k E : Nat) (ys : List Nat), i = .int .i64 k ∧ k ≤ xs.length ∧ ev = .float .f32 E ∧ Hid (nrm .f32 E = nrm .f32 (envAt xs r k)) ∧ Hid (limited xs c r ys k) ∧ wr.ownsRow w.heap.size 25 1 v k (f32s ys) ∧ Below w.heap.size w wr) (fun _ _ i _ => xs.length - (intOf i).toNat)
  case atStart => exact ⟨0, 0, [], rfl, by omega, rfl, rfl, H0, hown0, hb0⟩
  case round =>
    clear hb0 hown0 H0
    obtain ⟨k, E, ys, rfl, hk, rfl, HE, Hl, hown, hb⟩ := hrel
    by_cases hlt : k < xs.length
    · have hrd' := hrd.below hb
      obtain ⟨b, off, rfl, hbk, hcell⟩ := hrd' (by simp; omega)
      have e1 := hcell k _ (f32s_at hlt)
      have hxk := HW.out k hlt
      obtain ⟨x, hx⟩ : ∃ x, xs.getD k 0 = x := ⟨_, rfl⟩
      rw [hx] at e1 hxk
      have Hx := Lib.hid hx
      have Hxk := Lib.hid hxk
      clear hcell hrd hrd' hx hxk
      go_wp2_with fail
      refine (spec_limitNext E x c r _ Hxk.out).mono ?_
      rintro e w' ⟨s, g, m, rfl, hs1, hg1, hs2, hg2, rfl⟩
      have hb2 := below_drewN hb m
      have hown2 : (wr.drewN m).ownsRow w.heap.size 25 1 u8 k (f32s ys) := hown
      have Hs1 := Lib.hid hs1
      have HE2 := Lib.hid (env_next HE.out Hx.out hg1)
      clear hb hown hs1 hg1 e1 hbk
      generalize wr.drewN m = W2 at *
      have hsz := hb2.size
      have hL2 : Hid (limited xs c r (ys ++ [s]) (k + 1)) := limited_snoc Hl.out (by rw [Hs1.out, Hx.out]; exact limS_congr HE.out) hs2
      go_wp2_with (at_builtin; refine wpList_app1 rfl (.tmp 34) (.tmp 36) 23 rfl w.heap.size 25 (.float .f32 0) 4 Try.underlying23 f32_info rfl u8 k (f32s ys) _ rfl rfl rfl hown2 hsz (by omega) (by omega) ?_; intro v' w' hown' hbel')
      have hb3 := hb2.trans hbel'
      have hown3 : w'.ownsRow w.heap.size 25 1 v' (k + 1) (f32s (ys ++ [s])) := by simpa [f32s] using hown'
      clear hbel' hown' hb2 hown2 hsz
      go_roundw
      case rel => exact ⟨k + 1, g, ys ++ [s], by go_num, by omega, rfl, HE2, hL2, hown3, hb3⟩
      case measure => simp [intOf]; omega
    · obtain rfl : k = xs.length := by omega
      go_wp2
      go_ret2
      obtain ⟨A', cap, hv, hl, hrd2⟩ := own_rd hown
      subst hv
      have hl' := Hl.out.1
      unfold LimitPost
      exact ⟨A', cap, ys, by rw [hl', HOK.out]; rfl, by rw [hl']; exact hown, by rw [HOK.out]; exact Hl.out, hb⟩
end Go.Proofs.Ytignncjmbcdpaaa

/-
Rows of the call's own: marked, held, kept.
-/
namespace Go.Proofs.Ytignncjmbcdpaaa
open Go Go.RowKit Ieee

theorem some_lt {W : World} {i : Nat} {o : Obj} (h : W.heap[i]? = some o) : i < W.heap.size := by
  rcases Nat.lt_or_ge i W.heap.size with h1 | h1
  · exact h1
  · rw [Array.getElem?_eq_none h1] at h; cases h
/-- A slice of single precision whose block lies from 'lo' on and below 'hi'. -/
def Own (w : World) (lo hi : Nat) (A : Option Addr) (c : Nat) (xs : List Nat) : Prop :=
  w.ownsRow lo 25 1 (.slice A xs.length c) xs.length (f32s xs) ∧ ∀ k, (Value.slice A xs.length c).ownBlock = some k → k < hi
theorem Own.keep {w w' : World} {lo hi : Nat} {A : Option Addr} {c : Nat} {xs : List Nat} (h : Own w lo hi A c xs) (hk : ∀ j, lo ≤ j → j < hi → w'.heap[j]? = w.heap[j]?) : Own w' lo hi A c xs := by
  obtain ⟨⟨h1, h2⟩, h3⟩ := h
  refine ⟨⟨h1, ?_⟩, h3⟩
  rcases h2 with h2 | ⟨g, cap, cur, e1, e2, e3, e4⟩
  · exact .inl h2
  · refine .inr ⟨g, cap, cur, e1, e2, (hk g e2 (h3 g (by rw [e1]; rfl))).trans e3, e4⟩
theorem Own.below {w w' : World} {lo hi B : Nat} {A : Option Addr} {c : Nat} {xs : List Nat} (h : Own w lo hi A c xs) (hb : Below B w w') (hB : hi ≤ B) : Own w' lo hi A c xs :=
  h.keep fun j _ hj => hb.block j (by omega)
theorem Own.drewN {w : World} {lo hi : Nat} {A : Option Addr} {c : Nat} {xs : List Nat} (h : Own w lo hi A c xs) (n : Nat) : Own (w.drewN n) lo hi A c xs := h
theorem Own.of {w : World} {lo : Nat} {A : Option Addr} {c n : Nat} {xs : List Nat} (h : w.ownsRow lo 25 1 (.slice A n c) n (f32s xs)) (hn : xs.length = n) : Own w lo w.heap.size A c xs := by
  subst hn
  refine ⟨h, fun k hk => ?_⟩
  rcases h.2 with ⟨e, _⟩ | ⟨g, cap, cur, e1, e2, e3, e4⟩
  · rw [e] at hk; cases hk
  · rw [e1] at hk
    have : g = k := by injection hk
    subst this
    exact some_lt e3
theorem Own.rd {w : World} {lo hi : Nat} {A : Option Addr} {c : Nat} {xs : List Nat} (h : Own w lo hi A c xs) : Rd w A (f32s xs) := by
  obtain ⟨A', cap, e, _, hr⟩ := own_rd h.1
  injection e with e1 e2 e3
  subst e1
  exact hr
theorem MadeRow.own {w w' : World} {xs : List Nat} (h : MadeRow w w' 25 (f32s xs)) (hm : xs.length ≤ 1048576) : Own w' w.heap.size w'.heap.size (some ⟨w.heap.size, 0, none⟩) xs.length xs := by
  obtain ⟨cs, rfl, hc⟩ := h
  have hs : cs.size = xs.length := by rw [← Array.length_toList, hc]; simp
  refine Own.of (n := xs.length) ⟨by simp, .inr ⟨w.heap.size, xs.length, cs, rfl, Nat.le_refl _, heap_alloc_new w _, Nat.le_refl _, ?_, by rw [hs]; simp, ?_⟩⟩ rfl
  · simp only [maxLen]; omega
  · rw [hc, List.take_of_length_le (by simp)]
/-- The marks: k, k + 1, ... -/
def marks (k n : Nat) : List Nat := (List.range n).map fun (j : Nat) => floatOfInt .f32 ((k : Int) + (j : Int))
theorem marks_len (k n : Nat) : (marks k n).length = n := by simp [marks]
theorem marks_at {k n j : Nat} (h : j < n) : (marks k n).getD j 0 = floatOfInt .f32 ((k : Int) + (j : Int)) := by simp [marks, List.getD, h]
theorem mark_fin {k : Nat} (h : k ≤ 2000000) (j : Nat) (hj : j ≤ 2000000) : feq .f32 (floatOfInt .f32 ((k : Int) + (j : Int))) (floatOfInt .f32 ((k : Int) + (j : Int))) = true := by
  rw [feq_self, fin_num (int_exact .f32 _ (by have : FloatKind.f32.format.binade = 8388608 := by decide +kernel
                                              rw [this]; omega)).1]
  rfl

set_option maxHeartbeats 400000 in
theorem mark_gen (lo hi c : Nat) (A : Option Addr) (xs : List Nat) (k0 : Nat) (w : World) (h : Own w lo hi A c xs) (hm : xs.length ≤ 1048576) (hk0 : k0 ≤ 2000000) :
    Calls Try.prog 33 #[.slice A xs.length c, .int .i64 k0] w fun e w' => e = .returned (.int .i64 ((k0 : Int) + (xs.length : Int))) ∧ Own w' lo hi A c (marks k0 xs.length) ∧
      w'.os = w.os ∧ w'.tape = w.tape ∧ w'.output = w.output ∧ w'.heap.size = w.heap.size ∧ ∀ j, (j < lo ∨ hi ≤ j) → w'.heap[j]? = w.heap[j]? := by
  obtain ⟨⟨h1, h2⟩, h3⟩ := h
  rcases h2 with ⟨e, h0⟩ | ⟨g, cap, cur, e1, e2, e3, e4, e5, e6, e7⟩
  · injection e with q1 q2 q3
    subst q1 q3
    have hx : xs = [] := List.eq_nil_of_length_eq_zero h0
    subst hx
    go_enter Try.func33, Try.ntmps33
    go_wp2_with fail
    go_loopw [1, 5] (fun k i wr => k = .int .i64 k0 ∧ i = .int .i64 0 ∧ wr = w) (fun _ _ _ => 0)
    case atStart => exact ⟨rfl, rfl, rfl⟩
    case round =>
      obtain ⟨rfl, rfl, rfl⟩ := hrel
      go_wp2_with fail
      go_ret
      exact ⟨by simp, ⟨⟨rfl, .inl ⟨rfl, rfl⟩⟩, fun k hk => by cases hk⟩, rfl, rfl, rfl, rfl, fun _ _ => rfl⟩
  · injection e1 with q1 q2 q3
    subst q1 q3
    have hgl := some_lt e3
    have hgh : g < hi := h3 g rfl
    have hrow : w.rowIs g 25 c (fun i => if i < 0 then .float .f32 (floatOfInt .f32 ((k0 : Int) + (i : Int))) else cur.getD i undef) :=
      ⟨cur, e3, by simpa using e6, fun i hi' => by simp [Array.getElem?_eq_getElem (show i < cur.size by simp at e6; omega)]⟩
    clear e3 e6 e7 h1 h3
    go_enter Try.func33, Try.ntmps33
    go_wp2_with fail
    go_loopw [1, 5] (fun k i wr => ∃ j : Nat, k = .int .i64 ((k0 : Int) + (j : Int)) ∧ i = .int .i64 (j : Int) ∧ j ≤ xs.length ∧ wr.rowIs g 25 c (fun i => if i < j then .float .f32 (floatOfInt .f32 ((k0 : Int) + (i : Int))) else cur.getD i undef) ∧
      Hid (wr.os = w.os ∧ wr.tape = w.tape ∧ wr.output = w.output ∧ wr.heap.size = w.heap.size ∧ ∀ j, j ≠ g → wr.heap[j]? = w.heap[j]?)) (fun _ i _ => xs.length - (intOf i).toNat)
    case atStart => exact ⟨0, by simp, rfl, by omega, hrow, rfl, rfl, rfl, rfl, fun _ _ => rfl⟩
    case round =>
      clear hrow
      obtain ⟨j, rfl, rfl, hj, hrow, hw⟩ := hrel
      by_cases hlt : j < xs.length
      · have c1 := hrow.cell (i := j) (by omega)
        have c2 := hrow.frozen j
        have Hset := Lib.hid (hrow.set j (.float .f32 (floatOfInt .f32 ((k0 : Int) + (j : Int)))))
        clear hrow
        go_wp2_with fail
        go_roundw
        case rel =>
          refine ⟨j + 1, by go_num, by go_num, by omega, Hset.out.congr fun i hi' => ?_, ?_⟩
          · show (if i = j then _ else _) = _
            by_cases e : i = j
            · subst e; rw [if_pos rfl, if_pos (by omega)]
            · rw [if_neg e]
              by_cases e' : i < j
              · rw [if_pos e', if_pos (by omega)]
              · rw [if_neg e', if_neg (by omega)]
          · obtain ⟨w1, w2, w3, w4, w5⟩ := hw.out
            exact ⟨w1, w2, w3, by rw [← w4]; simp, fun i hi' => (Below.heap_setCell _ _ _ _ hi').trans (w5 i hi')⟩
        case measure => simp [intOf]; omega
      · obtain rfl : j = xs.length := by omega
        go_wp2_with fail
        go_ret
        obtain ⟨w1, w2, w3, w4, w5⟩ := hw.out
        obtain ⟨cs, k1, k2, k3⟩ := hrow
        refine ⟨rfl, ⟨⟨by simp [marks_len], .inr ⟨g, c, cs, by rw [marks_len], e2, k1, by rw [marks_len]; exact e4, e5, by rw [k2]; simp, ?_⟩⟩, fun k hk => by injection hk with hk; subst hk; exact hgh⟩, w1, w2, w3, w4, fun i hi' => w5 i (by omega)⟩
        apply List.ext_getElem?
        intro i
        rw [marks_len, Nat.mul_one, List.getElem?_take]
        by_cases hi' : i < xs.length
        · rw [if_pos hi', Array.getElem?_toList, k3 i (by omega)]; show some (if i < xs.length then _ else _) = _; rw [if_pos hi', f32s_at (by rw [marks_len]; exact hi'), marks_at hi']
        · rw [if_neg hi', List.getElem?_eq_none (by simp [marks_len]; omega)]

theorem mark_any (lo hi c : Nat) (A : Option Addr) (xs : List Nat) (k0 : Nat) (w : World) (h : Own w lo hi A c xs) (hm : xs.length ≤ 1048576) (hk0 : k0 ≤ 10) :
    Calls Try.prog 33 #[.slice A xs.length c, .int .i64 k0] w fun e w' => e = .returned (.int .i64 ((k0 : Int) + (xs.length : Int))) ∧ Own w' lo hi A c (marks k0 xs.length) ∧
      w'.os = w.os ∧ w'.tape = w.tape ∧ w'.output = w.output ∧ w'.heap.size = w.heap.size ∧ ∀ j, (j < lo ∨ hi ≤ j) → w'.heap[j]? = w.heap[j]? := mark_gen lo hi c A xs k0 w h hm (by omega)

set_option maxHeartbeats 400000 in
theorem held_any (A : Option Addr) (c n k0 : Nat) (w : World) (hr : Rd w A (f32s (marks k0 n))) (hm : n ≤ 1048576) (hk0 : k0 ≤ 10) :
    Calls Try.prog 34 #[.slice A n c, .int .i64 k0] w fun e w' => e = .returned (.int .i64 ((k0 : Int) + (n : Int))) ∧ w = w' := by
  go_enter Try.func34, Try.ntmps34
  go_wp2_with fail
  go_loopw [1, 5] (fun k i wr => ∃ j : Nat, k = .int .i64 ((k0 : Int) + (j : Int)) ∧ i = .int .i64 (j : Int) ∧ j ≤ n ∧ wr = w) (fun _ i _ => n - (intOf i).toNat)
  case atStart => exact ⟨0, by simp, rfl, by omega, rfl⟩
  case round =>
    obtain ⟨j, rfl, rfl, hj, rfl⟩ := hrel
    by_cases hlt : j < n
    · obtain ⟨b, off, rfl, hb, hc⟩ := hr (by simp [marks_len]; omega)
      have e1 := hc j _ (f32s_at (by rw [marks_len]; exact hlt))
      rw [marks_at hlt] at e1
      have hf := mark_fin (k := k0) (by omega) j (by omega)
      clear hc
      go_wp2_with fail
      go_roundw
      case rel => exact ⟨j + 1, by go_num, by go_num, by omega, by first | rfl | trivial⟩
      case measure => simp [intOf]; omega
    · obtain rfl : j = n := by omega
      go_wp2_with fail
      go_ret
      exact ⟨rfl, rfl⟩
end Go.Proofs.Ytignncjmbcdpaaa

/-
Arguments opened: slices of floats, floats.
-/
namespace Go.Proofs.Ytignncjmbcdpaaa
open Go Go.RowKit Go.ChangeShapes Go.WideShapes

theorem own : ownKnob Try.prog.godebug = none := by kernel_rfl
theorem laidOut : laidOutB Try.prog = true := by kernel_rfl

section
variable {H : Type} {enc : TypeId × Value → H} {P : Program} {w : World} {base fuel : Nat} {spare : Nat → Bool} {held : Bool} {t e : TypeId} {cs : List Value} {x : DataW H × List MemPlace}

theorem trod_float {k : FloatKind} (ht : P.underlying t = some (.float k)) (h : DataW.trod enc P w base spare held fuel t cs = some x) :
    ∃ b, cs = [.float k b] ∧ x = (.lit (.float k b), []) ∧ (Lit.float k b).wf = true := by
  cases fuel with
  | zero => simp [DataW.trod] at h
  | succ n =>
    unfold DataW.trod at h
    rw [ht] at h
    split at h <;> simp_all

theorem addr_add_spot (a : Addr) (hs : a.spot = none) (i : Nat) : a.add i = ⟨a.block, a.off + i, none⟩ := by
  obtain ⟨b, o, s⟩ := a
  subst hs
  unfold Addr.add
  by_cases h : i = 0
  · subst h; simp
  · simp [h]

theorem cell_lt {w : World} {p : Addr} {v : Value} (h : w.cell? p = some v) : p.block < w.heap.size := by
  unfold World.cell? at h
  rcases Nat.lt_or_ge p.block w.heap.size with h1 | h1
  · exact h1
  · rw [Array.getElem?_eq_none h1] at h; cases h

/-- A slice of floats that came in. -/
theorem open_floats {k : FloatKind} {v : Value} {d : DataW H} {ps : List MemPlace} {A : Option Addr} {len cap : Nat} (hv : v = .slice A len cap) (ht : P.underlying t = some (.slice e)) (he : P.underlying e = some (.float k)) (hc : P.cellsOf e = 1)
    (h : DataW.Trod enc P w base spare held t v d ps) : ∃ bs : List Nat, bs.length = len ∧ len ≤ maxLen ∧ Rd w A (bs.map (.float k)) ∧ ∀ i, i < len → wfk k (bs.getD i 0) := by
  obtain ⟨fuel, hf⟩ := h
  subst hv
  rcases Deep.open_slice1 ht hc hf with ⟨hcs, _⟩ | ⟨a, l, c, m, n, V, D, Pl, hcs, hb, hl, hm, hmm, _, hx⟩
  · simp [Value.cells] at hcs
    obtain ⟨rfl, rfl, rfl⟩ := hcs
    exact ⟨[], rfl, by simp, fun h => by simp at h, fun i hi => absurd hi (Nat.not_lt_zero _)⟩
  · simp [Value.cells] at hcs
    obtain ⟨rfl, rfl, rfl⟩ := hcs
    have hlm : len ≤ m := by rw [hmm]; split <;> omega
    obtain ⟨F, hF⟩ := Deep.choose_lt (n := len) (p := fun i b => V i = .float k b ∧ (Lit.float k b).wf = true) (fun i hi => by
      obtain ⟨_, h2⟩ := hx i (by omega)
      obtain ⟨b, h3, _, h4⟩ := trod_float he h2
      exact ⟨b, by simpa using h3, h4⟩)
    refine ⟨(List.range len).map F, by simp, by omega, fun h0 => ?_, fun i hi => ?_⟩
    · have h0 : 0 < len := by simpa using h0
      have hs : a.spot = none := by
        have := World.cell?_spot (hx 0 (by omega)).1
        simpa [Addr.add] using this
      have hcell := (hx 0 (by omega)).1
      rw [addr_add_spot a hs] at hcell
      refine ⟨a.block, a.off, ?_, cell_lt (p := ⟨a.block, a.off + 0, none⟩) hcell, fun j u hu => ?_⟩
      · obtain ⟨b, o, s⟩ := a
        subst hs; rfl
      · have hj : j < len := by
          rcases Nat.lt_or_ge j len with h1 | h1
          · exact h1
          · rw [List.getElem?_eq_none (by simpa using h1)] at hu; cases hu
        have h1 := (hx j (by omega)).1
        rw [addr_add_spot a hs, (hF j hj).1] at h1
        rw [h1]
        simpa [List.getElem?_range hj] using hu
    · have := (hF i hi).2
      have e1 : ((List.range len).map F).getD i 0 = F i := by simp [List.getD, hi]
      rw [e1]
      exact wfk_lit this

/-- A slice of bytes that came in. -/
theorem open_bytes {v : Value} {d : DataW H} {ps : List MemPlace} {A : Option Addr} {len cap : Nat} (hv : v = .slice A len cap) (ht : P.underlying t = some (.slice e)) (he : P.underlying e = some (.int .u8)) (hc : P.cellsOf e = 1)
    (h : DataW.Trod enc P w base spare held t v d ps) : ∃ bs : List Int, bs.length = len ∧ len ≤ maxLen ∧ Rd w A (bs.map (.int .u8)) ∧ ∀ i, i < len → 0 ≤ bs.getD i 0 ∧ bs.getD i 0 ≤ 255 := by
  obtain ⟨fuel, hf⟩ := h
  subst hv
  rcases Deep.open_slice1 ht hc hf with ⟨hcs, _⟩ | ⟨a, l, c, m, n, V, D, Pl, hcs, hb, hl, hm, hmm, _, hx⟩
  · simp [Value.cells] at hcs
    obtain ⟨rfl, rfl, rfl⟩ := hcs
    exact ⟨[], rfl, by simp, fun h => by simp at h, fun i hi => absurd hi (Nat.not_lt_zero _)⟩
  · simp [Value.cells] at hcs
    obtain ⟨rfl, rfl, rfl⟩ := hcs
    have hlm : len ≤ m := by rw [hmm]; split <;> omega
    obtain ⟨F, hF⟩ := Deep.choose_lt (n := len) (p := fun i b => V i = .int .u8 b ∧ (Lit.int .u8 b).wf = true) (fun i hi => by
      obtain ⟨_, h2⟩ := hx i (by omega)
      obtain ⟨b, h3, _, h4⟩ := DataW.trod_int he h2
      exact ⟨b, by simpa using h3, h4⟩)
    refine ⟨(List.range len).map F, by simp, by omega, fun h0 => ?_, fun i hi => ?_⟩
    · have h0 : 0 < len := by simpa using h0
      have hs : a.spot = none := by
        have := World.cell?_spot (hx 0 (by omega)).1
        simpa [Addr.add] using this
      have hcell := (hx 0 (by omega)).1
      rw [addr_add_spot a hs] at hcell
      refine ⟨a.block, a.off, ?_, cell_lt (p := ⟨a.block, a.off + 0, none⟩) hcell, fun j u hu => ?_⟩
      · obtain ⟨b, o, s⟩ := a
        subst hs; rfl
      · have hj : j < len := by
          rcases Nat.lt_or_ge j len with h1 | h1
          · exact h1
          · rw [List.getElem?_eq_none (by simpa using h1)] at hu; cases hu
        have h1 := (hx j (by omega)).1
        rw [addr_add_spot a hs, (hF j hj).1] at h1
        rw [h1]
        simpa [List.getElem?_range hj] using hu
    · have h1 := (hF i hi).2
      have e1 : ((List.range len).map F).getD i 0 = F i := by simp [List.getD, hi]
      rw [e1]
      simpa [Lit.wf, IntKind.min, IntKind.max, IntKind.signed, IntKind.bits] using h1
end
end Go.Proofs.Ytignncjmbcdpaaa

/-
A slice of slices of single precision that came in.
-/
namespace Go.Proofs.Ytignncjmbcdpaaa
open Go Go.RowKit Ieee

/-- A row: where it lies, its capacity, its words. -/
abbrev Row := Option Addr × Nat × List Nat
def rowV (r : Row) : Value := .slice r.1 r.2.2.length r.2.1
def rowAt (rs : List Row) (i : Nat) : Row := rs.getD i (none, 0, [])
def RdSS (w : World) (A : Option Addr) (rs : List Row) : Prop := Rd w A (rs.map rowV) ∧ ∀ i, i < rs.length → Rd w (rowAt rs i).1 (f32s (rowAt rs i).2.2)
theorem RdSS.below {w w' : World} {A : Option Addr} {rs : List Row} (h : RdSS w A rs) (hb : Below w.heap.size w w') : RdSS w' A rs := ⟨h.1.below hb, fun i hi => (h.2 i hi).below hb⟩
theorem rowV_at {rs : List Row} {k : Nat} (h : k < rs.length) : (rs.map rowV)[k]? = some (rowV (rowAt rs k)) := by
  simp [rowAt, List.getD, List.getElem?_eq_getElem h]

section
variable {H : Type} {enc : TypeId × Value → H} {P : Program} {w : World} {base : Nat} {spare : Nat → Bool} {held : Bool} {t e q : TypeId}
theorem open_rows {v : Value} {d : DataW H} {ps : List MemPlace} {A : Option Addr} {len cap : Nat} (hv : v = .slice A len cap) (ht : P.underlying t = some (.slice e)) (he : P.underlying e = some (.slice q)) (hq : P.underlying q = some (.float .f32))
    (ce : P.cellsOf e = 1) (cq : P.cellsOf q = 1)
    (h : DataW.Trod enc P w base spare held t v d ps) : ∃ rs : List Row, rs.length = len ∧ len ≤ maxLen ∧ RdSS w A rs ∧ ∀ i, i < len → (rowAt rs i).2.2.length ≤ maxLen ∧ ∀ j, j < (rowAt rs i).2.2.length → wfk .f32 ((rowAt rs i).2.2.getD j 0) := by
  obtain ⟨fuel, hf⟩ := h
  subst hv
  rcases Deep.open_slice1 ht ce hf with ⟨hcs, _⟩ | ⟨a, l, c, m, n, V, D, Pl, hcs, hb, hl, hm, hmm, _, hx⟩
  · simp [Value.cells] at hcs
    obtain ⟨rfl, rfl, rfl⟩ := hcs
    exact ⟨[], rfl, by simp, ⟨fun h => by simp at h, fun i hi => by simp at hi⟩, fun i hi => absurd hi (Nat.not_lt_zero _)⟩
  · simp [Value.cells] at hcs
    obtain ⟨rfl, rfl, rfl⟩ := hcs
    have hlm : len ≤ m := by rw [hmm]; split <;> omega
    obtain ⟨F, hF⟩ := Deep.choose_lt (n := len) (p := fun i (r : Row) => V i = rowV r ∧ Rd w r.1 (f32s r.2.2) ∧ r.2.2.length ≤ maxLen ∧ ∀ j, j < r.2.2.length → wfk .f32 (r.2.2.getD j 0)) (fun i hi => by
      obtain ⟨_, h2⟩ := hx i (by omega)
      obtain ⟨A', l', c', hV⟩ : ∃ A' l' c', V i = .slice A' l' c' := by
        rcases Deep.open_slice1 he cq h2 with ⟨h3, _⟩ | ⟨a', l', c', _, _, _, _, _, h3, _⟩
        · exact ⟨none, 0, 0, by simpa using h3⟩
        · exact ⟨some a', l', c', by simpa using h3⟩
      have hT : DataW.Trod enc P w base spare held e (.slice A' l' c') (D i) (Pl i) := ⟨n, by rw [hV] at h2; simpa [Value.cells] using h2⟩
      obtain ⟨bs, hb1, hb2, hb3, hb4⟩ := open_floats rfl he hq cq hT
      exact ⟨(A', c', bs), by rw [hV]; simp [rowV, hb1], hb3, by simpa [hb1] using hb2, fun j hj => hb4 j (by simpa [hb1] using hj)⟩)
    have hat : ∀ i, i < len → rowAt ((List.range len).map F) i = F i := fun i hi => by simp [rowAt, List.getD, hi]
    refine ⟨(List.range len).map F, by simp, by omega, ⟨fun h0 => ?_, fun i hi => ?_⟩, fun i hi => ?_⟩
    · have h0 : 0 < len := by simpa using h0
      have hs : a.spot = none := by
        have := World.cell?_spot (hx 0 (by omega)).1
        simpa [Addr.add] using this
      have hcell := (hx 0 (by omega)).1
      rw [addr_add_spot a hs] at hcell
      refine ⟨a.block, a.off, ?_, cell_lt (p := ⟨a.block, a.off + 0, none⟩) hcell, fun j u hu => ?_⟩
      · obtain ⟨b, o, s⟩ := a
        subst hs; rfl
      · have hj : j < len := by
          rcases Nat.lt_or_ge j len with h1 | h1
          · exact h1
          · rw [List.getElem?_eq_none (by simpa using h1)] at hu; cases hu
        have h1 := (hx j (by omega)).1
        rw [addr_add_spot a hs, (hF j hj).1] at h1
        rw [h1]
        simpa [List.getElem?_range hj] using hu
    · have hi : i < len := by simpa using hi
      rw [hat i hi]; exact (hF i hi).2.1
    · rw [hat i hi]; exact (hF i hi).2.2
end
end Go.Proofs.Ytignncjmbcdpaaa

/-
Slices of slices of single precision: laws.szFloat32SS, toFloat32SS, eqFloat32SS, markFloat32SS.
-/
namespace Go.Proofs.Ytignncjmbcdpaaa
open Go Go.RowKit Ieee

theorem setCell_size (W : World) (a : Addr) (v : Value) : (W.setCell a v).heap.size = W.heap.size := by simp
/-- How many words the first rows have. -/
def totL (rs : List Row) : Nat → Nat
  | 0 => 0
  | k + 1 => totL rs k + (rowAt rs k).2.2.length
theorem totL_mono (rs : List Row) {j k : Nat} (h : j ≤ k) : totL rs j ≤ totL rs k := by
  induction k with
  | zero => obtain rfl : j = 0 := by omega
            exact Nat.le_refl _
  | succ k ih =>
    rcases Nat.lt_or_ge j (k + 1) with h1 | h1
    · have := ih (by omega); show _ ≤ totL rs k + _; omega
    · obtain rfl : j = k + 1 := by omega
      exact Nat.le_refl _
theorem totL_row (rs : List Row) {i n : Nat} (h : i < n) : (rowAt rs i).2.2.length ≤ totL rs n := by
  have := totL_mono rs (show i + 1 ≤ n by omega)
  have e : totL rs (i + 1) = totL rs i + (rowAt rs i).2.2.length := rfl
  omega

set_option maxHeartbeats 400000 in
theorem sz1_any (A : Option Addr) (c n : Nat) (left : Int) (w : World) (hn : n ≤ maxLen) (h0 : 0 ≤ left) (h1 : left ≤ 1048576) :
    Calls Try.prog 93 #[.slice A n c, .int .i64 left] w fun e w' => e = .returned (.int .i64 (if left < n then -1 else left - n)) ∧ w = w' := by
  simp only [maxLen] at hn
  by_cases h : left < n
  · rw [if_pos h]
    go_enter Try.func93, Try.ntmps93
    go_wp2
    go_ret
    exact ⟨rfl, rfl⟩
  · rw [if_neg h]
    go_enter Try.func93, Try.ntmps93
    go_wp2
    go_ret
    exact ⟨rfl, rfl⟩

set_option maxHeartbeats 400000 in
theorem szSS_any (A : Option Addr) (c : Nat) (rs : List Row) (w : World) (hr : RdSS w A rs) (hn : rs.length ≤ maxLen) (hl : ∀ i, i < rs.length → (rowAt rs i).2.2.length ≤ maxLen) :
    Calls Try.prog 38 #[.slice A rs.length c, .int .i64 1048576] w fun e w' => ∃ L : Int, e = .returned (.int .i64 L) ∧ (0 ≤ L → rs.length + totL rs rs.length ≤ 1048576) ∧ w = w' := by
  have hn' := hn
  simp only [maxLen] at hn'
  have Hl := Lib.hid hl
  clear hl
  by_cases h0 : (1048576 : Int) < rs.length
  · go_enter Try.func38, Try.ntmps38
    go_wp2
    go_ret
    exact ⟨-1, rfl, by omega, rfl⟩
  · go_enter Try.func38, Try.ntmps38
    go_wp2_with fail
    go_loopw [1, 5] (fun l i wr => ∃ k : Nat, i = .int .i64 (k : Int) ∧ l = .int .i64 (1048576 - (rs.length : Int) - (totL rs k : Int)) ∧ k ≤ rs.length ∧ Hid (0 ≤ 1048576 - (rs.length : Int) - (totL rs k : Int)) ∧ wr = w) (fun _ i _ => rs.length - (intOf i).toNat)
    case atStart => exact ⟨0, rfl, by simp [totL], by omega, by simp only [totL]; show 0 ≤ 1048576 - (rs.length : Int) - ((0 : Nat) : Int); omega, rfl⟩
    case round =>
      obtain ⟨k, rfl, rfl, hk, hL, rfl⟩ := hrel
      by_cases hlt : k < rs.length
      · obtain ⟨b, off, rfl, hb, hc⟩ := hr.1 (by simp; omega)
        have e1 := hc k _ (rowV_at hlt)
        have hlen := Hl.out k hlt
        have H := hL.out
        have Ht : Hid (totL rs (k + 1) = totL rs k + (rowAt rs k).2.2.length) := rfl
        clear hc
        unfold rowV at e1
        generalize (rowAt rs k).2.2.length = m at *
        generalize (rowAt rs k).1 = A' at *
        generalize (rowAt rs k).2.1 = c' at *
        generalize totL rs k = T at *
        go_wp2_with fail
        refine (sz1_any A' c' m _ _ hlen (by omega) (by omega)).mono ?_
        rintro e w' ⟨rfl, rfl⟩
        by_cases hd : 1048576 - (rs.length : Int) - (T : Int) < m
        · rw [if_pos hd]
          go_wp2_with fail
          go_ret
          exact ⟨-1, rfl, by omega, rfl⟩
        · rw [if_neg hd]
          go_wp2_with fail
          go_roundw
          case rel => exact ⟨k + 1, by go_num, by rw [Ht.out]; simp; omega, by omega, by rw [Ht.out]; show 0 ≤ 1048576 - (rs.length : Int) - ((T + m : Nat) : Int); omega, trivial⟩
          case measure => simp [intOf]; omega
      · obtain rfl : k = rs.length := by omega
        have H := hL.out
        go_wp2_with fail
        go_ret
        exact ⟨_, rfl, by omega, rfl⟩

theorem row_info : (Try.prog.info? 23).map (fun i => (i.zero, i.size, i.bytes)) = some (some (.slice none 0 0), 1, 24) := by kernel_rfl
/-- The rows of a copy whose outer block is b. -/
def copyRows (b : Nat) (rs : List Row) : List Row := (List.range rs.length).map fun i => (some ⟨b + 1 + i, 0, none⟩, (rowAt rs i).2.2.length, (rowAt rs i).2.2)
theorem copyRows_len (b : Nat) (rs : List Row) : (copyRows b rs).length = rs.length := by simp [copyRows]
theorem copyRows_at {b : Nat} {rs : List Row} {i : Nat} (h : i < rs.length) : rowAt (copyRows b rs) i = (some ⟨b + 1 + i, 0, none⟩, (rowAt rs i).2.2.length, (rowAt rs i).2.2) := by
  show (copyRows b rs).getD i (none, 0, []) = _
  simp [copyRows, List.getD, h]
/-- A copy: the outer block b, then a block a row. -/
structure CopySS (w : World) (b : Nat) (rs : List Row) : Prop where
  top : w.rowIs b 23 rs.length (fun i => rowV (rowAt (copyRows b rs) i))
  rows : ∀ i, i < rs.length → Own w (b + 1 + i) (b + 2 + i) (some ⟨b + 1 + i, 0, none⟩) (rowAt rs i).2.2.length (rowAt rs i).2.2
theorem CopySS.rd {w : World} {b : Nat} {rs : List Row} (h : CopySS w b rs) : RdSS w (some ⟨b, 0, none⟩) (copyRows b rs) := by
  refine ⟨fun h0 => ⟨b, 0, rfl, h.top.lt, fun k u hu => ?_⟩, fun i hi => ?_⟩
  · have hk : k < rs.length := by
      rcases Nat.lt_or_ge k rs.length with h1 | h1
      · exact h1
      · rw [List.getElem?_eq_none (by simpa [copyRows] using h1)] at hu; cases hu
    rw [rowV_at (by rw [copyRows_len]; exact hk)] at hu
    rw [Nat.zero_add, h.top.cell hk]; exact hu
  · rw [copyRows_len] at hi
    rw [copyRows_at hi]
    exact (h.rows i hi).rd
theorem CopySS.keep {w w' : World} {b : Nat} {rs : List Row} (h : CopySS w b rs) (hk : ∀ j, b ≤ j → j < b + 1 + rs.length → w'.heap[j]? = w.heap[j]?) : CopySS w' b rs :=
  ⟨h.top.of_block (hk b (Nat.le_refl _) (by omega)), fun i hi => (h.rows i hi).keep fun j h1 h2 => hk j (by omega) (by omega)⟩
theorem CopySS.below {w w' : World} {b B : Nat} {rs : List Row} (h : CopySS w b rs) (hb : Below B w w') (hB : b + 1 + rs.length ≤ B) : CopySS w' b rs :=
  h.keep fun j _ hj => hb.block j (by omega)

set_option maxRecDepth 100000 in
set_option maxHeartbeats 400000 in
theorem toFF_any (A : Option Addr) (c : Nat) (rs : List Row) (w : World) (hr : RdSS w A rs) (hn : rs.length ≤ 1048576) (hl : ∀ i, i < rs.length → (rowAt rs i).2.2.length ≤ 1048576) :
    Calls Try.prog 40 #[.slice A rs.length c] w fun e w' => e = .returned (.slice (some ⟨w.heap.size, 0, none⟩) rs.length rs.length) ∧ CopySS w' w.heap.size rs ∧ Below w.heap.size w w' ∧ w'.heap.size = w.heap.size + 1 + rs.length := by
  have hmk := fun W => run_make_row' (P := Try.prog) 56 23 (.slice none 0 0) 24 Try.underlying56 row_info rfl .i64 .i64 rs.length (by omega) (by omega) W
  have Hl := Lib.hid hl
  clear hl
  go_enter Try.func40, Try.ntmps40
  go_wp2_with fail
  have T0 : (w.alloc (.cells (madeCells #[.slice none 0 0] rs.length) 23)).rowIs w.heap.size 23 rs.length (fun i => if i < 0 then rowV (rowAt (copyRows w.heap.size rs) i) else .slice none 0 0) :=
    (World.rowIs_made w (.slice none 0 0) rs.length 23).congr fun i _ => by rw [if_neg (by omega)]
  have B0 : Hid (Below w.heap.size w (w.alloc (.cells (madeCells #[.slice none 0 0] rs.length) 23))) := (Below.refl w.heap.size w).alloc (Nat.le_refl _) _
  have Z0 : Hid ((w.alloc (.cells (madeCells #[.slice none 0 0] rs.length) 23)).heap.size = w.heap.size + 1 + 0) := by show (w.alloc _).heap.size = _; simp
  generalize w.alloc (.cells (madeCells #[.slice none 0 0] rs.length) 23) = W0 at *
  go_loopw [4] (fun i wr => ∃ k : Nat, i = .int .i64 (k : Int) ∧ k ≤ rs.length ∧ wr.rowIs w.heap.size 23 rs.length (fun i => if i < k then rowV (rowAt (copyRows w.heap.size rs) i) else .slice none 0 0) ∧
    Hid (∀ i, i < k → Own wr (w.heap.size + 1 + i) (w.heap.size + 2 + i) (some ⟨w.heap.size + 1 + i, 0, none⟩) (rowAt rs i).2.2.length (rowAt rs i).2.2) ∧ Hid (Below w.heap.size w wr) ∧ Hid (wr.heap.size = w.heap.size + 1 + k)) (fun i _ => rs.length - (intOf i).toNat)
  case atStart => exact ⟨0, rfl, by omega, T0, fun i hi => absurd hi (Nat.not_lt_zero _), B0, Z0⟩
  case round =>
    clear T0 B0 Z0
    obtain ⟨k, rfl, hk, hT, hO, hB, hZ⟩ := hrel
    by_cases hlt : k < rs.length
    · have hr' := Lib.hid (hr.below hB.out)
      obtain ⟨b, off, rfl, hb, hc⟩ := hr'.out.1 (by simp; omega)
      have e1 := hc k _ (rowV_at hlt)
      have hrow := Lib.hid (hr'.out.2 k hlt)
      have hlen := Hl.out k hlt
      have hcp := Lib.hid (copyRows_at (b := w.heap.size) hlt)
      clear hc hr'
      unfold rowV at e1
      go_wp2_with fail
      refine (toF32_any _ _ _ _ hrow.out hlen).mono ?_
      rintro e W' ⟨rfl, hm⟩
      have T1 : W'.rowIs w.heap.size 23 rs.length (fun i => if i < k then rowV (rowAt (copyRows w.heap.size rs) i) else .slice none 0 0) :=
        hT.of_block (hm.below.block _ (by have := hZ.out; omega))
      have O1 : Hid (∀ i, i < k → Own W' (w.heap.size + 1 + i) (w.heap.size + 2 + i) (some ⟨w.heap.size + 1 + i, 0, none⟩) (rowAt rs i).2.2.length (rowAt rs i).2.2) :=
        fun i hi => (hO.out i hi).below hm.below (by have := hZ.out; omega)
      have O2 : Hid (Own W' (w.heap.size + 1 + k) (w.heap.size + 2 + k) (some ⟨w.heap.size + 1 + k, 0, none⟩) (rowAt rs k).2.2.length (rowAt rs k).2.2) := by
        have := hm.own hlen
        rw [hm.size, hZ.out] at this
        rw [show w.heap.size + 2 + k = w.heap.size + 1 + k + 1 by omega]; exact this
      have B1 : Hid (Below w.heap.size w W') := hB.out.trans (hm.below.mono (by have := hZ.out; omega))
      have Z1 : Hid (W'.heap.size = w.heap.size + 1 + (k + 1)) := by show W'.heap.size = _; rw [hm.size, hZ.out]; omega
      have hz := hZ.out
      rw [hz]
      have c1 := T1.cell hlt
      have c2 := T1.frozen k
      have Tset := Lib.hid (T1.set k (.slice (some ⟨w.heap.size + 1 + k, 0, none⟩) (rowAt rs k).2.2.length (rowAt rs k).2.2.length))
      clear hT hO hB hZ hm T1 e1
      go_wp2_with fail
      go_roundw
      case rel =>
        refine ⟨k + 1, by go_num, by omega, Tset.out.congr fun i hi => ?_, fun i hi => ?_, B1.out.setCell (Nat.le_refl _) _, (setCell_size _ _ _).trans Z1.out⟩
        · show (if i = k then _ else _) = _
          by_cases e : i = k
          · subst e; rw [if_pos rfl, if_pos (by omega), hcp.out]; rfl
          · rw [if_neg e]
            by_cases e' : i < k
            · rw [if_pos e', if_pos (by omega)]
            · rw [if_neg e', if_neg (by omega)]
        · have hk2 : ∀ j, w.heap.size + 1 + i ≤ j → j < w.heap.size + 2 + i → (W'.setCell ⟨w.heap.size, k, none⟩ (.slice (some ⟨w.heap.size + 1 + k, 0, none⟩) (rowAt rs k).2.2.length (rowAt rs k).2.2.length)).heap[j]? = W'.heap[j]? :=
            fun j h1 h2 => Below.heap_setCell _ _ _ _ (by show j ≠ w.heap.size; omega)
          rcases Nat.lt_or_ge i k with h | h
          · exact (O1.out i h).keep hk2
          · obtain rfl : i = k := by omega
            exact O2.out.keep hk2
      case measure => simp [intOf]; omega
    · obtain rfl : k = rs.length := by omega
      go_wp2_with fail
      go_ret
      exact ⟨rfl, ⟨hT.congr fun i hi => if_pos hi, hO.out⟩, hB.out, hZ.out⟩

set_option maxHeartbeats 400000 in
theorem eqFF_any (A B : Option Addr) (c d : Nat) (rs qs : List Row) (w : World) (hr : RdSS w A rs) (hq : RdSS w B qs) (hn : rs.length ≤ 1048576) (hl : qs.length = rs.length)
    (hw : ∀ i, i < rs.length → (rowAt qs i).2.2 = (rowAt rs i).2.2 ∧ (rowAt rs i).2.2.length ≤ 1048576 ∧ ∀ j, j < (rowAt rs i).2.2.length → wfk .f32 ((rowAt rs i).2.2.getD j 0)) :
    Calls Try.prog 42 #[.slice A rs.length c, .slice B qs.length d] w fun e w' => e = .returned (.bool true) ∧ ∃ n, w.drewN n = w' := by
  have Hw := Lib.hid hw
  have Hln := Lib.hid hl
  rw [hl]
  clear hw hl
  go_enter Try.func42, Try.ntmps42
  go_wp2_with fail
  go_loopw [5] (fun i wr => ∃ k n : Nat, i = .int .i64 (k : Int) ∧ k ≤ rs.length ∧ wr = w.drewN n) (fun i _ => rs.length - (intOf i).toNat)
  case atStart => exact ⟨0, 0, rfl, by omega, rfl⟩
  case round =>
    obtain ⟨k, n, rfl, hk, rfl⟩ := hrel
    by_cases hlt : k < rs.length
    · obtain ⟨b, off, rfl, hb, hc⟩ := hr.1 (by simp; omega)
      obtain ⟨b', off', rfl, hb', hc'⟩ := hq.1 (by simp; have := Hln.out; omega)
      have e1 := hc k _ (rowV_at hlt)
      have e2 := hc' k _ (rowV_at (by rw [Hln.out]; exact hlt))
      obtain ⟨w1, w2, w3⟩ := Hw.out k hlt
      have E := Lib.hid (fun W h1 h2 => eqF32_any (rowAt rs k).1 (rowAt qs k).1 (rowAt rs k).2.1 (rowAt qs k).2.1 _ (rowAt rs k).2.2 (rowAt qs k).2.2 W h1 h2 w2 rfl (by rw [w1]) (fun i hi => ⟨w3 i hi, by rw [w1]; exact w3 i hi, by rw [w1]; unfold sameB; simp⟩))
      have R1 := Lib.hid (hr.2 k hlt)
      have R2 := Lib.hid (hq.2 k (by rw [Hln.out]; exact hlt))
      unfold rowV at e1 e2
      rw [w1] at e2
      clear hc hc' w1 w2 w3
      have E2 := Lib.hid (fun W h1 h2 => (E.out W h1 h2).mono fun e w' h => (h : e = .returned (.bool true) ∧ ∃ j, W.drewN j = w'))
      go_wp2_with fail
      refine wp_region_rx (by kernel_rfl) (by kernel_rfl) ?_; apply Exists.intro
      repeat (first | (apply wpR_val; intro K hK; go_simp; refine ⟨rfl, hK _ ?_⟩; clear hK K) | (apply wpR_skip; intro K hK; go_simp; refine hK _ ?_; clear hK K))
      apply wpR_val (v := .bool true); intro K hK; go_simp; refine ⟨fun m => rcall (E2.out _ (R1.out.drewN _) (R2.out.drewN _)), hK _ ?_⟩; clear hK K
      repeat (first | (apply wpR_val; intro K hK; go_simp; refine ⟨rfl, hK _ ?_⟩; clear hK K) | (apply wpR_skip; intro K hK; go_simp; refine hK _ ?_; clear hK K))
      apply wpR_nil (Rs := []); rintro _ ⟨nq, rfl⟩
      go_wp2_with fail
      go_roundw
      case rel => exact ⟨k + 1, _, by go_num, by omega, rfl⟩
      case measure => simp [intOf]; omega
    · obtain rfl : k = rs.length := by omega
      go_wp2_with fail
      go_ret
      exact ⟨rfl, _, rfl⟩

set_option maxHeartbeats 400000 in
theorem markFF_any (b : Nat) (rs : List Row) (w : World) (h : CopySS w b rs) (hn : rs.length + totL rs rs.length ≤ 1048576) :
    Calls Try.prog 43 #[.slice (some ⟨b, 0, none⟩) rs.length rs.length, .int .i64 1] w fun e w' => e = .returned (.int .i64 (1 + (totL rs rs.length : Int))) ∧
      w'.os = w.os ∧ w'.tape = w.tape ∧ w'.output = w.output ∧ w'.heap.size = w.heap.size ∧ ∀ j, (j < b ∨ b + 1 + rs.length ≤ j) → w'.heap[j]? = w.heap[j]? := by
  have HT := Lib.hid h.top
  have HR := Lib.hid h.rows
  clear h
  go_enter Try.func43, Try.ntmps43
  go_wp2_with fail
  go_loopw [1, 5] (fun l i wr => ∃ k : Nat, i = .int .i64 (k : Int) ∧ l = .int .i64 (1 + (totL rs k : Int)) ∧ k ≤ rs.length ∧ Hid (wr.rowIs b 23 rs.length (fun i => rowV (rowAt (copyRows b rs) i))) ∧
    Hid (∀ i, k ≤ i → i < rs.length → Own wr (b + 1 + i) (b + 2 + i) (some ⟨b + 1 + i, 0, none⟩) (rowAt rs i).2.2.length (rowAt rs i).2.2) ∧
    Hid (wr.os = w.os ∧ wr.tape = w.tape ∧ wr.output = w.output ∧ wr.heap.size = w.heap.size ∧ ∀ j, (j < b ∨ b + 1 + rs.length ≤ j) → wr.heap[j]? = w.heap[j]?)) (fun _ i _ => rs.length - (intOf i).toNat)
  case atStart => exact ⟨0, rfl, by simp [totL], by omega, HT, fun i _ hi => HR.out i hi, rfl, rfl, rfl, rfl, fun _ _ => rfl⟩
  case round =>
    obtain ⟨k, rfl, rfl, hk, hT, hO, hW⟩ := hrel
    by_cases hlt : k < rs.length
    · have e1 := hT.out.cell hlt
      rw [copyRows_at hlt] at e1
      unfold rowV at e1
      have ht := totL_row rs hlt
      have ht2 := totL_mono rs hk
      have htn : Hid (totL rs (k + 1) = totL rs k + (rowAt rs k).2.2.length) := rfl
      go_wp2_with fail
      refine (mark_gen (b + 1 + k) (b + 2 + k) _ _ _ (1 + totL rs k) _ (hO.out k (Nat.le_refl _) hlt) (by omega) (by omega)).mono ?_
      rintro e w' ⟨rfl, _, k1, k2, k3, k4, k5⟩
      have HK := Lib.hid (And.intro k1 (And.intro k2 (And.intro k3 (And.intro k4 k5))))
      clear k1 k2 k3 k4 k5 e1
      go_wp2_with fail
      go_roundw
      case rel =>
        obtain ⟨k1, k2, k3, k4, k5⟩ := HK.out
        obtain ⟨m1, m2, m3, m4, m5⟩ := hW.out
        refine ⟨k + 1, by go_num, by rw [htn.out]; go_num, by omega, hT.out.of_block (k5 b (.inl (by omega))), fun i h1 h2 => (hO.out i (by omega) h2).keep fun j j1 j2 => k5 j (.inr (by omega)), k1.trans m1, k2.trans m2, k3.trans m3, k4.trans m4, fun j hj => (k5 j (by omega)).trans (m5 j hj)⟩
      case measure => simp [intOf]; omega
    · obtain rfl : k = rs.length := by omega
      go_wp2_with fail
      go_ret
      exact ⟨rfl, hW.out⟩
end Go.Proofs.Ytignncjmbcdpaaa

/-
MixTracks of both packages.
-/
namespace Go.Proofs.Ytignncjmbcdpaaa
open Go Go.RowKit Ieee

/-- The sum of the first rows at a place. -/
def sumAt (rs : List Row) : Nat → Nat → Nat
  | 0, _ => 0
  | k + 1, j => fo .add .f32 (sumAt rs k j) ((rowAt rs k).2.2.getD j 0)
theorem nrm_sumAt (rs : List Row) (k j : Nat) : nrm .f32 (sumAt rs k j) = sumAt rs k j := by
  cases k with
  | zero => exact (nrm_of_num (by decide +kernel) : nrm .f32 0 = 0)
  | succ k => exact nrm_fo _ _ _ _
def rowLen (rs : List Row) (i : Nat) : Nat := (rowAt rs i).2.2.length
/-- The row k added to the first m of the sums. -/
def Part (rs : List Row) (k L m : Nat) (ts : List Nat) : Prop :=
  ts.length = L ∧ ∀ j, j < L → nrm .f32 (ts.getD j 0) = (if j < m then sumAt rs (k + 1) j else sumAt rs k j) ∧ wfk .f32 (ts.getD j 0)
theorem getD_set {ts : List Nat} {m v j : Nat} (hm : m < ts.length) : (ts.set m v).getD j 0 = if j = m then v else ts.getD j 0 := by
  simp only [List.getD, List.getElem?_set]
  by_cases h : m = j
  · subst h; simp [hm]
  · rw [if_neg h, if_neg (fun e => h e.symm)]
theorem Part.set {rs : List Row} {k L m : Nat} {ts : List Nat} (h : Part rs k L m ts) (hm : m < L) {a x : Nat} (ha : nrm .f32 a = nrm .f32 (ts.getD m 0)) (hx : (rowAt rs k).2.2.getD m 0 = x) (w : World) :
    Part rs k L (m + 1) (ts.set m (fR .add .f32 a x w)) := by
  obtain ⟨h1, h2⟩ := h
  refine ⟨by simpa using h1, fun j hj => ?_⟩
  rw [getD_set (by omega)]
  by_cases e : j = m
  · subst e
    rw [if_pos rfl, if_pos (by omega)]
    refine ⟨?_, fR_lt _ _ _ _ _⟩
    have h3 := (h2 j hj).1
    rw [if_neg (by omega)] at h3
    rw [nrm_fR]
    show _ = fo .add .f32 (sumAt rs k j) ((rowAt rs k).2.2.getD j 0)
    rw [hx]
    exact fo_congr (by rw [ha, h3, nrm_sumAt]) rfl
  · rw [if_neg e]
    by_cases e' : j < m
    · rw [if_pos (by omega)]; have := h2 j hj; rwa [if_pos e'] at this
    · rw [if_neg (by omega)]; have := h2 j hj; rwa [if_neg e'] at this
theorem Part.next {rs : List Row} {k L : Nat} {ts : List Nat} (h : Part rs k L L ts) : Part rs (k + 1) L 0 ts :=
  ⟨h.1, fun j hj => by have := h.2 j hj; rw [if_pos hj] at this; rwa [if_neg (by omega)]⟩
theorem Part.zero (rs : List Row) (L : Nat) : Part rs 0 L 0 (List.replicate L 0) :=
  ⟨by simp, fun j hj => by
    rw [if_neg (by omega)]
    have e : (List.replicate L 0).getD j 0 = 0 := by simp [List.getD, hj]
    rw [e]
    exact ⟨nrm_of_num (by decide +kernel), by rw [wfk_32]; omega⟩⟩
theorem rowIs_rd {w : World} {g L : Nat} {ts : List Nat} (h : w.rowIs g 25 L (fun j => .float .f32 (ts.getD j 0))) (hl : ts.length = L) : Rd w (some ⟨g, 0, none⟩) (f32s ts) := fun _ =>
  ⟨g, 0, rfl, h.lt, fun k u hu => by
    have hk : k < ts.length := by
      rcases Nat.lt_or_ge k ts.length with h1 | h1
      · exact h1
      · rw [List.getElem?_eq_none (by simpa using h1)] at hu; cases hu
    rw [f32s_at hk] at hu
    rw [Nat.zero_add, h.cell (by omega)]; exact hu⟩
theorem rowIs_upd {w : World} {g L m v : Nat} {ts : List Nat} (h : w.rowIs g 25 L (fun j => .float .f32 (ts.getD j 0))) (hl : ts.length = L) (hm : m < L) :
    (w.setCell ⟨g, m, none⟩ (.float .f32 v)).rowIs g 25 L (fun j => .float .f32 ((ts.set m v).getD j 0)) :=
  (h.set m (.float .f32 v)).congr fun i hi => by
    show (if i = m then _ else _) = _
    rw [getD_set (by omega)]
    by_cases e : i = m
    · rw [if_pos e, if_pos e]
    · rw [if_neg e, if_neg e]

/-- What MixTracks returns. -/
def MixRes (c r : Nat) (rs : List Row) (ok : Bool) (ys : List Nat) : Prop :=
  ((∀ i, i < rs.length → rowLen rs i = rowLen rs 0) ∧ ok = limOk c r ∧ ∃ ss, Part rs rs.length (if rs.length = 0 then 0 else rowLen rs 0) 0 ss ∧ (if limOk c r = true then limited ss c r ys ss.length else ys = [])) ∨
  ((∃ i, i < rs.length ∧ rowLen rs i ≠ rowLen rs 0) ∧ ok = false ∧ ys = [])
def MixPost (c r : Nat) (rs : List Row) (w : World) (e : Ending) (w' : World) : Prop :=
  ∃ (A' : Option Addr) (c' : Nat) (ys : List Nat) (ok : Bool), e = .returned (.tuple #[.slice A' ys.length c', .bool ok]) ∧ Own w' w.heap.size w'.heap.size A' c' ys ∧ MixRes c r rs ok ys ∧ Below w.heap.size w w'
/-- The sums after so many rows. -/
structure Summed (w W : World) (rs : List Row) (k : Nat) (v : Value) (L : Nat) : Prop where
  below : Below w.heap.size w W
  row : ∃ g ss, v = .slice (some ⟨g, 0, none⟩) L L ∧ w.heap.size ≤ g ∧ W.rowIs g 25 L (fun j => .float .f32 (ss.getD j 0)) ∧ Part rs k L 0 ss

theorem owns_low {w : World} {lo lo' n : Nat} {e : TypeId} {v : Value} {xs : List Value} (h : w.ownsRow lo e 1 v n xs) (hl : lo' ≤ lo) : w.ownsRow lo' e 1 v n xs := by
  obtain ⟨h1, h2⟩ := h
  refine ⟨h1, ?_⟩
  rcases h2 with h2 | ⟨g, cap, cur, e1, e2, e3⟩
  · exact .inl h2
  · exact .inr ⟨g, cap, cur, e1, by omega, e3⟩
theorem mix_bad (c r : Nat) {rs : List Row} {k : Nat} {w W : World} (hk : k < rs.length) (hne : rowLen rs k ≠ rowLen rs 0) (hb : Below w.heap.size w W) : MixPost c r rs w (.returned (.tuple #[.slice none 0 0, .bool false])) W :=
  ⟨none, 0, [], false, rfl, ⟨⟨rfl, .inl ⟨rfl, rfl⟩⟩, fun k hk => by cases hk⟩, .inr ⟨⟨k, hk, hne⟩, rfl, rfl⟩, hb⟩
theorem mix_good {c r : Nat} {rs : List Row} {w W W' : World} {ss : List Nat} {e : Ending} (hsame : ∀ i, i < rs.length → rowLen rs i = rowLen rs 0) (hL : (if rs.length = 0 then 0 else rowLen rs 0) = ss.length) (hP : Part rs rs.length ss.length 0 ss) (hb : Below w.heap.size w W)
    (h : LimitPost c r ss W e W') : MixPost c r rs w e W' := by
  obtain ⟨A', c', ys, he, ho, hy, hb2⟩ := h
  exact ⟨A', c', ys, _, he, Own.of (owns_low ho hb.size) rfl, .inl ⟨hsame, rfl, ss, by rw [hL]; exact hP, hy⟩, hb.trans (hb2.mono hb.size)⟩

set_option maxRecDepth 100000 in
set_option maxHeartbeats 600000 in
theorem specMix_any (A : Option Addr) (cp c r : Nat) (rs : List Row) (w : World) (hcw : wfk .f32 c) (hrw : wfk .f32 r) (hr : RdSS w A rs) (hn : rs.length ≤ 1048576) (hl : ∀ i, i < rs.length → rowLen rs i ≤ 1048576)
    (hwf : ∀ i, i < rs.length → ∀ j, j < (rowAt rs i).2.2.length → wfk .f32 ((rowAt rs i).2.2.getD j 0)) :
    Calls Try.prog 39 #[.slice A rs.length cp, .float .f32 c, .float .f32 r] w (MixPost c r rs w) := by
  go_enter Try.func39, Try.ntmps39
  have HL := Lib.hid hl
  have HW := Lib.hid hwf
  have S0 : Hid (Summed w (w.alloc (.cells #[] 25)) rs 0 (.slice (some ⟨w.heap.size, 0, none⟩) 0 0) 0) :=
    ⟨(Below.refl w.heap.size w).alloc (Nat.le_refl _) _, w.heap.size, [], rfl, Nat.le_refl _, ⟨#[], heap_alloc_new w _, rfl, fun i hi => absurd hi (Nat.not_lt_zero _)⟩, rfl, fun j hj => absurd hj (Nat.not_lt_zero _)⟩
  clear hl hwf
  go_wp2_with fail
  generalize w.alloc (.cells #[] 25) = W0 at *
  go_loopw [8, 16] (fun v i wr => ∃ k : Nat, i = .int .i64 (k : Int) ∧ k ≤ rs.length ∧ Hid (Summed w wr rs k v (if k = 0 then 0 else rowLen rs 0)) ∧ Hid (∀ i, i < k → rowLen rs i = rowLen rs 0)) (fun _ i _ => rs.length - (intOf i).toNat)
  case atStart => exact ⟨0, rfl, by omega, S0, fun i hi => absurd hi (Nat.not_lt_zero _)⟩
  case round =>
    clear S0
    obtain ⟨k, rfl, hk, hS, hsame⟩ := hrel
    by_cases hlt : k < rs.length
    · obtain ⟨b, off, rfl, hb, hc⟩ := (hr.below hS.out.below).1 (by simp; omega)
      have e1 := hc k _ (rowV_at hlt)
      have hrd := Lib.hid (hr.2 k hlt)
      have hlen : Hid ((rowAt rs k).2.2.length ≤ 1048576) := HL.out k hlt
      have hlk : Hid (rowLen rs k = (rowAt rs k).2.2.length) := rfl
      obtain ⟨A', c', l, hrk⟩ : ∃ A' c' l, rowAt rs k = (A', c', l) := ⟨_, _, _, rfl⟩
      have HRK := Lib.hid hrk
      rw [hrk] at e1 hrd hlen hlk
      unfold rowV at e1
      simp only at e1 hrd hlen hlk
      have hmk := fun W => run_make_row' (P := Try.prog) 23 25 (.float .f32 0) 4 Try.underlying23 f32_info rfl .i64 .i64 l.length (by have := hlen.out; omega) (by have := hlen.out; omega) W
      clear hc hrk
      go_upto_if 22 with fail
      go_cut [8] from 23 to 48 (fun v wx => Summed w wx rs k v (rowLen rs 0))
      case first =>
        by_cases h0 : k = 0
        · subst h0
          have HB := Lib.hid hS.out.below
          go_wp2_with fail
          go_meet
          rw [hlk.out]
          exact ⟨HB.out.alloc HB.out.size _, wr.heap.size, List.replicate l.length 0, rfl, HB.out.size, (World.rowIs_made wr (.float .f32 0) l.length 25).congr fun i hi => by simp [List.getD, hi], Part.zero _ _⟩
        · have HS := hS.out
          rw [if_neg h0] at HS
          go_wp2_with fail
          go_meet
          exact HS
      case rest =>
        obtain ⟨hb, g, ss, rfl, hg, hrow, hP⟩ := hcut
        have HP := Lib.hid hP
        have HBc := Lib.hid hb
        clear hP hb hS hmk
        by_cases hd : l.length = rowLen rs 0
        · have hl2 := hlen.out
          rw [← hd] at hrow HP
          rw [← hd]
          go_wp2_with fail
          go_loopw [33] (fun i wx => ∃ (j : Nat) (ts : List Nat), i = .int .i64 (j : Int) ∧ j ≤ l.length ∧ wx.rowIs g 25 l.length (fun j => .float .f32 (ts.getD j 0)) ∧ Hid (Part rs k l.length j ts) ∧ Hid (Below w.heap.size w wx)) (fun i _ => l.length - (intOf i).toNat)
          case atStart => exact ⟨0, ss, rfl, by omega, hrow, HP, HBc⟩
          case round =>
            clear hrow HP HBc
            obtain ⟨j, ts, rfl, hj, hrow, hP, hB⟩ := hrel
            by_cases hjl : j < l.length
            · obtain ⟨b2, off2, rfl, hb2, hc2⟩ := (hrd.out.below hB.out) (by simp; omega)
              have e2 := hc2 j _ (f32s_at hjl)
              have e3 := hrow.cell hjl
              have e4 := hrow.frozen j
              obtain ⟨x, hx⟩ : ∃ x, l.getD j 0 = x := ⟨_, rfl⟩
              obtain ⟨t, ht⟩ : ∃ t, ts.getD j 0 = t := ⟨_, rfl⟩
              rw [hx] at e2
              rw [ht] at e3
              have Hx : Hid ((rowAt rs k).2.2.getD j 0 = x) := by show (rowAt rs k).2.2.getD j 0 = x; rw [HRK.out]; exact hx
              have Hup := Lib.hid (fun v => rowIs_upd (v := v) hrow hP.out.1 hjl)
              have Hpt := Lib.hid (fun W => hP.out.set hjl (a := t) (by rw [ht]) Hx.out W)
              clear hx ht hc2 hrow
              go_wp2_with fail
              go_roundw
              case rel => exact ⟨j + 1, _, by go_num, by omega, Hup.out _, Hpt.out _, (below_drewN hB.out _).setCell hg _⟩
              case measure => simp [intOf]; omega
            · obtain rfl : j = l.length := by omega
              go_wp2_with fail
              go_roundw
              case rel => exact ⟨k + 1, by go_num, by omega, (by
                rw [if_neg (by omega)]
                exact ⟨hB.out, g, ts, by rw [← hd], hg, by rw [← hd]; exact hrow, by rw [← hd]; exact hP.out.next⟩), fun i hi => (by
                rcases Nat.lt_or_ge i k with h | h
                · exact hsame.out i h
                · obtain rfl : i = k := by omega
                  rw [hlk.out, hd])⟩
              case measure => simp [intOf]; omega
        · go_wp2_with fail
          go_ret2
          exact mix_bad c r hlt (by rw [hlk.out]; exact hd) HBc.out
    · obtain rfl : k = rs.length := by omega
      have hLd : (if rs.length = 0 then 0 else rowLen rs 0) ≤ 1048576 := by
        split
        · omega
        · exact HL.out 0 (by omega)
      generalize hLdef : (if rs.length = 0 then 0 else rowLen rs 0) = L at *
      obtain ⟨hb, g, ss, rfl, hg, hrow, hP⟩ := hS.out
      obtain rfl : ss.length = L := hP.1
      have Hrd := Lib.hid (rowIs_rd hrow rfl)
      have HLd := Lib.hid hLdef
      have HP := Lib.hid hP
      have HB := Lib.hid hb
      clear hS hLdef hP hb hrow
      go_wp2_with fail
      refine (specLimit_any _ _ c r ss _ hcw hrw Hrd.out hLd (fun i hi => (HP.out.2 i hi).2)).mono ?_
      rintro e W' hlp
      have hm := Lib.hid (mix_good hsame.out HLd.out HP.out HB.out hlp)
      unfold LimitPost at hlp
      obtain ⟨A2, c2, ys, rfl, _⟩ := hlp
      go_wp2_with fail
      go_ret2
      exact hm.out
set_option maxRecDepth 100000 in
set_option maxHeartbeats 600000 in
theorem implMix_any (A : Option Addr) (cp c r : Nat) (rs : List Row) (w : World) (hcw : wfk .f32 c) (hrw : wfk .f32 r) (hr : RdSS w A rs) (hn : rs.length ≤ 1048576) (hl : ∀ i, i < rs.length → rowLen rs i ≤ 1048576)
    (hwf : ∀ i, i < rs.length → ∀ j, j < (rowAt rs i).2.2.length → wfk .f32 ((rowAt rs i).2.2.getD j 0)) :
    Calls Try.prog 41 #[.slice A rs.length cp, .float .f32 c, .float .f32 r] w (MixPost c r rs w) := by
  go_enter Try.func41, Try.ntmps41
  have HL := Lib.hid hl
  have HW := Lib.hid hwf
  have S0 : Hid (Summed w (w.alloc (.cells #[] 25)) rs 0 (.slice (some ⟨w.heap.size, 0, none⟩) 0 0) 0) :=
    ⟨(Below.refl w.heap.size w).alloc (Nat.le_refl _) _, w.heap.size, [], rfl, Nat.le_refl _, ⟨#[], heap_alloc_new w _, rfl, fun i hi => absurd hi (Nat.not_lt_zero _)⟩, rfl, fun j hj => absurd hj (Nat.not_lt_zero _)⟩
  clear hl hwf
  go_wp2_with fail
  generalize w.alloc (.cells #[] 25) = W0 at *
  go_loopw [8, 16] (fun v i wr => ∃ k : Nat, i = .int .i64 (k : Int) ∧ k ≤ rs.length ∧ Hid (Summed w wr rs k v (if k = 0 then 0 else rowLen rs 0)) ∧ Hid (∀ i, i < k → rowLen rs i = rowLen rs 0)) (fun _ i _ => rs.length - (intOf i).toNat)
  case atStart => exact ⟨0, rfl, by omega, S0, fun i hi => absurd hi (Nat.not_lt_zero _)⟩
  case round =>
    clear S0
    obtain ⟨k, rfl, hk, hS, hsame⟩ := hrel
    by_cases hlt : k < rs.length
    · obtain ⟨b, off, rfl, hb, hc⟩ := (hr.below hS.out.below).1 (by simp; omega)
      have e1 := hc k _ (rowV_at hlt)
      have hrd := Lib.hid (hr.2 k hlt)
      have hlen : Hid ((rowAt rs k).2.2.length ≤ 1048576) := HL.out k hlt
      have hlk : Hid (rowLen rs k = (rowAt rs k).2.2.length) := rfl
      obtain ⟨A', c', l, hrk⟩ : ∃ A' c' l, rowAt rs k = (A', c', l) := ⟨_, _, _, rfl⟩
      have HRK := Lib.hid hrk
      rw [hrk] at e1 hrd hlen hlk
      unfold rowV at e1
      simp only at e1 hrd hlen hlk
      have hmk := fun W => run_make_row' (P := Try.prog) 23 25 (.float .f32 0) 4 Try.underlying23 f32_info rfl .i64 .i64 l.length (by have := hlen.out; omega) (by have := hlen.out; omega) W
      have e0 : wr.cell? ⟨b, off, none⟩ = some (rowV (rowAt rs 0)) := hc 0 _ (rowV_at (by omega))
      unfold rowV at e0
      have hl0 : Hid (rowLen rs 0 = (rowAt rs 0).2.2.length) := rfl
      generalize (rowAt rs 0).2.2.length = n0 at *
      generalize (rowAt rs 0).1 = A0 at *
      generalize (rowAt rs 0).2.1 = c0 at *
      clear hc hrk
      by_cases hd0 : l.length = n0
      case neg =>
        go_wp2_with fail
        go_ret2
        exact mix_bad c r hlt (by rw [hlk.out, hl0.out]; exact hd0) hS.out.below
      subst hd0
      have hd : l.length = rowLen rs 0 := hl0.out.symm
      have HD := Lib.hid hd
      clear hd
      go_upto_if 29 with fail
      go_cut [8] from 30 to 48 (fun v wx => Summed w wx rs k v (rowLen rs 0))
      case first =>
        by_cases h0 : k = 0
        · subst h0
          have HB := Lib.hid hS.out.below
          go_wp2_with fail
          go_meet
          rw [hlk.out]
          exact ⟨HB.out.alloc HB.out.size _, wr.heap.size, List.replicate l.length 0, rfl, HB.out.size, (World.rowIs_made wr (.float .f32 0) l.length 25).congr fun i hi => by simp [List.getD, hi], Part.zero _ _⟩
        · have HS := hS.out
          rw [if_neg h0] at HS
          go_wp2_with fail
          go_meet
          exact HS
      case rest =>
        obtain ⟨hb, g, ss, rfl, hg, hrow, hP⟩ := hcut
        have HP := Lib.hid hP
        have HBc := Lib.hid hb
        clear hP hb hS hmk
        have hl2 := hlen.out
        have hd := HD.out
        rw [← hd] at hrow HP
        rw [← HD.out]
        clear hd
        go_wp2_with fail
        go_loopw [35] (fun i wx => ∃ (j : Nat) (ts : List Nat), i = .int .i64 (j : Int) ∧ j ≤ l.length ∧ wx.rowIs g 25 l.length (fun j => .float .f32 (ts.getD j 0)) ∧ Hid (Part rs k l.length j ts) ∧ Hid (Below w.heap.size w wx)) (fun i _ => l.length - (intOf i).toNat)
        case atStart => exact ⟨0, ss, rfl, by omega, hrow, HP, HBc⟩
        case round =>
          clear hrow HP HBc
          obtain ⟨j, ts, rfl, hj, hrow, hP, hB⟩ := hrel
          by_cases hjl : j < l.length
          · obtain ⟨b2, off2, rfl, hb2, hc2⟩ := (hrd.out.below hB.out) (by simp; omega)
            have e2 := hc2 j _ (f32s_at hjl)
            have e3 := hrow.cell hjl
            have e4 := hrow.frozen j
            obtain ⟨x, hx⟩ : ∃ x, l.getD j 0 = x := ⟨_, rfl⟩
            obtain ⟨t, ht⟩ : ∃ t, ts.getD j 0 = t := ⟨_, rfl⟩
            rw [hx] at e2
            rw [ht] at e3
            have Hx : Hid ((rowAt rs k).2.2.getD j 0 = x) := by show (rowAt rs k).2.2.getD j 0 = x; rw [HRK.out]; exact hx
            have Hup := Lib.hid (fun v => rowIs_upd (v := v) hrow hP.out.1 hjl)
            have Hpt := Lib.hid (fun W => hP.out.set hjl (a := t) (by rw [ht]) Hx.out W)
            clear hx ht hc2 hrow
            go_wp2_with fail
            go_roundw
            case rel => exact ⟨j + 1, _, by go_num, by omega, Hup.out _, Hpt.out _, (below_drewN hB.out _).setCell hg _⟩
            case measure => simp [intOf]; omega
          · obtain rfl : j = l.length := by omega
            go_wp2_with fail
            go_roundw
            case rel => exact ⟨k + 1, by go_num, by omega, (by
              rw [if_neg (by omega)]
              exact ⟨hB.out, g, ts, by rw [← HD.out], hg, by rw [← HD.out]; exact hrow, by rw [← HD.out]; exact hP.out.next⟩), fun i hi => (by
              rcases Nat.lt_or_ge i k with h | h
              · exact hsame.out i h
              · obtain rfl : i = k := by omega
                rw [hlk.out, HD.out])⟩
            case measure => simp [intOf]; omega
    · obtain rfl : k = rs.length := by omega
      have hLd : (if rs.length = 0 then 0 else rowLen rs 0) ≤ 1048576 := by
        split
        · omega
        · exact HL.out 0 (by omega)
      generalize hLdef : (if rs.length = 0 then 0 else rowLen rs 0) = L at *
      obtain ⟨hb, g, ss, rfl, hg, hrow, hP⟩ := hS.out
      obtain rfl : ss.length = L := hP.1
      have Hrd := Lib.hid (rowIs_rd hrow rfl)
      have HLd := Lib.hid hLdef
      have HP := Lib.hid hP
      have HB := Lib.hid hb
      clear hS hLdef hP hb hrow
      go_wp2_with fail
      refine (implLimit_any _ _ c r ss _ hcw hrw Hrd.out hLd (fun i hi => (HP.out.2 i hi).2)).mono ?_
      rintro e W' hlp
      have hm := Lib.hid (mix_good hsame.out HLd.out HP.out HB.out hlp)
      unfold LimitPost at hlp
      obtain ⟨A2, c2, ys, rfl, _⟩ := hlp
      go_wp2_with fail
      go_ret2
      exact hm.out
end Go.Proofs.Ytignncjmbcdpaaa

/-
impl.RingBody at valid modes, where no step overflows.
-/
namespace Go.Proofs.Ytignncjmbcdpaaa
open Go Go.RowKit Ieee

/-- An element of an input, or 0. -/
def inAt (xs : List Nat) (i : Nat) : Nat := if i < xs.length then xs.getD i 0 else 0
/-- The states after so many steps. -/
def stAt (ms : List MW) (xs : List Nat) : Nat → List (Nat × Nat)
  | 0 => List.replicate ms.length (0, 0)
  | i + 1 => nextS ms (stAt ms xs i) (inAt xs i)
theorem stAt_len (ms : List MW) (xs : List Nat) (i : Nat) : (stAt ms xs i).length = ms.length := by
  induction i with
  | zero => simp [stAt]
  | succ i ih => simp [stAt, nextS, ih]
/-- What a body rings: pointwise, a NaN made the one NaN. -/
def Rung (ms : List MW) (xs ys : List Nat) (n : Nat) : Prop :=
  ys.length = n ∧ ∀ i, i < n → nrm .f32 (ys.getD i 0) = outAt ms (stAt ms xs i) (inAt xs i) ms.length ∧ wfk .f32 (ys.getD i 0)
theorem rung_snoc {ms : List MW} {xs ys : List Nat} {k r : Nat} (h : Rung ms xs ys k) (hr : nrm .f32 r = outAt ms (stAt ms xs k) (inAt xs k) ms.length) (hw : wfk .f32 r) : Rung ms xs (ys ++ [r]) (k + 1) := by
  obtain ⟨hl, h⟩ := h
  refine ⟨by simp [hl], fun i hi => ?_⟩
  rcases Nat.lt_or_ge i k with h1 | h1
  · have e : (ys ++ [r]).getD i 0 = ys.getD i 0 := by
      simp only [List.getD]; rw [List.getElem?_append_left (by omega)]
    rw [e]; exact h i h1
  · obtain rfl : i = k := by omega
    have e : (ys ++ [r]).getD i 0 = r := by
      simp only [List.getD]; rw [List.getElem?_append_right (by omega), hl]; simp
    rw [e]; exact ⟨hr, hw⟩
/-- A row is as it was where its blocks are. -/
theorem owns_keep {w w' : World} {lo n : Nat} {e : TypeId} {v : Value} {xs : List Value} (h : w.ownsRow lo e 1 v n xs) (hk : ∀ j, lo ≤ j → j < w.heap.size → w'.heap[j]? = w.heap[j]?) : w'.ownsRow lo e 1 v n xs := by
  obtain ⟨h1, h2⟩ := h
  refine ⟨h1, ?_⟩
  rcases h2 with h2 | ⟨g, cap, cur, e1, e2, e3, e4⟩
  · exact .inl h2
  · exact .inr ⟨g, cap, cur, e1, e2, (hk g e2 (some_lt e3)).trans e3, e4⟩
/-- No step overflows. -/
def Calm (ms : List MW) (xs : List Nat) (n : Nat) : Prop := ∀ i, i < n → ∀ k, k < ms.length → StepOk (mAt ms k) (sAt (stAt ms xs i) k) (inAt xs i)

theorem c64_info : (Try.prog.info? 50).map (fun i => (i.zero, i.size, i.bytes)) = some (some (.complex .f32 0 0), 1, 8) := by kernel_rfl
set_option maxHeartbeats 400000 in
theorem element_any (A : Option Addr) (c : Nat) (xs : List Nat) (i : Nat) (w : World) (hr : Rd w A (f32s xs)) (hm : xs.length ≤ 1048576) (hi : i ≤ 2000) :
    Calls Try.prog 104 #[.slice A xs.length c, .int .i64 i] w fun e w' => e = .returned (.float .f32 (inAt xs i)) ∧ w = w' := by
  by_cases h : i < xs.length
  · obtain ⟨b, off, rfl, hb1, hc⟩ := hr (by simp; omega)
    have e1 := hc i _ (f32s_at h)
    have He : Hid (inAt xs i = xs.getD i 0) := if_pos h
    clear hc hr
    generalize xs.getD i 0 = x at *
    go_enter Try.func104, Try.ntmps104
    go_wp2
    go_ret
    exact ⟨by rw [He.out]; rfl, rfl⟩
  · have He : Hid (inAt xs i = 0) := if_neg h
    clear hr
    go_enter Try.func104, Try.ntmps104
    go_wp2
    go_ret
    exact ⟨by rw [He.out]; rfl, rfl⟩

set_option maxRecDepth 100000 in
set_option maxHeartbeats 600000 in
theorem ringBody_any (A B : Option Addr) (c d lo hi : Nat) (ms : List MW) (xs : List Nat) (n : Nat) (w : World) (h : OwnM w lo hi A c ms) (hh : hi ≤ w.heap.size) (hok : ModesOk ms) (hl : ms.length ≤ 16)
    (hr : Rd w B (f32s xs)) (hm : xs.length ≤ 1048576) (hn : n ≤ 2000) (hcalm : Calm ms xs n) :
    Calls Try.prog 55 #[.agg #[.slice A ms.length c], .slice B xs.length d, .int .i64 n] w fun e w' => ∃ (A' : Option Addr) (c' : Nat) (ys : List Nat), e = .returned (.tuple #[.slice A' ys.length c', .bool true]) ∧
      w'.ownsRow w.heap.size 25 1 (.slice A' ys.length c') ys.length (f32s ys) ∧ Rung ms xs ys n ∧ Below w.heap.size w w' := by
  have HB : Hid (Below w.heap.size w (w.alloc (.cells #[.slice A ms.length c] 69))) := (Below.refl w.heap.size w).alloc (Nat.le_refl _) _
  have hin : (decide ((0 : Int) ≤ (n : Int)) && decide ((n : Int) ≤ 2000)) = true := by simp; omega
  have H : Hid (OwnM (w.alloc (.cells #[.slice A ms.length c] 69)) lo hi A c ms) := h.below HB.out hh
  have HR : Hid (Rd (w.alloc (.cells #[.slice A ms.length c] 69)) B (f32s xs)) := hr.below HB.out
  have hBd : (w.alloc (.cells #[.slice A ms.length c] 69)).heap[w.heap.size]? = some (.cells #[.slice A ms.length c] 69 (0, 0)) := heap_alloc_new w _
  have hsz : hi ≤ (w.alloc (.cells #[.slice A ms.length c] 69)).heap.size := by simp; omega
  have hbs : w.heap.size < (w.alloc (.cells #[.slice A ms.length c] 69)).heap.size := by simp
  have HK := Lib.hid hok
  have HC := Lib.hid hcalm
  have H0 := Lib.hid h
  have Hr0 := Lib.hid hr
  clear h hr hok hcalm
  have hmk := fun W => run_make_row' (P := Try.prog) 122 50 (.complex .f32 0 0) 8 Try.underlying122 c64_info rfl .i64 .i64 ms.length (by omega) (by omega) W
  go_enter Try.func55, Try.ntmps55
  go_wp2_with fail
  have c0 := cell_of_row _ w.heap.size 0 _ _ (0, 0) hBd
  generalize w.alloc (.cells #[.slice A ms.length c] 69) = W at *
  refine (isBody_any A c lo hi ms _ H.out hsz HK.out hl).mono ?_
  rintro e W1 ⟨rfl, hb1⟩
  have HB1 : Hid (Below w.heap.size w W1) := HB.out.trans (hb1.mono (by omega))
  have hBd1 : W1.heap[w.heap.size]? = some (.cells #[.slice A ms.length c] 69 (0, 0)) := (hb1.block _ hbs).trans hBd
  have c1 := cell_of_row W1 w.heap.size 0 _ _ (0, 0) hBd1
  have hw1 : w.heap.size < W1.heap.size := some_lt hBd1
  clear c0 hb1 hBd H HR HB
  go_wp2_with fail
  refine (count_any n _).mono ?_
  rintro e w' ⟨rfl, rfl⟩
  rw [hin]
  have hz1 : (W1.alloc (.cells (madeCells #[.complex .f32 0 0] ms.length) 50)).heap.size = W1.heap.size + 1 := by simp
  have hz2 : ((W1.alloc (.cells (madeCells #[.complex .f32 0 0] ms.length) 50)).alloc (.cells #[] 25)).heap.size = W1.heap.size + 2 := by simp
  have S0 : ((W1.alloc (.cells (madeCells #[.complex .f32 0 0] ms.length) 50)).alloc (.cells #[] 25)).rowIs W1.heap.size 50 ms.length (fun i => sV (sAt (stAt ms xs 0) i)) :=
    ((World.rowIs_made W1 (.complex .f32 0 0) ms.length 50).alloc _).congr fun i hi => by simp [stAt, sAt, sV, List.getD, hi]
  have own0 : ((W1.alloc (.cells (madeCells #[.complex .f32 0 0] ms.length) 50)).alloc (.cells #[] 25)).ownsRow (W1.heap.size + 1) 25 1 (.slice (some ⟨W1.heap.size + 1, 0, none⟩) 0 0) 0 (f32s []) := by
    have := owns_empty (W1.alloc (.cells (madeCells #[.complex .f32 0 0] ms.length) 50)) 25
    rw [hz1] at this; exact this
  have B0 : Hid (Below w.heap.size w ((W1.alloc (.cells (madeCells #[.complex .f32 0 0] ms.length) 50)).alloc (.cells #[] 25))) := (HB1.out.alloc HB1.out.size _).alloc (by rw [hz1]; omega) _
  have D0 : ((W1.alloc (.cells (madeCells #[.complex .f32 0 0] ms.length) 50)).alloc (.cells #[] 25)).heap[w.heap.size]? = some (.cells #[.slice A ms.length c] 69 (0, 0)) :=
    (Below.heap_alloc _ _ _ (by rw [hz1]; omega)).trans ((Below.heap_alloc _ _ _ hw1).trans hBd1)
  go_wp2_with fail
  generalize (W1.alloc (.cells (madeCells #[.complex .f32 0 0] ms.length) 50)).alloc (.cells #[] 25) = W2 at *
  generalize W1.heap.size = g at *
  have D1 := Lib.hid D0
  have S1 := Lib.hid S0
  clear D0 S0 hBd1 c1 hz1
  go_loopw [9, 25] (fun v i wr => ∃ (k : Nat) (ys : List Nat), i = .int .i64 (k : Int) ∧ k ≤ n ∧ wr.ownsRow (g + 1) 25 1 v k (f32s ys) ∧ Hid (Rung ms xs ys k) ∧ Hid (wr.rowIs g 50 ms.length (fun i => sV (sAt (stAt ms xs k) i))) ∧
    Hid (Below w.heap.size w wr) ∧ Hid (wr.heap[w.heap.size]? = some (.cells #[.slice A ms.length c] 69 (0, 0))) ∧ g + 2 ≤ wr.heap.size) (fun _ i _ => n - (intOf i).toNat)
  case atStart => exact ⟨0, [], rfl, by omega, own0, ⟨rfl, fun i hi => absurd hi (Nat.not_lt_zero _)⟩, S1, B0, D1, by omega⟩
  case round =>
    clear own0 S1 B0 D1
    obtain ⟨k, ys, rfl, hk, hown, hrg, hrow, hbel, hbd, hgs⟩ := hrel
    by_cases hlt : k < n
    · have d0 := cell_of_row wr w.heap.size 0 _ _ (0, 0) hbd.out
      have HOM := Lib.hid (H0.out.below hbel.out hh)
      have HRD := Lib.hid (Hr0.out.below hbel.out)
      have hcm := Lib.hid (HC.out k hlt)
      have hng : ∀ q, (u9 : Value).ownBlock = some q → g + 1 ≤ q := fun q hq => (hown.lt q hq).1
      have HNG := Lib.hid hng
      clear hng
      go_wp2_with fail
      refine wp_region_held_drew (S := fun w' => w'.cell? ⟨w.heap.size, 0, none⟩ = some (.slice A ms.length c)) (by kernel_rfl) d0 (fun hHeld => ?_)
      refine wpAnyH_take (i := 0) (oi := _) (v := ?_) rfl (by kernel_rfl) (by kernel_rfl) (by kernel_rfl) (fun _ _ _ h => h) (Or.inl ⟨by rfl, ?_⟩) (by assumption) ?_
      rotate_left
      · (intro w hSw; (try dsimp only at hSw); go_simp; try (with_reducible rfl))
      (try simp only [Act.put, List.setIfInBounds_toArray])
      refine wpAnyH_take (i := 1) (oi := _) (v := ?_) rfl (by kernel_rfl) (by kernel_rfl) (by kernel_rfl) (fun _ _ _ h => h) (Or.inl ⟨by rfl, ?_⟩) (by assumption) ?_
      rotate_left
      · (intro w hSw; (try dsimp only at hSw); go_simp; try (with_reducible rfl))
      (try simp only [Act.put])
      refine wpAnyH_take (i := 2) (oi := _) (v := ?_) rfl (by kernel_rfl) (by kernel_rfl) (by kernel_rfl) (fun _ _ _ h => h) (Or.inl ⟨by rfl, ?_⟩) (by assumption) ?_
      rotate_left
      · (intro w hSw; (try dsimp only at hSw); go_simp; try (with_reducible rfl))
      (try simp only [Act.put])
      refine wpAnyH_take (i := 3) (oi := _) (v := ?_) rfl (by kernel_rfl) (by kernel_rfl) (by kernel_rfl) (fun _ _ _ h => h) (Or.inl ⟨by rfl, ?_⟩) (by assumption) ?_
      rotate_left
      · (intro w hSw; (try dsimp only at hSw); go_simp; try (with_reducible rfl))
      (try simp only [Act.put])
      refine wpAnyH_take (i := 4) (oi := _) (v := ?_) rfl (by kernel_rfl) (by kernel_rfl) (by kernel_rfl) (fun _ _ _ h => h) (Or.inl ⟨by rfl, ?_⟩) (by assumption) ?_
      rotate_left
      · (intro w hSw; (try dsimp only at hSw); go_simp; try (with_reducible rfl))
      (try simp only [Act.put])
      refine wpAnyH_take (i := 5) (oi := _) (v := ?_) rfl (by kernel_rfl) (by kernel_rfl) (by kernel_rfl) (fun _ _ _ h => h) (Or.inl ⟨by rfl, ?_⟩) (by assumption) ?_
      rotate_left
      · (intro w hSw; (try dsimp only at hSw); go_simp; try (with_reducible rfl))
      (try simp only [Act.put])
      refine wpAnyH_ready (rs := [6]) (by kernel_rfl) (by simp) ?_
      refine AllReadyH.cons (o := _) rfl (fun K hK => ?_) AllReadyH.nil
      go_simp
      refine (element_any B d xs k _ (HRD.out.drewN 1) hm (by omega)).mono ?_
      rintro e w' ⟨rfl, rfl⟩
      go_wp2_with fail
      refine hK.out _ _ ?_ (fun hHeld2 => ?_)
      · exact hHeld
      clear hK K
      (try simp only [Act.put, List.setIfInBounds_toArray, List.set_cons_zero, List.set_cons_succ])
      refine wpAnyH_ready (rs := [7]) (by kernel_rfl) (by simp) ?_
      refine AllReadyH.cons (o := _) rfl (fun K hK => ?_) AllReadyH.nil
      go_simp
      refine (step_any A c lo hi g ms (stAt ms xs k) (inAt xs k) (wr.drewN 1) ⟨HOM.out.1, HOM.out.2⟩ (by omega) HK.out hl (stAt_len _ _ _) hrow.out hcm.out).mono ?_
      rintro e W3 ⟨r, rfl, hr1, hr2, hrow3, hgr3⟩
      have hsz3 : wr.heap.size ≤ W3.heap.size := hgr3.size
      have blk3 : Hid (∀ j, j < wr.heap.size → j ≠ g → W3.heap[j]? = wr.heap[j]?) := fun j hj hn => hgr3.block j hj (by intro e; injection e with e; exact hn e)
      have hbd3 : Hid (W3.heap[w.heap.size]? = some (.cells #[.slice A ms.length c] 69 (0, 0))) := (blk3.out _ (by omega) (by omega)).trans hbd.out
      have hown3 : Hid (W3.ownsRow (g + 1) 25 1 u9 k (f32s ys)) := owns_keep hown fun j h1 h2 => blk3.out j h2 (by omega)
      have HR := Lib.hid (And.intro hr1 hr2)
      have HROW := Lib.hid hrow3
      have B3 : Hid (Below w.heap.size w W3) := ⟨hgr3.os.trans hbel.out.os, hgr3.tape.trans hbel.out.tape, hgr3.output.trans hbel.out.output, Nat.le_trans hbel.out.size hsz3, fun j hj => (blk3.out j (by omega) (by omega)).trans (hbel.out.block j hj)⟩
      clear hr1 hr2 hrow3 hgr3 hHeld hHeld2 d0
      go_wp2_with fail
      refine hK.out _ _ ?_ (fun hHeld3 => ?_)
      · exact cell_of_row W3 w.heap.size 0 _ _ (0, 0) hbd3.out
      clear hK K
      (try simp only [Act.put, List.setIfInBounds_toArray, List.set_cons_zero, List.set_cons_succ])
      refine wpAnyH_ready (rs := [8]) (by kernel_rfl) (by simp) ?_
      refine AllReadyH.cons (o := _) rfl (fun K hK => ?_) AllReadyH.nil
      go_simp
      refine hK.out _ _ ?_ (fun hHeld4 => ?_)
      · exact (World.cell?_of_block (w := W3) (w' := W3.alloc _) (Below.heap_alloc W3 _ w.heap.size (by omega))).trans hHeld3
      clear hK K
      (try simp only [Act.put, List.setIfInBounds_toArray, List.set_cons_zero, List.set_cons_succ])
      obtain ⟨i0, hi0, hz0, hz1, hz2'⟩ := info_parts f32_info
      refine wpAnyH_ready (rs := [9]) (by kernel_rfl) (by simp) ?_
      refine AllReadyH.cons (o := _) rfl (fun K hK => ?_) AllReadyH.nil
      refine step_append_lies _ (by rfl) (.tmp 28) (.tmp 36) 23 (by rfl) (g + 1) 25 i0 _ 1 4 Try.underlying23 hi0 hz0 hz1 hz2' rfl (by omega) u9 k (f32s ys) (by rfl) (hown3.out.alloc _) ⟨W3.heap.size, 0, none⟩ 1 1 [.float .f32 r] (by rfl) (by rfl) (World.news_of_block (cs := #[.float .f32 r]) (t := 25) (fr := (0, 0)) (heap_alloc_new W3 _)) (by simp [Value.oneCell']) (by omega) (by simp only [maxLen]; omega) (by omega) (by simp; omega) (W3.heap.size + 1) (by simp) ?_
      intro gg cap w4 hown4 hgrow hat hlt4
      have hne1 : some w.heap.size ≠ (u9 : Value).ownBlock := fun e => by have := HNG.out _ e.symm; omega
      have hne2 : some g ≠ (u9 : Value).ownBlock := fun e => by have := HNG.out _ e.symm; omega
      have hs4 : W3.heap.size + 1 ≤ w4.heap.size := by have := hgrow.size; simpa using this
      have hbd4 : Hid (w4.heap[w.heap.size]? = some (.cells #[.slice A ms.length c] 69 (0, 0))) := (hgrow.block _ (by simp; omega) hne1).trans ((Below.heap_alloc W3 _ _ (by omega)).trans hbd3.out)
      refine hK.out _ _ ?_ (fun hHeld5 => ?_)
      · exact cell_of_row w4 w.heap.size 0 _ _ (0, 0) hbd4.out
      clear hK K
      (try simp only [Act.put, List.setIfInBounds_toArray])
      refine wpAnyH_take (i := 10) (oi := _) (v := ?_) rfl (by kernel_rfl) (by kernel_rfl) (by kernel_rfl) (fun _ _ _ h => h) (Or.inl ⟨by rfl, ?_⟩) (by assumption) ?_
      rotate_left
      · (intro w hSw; (try dsimp only at hSw); go_simp; try (with_reducible rfl))
      (try simp only [Act.put])
      refine wpAnyH_done (by kernel_rfl) ?_ _
      go_wp2_with fail
      go_roundw
      case rel =>
        refine ⟨k + 1, ys ++ [r], by go_num, by omega, by simpa [f32s] using hown4, rung_snoc hrg.out HR.out.1 HR.out.2, ?_, ?_, hbd4, by omega⟩
        · exact HROW.out.of_block ((hgrow.block g (by simp; omega) hne2).trans (Below.heap_alloc W3 _ g (by omega)))
        · exact (B3.out.alloc B3.out.size _).grown hgrow (by simp; omega) (fun q hq => by have := HNG.out q hq; omega)
      case measure => simp [intOf]; omega
    · obtain rfl : k = n := by omega
      go_wp2_with fail
      go_ret2
      obtain ⟨A', cap, hv, hl', hrd⟩ := own_rd hown
      subst hv
      have e := hrg.out.1
      exact ⟨A', cap, ys, by rw [e]; rfl, by rw [e]; exact owns_low hown (by omega), hrg.out, hbel.out⟩
end Go.Proofs.Ytignncjmbcdpaaa
