/-
Part 5 of 5 of the proof of the law FnWidened: it returns true for all codes. No condition.
-/
import Derived.Test.YtignncjmbcdpaaaLawWidenedM4

/-
impl.FitPair of four numbers.
-/
namespace Go.Proofs.Ytignncjmbcdpaaa
open Go Go.RowKit Ieee

def prodC (x y : Nat × Nat) : Nat × Nat := (mulRe x.1 x.2 y.1 y.2, mulIm x.1 x.2 y.1 y.2)
def subC (x y : Nat × Nat) : Nat × Nat := (fo .sub .f64 x.1 y.1, fo .sub .f64 x.2 y.2)
def cgetD (zs : List (Nat × Nat)) (i : Nat) : Nat × Nat := zs.getD i (0, 0)
theorem c64s_at {zs : List (Nat × Nat)} {k : Nat} (h : k < zs.length) : (c64s zs)[k]? = some (.complex .f64 (cgetD zs k).1 (cgetD zs k).2) := by
  simp [c64s, cgetD, List.getD, List.getElem?_eq_getElem h]

set_option maxHeartbeats 400000 in
theorem subD_any (a b c d : Nat) (w : World) (h1 : fin .f64 (fo .sub .f64 a c)) (h2 : fin .f64 (fo .sub .f64 b d)) : Calls Try.prog 78 #[.complex .f64 a b, .complex .f64 c d] w fun e w' => ∃ n, e = .returned (.complex .f64 (fo .sub .f64 a c) (fo .sub .f64 b d)) ∧ w.drewN n = w' := by
  have e1 := fun w => rnd_eq h1 w
  have e2 := fun w => rnd_eq h2 w
  clear h1 h2
  go_enter Try.func78, Try.ntmps78
  go_wp2_with fail
  go_ret
  exact ⟨_, rfl, rfl⟩

/-- A minor of the four numbers. -/
def minorW (zs : List (Nat × Nat)) (i j k l : Nat) : Nat × Nat := subC (prodC (cgetD zs i) (cgetD zs j)) (prodC (cgetD zs k) (cgetD zs l))
set_option maxRecDepth 100000 in
set_option maxHeartbeats 400000 in
theorem minor_any (zs : List (Nat × Nat)) (A : Option Addr) (cp b i j k l : Nat) (w : World) (hr : Rd w A (c64s zs)) (hl : zs.length = 4) (hc : w.cell? ⟨b, 0, none⟩ = some (.slice A 4 cp)) (hi : i < 4) (hj : j < 4) (hk : k < 4) (hl' : l < 4)
    (f1 : finC (prodC (cgetD zs i) (cgetD zs j))) (f2 : finC (prodC (cgetD zs k) (cgetD zs l))) (f3 : finC (minorW zs i j k l)) :
    Calls Try.prog 77 #[.int .i64 i, .int .i64 j, .int .i64 k, .int .i64 l, .pointer (some ⟨b, 0, none⟩)] w fun e w' => ∃ n, e = .returned (.complex .f64 (minorW zs i j k l).1 (minorW zs i j k l).2) ∧ w.drewN n = w' := by
  obtain ⟨bz, off, rfl, hb, hcell⟩ := hr (by simp [c64s]; omega)
  have ei := hcell i _ (c64s_at (by omega))
  have ej := hcell j _ (c64s_at (by omega))
  have ek := hcell k _ (c64s_at (by omega))
  have el := hcell l _ (c64s_at (by omega))
  have F1 := Lib.hid f1
  have F2 := Lib.hid f2
  have F3 := Lib.hid f3
  clear hcell hr f1 f2 f3
  unfold minorW at F3 ⊢
  generalize cgetD zs i = zi at *
  generalize cgetD zs j = zj at *
  generalize cgetD zs k = zk at *
  generalize cgetD zs l = zl at *
  obtain ⟨i1, i2⟩ := zi
  obtain ⟨j1, j2⟩ := zj
  obtain ⟨k1, k2⟩ := zk
  obtain ⟨l1, l2⟩ := zl
  unfold prodC at F1 F2 F3 ⊢
  unfold subC at F3 ⊢
  have T1 := Lib.hid (fun W => (implTimes_fin i1 i2 j1 j2 W F1.out.1 F1.out.2).mono fun e w' h => (by
    obtain ⟨n, rfl, rfl⟩ := h; exact ⟨rfl, n, rfl⟩ : e = .returned (.complex .f64 (mulRe i1 i2 j1 j2) (mulIm i1 i2 j1 j2)) ∧ ∃ j, W.drewN j = w'))
  have T2 := Lib.hid (fun W => (implTimes_fin k1 k2 l1 l2 W F2.out.1 F2.out.2).mono fun e w' h => (by
    obtain ⟨n, rfl, rfl⟩ := h; exact ⟨rfl, n, rfl⟩ : e = .returned (.complex .f64 (mulRe k1 k2 l1 l2) (mulIm k1 k2 l1 l2)) ∧ ∃ j, W.drewN j = w'))
  have T3 := Lib.hid (fun W => (subD_any _ _ _ _ W F3.out.1 F3.out.2).mono fun e w' h => (by
    obtain ⟨n, rfl, rfl⟩ := h; exact ⟨rfl, n, rfl⟩ : e = .returned (.complex .f64 (fo .sub .f64 (mulRe i1 i2 j1 j2) (mulRe k1 k2 l1 l2)) (fo .sub .f64 (mulIm i1 i2 j1 j2) (mulIm k1 k2 l1 l2))) ∧ ∃ j, W.drewN j = w'))
  go_enter Try.func77, Try.ntmps77
  have gi : (i : Int) < 4 := by omega
  have gj : (j : Int) < 4 := by omega
  have gk : (k : Int) < 4 := by omega
  have gl : (l : Int) < 4 := by omega
  go_wp2_with fail
  refine wp_region_rx (by kernel_rfl) (by kernel_rfl) ?_; apply Exists.intro
  repeat (first | (apply wpR_val; intro K hK; go_simp; refine ⟨rfl, hK _ ?_⟩; clear hK K) | (apply wpR_skip; intro K hK; go_simp; refine hK _ ?_; clear hK K))
  apply wpR_val (v := .complex .f64 (mulRe i1 i2 j1 j2) (mulIm i1 i2 j1 j2)); intro K hK; go_simp; refine ⟨fun m => rcall0 (T1.out _), hK _ ?_⟩; clear hK K
  repeat (first | (apply wpR_val; intro K hK; go_simp; refine ⟨rfl, hK _ ?_⟩; clear hK K) | (apply wpR_skip; intro K hK; go_simp; refine hK _ ?_; clear hK K))
  apply wpR_val (v := .complex .f64 (mulRe k1 k2 l1 l2) (mulIm k1 k2 l1 l2)); intro K hK; go_simp; refine ⟨fun m => rcall0 (T2.out _), hK _ ?_⟩; clear hK K
  repeat (first | (apply wpR_val; intro K hK; go_simp; refine ⟨rfl, hK _ ?_⟩; clear hK K) | (apply wpR_skip; intro K hK; go_simp; refine hK _ ?_; clear hK K))
  apply wpR_val (v := .complex .f64 (fo .sub .f64 (mulRe i1 i2 j1 j2) (mulRe k1 k2 l1 l2)) (fo .sub .f64 (mulIm i1 i2 j1 j2) (mulIm k1 k2 l1 l2))); intro K hK; go_simp; refine ⟨fun m => rcall0 (T3.out _), hK _ ?_⟩; clear hK K
  repeat (first | (apply wpR_val; intro K hK; go_simp; refine ⟨rfl, hK _ ?_⟩; clear hK K) | (apply wpR_skip; intro K hK; go_simp; refine hK _ ?_; clear hK K))
  apply wpR_nil (Rs := []); rintro _ ⟨nq, rfl⟩
  go_wp2_with fail
  go_ret
  exact ⟨_, rfl, rfl⟩

/-- The minors of the four numbers are finite, and the quotients are. -/
structure PairOk (zs : List (Nat × Nat)) : Prop where
  p : ∀ i j, i < 4 → j < 4 → i + j ≤ 4 → finC (prodC (cgetD zs i) (cgetD zs j))
  d : finC (minorW zs 1 1 0 2)
  s : finC (minorW zs 1 2 0 3)
  t : finC (minorW zs 2 2 1 3)
  z : (feq .f64 (minorW zs 1 1 0 2).1 0 && feq .f64 (minorW zs 1 1 0 2).2 0) = false
  qs : finC (quoRe (minorW zs 1 2 0 3).1 (minorW zs 1 2 0 3).2 (minorW zs 1 1 0 2).1 (minorW zs 1 1 0 2).2, quoIm (minorW zs 1 2 0 3).1 (minorW zs 1 2 0 3).2 (minorW zs 1 1 0 2).1 (minorW zs 1 1 0 2).2)
  qt : finC (quoRe (minorW zs 2 2 1 3).1 (minorW zs 2 2 1 3).2 (minorW zs 1 1 0 2).1 (minorW zs 1 1 0 2).2, quoIm (minorW zs 2 2 1 3).1 (minorW zs 2 2 1 3).2 (minorW zs 1 1 0 2).1 (minorW zs 1 1 0 2).2)
theorem minor_lt (zs : List (Nat × Nat)) (i j k l : Nat) : wfk .f64 (minorW zs i j k l).1 ∧ wfk .f64 (minorW zs i j k l).2 := ⟨fo_lt _ _ _ _, fo_lt _ _ _ _⟩

set_option maxRecDepth 100000 in
set_option maxHeartbeats 400000 in
theorem fitPair_any (A : Option Addr) (cp : Nat) (zs : List (Nat × Nat)) (w : World) (hr : Rd w A (c64s zs)) (hl : zs.length = 4) (h : PairOk zs) :
    Calls Try.prog 23 #[.slice A 4 cp] w fun e w' => ∃ n b, e = .returned (.tuple #[.complex .f64 (quoRe (minorW zs 1 2 0 3).1 (minorW zs 1 2 0 3).2 (minorW zs 1 1 0 2).1 (minorW zs 1 1 0 2).2) (quoIm (minorW zs 1 2 0 3).1 (minorW zs 1 2 0 3).2 (minorW zs 1 1 0 2).1 (minorW zs 1 1 0 2).2),
      .complex .f64 (quoRe (minorW zs 2 2 1 3).1 (minorW zs 2 2 1 3).2 (minorW zs 1 1 0 2).1 (minorW zs 1 1 0 2).2) (quoIm (minorW zs 2 2 1 3).1 (minorW zs 2 2 1 3).2 (minorW zs 1 1 0 2).1 (minorW zs 1 1 0 2).2), .bool true]) ∧ (w.alloc b).drewN n = w' := by
  have H := Lib.hid h
  have M1 := Lib.hid (fun W (hr : Rd W A (c64s zs)) b (hc : W.cell? ⟨b, 0, none⟩ = some (.slice A 4 cp)) => minor_any zs A cp b 1 1 0 2 W hr hl hc (by omega) (by omega) (by omega) (by omega) (h.p 1 1 (by omega) (by omega) (by omega)) (h.p 0 2 (by omega) (by omega) (by omega)) h.d)
  have M2 := Lib.hid (fun W (hr : Rd W A (c64s zs)) b (hc : W.cell? ⟨b, 0, none⟩ = some (.slice A 4 cp)) => minor_any zs A cp b 1 2 0 3 W hr hl hc (by omega) (by omega) (by omega) (by omega) (h.p 1 2 (by omega) (by omega) (by omega)) (h.p 0 3 (by omega) (by omega) (by omega)) h.s)
  have M3 := Lib.hid (fun W (hr : Rd W A (c64s zs)) b (hc : W.cell? ⟨b, 0, none⟩ = some (.slice A 4 cp)) => minor_any zs A cp b 2 2 1 3 W hr hl hc (by omega) (by omega) (by omega) (by omega) (h.p 2 2 (by omega) (by omega) (by omega)) (h.p 1 3 (by omega) (by omega) (by omega)) h.t)
  have L1 := Lib.hid (minor_lt zs 1 1 0 2)
  have L2 := Lib.hid (minor_lt zs 1 2 0 3)
  have L3 := Lib.hid (minor_lt zs 2 2 1 3)
  have HD := Lib.hid (And.intro h.d (And.intro h.s (And.intro h.t (And.intro h.z (And.intro h.qs h.qt)))))
  clear h H
  generalize minorW zs 1 1 0 2 = d at *
  generalize minorW zs 1 2 0 3 = s at *
  generalize minorW zs 2 2 1 3 = t at *
  obtain ⟨d1, d2⟩ := d
  obtain ⟨s1, s2⟩ := s
  obtain ⟨t1, t2⟩ := t
  go_enter Try.func23, Try.ntmps23
  go_wp2_with fail
  have hR : Rd (w.alloc (.cells #[.slice A 4 cp] 36)) A (c64s zs) := hr.below ((Below.refl w.heap.size w).alloc (Nat.le_refl _) _)
  have hC : (w.alloc (.cells #[.slice A 4 cp] 36)).cell? ⟨w.heap.size, 0, none⟩ = some (.slice A 4 cp) := (cell_of_row _ _ 0 _ _ (0, 0) (heap_alloc_new w _)).trans (by simp)
  have HR := Lib.hid hR
  have HC := Lib.hid hC
  have HW : Hid (∃ b, w.alloc (.cells #[.slice A 4 cp] 36) = w.alloc b) := ⟨_, rfl⟩
  clear hR hC hr
  generalize w.alloc (.cells #[.slice A 4 cp] 36) = W at *
  refine (M1.out _ HR.out _ HC.out).mono ?_
  rintro e w' ⟨n1, rfl, rfl⟩
  go_wp2_with fail
  refine (M2.out _ (HR.out.drewN _) _ HC.out).mono ?_
  rintro e w' ⟨n2, rfl, rfl⟩
  go_wp2_with fail
  refine (divide_fin s1 s2 d1 d2 _ HD.out.2.1.1 HD.out.2.1.2 HD.out.1.1 HD.out.1.2 L2.out.1 L2.out.2 L1.out.1 L1.out.2 HD.out.2.2.2.1 HD.out.2.2.2.2.1.1 HD.out.2.2.2.2.1.2).mono ?_
  rintro e w' ⟨n3, rfl, _, _, rfl⟩
  go_wp2_with fail
  refine (M3.out _ (HR.out.drewN _) _ HC.out).mono ?_
  rintro e w' ⟨n4, rfl, rfl⟩
  go_wp2_with fail
  refine (divide_fin t1 t2 d1 d2 _ HD.out.2.2.1.1 HD.out.2.2.1.2 HD.out.1.1 HD.out.1.2 L3.out.1 L3.out.2 L1.out.1 L1.out.2 HD.out.2.2.2.1 HD.out.2.2.2.2.2.1 HD.out.2.2.2.2.2.2).mono ?_
  rintro e w' ⟨n5, rfl, _, _, rfl⟩
  go_wp2_with fail
  go_ret3
  obtain ⟨bb, hbb⟩ := HW.out
  exact ⟨_, bb, rfl, by rw [← hbb]⟩
end Go.Proofs.Ytignncjmbcdpaaa

/-
impl.correlated at finite numbers.
-/
namespace Go.Proofs.Ytignncjmbcdpaaa
open Go Go.RowKit Ieee

/-- The conjugate. -/
def conjW (y : Nat × Nat) : Nat × Nat := (y.1, Op.negFloat .f64 y.2)
/-- The sum over the first k products. -/
def corrW (xs ys : List (Nat × Nat)) : Nat → Nat × Nat
  | 0 => (0, 0)
  | k + 1 => (fo .add .f64 (corrW xs ys k).1 (prodC (cgetD xs k) (conjW (cgetD ys k))).1, fo .add .f64 (corrW xs ys k).2 (prodC (cgetD xs k) (conjW (cgetD ys k))).2)
/-- All that is computed is finite. -/
def CorrOk (xs ys : List (Nat × Nat)) (n : Nat) : Prop := ∀ k, k < n → finC (prodC (cgetD xs k) (conjW (cgetD ys k))) ∧ finC (corrW xs ys (k + 1))
set_option maxHeartbeats 400000 in
theorem conj_any (a b : Nat) (w : World) : Calls Try.prog 143 #[.complex .f64 a b] w fun e w' => e = .returned (.complex .f64 a (Op.negFloat .f64 b)) ∧ ∃ j, w.drewN j = w' := by
  go_enter Try.func143, Try.ntmps143
  go_wp2_with fail
  go_ret
  exact ⟨rfl, 0, World.drewN_zero w⟩
set_option maxHeartbeats 400000 in
theorem addD_fin (a b c d : Nat) (w : World) (h1 : fin .f64 (fo .add .f64 a c)) (h2 : fin .f64 (fo .add .f64 b d)) : Calls Try.prog 96 #[.complex .f64 a b, .complex .f64 c d] w fun e w' => e = .returned (.complex .f64 (fo .add .f64 a c) (fo .add .f64 b d)) ∧ ∃ j, w.drewN j = w' := by
  have e1 := fun w => rnd_eq h1 w
  have e2 := fun w => rnd_eq h2 w
  clear h1 h2
  go_enter Try.func96, Try.ntmps96
  go_wp2_with fail
  go_ret
  exact ⟨rfl, _, rfl⟩
/-- One round, its words without a body. -/
theorem corr_pack {xs ys : List (Nat × Nat)} {n k : Nat} (h : CorrOk xs ys n) (hk : k < n) : ∃ x1 x2 y1 y2 s1 s2 c2 p q t1 t2 : Nat, (cgetD xs k).1 = x1 ∧ (cgetD xs k).2 = x2 ∧ (cgetD ys k).1 = y1 ∧ (cgetD ys k).2 = y2 ∧ (corrW xs ys k).1 = s1 ∧ (corrW xs ys k).2 = s2 ∧
    (corrW xs ys (k + 1)).1 = t1 ∧ (corrW xs ys (k + 1)).2 = t2 ∧ Hid (∀ W, Calls Try.prog 143 #[.complex .f64 y1 y2] W fun e w' => e = .returned (.complex .f64 y1 c2) ∧ ∃ j, W.drewN j = w') ∧
    Hid (∀ W, Calls Try.prog 79 #[.complex .f64 x1 x2, .complex .f64 y1 c2] W fun e w' => e = .returned (.complex .f64 p q) ∧ ∃ j, W.drewN j = w') ∧
    Hid (∀ W, Calls Try.prog 96 #[.complex .f64 s1 s2, .complex .f64 p q] W fun e w' => e = .returned (.complex .f64 t1 t2) ∧ ∃ j, W.drewN j = w') := by
  obtain ⟨h1, h2⟩ := h k hk
  refine ⟨_, _, _, _, _, _, _, _, _, _, _, rfl, rfl, rfl, rfl, rfl, rfl, rfl, rfl, fun W => conj_any _ _ W, fun W => ?_, fun W => addD_fin _ _ _ _ W h2.1 h2.2⟩
  refine (implTimes_fin _ _ _ _ W h1.1 h1.2).mono fun e w' ⟨n, he, hw⟩ => ⟨he, n, hw⟩

set_option maxRecDepth 100000 in
set_option maxHeartbeats 800000 in
theorem corr_any (A B : Option Addr) (c d n m : Nat) (xs ys : List (Nat × Nat)) (w : World) (hr : Rd w A (c64s xs)) (hs : Rd w B (c64s ys)) (hx : xs.length = n) (hy : ys.length = n) (hn : n ≤ 2000) (hm : m = n) (h : CorrOk xs ys n) :
    Calls Try.prog 97 #[.slice A n c, .slice B m d] w fun e w' => e = .returned (.complex .f64 (corrW xs ys n).1 (corrW xs ys n).2) ∧ ∃ j, w.drewN j = w' := by
  subst hm
  have Hr := Lib.hid hr
  have Hs := Lib.hid hs
  have Hx := Lib.hid hx
  have Hy := Lib.hid hy
  have H := Lib.hid h
  clear hr hs hx hy h
  go_enter Try.func97, Try.ntmps97
  go_wp2_with fail
  go_loopw [5, 12] (fun s i wr => ∃ (k j : Nat), i = .int .i64 (k : Int) ∧ k ≤ m ∧ s = .complex .f64 (corrW xs ys k).1 (corrW xs ys k).2 ∧ wr = w.drewN j) (fun _ i _ => m - (intOf i).toNat)
  case atStart => exact ⟨0, 0, rfl, by omega, rfl, (World.drewN_zero w).symm⟩
  case round =>
    obtain ⟨k, j, rfl, hk, rfl, rfl⟩ := hrel
    by_cases hlt : k < m
    · obtain ⟨b, off, rfl, hbk, hc⟩ := Hr.out (by simp [c64s]; rw [Hx.out]; omega)
      obtain ⟨b2, off2, rfl, hbk2, hc2⟩ := Hs.out (by simp [c64s]; rw [Hy.out]; omega)
      have e1 := hc k _ (c64s_at (by rw [Hx.out]; exact hlt))
      have e2 := hc2 k _ (c64s_at (by rw [Hy.out]; exact hlt))
      obtain ⟨x1, x2, y1, y2, s1, s2, c2, p, q, t1, t2, a1, a2, a3, a4, a5, a6, a7, a8, T1, T2, T3⟩ := corr_pack H.out hlt
      rw [a1, a2] at e1
      rw [a3, a4] at e2
      rw [a5, a6]
      have A7 := Lib.hid a7
      have A8 := Lib.hid a8
      clear hc hc2 a1 a2 a3 a4 a5 a6 a7 a8
      go_wp2_with fail
      refine wp_region_rx (by kernel_rfl) (by kernel_rfl) ?_; apply Exists.intro
      repeat (first | (apply wpR_val; intro K hK; go_simp; refine ⟨rfl, hK _ ?_⟩; clear hK K) | (apply wpR_skip; intro K hK; go_simp; refine hK _ ?_; clear hK K))
      apply wpR_val (v := .complex .f64 y1 c2); intro K hK; go_simp; refine ⟨fun m => rcall (T1.out _), hK _ ?_⟩; clear hK K
      repeat (first | (apply wpR_val; intro K hK; go_simp; refine ⟨rfl, hK _ ?_⟩; clear hK K) | (apply wpR_skip; intro K hK; go_simp; refine hK _ ?_; clear hK K))
      apply wpR_val (v := .complex .f64 p q); intro K hK; go_simp; refine ⟨fun m => rcall (T2.out _), hK _ ?_⟩; clear hK K
      repeat (first | (apply wpR_val; intro K hK; go_simp; refine ⟨rfl, hK _ ?_⟩; clear hK K) | (apply wpR_skip; intro K hK; go_simp; refine hK _ ?_; clear hK K))
      apply wpR_val (v := .complex .f64 t1 t2); intro K hK; go_simp; refine ⟨fun m => rcall (T3.out _), hK _ ?_⟩; clear hK K
      repeat (first | (apply wpR_val; intro K hK; go_simp; refine ⟨rfl, hK _ ?_⟩; clear hK K) | (apply wpR_skip; intro K hK; go_simp; refine hK _ ?_; clear hK K))
      apply wpR_nil (Rs := []); rintro _ ⟨nq, rfl⟩
      go_wp2_with fail
      go_roundw
      case rel => exact ⟨k + 1, _, by go_num, by omega, by rw [A7.out, A8.out], rfl⟩
      case measure => simp [intOf]; omega
    · have hkn : m = k := by omega
      subst hkn
      go_wp2_with fail
      go_ret
      exact ⟨rfl, j, rfl⟩
end Go.Proofs.Ytignncjmbcdpaaa

/-
The pole that is fitted by least squares to the ringing of a mode. (Plain arithmetic.)
-/
namespace Go.Proofs.Ytignncjmbcdpaaa
open Go Ieee

/-- The value of a complex word. -/
def vRe (z : Nat × Nat) : Rat := fv .f64 z.1
def vIm (z : Nat × Nat) : Rat := fv .f64 z.2
/-- Ringing: words that are finite, in a ball. -/
structure RingAt (p z : Nat × Nat) (R : Rat) : Prop where
  f : finC z
  b : B2 (vRe z) (vIm z) R
theorem ring_step {p z : Nat × Nat} {R : Rat} (fp : finC p) (hp : B2 (vRe p) (vIm p) rho) (h : RingAt p z R) (hR : R ≤ 2 ^ 60) :
    RingAt p (prodC z p) (R + R / 2 ^ 38 + 1 / 2 ^ 190) ∧ ab (vRe (prodC z p) - (vRe z * vRe p - vIm z * vIm p)) ≤ R * rho / 2 ^ 51 + 1 / 2 ^ 197 ∧ ab (vIm (prodC z p) - (vRe z * vIm p + vIm z * vRe p)) ≤ R * rho / 2 ^ 51 + 1 / 2 ^ 197 := by
  obtain ⟨t1, t2, t3, t4⟩ := times64 h.f.1 h.f.2 fp.1 fp.2 h.b hp (by grind)
  have e1 : fv .f64 z.1 * fv .f64 p.1 + -(fv .f64 z.2 * fv .f64 p.2) = vRe z * vRe p - vIm z * vIm p := by unfold vRe vIm; grind
  rw [e1] at t3
  have b := h.b.mul hp
  have r0 := h.b.1
  have k := B2.box t3 t4
  have s := b.add k
  have q : B2 (vRe (prodC z p)) (vIm (prodC z p)) (R * rho + (R * rho / 2 ^ 51 + 1 / 2 ^ 197) * (3 / 2)) := by
    have e2 : vRe z * vRe p - vIm z * vIm p + (fv .f64 (mulRe z.1 z.2 p.1 p.2) - (vRe z * vRe p - vIm z * vIm p)) = fv .f64 (mulRe z.1 z.2 p.1 p.2) := by grind
    have e3 : vRe z * vIm p + vIm z * vRe p + (fv .f64 (mulIm z.1 z.2 p.1 p.2) - (fv .f64 z.1 * fv .f64 p.2 + fv .f64 z.2 * fv .f64 p.1)) = fv .f64 (mulIm z.1 z.2 p.1 p.2) := by unfold vRe vIm; grind
    rw [e2, e3] at s
    exact s
  refine ⟨⟨⟨t1, t2⟩, q.le ?_⟩, t3, t4⟩
  unfold rho; grind
theorem ring_all {p a : Nat × Nat} {R : Rat} (fp : finC p) (hp : B2 (vRe p) (vIm p) rho) (ha : RingAt p a R) (hR : R ≤ 2 ^ 30) (k : Nat) (hk : k ≤ 100) : RingAt p (zC p a k) (R * (1 + (k : Rat) / 2 ^ 30) + (k : Rat) / 2 ^ 180) := by
  induction k with
  | zero =>
    have e : R * (1 + ((0 : Nat) : Rat) / 2 ^ 30) + ((0 : Nat) : Rat) / 2 ^ 180 = R := by simp; grind
    rw [e]; exact ha
  | succ k ih =>
    have h := ih (by omega)
    have r0 := ha.b.1
    have k0 : (0 : Rat) ≤ (k : Rat) := Rat.natCast_nonneg
    have k1 : (k : Rat) ≤ 100 := by
      have := Rat.natCast_le_natCast.2 (show k ≤ 100 by omega)
      simpa using this
    have kR := Rat.mul_nonneg k0 r0
    have kR2 : (k : Rat) * R ≤ 100 * R := Rat.mul_le_mul_of_nonneg_right k1 r0
    have ec : ((k + 1 : Nat) : Rat) = (k : Rat) + 1 := by simp
    have s := (ring_step fp hp h (by grind)).1
    rw [ec]
    exact ⟨s.f, s.b.le (by grind)⟩
end Go.Proofs.Ytignncjmbcdpaaa

/-
Sums of products of a ringing with its conjugates. (Plain arithmetic.)
-/
namespace Go.Proofs.Ytignncjmbcdpaaa
open Go Ieee

/-- A product of complex numbers in double precision, any factors. -/
theorem times64g {a b c d : Nat} {R S : Rat} (fa : fin .f64 a) (fb : fin .f64 b) (fc : fin .f64 c) (fd : fin .f64 d) (h : B2 (fv .f64 a) (fv .f64 b) R) (g : B2 (fv .f64 c) (fv .f64 d) S) (hR : R * S ≤ 2 ^ 101) :
    fin .f64 (mulRe a b c d) ∧ fin .f64 (mulIm a b c d) ∧ ab (fv .f64 (mulRe a b c d) - (fv .f64 a * fv .f64 c + -(fv .f64 b * fv .f64 d))) ≤ R * S / 2 ^ 51 + 1 / 2 ^ 197 ∧
      ab (fv .f64 (mulIm a b c d) - (fv .f64 a * fv .f64 d + fv .f64 b * fv .f64 c)) ≤ R * S / 2 ^ 51 + 1 / 2 ^ 197 := by
  obtain ⟨S1, S2⟩ := h.prods g
  have n1 := ab_nonneg (fv .f64 a * fv .f64 c)
  have n2 := ab_nonneg (fv .f64 b * fv .f64 d)
  have n3 := ab_nonneg (fv .f64 a * fv .f64 d)
  have n4 := ab_nonneg (fv .f64 b * fv .f64 c)
  obtain ⟨f1, e1, b1⟩ := prod64 fa fc (L := 2 ^ 101) (by grind) (by grind)
  obtain ⟨f2, e2, b2⟩ := prod64 fb fd (L := 2 ^ 101) (by grind) (by grind)
  obtain ⟨f3, e3, b3⟩ := prod64 fa fd (L := 2 ^ 101) (by grind) (by grind)
  obtain ⟨f4, e4, b4⟩ := prod64 fb fc (L := 2 ^ 101) (by grind) (by grind)
  obtain ⟨g1, _, x1, _⟩ := sum64 f1 f2 (L := 2 ^ 110) (by grind) (by grind) (by grind)
  obtain ⟨_, g2, _, x2⟩ := sum64 f3 f4 (L := 2 ^ 110) (by grind) (by grind) (by grind)
  have e2' : ab (-fv .f64 (fo .mul .f64 b d) - -(fv .f64 b * fv .f64 d)) ≤ ab (-(fv .f64 b * fv .f64 d)) / 2 ^ 53 + 1 / 2 ^ 200 := by
    rw [ab_neg, show -fv .f64 (fo .mul .f64 b d) - -(fv .f64 b * fv .f64 d) = -(fv .f64 (fo .mul .f64 b d) - fv .f64 b * fv .f64 d) by grind, ab_neg]; exact e2
  exact ⟨g1, g2, err_dbl e1 e2' x1 (by rw [ab_neg]; exact S1), err_dbl e3 e4 x2 S2⟩
/-- A product with a conjugate. -/
theorem conj_times {x y : Nat × Nat} {R S : Rat} (fx : finC x) (fy : finC y) (hx : B2 (vRe x) (vIm x) R) (hy : B2 (vRe y) (vIm y) S) (hR : R * S ≤ 2 ^ 101) :
    finC (prodC x (conjW y)) ∧ ab (vRe (prodC x (conjW y)) - (vRe x * vRe y + vIm x * vIm y)) ≤ R * S / 2 ^ 51 + 1 / 2 ^ 197 ∧ ab (vIm (prodC x (conjW y)) - (vIm x * vRe y - vRe x * vIm y)) ≤ R * S / 2 ^ 51 + 1 / 2 ^ 197 := by
  obtain ⟨n1, n2⟩ := neg_fin fy.2
  have hy' : B2 (fv .f64 y.1) (fv .f64 (Op.negFloat .f64 y.2)) S := by rw [n2]; exact ⟨hy.1, by have := hy.2; unfold vRe vIm at this; grind⟩
  obtain ⟨t1, t2, t3, t4⟩ := times64g fx.1 fx.2 fy.1 n1 hx hy' hR
  rw [n2] at t3 t4
  refine ⟨⟨t1, t2⟩, ?_, ?_⟩
  · have e : vRe x * vRe y + vIm x * vIm y = fv .f64 x.1 * fv .f64 y.1 + -(fv .f64 x.2 * -fv .f64 y.2) := by unfold vRe vIm; grind
    rw [e]; exact t3
  · have e : vIm x * vRe y - vRe x * vIm y = fv .f64 x.1 * -fv .f64 y.2 + fv .f64 x.2 * fv .f64 y.1 := by unfold vRe vIm; grind
    rw [e]; exact t4
/-- The exact sum of the squares. -/
def tsum (z : Nat → Nat × Nat) : Nat → Rat
  | 0 => 0
  | k + 1 => tsum z k + (vRe (z k) * vRe (z k) + vIm (z k) * vIm (z k))
theorem tsum_nonneg (z : Nat → Nat × Nat) (k : Nat) : 0 ≤ tsum z k := by
  induction k with
  | zero => exact Rat.le_refl
  | succ k ih =>
    have q1 := sq_nonneg (vRe (z k))
    have q2 := sq_nonneg (vIm (z k))
    show 0 ≤ tsum z k + _
    grind
/-- A sum of k products is near V times the sum of the squares, part by part. -/
structure SumAt (s : Nat × Nat) (X Y T e : Rat) : Prop where
  f : finC s
  re : ab (vRe s - X * T) ≤ e
  im : ab (vIm s - Y * T) ≤ e
/-- One addition of a part. -/
theorem part_step {s q : Nat} {X T t e g : Rat} (fs : fin .f64 s) (fq : fin .f64 q) (h : ab (fv .f64 s - X * T) ≤ e) (hq : ab (fv .f64 q - X * t) ≤ g) (hX : ab X ≤ 2) (hT : 0 ≤ T) (ht : 0 ≤ t) (hT2 : T + t ≤ 2 ^ 60) (he : e ≤ 2 ^ 60) (hg : g ≤ 2 ^ 60) :
    fin .f64 (fo .add .f64 s q) ∧ ab (fv .f64 (fo .add .f64 s q) - X * (T + t)) ≤ (e + g) * (1 + 1 / 2 ^ 50) + (ab X * (T + t)) / 2 ^ 53 + 1 / 2 ^ 200 := by
  obtain ⟨k1, k2, k3⟩ := consts64
  have t1 := ab_add (fv .f64 s - X * T) (fv .f64 q - X * t)
  have e1 : fv .f64 s - X * T + (fv .f64 q - X * t) = fv .f64 s + fv .f64 q - X * (T + t) := by grind
  rw [e1] at t1
  have t2 := ab_tri (fv .f64 s + fv .f64 q) (X * (T + t))
  have hp : ab (X * (T + t)) = ab X * (T + t) := by rw [ab_mul, ab_of_nonneg (x := T + t) (by grind)]
  rw [hp] at t2
  have hb := mul_mono hX hT2 (ab_nonneg X) (by grind)
  have n := ab_nonneg (fv .f64 s + fv .f64 q - X * (T + t))
  have ad := add_spec fs fq (by grind)
  have er := ad.2.1
  rw [k1] at er
  have t3 := ab_add (fv .f64 (fo .add .f64 s q) - (fv .f64 s + fv .f64 q)) (fv .f64 s + fv .f64 q - X * (T + t))
  rw [show fv .f64 (fo .add .f64 s q) - (fv .f64 s + fv .f64 q) + (fv .f64 s + fv .f64 q - X * (T + t)) = fv .f64 (fo .add .f64 s q) - X * (T + t) by grind] at t3
  refine ⟨ad.1, ?_⟩
  clear ad hb hp k1 k3 e1
  generalize ab (fv .f64 s + fv .f64 q - X * (T + t)) = A at *
  generalize ab (fv .f64 s + fv .f64 q) = B at *
  generalize ab (fv .f64 (fo .add .f64 s q) - (fv .f64 s + fv .f64 q)) = C at *
  generalize ab (fv .f64 (fo .add .f64 s q) - X * (T + t)) = D at *
  generalize ab X * (T + t) = P at *
  grind
end Go.Proofs.Ytignncjmbcdpaaa

/-
The quotient of the sums is near the pole. (Plain arithmetic.)
-/
namespace Go.Proofs.Ytignncjmbcdpaaa
open Go Ieee

def eAt (k T U : Rat) : Rat := k * T / 2 ^ 52 + k * U * (11 / 4) / 2 ^ 51 + k / 2 ^ 150
/-- One addition, with the bound that grows. -/
theorem sum_step {s q : Nat × Nat} {X Y k T t U : Rat} (h : SumAt s X Y T (eAt k T U)) (fq : finC q) (h1 : ab (vRe q - X * t) ≤ U * (21 / 8) / 2 ^ 51 + 1 / 2 ^ 160) (h2 : ab (vIm q - Y * t) ≤ U * (21 / 8) / 2 ^ 51 + 1 / 2 ^ 160)
    (hX : ab X ≤ 5 / 4) (hY : ab Y ≤ 5 / 4) (hk : 0 ≤ k) (hk2 : k ≤ 100) (hT : 0 ≤ T) (ht : 0 ≤ t) (hT2 : T + t ≤ 2 ^ 50) (hU : 0 ≤ U) (hU2 : U ≤ 2 ^ 40) :
    SumAt (fo .add .f64 s.1 q.1, fo .add .f64 s.2 q.2) X Y (T + t) (eAt (k + 1) (T + t) U) := by
  have kT := Rat.mul_nonneg hk hT
  have kt := Rat.mul_nonneg hk ht
  have kU := Rat.mul_nonneg hk hU
  have kT2 : k * T ≤ 100 * T := Rat.mul_le_mul_of_nonneg_right hk2 hT
  have kU2 : k * U ≤ 100 * U := Rat.mul_le_mul_of_nonneg_right hk2 hU
  have key : ∀ Z : Rat, ab Z ≤ 5 / 4 → (eAt k T U + (U * (21 / 8) / 2 ^ 51 + 1 / 2 ^ 160)) * (1 + 1 / 2 ^ 50) + (ab Z * (T + t)) / 2 ^ 53 + 1 / 2 ^ 200 ≤ eAt (k + 1) (T + t) U := fun Z hZ => by
    have b := Rat.mul_le_mul_of_nonneg_right hZ (show 0 ≤ T + t by grind)
    unfold eAt
    generalize ab Z * (T + t) = A at *
    grind
  have e60 : eAt k T U ≤ 2 ^ 60 := by unfold eAt; grind
  obtain ⟨r1, r2⟩ := part_step h.f.1 fq.1 h.re h1 (by grind) hT ht (by grind) e60 (by grind)
  obtain ⟨i1, i2⟩ := part_step h.f.2 fq.2 h.im h2 (by grind) hT ht (by grind) e60 (by grind)
  exact ⟨⟨r1, i1⟩, Rat.le_trans r2 (key X hX), Rat.le_trans i2 (key Y hY)⟩
theorem chain2 {z a b g h T : Rat} (t : z ≤ a + b) (ha : a ≤ g) (hb : b ≤ h) (hT : h + g ≤ T) : z ≤ T := by grind
/-- A term of the sum of squares, of the sum with the next. -/
theorem term_sq {p z : Nat × Nat} {R : Rat} (h : RingAt p z R) (hR : R ≤ 2 ^ 20) : finC (prodC z (conjW z)) ∧ ab (vRe (prodC z (conjW z)) - 1 * (vRe z * vRe z + vIm z * vIm z)) ≤ R * R / 2 ^ 51 + 1 / 2 ^ 197 ∧ ab (vIm (prodC z (conjW z)) - 0 * (vRe z * vRe z + vIm z * vIm z)) ≤ R * R / 2 ^ 51 + 1 / 2 ^ 197 := by
  have r0 := h.b.1
  have m := mul_mono hR hR r0 (by grind)
  obtain ⟨f, a, b⟩ := conj_times h.f h.f h.b h.b (by grind)
  refine ⟨f, ?_, ?_⟩
  · rw [Rat.one_mul]; exact a
  · rw [Rat.zero_mul]
    have e : vIm z * vRe z - vRe z * vIm z = 0 := by grind
    rw [e] at b; exact b
theorem term_next {p z : Nat × Nat} {R : Rat} (fp : finC p) (hp : B2 (vRe p) (vIm p) rho) (h : RingAt p z R) (h' : RingAt p (prodC z p) R) (hR : R ≤ 2 ^ 20) :
    finC (prodC (prodC z p) (conjW z)) ∧ ab (vRe (prodC (prodC z p) (conjW z)) - vRe p * (vRe z * vRe z + vIm z * vIm z)) ≤ R * R * (5 / 2) * (1 + 1 / 2 ^ 30) / 2 ^ 51 + 1 / 2 ^ 170 ∧
      ab (vIm (prodC (prodC z p) (conjW z)) - vIm p * (vRe z * vRe z + vIm z * vIm z)) ≤ R * R * (5 / 2) * (1 + 1 / 2 ^ 30) / 2 ^ 51 + 1 / 2 ^ 170 := by
  have r0 := h.b.1
  have m := mul_mono hR hR r0 (by grind)
  have m0 := Rat.mul_nonneg r0 r0
  obtain ⟨_, e1, e2⟩ := ring_step fp hp h (by grind)
  obtain ⟨f, a, b⟩ := conj_times h'.f h.f h'.b h.b (by grind)
  have E := B2.box e1 e2
  have c1 := cauchy E h.b
  have hz : B2 (-vIm z) (vRe z) R := ⟨r0, by have := h.b.2; grind⟩
  have c2 := cauchy E hz
  have q1 : vRe (prodC z p) * vRe z + vIm (prodC z p) * vIm z = vRe p * (vRe z * vRe z + vIm z * vIm z) + ((vRe (prodC z p) - (vRe z * vRe p - vIm z * vIm p)) * vRe z + (vIm (prodC z p) - (vRe z * vIm p + vIm z * vRe p)) * vIm z) := by grind
  have q2 : vIm (prodC z p) * vRe z - vRe (prodC z p) * vIm z = vIm p * (vRe z * vRe z + vIm z * vIm z) + ((vRe (prodC z p) - (vRe z * vRe p - vIm z * vIm p)) * -vIm z + (vIm (prodC z p) - (vRe z * vIm p + vIm z * vRe p)) * vRe z) := by grind
  have hb : (R * rho / 2 ^ 51 + 1 / 2 ^ 197) * (3 / 2) * R + (R * R / 2 ^ 51 + 1 / 2 ^ 197) ≤ R * R * (5 / 2) * (1 + 1 / 2 ^ 30) / 2 ^ 51 + 1 / 2 ^ 170 := by
    unfold rho
    clear E c1 c2 hz q1 q2 a b e1 e2
    grind
  refine ⟨f, ?_, ?_⟩
  · have t := ab_add (vRe (prodC (prodC z p) (conjW z)) - (vRe (prodC z p) * vRe z + vIm (prodC z p) * vIm z)) ((vRe (prodC z p) - (vRe z * vRe p - vIm z * vIm p)) * vRe z + (vIm (prodC z p) - (vRe z * vIm p + vIm z * vRe p)) * vIm z)
    rw [show vRe (prodC (prodC z p) (conjW z)) - (vRe (prodC z p) * vRe z + vIm (prodC z p) * vIm z) + ((vRe (prodC z p) - (vRe z * vRe p - vIm z * vIm p)) * vRe z + (vIm (prodC z p) - (vRe z * vIm p + vIm z * vRe p)) * vIm z) = vRe (prodC (prodC z p) (conjW z)) - vRe p * (vRe z * vRe z + vIm z * vIm z) by rw [q1]; grind] at t
    exact chain2 t a c1 hb
  · have t := ab_add (vIm (prodC (prodC z p) (conjW z)) - (vIm (prodC z p) * vRe z - vRe (prodC z p) * vIm z)) ((vRe (prodC z p) - (vRe z * vRe p - vIm z * vIm p)) * -vIm z + (vIm (prodC z p) - (vRe z * vIm p + vIm z * vRe p)) * vRe z)
    rw [show vIm (prodC (prodC z p) (conjW z)) - (vIm (prodC z p) * vRe z - vRe (prodC z p) * vIm z) + ((vRe (prodC z p) - (vRe z * vRe p - vIm z * vIm p)) * -vIm z + (vIm (prodC z p) - (vRe z * vIm p + vIm z * vRe p)) * vRe z) = vIm (prodC (prodC z p) (conjW z)) - vIm p * (vRe z * vRe z + vIm z * vIm z) by rw [q2]; grind] at t
    exact chain2 t b c2 hb
end Go.Proofs.Ytignncjmbcdpaaa

/-
Least squares: the fitted pole is near the pole. (Plain arithmetic.)
-/
namespace Go.Proofs.Ytignncjmbcdpaaa
open Go Ieee

theorem le_of_mul {x κ d : Rat} (hd : 0 < d) (h : x * d ≤ κ * d) : x ≤ κ := by
  rcases rat_lt_or_le κ x with h1 | h1
  · exfalso
    have := Rat.mul_lt_mul_of_pos_right h1 hd
    grind
  · exact h1
theorem big_ok {T E den : Rat} (hET : E * T ≤ T * T / 2 ^ 43) (hEE : E * E ≤ E * T / 2 ^ 43) (hdlo : T * T * (1 - 1 / 2 ^ 41) ≤ den) (hTT : 0 < T * T) (hET0 : 0 ≤ E * T) : 5 / 2 * E * (T + E) + 5 / 2 * E * E ≤ 501 / 100 / 2 ^ 44 * den := by grind
theorem quot_near {N D : Nat × Nat} {Pr Pi T E : Rat} (hN : SumAt N Pr Pi T E) (hD : SumAt D 1 0 T E) (hT : 1 / 2 ^ 20 ≤ T) (hT2 : T ≤ 2 ^ 50) (hE0 : 0 ≤ E) (hE : E ≤ T / 2 ^ 43) (hP : B2 Pr Pi rho) :
    fin .f64 (quoRe N.1 N.2 D.1 D.2) ∧ fin .f64 (quoIm N.1 N.2 D.1 D.2) ∧ ab (fv .f64 (quoRe N.1 N.2 D.1 D.2) - Pr) ≤ 13 / 2 ^ 45 ∧ ab (fv .f64 (quoIm N.1 N.2 D.1 D.2) - Pi) ≤ 13 / 2 ^ 45 ∧ (feq .f64 D.1 0 && feq .f64 D.2 0) = false := by
  obtain ⟨fN, n1, n2⟩ := hN
  obtain ⟨fD, d1, d2⟩ := hD
  unfold vRe vIm at *
  have fa := fN.1
  have fb := fN.2
  have fc := fD.1
  have fd := fD.2
  obtain ⟨a, ha⟩ : ∃ a, fv .f64 N.1 = a := ⟨_, rfl⟩
  obtain ⟨b, hb⟩ : ∃ b, fv .f64 N.2 = b := ⟨_, rfl⟩
  obtain ⟨c, hc⟩ : ∃ c, fv .f64 D.1 = c := ⟨_, rfl⟩
  obtain ⟨d, hd⟩ : ∃ d, fv .f64 D.2 = d := ⟨_, rfl⟩
  rw [ha] at n1
  rw [hb] at n2
  rw [hc, Rat.one_mul] at d1
  rw [hd, Rat.zero_mul, show d - 0 = d by grind] at d2
  obtain ⟨c1, c2⟩ := le_ab (c - T)
  have hc0 : T - E ≤ c := by grind
  have hc3 : c ≤ T + E := by grind
  have cpos : 0 < c := by grind
  have hden0 : (T - E) * (T - E) ≤ c * c := mul_mono hc0 hc0 (by grind) (by grind)
  have qd := sq_nonneg d
  have hTT : 0 < T * T := Rat.mul_pos (by grind) (by grind)
  have hET : E * T ≤ T * T / 2 ^ 43 := by
    have := Rat.mul_le_mul_of_nonneg_right hE (show 0 ≤ T by grind)
    grind
  have hEE : E * E ≤ E * T / 2 ^ 43 := by
    have := Rat.mul_le_mul_of_nonneg_left hE hE0
    clear n1 n2 d1 d2 c1 c2 hden0 qd hTT hET
    grind
  have hEE0 := Rat.mul_nonneg hE0 hE0
  have hET0 : 0 ≤ E * T := Rat.mul_nonneg hE0 (by grind)
  obtain ⟨den, hden⟩ : ∃ den, c * c + d * d = den := ⟨_, rfl⟩
  have hdlo : T * T * (1 - 1 / 2 ^ 41) ≤ den := by rw [← hden]; grind
  have dpos : 0 < den := by grind
  obtain ⟨X, hX⟩ : ∃ X, (a * c + b * d) / den = X := ⟨_, rfl⟩
  obtain ⟨Y, hY⟩ : ∃ Y, (b * c - a * d) / den = Y := ⟨_, rfl⟩
  have eX : X * den = a * c + b * d := by rw [← hX]; exact Rat.div_mul_cancel (by grind)
  have eY : Y * den = b * c - a * d := by rw [← hY]; exact Rat.div_mul_cancel (by grind)
  -- the pole's parts
  have hPs : ab Pr + ab Pi ≤ 3 / 2 := by
    have s1 := ab_sq Pr
    have s2 := ab_sq Pi
    have s3 := sq_nonneg (ab Pr - ab Pi)
    have h2 := hP.2
    have n1 := ab_nonneg Pr
    have n2 := ab_nonneg Pi
    have := ab_le_of_sq (x := ab Pr + ab Pi) (y := 3 / 2) (by grind) (by unfold rho at h2; grind)
    rwa [ab_of_nonneg (by grind)] at this
  have nr := ab_nonneg Pr
  have ni := ab_nonneg Pi
  have hprE : ab Pr * E + ab Pi * E ≤ 3 / 2 * E := by
    have := Rat.mul_le_mul_of_nonneg_right hPs hE0
    grind
  have hu : ab (a - (Pr * c - Pi * d)) ≤ 5 / 2 * E := by
    have t1 := ab_add (a - Pr * T) (-(Pr * (c - T)) + Pi * d)
    have t2 := ab_add (-(Pr * (c - T))) (Pi * d)
    rw [ab_neg, ab_mul, ab_mul] at t2
    have m1 := Rat.mul_le_mul_of_nonneg_left d1 nr
    have m2 := Rat.mul_le_mul_of_nonneg_left d2 ni
    rw [show a - Pr * T + (-(Pr * (c - T)) + Pi * d) = a - (Pr * c - Pi * d) by grind] at t1
    grind
  have hv : ab (b - (Pr * d + Pi * c)) ≤ 5 / 2 * E := by
    have t1 := ab_add (b - Pi * T) (-(Pi * (c - T)) + -(Pr * d))
    have t2 := ab_add (-(Pi * (c - T))) (-(Pr * d))
    rw [ab_neg, ab_neg, ab_mul, ab_mul] at t2
    have m1 := Rat.mul_le_mul_of_nonneg_left d1 ni
    have m2 := Rat.mul_le_mul_of_nonneg_left d2 nr
    rw [show b - Pi * T + (-(Pi * (c - T)) + -(Pr * d)) = b - (Pr * d + Pi * c) by grind] at t1
    grind
  obtain ⟨u, hu'⟩ : ∃ u, a - (Pr * c - Pi * d) = u := ⟨_, rfl⟩
  obtain ⟨v, hv'⟩ : ∃ v, b - (Pr * d + Pi * c) = v := ⟨_, rfl⟩
  rw [hu'] at hu
  rw [hv'] at hv
  have ac : ab c ≤ T + E := by rw [ab_of_nonneg (by grind)]; exact hc3
  have nu := ab_nonneg u
  have nv := ab_nonneg v
  have big : 5 / 2 * E * (T + E) + 5 / 2 * E * E ≤ 501 / 100 / 2 ^ 44 * den := big_ok hET hEE hdlo hTT hET0
  have m1 := mul_mono hu ac nu (by grind)
  have m2 := mul_mono hv d2 nv hE0
  have m3 := mul_mono hv ac nv (by grind)
  have m4 := mul_mono hu d2 nu hE0
  have hXP : ab (X - Pr) ≤ 501 / 100 / 2 ^ 44 := by
    refine le_of_mul dpos ?_
    have e : (X - Pr) * den = u * c + v * d := by rw [← hu', ← hv', ← hden] at *; grind
    have e2 : ab (X - Pr) * den = ab (u * c + v * d) := by rw [← e, ab_mul, ab_of_nonneg (Rat.le_of_lt dpos)]
    have t := ab_add (u * c) (v * d)
    rw [ab_mul, ab_mul] at t
    rw [e2]
    clear e e2 hX hY eX eY hu' hv' ha hb hc hd
    grind
  have hYP : ab (Y - Pi) ≤ 501 / 100 / 2 ^ 44 := by
    refine le_of_mul dpos ?_
    have e : (Y - Pi) * den = v * c + -(u * d) := by rw [← hu', ← hv', ← hden] at *; grind
    have e2 : ab (Y - Pi) * den = ab (v * c + -(u * d)) := by rw [← e, ab_mul, ab_of_nonneg (Rat.le_of_lt dpos)]
    have t := ab_add (v * c) (-(u * d))
    rw [ab_neg, ab_mul, ab_mul] at t
    rw [e2]
    clear e e2 hX hY eX eY hu' hv' ha hb hc hd hXP
    grind
  obtain ⟨pr1, pr2⟩ := hP.parts
  unfold rho at pr1 pr2
  have tX := ab_tri X Pr
  have tY := ab_tri Y Pi
  have exA : a = X * c - Y * d := by
    have h : (X * c - Y * d) * den = a * den := by
      have : (X * c - Y * d) * den = (X * den) * c - (Y * den) * d := by grind
      rw [this, eX, eY, ← hden]; grind
    exact (Rat.le_antisymm (le_of_mul dpos (by rw [h]; exact Rat.le_refl)) (le_of_mul dpos (by rw [h]; exact Rat.le_refl))).symm
  have exB : b = X * d + Y * c := by
    have h : (X * d + Y * c) * den = b * den := by
      have : (X * d + Y * c) * den = (X * den) * d + (Y * den) * c := by grind
      rw [this, eX, eY, ← hden]; grind
    exact (Rat.le_antisymm (le_of_mul dpos (by rw [h]; exact Rat.le_refl)) (le_of_mul dpos (by rw [h]; exact Rat.le_refl))).symm
  have hlo : pw (-300) ≤ ab c := by
    have h1 : pw (-300) ≤ pw (-20) := pw_mono (by omega)
    have h2 : pw (-20) = 1 / 2 ^ 20 := by unfold pw; grind
    have h3 : 1 / 2 ^ 21 ≤ c := by grind
    have h4 : pw (-300) ≤ pw (-21) := pw_mono (by omega)
    have h5 : pw (-21) = 1 / 2 ^ 21 := by unfold pw; grind
    rw [ab_of_nonneg (by grind)]; grind
  have aA := ab_tri a (Pr * T)
  have aB := ab_tri b (Pi * T)
  have pT1 : ab (Pr * T) ≤ 2 ^ 51 := by
    rw [ab_mul, ab_of_nonneg (x := T) (by grind)]
    have := mul_mono pr1 hT2 nr (by grind)
    grind
  have pT2 : ab (Pi * T) ≤ 2 ^ 51 := by
    rw [ab_mul, ab_of_nonneg (x := T) (by grind)]
    have := mul_mono pr2 hT2 ni (by grind)
    grind
  obtain ⟨⟨g1, g2⟩, g3, g4⟩ := quot_err (X := X) (Y := Y) (M := 9 / 8) fa fb fc fd (.inl (by rw [hc]; exact hlo)) (by rw [hc]; grind) (by rw [hd]; grind) (by grind) (by grind) (by grind) (by rw [ha, hc, hd]; exact exA) (by rw [hb, hc, hd]; exact exB) (by rw [ha]; grind) (by rw [hb]; grind)
  have s1 := ab_add (fv .f64 (quoRe N.1 N.2 D.1 D.2) - X) (X - Pr)
  have s2 := ab_add (fv .f64 (quoIm N.1 N.2 D.1 D.2) - Y) (Y - Pi)
  rw [show fv .f64 (quoRe N.1 N.2 D.1 D.2) - X + (X - Pr) = fv .f64 (quoRe N.1 N.2 D.1 D.2) - Pr by grind] at s1
  rw [show fv .f64 (quoIm N.1 N.2 D.1 D.2) - Y + (Y - Pi) = fv .f64 (quoIm N.1 N.2 D.1 D.2) - Pi by grind] at s2
  refine ⟨g1, g3, by clear s2 g4; grind, by clear s1 g2; grind, ?_⟩
  have hz : feq .f64 D.1 0 = false := by
    cases h : feq .f64 D.1 0
    · rfl
    · have := (feq_iff fc (zero_fin .f64).1).1 h
      rw [hc, (zero_fin .f64).2] at this
      grind
  rw [hz]; rfl
end Go.Proofs.Ytignncjmbcdpaaa

/-
Least squares over the ringing of a mode: all is finite, and the pole is met. (Plain arithmetic.)
-/
namespace Go.Proofs.Ytignncjmbcdpaaa
open Go Ieee

/-- The lists z[1:] and z[:n-1]. -/
def nxt (p a : Nat × Nat) (n : Nat) : List (Nat × Nat) := (zList p a n).drop 1
def fst' (p a : Nat × Nat) (n : Nat) : List (Nat × Nat) := (zList p a n).take (n - 1)
theorem nxt_at {p a : Nat × Nat} {n k : Nat} (h : k < n - 1) : cgetD (nxt p a n) k = zC p a (k + 1) := by
  unfold cgetD nxt zList
  simp only [List.getD, List.getElem?_drop, List.getElem?_map]
  rw [List.getElem?_range (by omega), Nat.add_comm 1 k]
  rfl
theorem fst_at {p a : Nat × Nat} {n k : Nat} (h : k < n - 1) : cgetD (fst' p a n) k = zC p a k := by
  unfold cgetD fst' zList
  simp only [List.getD, List.getElem?_take, if_pos h, List.getElem?_map]
  rw [List.getElem?_range (by omega)]
  rfl
/-- The size of a start. -/
def siz (a : Nat × Nat) : Rat := ab (vRe a) + ab (vIm a)
theorem siz_nonneg (a : Nat × Nat) : 0 ≤ siz a := by
  have := ab_nonneg (vRe a)
  have := ab_nonneg (vIm a)
  unfold siz; grind
structure FitIn (p a : Nat × Nat) : Prop where
  fp : finC p
  fa : finC a
  hp : B2 (vRe p) (vIm p) rho
  hR : siz a ≤ 2 ^ 12
def uU (a : Nat × Nat) : Rat := siz a * siz a + 1 / 2 ^ 100
theorem FitIn.ring {p a : Nat × Nat} (h : FitIn p a) (k : Nat) (hk : k ≤ 100) : RingAt p (zC p a k) (siz a * (1 + 1 / 2 ^ 20) + 1 / 2 ^ 170) := by
  have b : RingAt p a (siz a) := ⟨h.fa, B2.l1 _ _⟩
  have r := ring_all h.fp h.hp b (by have := h.hR; grind) k hk
  have s0 := siz_nonneg a
  have k0 : (0 : Rat) ≤ (k : Rat) := Rat.natCast_nonneg
  have k1 : (k : Rat) ≤ 100 := by
    have := Rat.natCast_le_natCast.2 hk
    simpa using this
  have kR : (k : Rat) * siz a ≤ 100 * siz a := Rat.mul_le_mul_of_nonneg_right k1 s0
  exact ⟨r.f, r.b.le (by grind)⟩
theorem rad_le {R : Rat} (h0 : 0 ≤ R) (h1 : R ≤ 2 ^ 12) : R * (1 + 1 / 2 ^ 20) + 1 / 2 ^ 170 ≤ 2 ^ 20 ∧ (R * (1 + 1 / 2 ^ 20) + 1 / 2 ^ 170) * (R * (1 + 1 / 2 ^ 20) + 1 / 2 ^ 170) ≤ (R * R + 1 / 2 ^ 100) * (1 + 1 / 2 ^ 18) := by
  have q := Rat.mul_nonneg h0 h0
  exact ⟨by grind, by grind⟩
theorem tsum_le {p a : Nat × Nat} (h : FitIn p a) (k : Nat) (hk : k ≤ 100) : tsum (zC p a) k ≤ (k : Rat) * 2 ^ 26 := by
  induction k with
  | zero => show (0 : Rat) ≤ _; simp
  | succ k ih =>
    have i := ih (by omega)
    have r := (h.ring k (by omega)).b.2
    have s0 := siz_nonneg a
    obtain ⟨_, r2⟩ := rad_le s0 h.hR
    have m := mul_mono h.hR h.hR s0 (by grind)
    have ec : ((k + 1 : Nat) : Rat) = (k : Rat) + 1 := by simp
    rw [ec]
    show tsum (zC p a) k + _ ≤ _
    grind
theorem parts54 {x y : Rat} (h : B2 x y rho) : ab x ≤ 5 / 4 ∧ ab y ≤ 5 / 4 := by
  obtain ⟨a, b⟩ := h.parts
  unfold rho at a b
  exact ⟨by grind, by grind⟩
/-- **THE SUMS.** -/
theorem corr_sums {p a : Nat × Nat} (h : FitIn p a) (n : Nat) (hn : n ≤ 100) (k : Nat) (hk : k ≤ n - 1) :
    SumAt (corrW (nxt p a n) (fst' p a n) k) (vRe p) (vIm p) (tsum (zC p a) k) (eAt (k : Rat) (tsum (zC p a) k) (uU a)) ∧
    SumAt (corrW (fst' p a n) (fst' p a n) k) 1 0 (tsum (zC p a) k) (eAt (k : Rat) (tsum (zC p a) k) (uU a)) ∧
    (∀ j, j < k → finC (prodC (cgetD (nxt p a n) j) (conjW (cgetD (fst' p a n) j))) ∧ finC (prodC (cgetD (fst' p a n) j) (conjW (cgetD (fst' p a n) j)))) := by
  have s0 := siz_nonneg a
  obtain ⟨r1, r2⟩ := rad_le s0 h.hR
  have m := mul_mono h.hR h.hR s0 (by grind)
  have U0 : 0 ≤ uU a := by have := Rat.mul_nonneg s0 s0; unfold uU; grind
  have U1 : uU a ≤ 2 ^ 40 := by unfold uU; grind
  obtain ⟨pr, pi⟩ := parts54 h.hp
  induction k with
  | zero =>
    obtain ⟨z1, z2⟩ := zero_fin .f64
    have e : eAt ((0 : Nat) : Rat) (tsum (zC p a) 0) (uU a) = 0 := by unfold eAt; simp; grind
    have e0 : ∀ X : Rat, ab (fv .f64 0 - X * 0) ≤ 0 := fun X => by rw [z2, show (0 : Rat) - X * 0 = 0 by grind, ab_of_nonneg Rat.le_refl]; exact Rat.le_refl
    refine ⟨⟨⟨z1, z1⟩, ?_, ?_⟩, ⟨⟨z1, z1⟩, ?_, ?_⟩, fun j hj => absurd hj (Nat.not_lt_zero _)⟩ <;> (rw [e]; exact e0 _)
  | succ k ih =>
    obtain ⟨i1, i2, i3⟩ := ih (by omega)
    have hk' : k < n - 1 := by omega
    have rk := h.ring k (by omega)
    have rk' : RingAt p (prodC (zC p a k) p) _ := h.ring (k + 1) (by omega)
    have T0 := tsum_nonneg (zC p a) k
    have T1 := tsum_le h (k + 1) (by omega)
    have k0 : (0 : Rat) ≤ (k : Rat) := Rat.natCast_nonneg
    have k1 : (k : Rat) ≤ 100 := by
      have := Rat.natCast_le_natCast.2 (show k ≤ 100 by omega)
      simpa using this
    have k2 : ((k + 1 : Nat) : Rat) ≤ 100 := by
      have := Rat.natCast_le_natCast.2 (show k + 1 ≤ 100 by omega)
      simpa using this
    have ec : ((k + 1 : Nat) : Rat) = (k : Rat) + 1 := by simp
    have q1 := sq_nonneg (vRe (zC p a k))
    have q2 := sq_nonneg (vIm (zC p a k))
    obtain ⟨g1, g2, g3⟩ := term_next h.fp h.hp rk rk' r1
    obtain ⟨d1, d2, d3⟩ := term_sq rk r1
    have b1 : (siz a * (1 + 1 / 2 ^ 20) + 1 / 2 ^ 170) * (siz a * (1 + 1 / 2 ^ 20) + 1 / 2 ^ 170) * (5 / 2) * (1 + 1 / 2 ^ 30) / 2 ^ 51 + 1 / 2 ^ 170 ≤ uU a * (21 / 8) / 2 ^ 51 + 1 / 2 ^ 160 := by
      unfold uU at U0 ⊢
      generalize (siz a * (1 + 1 / 2 ^ 20) + 1 / 2 ^ 170) * (siz a * (1 + 1 / 2 ^ 20) + 1 / 2 ^ 170) = Q at *
      generalize siz a * siz a + 1 / 2 ^ 100 = V at *
      clear g2 g3 d2 d3 i1 i2
      grind
    have b2 : (siz a * (1 + 1 / 2 ^ 20) + 1 / 2 ^ 170) * (siz a * (1 + 1 / 2 ^ 20) + 1 / 2 ^ 170) / 2 ^ 51 + 1 / 2 ^ 197 ≤ uU a * (21 / 8) / 2 ^ 51 + 1 / 2 ^ 160 := by
      unfold uU at U0 ⊢
      generalize (siz a * (1 + 1 / 2 ^ 20) + 1 / 2 ^ 170) * (siz a * (1 + 1 / 2 ^ 20) + 1 / 2 ^ 170) = Q at *
      generalize siz a * siz a + 1 / 2 ^ 100 = V at *
      clear g2 g3 d2 d3 i1 i2
      grind
    have T2 : tsum (zC p a) k + (vRe (zC p a k) * vRe (zC p a k) + vIm (zC p a k) * vIm (zC p a k)) ≤ 2 ^ 50 := by
      have : tsum (zC p a) (k + 1) ≤ 2 ^ 50 := by grind
      exact this
    have s1 := sum_step i1 g1 (Rat.le_trans g2 b1) (Rat.le_trans g3 b1) pr pi k0 k1 T0 (by grind) T2 U0 U1
    have s2 := sum_step i2 d1 (Rat.le_trans d2 b2) (Rat.le_trans d3 b2) (by rw [ab_of_nonneg (by grind)]; grind) (by rw [ab_of_nonneg Rat.le_refl]; grind) k0 k1 T0 (by grind) T2 U0 U1
    have e1 : cgetD (nxt p a n) k = prodC (zC p a k) p := nxt_at hk'
    have e2 := fst_at (p := p) (a := a) hk'
    refine ⟨?_, ?_, fun j hj => ?_⟩
    · rw [ec]
      show SumAt (fo .add .f64 (corrW (nxt p a n) (fst' p a n) k).1 (prodC (cgetD (nxt p a n) k) (conjW (cgetD (fst' p a n) k))).1, _) _ _ _ _
      rw [e1, e2]; exact s1
    · rw [ec]
      show SumAt (fo .add .f64 (corrW (fst' p a n) (fst' p a n) k).1 (prodC (cgetD (fst' p a n) k) (conjW (cgetD (fst' p a n) k))).1, _) _ _ _ _
      rw [e2]; exact s2
    · rcases Nat.lt_succ_iff_lt_or_eq.1 hj with h1 | h1
      · exact i3 j h1
      · subst h1
        rw [e1, e2]; exact ⟨g1, d1⟩
theorem corr_ok {p a : Nat × Nat} (h : FitIn p a) (n : Nat) (hn : n ≤ 100) : CorrOk (nxt p a n) (fst' p a n) (n - 1) ∧ CorrOk (fst' p a n) (fst' p a n) (n - 1) := by
  constructor
  · intro k hk
    obtain ⟨s1, s2, s3⟩ := corr_sums h n hn (k + 1) (by omega)
    exact ⟨(s3 k (by omega)).1, s1.f⟩
  · intro k hk
    obtain ⟨s1, s2, s3⟩ := corr_sums h n hn (k + 1) (by omega)
    exact ⟨(s3 k (by omega)).2, s2.f⟩
/-- **THE FIT.** -/
theorem fit_near {p a : Nat × Nat} (h : FitIn p a) (hlo : 1 / 2 ^ 6 ≤ siz a) (n : Nat) (h2 : 2 ≤ n) (hn : n ≤ 42) :
    fin .f64 (quoRe (corrW (nxt p a n) (fst' p a n) (n - 1)).1 (corrW (nxt p a n) (fst' p a n) (n - 1)).2 (corrW (fst' p a n) (fst' p a n) (n - 1)).1 (corrW (fst' p a n) (fst' p a n) (n - 1)).2) ∧
    fin .f64 (quoIm (corrW (nxt p a n) (fst' p a n) (n - 1)).1 (corrW (nxt p a n) (fst' p a n) (n - 1)).2 (corrW (fst' p a n) (fst' p a n) (n - 1)).1 (corrW (fst' p a n) (fst' p a n) (n - 1)).2) ∧
    ab (fv .f64 (quoRe (corrW (nxt p a n) (fst' p a n) (n - 1)).1 (corrW (nxt p a n) (fst' p a n) (n - 1)).2 (corrW (fst' p a n) (fst' p a n) (n - 1)).1 (corrW (fst' p a n) (fst' p a n) (n - 1)).2) - vRe p) ≤ 13 / 2 ^ 45 ∧
    ab (fv .f64 (quoIm (corrW (nxt p a n) (fst' p a n) (n - 1)).1 (corrW (nxt p a n) (fst' p a n) (n - 1)).2 (corrW (fst' p a n) (fst' p a n) (n - 1)).1 (corrW (fst' p a n) (fst' p a n) (n - 1)).2) - vIm p) ≤ 13 / 2 ^ 45 ∧
    (feq .f64 (corrW (fst' p a n) (fst' p a n) (n - 1)).1 0 && feq .f64 (corrW (fst' p a n) (fst' p a n) (n - 1)).2 0) = false := by
  obtain ⟨s1, s2, _⟩ := corr_sums h n (by omega) (n - 1) (Nat.le_refl _)
  obtain ⟨k, hk⟩ : ∃ k, n - 1 = k + 1 := ⟨n - 2, by omega⟩
  rw [hk] at s1 s2 ⊢
  have T1 := tsum_le h (k + 1) (by omega)
  have k0 : (0 : Rat) ≤ ((k + 1 : Nat) : Rat) := Rat.natCast_nonneg
  have k2 : ((k + 1 : Nat) : Rat) ≤ 41 := by
    have := Rat.natCast_le_natCast.2 (show k + 1 ≤ 41 by omega)
    simpa using this
  have T0 : vRe a * vRe a + vIm a * vIm a ≤ tsum (zC p a) (k + 1) := by
    clear s1 s2 T1 k0 k2 hk
    induction k with
    | zero =>
      show _ ≤ (0 : Rat) + (vRe (zC p a 0) * vRe (zC p a 0) + vIm (zC p a 0) * vIm (zC p a 0))
      show vRe a * vRe a + vIm a * vIm a ≤ (0 : Rat) + (vRe a * vRe a + vIm a * vIm a)
      grind
    | succ k ih =>
      have q1 := sq_nonneg (vRe (zC p a (k + 1)))
      have q2 := sq_nonneg (vIm (zC p a (k + 1)))
      have e : tsum (zC p a) (k + 1 + 1) = tsum (zC p a) (k + 1) + (vRe (zC p a (k + 1)) * vRe (zC p a (k + 1)) + vIm (zC p a (k + 1)) * vIm (zC p a (k + 1))) := rfl
      rw [e]
      grind
  have hsq : siz a * siz a ≤ 2 * tsum (zC p a) (k + 1) := by
    have a1 := ab_sq (vRe a)
    have a2 := ab_sq (vIm a)
    have a3 := sq_nonneg (ab (vRe a) - ab (vIm a))
    unfold siz
    grind
  have hl2 := mul_mono hlo hlo (by grind) (siz_nonneg a)
  generalize tsum (zC p a) (k + 1) = T at *
  have hT : 1 / 2 ^ 20 ≤ T := by grind
  have kT : ((k + 1 : Nat) : Rat) * T ≤ 41 * T := Rat.mul_le_mul_of_nonneg_right k2 (by grind)
  have kT0 : 0 ≤ ((k + 1 : Nat) : Rat) * T := Rat.mul_nonneg k0 (by grind)
  have hU : uU a ≤ 2 * T + T / 2 ^ 70 := by unfold uU; grind
  have U0 : 0 ≤ uU a := by have := Rat.mul_nonneg (siz_nonneg a) (siz_nonneg a); unfold uU; grind
  have kU : ((k + 1 : Nat) : Rat) * uU a ≤ 41 * uU a := Rat.mul_le_mul_of_nonneg_right k2 U0
  have kU0 : 0 ≤ ((k + 1 : Nat) : Rat) * uU a := Rat.mul_nonneg k0 U0
  exact quot_near s1 s2 hT (by grind) (by unfold eAt; grind) (by unfold eAt; grind) h.hp
end Go.Proofs.Ytignncjmbcdpaaa

/-
impl.DivideDouble at finite numbers; impl.FitSquares over the ringing of a mode.
-/
namespace Go.Proofs.Ytignncjmbcdpaaa
open Go Go.RowKit Ieee

/-- What DivideDouble returns of finite numbers. -/
def DivPost (a b c d : Nat) (w : World) (e : Ending) (w' : World) : Prop :=
  ∃ p q t n, e = .returned (.tuple #[.complex .f64 p q, .bool t]) ∧ (fin .f64 p ∧ fin .f64 q ∧ wfk .f64 p ∧ wfk .f64 q) ∧
    ((feq .f64 c 0 && feq .f64 d 0) = false → fin .f64 (quoRe a b c d) → fin .f64 (quoIm a b c d) → p = quoRe a b c d ∧ q = quoIm a b c d ∧ t = true) ∧ w.drewN n = w'
theorem zero64 : fin .f64 0 ∧ wfk .f64 0 := ⟨(zero_fin .f64).1, by show (0 : Nat) < 18446744073709551616; omega⟩
set_option maxRecDepth 100000 in
set_option maxHeartbeats 400000 in
theorem divide_any (a b c d : Nat) (w : World) (fa : fin .f64 a) (fb : fin .f64 b) (fc : fin .f64 c) (fd : fin .f64 d) (wa : wfk .f64 a) (wb : wfk .f64 b) (wc : wfk .f64 c) (wd : wfk .f64 d) :
    Calls Try.prog 80 #[.complex .f64 a b, .complex .f64 c d] w (DivPost a b c d w) := by
  have Ha := Lib.hid (show (finB a && finB b) = true by rw [finB_of fa, finB_of fb]; rfl)
  have Hc := Lib.hid (show (finB c && finB d) = true by rw [finB_of fc, finB_of fd]; rfl)
  clear fa fb fc fd
  cases hz : (feq .f64 c 0 && feq .f64 d 0)
  · have Hz := Lib.hid hz
    clear hz
    go_enter Try.func80, Try.ntmps80
    go_wp2_with fail
    refine (finiteDouble_any a b _ wa wb).mono ?_
    rintro e w' ⟨rfl, rfl⟩
    rw [Ha.out]
    go_wp2_with fail
    refine (finiteDouble_any c d _ wc wd).mono ?_
    rintro e w' ⟨rfl, rfl⟩
    rw [Hc.out]
    go_wp2_with fail
    refine (equalDouble_any c d 0 0 _).mono ?_
    rintro e w' ⟨rfl, rfl⟩
    rw [Hz.out]
    go_wp2_with fail
    refine (quot_any a b c d _ wc wd).mono ?_
    rintro e w' ⟨p, q, n, rfl, h1, h2, w1, w2, rfl⟩
    have P1 := Lib.hid h1
    have P2 := Lib.hid h2
    have W1 := Lib.hid w1
    have W2 := Lib.hid w2
    clear w1 w2 h1 h2
    cases hq : (finB p && finB q)
    · have Hq := Lib.hid hq
      clear hq
      go_wp2_with fail
      refine (finiteDouble_any p q _ W1.out W2.out).mono ?_
      rintro e w' ⟨rfl, rfl⟩
      rw [Hq.out]
      go_wp2_with fail
      go_ret2
      refine ⟨0, 0, false, n, rfl, ⟨zero64.1, zero64.1, zero64.2, zero64.2⟩, fun _ h1 h2 => ?_, rfl⟩
      exfalso
      have e1 : p = quoRe a b c d := nrm_fin_eq (P1.out.trans (nrm_fin h1)) h1
      have e2 : q = quoIm a b c d := nrm_fin_eq (P2.out.trans (nrm_fin h2)) h2
      have := Hq.out
      rw [e1, e2, finB_of h1, finB_of h2] at this
      cases this
    · have Hq := Lib.hid hq
      clear hq
      go_wp2_with fail
      refine (finiteDouble_any p q _ W1.out W2.out).mono ?_
      rintro e w' ⟨rfl, rfl⟩
      rw [Hq.out]
      go_wp2_with fail
      go_ret2
      have h := Hq.out
      rw [Bool.and_eq_true] at h
      exact ⟨p, q, true, n, rfl, ⟨(finB_iff p).1 h.1, (finB_iff q).1 h.2, W1.out, W2.out⟩, fun _ h1 h2 => ⟨nrm_fin_eq (P1.out.trans (nrm_fin h1)) h1, nrm_fin_eq (P2.out.trans (nrm_fin h2)) h2, rfl⟩, rfl⟩
  · have Hz := Lib.hid hz
    clear hz
    go_enter Try.func80, Try.ntmps80
    go_wp2_with fail
    refine (finiteDouble_any a b _ wa wb).mono ?_
    rintro e w' ⟨rfl, rfl⟩
    rw [Ha.out]
    go_wp2_with fail
    refine (finiteDouble_any c d _ wc wd).mono ?_
    rintro e w' ⟨rfl, rfl⟩
    rw [Hc.out]
    go_wp2_with fail
    refine (equalDouble_any c d 0 0 _).mono ?_
    rintro e w' ⟨rfl, rfl⟩
    rw [Hz.out]
    go_wp2_with fail
    go_ret2
    exact ⟨0, 0, false, 0, rfl, ⟨zero64.1, zero64.1, zero64.2, zero64.2⟩, fun h => (by have := Hz.out; rw [h] at this; cases this), World.drewN_zero w⟩

theorem c64s_take (xs : List (Nat × Nat)) (k : Nat) : c64s (xs.take k) = (c64s xs).take k := by simp [c64s, List.map_take]
theorem c64s_drop (xs : List (Nat × Nat)) (k : Nat) : c64s (xs.drop k) = (c64s xs).drop k := by simp [c64s, List.map_drop]
theorem rdV_take {w : World} {A : Option Addr} {xs : List Value} (h : Rd w A xs) (k : Nat) : Rd w A (xs.take k) := fun hl => by
  have hl' : 0 < xs.length := by
    simp only [List.length_take] at hl; omega
  obtain ⟨b, off, e, hb, hc⟩ := h hl'
  refine ⟨b, off, e, hb, fun j u hu => hc j u ?_⟩
  rw [List.getElem?_take] at hu
  split at hu
  · exact hu
  · cases hu
theorem rdV_drop {w : World} {b off : Nat} {xs : List Value} (h : Rd w (some ⟨b, off, none⟩) xs) : Rd w (some ⟨b, off + 1, none⟩) (xs.drop 1) := fun hl => by
  have hl' : 0 < xs.length := by
    simp only [List.length_drop] at hl; omega
  obtain ⟨b', off', e, hb, hc⟩ := h hl'
  injection e with e
  injection e with e1 e2
  subst e1 e2
  refine ⟨b, off + 1, rfl, hb, fun j u hu => ?_⟩
  rw [List.getElem?_drop] at hu
  have := hc (1 + j) u hu
  rw [show off + 1 + j = off + (1 + j) by omega]
  exact this
theorem corrW_lt (xs ys : List (Nat × Nat)) (k : Nat) : wfk .f64 (corrW xs ys k).1 ∧ wfk .f64 (corrW xs ys k).2 := by
  cases k with
  | zero => exact ⟨zero64.2, zero64.2⟩
  | succ k => exact ⟨fo_lt _ _ _ _, fo_lt _ _ _ _⟩

/-- What FitSquares returns over a ringing. -/
def FitPost (p a : Nat × Nat) (n : Nat) (w : World) (e : Ending) (w' : World) : Prop :=
  ∃ q1 q2 t j, e = .returned (.tuple #[.complex .f64 q1 q2, .bool t]) ∧ (fin .f64 q1 ∧ fin .f64 q2 ∧ wfk .f64 q1 ∧ wfk .f64 q2) ∧
    (1 / 2 ^ 6 ≤ siz a → ab (fv .f64 q1 - vRe p) ≤ 13 / 2 ^ 45 ∧ ab (fv .f64 q2 - vIm p) ≤ 13 / 2 ^ 45 ∧ t = true) ∧ w.drewN j = w'
set_option maxRecDepth 100000 in
set_option maxHeartbeats 400000 in
theorem fitSquares_any (p a : Nat × Nat) (g c n : Nat) (w : World) (h : FitIn p a) (h2 : 2 ≤ n) (hn : n ≤ 42) (hc : n ≤ c) (hr : Rd w (some ⟨g, 0, none⟩) (c64s (zList p a n))) :
    Calls Try.prog 47 #[.slice (some ⟨g, 0, none⟩) n c] w (FitPost p a n w) := by
  obtain ⟨k, hk⟩ : ∃ k, n = k + 1 := ⟨n - 1, by omega⟩
  have R1 : Hid (Rd w (some ⟨g, 1, none⟩) (c64s (nxt p a n))) := by
    have := rdV_drop hr
    rw [← c64s_drop] at this
    exact this
  have R2 : Hid (Rd w (some ⟨g, 0, none⟩) (c64s (fst' p a n))) := by
    have := rdV_take hr (n - 1)
    rw [← c64s_take] at this
    exact this
  have L1 : Hid ((nxt p a n).length = k) := by show _ = _; unfold nxt; rw [List.length_drop, zList_len]; omega
  have L2 : Hid ((fst' p a n).length = k) := by show _ = _; unfold fst'; rw [List.length_take, zList_len]; omega
  have ok := corr_ok h n (by omega)
  have nr : 1 / 2 ^ 6 ≤ siz a → _ := fun hlo => fit_near h hlo n h2 hn
  rw [show n - 1 = k by omega] at ok nr
  have OK := Lib.hid ok
  have NR := Lib.hid nr
  have C1 := Lib.hid (corrW_lt (nxt p a n) (fst' p a n) k)
  have C2 := Lib.hid (corrW_lt (fst' p a n) (fst' p a n) k)
  have F1 : Hid (finC (corrW (nxt p a n) (fst' p a n) k) ∧ finC (corrW (fst' p a n) (fst' p a n) k)) := by
    obtain ⟨s1, s2, _⟩ := corr_sums h n (by omega) k (by omega)
    exact ⟨s1.f, s2.f⟩
  have T1 := Lib.hid (fun (j cc dd : Nat) => corr_any (some ⟨g, 1, none⟩) (some ⟨g, 0, none⟩) cc dd k k (nxt p a n) (fst' p a n) (w.drewN j) (R1.out.drewN j) (R2.out.drewN j) L1.out L2.out (by omega) rfl ok.1)
  have T2 := Lib.hid (fun (j cc dd : Nat) => corr_any (some ⟨g, 0, none⟩) (some ⟨g, 0, none⟩) cc dd k k (fst' p a n) (fst' p a n) (w.drewN j) (R2.out.drewN j) (R2.out.drewN j) L2.out L2.out (by omega) rfl ok.2)
  have T3 := Lib.hid (fun W => divide_any (corrW (nxt p a n) (fst' p a n) k).1 (corrW (nxt p a n) (fst' p a n) k).2 (corrW (fst' p a n) (fst' p a n) k).1 (corrW (fst' p a n) (fst' p a n) k).2 W F1.out.1.1 F1.out.1.2 F1.out.2.1 F1.out.2.2 C1.out.1 C1.out.2 C2.out.1 C2.out.2)
  clear ok nr OK C1 C2 F1 R1 R2 L1 L2 h hr
  obtain ⟨N1, hN1⟩ : ∃ x, (corrW (nxt p a n) (fst' p a n) k).1 = x := ⟨_, rfl⟩
  obtain ⟨N2, hN2⟩ : ∃ x, (corrW (nxt p a n) (fst' p a n) k).2 = x := ⟨_, rfl⟩
  obtain ⟨D1, hD1⟩ : ∃ x, (corrW (fst' p a n) (fst' p a n) k).1 = x := ⟨_, rfl⟩
  obtain ⟨D2, hD2⟩ : ∃ x, (corrW (fst' p a n) (fst' p a n) k).2 = x := ⟨_, rfl⟩
  rw [hN1, hN2] at T1
  rw [hD1, hD2] at T2
  rw [hN1, hN2, hD1, hD2] at T3 NR
  clear hN1 hN2 hD1 hD2
  have hk1 : 1 ≤ k := by omega
  have hk2 : ¬ (c = 1) := by omega
  have hsub : (n : Int) - 1 = (k : Int) := by omega
  have hlt : (k : Int) ≤ (c : Int) := by omega
  have hn0 : ((n : Int) == 0) = false := beq_eq_false_iff_ne.2 (by omega)
  have hn1 : (1 : Int) ≤ (n : Int) := by omega
  have hnk : n - 1 = k := by omega
  have HK := Lib.hid hk
  clear hk
  go_enter Try.func47, Try.ntmps47
  go_wp2_with fail
  refine (T1.out 0 _ _).mono ?_
  rintro e w' ⟨rfl, j1, rfl⟩
  go_wp2_with fail
  refine (T2.out j1 _ _).mono ?_
  rintro e w' ⟨rfl, j2, rfl⟩
  go_wp2_with fail
  refine (T3.out _).mono ?_
  intro e w' hp
  unfold DivPost at hp
  obtain ⟨p1, p2, t, j3, rfl, hf, hq, rfl⟩ := hp
  have HF := Lib.hid hf
  have HQ := Lib.hid hq
  clear hf hq
  go_wp2_with fail
  go_ret2
  refine ⟨p1, p2, t, _, rfl, HF.out, fun hlo => ?_, rfl⟩
  obtain ⟨a1, a2, a3, a4, a5⟩ := NR.out hlo
  obtain ⟨q1, q2, q3⟩ := HQ.out a5 a1 a2
  rw [q1, q2]
  exact ⟨a3, a4, q3⟩
end Go.Proofs.Ytignncjmbcdpaaa

/-
The drift of a body against its bound. (Plain arithmetic.)
-/
namespace Go.Proofs.Ytignncjmbcdpaaa
open Go Ieee

theorem nearO_all {ms : List MW} {xs : List Nat} (hm : ModesOk ms) (hl : ms.length ≤ 16) (hx : LowX xs) (i : Nat) (hi : i < 300) : ∀ k : Nat, k ≤ ms.length →
    NearO (outAt ms (stAt ms xs i) (inAt xs i) k) (outD (ms.map widM) (stD (ms.map widM) (inW xs) i) (inW xs i) k) (k : Rat) ((i + 1 : Nat) : Rat) (gsum ms k * sumIn xs (i + 1)) ∧ gsum ms k ≤ (k : Rat) * 2048 := by
  intro k
  induction k with
  | zero =>
    intro _
    obtain ⟨z1, z2⟩ := zero_fin .f32
    obtain ⟨y1, y2⟩ := zero_fin .f64
    have e : gsum ms 0 * sumIn xs (i + 1) = 0 := by show (0 : Rat) * _ = 0; grind
    have e3 : ((0 : Nat) : Rat) = 0 := by simp
    rw [e, e3]
    refine ⟨⟨z1, by show (0 : Nat) < 4294967296; omega, y1, by show (0 : Nat) < 18446744073709551616; omega, ?_, ?_, ?_⟩, by show (0 : Rat) ≤ _; grind⟩
    · show ab (fv .f32 0) ≤ _
      rw [z2, ab_of_nonneg Rat.le_refl]; grind
    · show ab (fv .f64 0) ≤ _
      rw [y2, ab_of_nonneg Rat.le_refl]; grind
    · show ab (fv .f32 0 - fv .f64 0) ≤ _
      rw [z2, y2, show (0 : Rat) - 0 = 0 by grind, ab_of_nonneg Rat.le_refl]; grind
  | succ k ih =>
    intro hk
    obtain ⟨h, hg⟩ := ih (by omega)
    have hn := near_all hm hx (i + 1) (by omega) k (by omega)
    have e : sAt (stAt ms xs (i + 1)) k = stepW (mAt ms k) (sAt (stAt ms xs i) k) (inAt xs i) := nextS_at (by rw [stAt_len]; omega)
    have e1 : sAt (stD (ms.map widM) (inW xs) (i + 1)) k = stepD (dAt (ms.map widM) k) (sAt (stD (ms.map widM) (inW xs) i) k) (inW xs i) :=
      nextD_at (ms := ms.map widM) (x := inW xs i) (i := k) (ss := stD (ms.map widM) (inW xs) i) (by rw [stD_len]; simp; omega)
    rw [e, e1] at hn
    have g1 := gam_nonneg (mAt ms k)
    have g2 : gam (mAt ms k) ≤ 2048 := gam_le (hm.at_ (by omega))
    have s1 := sumIn_nonneg xs (i + 1)
    have s2 := sumIn_le hx (i + 1)
    have i1 : ((i + 1 : Nat) : Rat) ≤ 300 := by
      have := Rat.natCast_le_natCast.2 (show i + 1 ≤ 300 by omega)
      simpa using this
    have i0 : (0 : Rat) ≤ ((i + 1 : Nat) : Rat) := Rat.natCast_nonneg
    have k1 : (k : Rat) ≤ 16 := by
      have := Rat.natCast_le_natCast.2 (show k ≤ 16 by omega)
      simpa using this
    have k0 : (0 : Rat) ≤ (k : Rat) := Rat.natCast_nonneg
    have G0 := gsum_nonneg ms k
    have ec : ((k + 1 : Nat) : Rat) = (k : Rat) + 1 := by simp
    have s3 : sumIn xs (i + 1) ≤ 38400 := by grind
    have u1 := mul_mono g2 s3 g1 (by grind)
    have u2 := mul_mono (show gsum ms k ≤ 32768 by grind) s3 G0 (by grind)
    have ev : gsum ms (k + 1) * sumIn xs (i + 1) = gsum ms k * sumIn xs (i + 1) + gam (mAt ms k) * sumIn xs (i + 1) := by
      show (gsum ms k + gam (mAt ms k)) * _ = _
      grind
    have st := nearO_step h hn k0 k1 i0 i1 (Rat.mul_nonneg G0 s1) (by grind) (Rat.mul_nonneg g1 s1) (by grind)
    rw [ev, ec]
    exact ⟨st, by show gsum ms k + gam (mAt ms k) ≤ _; grind⟩
theorem sumIn_top (xs : List Nat) (i : Nat) : sumIn xs i ≤ sumIn xs xs.length := by
  rcases Nat.lt_or_ge xs.length i with h | h
  · have key : ∀ j, sumIn xs (xs.length + j) = sumIn xs xs.length := by
      intro j
      induction j with
      | zero => rfl
      | succ j ih =>
        have e : inAt xs (xs.length + j) = 0 := by unfold inAt; rw [if_neg (by omega)]
        show sumIn xs (xs.length + j) + ab (fv .f32 (inAt xs (xs.length + j))) = _
        rw [ih, e, (zero_fin .f32).2, ab_of_nonneg Rat.le_refl]; grind
    obtain ⟨j, rfl⟩ : ∃ j, i = xs.length + j := ⟨i - xs.length, by omega⟩
    rw [key]; exact Rat.le_refl
  · exact sumIn_mono xs h

/-- The drift's bound, and the bound of the law. -/
def drBd (ms : List MW) (xs : List Nat) (n : Nat) : Rat := ((n : Rat) + (ms.length : Rat) + 1) * (gsum ms ms.length * sumIn xs xs.length) * (5 / 8) / 2 ^ 20 + 1 / 2 ^ 101
theorem drBd_nonneg (ms : List MW) (xs : List Nat) (n : Nat) : 0 ≤ drBd ms xs n := by
  have a : (0 : Rat) ≤ (n : Rat) := Rat.natCast_nonneg
  have b : (0 : Rat) ≤ (ms.length : Rat) := Rat.natCast_nonneg
  have c := Rat.mul_nonneg (show (0 : Rat) ≤ (n : Rat) + (ms.length : Rat) + 1 by grind) (Rat.mul_nonneg (gsum_nonneg ms ms.length) (sumIn_nonneg xs xs.length))
  unfold drBd; grind
/-- One difference. -/
theorem drift_at {ms : List MW} {xs : List Nat} {n i y Y : Nat} (hm : ModesOk ms) (hl : ms.length ≤ 16) (hx : LowX xs) (hxl : xs.length ≤ 64) (hn : n ≤ 299) (hi : i < n) (hy : nrm .f32 y = outAt ms (stAt ms xs i) (inAt xs i) ms.length)
    (hY : nrm .f64 Y = outD (ms.map widM) (stD (ms.map widM) (inW xs) i) (inW xs i) ms.length) :
    fin .f32 y ∧ fin .f64 Y ∧ fin .f64 (fo .sub .f64 Y (wid y)) ∧ ab (fv .f64 (fo .sub .f64 Y (wid y))) ≤ drBd ms xs n := by
  obtain ⟨h, hg⟩ := nearO_all hm hl hx i (by omega) ms.length (Nat.le_refl _)
  obtain rfl := nrm_fin_eq hy h.f
  obtain rfl := nrm_fin_eq hY h.F
  obtain ⟨V, hV⟩ : ∃ V, gsum ms ms.length * sumIn xs (i + 1) = V := ⟨_, rfl⟩
  obtain ⟨T, hT⟩ : ∃ T, gsum ms ms.length * sumIn xs xs.length = T := ⟨_, rfl⟩
  have G0 := gsum_nonneg ms ms.length
  have hVT : V ≤ T := by rw [← hV, ← hT]; exact Rat.mul_le_mul_of_nonneg_left (sumIn_top xs (i + 1)) G0
  have hV0 : 0 ≤ V := by rw [← hV]; exact Rat.mul_nonneg G0 (sumIn_nonneg _ _)
  have L0 : (0 : Rat) ≤ (ms.length : Rat) := Rat.natCast_nonneg
  have L1 : (ms.length : Rat) ≤ 16 := by
    have := Rat.natCast_le_natCast.2 hl
    simpa using this
  have s2 := sumIn_le hx (i + 1)
  have N1 : ((i + 1 : Nat) : Rat) ≤ (n : Rat) := Rat.natCast_le_natCast.2 (by omega)
  have N2 : (n : Rat) ≤ 299 := by
    have := Rat.natCast_le_natCast.2 hn
    simpa using this
  have I0 : (0 : Rat) ≤ ((i + 1 : Nat) : Rat) := Rat.natCast_nonneg
  have hV2 : V ≤ 2 ^ 60 := by
    have := mul_mono (show gsum ms ms.length ≤ 32768 by grind) (show sumIn xs (i + 1) ≤ 38400 by grind) G0 (by grind)
    rw [← hV]; grind
  have b1 := h.b1
  have b2 := h.b2
  have b3 := h.b3
  rw [hV] at b1 b2 b3
  obtain ⟨w1, w2⟩ := wid_fin h.f
  obtain ⟨k1, k2, k3⟩ := consts64
  have LV : (ms.length : Rat) * V ≤ 16 * V := Rat.mul_le_mul_of_nonneg_right L1 hV0
  have IV : ((i + 1 : Nat) : Rat) * V ≤ (n : Rat) * T := mul_mono N1 hVT I0 (by grind)
  have LT : (ms.length : Rat) * V ≤ (ms.length : Rat) * T := Rat.mul_le_mul_of_nonneg_left hVT L0
  generalize outAt ms (stAt ms xs i) (inAt xs i) ms.length = y at *
  generalize outD (ms.map widM) (stD (ms.map widM) (inW xs) i) (inW xs i) ms.length = Y at *
  have e : fv .f64 Y - fv .f64 (wid y) = -(fv .f32 y - fv .f64 Y) := by rw [w2]; grind
  have hd : ab (fv .f64 Y - fv .f64 (wid y)) = ab (fv .f32 y - fv .f64 Y) := by rw [e, ab_neg]
  have nd := ab_nonneg (fv .f32 y - fv .f64 Y)
  have hb3 : ab (fv .f32 y - fv .f64 Y) ≤ ((n : Rat) * T * (9 / 8) / 2 ^ 21 + (ms.length : Rat) * T / 2 ^ 22 + 1 / 2 ^ 105) := by
    clear b1 b2 k3 k2 k1 hd e; grind
  have IV2 : (n : Rat) * T ≤ 2 ^ 80 := by
    have hT2 : T ≤ 2 ^ 60 := by
      have := mul_mono (show gsum ms ms.length ≤ 32768 by grind) (show sumIn xs xs.length ≤ 2 ^ 40 by
        have a := sumIn_le hx xs.length
        have b : (xs.length : Rat) ≤ 64 := by
          have := Rat.natCast_le_natCast.2 hxl
          simpa using this
        grind) G0 (by grind)
      rw [← hT]; grind
    have := mul_mono N2 hT2 (by grind) (by grind)
    grind
  have sb := sub_spec h.F w1 (by rw [hd]; grind)
  have se := sb.2.1
  rw [hd, k1] at se
  have t := ab_tri (fv .f64 (fo .sub .f64 Y (wid y))) (fv .f64 Y - fv .f64 (wid y))
  rw [hd] at t
  refine ⟨h.f, h.F, sb.1, ?_⟩
  have fin1 : ab (fv .f64 (fo .sub .f64 Y (wid y))) ≤ ((n : Rat) * T * (9 / 8) / 2 ^ 21 + (ms.length : Rat) * T / 2 ^ 22 + 1 / 2 ^ 105) * (1 + 1 / 2 ^ 50) + 1 / 2 ^ 190 := by
    clear b1 b2 b3 IV LT LV hV2; grind
  refine Rat.le_trans fin1 ?_
  have n0 : (0 : Rat) ≤ (n : Rat) := Rat.natCast_nonneg
  have T0 : 0 ≤ T := Rat.le_trans hV0 hVT
  have nT := Rat.mul_nonneg n0 T0
  have lT := Rat.mul_nonneg L0 T0
  unfold drBd
  rw [hT]
  clear fin1 t se sb b1 b2 b3 hb3 IV LT LV IV2
  grind
end Go.Proofs.Ytignncjmbcdpaaa

/-
The law's bound of the drift, as the operations give it. (Plain arithmetic.)
-/
namespace Go.Proofs.Ytignncjmbcdpaaa
open Go Ieee

/-- A sum of nonnegative numbers, accumulated. -/
structure Acc (g : Nat) (G t : Rat) : Prop where
  f : fin .f64 g
  p : 0 ≤ fv .f64 g
  lo : G - t * G / 2 ^ 50 ≤ fv .f64 g + t / 2 ^ 190
  hi : fv .f64 g ≤ 2 * G + 2 * t
theorem acc_zero : Acc 0 0 0 := by
  obtain ⟨z1, z2⟩ := zero_fin .f64
  exact ⟨z1, by rw [z2]; exact Rat.le_refl, by rw [z2]; grind, by rw [z2]; grind⟩
theorem acc_step {g r : Nat} {G S V t : Rat} (h : Acc g G t) (ht : 0 ≤ t) (ht2 : t ≤ 64) (hG : 0 ≤ G) (hG2 : G ≤ 2 ^ 20) (hS : 0 ≤ S) (hS2 : S ≤ 2 ^ 20) (hV : 0 ≤ V) (lo : S - S / 2 ^ 52 ≤ V + 1 / 2 ^ 195) (hi : V ≤ 2 * S + 1)
    (hr : RoundOf .f64 (fv .f64 g + V) r) : Acc r (G + S) (t + 1) := by
  obtain ⟨k1, k2, k3⟩ := consts64
  have l1 := h.lo
  have l2 := h.hi
  have l3 := h.p
  have e := hr.2.1
  rw [k1, ab_of_nonneg (x := fv .f64 g + V) (by grind)] at e
  have a := le_ab (fv .f64 r - (fv .f64 g + V))
  have z := (hr.2.2 0 (zero_fin .f64).1).1 (by rw [(zero_fin .f64).2]; grind)
  rw [(zero_fin .f64).2] at z
  have tG := Rat.mul_nonneg ht hG
  have tS := Rat.mul_nonneg ht hS
  have tG2 : t * G ≤ 64 * G := Rat.mul_le_mul_of_nonneg_right ht2 hG
  have a1 := a.1
  have a2 := a.2
  clear a k1 k3
  refine ⟨hr.1, z, ?_, ?_⟩
  · have e1 : (fv .f64 g + V) - (fv .f64 g + V) / 2 ^ 53 - 1 / 2 ^ 200 ≤ fv .f64 r := by grind
    clear e a1 a2 hi l2 z k2
    grind
  · have e1 : fv .f64 r ≤ (fv .f64 g + V) + (fv .f64 g + V) / 2 ^ 53 + 1 / 2 ^ 200 := by grind
    clear e a1 a2 lo l1 z k2
    grind
theorem Acc.use {g : Nat} {G t : Rat} (h : Acc g G t) (ht : 0 ≤ t) (ht2 : t ≤ 64) (hG : 0 ≤ G) (hG2 : G ≤ 2 ^ 18) : G - G / 2 ^ 40 ≤ fv .f64 g + 1 / 2 ^ 180 ∧ fv .f64 g ≤ 2 ^ 20 := by
  have l1 := h.lo
  have l2 := h.hi
  have tG2 : t * G ≤ 64 * G := Rat.mul_le_mul_of_nonneg_right ht2 hG
  exact ⟨by clear l2; grind, by clear l1; grind⟩
/-- A product of nonnegative numbers is not much less. -/
theorem mul_low {a b : Nat} {T : Rat} (fa : fin .f64 a) (fb : fin .f64 b) (ha : 0 ≤ fv .f64 a) (hb : 0 ≤ fv .f64 b) (hT : fv .f64 a * fv .f64 b ≤ T) (hT2 : T ≤ 2 ^ 100) :
    fin .f64 (fo .mul .f64 a b) ∧ fv .f64 a * fv .f64 b - fv .f64 a * fv .f64 b / 2 ^ 52 - 1 / 2 ^ 200 ≤ fv .f64 (fo .mul .f64 a b) ∧ 0 ≤ fv .f64 (fo .mul .f64 a b) ∧ fv .f64 (fo .mul .f64 a b) ≤ 2 * T + 1 := by
  obtain ⟨k1, k2, k3⟩ := consts64
  have p := Rat.mul_nonneg ha hb
  have e0 := ab_of_nonneg p
  have hm := mul_spec fa fb (by rw [e0]; grind)
  have e := hm.2.1
  rw [k1, e0] at e
  have l := le_ab (fv .f64 (fo .mul .f64 a b) - fv .f64 a * fv .f64 b)
  have z := (hm.2.2 0 (zero_fin .f64).1).1 (by rw [(zero_fin .f64).2]; exact p)
  rw [(zero_fin .f64).2] at z
  exact ⟨hm.1, by grind, z, by grind⟩
theorem rhs_ok {N g s p q d : Nat} {Nr G X : Rat} (fN : fin .f64 N) (vN : fv .f64 N = Nr) (fg : fin .f64 g) (fs : fin .f64 s) (fp : fin .f64 p) (vp : fv .f64 p = 1 / 2 ^ 20) (fq : fin .f64 q) (vq : fv .f64 q = 1 / 2 ^ 100) (fd : fin .f64 d)
    (hN : 1 ≤ Nr) (hN2 : Nr ≤ 400) (hG0 : 0 ≤ G) (hX0 : 0 ≤ X) (g0 : 0 ≤ fv .f64 g) (s0 : 0 ≤ fv .f64 s) (hg : G - G / 2 ^ 40 ≤ fv .f64 g + 1 / 2 ^ 180) (hg2 : fv .f64 g ≤ 2 ^ 20) (hs : X - X / 2 ^ 40 ≤ fv .f64 s + 1 / 2 ^ 180) (hs2 : fv .f64 s ≤ 2 ^ 20)
    (hd : fv .f64 d ≤ Nr * (G * X) * (5 / 8) / 2 ^ 20 + 1 / 2 ^ 101) : fin .f64 (fo .mul .f64 N g) ∧ fin .f64 (fo .mul .f64 (fo .mul .f64 N g) s) ∧ fin .f64 (fo .mul .f64 (fo .mul .f64 (fo .mul .f64 N g) s) p) ∧
      fin .f64 (fo .add .f64 (fo .mul .f64 (fo .mul .f64 (fo .mul .f64 N g) s) p) q) ∧ fle .f64 d (fo .add .f64 (fo .mul .f64 (fo .mul .f64 (fo .mul .f64 N g) s) p) q) = true := by
  have n0 : 0 ≤ fv .f64 N := by rw [vN]; grind
  have gs0 := Rat.mul_nonneg g0 s0
  have b1 : fv .f64 N * fv .f64 g ≤ 2 ^ 30 := by
    have := mul_mono (show fv .f64 N ≤ 400 by rw [vN]; exact hN2) hg2 n0 (by grind)
    grind
  obtain ⟨f1, l1, z1, u1⟩ := mul_low fN fg n0 g0 b1 (by grind)
  have b2 : fv .f64 (fo .mul .f64 N g) * fv .f64 s ≤ 2 ^ 60 := by
    have := mul_mono u1 hs2 z1 (by grind)
    grind
  obtain ⟨f2, l2, z2, u2⟩ := mul_low f1 fs z1 s0 b2 (by grind)
  have b3 : fv .f64 (fo .mul .f64 (fo .mul .f64 N g) s) * fv .f64 p ≤ 2 ^ 62 := by rw [vp]; grind
  obtain ⟨f3, l3, z3, u3⟩ := mul_low f2 fp z2 (by rw [vp]; grind) b3 (by grind)
  rw [vp] at l3
  rw [vN] at l1
  -- the product of all three
  have c1 := Rat.mul_le_mul_of_nonneg_right l1 s0
  have c2 : (G - G / 2 ^ 40) * (X - X / 2 ^ 40) ≤ (fv .f64 g + 1 / 2 ^ 180) * (fv .f64 s + 1 / 2 ^ 180) := mul_mono hg hs (by grind) (by grind)
  have gx := Rat.mul_nonneg hG0 hX0
  have c3 : G * X * (1 - 1 / 2 ^ 38) ≤ fv .f64 g * fv .f64 s + 1 / 2 ^ 150 := by
    have e : (G - G / 2 ^ 40) * (X - X / 2 ^ 40) = G * X * ((1 - 1 / 2 ^ 40) * (1 - 1 / 2 ^ 40)) := by grind
    rw [e] at c2
    grind
  have c4 := Rat.mul_le_mul_of_nonneg_left c3 (show 0 ≤ Nr by grind)
  have ngx := Rat.mul_nonneg (show 0 ≤ Nr by grind) gx
  obtain ⟨k1, k2, k3⟩ := consts64
  have ha : fv .f64 (fo .mul .f64 (fo .mul .f64 (fo .mul .f64 N g) s) p) + fv .f64 q ≤ 2 ^ 70 := by rw [vq]; grind
  have e0 : ab (fv .f64 (fo .mul .f64 (fo .mul .f64 (fo .mul .f64 N g) s) p) + fv .f64 q) = fv .f64 (fo .mul .f64 (fo .mul .f64 (fo .mul .f64 N g) s) p) + fv .f64 q := ab_of_nonneg (by rw [vq]; grind)
  have ad := add_spec f3 fq (by rw [e0]; grind)
  have e := ad.2.1
  rw [e0, k1, vq] at e
  have le := (le_ab (fv .f64 (fo .add .f64 (fo .mul .f64 (fo .mul .f64 (fo .mul .f64 N g) s) p) q) - (fv .f64 (fo .mul .f64 (fo .mul .f64 (fo .mul .f64 N g) s) p) + 1 / 2 ^ 100))).2
  refine ⟨f1, f2, f3, ad.1, (fle_iff fd ad.1).2 ?_⟩
  generalize fv .f64 (fo .add .f64 (fo .mul .f64 (fo .mul .f64 (fo .mul .f64 N g) s) p) q) = R at *
  generalize fv .f64 (fo .mul .f64 (fo .mul .f64 (fo .mul .f64 N g) s) p) = t3 at *
  generalize fv .f64 (fo .mul .f64 (fo .mul .f64 N g) s) = t2 at *
  generalize fv .f64 (fo .mul .f64 N g) = t1 at *
  generalize fv .f64 g = gv at *
  generalize fv .f64 s = sv at *
  clear k1 k3 e0 ha b1 b2 b3 u1 u2 u3 z1 ad f1 f2 f3 hg hs c2 c3 hg2
  have d1 : Nr * (G * X) * (1 - 1 / 2 ^ 37) - sv / 2 ^ 200 - 1 / 2 ^ 141 ≤ t1 * sv := by grind
  have d2 : Nr * (G * X) * (1 - 1 / 2 ^ 36) - 1 / 2 ^ 140 ≤ t2 := by grind
  have d3 : Nr * (G * X) * (1 - 1 / 2 ^ 35) / 2 ^ 20 - 1 / 2 ^ 150 ≤ t3 := by grind
  have d4 : t3 + 1 / 2 ^ 100 - (t3 + 1 / 2 ^ 100) / 2 ^ 50 - 1 / 2 ^ 190 ≤ R := by grind
  have d5 : Nr * (G * X) * (1 - 1 / 2 ^ 34) / 2 ^ 20 + 1 / 2 ^ 101 ≤ R := by clear d1 d2 l1 l2 l3 c1 c4 e le; grind
  clear d1 d2 d3 d4 l1 l2 l3 c1 c4 e le
  grind
end Go.Proofs.Ytignncjmbcdpaaa

/-
impl.DriftOf at a valid body and a small input.
-/
namespace Go.Proofs.Ytignncjmbcdpaaa
open Go Go.RowKit Ieee

theorem f64s_at {ys : List Nat} {k : Nat} (h : k < ys.length) : (f64s ys)[k]? = some (.float .f64 (ys.getD k 0)) := by
  simp [f64s, List.getD, List.getElem?_eq_getElem h]
/-- What one round of the drift needs, its words without a body. -/
theorem drift_pack {ms : List MW} {xs ys Ys : List Nat} {n k : Nat} (hm : ModesOk ms) (hl : ms.length ≤ 16) (hx : LowX xs) (hxl : xs.length ≤ 64) (hn : n ≤ 299) (hk : k < n) (hy : Rung ms xs ys n) (hY : RungD (ms.map widM) (inW xs) Ys n) :
    ∃ y Y Z D Q : Nat, ys.getD k 0 = y ∧ Ys.getD k 0 = Y ∧ (∀ W, cR .f32 y .f64 W = Z) ∧ cN .f32 y .f64 = 0 ∧ (∀ W, fR .sub .f64 Y Z W = D) ∧ wfk .f64 D ∧ abs64 D = Q ∧ Hid (fin .f64 Q ∧ fv .f64 Q ≤ drBd ms xs n) := by
  obtain ⟨f1, f2, f3, f4⟩ := drift_at hm hl hx hxl hn hk (hy.2 k hk).1 (by have h := (hY.2 k hk).1; rw [List.length_map] at h; exact h)
  obtain ⟨q1, q2⟩ := abs64_fin f3
  obtain ⟨w1, w2⟩ := widFin (wid_fin f1).1
  exact ⟨_, _, wid (ys.getD k 0), fo .sub .f64 (Ys.getD k 0) (wid (ys.getD k 0)), _, rfl, rfl, w1, w2, fun W => rnd_eq f3 W, fo_lt _ _ _ _, rfl, q1, by rw [q2]; exact f4⟩

set_option maxRecDepth 100000 in
set_option maxHeartbeats 1000000 in
theorem driftOf_any (A B : Option Addr) (c d lo hi : Nat) (ms : List MW) (xs : List Nat) (n : Nat) (w : World) (h : OwnM w lo hi A c ms) (hh : hi ≤ w.heap.size) (hok : ModesOk ms) (hl : ms.length ≤ 16)
    (hr : Rd w B (f32s xs)) (hn : n ≤ 299) (hx : LowX xs) (hxl : xs.length ≤ 64) :
    Calls Try.prog 57 #[.agg #[.slice A ms.length c], .slice B xs.length d, .int .i64 n] w fun e w' => ∃ r, e = .returned (.tuple #[.float .f64 r, .bool true]) ∧ fin .f64 r ∧ fv .f64 r ≤ drBd ms xs n ∧ Below w.heap.size w w' := by
  have HB : Hid (Below w.heap.size w (w.alloc (.cells #[.slice A ms.length c] 69))) := (Below.refl w.heap.size w).alloc (Nat.le_refl _) _
  have H : Hid (OwnM (w.alloc (.cells #[.slice A ms.length c] 69)) lo hi A c ms) := h.below HB.out hh
  have HR : Hid (Rd (w.alloc (.cells #[.slice A ms.length c] 69)) B (f32s xs)) := hr.below HB.out
  have HP : Hid ((w.alloc (.cells #[.slice A ms.length c] 69)).heap[w.heap.size]? = some (.cells #[.slice A ms.length c] 69 (0, 0))) := heap_alloc_new w _
  have hsz : w.heap.size < (w.alloc (.cells #[.slice A ms.length c] 69)).heap.size := by simp
  have HK := Lib.hid hok
  have HX := Lib.hid hx
  have c0 := cell_of_row _ w.heap.size 0 _ _ (0, 0) HP.out
  clear h hr hok hx
  go_enter Try.func57, Try.ntmps57
  go_wp2_with fail
  generalize w.alloc (.cells #[.slice A ms.length c] 69) = W at *
  refine (ringBody_any A B c d lo hi ms xs n W H.out (by omega) HK.out hl HR.out (by omega) (by omega) (calm_x HK.out HX.out n (by omega))).mono ?_
  rintro e W1 ⟨A1, c1, ys, he, ho1, hr1, hb1⟩
  rw [hr1.1] at he ho1
  subst he
  have hs1 := hb1.size
  have HP1 := Lib.hid ((hb1.block _ hsz).trans HP.out)
  have H1 := Lib.hid (H.out.below hb1 (by omega))
  have HR1 := Lib.hid (HR.out.below hb1)
  have HB1 : Hid (Below w.heap.size w W1) := HB.out.trans (hb1.mono (by omega))
  have RY1 : Hid (Rd W1 A1 (f32s ys)) := by
    obtain ⟨_, _, q, _, rd⟩ := own_rd ho1
    injection q with q1 _ q2
    subst q1 q2
    exact rd
  have HY := Lib.hid hr1
  clear c0 H HR HP HB ho1 hr1 hb1
  have c1' := cell_of_row _ w.heap.size 0 _ _ (0, 0) HP1.out
  go_wp2_with fail
  refine (ringDouble_any A B c d lo hi ms xs n W1 H1.out (by omega) HK.out hl HR1.out (by omega) (by omega)).mono ?_
  rintro e W2 ⟨A2, c2, Ys, he, ho2, hr2, hb2⟩
  rw [hr2.1] at he ho2
  subst he
  have RY2 : Hid (Rd W2 A1 (f32s ys)) := RY1.out.below hb2
  have RZ2 : Hid (Rd W2 A2 (f64s Ys)) := by
    obtain ⟨_, _, q, _, rd⟩ := own_rd ho2
    injection q with q1 _ q2
    subst q1 q2
    exact rd
  have HZ := Lib.hid hr2
  have HB2 : Hid (Below w.heap.size w W2) := HB1.out.trans (hb2.mono (by omega))
  clear c1' H1 HR1 HP1 HB1 ho2 hr2 hb2 RY1
  go_wp2_with fail
  go_loopw [12, 34] (fun mo i wr => ∃ (k r m : Nat), i = .int .i64 (k : Int) ∧ k ≤ n ∧ mo = .float .f64 r ∧ Hid (fin .f64 r ∧ fv .f64 r ≤ drBd ms xs n) ∧ wr = W2.drewN m) (fun _ i _ => n - (intOf i).toNat)
  case atStart => exact ⟨0, 0, 0, rfl, by omega, rfl, ⟨(zero_fin .f64).1, by rw [(zero_fin .f64).2]; exact drBd_nonneg _ _ _⟩, (World.drewN_zero W2).symm⟩
  case round =>
    obtain ⟨k, r, m, rfl, hk, rfl, HM, rfl⟩ := hrel
    by_cases hlt : k < n
    · obtain ⟨b, off, rfl, hbk, hc⟩ := RY2.out (by simp; rw [HY.out.1]; omega)
      obtain ⟨b2, off2, rfl, hbk2, hc2⟩ := RZ2.out (by simp [f64s]; rw [HZ.out.1]; omega)
      have e1 := hc k _ (f32s_at (by rw [HY.out.1]; exact hlt))
      have e2 := hc2 k _ (f64s_at (by rw [HZ.out.1]; exact hlt))
      obtain ⟨y, Y, Z, D, Q, ey, eY, hz, hn0, hd, wd, hq, HQ⟩ := drift_pack HK.out hl HX.out hxl hn hlt HY.out HZ.out
      rw [ey] at e1
      rw [eY] at e2
      clear hc hc2 ey eY
      have T := Lib.hid (fun W => mathAbs_any D W wd)
      rw [hq] at T
      clear wd hq
      cases t : fgt .f64 Q r
      · go_wp2_with fail
        refine (T.out _).mono ?_
        rintro e w' ⟨rfl, rfl⟩
        go_wp2_with fail
        go_roundw
        case rel => exact ⟨k + 1, r, _, by go_num, by omega, rfl, HM.out, rfl⟩
        case measure => simp [intOf]; omega
      · go_wp2_with fail
        refine (T.out _).mono ?_
        rintro e w' ⟨rfl, rfl⟩
        go_wp2_with fail
        go_roundw
        case rel => exact ⟨k + 1, Q, _, by go_num, by omega, rfl, HQ.out, rfl⟩
        case measure => simp [intOf]; omega
    · have hkn : n = k := by omega
      subst hkn
      go_wp2_with fail
      go_ret2
      exact ⟨r, rfl, HM.out.1, HM.out.2, below_drewN HB2.out m⟩
end Go.Proofs.Ytignncjmbcdpaaa

/-
spec.HalfLife at a valid mode.
-/
namespace Go.Proofs.Ytignncjmbcdpaaa
open Go Go.RowKit Ieee

set_option maxRecDepth 100000 in
set_option maxHeartbeats 400000 in
theorem specHalf_any (a b c d : Nat) (most : Int) (w : World) (h : ModeOk a b c d) (h1 : 1 ≤ most) (h2 : most ≤ 2000) :
    Calls Try.prog 37 #[.agg #[.complex .f32 a b, .complex .f32 c d], .int .i64 most] w (HalfPost a b c d most w) := by
  have H := Lib.hid h
  have Z0 := Lib.hid (h.at w 0 (by omega))
  have F1 := Lib.hid (fun w => nrm_fin_eq (nrm_wid c w) (wid_fin (fin_of_wid h.fc)).1)
  have F2 := Lib.hid (fun w => nrm_fin_eq (nrm_wid d w) (wid_fin (fin_of_wid h.fd)).1)
  have hin : (decide ((1 : Int) ≤ most) && decide (most ≤ 2000)) = true := by simp; omega
  clear h
  go_enter Try.func37, Try.ntmps37
  go_wp2_with fail
  have HB : Hid (Below w.heap.size w (w.alloc (.cells #[.complex .f32 a b, .complex .f32 c d] 52))) := (Below.refl w.heap.size w).alloc (Nat.le_refl _) _
  have hm : (w.alloc (.cells #[.complex .f32 a b, .complex .f32 c d] 52)).heap[w.heap.size]? = some (.cells #[.complex .f32 a b, .complex .f32 c d] 52 (0, 0)) := heap_alloc_new w _
  have hlt : w.heap.size < (w.alloc (.cells #[.complex .f32 a b, .complex .f32 c d] 52)).heap.size := by simp
  have HM := Lib.hid hm
  obtain ⟨c0, c1, _, _⟩ := m_cells hm
  clear hm
  generalize w.alloc (.cells #[.complex .f32 a b, .complex .f32 c d] 52) = W at *
  refine (specMode_ok a b c d _ H.out).mono ?_
  rintro e W2 ⟨rfl, hb⟩
  have HM2 : Hid (W2.heap[w.heap.size]? = some (.cells #[.complex .f32 a b, .complex .f32 c d] 52 (0, 0))) := (hb.block w.heap.size hlt).trans HM.out
  have HB2 : Hid (Below w.heap.size w W2) := HB.out.trans (hb.mono (by omega))
  obtain ⟨d0, d1, _, _⟩ := m_cells HM2.out
  clear hb c0 c1 HB HM hlt
  go_wp2_with fail
  refine (l1In_any most 1 2000 _).mono ?_
  rintro e w' ⟨rfl, rfl⟩
  rw [hin]
  go_wp2_with fail
  go_loopw [6, 7] (fun z i wr => ∃ (n x y m : Nat), z = .complex .f32 x y ∧ i = .int .i64 ((n : Int) + 1) ∧ (n : Int) ≤ most ∧ Hid ((x, y) = zAt a b c d n) ∧ Hid (∀ j : Nat, 1 ≤ j → j ≤ n → halved a b c d j = false) ∧ wr = W2.drewN m) (fun _ i _ => (most + 1 - intOf i).toNat)
  case atStart => exact ⟨0, c, d, 0, rfl, rfl, by omega, rfl, fun j j1 j2 => by omega, rfl⟩
  case round =>
    obtain ⟨n, x, y, m, rfl, rfl, hn, hz, hno, rfl⟩ := hrel
    by_cases hj : (n : Int) < most
    · have Z1 : Hid (ZOk a b x y) := by have := H.out.at w n (by omega); rw [← hz.out] at this; exact this
      have hz2 : Hid ((sRe x y a b, sIm x y a b) = zAt a b c d (n + 1)) := by rw [zAt_succ, ← hz.out]; rfl
      have Z2 : Hid (ZOk a b (sRe x y a b) (sIm x y a b)) := by have := H.out.at w (n + 1) (by omega); rw [← hz2.out] at this; exact this
      have G1 := Lib.hid (fun w => nrm_fin_eq (nrm_wid (sRe x y a b) w) (wid_fin Z2.out.fx).1)
      have G2 := Lib.hid (fun w => nrm_fin_eq (nrm_wid (sIm x y a b) w) (wid_fin Z2.out.fy).1)
      have T0 := Lib.hid (halved_test Z2.out hz2.out)
      go_wp2_with fail
      refine (specSingle_any x y a b _ Z1.out.mild).mono ?_
      rintro e w' ⟨n3, rfl, rfl⟩
      have F1' := F1.out
      have F2' := F2.out
      have G1' := G1.out
      have G2' := G2.out
      go_wp2_with fail
      have M := Lib.hid (fun w => rnd_eq (op := .mul) (size_ok Z2.out).2.2 w)
      have S1 := Lib.hid (fun W => (sizeS_any (sRe x y a b) (sIm x y a b) _ _ W Z2.out rfl rfl).mono fun e w' h => (by
        obtain ⟨n, rfl, rfl⟩ := h; exact ⟨rfl, n, rfl⟩ : e = .returned (.float .f64 (sizeZ (sRe x y a b, sIm x y a b))) ∧ ∃ j, W.drewN j = w'))
      have S0 := Lib.hid (fun W => (sizeS_any c d _ _ W Z0.out rfl rfl).mono fun e w' h => (by
        obtain ⟨n, rfl, rfl⟩ := h; exact ⟨rfl, n, rfl⟩ : e = .returned (.float .f64 (sizeZ (c, d))) ∧ ∃ j, W.drewN j = w'))
      have M' := M.out
      have T1 : fle .f64 (fo .mul .f64 4611686018427387904 (sizeZ (sRe x y a b, sIm x y a b))) (sizeZ (c, d)) = halved a b c d (n + 1) := by rw [← T0.out w, M.out]
      cases t : halved a b c d (n + 1) <;> rw [t] at T1
      all_goals
        have N := Lib.hid t
        clear t
        refine wp_region_rx (by kernel_rfl) (by kernel_rfl) ?_; apply Exists.intro
        repeat (first | (apply wpR_val; intro K hK; go_simp; refine ⟨rfl, hK _ ?_⟩; clear hK K) | (apply wpR_skip; intro K hK; go_simp; refine hK _ ?_; clear hK K))
        apply wpR_val (v := .float .f64 (sizeZ (sRe x y a b, sIm x y a b))); intro K hK; go_simp; refine ⟨fun m => rcall (S1.out _), hK _ ?_⟩; clear hK K
        repeat (first | (apply wpR_val; intro K hK; go_simp; refine ⟨rfl, hK _ ?_⟩; clear hK K) | (apply wpR_skip; intro K hK; go_simp; refine hK _ ?_; clear hK K))
        apply wpR_val (v := .float .f64 (sizeZ (c, d))); intro K hK; go_simp; refine ⟨fun m => rcall (S0.out _), hK _ ?_⟩; clear hK K
        repeat (first | (apply wpR_val; intro K hK; go_simp; refine ⟨rfl, hK _ ?_⟩; clear hK K) | (apply wpR_skip; intro K hK; go_simp; refine hK _ ?_; clear hK K))
        apply wpR_nil (Rs := []); rintro _ ⟨nq, rfl⟩
        go_wp2_with fail
      · go_roundw
        case rel => exact ⟨n + 1, _, _, _, rfl, by go_num, by omega, hz2, fun j j1 j2 => (by
          rcases Nat.lt_or_ge n j with h | h
          · obtain rfl : j = n + 1 := by omega
            exact N.out
          · exact hno.out j j1 h), rfl⟩
        case measure => simp [intOf]; omega
      · go_ret2
        unfold HalfPost
        exact ⟨_, _, rfl, .inl ⟨rfl, by omega, by omega, by rw [show ((n : Int) + 1).toNat = n + 1 by omega]; exact N.out, fun j j1 j2 => hno.out j j1 (by omega)⟩, below_drewN (below_drewN HB2.out _) _⟩
    · go_wp2_with fail
      go_ret2
      unfold HalfPost
      exact ⟨_, _, rfl, .inr ⟨rfl, rfl, fun j j1 j2 => hno.out j j1 (by omega)⟩, below_drewN HB2.out _⟩
end Go.Proofs.Ytignncjmbcdpaaa

/-
impl.MeasureMode at a valid mode.
-/
namespace Go.Proofs.Ytignncjmbcdpaaa
open Go Go.RowKit Ieee

/-- The blocks of a measuring: the mode, the result, the report. -/
structure MR (w W : World) (rb a b c d : Nat) (r0 r1 r2 r3 : Value) : Prop where
  pm : W.heap[w.heap.size]? = some (.cells #[.complex .f32 a b, .complex .f32 c d] 52 (0, 0))
  rs : W.heap[w.heap.size + 1]? = some (.cells #[.int .i64 0, .complex .f64 0 0, .float .f64 0, .float .f64 0] 79 (0, 0))
  rp : W.heap[rb]? = some (.cells #[r0, r1, r2, r3] 79 (0, 0))
  lt : w.heap.size + 1 < rb
  bel : Below w.heap.size w W
variable {w W W' : World} {rb a b c d : Nat} {r0 r1 r2 r3 : Value}
theorem MR.rlt (h : MR w W rb a b c d r0 r1 r2 r3) : rb < W.heap.size := lt_of_some h.rp
theorem MR.below (h : MR w W rb a b c d r0 r1 r2 r3) (hb : Below W.heap.size W W') : MR w W' rb a b c d r0 r1 r2 r3 :=
  have := h.rlt
  have := h.lt
  ⟨(hb.block _ (by omega)).trans h.pm, (hb.block _ (by omega)).trans h.rs, (hb.block _ (by omega)).trans h.rp, h.lt, h.bel.trans (hb.mono h.bel.size)⟩
theorem MR.drewN (h : MR w W rb a b c d r0 r1 r2 r3) (n : Nat) : MR w (W.drewN n) rb a b c d r0 r1 r2 r3 := ⟨h.pm, h.rs, h.rp, h.lt, below_drewN h.bel n⟩
theorem MR.alloc (h : MR w W rb a b c d r0 r1 r2 r3) (o : Obj) : MR w (W.alloc o) rb a b c d r0 r1 r2 r3 := h.below ((Below.refl W.heap.size W).alloc (Nat.le_refl _) o)
theorem MR.setAt (h : MR w W rb a b c d r0 r1 r2 r3) (j : Nat) (v : Value) {s0 s1 s2 s3 : Value} (hj : (#[r0, r1, r2, r3] : Array Value).setIfInBounds j v = #[s0, s1, s2, s3]) : MR w (W.setCell ⟨rb, j, none⟩ v) rb a b c d s0 s1 s2 s3 := by
  have h1 := h.lt
  refine ⟨(Below.heap_setCell _ _ _ _ (by show w.heap.size ≠ rb; omega)).trans h.pm, (Below.heap_setCell _ _ _ _ (by show w.heap.size + 1 ≠ rb; omega)).trans h.rs, ?_, h.lt, h.bel.setCell (by show w.heap.size ≤ rb; omega) _⟩
  simp [World.setCell, Array.getElem?_modify, h.rp, ← hj]
theorem MR.p0 (h : MR w W rb a b c d r0 r1 r2 r3) : W.cell? ⟨w.heap.size, 0, none⟩ = some (.complex .f32 a b) := cell_of_row W w.heap.size 0 _ _ (0, 0) h.pm
theorem MR.p1 (h : MR w W rb a b c d r0 r1 r2 r3) : W.cell? ⟨w.heap.size, 1, none⟩ = some (.complex .f32 c d) := cell_of_row W w.heap.size 1 _ _ (0, 0) h.pm
theorem MR.c0 (h : MR w W rb a b c d r0 r1 r2 r3) : W.cell? ⟨rb, 0, none⟩ = some r0 := cell_of_row W rb 0 _ _ (0, 0) h.rp
theorem MR.c1 (h : MR w W rb a b c d r0 r1 r2 r3) : W.cell? ⟨rb, 1, none⟩ = some r1 := cell_of_row W rb 1 _ _ (0, 0) h.rp
theorem MR.c2 (h : MR w W rb a b c d r0 r1 r2 r3) : W.cell? ⟨rb, 2, none⟩ = some r2 := cell_of_row W rb 2 _ _ (0, 0) h.rp
theorem MR.c3 (h : MR w W rb a b c d r0 r1 r2 r3) : W.cell? ⟨rb, 3, none⟩ = some r3 := cell_of_row W rb 3 _ _ (0, 0) h.rp
theorem MR.fz (h : MR w W rb a b c d r0 r1 r2 r3) (k : Nat) : W.frozen? ⟨rb, k, none⟩ = false := by unfold World.frozen?; simp only [h.rp]; simp
theorem MR.fs (h : MR w W rb a b c d r0 r1 r2 r3) (k : Nat) : W.frozen? ⟨w.heap.size + 1, k, none⟩ = false := by unfold World.frozen?; simp only [h.rs]; simp
theorem ownM_lit (W : World) (a b c d : Nat) : OwnM (W.alloc (.cells #[.complex .f32 a b, .complex .f32 c d] 52)) W.heap.size (W.heap.size + 1) (some ⟨W.heap.size, 0, none⟩) 1 [(a, b, c, d)] :=
  ⟨⟨rfl, .inr ⟨W.heap.size, 1, #[.complex .f32 a b, .complex .f32 c d], rfl, Nat.le_refl _, heap_alloc_new W _, Nat.le_refl _, by simp [maxLen], rfl, rfl⟩⟩, fun k hk => by
    have : W.heap.size = k := by injection hk
    omega⟩
theorem FitIn.of {m : MW} (hm : ModeOk m.1 m.2.1 m.2.2.1 m.2.2.2) : FitIn (wid m.1, wid m.2.1) (wid m.2.2.1, wid m.2.2.2) := by
  have a2 := (wid_fin (fin_of_wid hm.fa)).2
  have b2 := (wid_fin (fin_of_wid hm.fb)).2
  have c2 := (wid_fin (fin_of_wid hm.fc)).2
  have d2 := (wid_fin (fin_of_wid hm.fd)).2
  refine ⟨⟨hm.fa, hm.fb⟩, ⟨hm.fc, hm.fd⟩, ?_, ?_⟩
  · show B2 (fv .f64 (wid m.1)) (fv .f64 (wid m.2.1)) rho
    rw [a2, b2]; exact hm.ball
  · have : siz (wid m.2.2.1, wid m.2.2.2) = gam m := by
      show ab (fv .f64 (wid m.2.2.1)) + ab (fv .f64 (wid m.2.2.2)) = _
      rw [c2, d2]; rfl
    rw [this]
    have := gam_le hm
    grind
theorem siz_gam {m : MW} (hm : ModeOk m.1 m.2.1 m.2.2.1 m.2.2.2) : siz (wid m.2.2.1, wid m.2.2.2) = gam m := by
  show ab (fv .f64 (wid m.2.2.1)) + ab (fv .f64 (wid m.2.2.2)) = _
  rw [(wid_fin (fin_of_wid hm.fc)).2, (wid_fin (fin_of_wid hm.fd)).2]; rfl
set_option maxHeartbeats 400000 in
theorem implSubD_any (a b c d : Nat) (w : World) : Calls Try.prog 78 #[.complex .f64 a b, .complex .f64 c d] w fun e w' => ∃ p q n, e = .returned (.complex .f64 p q) ∧ nrm .f64 p = nrm .f64 (fo .sub .f64 a c) ∧ nrm .f64 q = nrm .f64 (fo .sub .f64 b d) ∧ wfk .f64 p ∧ wfk .f64 q ∧ w.drewN n = w' := by
  go_enter Try.func78, Try.ntmps78
  go_wp2_with fail
  go_ret
  exact ⟨_, _, _, rfl, fRo rfl rfl _, fRo rfl rfl _, fR_lt _ _ _ _ _, fR_lt _ _ _ _ _, rfl⟩

theorem ms_one {a b c d : Nat} (h : ModeOk a b c d) : ModesOk [(a, b, c, d)] := fun m hm => by
  simp only [List.mem_singleton] at hm
  subst hm; exact h
theorem lowX_one : LowX [1065353216] := fun i hi => by
  have h0 : i = 0 := by simpa using hi
  subst h0
  show fin .f32 1065353216 ∧ _
  obtain ⟨a1, a2⟩ := fin_of_read (k := .f32) (b := 1065353216) (s := false) (m := 8388608) (e := -23) (by decide +kernel)
  refine ⟨a1, ?_⟩
  show ab (fv .f32 1065353216) ≤ _
  rw [a2, dval_ab]
  show ((8388608 : Nat) : Rat) * pw (-23) ≤ 128
  unfold pw; grind
theorem half_range {a b c d : Nat} {n : Nat} {k : Int} {t : Bool} (h : Half a b c d (n : Int) k t) : 0 ≤ k ∧ k ≤ n := by
  unfold Half at h
  rcases h with ⟨_, h1, h2, _⟩ | ⟨_, h1, _⟩ <;> omega
theorem mr_rd {w : World} {base n c : Nat} {e : TypeId} {A : Option Addr} {xs : List Value} (h : w.ownsRow base e 1 (.slice A n c) n xs) : Rd w A xs := by
  obtain ⟨_, _, q, _, rd⟩ := own_rd h
  injection q with q1 _ q2
  subst q1 q2
  exact rd
theorem mr_addr {w : World} {base n c : Nat} {e : TypeId} {A : Option Addr} {xs : List Value} (h : w.ownsRow base e 1 (.slice A n c) n xs) : (A = none ∧ n = 0 ∧ c = 0) ∨ ∃ g, A = some ⟨g, 0, none⟩ ∧ n ≤ c ∧ c ≤ maxLen := by
  rcases h.2 with ⟨q, h0⟩ | ⟨g, cap, cur, q, _, _, h1, h2, _⟩
  · injection q with q1 q2 q3
    exact .inl ⟨q1, h0, q3⟩
  · injection q with q1 q2 q3
    exact .inr ⟨g, q1, by omega, by omega⟩
theorem rd_lit1 (W : World) (x : Nat) : Rd (W.alloc (.cells #[.float .f32 x] 25)) (some ⟨W.heap.size, 0, none⟩) (f32s [x]) :=
  mr_rd (⟨rfl, .inr ⟨W.heap.size, 1, #[.float .f32 x], rfl, Nat.le_refl _, heap_alloc_new W _, Nat.le_refl _, by simp [maxLen], rfl, rfl⟩⟩ : (W.alloc (.cells #[.float .f32 x] 25)).ownsRow W.heap.size 25 1 (.slice (some ⟨W.heap.size, 0, none⟩) 1 1) 1 (f32s [x]))
/-- What is measured. -/
structure Meas (m : MW) (n : Nat) (hk : Int) (q1 q2 er dr : Nat) : Prop where
  h0 : 0 ≤ hk
  h1 : hk ≤ n
  fq : fin .f64 q1 ∧ fin .f64 q2
  near : 1 / 2 ^ 6 ≤ gam m → ab (fv .f64 q1 - fv .f64 (wid m.1)) ≤ 13 / 2 ^ 45 ∧ ab (fv .f64 q2 - fv .f64 (wid m.2.1)) ≤ 13 / 2 ^ 45
  err : ∃ s1 s2, nrm .f64 s1 = nrm .f64 (fo .sub .f64 q1 (wid m.1)) ∧ nrm .f64 s2 = nrm .f64 (fo .sub .f64 q2 (wid m.2.1)) ∧ nrm .f64 er = fo .add .f64 (abs64 s1) (abs64 s2)
  fdr : fin .f64 dr
  bdr : fv .f64 dr ≤ drBd [m] [1065353216] n

set_option maxRecDepth 100000 in
set_option maxHeartbeats 2000000 in
theorem measure_any (m : MW) (n : Nat) (w : World) (hm : ModeOk m.1 m.2.1 m.2.2.1 m.2.2.2) (h2 : 2 ≤ n) (hn : n ≤ 42) :
    Calls Try.prog 61 #[.agg #[.complex .f32 m.1 m.2.1, .complex .f32 m.2.2.1 m.2.2.2], .int .i64 n] w fun e w' => ∃ (hk : Int) (q1 q2 er dr : Nat),
      e = .returned (.tuple #[.agg #[.int .i64 hk, .complex .f64 q1 q2, .float .f64 er, .float .f64 dr], .bool true]) ∧ Meas m n hk q1 q2 er dr ∧ Below w.heap.size w w' := by
  have HM := Lib.hid hm
  have HI := Lib.hid (FitIn.of hm)
  have HG := Lib.hid (siz_gam hm)
  have T1 := Lib.hid (fun W => widenFin_any m.1 m.2.1 W hm.fa hm.fb)
  have T2 := Lib.hid (fun W => widenFin_any m.2.2.1 m.2.2.2 W hm.fc hm.fd)
  have FIN := Lib.hid (fun k (hk : k ≤ n) => ((FitIn.of hm).ring k (by omega)).f)
  have IM := Lib.hid (fun W => implMode_ok m.1 m.2.1 m.2.2.1 m.2.2.2 W hm)
  have HL := Lib.hid (fun W => implHalf_any m.1 m.2.1 m.2.2.1 m.2.2.2 (n : Int) W hm (by omega) (by omega))
  clear hm
  obtain ⟨a, b, c, d⟩ := m
  simp only at T1 T2 IM HL HG HI FIN ⊢
  obtain ⟨A, hA⟩ : ∃ A, wid a = A := ⟨_, rfl⟩
  obtain ⟨B, hB⟩ : ∃ B, wid b = B := ⟨_, rfl⟩
  obtain ⟨C, hC⟩ : ∃ C, wid c = C := ⟨_, rfl⟩
  obtain ⟨D, hD⟩ : ∃ D, wid d = D := ⟨_, rfl⟩
  rw [hA, hB] at T1 HI FIN
  rw [hC, hD] at T2 HI HG FIN
  have HAB := Lib.hid (And.intro hA hB)
  clear hA hB hC hD
  have S0 : Hid (Below w.heap.size w ((w.alloc (.cells #[.complex .f32 a b, .complex .f32 c d] 52)).alloc (.cells #[.int .i64 0, .complex .f64 0 0, .float .f64 0, .float .f64 0] 79)) ∧
      ((w.alloc (.cells #[.complex .f32 a b, .complex .f32 c d] 52)).alloc (.cells #[.int .i64 0, .complex .f64 0 0, .float .f64 0, .float .f64 0] 79)).heap[w.heap.size]? = some (.cells #[.complex .f32 a b, .complex .f32 c d] 52 (0, 0)) ∧
      ((w.alloc (.cells #[.complex .f32 a b, .complex .f32 c d] 52)).alloc (.cells #[.int .i64 0, .complex .f64 0 0, .float .f64 0, .float .f64 0] 79)).heap[w.heap.size + 1]? = some (.cells #[.int .i64 0, .complex .f64 0 0, .float .f64 0, .float .f64 0] 79 (0, 0))) := by
    refine ⟨((Below.refl w.heap.size w).alloc (Nat.le_refl _) _).alloc (by simp) _, (Below.heap_alloc _ _ _ (by simp)).trans (heap_alloc_new w _), ?_⟩
    have := heap_alloc_new (w.alloc (.cells #[.complex .f32 a b, .complex .f32 c d] 52)) (.cells #[.int .i64 0, .complex .f64 0 0, .float .f64 0, .float .f64 0] 79)
    simpa using this
  have z0 := cell_of_row _ w.heap.size 0 _ _ (0, 0) S0.out.2.1
  have z1 := cell_of_row _ w.heap.size 1 _ _ (0, 0) S0.out.2.1
  simp only [List.getElem?_toArray, List.getElem?_cons_zero, List.getElem?_cons_succ] at z0 z1
  have hsz : w.heap.size + 1 < ((w.alloc (.cells #[.complex .f32 a b, .complex .f32 c d] 52)).alloc (.cells #[.int .i64 0, .complex .f64 0 0, .float .f64 0, .float .f64 0] 79)).heap.size := by simp
  go_enter Try.func61, Try.ntmps61
  go_wp2_with fail
  generalize (w.alloc (.cells #[.complex .f32 a b, .complex .f32 c d] 52)).alloc (.cells #[.int .i64 0, .complex .f64 0 0, .float .f64 0, .float .f64 0] 79) = W0 at *
  refine (IM.out _).mono ?_
  rintro e W1 ⟨rfl, hb1⟩
  have S1 : Hid (MR w (W1.alloc (.cells #[.int .i64 0, .complex .f64 0 0, .float .f64 0, .float .f64 0] 79)) W1.heap.size a b c d (.int .i64 0) (.complex .f64 0 0) (.float .f64 0) (.float .f64 0)) := by
    have hs := hb1.size
    refine ⟨(Below.heap_alloc _ _ _ (by omega)).trans ((hb1.block _ (by omega)).trans S0.out.2.1), (Below.heap_alloc _ _ _ (by omega)).trans ((hb1.block _ hsz).trans S0.out.2.2), heap_alloc_new W1 _, by omega, (S0.out.1.trans (hb1.mono (by omega))).alloc (by omega) _⟩
  clear hb1 S0 z0 z1 hsz
  have p0 := S1.out.p0
  have p1 := S1.out.p1
  go_wp2_with fail
  generalize W1.alloc (.cells #[.int .i64 0, .complex .f64 0 0, .float .f64 0, .float .f64 0] 79) = V1 at *
  generalize W1.heap.size = rb at *
  refine (HL.out _).mono ?_
  intro e W2 hp
  unfold HalfPost at hp
  obtain ⟨hk, t, rfl, hh, hb2⟩ := hp
  have HK := Lib.hid (half_range hh)
  have S2 := Lib.hid (S1.out.below hb2)
  have c0 := S2.out.c0
  have z0 := S2.out.fz 0
  have S3 := Lib.hid (S2.out.setAt 0 (.int .i64 hk) rfl)
  clear S1 hb2 hh p0 p1 S2
  go_wp2_with fail
  clear c0 z0
  generalize W2.setCell ⟨rb, 0, none⟩ (.int .i64 hk) = V3 at *
  have p0 := S3.out.p0
  have p1 := S3.out.p1
  have S4 : Hid (MR w V3.drew rb a b c d (.int .i64 hk) (.complex .f64 0 0) (.float .f64 0) (.float .f64 0)) := S3.out.drewN 1
  refine wp_region_held_drew (S := fun w' => w'.cell? ⟨w.heap.size, 0, none⟩ = some (.complex .f32 a b) ∧ w'.cell? ⟨w.heap.size, 1, none⟩ = some (.complex .f32 c d)) (by kernel_rfl) ⟨p0, p1⟩ (fun hHeld => ?_)
  clear S3 p0 p1
  generalize V3.drew = V4 at *
  refine wpAnyH_take (i := 0) (oi := _) (v := ?_) rfl (by kernel_rfl) (by kernel_rfl) (by kernel_rfl) (fun _ _ _ h => h) (Or.inl ⟨by rfl, ?_⟩) (by assumption) ?_
  rotate_left
  · (intro w hSw; (try dsimp only at hSw); go_simp; try (with_reducible rfl))
  (try simp only [Act.put, List.setIfInBounds_toArray, List.set_cons_zero, List.set_cons_succ])
  refine wpAnyH_take (i := 1) (oi := _) (v := ?_) rfl (by kernel_rfl) (by kernel_rfl) (by kernel_rfl) (fun _ _ _ h => h) (Or.inl ⟨by rfl, ?_⟩) (by assumption) ?_
  rotate_left
  · (intro w hSw; (try dsimp only at hSw); go_simp; try (with_reducible rfl))
  (try simp only [Act.put, List.setIfInBounds_toArray, List.set_cons_zero, List.set_cons_succ])
  refine wpAnyH_take (i := 3) (oi := _) (v := ?_) rfl (by kernel_rfl) (by kernel_rfl) (by kernel_rfl) (fun _ _ _ h => h) (Or.inl ⟨by rfl, ?_⟩) (by assumption) ?_
  rotate_left
  · (intro w hSw; (try dsimp only at hSw); go_simp; try (with_reducible rfl))
  (try simp only [Act.put, List.setIfInBounds_toArray, List.set_cons_zero, List.set_cons_succ])
  refine wpAnyH_take (i := 4) (oi := _) (v := ?_) rfl (by kernel_rfl) (by kernel_rfl) (by kernel_rfl) (fun _ _ _ h => h) (Or.inl ⟨by rfl, ?_⟩) (by assumption) ?_
  rotate_left
  · (intro w hSw; (try dsimp only at hSw); go_simp; try (with_reducible rfl))
  (try simp only [Act.put, List.setIfInBounds_toArray, List.set_cons_zero, List.set_cons_succ])
  refine wpAnyH_take (i := 6) (oi := _) (v := ?_) rfl (by kernel_rfl) (by kernel_rfl) (by kernel_rfl) (fun _ _ _ h => h) (Or.inl ⟨by rfl, ?_⟩) (by assumption) ?_
  rotate_left
  · (intro w hSw; (try dsimp only at hSw); go_simp; try (with_reducible rfl))
  (try simp only [Act.put, List.setIfInBounds_toArray, List.set_cons_zero, List.set_cons_succ])
  refine wpAnyH_ready (rs := [2]) (by kernel_rfl) (by simp) ?_
  refine AllReadyH.cons (o := _) rfl (fun K hK => ?_) AllReadyH.nil
  go_simp
  refine (T1.out _).mono ?_
  rintro e w' ⟨rfl, rfl⟩
  go_wp2_with fail
  refine hK.out _ _ ?_ (fun hHelda => ?_)
  · exact hHeld
  clear hK K
  (try simp only [Act.put, List.setIfInBounds_toArray, List.set_cons_zero, List.set_cons_succ])
  refine wpAnyH_ready (rs := [5]) (by kernel_rfl) (by simp) ?_
  refine AllReadyH.cons (o := _) rfl (fun K hK => ?_) AllReadyH.nil
  go_simp
  refine (T2.out _).mono ?_
  rintro e w' ⟨rfl, rfl⟩
  go_wp2_with fail
  refine hK.out _ _ ?_ (fun hHeldb => ?_)
  · exact hHeld
  clear hK K
  (try simp only [Act.put, List.setIfInBounds_toArray, List.set_cons_zero, List.set_cons_succ])
  refine wpAnyH_ready (rs := [7]) (by kernel_rfl) (by simp) ?_
  refine AllReadyH.cons (o := _) rfl (fun K hK => ?_) AllReadyH.nil
  go_simp
  refine (implRing_any (A, B) (C, D) n _ (by omega) FIN.out).mono ?_
  intro e W5 hp
  unfold RingPost at hp
  obtain ⟨A5, c5, rfl, own5, hb5⟩ := hp
  have S5 := Lib.hid (S4.out.below hb5)
  clear hHeld hHelda hHeldb
  go_wp2_with fail
  refine hK.out _ _ ?_ (fun hHeldc => ?_)
  · exact ⟨S5.out.p0, S5.out.p1⟩
  clear hK K
  (try simp only [Act.put, List.setIfInBounds_toArray, List.set_cons_zero, List.set_cons_succ])
  refine wpAnyH_take (i := 8) (oi := _) (v := ?_) rfl (by kernel_rfl) (by kernel_rfl) (by kernel_rfl) (fun _ _ _ h => h) (Or.inl ⟨by rfl, ?_⟩) (by assumption) ?_
  rotate_left
  · (intro w hSw; (try dsimp only at hSw); go_simp; try (with_reducible rfl))
  (try simp only [Act.put, List.setIfInBounds_toArray, List.set_cons_zero, List.set_cons_succ])
  refine wpAnyH_take (i := 9) (oi := _) (v := ?_) rfl (by kernel_rfl) (by kernel_rfl) (by kernel_rfl) (fun _ _ _ h => h) (Or.inl ⟨by rfl, ?_⟩) (by assumption) ?_
  rotate_left
  · (intro w hSw; (try dsimp only at hSw); go_simp; try (with_reducible rfl))
  (try simp only [Act.put, List.setIfInBounds_toArray, List.set_cons_zero, List.set_cons_succ])
  refine wpAnyH_take (i := 10) (oi := _) (v := ?_) rfl (by kernel_rfl) (by kernel_rfl) (by kernel_rfl) (fun _ _ _ h => h) (Or.inl ⟨by rfl, ?_⟩) (by assumption) ?_
  rotate_left
  · (intro w hSw; (try dsimp only at hSw); go_simp; try (with_reducible rfl))
  (try simp only [Act.put, List.setIfInBounds_toArray, List.set_cons_zero, List.set_cons_succ])
  refine wpAnyH_take (i := 11) (oi := _) (v := ?_) rfl (by kernel_rfl) (by kernel_rfl) (by kernel_rfl) (fun _ _ _ h => h) (Or.inl ⟨by rfl, ?_⟩) (by assumption) ?_
  rotate_left
  · (intro w hSw; (try dsimp only at hSw); go_simp; try (with_reducible rfl))
  (try simp only [Act.put, List.setIfInBounds_toArray, List.set_cons_zero, List.set_cons_succ])
  refine wpAnyH_take (i := 12) (oi := _) (v := ?_) rfl (by kernel_rfl) (by kernel_rfl) (by kernel_rfl) (fun _ _ _ h => h) (Or.inl ⟨by rfl, ?_⟩) (by assumption) ?_
  rotate_left
  · (intro w hSw; (try dsimp only at hSw); go_simp; try (with_reducible rfl))
  (try simp only [Act.put, List.setIfInBounds_toArray, List.set_cons_zero, List.set_cons_succ])
  refine wpAnyH_done (by kernel_rfl) ?_ _
  clear hHeldc hb5 S4
  obtain ⟨g5, rfl, hc5⟩ : ∃ g, A5 = some ⟨g, 0, none⟩ ∧ n ≤ c5 := by
    rcases mr_addr own5 with ⟨_, h, _⟩ | ⟨g, e, h, _⟩
    · omega
    · exact ⟨g, e, h⟩
  have R5 := Lib.hid (mr_rd own5)
  clear own5
  go_wp2_with fail
  refine (fitSquares_any (A, B) (C, D) g5 c5 n _ HI.out h2 hn hc5 R5.out).mono ?_
  intro e W6 hp
  unfold FitPost at hp
  obtain ⟨q1, q2, t6, j6, rfl, HF, HN, rfl⟩ := hp
  have S6 := Lib.hid (S5.out.drewN j6)
  have HQ := Lib.hid (And.intro HF HN)
  clear S5 R5 HF HN
  generalize W5.drewN j6 = V6 at *
  have c6 := S6.out.c1
  have z6 := S6.out.fz 1
  have S7 := Lib.hid (S6.out.setAt 1 (.complex .f64 q1 q2) rfl)
  clear S6
  go_wp2_with fail
  clear c6 z6
  generalize V6.setCell ⟨rb, 1, none⟩ (.complex .f64 q1 q2) = V7 at *
  have p0 := S7.out.p0
  have p1 := S7.out.c1
  have S8 : Hid (MR w V7.drew rb a b c d (.int .i64 hk) (.complex .f64 q1 q2) (.float .f64 0) (.float .f64 0)) := S7.out.drewN 1
  refine wp_region_held_drew (S := fun w' => w'.cell? ⟨w.heap.size, 0, none⟩ = some (.complex .f32 a b) ∧ w'.cell? ⟨rb, 1, none⟩ = some (.complex .f64 q1 q2)) (by kernel_rfl) ⟨p0, p1⟩ (fun hHeld => ?_)
  clear S7 p0 p1
  generalize V7.drew = V8 at *
  refine wpAnyH_take (i := 0) (oi := _) (v := ?_) rfl (by kernel_rfl) (by kernel_rfl) (by kernel_rfl) (fun _ _ _ h => h) (Or.inl ⟨by rfl, ?_⟩) (by assumption) ?_
  rotate_left
  · (intro w hSw; (try dsimp only at hSw); go_simp; try (with_reducible rfl))
  (try simp only [Act.put, List.setIfInBounds_toArray, List.set_cons_zero, List.set_cons_succ])
  refine wpAnyH_take (i := 1) (oi := _) (v := ?_) rfl (by kernel_rfl) (by kernel_rfl) (by kernel_rfl) (fun _ _ _ h => h) (Or.inl ⟨by rfl, ?_⟩) (by assumption) ?_
  rotate_left
  · (intro w hSw; (try dsimp only at hSw); go_simp; try (with_reducible rfl))
  (try simp only [Act.put, List.setIfInBounds_toArray, List.set_cons_zero, List.set_cons_succ])
  refine wpAnyH_take (i := 2) (oi := _) (v := ?_) rfl (by kernel_rfl) (by kernel_rfl) (by kernel_rfl) (fun _ _ _ h => h) (Or.inl ⟨by rfl, ?_⟩) (by assumption) ?_
  rotate_left
  · (intro w hSw; (try dsimp only at hSw); go_simp; try (with_reducible rfl))
  (try simp only [Act.put, List.setIfInBounds_toArray, List.set_cons_zero, List.set_cons_succ])
  refine wpAnyH_take (i := 3) (oi := _) (v := ?_) rfl (by kernel_rfl) (by kernel_rfl) (by kernel_rfl) (fun _ _ _ h => h) (Or.inl ⟨by rfl, ?_⟩) (by assumption) ?_
  rotate_left
  · (intro w hSw; (try dsimp only at hSw); go_simp; try (with_reducible rfl))
  (try simp only [Act.put, List.setIfInBounds_toArray, List.set_cons_zero, List.set_cons_succ])
  refine wpAnyH_ready (rs := [4]) (by kernel_rfl) (by simp) ?_
  refine AllReadyH.cons (o := _) rfl (fun K hK => ?_) AllReadyH.nil
  go_simp
  refine (T1.out _).mono ?_
  rintro e w' ⟨rfl, rfl⟩
  go_wp2_with fail
  refine hK.out _ _ ?_ (fun hHelda => ?_)
  · exact hHeld
  clear hK K
  (try simp only [Act.put, List.setIfInBounds_toArray, List.set_cons_zero, List.set_cons_succ])
  refine wpAnyH_ready (rs := [5]) (by kernel_rfl) (by simp) ?_
  refine AllReadyH.cons (o := _) rfl (fun K hK => ?_) AllReadyH.nil
  go_simp
  refine (implSubD_any q1 q2 A B _).mono ?_
  rintro e w' ⟨s1, s2, j8, rfl, hs1, hs2, ws1, ws2, rfl⟩
  have HS := Lib.hid (And.intro hs1 hs2)
  clear hs1 hs2 hHelda
  go_wp2_with fail
  refine hK.out _ _ ?_ (fun hHeldb => ?_)
  · exact hHeld
  clear hK K
  (try simp only [Act.put, List.setIfInBounds_toArray, List.set_cons_zero, List.set_cons_succ])
  refine wpAnyH_ready (rs := [6]) (by kernel_rfl) (by simp) ?_
  refine AllReadyH.cons (o := _) rfl (fun K hK => ?_) AllReadyH.nil
  go_simp
  refine (implSize_any s1 s2 _ ws1 ws2).mono ?_
  rintro e w' ⟨er, j9, rfl, he, we, rfl⟩
  have HE := Lib.hid (And.intro he we)
  have S10 := Lib.hid (S8.out.drewN (j8 + j9))
  clear ws1 ws2 he we S8 hHeldb
  go_wp2_with fail
  refine hK.out _ _ ?_ (fun hHeldc => ?_)
  · exact hHeld
  clear hK K
  (try simp only [Act.put, List.setIfInBounds_toArray, List.set_cons_zero, List.set_cons_succ])
  refine wpAnyH_take (i := 7) (oi := _) (v := ?_) rfl (by kernel_rfl) (by kernel_rfl) (by kernel_rfl) (fun _ _ _ h => h) (Or.inl ⟨by rfl, ?_⟩) (by assumption) ?_
  rotate_left
  · (intro w hSw; (try dsimp only at hSw); go_simp; try (with_reducible rfl))
  (try simp only [Act.put, List.setIfInBounds_toArray, List.set_cons_zero, List.set_cons_succ])
  clear hHeld hHeldc
  generalize V8.drewN (j8 + j9) = V10 at *
  have c10 := S10.out.c2
  have z10 := S10.out.fz 2
  have S11 := Lib.hid (S10.out.setAt 2 (.float .f64 er) rfl)
  clear S10
  refine wpAnyH_ready (rs := [8]) (by kernel_rfl) (by simp) ?_
  refine AllReadyH.cons (o := _) rfl (fun K hK => ?_) AllReadyH.nil
  go_simp
  refine hK.out _ _ ?_ (fun hHeldd => ?_)
  · exact ⟨S11.out.p0, S11.out.c1⟩
  clear hK K
  (try simp only [Act.put, List.setIfInBounds_toArray, List.set_cons_zero, List.set_cons_succ])
  refine wpAnyH_done (by kernel_rfl) ?_ _
  clear c10 z10 hHeldd
  generalize V10.setCell ⟨rb, 2, none⟩ (.float .f64 er) = V11 at *
  have p0 := S11.out.p0
  have p1 := S11.out.p1
  have OM : Hid (OwnM ((V11.alloc (.cells #[.complex .f32 a b, .complex .f32 c d] 52)).alloc (.cells #[.float .f32 1065353216] 25)) V11.heap.size (V11.heap.size + 1) (some ⟨V11.heap.size, 0, none⟩) 1 [(a, b, c, d)]) :=
    (ownM_lit V11 a b c d).below ((Below.refl _ _).alloc (Nat.le_refl _) _) (by simp)
  have RX : Hid (Rd ((V11.alloc (.cells #[.complex .f32 a b, .complex .f32 c d] 52)).alloc (.cells #[.float .f32 1065353216] 25)) (some ⟨V11.heap.size + 1, 0, none⟩) (f32s [1065353216])) := by
    show Rd _ _ _
    have := rd_lit1 (V11.alloc (.cells #[.complex .f32 a b, .complex .f32 c d] 52)) 1065353216
    simpa using this
  have S12 := Lib.hid ((S11.out.alloc (.cells #[.complex .f32 a b, .complex .f32 c d] 52)).alloc (.cells #[.float .f32 1065353216] 25))
  have hs12 : V11.heap.size + 1 ≤ ((V11.alloc (.cells #[.complex .f32 a b, .complex .f32 c d] 52)).alloc (.cells #[.float .f32 1065353216] 25)).heap.size := by simp
  clear S11
  go_wp2_with fail
  generalize (V11.alloc (.cells #[.complex .f32 a b, .complex .f32 c d] 52)).alloc (.cells #[.float .f32 1065353216] 25) = V12 at *
  refine (driftOf_any (some ⟨V11.heap.size, 0, none⟩) (some ⟨V11.heap.size + 1, 0, none⟩) 1 1 _ _ [(a, b, c, d)] [1065353216] n V12 OM.out (by omega) (ms_one HM.out) (by simp) RX.out (by omega) lowX_one (by simp)).mono ?_
  rintro e W13 ⟨dr, rfl, fdr, bdr, hb13⟩
  have HD := Lib.hid (And.intro fdr bdr)
  have S13 := Lib.hid (S12.out.below hb13)
  clear fdr bdr hb13 OM RX S12 p0 p1 hs12
  have c13 := S13.out.c3
  have z13 := S13.out.fz 3
  have S14 := Lib.hid (S13.out.setAt 3 (.float .f64 dr) rfl)
  clear S13
  have c0 := S14.out.c0
  have c1 := S14.out.c1
  have c2 := S14.out.c2
  have c3 := S14.out.c3
  have f0 := S14.out.fs 0
  have f1 := S14.out.fs 1
  have f2 := S14.out.fs 2
  have f3 := S14.out.fs 3
  have s0 := cell_of_row (W13.setCell ⟨rb, 3, none⟩ (.float .f64 dr)) (w.heap.size + 1) 0 _ _ (0, 0) S14.out.rs
  have s1' := cell_of_row (W13.setCell ⟨rb, 3, none⟩ (.float .f64 dr)) (w.heap.size + 1) 1 _ _ (0, 0) S14.out.rs
  have s2' := cell_of_row (W13.setCell ⟨rb, 3, none⟩ (.float .f64 dr)) (w.heap.size + 1) 2 _ _ (0, 0) S14.out.rs
  have s3 := cell_of_row (W13.setCell ⟨rb, 3, none⟩ (.float .f64 dr)) (w.heap.size + 1) 3 _ _ (0, 0) S14.out.rs
  simp only [List.getElem?_toArray, List.getElem?_cons_zero, List.getElem?_cons_succ] at s0 s1' s2' s3
  go_wp2_with fail
  clear c13 z13 c0 c1 c2 c3 f0 f1 f2 f3 s0 s1' s2' s3
  generalize W13.setCell ⟨rb, 3, none⟩ (.float .f64 dr) = V14 at *
  have HRes : Hid (((((V14.setCell ⟨w.heap.size + 1, 0, none⟩ (.int .i64 hk)).setCell ⟨w.heap.size + 1, 1, none⟩ (.complex .f64 q1 q2)).setCell ⟨w.heap.size + 1, 2, none⟩ (.float .f64 er)).setCell ⟨w.heap.size + 1, 3, none⟩ (.float .f64 dr)).heap[w.heap.size + 1]? = some (.cells #[.int .i64 hk, .complex .f64 q1 q2, .float .f64 er, .float .f64 dr] 79 (0, 0))) := by
    show _ = _
    simp [World.setCell, Array.getElem?_modify, S14.out.rs]
  refine bodyPost_ret (results_cell_tmp_row rfl _ _ (w.heap.size + 1) 79 #[.int .i64 hk, .complex .f64 q1 q2, .float .f64 er, .float .f64 dr] (0, 0) _ rfl HRes.out Try.underlying79 rfl (by kernel_rfl)) rfl ?_
  clear HRes
  obtain ⟨rfl, rfl⟩ := HAB.out
  refine ⟨hk, q1, q2, er, dr, rfl, ⟨HK.out.1, HK.out.2, ⟨HQ.out.1.1, HQ.out.1.2.1⟩, fun hg => ?_, ⟨s1, s2, HS.out.1, HS.out.2, HE.out.1⟩, HD.out.1, HD.out.2⟩, ?_⟩
  · obtain ⟨n1, n2, _⟩ := HQ.out.2 (by rw [HG.out]; exact hg)
    exact ⟨n1, n2⟩
  · have hb := Lib.hid S14.out.bel
    exact (((hb.out.setCell (by show w.heap.size ≤ w.heap.size + 1; omega) _).setCell (by show w.heap.size ≤ w.heap.size + 1; omega) _).setCell (by show w.heap.size ≤ w.heap.size + 1; omega) _).setCell (by show w.heap.size ≤ w.heap.size + 1; omega) _
end Go.Proofs.Ytignncjmbcdpaaa

/-
impl.NarrowError at valid wide modes.
-/
namespace Go.Proofs.Ytignncjmbcdpaaa
open Go Go.RowKit Ieee

/-- What is known of the greatest error. -/
structure ErrAt (P : Rat → Prop) (r : Nat) : Prop where
  fin : fin .f64 r
  wf : wfk .f64 r
  val : P (fv .f64 r)
theorem errW_of {a b p q s : Nat} (fa : fin .f64 a) (fb : fin .f64 b) (ha : ab (fv .f64 a) ≤ 1) (hb : ab (fv .f64 b) ≤ 1) (hp : nrm .f64 p = nrm .f64 (fo .sub .f64 a (wid (nar a)))) (hq : nrm .f64 q = nrm .f64 (fo .sub .f64 b (wid (nar b))))
    (hs : nrm .f64 s = fo .add .f64 (abs64 p) (abs64 q)) : errW a b = s := by
  have f1 := (err_part fa ha).1
  have f2 := (err_part fb hb).1
  have e1 : p = fo .sub .f64 a (wid (nar a)) := nrm_fin_eq (by rw [hp, nrm_fin f1]) f1
  have e2 : q = fo .sub .f64 b (wid (nar b)) := nrm_fin_eq (by rw [hq, nrm_fin f2]) f2
  subst e1 e2
  exact (nrm_fin_eq hs (err_val fa fb ha hb).1).symm

set_option maxRecDepth 100000 in
set_option maxHeartbeats 1000000 in
theorem narrowError_any (P : Rat → Prop) (h0 : P 0) (A : Option Addr) (c lo hi : Nat) (ds : List DW) (w : World) (h : OwnD w lo hi A c ds) (hh : hi ≤ w.heap.size) (hok : WidesOk ds) (hl : ds.length ≤ 16)
    (hP : ∀ i, i < ds.length → P (fv .f64 (errW (dAt ds i).1 (dAt ds i).2.1))) :
    Calls Try.prog 67 #[.slice A ds.length c] w fun e w' => ∃ r, e = .returned (.tuple #[.float .f64 r, .bool true]) ∧ ErrAt P r ∧ Below w.heap.size w w' := by
  have HK := Lib.hid hok
  have HW := Lib.hid h
  have HPP := Lib.hid hP
  have H0 : Hid (ErrAt P 0) := ⟨(zero_fin .f64).1, by rw [wfk_64]; omega, by rw [(zero_fin .f64).2]; exact h0⟩
  clear h hok hP h0
  go_enter Try.func67, Try.ntmps67
  go_wp2_with fail
  refine (areWide_any A c lo hi ds w HW.out hh HK.out hl).mono ?_
  rintro e W1 ⟨rfl, hb1⟩
  have HB1 := Lib.hid hb1
  clear hb1
  go_wp2_with fail
  go_loopw [4, 12] (fun v i wr => ∃ (k r : Nat), i = .int .i64 (k : Int) ∧ k ≤ ds.length ∧ v = .float .f64 r ∧ Hid (ErrAt P r) ∧ Below w.heap.size w wr) (fun _ i _ => ds.length - (intOf i).toNat)
  case atStart => exact ⟨0, 0, rfl, by omega, rfl, H0.out, HB1.out⟩
  case round =>
    clear H0 HB1
    obtain ⟨k, r, rfl, hk, rfl, HR, hbel⟩ := hrel
    by_cases hlt : k < ds.length
    · obtain ⟨b, rfl, hb1, hb2, hlc, hmx, hcell⟩ := (HW.out.below hbel hh).cells (by omega)
      obtain ⟨e1, e2⟩ := hcell k hlt
      have e1' : wr.cell? ⟨b, k * 2, none⟩ = some (.complex .f64 (dAt ds k).1 (dAt ds k).2.1) := e1
      have e2' : wr.cell? ⟨b, k * 2 + 1, none⟩ = some (.complex .f64 (dAt ds k).2.2.1 (dAt ds k).2.2.2) := e2
      have hmk : WideOk (dAt ds k).1 (dAt ds k).2.1 (dAt ds k).2.2.1 (dAt ds k).2.2.2 := HK.out.at_ hlt
      have hPk := HPP.out k hlt
      obtain ⟨p1, p2, t1, t2, _, _⟩ := wide_tops hmk
      have fa := hmk.fa
      have fb := hmk.fb
      clear e1 e2 hcell hmk
      obtain ⟨a, ha⟩ : ∃ a, (dAt ds k).1 = a := ⟨_, rfl⟩
      obtain ⟨b0, hb⟩ : ∃ b, (dAt ds k).2.1 = b := ⟨_, rfl⟩
      obtain ⟨c0, hc⟩ : ∃ c, (dAt ds k).2.2.1 = c := ⟨_, rfl⟩
      obtain ⟨d, hd⟩ : ∃ d, (dAt ds k).2.2.2 = d := ⟨_, rfl⟩
      rw [ha, hb] at e1' hPk
      rw [hc, hd] at e2'
      rw [ha] at fa p1 t1
      rw [hb] at fb p2 t2
      clear ha hb hc hd
      have T1 := Lib.hid (fun W => implNarrow_any a b0 W fa fb t1 t2)
      have T2 := Lib.hid (fun W => widenFin_any (nar a) (nar b0) W (wid_fin (nar_half fa p1).1).1 (wid_fin (nar_half fb p2).1).1)
      have HE := Lib.hid (fun p q s => errW_of (p := p) (q := q) (s := s) fa fb p1 p2)
      have hev := err_val fa fb p1 p2
      have hmx2 := mxW_val HR.out.fin hev.1
      have HM : ∀ W : World, (Builtin.max_ #[30, 30] 30 #[.float .f64 r, .float .f64 (errW a b0)]).run Try.prog W = .ok (.float .f64 (mxW r (errW a b0))) W := fun W => run_mxW W _ _ r (errW a b0) hmx2.1
      have HZ : Hid (ErrAt P (mxW r (errW a b0))) := ⟨hmx2.2.1, hmx2.2.2.2 HR.out.wf (by unfold errW; exact fo_lt _ _ _ _), hmx2.2.2.1 P HR.out.val hPk⟩
      clear hev hmx2 hPk fa fb p1 p2 t1 t2
      obtain ⟨na, hna⟩ : ∃ x, nar a = x := ⟨_, rfl⟩
      obtain ⟨nb, hnb⟩ : ∃ x, nar b0 = x := ⟨_, rfl⟩
      rw [hna, hnb] at T1 T2
      rw [hna, hnb] at HE
      clear hna hnb
      obtain ⟨A', hA'⟩ : ∃ x, wid na = x := ⟨_, rfl⟩
      obtain ⟨B', hB'⟩ : ∃ x, wid nb = x := ⟨_, rfl⟩
      rw [hA', hB'] at T2 HE
      clear hA' hB'
      obtain ⟨er, her⟩ : ∃ x, errW a b0 = x := ⟨_, rfl⟩
      rw [her] at HE HM HZ
      clear her
      obtain ⟨z, hz⟩ : ∃ x, mxW r er = x := ⟨_, rfl⟩
      rw [hz] at HM HZ
      clear hz
      have hbelA : Hid (Below w.heap.size w (wr.alloc (.cells #[.complex .f64 a b0, .complex .f64 c0 d] 131))) := hbel.alloc hbel.size _
      have hm := heap_alloc_new wr (.cells #[.complex .f64 a b0, .complex .f64 c0 d] 131)
      have HM0 := Lib.hid (wm_cells hm)
      clear hm hbel
      go_wp2_with fail
      generalize hmb : wr.heap.size = mb at *
      generalize wr.alloc (.cells #[.complex .f64 a b0, .complex .f64 c0 d] 131) = Wa at *
      have hS : Wa.drew.cell? ⟨mb, 0, none⟩ = some (.complex .f64 a b0) ∧ Wa.drew.cell? ⟨mb, 1, none⟩ = some (.complex .f64 c0 d) := HM0.out
      have hbelA : Hid (Below w.heap.size w Wa.drew) := below_drewN hbelA.out 1
      clear e1' e2' HM0
      refine wp_region_held_drew (S := fun w' => w'.cell? ⟨mb, 0, none⟩ = some (.complex .f64 a b0) ∧ w'.cell? ⟨mb, 1, none⟩ = some (.complex .f64 c0 d)) (by kernel_rfl) hS (fun hHeld => ?_)
      generalize Wa.drew = Wb at *
      refine wpAnyH_take (i := 0) (oi := _) (v := ?_) rfl (by kernel_rfl) (by kernel_rfl) (by kernel_rfl) (fun _ _ _ h => h) (Or.inl ⟨by rfl, ?_⟩) (by assumption) ?_
      rotate_left
      · (intro w hSw; (try dsimp only at hSw); go_simp; try (with_reducible rfl))
      (try simp only [Act.put, List.setIfInBounds_toArray, List.set_cons_zero, List.set_cons_succ])
      refine wpAnyH_take (i := 1) (oi := _) (v := ?_) rfl (by kernel_rfl) (by kernel_rfl) (by kernel_rfl) (fun _ _ _ h => h) (Or.inl ⟨by rfl, ?_⟩) (by assumption) ?_
      rotate_left
      · (intro w hSw; (try dsimp only at hSw); go_simp; try (with_reducible rfl))
      (try simp only [Act.put, List.setIfInBounds_toArray, List.set_cons_zero, List.set_cons_succ])
      refine wpAnyH_take (i := 2) (oi := _) (v := ?_) rfl (by kernel_rfl) (by kernel_rfl) (by kernel_rfl) (fun _ _ _ h => h) (Or.inl ⟨by rfl, ?_⟩) (by assumption) ?_
      rotate_left
      · (intro w hSw; (try dsimp only at hSw); go_simp; try (with_reducible rfl))
      (try simp only [Act.put, List.setIfInBounds_toArray, List.set_cons_zero, List.set_cons_succ])
      refine wpAnyH_take (i := 3) (oi := _) (v := ?_) rfl (by kernel_rfl) (by kernel_rfl) (by kernel_rfl) (fun _ _ _ h => h) (Or.inl ⟨by rfl, ?_⟩) (by assumption) ?_
      rotate_left
      · (intro w hSw; (try dsimp only at hSw); go_simp; try (with_reducible rfl))
      (try simp only [Act.put, List.setIfInBounds_toArray, List.set_cons_zero, List.set_cons_succ])
      refine wpAnyH_take (i := 4) (oi := _) (v := ?_) rfl (by kernel_rfl) (by kernel_rfl) (by kernel_rfl) (fun _ _ _ h => h) (Or.inl ⟨by rfl, ?_⟩) (by assumption) ?_
      rotate_left
      · (intro w hSw; (try dsimp only at hSw); go_simp; try (with_reducible rfl))
      (try simp only [Act.put, List.setIfInBounds_toArray, List.set_cons_zero, List.set_cons_succ])
      refine wpAnyH_ready (rs := [5]) (by kernel_rfl) (by simp) ?_
      refine AllReadyH.cons (o := _) rfl (fun K hK => ?_) AllReadyH.nil
      go_simp
      refine (T1.out _).mono ?_
      rintro e w' ⟨m1, rfl, rfl⟩
      go_wp2_with fail
      refine hK.out _ _ ?_ (fun hHelda => ?_)
      · exact hHeld
      clear hK K
      (try simp only [Act.put, List.setIfInBounds_toArray, List.set_cons_zero, List.set_cons_succ])
      refine wpAnyH_ready (rs := [6]) (by kernel_rfl) (by simp) ?_
      refine AllReadyH.cons (o := _) rfl (fun K hK => ?_) AllReadyH.nil
      go_simp
      refine (T2.out _).mono ?_
      rintro e w' ⟨rfl, rfl⟩
      go_wp2_with fail
      refine hK.out _ _ ?_ (fun hHeldb => ?_)
      · exact hHeld
      clear hK K
      (try simp only [Act.put, List.setIfInBounds_toArray, List.set_cons_zero, List.set_cons_succ])
      refine wpAnyH_ready (rs := [7]) (by kernel_rfl) (by simp) ?_
      refine AllReadyH.cons (o := _) rfl (fun K hK => ?_) AllReadyH.nil
      go_simp
      refine (implSubD_any a b0 A' B' _).mono ?_
      rintro e w' ⟨p, q, m2, rfl, hp, hq, wp, wq, rfl⟩
      have HP := Lib.hid (And.intro hp hq)
      clear hp hq
      go_wp2_with fail
      refine hK.out _ _ ?_ (fun hHeldc => ?_)
      · exact hHeld
      clear hK K
      (try simp only [Act.put, List.setIfInBounds_toArray, List.set_cons_zero, List.set_cons_succ])
      refine wpAnyH_ready (rs := [8]) (by kernel_rfl) (by simp) ?_
      refine AllReadyH.cons (o := _) rfl (fun K hK => ?_) AllReadyH.nil
      go_simp
      refine (implSize_any p q _ wp wq).mono ?_
      rintro e w' ⟨s, m3, rfl, hs, ws, rfl⟩
      obtain rfl := HE.out p q s HP.out.1 HP.out.2 hs
      clear hs HP
      go_wp2_with fail
      refine hK.out _ _ ?_ (fun hHeldd => ?_)
      · exact hHeld
      clear hK K
      (try simp only [Act.put, List.setIfInBounds_toArray, List.set_cons_zero, List.set_cons_succ])
      refine wpAnyH_ready (rs := [9]) (by kernel_rfl) (by simp) ?_
      refine AllReadyH.cons (o := _) rfl (fun K hK => ?_) AllReadyH.nil
      go_simp
      refine hK.out _ _ ?_ (fun hHelde => ?_)
      · exact hHeld
      clear hK K
      (try simp only [Act.put, List.setIfInBounds_toArray, List.set_cons_zero, List.set_cons_succ])
      refine wpAnyH_take (i := 10) (oi := _) (v := ?_) rfl (by kernel_rfl) (by kernel_rfl) (by kernel_rfl) (fun _ _ _ h => h) (Or.inl ⟨by rfl, ?_⟩) (by assumption) ?_
      rotate_left
      · (intro w hSw; (try dsimp only at hSw); go_simp; try (with_reducible rfl))
      (try simp only [Act.put, List.setIfInBounds_toArray, List.set_cons_zero, List.set_cons_succ])
      refine wpAnyH_done (by kernel_rfl) ?_ _
      go_wp2_with fail
      go_roundw
      case rel => exact ⟨k + 1, z, by go_num, by omega, rfl, HZ.out, below_drewN (hbelA.out) _⟩
      case measure => simp [intOf]; omega
    · have hkn : ds.length = k := by omega
      subst hkn
      go_wp2_with fail
      go_ret2
      exact ⟨r, rfl, HR.out, hbel⟩
end Go.Proofs.Ytignncjmbcdpaaa

/-
laws.power of a negative number, to the bit.
-/
namespace Go.Proofs.Ytignncjmbcdpaaa
open Go Go.RowKit

set_option maxHeartbeats 400000 in
theorem power_neg_w (n : Int) (P : Nat) (w : World) (h0 : n < 0) (h1 : -500 ≤ n) (hP : fin .f64 P) (hPw : wfk .f64 P) (hv : fv .f64 P = pw n) : Calls Try.prog 19 #[.int .i64 n] w fun e w' => e = .returned (.float .f64 P) ∧ ∃ j, w.drewN j = w' := by
  have HP := Lib.hid (And.intro hP (And.intro hPw hv))
  clear hP hPw hv
  go_enter Try.func19, Try.ntmps19
  go_wp2_with fail
  go_loopw [0, 3] (fun m x wr => m = .int .i64 n ∧ x = .float .f64 4607182418800017408 ∧ wr = w) (fun _ _ _ => 0)
  case atStart => exact ⟨rfl, rfl, rfl⟩
  case round =>
    obtain ⟨rfl, rfl, rfl⟩ := hrel
    have hn : decide (0 < n) = false := by simp; omega
    go_wp2_with fail
    go_loopw [0, 3] (fun m x w2 => ∃ (j : Int) (r k : Nat), m = .int .i64 j ∧ n ≤ j ∧ j ≤ 0 ∧ x = .float .f64 r ∧ fin .f64 r ∧ wfk .f64 r ∧ fv .f64 r = pw (n - j) ∧ w2 = wr.drewN k) (fun m _ _ => (-intOf m).toNat)
    case atStart => exact ⟨n, _, 0, rfl, by omega, by omega, rfl, one_fin.1, by rw [wfk_64]; omega, by rw [one_fin.2]; simp [pw], rfl⟩
    case round =>
      obtain ⟨j, r, k, rfl, h2, h3, rfl, hr, hw, hv, rfl⟩ := hrel
      have Hst := Lib.hid (fun w => half_step hr hv (by omega) (by omega) w)
      have Hr := Lib.hid (And.intro hr (And.intro hw hv))
      clear hr hv hw
      by_cases hj : j < 0
      · go_wp2
        go_roundw
        case rel => exact ⟨j + 1, _, _, by go_num, by omega, by omega, rfl, (Hst.out _).1, fR_lt _ _ _ _ _, by rw [(Hst.out _).2]; congr 1; omega, rfl⟩
        case measure => simp [intOf]; omega
      · obtain rfl : j = 0 := by omega
        have e : r = P := word_eq Hr.out.1 HP.out.1 Hr.out.2.1 HP.out.2.1 (by rw [Hr.out.2.2, HP.out.2.2, Int.sub_zero]) (by rw [Hr.out.2.2]; have := pw_pos (n - 0); grind)
        subst e
        go_wp2
        go_ret
        exact ⟨rfl, k, rfl⟩
theorem p20_word : fin .f64 4517110426252607488 ∧ wfk .f64 4517110426252607488 ∧ fv .f64 4517110426252607488 = pw (-20) := by
  have h : FloatKind.f64.format.read 4517110426252607488 = .number false 4503599627370496 (-72) := by decide +kernel
  obtain ⟨a, b⟩ := fin_of_read h
  refine ⟨a, by rw [wfk_64]; omega, ?_⟩
  rw [b, dval_num]
  have e : mval 4503599627370496 (-72) = pw (-20) := by unfold mval pw; grind
  rw [e]; simp
theorem p100_word : fin .f64 4156822456062967808 ∧ wfk .f64 4156822456062967808 ∧ fv .f64 4156822456062967808 = pw (-100) := by
  have h : FloatKind.f64.format.read 4156822456062967808 = .number false 4503599627370496 (-152) := by decide +kernel
  obtain ⟨a, b⟩ := fin_of_read h
  refine ⟨a, by rw [wfk_64]; omega, ?_⟩
  rw [b, dval_num]
  have e : mval 4503599627370496 (-152) = pw (-100) := by unfold mval pw; grind
  rw [e]; simp
end Go.Proofs.Ytignncjmbcdpaaa

/-
laws.fresh.
-/
namespace Go.Proofs.Ytignncjmbcdpaaa
open Go Go.RowKit Ieee

theorem u8_info : (Try.prog.info? 5).map (fun i => (i.zero, i.size, i.bytes)) = some (some (.int .u8 0), 1, 1) := by kernel_rfl
theorem owns_one (w : World) (e : TypeId) (v : Value) : (w.alloc (.cells #[v] e)).ownsRow w.heap.size e 1 (.slice (some ⟨w.heap.size, 0, none⟩) 1 1) 1 [v] :=
  ⟨rfl, .inr ⟨w.heap.size, 1, #[v], rfl, Nat.le_refl _, heap_alloc_new w _, Nat.le_refl _, by simp [maxLen], rfl, rfl⟩⟩

set_option maxRecDepth 100000 in
set_option maxHeartbeats 600000 in
theorem fresh_any (A : Option Addr) (cp : Nat) (bs : List Int) (salt : Int) (w : World) (hr : Rd w A (bs.map (.int .u8))) (hm : bs.length ≤ 1048576) (hb : ∀ i, i < bs.length → 0 ≤ bs.getD i 0 ∧ bs.getD i 0 ≤ 255) (hs : salt = 3 ∨ salt = 5 ∨ salt = 7) :
    Calls Try.prog 21 #[.slice A bs.length cp, .int .i64 salt] w fun e w' => ∃ (A' : Option Addr) (c' : Nat) (ys : List Int), e = .returned (.slice A' ys.length c') ∧ Rd w' A' (ys.map (.int .u8)) ∧ ys.length ≤ 601 ∧ Below w.heap.size w w' := by
  rcases hs with rfl | rfl | rfl
  all_goals
    go_enter Try.func21, Try.ntmps21
    go_wp2_with fail
    go_loopw [5, 6] (fun v i wr => ∃ (k : Nat) (ys : List Int), i = .int .i64 (k : Int) ∧ k ≤ bs.length ∧ k ≤ 600 ∧ wr.ownsRow w.heap.size 5 1 v (k + 1) (ys.map (.int .u8)) ∧ Below w.heap.size w wr) (fun _ i _ => bs.length - (intOf i).toNat)
    case atStart => exact ⟨0, [_], rfl, by omega, by omega, owns_one w _ _, (Below.refl w.heap.size w).alloc (Nat.le_refl _) _⟩
    case round =>
      obtain ⟨k, ys, rfl, hk, hk6, hown, hbel⟩ := hrel
      by_cases hlt : k < bs.length
      · by_cases h6 : k < 600
        · obtain ⟨b, off, rfl, hbk, hc⟩ := (hr.below hbel) (by simp; omega)
          have e1 := hc k (.int .u8 (bs.getD k 0)) (by simp [List.getD, List.getElem?_eq_getElem hlt])
          have hx := hb k hlt
          have hsz := hbel.size
          generalize bs.getD k 0 = x at *
          clear hc
          go_wp2_with (at_builtin; refine wpList_app1 rfl (.tmp 20) (.tmp 34) 22 rfl w.heap.size 5 (.int .u8 0) 1 Try.underlying22 u8_info rfl u5 (k + 1) (ys.map (.int .u8)) _ rfl rfl rfl hown hsz (by omega) (by omega) ?_; intro v' w' hown' hbel')
          go_roundw
          case rel => exact ⟨k + 1, ys ++ [_], by go_num, by omega, by omega, by rw [List.map_append]; exact hown', hbel.trans hbel'⟩
          case measure => simp [intOf]; omega
        · go_wp2_with fail
          go_ret
          obtain ⟨A', cap, hv, hl, hrd⟩ := own_rd hown
          have hl' : ys.length = k + 1 := by simpa using hl
          exact ⟨A', cap, ys, by rw [hl', ← hv]; rfl, hrd, by omega, hbel⟩
      · go_wp2_with fail
        go_ret
        obtain ⟨A', cap, hv, hl, hrd⟩ := own_rd hown
        have hl' : ys.length = k + 1 := by simpa using hl
        exact ⟨A', cap, ys, by rw [hl', ← hv]; rfl, hrd, by omega, hbel⟩
end Go.Proofs.Ytignncjmbcdpaaa

/-
The law FnWidened returns true for all codes. No condition.
-/
namespace Go.Proofs.Ytignncjmbcdpaaa.lawWidened
open Go Go.RowKit Go.ChangeShapes Go.WideShapes

theorem f64_inf : (Try.prog.info? 30).map (fun i => (i.zero, i.size, i.bytes)) = some (some (.float .f64 0), 1, 8) := f64_info'
/-- Inputs that are the same numbers ring the same. -/
theorem rung_congr {ds : List DW} {X Y : Nat → Nat} (h : ∀ i, nrm .f64 (X i) = nrm .f64 (Y i)) (i : Nat) : stD ds X i = stD ds Y i ∧ ∀ k, outD ds (stD ds X i) (X i) k = outD ds (stD ds Y i) (Y i) k := by
  have hs : ∀ (m : DW) (s : CW) (j : Nat), stepD m s (X j) = stepD m s (Y j) := fun m s j => by
    unfold stepD
    rw [fo_congr (op := .mul) (k := .f64) (x := m.2.2.1) rfl (h j), fo_congr (op := .mul) (k := .f64) (x := m.2.2.2) rfl (h j)]
  have hst : ∀ i, stD ds X i = stD ds Y i := fun i => by
    induction i with
    | zero => rfl
    | succ i ih =>
      show nextD ds (stD ds X i) (X i) = nextD ds (stD ds Y i) (Y i)
      rw [ih]
      unfold nextD
      simp only [hs]
  refine ⟨hst i, fun k => ?_⟩
  rw [hst i]
  induction k with
  | zero => rfl
  | succ k ih => unfold outD; rw [ih, hs]
theorem rung_same {ds : List DW} {X Y : Nat → Nat} {xs ys : List Nat} {n : Nat} (h : ∀ i, nrm .f64 (X i) = nrm .f64 (Y i)) (h1 : RungD ds X xs n) (h2 : RungD ds Y ys n) :
    ys.length = xs.length ∧ ∀ k, k < xs.length → nrm .f64 (xs.getD k 0) = nrm .f64 (ys.getD k 0) ∧ wfk .f64 (xs.getD k 0) ∧ wfk .f64 (ys.getD k 0) := by
  obtain ⟨l1, e1⟩ := h1
  obtain ⟨l2, e2⟩ := h2
  refine ⟨by omega, fun k hk => ?_⟩
  obtain ⟨a1, a2⟩ := e1 k (by omega)
  obtain ⟨b1, b2⟩ := e2 k (by omega)
  exact ⟨by rw [a1, b1]; exact (rung_congr h k).2 _, a2, b2⟩
/-- The input, widened. -/
def WidX (xs zs : List Nat) (k : Nat) : Prop := zs.length = k ∧ ∀ i, i < k → nrm .f64 (zs.getD i 0) = wid (xs.getD i 0)
theorem WidX.snoc {xs zs : List Nat} {k z : Nat} (h : WidX xs zs k) (hz : nrm .f64 z = wid (xs.getD k 0)) : WidX xs (zs ++ [z]) (k + 1) := by
  obtain ⟨h1, h2⟩ := h
  refine ⟨by simp [h1], fun i hi => ?_⟩
  rcases Nat.lt_or_ge i k with hlt | hge
  · rw [← h2 i hlt, List.getD, List.getD, List.getElem?_append_left (by omega)]
  · obtain rfl : i = k := by omega
    rw [← hz, List.getD, List.getElem?_append_right (by omega), h1]
    simp
theorem WidX.same {xs zs : List Nat} (h : WidX xs zs xs.length) (i : Nat) : nrm .f64 (inD zs i) = nrm .f64 (inW xs i) := by
  obtain ⟨h1, h2⟩ := h
  unfold inD inW inAt
  by_cases hi : i < xs.length
  · rw [if_pos (by omega), if_pos hi, h2 i hi, nrm_cv (by decide)]
  · rw [if_neg (by omega), if_neg hi]
    decide +kernel

theorem p24_neg (W : World) : Calls Try.prog 19 #[.int .i64 (-24)] W fun e w' => e = .returned (.float .f64 4499096027743125504) ∧ ∃ j, W.drewN j = w' :=
  power_neg_w (-24) 4499096027743125504 W (by omega) (by omega) p24_word.1 (by rw [wfk_64]; omega) p24_word.2
theorem nar_back {ms : List MW} (hok : ModesOk ms) {i : Nat} (hi : i < (ms.map widM).length) : fv .f64 (errW (dAt (ms.map widM) i).1 (dAt (ms.map widM) i).2.1) = 0 := by
  have hlt : i < ms.length := by simpa using hi
  have hda : dAt (ms.map widM) i = widM (mAt ms i) := by
    simp [dAt, mAt, List.getD, List.getElem?_eq_getElem hlt]
  have hm : ModeOk (mAt ms i).1 (mAt ms i).2.1 (mAt ms i).2.2.1 (mAt ms i).2.2.2 := hok.at_ hlt
  have f1 := fin_of_wid hm.fa
  have f2 := fin_of_wid hm.fb
  rw [hda]
  show fv .f64 (errW (wid (mAt ms i).1) (wid (mAt ms i).2.1)) = 0
  refine (err_none hm.fa hm.fb ?_ ?_ ?_ ?_).2
  · rw [nar_wid hm.wa f1, (wid_fin f1).2]
  · rw [nar_wid hm.wb f2, (wid_fin f2).2]
  · rw [nar_wid hm.wa f1]; exact f1
  · rw [nar_wid hm.wb f2]; exact f2
theorem err_moved {ds : List DW} (hok : WidesOk ds) {i : Nat} (hi : i < ds.length) : 0 ≤ fv .f64 (errW (dAt ds i).1 (dAt ds i).2.1) ∧ fv .f64 (errW (dAt ds i).1 (dAt ds i).2.1) ≤ pw (-24) := by
  have hm : WideOk (dAt ds i).1 (dAt ds i).2.1 (dAt ds i).2.2.1 (dAt ds i).2.2.2 := hok.at_ hi
  obtain ⟨p1, p2⟩ := pole_parts hm.fa hm.fb hm.sq
  exact (err_val hm.fa hm.fb p1 p2).2

theorem own_rdS {w : World} {base n c : Nat} {e : TypeId} {A : Option Addr} {xs : List Value} (h : w.ownsRow base e 1 (.slice A n c) n xs) : Rd w A xs := by
  obtain ⟨_, _, q, _, rd⟩ := own_rd h
  injection q with q1 _ q2
  subst q1 q2
  exact rd

set_option maxRecDepth 100000 in
set_option maxHeartbeats 2000000 in
theorem walk_some (A : Option Addr) (c : Nat) (bs : List Int) (w : World) (hr : Rd w A (bs.map (.int .u8))) (hm : bs.length ≤ 1048576) (hb : ∀ i, i < bs.length → 0 ≤ bs.getD i 0 ∧ bs.getD i 0 ≤ 255) :
    Calls Try.prog 14 #[.slice A bs.length c] w fun e w' => e = .returned (.bool true) ∧ Below w.heap.size w w' := by
  have hlen0 : ¬ (1048576 : Int) < (bs.length : Int) := by omega
  have hq1 := atL_bound hb 1
  have Hb := Lib.hid hb
  have H1 := Lib.hid (fun w h => at_any A c bs 1 w h hm (by omega) hb)
  clear hb
  generalize atL bs 1 = q1 at *
  obtain ⟨n, hn, hn1⟩ : ∃ n : Nat, q1 % 30 = (n : Int) ∧ n < 30 := ⟨(q1 % 30).toNat, by omega, by omega⟩
  have Hr := Lib.hid hr
  clear hr
  go_enter Try.func14, Try.ntmps14
  go_wp2_with fail
  refine (makeBody_any A c bs 5 _ Hr.out hm (.inr rfl)).mono ?_
  rintro e W1 ⟨A', c', ms, rfl, hown, hok, hl5, hb1⟩
  have KM := Lib.hid (show ModesOk ms from hok)
  have K1 := Lib.hid (((kp_ownM hown (Nat.le_refl _)).alloc (.cells #[.slice A' ms.length c'] 69)).and (((kp_new W1 (.cells #[.slice A' ms.length c'] 69)).and ((kp_below hb1 hb1.size).alloc (.cells #[.slice A' ms.length c'] 69)))))
  clear hown hok hb1
  go_wp2_with fail
  generalize hV1 : W1.alloc (.cells #[.slice A' ms.length c'] 69) = V1 at *
  have hz1 : W1.heap.size < V1.heap.size := by rw [← hV1]; simp
  clear hV1
  generalize W1.heap.size = gb at *
  refine (fresh_any A c bs 3 _ (Hr.out.below K1.out.here.2.2) hm Hb.out (.inl rfl)).mono ?_
  rintro e W2 ⟨A2, c2, ys0, rfl, hrd2, hlen2, hb2⟩
  have K2 := Lib.hid (K1.out.next hb2)
  have R2 := Lib.hid hrd2
  have hz2 : gb < W2.heap.size := Nat.lt_of_lt_of_le hz1 hb2.size
  clear K1 hb2 hrd2
  go_wp2_with fail
  refine (makeInput_any A2 c2 ys0 _ R2.out (by omega)).mono ?_
  intro e W3 hp
  unfold MakeInputPost at hp
  obtain ⟨A3, c3, xs, rfl, hrd3, hwf3, hlen3, hb3⟩ := hp
  have K3 := Lib.hid ((K2.out.next hb3).and (kp_rd hrd3))
  have HWX := Lib.hid hwf3
  have hz3 : gb < W3.heap.size := Nat.lt_of_lt_of_le hz2 hb3.size
  clear K2 R2 hb3 hrd3 hwf3
  go_wp2_with fail
  refine (H1.out _ (Hr.out.below K3.out.here.1.2.2)).mono ?_
  rintro e w' ⟨rfl, rfl⟩
  have k3 := cell_one K3.out.here.1.2.1
  go_wp2_with fail
  refine (widenBody_any A' c' _ _ ms _ K3.out.here.1.1 (Nat.le_of_lt hz3) KM.out (by omega)).mono ?_
  rintro e W4 ⟨A4, c4, rfl, hd4, hb4⟩
  have K4 := Lib.hid ((K3.out.next hb4).and (kp_ownD hd4 (Nat.le_refl _)))
  have hz4 : gb < W4.heap.size := Nat.lt_of_lt_of_le hz3 hb4.size
  clear K3 hd4 hb4 k3
  go_wp2_with fail
  refine (narrowModes_any A4 c4 _ _ ms _ K4.out.here.2 (Nat.le_refl _) KM.out (by omega)).mono ?_
  rintro e W5 ⟨A5, c5, rfl, hm5, hb5⟩
  have K5 := Lib.hid ((((K4.out.next hb5).and (kp_ownM hm5 (Nat.le_refl _))).alloc (.cells #[.slice A5 ms.length c5] 69)).and (kp_new W5 (.cells #[.slice A5 ms.length c5] 69)))
  have hz5 : W4.heap.size ≤ W5.heap.size := hb5.size
  clear K4 hm5 hb5
  go_wp2_with fail
  have hV5 : (W5.alloc (.cells #[.slice A5 ms.length c5] 69)).heap.size = W5.heap.size + 1 := by simp
  generalize W5.heap.size = g5 at *
  generalize W5.alloc (.cells #[.slice A5 ms.length c5] 69) = V5 at *
  have own0 := owns_empty V5 30
  obtain ⟨F, KF, HF⟩ : ∃ F : World → Prop, Hid (Kp V5.heap.size F (V5.alloc (.cells #[] 30))) ∧ Hid (∀ W, F W → Below w.heap.size w W ∧ (OwnM W w.heap.size gb A' c' ms ∧ W.heap[gb]? = some (.cells #[.slice A' ms.length c'] 69 (0, 0))) ∧ Rd W A3 (f32s xs) ∧ OwnD W W3.heap.size W4.heap.size A4 c4 (ms.map widM) ∧ (OwnM W W4.heap.size g5 A5 c5 ms ∧ W.heap[g5]? = some (.cells #[.slice A5 ms.length c5] 69 (0, 0)))) :=
    ⟨_, K5.out.alloc (.cells #[] 30), fun W h => ⟨h.1.1.1.1.2.2, ⟨h.1.1.1.1.1, h.1.1.1.1.2.1⟩, h.1.1.1.2, h.1.1.2, h.1.2, h.2⟩⟩
  have hl6 : V5.heap.size ≤ (V5.alloc (.cells #[] 30)).heap.size := by simp
  clear K5
  generalize V5.alloc (.cells #[] 30) = W6 at *
  rw [hV5] at own0 KF hl6
  clear hV5
  go_loopw [10, 45] (fun v i wr => ∃ (k : Nat) (zs : List Nat), i = .int .i64 (k : Int) ∧ k ≤ xs.length ∧ wr.ownsRow (g5 + 1) 30 1 v k (f64s zs) ∧ Hid (WidX xs zs k) ∧ Hid (Kp (g5 + 1) F wr)) (fun _ i _ => xs.length - (intOf i).toNat)
  case atStart => exact ⟨0, [], rfl, by omega, own0, ⟨rfl, fun i hi => absurd hi (Nat.not_lt_zero _)⟩, KF.out⟩
  case round =>
    clear own0 KF hl6
    obtain ⟨k, zs, rfl, hk, hown, hwx, hK⟩ := hrel
    by_cases hlt : k < xs.length
    · obtain ⟨b, off, hA3, hbk, hc⟩ := (HF.out _ hK.out.here).2.2.1 (by simp; omega)
      have HA3 := Lib.hid hA3
      have e1 := hc k _ (f32s_at hlt)
      have HX := Lib.hid (fun z (hz : nrm .f64 z = wid (xs.getD k 0)) => hwx.out.snoc hz)
      clear hc hA3 hwx
      subst HA3
      obtain ⟨x, hx⟩ : ∃ x, xs.getD k 0 = x := ⟨_, rfl⟩
      rw [hx] at e1 HX
      clear hx
      have hsz := hK.out.1
      go_wp2_with (at_builtin; refine wpList_app1 rfl (.tmp 49) (.tmp 52) 87 rfl (g5 + 1) 30 (.float .f64 0) 8 Try.underlying87 f64_info' rfl u10 k (f64s zs) _ rfl rfl rfl hown hsz (by omega) (by omega) ?_; intro v' w' hown' hbel')
      go_roundw
      case rel => exact ⟨k + 1, zs ++ [_], by go_num, by omega, by simpa [f64s] using hown', HX.out _ (nrm_wid x wr), (hK.out.drewN _).step hbel' (Nat.le_refl _)⟩
      case measure => simp [intOf]; omega
    · have hkn : xs.length = k := by omega
      subst hkn
      obtain ⟨A6, c6, hv6, hl6, hrd6⟩ := own_rd hown
      have hzl := hwx.out.1
      have K6 := Lib.hid (hK.out.and (kp_rd hrd6))
      have HSm := Lib.hid hwx.out.same
      subst hv6
      have HZL := Lib.hid hzl
      have hd6 := (HF.out _ K6.out.here.1).2.2.2.1
      have T7 := ringWide_any A4 A6 c4 c6 _ _ (ms.map widM) zs n wr hd6 (by have := lt_of_some (HF.out _ K6.out.here.1).2.2.2.2.2; omega) KM.out.wide (by simp; omega) K6.out.here.2 (by omega) (by omega)
      rw [List.length_map, hzl] at T7
      have T7 := Lib.hid T7
      clear hown hwx hK hrd6 hl6 hzl hd6
      go_wp2_with fail
      refine T7.out.mono ?_
      rintro e W7 ⟨A7, c7, ys1, rfl, ho7, hr7, hb7⟩
      have K7 := Lib.hid ((K6.out.next hb7).and (kp_rd (own_rdS ho7)))
      have HR7 := Lib.hid hr7
      clear K6 T7 ho7 hr7 hb7
      have k7 := cell_one (HF.out _ K7.out.here.1.1).2.1.2
      go_wp2_with fail
      refine (ringDouble_any A' A3 c' c3 _ _ ms xs n W7 (HF.out _ K7.out.here.1.1).2.1.1 (by have := lt_of_some (HF.out _ K7.out.here.1.1).2.1.2; omega) KM.out (by omega) (HF.out _ K7.out.here.1.1).2.2.1 (by omega) (by omega)).mono ?_
      rintro e W8 ⟨A8, c8, ys2, rfl, ho8, hr8, hb8⟩
      have K8 := Lib.hid ((K7.out.next hb8).and (kp_rd (own_rdS ho8)))
      have HSS := Lib.hid (rung_same HSm.out HR7.out hr8)
      have HL1 : Hid (ys1.length ≤ 1048576) := by have := HR7.out.1; show ys1.length ≤ 1048576; omega
      clear K7 HR7 ho8 hr8 hb8 k7 HSm
      go_wp2_with fail
      refine (fresh_any A c bs 5 _ (Hr.out.below (HF.out _ K8.out.here.1.1.1).1) hm Hb.out (.inr (.inl rfl))).mono ?_
      rintro e W9 ⟨A9, c9, ys3, rfl, hrd9, hlen9, hb9⟩
      have K9 := Lib.hid (K8.out.next hb9)
      have R9 := Lib.hid hrd9
      clear K8 hb9 hrd9
      go_wp2_with fail
      refine (makeWide_any A9 c9 ys3 _ R9.out (by omega)).mono ?_
      intro e W10 hp
      unfold WidePost at hp
      obtain ⟨A10, c10, ds, rfl, ho10, hok10, hl10, hb10⟩ := hp
      have K10 := Lib.hid (K9.out.next hb10)
      have KO := Lib.hid ho10
      have KK := Lib.hid hok10
      clear K9 R9 hb10 ho10 hok10
      go_wp2_with fail
      refine (narrowError_any (fun x => 0 ≤ x ∧ x ≤ pw (-24)) ⟨Rat.le_refl, Rat.le_of_lt (pw_pos _)⟩ A10 c10 _ _ ds W10 KO.out (Nat.le_refl _) KK.out hl10 (fun i hi => err_moved KK.out hi)).mono ?_
      rintro e W11 ⟨r, rfl, hr11, hb11⟩
      have K11 := Lib.hid (K10.out.next hb11)
      have HR11 := Lib.hid hr11
      clear K10 KO KK hb11 hr11
      have T12 := narrowError_any (fun x => x = 0) rfl A4 c4 _ _ (ms.map widM) W11 (HF.out _ K11.out.here.1.1.1).2.2.2.1 (by have := lt_of_some (HF.out _ K11.out.here.1.1.1).2.2.2.2.2; omega) KM.out.wide (by simp; omega) (fun i hi => nar_back KM.out hi)
      rw [List.length_map] at T12
      have T12 := Lib.hid T12
      go_wp2_with fail
      refine T12.out.mono ?_
      rintro e W12 ⟨r2, rfl, hr12, hb12⟩
      have K12 := Lib.hid (K11.out.next hb12)
      have hg1 : fge .f64 r 0 = true := (fge_iff HR11.out.fin (zero_fin .f64).1).2 (by rw [(zero_fin .f64).2]; exact HR11.out.val.1)
      have hg2 : fle .f64 r 4499096027743125504 = true := (fle_iff HR11.out.fin p24_word.1).2 (by rw [p24_word.2]; exact HR11.out.val.2)
      have hg3 : feq .f64 r2 0 = true := (feq_iff hr12.fin (zero_fin .f64).1).2 (by rw [(zero_fin .f64).2]; exact hr12.val)
      have k12 := cell_one (HF.out _ K12.out.here.1.1.1).2.1.2
      have k12' := cell_one (HF.out _ K12.out.here.1.1.1).2.2.2.2.2
      have TS := Lib.hid (sameModes_any A5 A' c5 c' _ _ _ _ ms W12 (HF.out _ K12.out.here.1.1.1).2.2.2.2.1 (HF.out _ K12.out.here.1.1.1).2.1.1 KM.out (by omega))
      have TW : Hid (∀ m, Calls Try.prog 70 #[.slice A7 ys1.length c7, .slice A8 ys2.length c8] (W12.drewN m) fun e w' => ∃ n, e = .returned (.bool true) ∧ (W12.drewN m).drewN n = w') := fun m => by
        have e : Value.slice A8 ys2.length c8 = .slice A8 ys1.length c8 := by rw [HSS.out.1]
        rw [e]
        exact sameWide_any A7 A8 c7 c8 ys1 ys2 (W12.drewN m) (K12.out.drewN m).here.1.2 (K12.out.drewN m).here.2 HSS.out.1 HL1.out HSS.out.2
      have HB := Lib.hid (fun m => (HF.out _ (K12.out.drewN m).here.1.1.1).1)
      clear T12 K11 hb12 hr12 HR11 K12
      go_wp2_with fail
      refine TS.out.mono ?_
      rintro e w' ⟨m1, rfl, rfl⟩
      go_wp2_with fail
      refine (TW.out _).mono ?_
      rintro e w' ⟨m2, rfl, rfl⟩
      go_wp2_with fail
      refine (p24_neg _).mono ?_
      rintro e w' ⟨rfl, m3, rfl⟩
      go_wp2_with fail
      go_ret
      exact ⟨rfl, HB.out _⟩

set_option maxRecDepth 100000 in
theorem walk (A : Option Addr) (c : Nat) (bs : List Int) (w : World) (_ : bs.length ≤ maxLen) (hr : Rd w A (bs.map (.int .u8))) (hb : ∀ i, i < bs.length → 0 ≤ bs.getD i 0 ∧ bs.getD i 0 ≤ 255) :
    Calls Try.prog 14 #[.slice A bs.length c] w fun e w' => e = .returned (.bool true) ∧ Below w.heap.size w w' := by
  by_cases hm : bs.length ≤ 1048576
  · exact walk_some A c bs w hr hm hb
  · clear hb
    go_enter Try.func14, Try.ntmps14
    go_wp2
    go_ret
    exact ⟨rfl, Below.refl _ _⟩
set_option maxRecDepth 100000 in
theorem lifted (os : Os) (started : os.Started) (H : Type) (enc : TypeId × Value → H) :
    ReturnsInHanded {} Try.checked os 14 .any (Rows.fnWidenedSpec.pre6 enc Try.prog Try.f14 Rows.fnWidenedRow.domain false) (Rows.fnWidenedSpec.post enc Try.prog Try.f14 false true false false) := by
  refine returnsInHanded_of_change (C := Try.checked) own started (by kernel_rfl) Try.func14
    (ChangeSpec.witness6 (enc := enc) (C := Try.checked) false ⟨#[], #[.slice none 0 0], []⟩ 8 (by kernel_rfl) (by kernel_rfl) (by kernel_rfl) (by kernel_rfl)) ?_
  intro W base args ds gs before hval0 hW hcnd _
  have hval : ∀ (j : Nat) t v, Try.f14.params[j]? = some t → args[j]? = some v → Value.okWide Try.prog W .any base t v := hval0
  have hW' := hW
  obtain ⟨p, q, hA0, hV, rfl, hfz, hnd⟩ := hW
  have hA : DataW.TrodAll enc Try.prog W 0 (fun _ => true) true Try.f14.params.toList args.toList ds p := hA0
  rw [Try.params14] at hA hval
  obtain ⟨v0, vs0, d0, ds0, p0, q0, hargs, rfl, rfl, h0, r0⟩ := trodAll_cons hA
  obtain ⟨rfl, rfl, rfl⟩ := trodAll_nil r0
  obtain rfl : args = #[v0] := by cases args; simp_all
  obtain ⟨rfl, rfl⟩ := trodVars_none hV
  obtain ⟨a0, len0, cap0, rfl⟩ := okWide_slice Try.underlying22 (hval 0 22 v0 rfl rfl)
  have lt0 : ∀ x ∈ p0, x.block < W.heap.size := by obtain ⟨m, hm⟩ := h0; exact DataW.trod_lt m _ _ _ hm
  obtain ⟨bs0, rfl, mx0, rd0, wf0⟩ := open_bytes rfl Try.underlying22 Try.underlying5 (by kernel_rfl) h0
  clear hA0 hval0
  refine (walk a0 cap0 bs0 W mx0 rd0 wf0).mono fun e W' ⟨he, bel⟩ => ?_
  subst he
  exact ⟨_, rfl, _, _, _, [], _, [], hW', trodAll_mk1 (shut_bool Try.underlying4 _), (trodAll_cons_mk (Below.trod laidOut (by kernel_rfl) (of_decide_eq_true (by kernel_rfl)) h0 bel lt0) trodAll_mk0), rfl, bel.frame _, fun h => by cases h⟩

theorem proved : Rows.FnWidenedSaid :=
  OpenClaim.holds_of_wide 14 Try.f14 rfl rfl rfl rfl rfl rfl rfl ⟨rfl, rfl, rfl, rfl, rfl⟩ rfl rfl rfl rfl rfl (by kernel_rfl) Try.func14 (by kernel_rfl)
    (of_decide_eq_true (by kernel_rfl)) (by unfold Func.isWrapper; first | (rw [if_pos (by decide +kernel)]; kernel_rfl) | (rw [if_neg (by decide +kernel)]; exact ⟨rfl, rfl⟩))
    (fun os started H enc _ => lifted os started H enc)
#print axioms proved
end Go.Proofs.Ytignncjmbcdpaaa.lawWidened
