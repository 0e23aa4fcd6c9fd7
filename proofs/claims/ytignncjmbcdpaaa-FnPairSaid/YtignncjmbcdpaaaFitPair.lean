/-
impl.FitPair of four numbers.
-/
import Derived.Test.YtignncjmbcdpaaaRingC
namespace Go.Proofs.Ytignncjmbcdpaaa
open Go Go.RowKit Ieee

def prodC (x y : Nat × Nat) : Nat × Nat := (mulRe x.1 x.2 y.1 y.2, mulIm x.1 x.2 y.1 y.2)
def subC (x y : Nat × Nat) : Nat × Nat := (fo .sub .f64 x.1 y.1, fo .sub .f64 x.2 y.2)
def cgetD (zs : List (Nat × Nat)) (i : Nat) : Nat × Nat := zs.getD i (0, 0)
theorem c64s_at {zs : List (Nat × Nat)} {k : Nat} (h : k < zs.length) : (c64s zs)[k]? = some (.complex .f64 (cgetD zs k).1 (cgetD zs k).2) := by
  simp [c64s, cgetD, List.getD, List.getElem?_eq_getElem h]

set_option maxHeartbeats 400000 in
theorem subD_any (a b c d : Nat) (w : World) (h1 : fin .f64 (fo .sub .f64 a c)) (h2 : fin .f64 (fo .sub .f64 b d)) : Calls Try.prog 78 #[.complex .f64 a b, .complex .f64 c d] w fun e w' => ∃ n, e = .returned (.complex .f64 (fo .sub .f64 a c) (fo .sub .f64 b d)) ∧ w.drewN n = w' := by
  have e1 := fun w => rnd_eq h1 w
  have e2 := fun w => rnd_eq h2 w
  clear h1 h2
  go_enter Try.func78, Try.ntmps78
  go_wp2_with fail
  go_ret
  exact ⟨_, rfl, rfl⟩

/-- A minor of the four numbers. -/
def minorW (zs : List (Nat × Nat)) (i j k l : Nat) : Nat × Nat := subC (prodC (cgetD zs i) (cgetD zs j)) (prodC (cgetD zs k) (cgetD zs l))
set_option maxRecDepth 100000 in
set_option maxHeartbeats 400000 in
theorem minor_any (zs : List (Nat × Nat)) (A : Option Addr) (cp b i j k l : Nat) (w : World) (hr : Rd w A (c64s zs)) (hl : zs.length = 4) (hc : w.cell? ⟨b, 0, none⟩ = some (.slice A 4 cp)) (hi : i < 4) (hj : j < 4) (hk : k < 4) (hl' : l < 4)
    (f1 : finC (prodC (cgetD zs i) (cgetD zs j))) (f2 : finC (prodC (cgetD zs k) (cgetD zs l))) (f3 : finC (minorW zs i j k l)) :
    Calls Try.prog 77 #[.int .i64 i, .int .i64 j, .int .i64 k, .int .i64 l, .pointer (some ⟨b, 0, none⟩)] w fun e w' => ∃ n, e = .returned (.complex .f64 (minorW zs i j k l).1 (minorW zs i j k l).2) ∧ w.drewN n = w' := by
  obtain ⟨bz, off, rfl, hb, hcell⟩ := hr (by simp [c64s]; omega)
  have ei := hcell i _ (c64s_at (by omega))
  have ej := hcell j _ (c64s_at (by omega))
  have ek := hcell k _ (c64s_at (by omega))
  have el := hcell l _ (c64s_at (by omega))
  have F1 := Lib.hid f1
  have F2 := Lib.hid f2
  have F3 := Lib.hid f3
  clear hcell hr f1 f2 f3
  unfold minorW at F3 ⊢
  generalize cgetD zs i = zi at *
  generalize cgetD zs j = zj at *
  generalize cgetD zs k = zk at *
  generalize cgetD zs l = zl at *
  obtain ⟨i1, i2⟩ := zi
  obtain ⟨j1, j2⟩ := zj
  obtain ⟨k1, k2⟩ := zk
  obtain ⟨l1, l2⟩ := zl
  unfold prodC at F1 F2 F3 ⊢
  unfold subC at F3 ⊢
  have T1 := Lib.hid (fun W => (implTimes_fin i1 i2 j1 j2 W F1.out.1 F1.out.2).mono fun e w' h => (by
    obtain ⟨n, rfl, rfl⟩ := h; exact ⟨rfl, n, rfl⟩ : e = .returned (.complex .f64 (mulRe i1 i2 j1 j2) (mulIm i1 i2 j1 j2)) ∧ ∃ j, W.drewN j = w'))
  have T2 := Lib.hid (fun W => (implTimes_fin k1 k2 l1 l2 W F2.out.1 F2.out.2).mono fun e w' h => (by
    obtain ⟨n, rfl, rfl⟩ := h; exact ⟨rfl, n, rfl⟩ : e = .returned (.complex .f64 (mulRe k1 k2 l1 l2) (mulIm k1 k2 l1 l2)) ∧ ∃ j, W.drewN j = w'))
  have T3 := Lib.hid (fun W => (subD_any _ _ _ _ W F3.out.1 F3.out.2).mono fun e w' h => (by
    obtain ⟨n, rfl, rfl⟩ := h; exact ⟨rfl, n, rfl⟩ : e = .returned (.complex .f64 (fo .sub .f64 (mulRe i1 i2 j1 j2) (mulRe k1 k2 l1 l2)) (fo .sub .f64 (mulIm i1 i2 j1 j2) (mulIm k1 k2 l1 l2))) ∧ ∃ j, W.drewN j = w'))
  go_enter Try.func77, Try.ntmps77
  have gi : (i : Int) < 4 := by omega
  have gj : (j : Int) < 4 := by omega
  have gk : (k : Int) < 4 := by omega
  have gl : (l : Int) < 4 := by omega
  go_wp2_with fail
  refine wp_region_rx (by kernel_rfl) (by kernel_rfl) ?_; apply Exists.intro
  repeat (first | (apply wpR_val; intro K hK; go_simp; refine ⟨rfl, hK _ ?_⟩; clear hK K) | (apply wpR_skip; intro K hK; go_simp; refine hK _ ?_; clear hK K))
  apply wpR_val (v := .complex .f64 (mulRe i1 i2 j1 j2) (mulIm i1 i2 j1 j2)); intro K hK; go_simp; refine ⟨fun m => rcall0 (T1.out _), hK _ ?_⟩; clear hK K
  repeat (first | (apply wpR_val; intro K hK; go_simp; refine ⟨rfl, hK _ ?_⟩; clear hK K) | (apply wpR_skip; intro K hK; go_simp; refine hK _ ?_; clear hK K))
  apply wpR_val (v := .complex .f64 (mulRe k1 k2 l1 l2) (mulIm k1 k2 l1 l2)); intro K hK; go_simp; refine ⟨fun m => rcall0 (T2.out _), hK _ ?_⟩; clear hK K
  repeat (first | (apply wpR_val; intro K hK; go_simp; refine ⟨rfl, hK _ ?_⟩; clear hK K) | (apply wpR_skip; intro K hK; go_simp; refine hK _ ?_; clear hK K))
  apply wpR_val (v := .complex .f64 (fo .sub .f64 (mulRe i1 i2 j1 j2) (mulRe k1 k2 l1 l2)) (fo .sub .f64 (mulIm i1 i2 j1 j2) (mulIm k1 k2 l1 l2))); intro K hK; go_simp; refine ⟨fun m => rcall0 (T3.out _), hK _ ?_⟩; clear hK K
  repeat (first | (apply wpR_val; intro K hK; go_simp; refine ⟨rfl, hK _ ?_⟩; clear hK K) | (apply wpR_skip; intro K hK; go_simp; refine hK _ ?_; clear hK K))
  apply wpR_nil (Rs := []); rintro _ ⟨nq, rfl⟩
  go_wp2_with fail
  go_ret
  exact ⟨_, rfl, rfl⟩

/-- The minors of the four numbers are finite, and the quotients are. -/
structure PairOk (zs : List (Nat × Nat)) : Prop where
  p : ∀ i j, i < 4 → j < 4 → i + j ≤ 4 → finC (prodC (cgetD zs i) (cgetD zs j))
  d : finC (minorW zs 1 1 0 2)
  s : finC (minorW zs 1 2 0 3)
  t : finC (minorW zs 2 2 1 3)
  z : (feq .f64 (minorW zs 1 1 0 2).1 0 && feq .f64 (minorW zs 1 1 0 2).2 0) = false
  qs : finC (quoRe (minorW zs 1 2 0 3).1 (minorW zs 1 2 0 3).2 (minorW zs 1 1 0 2).1 (minorW zs 1 1 0 2).2, quoIm (minorW zs 1 2 0 3).1 (minorW zs 1 2 0 3).2 (minorW zs 1 1 0 2).1 (minorW zs 1 1 0 2).2)
  qt : finC (quoRe (minorW zs 2 2 1 3).1 (minorW zs 2 2 1 3).2 (minorW zs 1 1 0 2).1 (minorW zs 1 1 0 2).2, quoIm (minorW zs 2 2 1 3).1 (minorW zs 2 2 1 3).2 (minorW zs 1 1 0 2).1 (minorW zs 1 1 0 2).2)
theorem minor_lt (zs : List (Nat × Nat)) (i j k l : Nat) : wfk .f64 (minorW zs i j k l).1 ∧ wfk .f64 (minorW zs i j k l).2 := ⟨fo_lt _ _ _ _, fo_lt _ _ _ _⟩

set_option maxRecDepth 100000 in
set_option maxHeartbeats 400000 in
theorem fitPair_any (A : Option Addr) (cp : Nat) (zs : List (Nat × Nat)) (w : World) (hr : Rd w A (c64s zs)) (hl : zs.length = 4) (h : PairOk zs) :
    Calls Try.prog 23 #[.slice A 4 cp] w fun e w' => ∃ n b, e = .returned (.tuple #[.complex .f64 (quoRe (minorW zs 1 2 0 3).1 (minorW zs 1 2 0 3).2 (minorW zs 1 1 0 2).1 (minorW zs 1 1 0 2).2) (quoIm (minorW zs 1 2 0 3).1 (minorW zs 1 2 0 3).2 (minorW zs 1 1 0 2).1 (minorW zs 1 1 0 2).2),
      .complex .f64 (quoRe (minorW zs 2 2 1 3).1 (minorW zs 2 2 1 3).2 (minorW zs 1 1 0 2).1 (minorW zs 1 1 0 2).2) (quoIm (minorW zs 2 2 1 3).1 (minorW zs 2 2 1 3).2 (minorW zs 1 1 0 2).1 (minorW zs 1 1 0 2).2), .bool true]) ∧ (w.alloc b).drewN n = w' := by
  have H := Lib.hid h
  have M1 := Lib.hid (fun W (hr : Rd W A (c64s zs)) b (hc : W.cell? ⟨b, 0, none⟩ = some (.slice A 4 cp)) => minor_any zs A cp b 1 1 0 2 W hr hl hc (by omega) (by omega) (by omega) (by omega) (h.p 1 1 (by omega) (by omega) (by omega)) (h.p 0 2 (by omega) (by omega) (by omega)) h.d)
  have M2 := Lib.hid (fun W (hr : Rd W A (c64s zs)) b (hc : W.cell? ⟨b, 0, none⟩ = some (.slice A 4 cp)) => minor_any zs A cp b 1 2 0 3 W hr hl hc (by omega) (by omega) (by omega) (by omega) (h.p 1 2 (by omega) (by omega) (by omega)) (h.p 0 3 (by omega) (by omega) (by omega)) h.s)
  have M3 := Lib.hid (fun W (hr : Rd W A (c64s zs)) b (hc : W.cell? ⟨b, 0, none⟩ = some (.slice A 4 cp)) => minor_any zs A cp b 2 2 1 3 W hr hl hc (by omega) (by omega) (by omega) (by omega) (h.p 2 2 (by omega) (by omega) (by omega)) (h.p 1 3 (by omega) (by omega) (by omega)) h.t)
  have L1 := Lib.hid (minor_lt zs 1 1 0 2)
  have L2 := Lib.hid (minor_lt zs 1 2 0 3)
  have L3 := Lib.hid (minor_lt zs 2 2 1 3)
  have HD := Lib.hid (And.intro h.d (And.intro h.s (And.intro h.t (And.intro h.z (And.intro h.qs h.qt)))))
  clear h H
  generalize minorW zs 1 1 0 2 = d at *
  generalize minorW zs 1 2 0 3 = s at *
  generalize minorW zs 2 2 1 3 = t at *
  obtain ⟨d1, d2⟩ := d
  obtain ⟨s1, s2⟩ := s
  obtain ⟨t1, t2⟩ := t
  go_enter Try.func23, Try.ntmps23
  go_wp2_with fail
  have hR : Rd (w.alloc (.cells #[.slice A 4 cp] 36)) A (c64s zs) := hr.below ((Below.refl w.heap.size w).alloc (Nat.le_refl _) _)
  have hC : (w.alloc (.cells #[.slice A 4 cp] 36)).cell? ⟨w.heap.size, 0, none⟩ = some (.slice A 4 cp) := (cell_of_row _ _ 0 _ _ (0, 0) (heap_alloc_new w _)).trans (by simp)
  have HR := Lib.hid hR
  have HC := Lib.hid hC
  have HW : Hid (∃ b, w.alloc (.cells #[.slice A 4 cp] 36) = w.alloc b) := ⟨_, rfl⟩
  clear hR hC hr
  generalize w.alloc (.cells #[.slice A 4 cp] 36) = W at *
  refine (M1.out _ HR.out _ HC.out).mono ?_
  rintro e w' ⟨n1, rfl, rfl⟩
  go_wp2_with fail
  refine (M2.out _ (HR.out.drewN _) _ HC.out).mono ?_
  rintro e w' ⟨n2, rfl, rfl⟩
  go_wp2_with fail
  refine (divide_fin s1 s2 d1 d2 _ HD.out.2.1.1 HD.out.2.1.2 HD.out.1.1 HD.out.1.2 L2.out.1 L2.out.2 L1.out.1 L1.out.2 HD.out.2.2.2.1 HD.out.2.2.2.2.1.1 HD.out.2.2.2.2.1.2).mono ?_
  rintro e w' ⟨n3, rfl, _, _, rfl⟩
  go_wp2_with fail
  refine (M3.out _ (HR.out.drewN _) _ HC.out).mono ?_
  rintro e w' ⟨n4, rfl, rfl⟩
  go_wp2_with fail
  refine (divide_fin t1 t2 d1 d2 _ HD.out.2.2.1.1 HD.out.2.2.1.2 HD.out.1.1 HD.out.1.2 L3.out.1 L3.out.2 L1.out.1 L1.out.2 HD.out.2.2.2.1 HD.out.2.2.2.2.2.1 HD.out.2.2.2.2.2.2).mono ?_
  rintro e w' ⟨n5, rfl, _, _, rfl⟩
  go_wp2_with fail
  go_ret3
  obtain ⟨bb, hbb⟩ := HW.out
  exact ⟨_, bb, rfl, by rw [← hbb]⟩
end Go.Proofs.Ytignncjmbcdpaaa
