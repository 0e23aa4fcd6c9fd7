/-
The law FnPair returns true for all codes. No condition.
-/
import Derived.Test.YtignncjmbcdpaaaPairAll
import Derived.Test.YtignncjmbcdpaaaFresh
import Derived.Test.YtignncjmbcdpaaaOpen
import Derived.Deep.RegionHeld3
import Derived.Deep.AppendLies
namespace Go.Proofs.Ytignncjmbcdpaaa.lawPair
open Go Go.RowKit Go.ChangeShapes Go.WideShapes

/-- A start, and a quarter of it: what is needed of it. -/
theorem quarter {x y : Nat} {n m : Int} (h : CEx x y n m 4 64) : ∃ u v : Nat, (∀ (P : Program) (t : TypeId) (w : World), (binOp .quo t (.complex .f64 x y) (.complex .f64 4616189618054758400 0)).run P w = .ok (.complex .f64 u v) w) ∧ CEx u v n m 6 64 := by
  obtain ⟨h1, h2⟩ := q4_ok h (by omega) (by omega)
  exact ⟨_, _, h2, h1⟩

/-- FitPair's answer, and that it is near. -/
theorem pair_fit {p a q b : Nat × Nat} {p1 p2 a1 a2 q1 q2 b1 b2 : Int} (hp : CEx p.1 p.2 p1 p2 4 16) (ha : CEx a.1 a.2 a1 a2 4 64) (hq : CEx q.1 q.2 q1 q2 4 16) (hb : CEx b.1 b.2 b1 b2 4 64)
    (ha0 : ¬(a1 = 0 ∧ a2 = 0)) (hb0 : ¬(b1 = 0 ∧ b2 = 0)) (hne : ¬(p1 = q1 ∧ p2 = q2)) : ∃ s1 s2 t1 t2 : Nat,
    (∀ W A cp, Rd W A (c64s (sumL p a q b 4)) → Calls Try.prog 23 #[.slice A 4 cp] W fun e w' => ∃ n o, e = .returned (.tuple #[.complex .f64 s1 s2, .complex .f64 t1 t2, .bool true]) ∧ (W.alloc o).drewN n = w') ∧
    fin .f64 (fo .sub .f64 s1 (fo .add .f64 p.1 q.1)) ∧ fin .f64 (fo .sub .f64 s2 (fo .add .f64 p.2 q.2)) ∧
    (∀ r, nrm .f64 r = fo .add .f64 (absB (fo .sub .f64 s1 (fo .add .f64 p.1 q.1))) (absB (fo .sub .f64 s2 (fo .add .f64 p.2 q.2))) → ∀ x, fin .f64 x → fv .f64 x = pw (-40) → fle .f64 r x = true) ∧
    fin .f64 (fo .sub .f64 t1 (mulRe p.1 p.2 q.1 q.2)) ∧ fin .f64 (fo .sub .f64 t2 (mulIm p.1 p.2 q.1 q.2)) ∧
    (∀ r, nrm .f64 r = fo .add .f64 (absB (fo .sub .f64 t1 (mulRe p.1 p.2 q.1 q.2))) (absB (fo .sub .f64 t2 (mulIm p.1 p.2 q.1 q.2))) → ∀ x, fin .f64 x → fv .f64 x = pw (-40) → fle .f64 r x = true) ∧
    fin .f64 (mulRe p.1 p.2 q.1 q.2) ∧ fin .f64 (mulIm p.1 p.2 q.1 q.2) := by
  obtain ⟨hok, ⟨hs1, hs2⟩, ht1, ht2⟩ := pair_all hp ha hq hb ha0 hb0 hne _ rfl _ _ _ rfl rfl rfl
  have hadd := hp.add hq (by omega) (by omega)
  have hmul := hp.mul hq (by omega) (by omega)
  have S := small_ok hok.qs.1 hok.qs.2 hadd.re.f hadd.im.f (by rw [hadd.re.v]; exact hs1) (by rw [hadd.im.v]; exact hs2)
  have T := small_ok hok.qt.1 hok.qt.2 hmul.re.f hmul.im.f (by rw [hmul.re.v]; exact ht1) (by rw [hmul.im.v]; exact ht2)
  exact ⟨_, _, _, _, fun W A cp hr => fitPair_any A cp _ W hr (by simp [sumL]) hok, S.1, S.2.1, S.2.2, T.1, T.2.1, T.2.2, hmul.re.f, hmul.im.f⟩
theorem zList_at {p a : Nat × Nat} {n k : Nat} (h : k < n) : cgetD (zList p a n) k = zC p a k := by simp [cgetD, zList, List.getD, h]
theorem sumL_snoc (p a q b : Nat × Nat) (n : Nat) : c64s (sumL p a q b n) ++ [.complex .f64 (sumZ p a q b n).1 (sumZ p a q b n).2] = c64s (sumL p a q b (n + 1)) := by
  simp [c64s, sumL, List.range_succ]

set_option maxRecDepth 100000 in
set_option maxHeartbeats 4000000 in
theorem walk_some (A : Option Addr) (cp : Nat) (bs : List Int) (w : World) (hr : Rd w A (bs.map (.int .u8))) (hm : bs.length ≤ 1048576) (hb : ∀ i, i < bs.length → 0 ≤ bs.getD i 0 ∧ bs.getD i 0 ≤ 255) :
    Calls Try.prog 4 #[.slice A bs.length cp] w fun e w' => e = .returned (.bool true) ∧ Below w.heap.size w w' := by
  have hlen0 : ¬ (1048576 : Int) < (bs.length : Int) := by omega
  have Hr := Lib.hid hr
  have Hb := Lib.hid hb
  clear hr hb
  go_enter Try.func4, Try.ntmps4
  go_wp2_with fail
  refine (start_any A cp bs _ Hr.out hm).mono ?_
  rintro e w1 ⟨x1, y1, n1, m1, rfl, hx1, -, -, -, hb1⟩
  obtain ⟨pu, pv, hq1, hp1⟩ := quarter hx1
  have HP1 := Lib.hid hp1
  have B1 := Lib.hid hb1
  clear hx1 hp1 hb1
  go_wp2_with fail
  refine (fresh_any A cp bs 3 _ (Hr.out.below B1.out) hm Hb.out (by omega)).mono ?_
  rintro e w2 ⟨A2, c2, f2, rfl, hr2, hl2, hb2⟩
  have B2 : Hid (Below w.heap.size w w2) := B1.out.trans (hb2.mono B1.out.size)
  have R2 := Lib.hid hr2
  clear hr2 hb2 B1 hq1
  go_wp2_with fail
  refine (start_any A2 c2 f2 _ R2.out (by omega)).mono ?_
  rintro e w3 ⟨x2, y2, n2, m2, rfl, hx2, -, -, -, hb3⟩
  obtain ⟨qu, qv, hq2, hp2⟩ := quarter hx2
  have HP2 := Lib.hid hp2
  have B3 : Hid (Below w.heap.size w w3) := B2.out.trans (hb3.mono B2.out.size)
  clear hx2 hp2 hb3 R2 B2 hl2
  go_wp2_with fail
  refine (fresh_any A cp bs 5 _ (Hr.out.below B3.out) hm Hb.out (by omega)).mono ?_
  rintro e w4 ⟨A4, c4, f4, rfl, hr4, hl4, hb4⟩
  have B4 : Hid (Below w.heap.size w w4) := B3.out.trans (hb4.mono B3.out.size)
  have R4 := Lib.hid hr4
  clear hr4 hb4 B3 hq2
  go_wp2_with fail
  refine (start_any A4 c4 f4 _ R4.out (by omega)).mono ?_
  rintro e w5 ⟨a1, a2, an, am, rfl, ha, -, -, ha0, hb5⟩
  have HA := Lib.hid ha
  have HA0 := Lib.hid ha0
  have B5 : Hid (Below w.heap.size w w5) := B4.out.trans (hb5.mono B4.out.size)
  clear ha ha0 hb5 R4 B4 hl4
  go_wp2_with fail
  refine (fresh_any A cp bs 7 _ (Hr.out.below B5.out) hm Hb.out (by omega)).mono ?_
  rintro e w6 ⟨A6, c6, f6, rfl, hr6, hl6, hb6⟩
  have B6 : Hid (Below w.heap.size w w6) := B5.out.trans (hb6.mono B5.out.size)
  have R6 := Lib.hid hr6
  clear hr6 hb6 B5
  go_wp2_with fail
  refine (start_any A6 c6 f6 _ R6.out (by omega)).mono ?_
  rintro e w7 ⟨b1, b2, bn, bm, rfl, hb', -, -, hb0, hb7⟩
  have HBB := Lib.hid hb'
  have HB0 := Lib.hid hb0
  have B7 : Hid (Below w.heap.size w w7) := B6.out.trans (hb7.mono B6.out.size)
  clear hb' hb0 hb7 R6 B6 hl6
  -- the poles, made whole sixteenths
  obtain ⟨k1, g1, r1, e1⟩ := sixteenth HP1.out.re
  obtain ⟨k2, g2, r2, e2⟩ := sixteenth HP1.out.im
  obtain ⟨k3, g3, r3, e3⟩ := sixteenth HP2.out.re
  obtain ⟨k4, g4, r4, e4⟩ := sixteenth HP2.out.im
  have m1' := fun w => rnd_eq r1 w
  have m2' := fun w => rnd_eq r2 w
  have m3' := fun w => rnd_eq r3 w
  have m4' := fun w => rnd_eq r4 w
  have d1' := fun w => rnd_eq e1.f w
  have d2' := fun w => rnd_eq e2.f w
  have d3' := fun w => rnd_eq e3.f w
  have d4' := fun w => rnd_eq e4.f w
  have c1' := fun W => run_convert_float_int (P := Try.prog) W 30 3 .f64 .i64 _ k1 (by kernel_rfl) (by kernel_rfl) g1
  have c2' := fun W => run_convert_float_int (P := Try.prog) W 30 3 .f64 .i64 _ k2 (by kernel_rfl) (by kernel_rfl) g2
  have c3' := fun W => run_convert_float_int (P := Try.prog) W 30 3 .f64 .i64 _ k3 (by kernel_rfl) (by kernel_rfl) g3
  have c4' := fun W => run_convert_float_int (P := Try.prog) W 30 3 .f64 .i64 _ k4 (by kernel_rfl) (by kernel_rfl) g4
  have E1 := Lib.hid e1
  have E2 := Lib.hid e2
  have E3 := Lib.hid e3
  have E4 := Lib.hid e4
  clear e1 e2 e3 e4 g1 g2 g3 g4 r1 r2 r3 r4
  generalize fo .quo .f64 (floatOfInt .f64 k1) 4625196817309499392 = P1 at *
  generalize fo .quo .f64 (floatOfInt .f64 k2) 4625196817309499392 = P2 at *
  generalize fo .quo .f64 (floatOfInt .f64 k3) 4625196817309499392 = P3 at *
  generalize fo .quo .f64 (floatOfInt .f64 k4) 4625196817309499392 = P4 at *
  have Q1 := Lib.hid (E1.out.eq E3.out)
  have Q2 := Lib.hid (E2.out.eq E4.out)
  cases t : (feq .f64 P1 P3 && feq .f64 P2 P4)
  case true =>
    have t' := t
    rw [Bool.and_eq_true] at t'
    obtain ⟨t1, t2⟩ := t'
    go_wp2_with fail
    go_ret
    exact ⟨rfl, below_drewN B7.out _⟩
  have hne : ¬(k1 = k3 ∧ k2 = k4) := by
    rintro ⟨h1, h2⟩
    rw [Q1.out, Q2.out, h1, h2] at t; simp at t
  have CP : CEx (P1, P2).1 (P1, P2).2 k1 k2 4 16 := ⟨E1.out, E2.out⟩
  have CQ : CEx (P3, P4).1 (P3, P4).2 k3 k4 4 16 := ⟨E3.out, E4.out⟩
  have CA : CEx (a1, a2).1 (a1, a2).2 an am 4 64 := HA.out
  have CB : CEx (b1, b2).1 (b1, b2).2 bn bm 4 64 := HBB.out
  have FIT := Lib.hid (pair_fit CP CA CQ CB HA0.out HB0.out hne)
  have SUM : Hid (finC (fo .add .f64 P1 P3, fo .add .f64 P2 P4)) := (CP.add CQ (by omega) (by omega)).fin
  have FX := Lib.hid (fun k (hk : k ≤ 4) => (zC_ex CP CA k (by omega)).fin)
  have FY := Lib.hid (fun k (hk : k ≤ 4) => (zC_ex CQ CB k (by omega)).fin)
  have FS := Lib.hid (fun k (hk : k ≤ 4) => (sumZ_ex CP CA CQ CB k hk).fin)
  clear Q1 Q2 CP CQ CA CB hne
  go_wp2_with fail
  clear c1' c2' c3' c4' d1' d2' d3' d4' m1' m2' m3' m4'
  refine (specRing_any (P1, P2) (a1, a2) 4 _ (by omega) FX.out).mono ?_
  rintro e w8 h8
  unfold RingPost at h8
  obtain ⟨A8, c8, rfl, own8, hb8⟩ := h8
  have B8 : Hid (Below w.heap.size w w8) := (below_drewN B7.out _).trans (hb8.mono B7.out.size)
  obtain ⟨_, _, e8, _, rd8⟩ := own_rd own8
  injection e8 with e81 _ e82
  subst e81 e82
  have R8 := Lib.hid rd8
  clear own8 hb8 rd8 B7
  go_wp2_with fail
  refine (specRing_any (P3, P4) (b1, b2) 4 _ (by omega) FY.out).mono ?_
  rintro e w9 h9
  unfold RingPost at h9
  obtain ⟨A9, c9, rfl, own9, hb9⟩ := h9
  have B9 : Hid (Below w.heap.size w w9) := B8.out.trans (hb9.mono B8.out.size)
  obtain ⟨_, _, e9, _, rd9⟩ := own_rd own9
  injection e9 with e91 _ e92
  subst e91 e92
  have R9 := Lib.hid rd9
  have R89 := Lib.hid (R8.out.below hb9)
  clear own9 hb9 rd9 R8 B8
  have Hs0 : w9.heap.size ≤ (w9.alloc (.cells #[] 33)).heap.size := by simp
  have hown0 := owns_empty w9 33
  have hb0 : Below w9.heap.size w9 (w9.alloc (.cells #[] 33)) := (Below.refl w9.heap.size w9).alloc (Nat.le_refl _) _
  go_wp2_with fail
  generalize w9.alloc (.cells #[] 33) = W0 at *
  go_loopw [11, 76] (fun v i wr => ∃ k : Nat, i = .int .i64 (k : Int) ∧ k ≤ 4 ∧ wr.ownsRow w9.heap.size 33 1 v k (c64s (sumL (P1, P2) (a1, a2) (P3, P4) (b1, b2) k)) ∧ Below w9.heap.size w9 wr) (fun _ i _ => 4 - (intOf i).toNat)
  case atStart => exact ⟨0, rfl, by omega, hown0, hb0⟩
  case round =>
    clear hown0 hb0 Hs0
    obtain ⟨k, rfl, hk, hown, hbel⟩ := hrel
    by_cases hlt : k < 4
    · obtain ⟨bx, ox, rfl, hbx', _⟩ := R89.out (by simp [c64s, zList])
      obtain ⟨_, _, q1, hbx, hcx⟩ := (R89.out.below hbel) (by simp [c64s, zList])
      injection q1 with q1; injection q1 with q2 q3; subst q2 q3
      obtain ⟨by', oy, rfl, hby', _⟩ := R9.out (by simp [c64s, zList])
      obtain ⟨_, _, q4, hby, hcy⟩ := (R9.out.below hbel) (by simp [c64s, zList])
      injection q4 with q4; injection q4 with q5 q6; subst q5 q6
      have ex := hcx k _ (c64s_at (by rw [zList_len]; exact hlt))
      have ey := hcy k _ (c64s_at (by rw [zList_len]; exact hlt))
      rw [zList_at hlt] at ex ey
      have hsn := sumL_snoc (P1, P2) (a1, a2) (P3, P4) (b1, b2) k
      have hfs := FS.out k (by omega)
      unfold sumZ at hsn hfs
      generalize zC (P1, P2) (a1, a2) k = zx at *
      generalize zC (P3, P4) (b1, b2) k = zy at *
      obtain ⟨X1, X2⟩ := zx
      obtain ⟨Y1, Y2⟩ := zy
      have g1 := fun w => rnd_eq hfs.1 w
      have g2 := fun w => rnd_eq hfs.2 w
      have hN1 : fN .add .f64 X1 Y1 = 0 := by unfold fN; rw [some_of_fin hfs.1]
      have hN2 : fN .add .f64 X2 Y2 = 0 := by unfold fN; rw [some_of_fin hfs.2]
      have hdz : ∀ w : World, w.drewN 0 = w := World.drewN_zero
      have HSN := Lib.hid hsn
      have hsz := hbel.size
      obtain ⟨i0, hi0, hz0, hz1, hz2⟩ := info_parts c128_info
      have hownA : Hid (∀ (W : World) o, W.heap = wr.heap → (W.alloc o).ownsRow w9.heap.size 33 1 u11 k (c64s (sumL (P1, P2) (a1, a2) (P3, P4) (b1, b2) k))) := fun W o h =>
        World.ownsRow.alloc (w := W) (by unfold World.ownsRow; rw [h]; exact hown) o
      have hblk : Hid (∀ (W : World) o, W.heap = wr.heap → (W.alloc o).heap[wr.heap.size]? = some o) := fun W o h => by rw [← h]; exact heap_alloc_new W o
      have ax : some bx ≠ (u11 : Value).ownBlock := fun e => by
        have := (hown.lt _ e.symm).1
        omega
      have ay : some by' ≠ (u11 : Value).ownBlock := fun e => by
        have := (hown.lt _ e.symm).1
        omega
      simp only at g1 g2
      clear hcx hcy hsn hfs
      clear FIT SUM FX FY HP1 HP2 HA HA0 HBB HB0 E1 E2 E3 E4 t Hr Hb
      go_wp2_with fail
      have exA : Hid (∀ o, (wr.alloc o).drew.cell? ⟨bx, ox + k, none⟩ = some (.complex .f64 X1 X2)) := fun o => (World.cell?_of_block (w := wr) (w' := wr.alloc o) (Below.heap_alloc wr o bx hbx)).trans ex
      have eyA : Hid (∀ o, (wr.alloc o).drew.cell? ⟨by', oy + k, none⟩ = some (.complex .f64 Y1 Y2)) := fun o => (World.cell?_of_block (w := wr) (w' := wr.alloc o) (Below.heap_alloc wr o by' hby)).trans ey
      refine wp_region_held_drew (S := fun w' => w'.cell? ⟨bx, ox + k, none⟩ = some (.complex .f64 X1 X2) ∧ w'.cell? ⟨by', oy + k, none⟩ = some (.complex .f64 Y1 Y2)) (by kernel_rfl) (And.intro ex ey) (fun hHeld => ?_)
      refine wpAnyH_take (i := 0) (oi := _) (v := ?_) rfl (by kernel_rfl) (by kernel_rfl) (by kernel_rfl) (fun _ _ _ h => h) (Or.inl ⟨by rfl, ?_⟩) (by assumption) ?_
      rotate_left
      · (intro w hSw; (try dsimp only at hSw); go_simp; try (with_reducible rfl))
      (try simp only [Act.put, List.setIfInBounds_toArray, List.set_cons_zero, List.set_cons_succ])
      refine wpAnyH_take (i := 1) (oi := _) (v := ?_) rfl (by kernel_rfl) (by kernel_rfl) (by kernel_rfl) (fun _ _ _ h => h) (Or.inl ⟨by rfl, ?_⟩) (by assumption) ?_
      rotate_left
      · (intro w hSw; (try dsimp only at hSw); go_simp; try (with_reducible rfl))
      (try simp only [Act.put, List.setIfInBounds_toArray, List.set_cons_zero, List.set_cons_succ])
      refine wpAnyH_take (i := 2) (oi := _) (v := ?_) rfl (by kernel_rfl) (by kernel_rfl) (by kernel_rfl) (fun _ _ _ h => h) (Or.inl ⟨by rfl, ?_⟩) (by assumption) ?_
      rotate_left
      · (intro w hSw; (try dsimp only at hSw); go_simp; try (with_reducible rfl))
      (try simp only [Act.put, List.setIfInBounds_toArray, List.set_cons_zero, List.set_cons_succ])
      refine wpAnyH_take (i := 3) (oi := _) (v := ?_) rfl (by kernel_rfl) (by kernel_rfl) (by kernel_rfl) (fun _ _ _ h => h) (Or.inl ⟨by rfl, ?_⟩) (by assumption) ?_
      rotate_left
      · (intro w hSw; (try dsimp only at hSw); go_simp; try (with_reducible rfl))
      (try simp only [Act.put, List.setIfInBounds_toArray, List.set_cons_zero, List.set_cons_succ])
      refine wpAnyH_take (i := 4) (oi := _) (v := ?_) rfl (by kernel_rfl) (by kernel_rfl) (by kernel_rfl) (fun _ _ _ h => h) (Or.inl ⟨by rfl, ?_⟩) (by assumption) ?_
      rotate_left
      · (intro w hSw; (try dsimp only at hSw); go_simp; try (with_reducible rfl))
      (try simp only [Act.put, List.setIfInBounds_toArray, List.set_cons_zero, List.set_cons_succ])
      refine wpAnyH_take (i := 5) (oi := _) (v := ?_) rfl (by kernel_rfl) (by kernel_rfl) (by kernel_rfl) (fun _ _ _ h => h) (Or.inl ⟨by rfl, ?_⟩) (by assumption) ?_
      rotate_left
      · (intro w hSw; (try dsimp only at hSw); go_simp; try (with_reducible rfl))
      (try simp only [Act.put, List.setIfInBounds_toArray, List.set_cons_zero, List.set_cons_succ])
      refine wpAnyH_take (i := 6) (oi := _) (v := ?_) rfl (by kernel_rfl) (by kernel_rfl) (by kernel_rfl) (fun _ _ _ h => h) (Or.inl ⟨by rfl, ?_⟩) (by assumption) ?_
      rotate_left
      · (intro w hSw; (try dsimp only at hSw); go_simp; try (with_reducible rfl))
      (try simp only [Act.put, List.setIfInBounds_toArray, List.set_cons_zero, List.set_cons_succ])
      refine wpAnyH_take (i := 7) (oi := _) (v := ?_) rfl (by kernel_rfl) (by kernel_rfl) (by kernel_rfl) (fun _ _ _ h => h) (Or.inl ⟨by rfl, ?_⟩) (by assumption) ?_
      rotate_left
      · (intro w hSw; (try dsimp only at hSw); go_simp; try (with_reducible rfl))
      (try simp only [Act.put, List.setIfInBounds_toArray, List.set_cons_zero, List.set_cons_succ])
      refine wpAnyH_take (i := 8) (oi := _) (v := ?_) rfl (by kernel_rfl) (by kernel_rfl) (by kernel_rfl) (fun _ _ _ h => h) (Or.inl ⟨by rfl, ?_⟩) (by assumption) ?_
      rotate_left
      · (intro w hSw; (try dsimp only at hSw); go_simp; try (with_reducible rfl))
      (try simp only [Act.put, List.setIfInBounds_toArray, List.set_cons_zero, List.set_cons_succ])
      refine wpAnyH_take (i := 9) (oi := _) (v := ?_) rfl (by kernel_rfl) (by kernel_rfl) (by kernel_rfl) (fun _ _ _ h => h) (Or.inl ⟨by rfl, ?_⟩) (by assumption) ?_
      rotate_left
      · (intro w hSw; (try dsimp only at hSw); go_simp; try (with_reducible rfl))
      (try simp only [Act.put, List.setIfInBounds_toArray, List.set_cons_zero, List.set_cons_succ])
      refine wpAnyH_take (i := 10) (oi := _) (v := ?_) rfl (by kernel_rfl) (by kernel_rfl) (by kernel_rfl) (fun _ _ _ h => h) (Or.inl ⟨by rfl, ?_⟩) (by assumption) ?_
      rotate_left
      · (intro w hSw; (try dsimp only at hSw); go_simp; try (with_reducible rfl))
      (try simp only [Act.put, List.setIfInBounds_toArray, List.set_cons_zero, List.set_cons_succ])
      refine wpAnyH_take (i := 11) (oi := _) (v := ?_) rfl (by kernel_rfl) (by kernel_rfl) (by kernel_rfl) (fun _ _ _ h => h) (Or.inl ⟨by rfl, ?_⟩) (by assumption) ?_
      rotate_left
      · (intro w hSw; (try dsimp only at hSw); go_simp; try (with_reducible rfl))
      (try simp only [Act.put, List.setIfInBounds_toArray, List.set_cons_zero, List.set_cons_succ])
      refine wpAnyH_take (i := 12) (oi := _) (v := ?_) rfl (by kernel_rfl) (by kernel_rfl) (by kernel_rfl) (fun _ _ _ h => h) (Or.inl ⟨by rfl, ?_⟩) (by assumption) ?_
      rotate_left
      · (intro w hSw; (try dsimp only at hSw); go_simp; try (with_reducible rfl))
      (try simp only [Act.put, List.setIfInBounds_toArray, List.set_cons_zero, List.set_cons_succ])
      refine wpAnyH_take (i := 13) (oi := _) (v := ?_) rfl (by kernel_rfl) (by kernel_rfl) (by kernel_rfl) (fun _ _ _ h => h) (Or.inl ⟨by rfl, ?_⟩) (by assumption) ?_
      rotate_left
      · (intro w hSw; (try dsimp only at hSw); go_simp; try (with_reducible rfl))
      (try simp only [Act.put, List.setIfInBounds_toArray, List.set_cons_zero, List.set_cons_succ])
      refine wpAnyH_take (i := 14) (oi := _) (v := ?_) rfl (by kernel_rfl) (by kernel_rfl) (by kernel_rfl) (fun _ _ _ h => h) (Or.inl ⟨by rfl, ?_⟩) (by assumption) ?_
      rotate_left
      · (intro w hSw; (try dsimp only at hSw); go_simp; try (with_reducible rfl))
      (try simp only [Act.put, List.setIfInBounds_toArray, List.set_cons_zero, List.set_cons_succ])
      refine wpAnyH_take (i := 15) (oi := _) (v := ?_) rfl (by kernel_rfl) (by kernel_rfl) (by kernel_rfl) (fun _ _ _ h => h) (Or.inl ⟨by rfl, ?_⟩) (by assumption) ?_
      rotate_left
      · (intro w hSw; (try dsimp only at hSw); go_simp; try (with_reducible rfl))
      (try simp only [Act.put, List.setIfInBounds_toArray, List.set_cons_zero, List.set_cons_succ])
      refine wpAnyH_take (i := 16) (oi := _) (v := ?_) rfl (by kernel_rfl) (by kernel_rfl) (by kernel_rfl) (fun _ _ _ h => h) (Or.inl ⟨by rfl, ?_⟩) (by assumption) ?_
      rotate_left
      · (intro w hSw; (try dsimp only at hSw); go_simp; try (with_reducible rfl))
      (try simp only [Act.put, List.setIfInBounds_toArray, List.set_cons_zero, List.set_cons_succ])
      refine wpAnyH_take (i := 17) (oi := _) (v := ?_) rfl (by kernel_rfl) (by kernel_rfl) (by kernel_rfl) (fun _ _ _ h => h) (Or.inl ⟨by rfl, ?_⟩) (by assumption) ?_
      rotate_left
      · (intro w hSw; (try dsimp only at hSw); go_simp; try (with_reducible rfl))
      (try simp only [Act.put, List.setIfInBounds_toArray, List.set_cons_zero, List.set_cons_succ])
      refine wpAnyH_take (i := 18) (oi := _) (v := ?_) rfl (by kernel_rfl) (by kernel_rfl) (by kernel_rfl) (fun _ _ _ h => h) (Or.inl ⟨by rfl, ?_⟩) (by assumption) ?_
      rotate_left
      · (intro w hSw; (try dsimp only at hSw); go_simp; try (with_reducible rfl))
      (try simp only [Act.put, List.setIfInBounds_toArray, List.set_cons_zero, List.set_cons_succ])
      refine wpAnyH_take (i := 19) (oi := _) (v := ?_) rfl (by kernel_rfl) (by kernel_rfl) (by kernel_rfl) (fun _ _ _ h => h) (Or.inl ⟨by rfl, ?_⟩) (by assumption) ?_
      rotate_left
      · (intro w hSw; (try dsimp only at hSw); go_simp; try (with_reducible rfl))
      (try simp only [Act.put, List.setIfInBounds_toArray, List.set_cons_zero, List.set_cons_succ])
      refine wpAnyH_take (i := 20) (oi := _) (v := ?_) rfl (by kernel_rfl) (by kernel_rfl) (by kernel_rfl) (fun _ _ _ h => h) (Or.inl ⟨by rfl, ?_⟩) (by assumption) ?_
      rotate_left
      · (intro w hSw; (try dsimp only at hSw); go_simp; try (with_reducible rfl))
      (try simp only [Act.put, List.setIfInBounds_toArray, List.set_cons_zero, List.set_cons_succ])
      refine wpAnyH_take (i := 21) (oi := _) (v := ?_) rfl (by kernel_rfl) (by kernel_rfl) (by kernel_rfl) (fun _ _ _ h => h) (Or.inl ⟨by rfl, ?_⟩) (by assumption) ?_
      rotate_left
      · (intro w hSw; (try dsimp only at hSw); go_simp; try (with_reducible rfl))
      (try simp only [Act.put, List.setIfInBounds_toArray, List.set_cons_zero, List.set_cons_succ])
      refine wpAnyH_take (i := 22) (oi := _) (v := ?_) rfl (by kernel_rfl) (by kernel_rfl) (by kernel_rfl) (fun _ _ _ h => h) (Or.inl ⟨by rfl, ?_⟩) (by assumption) ?_
      rotate_left
      · (intro w hSw; (try dsimp only at hSw); go_simp; try (with_reducible rfl))
      (try simp only [Act.put, List.setIfInBounds_toArray, List.set_cons_zero, List.set_cons_succ])
      refine wpAnyH_take (i := 23) (oi := _) (v := ?_) rfl (by kernel_rfl) (by kernel_rfl) (by kernel_rfl) (fun _ _ _ h => h) (Or.inl ⟨by rfl, ?_⟩) (by assumption) ?_
      rotate_left
      · (intro w hSw; (try dsimp only at hSw); go_simp; try (with_reducible rfl))
      (try simp only [Act.put, List.setIfInBounds_toArray, List.set_cons_zero, List.set_cons_succ])
      refine wpAnyH_ready (rs := [24]) (by kernel_rfl) (by simp) ?_
      refine AllReadyH.cons (o := _) rfl (fun K hK => ?_) AllReadyH.nil
      go_simp
      refine hK.out _ _ ?_ (fun hHeld2 => ?_)
      · exact ⟨exA.out _, eyA.out _⟩
      clear hK K
      (try simp only [Act.put, List.setIfInBounds_toArray, List.set_cons_zero, List.set_cons_succ])
      refine wpAnyH_ready (rs := [25]) (by kernel_rfl) (by simp) ?_
      refine AllReadyH.cons (o := _) rfl (fun K hK => ?_) AllReadyH.nil
      refine step_append_lies _ (by rfl) (.tmp 79) (.tmp 103) 36 (by rfl) w9.heap.size 33 i0 _ 1 16 Try.underlying36 hi0 hz0 hz1 hz2 rfl (by omega) u11 k (c64s (sumL (P1, P2) (a1, a2) (P3, P4) (b1, b2) k)) (by rfl) ((hown.alloc _).drew) ⟨wr.heap.size, 0, none⟩ 1 1 [.complex .f64 (fo .add .f64 X1 Y1) (fo .add .f64 X2 Y2)] (by rfl) (by rfl) (World.news_of_block (cs := #[.complex .f64 (fo .add .f64 X1 Y1) (fo .add .f64 X2 Y2)]) (t := 33) (fr := (0, 0)) (by exact heap_alloc_new wr _)) (by simp [Value.oneCell']) (by omega) (by simp only [maxLen]; omega) (by omega) (by simp; omega) (wr.heap.size + 1) (by simp) ?_
      intro gg cap w1 hown1 hgrow hat hlt1
      refine hK.out _ _ ?_ (fun hHeld3 => ?_)
      · exact ⟨(hgrow.cell_far _ (by simp; omega) ax).trans (exA.out _), (hgrow.cell_far _ (by simp; omega) ay).trans (eyA.out _)⟩
      clear hK K
      (try simp only [Act.put, List.setIfInBounds_toArray, List.set_cons_zero, List.set_cons_succ])
      refine wpAnyH_take (i := 26) (oi := _) (v := ?_) rfl (by kernel_rfl) (by kernel_rfl) (by kernel_rfl) (fun _ _ _ h => h) (Or.inl ⟨by rfl, ?_⟩) (by assumption) ?_
      rotate_left
      · (intro w hSw; (try dsimp only at hSw); go_simp; try (with_reducible rfl))
      (try simp only [Act.put, List.setIfInBounds_toArray, List.set_cons_zero, List.set_cons_succ])
      refine wpAnyH_done (by kernel_rfl) ?_ _
      go_wp2_with fail
      go_roundw
      case rel => exact ⟨k + 1, by go_num, by omega, by rw [← HSN.out]; exact hown1, ((hbel.alloc hbel.size _).drew).grown hgrow (by simp; omega) (fun k hk => (hown.lt k hk).1)⟩
      case measure => simp [intOf]; omega
    · obtain rfl : k = 4 := by omega
      obtain ⟨A', cap, hv, _, hrd⟩ := own_rd hown
      subst hv
      have B10 : Hid (Below w.heap.size w wr) := B9.out.trans (hbel.mono B9.out.size)
      obtain ⟨s1, s2, t1, t2, hfit, n1', n2', hs, m1', m2', ht, r1, r2⟩ := FIT.out
      have HFIT := Lib.hid (hfit wr A' cap hrd)
      have HN := Lib.hid (And.intro n1' n2')
      have HM := Lib.hid (And.intro m1' m2')
      have HS := Lib.hid hs
      have HT := Lib.hid ht
      have HR := Lib.hid (And.intro r1 r2)
      have q1' := fun w => rnd_eq SUM.out.1 w
      have q2' := fun w => rnd_eq SUM.out.2 w
      clear hown hrd hbel hfit n1' n2' hs m1' m2' ht r1 r2
      go_wp2_with fail
      refine HFIT.out.mono ?_
      rintro e w' ⟨n, bb, rfl, rfl⟩
      have B11 : Hid (Below w.heap.size w (wr.alloc bb)) := B10.out.alloc B10.out.size _
      generalize wr.alloc bb = W11 at *
      go_wp2_with fail
      refine (power_neg (-40) _ (by omega) (by omega)).mono ?_
      rintro e w' ⟨x1', mm1, rfl, fx1, vx1, rfl⟩
      have g1 := Lib.hid (fun r hr => HS.out r hr x1' fx1 vx1)
      clear fx1 vx1
      go_wp2_with fail
      refine (small_any s1 s2 _ _ _ _ HN.out.1 HN.out.2).mono ?_
      rintro e w' ⟨r, mm2, rfl, hrr, rfl⟩
      rw [g1.out r hrr]
      clear hrr g1
      go_wp2_with fail
      refine (specTimes_fin P1 P2 P3 P4 _ HR.out.1 HR.out.2).mono ?_
      rintro e w' ⟨mm3, rfl, rfl⟩
      go_wp2_with fail
      refine (power_neg (-40) _ (by omega) (by omega)).mono ?_
      rintro e w' ⟨x2', mm4, rfl, fx2, vx2, rfl⟩
      have g2 := Lib.hid (fun r hr => HT.out r hr x2' fx2 vx2)
      clear fx2 vx2
      go_wp2_with fail
      refine (small_any t1 t2 _ _ _ _ HM.out.1 HM.out.2).mono ?_
      rintro e w' ⟨r, mm5, rfl, hrr, rfl⟩
      rw [g2.out r hrr]
      clear hrr g2
      go_wp2_with fail
      go_ret
      exact ⟨rfl, below_drewN B11.out _⟩

theorem walk (A : Option Addr) (c : Nat) (bs : List Int) (w : World) (_ : bs.length ≤ maxLen) (hr : Rd w A (bs.map (.int .u8))) (hb : ∀ i, i < bs.length → 0 ≤ bs.getD i 0 ∧ bs.getD i 0 ≤ 255) :
    Calls Try.prog 4 #[.slice A bs.length c] w fun e w' => e = .returned (.bool true) ∧ Below w.heap.size w w' := by
  by_cases hm : bs.length ≤ 1048576
  · exact walk_some A c bs w hr hm hb
  · go_enter Try.func4, Try.ntmps4
    go_wp2
    go_ret
    exact ⟨rfl, Below.refl _ _⟩
set_option maxRecDepth 100000 in
theorem lifted (os : Os) (started : os.Started) (H : Type) (enc : TypeId × Value → H) :
    ReturnsInHanded {} Try.checked os 4 .any (Rows.fnPairSpec.pre6 enc Try.prog Try.f4 Rows.fnPairRow.domain false) (Rows.fnPairSpec.post enc Try.prog Try.f4 false true false false) := by
  refine returnsInHanded_of_change (C := Try.checked) own started (by kernel_rfl) Try.func4
    (ChangeSpec.witness6 (enc := enc) (C := Try.checked) false ⟨#[], #[.slice none 0 0], []⟩ 8 (by kernel_rfl) (by kernel_rfl) (by kernel_rfl) (by kernel_rfl)) ?_
  intro W base args ds gs before hval0 hW hcnd _
  have hval : ∀ (j : Nat) t v, Try.f4.params[j]? = some t → args[j]? = some v → Value.okWide Try.prog W .any base t v := hval0
  have hW' := hW
  obtain ⟨p, q, hA0, hV, rfl, hfz, hnd⟩ := hW
  have hA : DataW.TrodAll enc Try.prog W 0 (fun _ => true) true Try.f4.params.toList args.toList ds p := hA0
  rw [Try.params4] at hA hval
  obtain ⟨v0, vs0, d0, ds0, p0, q0, hargs, rfl, rfl, h0, r0⟩ := trodAll_cons hA
  obtain ⟨rfl, rfl, rfl⟩ := trodAll_nil r0
  obtain rfl : args = #[v0] := by cases args; simp_all
  obtain ⟨rfl, rfl⟩ := trodVars_none hV
  obtain ⟨a0, len0, cap0, rfl⟩ := okWide_slice Try.underlying22 (hval 0 22 v0 rfl rfl)
  have lt0 : ∀ x ∈ p0, x.block < W.heap.size := by obtain ⟨m, hm⟩ := h0; exact DataW.trod_lt m _ _ _ hm
  obtain ⟨bs0, rfl, mx0, rd0, wf0⟩ := open_bytes rfl Try.underlying22 Try.underlying5 (by kernel_rfl) h0
  clear hA0 hval0
  refine (walk a0 cap0 bs0 W mx0 rd0 wf0).mono fun e W' ⟨he, bel⟩ => ?_
  subst he
  exact ⟨_, rfl, _, _, _, [], _, [], hW', trodAll_mk1 (shut_bool Try.underlying4 _), (trodAll_cons_mk (Below.trod laidOut (by kernel_rfl) (of_decide_eq_true (by kernel_rfl)) h0 bel lt0) trodAll_mk0), rfl, bel.frame _, fun h => by cases h⟩

theorem proved : Rows.FnPairSaid :=
  OpenClaim.holds_of_wide 4 Try.f4 rfl rfl rfl rfl rfl rfl rfl ⟨rfl, rfl, rfl, rfl, rfl⟩ rfl rfl rfl rfl rfl (by kernel_rfl) Try.func4 (by kernel_rfl)
    (of_decide_eq_true (by kernel_rfl)) (by unfold Func.isWrapper; first | (rw [if_pos (by decide +kernel)]; kernel_rfl) | (rw [if_neg (by decide +kernel)]; exact ⟨rfl, rfl⟩))
    (fun os started H enc _ => lifted os started H enc)
#print axioms proved
end Go.Proofs.Ytignncjmbcdpaaa.lawPair
