/-
spec.MakeMode: a mode that is valid.
-/
import Derived.Test.YtignncjmbcdpaaaAny
import Derived.Test.YtignncjmbcdpaaaAids
import Derived.Deep.RegionWith
import Derived.Deep.Cut
namespace Go.Proofs.Ytignncjmbcdpaaa
open Go Go.RowKit Ieee

@[go_sem] theorem run_store_complex (P : Program) (w : World) (a : Addr) (m : Go.Mode) (k : FloatKind) (x y : Nat) : (store a (.complex k x y) m).run P w = stored P w a (.complex k x y) m := run_store P w a _ m rfl
theorem alloc_drewN (w : World) (n : Nat) (o : Obj) : (w.drewN n).alloc o = (w.alloc o).drewN n := rfl
theorem setCell_drewN (w : World) (n : Nat) (a : Addr) (v : Value) : (w.drewN n).setCell a v = (w.setCell a v).drewN n := by
  unfold World.setCell; rfl
theorem int_wf (k : FloatKind) (n : Int) : wfk k (floatOfInt k n) := wfk_lit (floatOfInt_wf k n)

set_option maxHeartbeats 1000000 in
theorem turn_any (g : Nat) (w : World) (h : Cur w g) :
    Calls Try.prog 134 #[.pointer (some ⟨g, 0, none⟩)] w fun e w' => ∃ a b : Nat, e = .returned (.complex .f32 a b) ∧ wfk .f32 a ∧ wfk .f32 b ∧ CurStep w w' g := by
  go_enter Try.func134, Try.ntmps134
  go_wp2_with fail
  refine (below_any g 10 _ h (by omega) (by omega)).mono ?_
  rintro e w1 ⟨x, rfl, hx, hs⟩
  go_wp2_with fail
  all_goals first
    | (go_ret; exact ⟨_, _, rfl, by rw [wfk_32]; decide, by rw [wfk_32]; decide, hs⟩)
    | (refine (below_any g 23 _ hs.1 (by omega) (by omega)).mono ?_
       rintro e w2 ⟨y, rfl, hy, hs2⟩
       go_wp2_with fail
       refine (below_any g 23 _ (hs2.drewN _).1 (by omega) (by omega)).mono ?_
       rintro e w3 ⟨z, rfl, hz, hs3⟩
       go_wp2_with fail
       go_ret
       exact ⟨_, _, rfl, fR_lt _ _ _ _ _, fR_lt _ _ _ _ _, ((hs.trans (hs2.drewN _)).trans hs3).drewN _⟩)

set_option maxHeartbeats 400000 in
theorem single_any (g : Nat) (w : World) (h : Cur w g) :
    Calls Try.prog 138 #[.pointer (some ⟨g, 0, none⟩)] w fun e w' => ∃ a b : Nat, e = .returned (.complex .f32 a b) ∧ wfk .f32 a ∧ wfk .f32 b ∧ CurStep w w' g := by
  go_enter Try.func138, Try.ntmps138
  go_wp2_with fail
  refine (any_any g _ h).mono ?_
  rintro e w1 ⟨a, rfl, ha, h1⟩
  go_wp2_with fail
  refine (any_any g _ (h1.drewN _).1).mono ?_
  rintro e w2 ⟨b, rfl, hb, h2⟩
  go_wp2_with fail
  go_ret
  exact ⟨_, _, rfl, cR_lt ha _, cR_lt hb _, ((h1.drewN _).trans h2).drewN _⟩

set_option maxHeartbeats 400000 in
theorem pickInt_any (g : Nat) (A : Option Addr) (c : Nat) (xs : List Int) (w : World) (h : Cur w g) (hr : Rd w A (xs.map (.int .i64))) (h0 : 0 < xs.length) (h1 : xs.length ≤ 1000) (hA : ∀ a, A = some a → a.block ≠ g) :
    Calls Try.prog 137 #[.pointer (some ⟨g, 0, none⟩), .slice A xs.length c] w fun e w' => ∃ v : Int, e = .returned (.int .i64 v) ∧ CurStep w w' g := by
  go_enter Try.func137, Try.ntmps137
  go_wp2_with fail
  refine (below_any g xs.length _ h (by omega) (by omega)).mono ?_
  rintro e w1 ⟨x, rfl, hx, hs⟩
  obtain ⟨b, off, rfl, hb, hc⟩ := hr (by simp; omega)
  have hne := hA _ rfl
  obtain ⟨k, rfl⟩ : ∃ k : Nat, x = k := ⟨x.toNat, by omega⟩
  have hk : k < xs.length := by omega
  have e0 := hc k (.int .i64 (xs.getD k 0)) (by simp [List.getD, List.getElem?_eq_getElem hk])
  have e1 : w1.cell? ⟨b, off + k, none⟩ = some (.int .i64 (xs.getD k 0)) := by
    rw [← e0]; exact World.cell?_of_block (hs.2.block b hb (by intro e; injection e with e; exact hne e))
  clear hc e0
  generalize xs.getD k 0 = v at *
  go_wp2
  go_ret
  exact ⟨_, rfl, hs⟩

set_option maxHeartbeats 400000 in
theorem specScale_any (a b x : Nat) (w : World) : Calls Try.prog 136 #[.complex .f32 a b, .float .f32 x] w fun e w' => ∃ p q n, e = .returned (.complex .f32 p q) ∧ wfk .f32 p ∧ wfk .f32 q ∧ w.drewN n = w' := by
  go_enter Try.func136, Try.ntmps136
  go_wp2_with fail
  go_ret
  exact ⟨_, _, _, rfl, fR_lt _ _ _ _ _, fR_lt _ _ _ _ _, rfl⟩

/-- The state of spec.l2Mode: the result's block, the mode's block. -/
structure MSt (w W : World) (g R M : Nat) : Prop where
  cur : Cur W g
  gr : w.grownBy W (some g)
  r : W.heap[R]? = some (.cells #[.complex .f32 0 0, .complex .f32 0 0] 52 (0, 0))
  gR : R ≠ g
  gM : M ≠ g
  RM : R ≠ M
  hR : w.heap.size ≤ R
  hM : w.heap.size ≤ M
  m : ∃ a b c d, (wfk .f32 a ∧ wfk .f32 b ∧ wfk .f32 c ∧ wfk .f32 d) ∧ W.heap[M]? = some (.cells #[.complex .f32 a b, .complex .f32 c d] 52 (0, 0))
theorem lt_of_some {W : World} {i : Nat} {o : Obj} (h : W.heap[i]? = some o) : i < W.heap.size := by
  rcases Nat.lt_or_ge i W.heap.size with h1 | h1
  · exact h1
  · rw [Array.getElem?_eq_none h1] at h; cases h
theorem MSt.step {w W W' : World} {g R M : Nat} (h : MSt w W g R M) (s : CurStep W W' g) : MSt w W' g R M := by
  obtain ⟨a, b, c, d, hw, hm⟩ := h.m
  have kR := s.2.block R (lt_of_some h.r) (by intro e; injection e with e; exact h.gR e)
  have kM := s.2.block M (lt_of_some hm) (by intro e; injection e with e; exact h.gM e)
  exact ⟨s.1, grown_trans h.gr s.2, kR.trans h.r, h.gR, h.gM, h.RM, h.hR, h.hM, a, b, c, d, hw, kM.trans hm⟩
theorem MSt.drewN {w W : World} {g R M : Nat} (h : MSt w W g R M) (n : Nat) : MSt w (W.drewN n) g R M :=
  ⟨h.cur, grown_drewN h.gr n, h.r, h.gR, h.gM, h.RM, h.hR, h.hM, h.m⟩
theorem MSt.alloc {w W : World} {g R M : Nat} (h : MSt w W g R M) (o : Obj) : MSt w (W.alloc o) g R M := by
  obtain ⟨a, b, c, d, hw, hm⟩ := h.m
  have k : ∀ i, i < W.heap.size → (W.alloc o).heap[i]? = W.heap[i]? := fun i hi => Below.heap_alloc W o i hi
  exact ⟨h.cur.alloc o, grown_trans h.gr ⟨rfl, rfl, rfl, by simp, fun i hi _ => k i hi⟩, (k _ (lt_of_some h.r)).trans h.r, h.gR, h.gM, h.RM, h.hR, h.hM, a, b, c, d, hw, (k _ (lt_of_some hm)).trans hm⟩
theorem cur_set {W : World} {g : Nat} (h : Cur W g) (i o : Nat) (v : Value) (hi : i ≠ g) (hl : g < i) : Cur (W.setCell ⟨i, o, none⟩ v) g := by
  have k : ∀ j, j ≠ i → (W.setCell ⟨i, o, none⟩ v).heap[j]? = W.heap[j]? := fun j hj => Below.heap_setCell _ _ _ _ hj
  obtain ⟨A, n, c, bs, x, y, hb, hl', hm, hrd, h1, h2⟩ := h
  exact ⟨A, n, c, bs, x, y, (k g (fun e => hi e.symm)).trans hb, hl', hm, hrd.keep (fun j hj => k j (by omega)), h1, h2⟩
theorem grown_set' {w W : World} {g i o : Nat} {v : Value} (h : w.grownBy W (some g)) (hi : w.heap.size ≤ i) : w.grownBy (W.setCell ⟨i, o, none⟩ v) (some g) :=
  ⟨h.os, h.tape, h.output, by simpa using h.size, fun j hj hne => (Below.heap_setCell _ _ _ _ (by show j ≠ i; omega)).trans (h.block j hj hne)⟩
theorem m_cells {W : World} {M : Nat} {x y : Value} (h : W.heap[M]? = some (.cells #[x, y] 52 (0, 0))) :
    W.cell? ⟨M, 0, none⟩ = some x ∧ W.cell? ⟨M, 1, none⟩ = some y ∧ W.frozen? ⟨M, 0, none⟩ = false ∧ W.frozen? ⟨M, 1, none⟩ = false :=
  ⟨cell_of_row W M 0 _ _ (0, 0) h, cell_of_row W M 1 _ _ (0, 0) h, by unfold World.frozen?; simp only [h]; simp, by unfold World.frozen?; simp only [h]; simp⟩
theorem MSt.done {w W : World} {g R M : Nat} (h : MSt w W g R M) (hg : g < w.heap.size) (x y : Value) : CurStep w ((W.setCell ⟨R, 0, none⟩ x).setCell ⟨R, 1, none⟩ y) g :=
  ⟨cur_set (cur_set h.cur _ _ _ h.gR (by have := h.hR; omega)) _ _ _ h.gR (by have := h.hR; omega), grown_set' (grown_set' h.gr h.hR) h.hR⟩
theorem MSt.set0 {w W : World} {g R M : Nat} (h : MSt w W g R M) (hg : g < w.heap.size) {x y : Nat} (hx : wfk .f32 x) (hy : wfk .f32 y) : MSt w (W.setCell ⟨M, 0, none⟩ (.complex .f32 x y)) g R M := by
  obtain ⟨a, b, c, d, hw, hm⟩ := h.m
  refine ⟨cur_set h.cur _ _ _ h.gM (by have := h.hM; omega), grown_set' h.gr h.hM, (Below.heap_setCell _ _ _ _ h.RM).trans h.r, h.gR, h.gM, h.RM, h.hR, h.hM, x, y, c, d, ⟨hx, hy, hw.2.2.1, hw.2.2.2⟩, ?_⟩
  simp [World.setCell, Array.getElem?_modify, hm]
theorem MSt.set1 {w W : World} {g R M : Nat} (h : MSt w W g R M) (hg : g < w.heap.size) {x y : Nat} (hx : wfk .f32 x) (hy : wfk .f32 y) : MSt w (W.setCell ⟨M, 1, none⟩ (.complex .f32 x y)) g R M := by
  obtain ⟨a, b, c, d, hw, hm⟩ := h.m
  refine ⟨cur_set h.cur _ _ _ h.gM (by have := h.hM; omega), grown_set' h.gr h.hM, (Below.heap_setCell _ _ _ _ h.RM).trans h.r, h.gR, h.gM, h.RM, h.hR, h.hM, a, b, x, y, ⟨hw.1, hw.2.1, hx, hy⟩, ?_⟩
  simp [World.setCell, Array.getElem?_modify, hm]

theorem MSt.res {w W : World} {g R M : Nat} (h : MSt w W g R M) (x y : Value) : ((W.setCell ⟨R, 0, none⟩ x).setCell ⟨R, 1, none⟩ y).heap[R]? = some (.cells #[x, y] 52 (0, 0)) := by
  simp [World.setCell, Array.getElem?_modify, h.r]
theorem MSt.same {w W W' : World} {g R M : Nat} (h : MSt w W g R M) (hh : W'.heap = W.heap) (ho : W'.os = W.os) (ht : W'.tape = W.tape) (hu : W'.output = W.output) : MSt w W' g R M := by
  obtain ⟨A, n, c, bs, x, y, hb, hl', hm, hrd, h1, h2⟩ := h.cur
  refine ⟨⟨A, n, c, bs, x, y, by rw [hh]; exact hb, hl', hm, hrd.keep (fun j _ => by rw [hh]), h1, h2⟩,
    ⟨ho.trans h.gr.os, ht.trans h.gr.tape, hu.trans h.gr.output, by rw [hh]; exact h.gr.size, fun i hi hn => by rw [hh]; exact h.gr.block i hi hn⟩, by rw [hh]; exact h.r, h.gR, h.gM, h.RM, h.hR, h.hM, by rw [hh]; exact h.m⟩
theorem MSt.after {w W W' Wc : World} {g R M : Nat} (s : CurStep Wc W' g) (h : MSt w W g R M) (hh : Wc.heap = W.heap) (ho : Wc.os = W.os) (ht : Wc.tape = W.tape) (hu : Wc.output = W.output) : MSt w W' g R M :=
  MSt.step (h.same hh ho ht hu) s
theorem rd_ints (W : World) (T : TypeId) (W' : World) (xs : List Int) (h : W'.heap = (W.alloc (.cells (xs.map (.int .i64)).toArray T)).heap) : Rd W' (some ⟨W.heap.size, 0, none⟩) (xs.map (.int .i64)) := by
  have h1 : Rd (W.alloc (.cells (xs.map (.int .i64)).toArray T)) (some ⟨W.heap.size, 0, none⟩) (xs.map (.int .i64)) := MadeRow.rd (T := T) ⟨_, rfl, by simp⟩
  intro hl
  obtain ⟨b, off, e, hb, hc⟩ := h1 hl
  exact ⟨b, off, e, by rw [h]; exact hb, fun k u hu => (World.cell?_of_block (by rw [h])).trans (hc k u hu)⟩
section
attribute [local go_sem] alloc_drewN setCell_drewN
set_option maxRecDepth 100000 in
set_option maxHeartbeats 600000 in
theorem mode_any (g : Nat) (w : World) (h : Cur w g) :
    Calls Try.prog 87 #[.pointer (some ⟨g, 0, none⟩)] w fun e w' => ∃ a b c d : Nat, e = .returned (.agg #[.complex .f32 a b, .complex .f32 c d]) ∧ wfk .f32 a ∧ wfk .f32 b ∧ wfk .f32 c ∧ wfk .f32 d ∧ CurStep w w' g := by
  have hlt := h.lt
  go_enter Try.func87, Try.ntmps87
  go_wp2_with fail
  have c0 := fun o => h.alloc o
  refine (turn_any g _ (c0 _)).mono ?_
  rintro e w1 ⟨a1, b1, rfl, ha1, hb1, s1⟩
  go_wp2_with fail
  refine (below_any g 65 _ s1.1 (by omega) (by omega)).mono ?_
  rintro e w2 ⟨x, rfl, hx, s2⟩
  go_wp2_with fail
  refine (below_any g 65 _ (s2.drewN _).1 (by omega) (by omega)).mono ?_
  rintro e w3 ⟨y, rfl, hy, s3⟩
  have s4 := (s1.trans (s2.drewN _)).trans s3
  have hR3 : w3.heap[w.heap.size]? = some (.cells #[.complex .f32 0 0, .complex .f32 0 0] 52 (0, 0)) :=
    (s4.2.block w.heap.size (by simp) (by intro e; injection e with e; omega)).trans (heap_alloc_new w _)
  have hsz : w.heap.size < w3.heap.size := lt_of_some hR3
  have S0 : ∀ p q, wfk .f32 p → wfk .f32 q → MSt w (w3.alloc (.cells #[.complex .f32 a1 b1, .complex .f32 p q] 52)) g w.heap.size w3.heap.size := fun p q hp hq =>
    ⟨s4.1.alloc _, ⟨s4.2.os, s4.2.tape, s4.2.output, by have := s4.2.size; simp at this ⊢; omega, fun i hi hne => by
        have h1 := s4.2.block i (by simp; omega) hne
        exact ((Below.heap_alloc w3 _ i (by omega)).trans h1).trans (Below.heap_alloc w _ i hi)⟩,
      (Below.heap_alloc w3 _ _ hsz).trans hR3, by omega, by omega, by omega, Nat.le_refl _, by omega, a1, b1, p, q, ⟨ha1, hb1, hp, hq⟩, heap_alloc_new w3 _⟩
  have HS0 := Lib.hid S0
  clear S0 s1 s2 s3 s4 hR3 c0 h
  go_wp2_with fail
  have S1 := (HS0.out _ _ (fR_lt .quo .f32 (floatOfInt .f32 (x - 32)) 1090519040 w2) (fR_lt .quo .f32 (floatOfInt .f32 (y - 32)) 1090519040 w3)).drewN (fN .quo .f32 (floatOfInt .f32 (y - 32)) 1090519040)
  clear HS0
  generalize (w3.alloc (.cells #[.complex .f32 a1 b1, .complex .f32 (fR .quo .f32 (floatOfInt .f32 (x - 32)) 1090519040 w2) (fR .quo .f32 (floatOfInt .f32 (y - 32)) 1090519040 w3)] 52)).drewN (fN .quo .f32 (floatOfInt .f32 (y - 32)) 1090519040) = W at *
  generalize w3.heap.size = M at *
  have Hg := Lib.hid hlt
  clear hlt hsz ha1 hb1
  refine (once_any g 3 _ S1.cur (by omega) (by omega)).mono ?_
  rintro e W1 ⟨b1, rfl, s1⟩
  have S2 := S1.step s1
  clear S1 s1
  go_upto_if 19 with fail
  go_cut [] from 20 (fun wx => MSt w wx g w.heap.size M)
  case first =>
    cases b1
    · go_wp2_with fail
      go_meet
      exact S2
    · obtain ⟨a, b, c, d, ⟨w1, w2, w3, w4⟩, hm⟩ := S2.m
      obtain ⟨c0, c1, f0, f1⟩ := m_cells hm
      have c2 := fun o => (m_cells ((Below.heap_alloc W1 o M (lt_of_some hm)).trans hm)).1
      have hML : M < W1.heap.size := lt_of_some hm
      have hML' : ¬ M = W1.heap.size := by omega
      have HS2 := Lib.hid S2
      clear S2 hm
      go_wp2_with fail
      have HN : Hid (∀ a : Addr, some (⟨W1.heap.size, 0, none⟩ : Addr) = some a → a.block ≠ g) := fun a ha => by
        cases ha
        have := HS2.out.cur.lt
        show W1.heap.size ≠ g
        omega
      go_region_with (first
        | (go_at_call 137
           have S3 := HS2.out.alloc (.cells #[.int .i64 999, .int .i64 990, .int .i64 500, .int .i64 1000] 3)
           refine (pickInt_any g _ 4 [999, 990, 500, 1000] _ ?_ ?_ (by simp) (by simp) ?_).mono ?_
           · exact (S3.same rfl rfl rfl rfl).cur
           · exact rd_ints W1 3 _ [999, 990, 500, 1000] rfl
           · exact HN.out
           rintro e W4 ⟨v, rfl, s4⟩
           have S4 := MSt.after s4 S3 rfl rfl rfl rfl
           obtain ⟨a', b', c', d', ⟨w1', w2', w3', w4'⟩, hm'⟩ := S4.m
           obtain ⟨c0', c1', f0', f1'⟩ := m_cells hm'
           have HS4 := Lib.hid S4
           clear S4 hm' s4 S3)
        | (go_at_call 136
           refine (specScale_any _ _ _ _).mono ?_
           rintro e w' ⟨p, q, n, rfl, w5, w6, rfl⟩))
      all_goals
        go_wp2_with fail
        go_meet
        exact (HS4.out.set0 Hg.out ‹wfk .f32 p› ‹wfk .f32 q›).same rfl rfl rfl rfl
  case rest =>
    clear S2
    go_wp2_with fail
    refine (once_any g 25 _ hcut.cur (by omega) (by omega)).mono ?_
    rintro e W1 ⟨b2, rfl, s1⟩
    have S2 := hcut.step s1
    clear hcut s1
    go_upto_if 30 with fail
    go_cut [] from 31 (fun wx => MSt w wx g w.heap.size M)
    case first =>
      cases b2
      · go_wp2_with fail
        go_meet
        exact S2
      · go_wp2_with fail
        refine (single_any g _ S2.cur).mono ?_
        rintro e W3 ⟨p, q, rfl, hp, hq, s3⟩
        have S3 := S2.step s3
        clear s3 S2
        obtain ⟨a, b, c, d, _, hm⟩ := S3.m
        obtain ⟨c0, c1, f0, f1⟩ := m_cells hm
        have HS3 := Lib.hid S3
        clear S3 hm
        go_wp2_with fail
        go_meet
        exact HS3.out.set0 Hg.out hp hq
    case rest =>
      clear S2
      go_wp2_with fail
      refine (once_any g 25 _ hcut.cur (by omega) (by omega)).mono ?_
      rintro e W1 ⟨b3, rfl, s1⟩
      have S2 := hcut.step s1
      clear hcut s1
      go_upto_if 35 with fail
      go_cut [] from 36 (fun wx => MSt w wx g w.heap.size M)
      case first =>
        cases b3
        · go_wp2_with fail
          go_meet
          exact S2
        · go_wp2_with fail
          refine (single_any g _ S2.cur).mono ?_
          rintro e W3 ⟨p, q, rfl, hp, hq, s3⟩
          have S3 := S2.step s3
          clear s3 S2
          obtain ⟨a, b, c, d, _, hm⟩ := S3.m
          obtain ⟨c0, c1, f0, f1⟩ := m_cells hm
          have HS3 := Lib.hid S3
          clear S3 hm
          go_wp2_with fail
          go_meet
          exact HS3.out.set1 Hg.out hp hq
      case rest =>
        clear S2
        obtain ⟨a, b, c, d, ⟨w1, w2, w3, w4⟩, hm⟩ := hcut.m
        obtain ⟨c0, c1, f0, f1⟩ := m_cells hm
        obtain ⟨r0, r1, g0, g1⟩ := m_cells hcut.r
        have HS := Lib.hid hcut
        clear hcut hm
        go_wp2_with fail
        refine bodyPost_ret (results_cell_row rfl _ _ w.heap.size 52 #[.complex .f32 a b, .complex .f32 c d] (0, 0) _ rfl (HS.out.res _ _) Try.underlying52 rfl (by kernel_rfl)) rfl ?_
        exact ⟨a, b, c, d, rfl, w1, w2, w3, w4, HS.out.done Hg.out _ _⟩
end
end Go.Proofs.Ytignncjmbcdpaaa
