/-
Part 4 of 5 of the proof of the law FnFitted: it returns true for all codes. No condition.
-/
import Derived.Test.YtignncjmbcdpaaaLawFittedM3

/-
impl.ring: n steps of wide modes, in double precision.
-/
namespace Go.Proofs.Ytignncjmbcdpaaa
open Go Go.RowKit Ieee

abbrev CW := Nat × Nat
def dAt (ms : List DW) (i : Nat) : DW := ms.getD i (0, 0, 0, 0)
/-- One step of a wide mode. -/
def stepD (m : DW) (s : CW) (x : Nat) : CW :=
  (fo .add .f64 (mulRe s.1 s.2 m.1 m.2.1) (fo .mul .f64 m.2.2.1 x), fo .add .f64 (mulIm s.1 s.2 m.1 m.2.1) (fo .mul .f64 m.2.2.2 x))
/-- The output of the first k modes. -/
def outD (ms : List DW) (ss : List CW) (x : Nat) : Nat → Nat
  | 0 => 0
  | k + 1 => fo .add .f64 (outD ms ss x k) (stepD (dAt ms k) (sAt ss k) x).1
theorem nrm_outD (ms : List DW) (ss : List CW) (x k : Nat) : nrm .f64 (outD ms ss x k) = outD ms ss x k := by
  cases k with
  | zero => exact (nrm_of_num (by decide +kernel) : nrm .f64 0 = 0)
  | succ k => exact nrm_fo _ _ _ _
def nextD (ms : List DW) (ss : List CW) (x : Nat) : List CW := (List.range ss.length).map fun i => stepD (dAt ms i) (sAt ss i) x
theorem nextD_at {ms : List DW} {ss : List CW} {x i : Nat} (h : i < ss.length) : sAt (nextD ms ss x) i = stepD (dAt ms i) (sAt ss i) x := by
  show (nextD ms ss x).getD i (0, 0) = _
  simp [nextD, List.getD, h]
/-- The states after so many steps, at inputs X. -/
def stD (ms : List DW) (X : Nat → Nat) : Nat → List CW
  | 0 => List.replicate ms.length (0, 0)
  | i + 1 => nextD ms (stD ms X i) (X i)
theorem stD_len (ms : List DW) (X : Nat → Nat) (i : Nat) : (stD ms X i).length = ms.length := by
  induction i with
  | zero => simp [stD]
  | succ i ih => simp [stD, nextD, ih]
/-- What wide modes ring: a NaN made the one NaN. -/
def RungD (ms : List DW) (X : Nat → Nat) (ys : List Nat) (n : Nat) : Prop :=
  ys.length = n ∧ ∀ i, i < n → nrm .f64 (ys.getD i 0) = outD ms (stD ms X i) (X i) ms.length ∧ wfk .f64 (ys.getD i 0)
theorem rungD_snoc {ms : List DW} {X : Nat → Nat} {ys : List Nat} {k r : Nat} (h : RungD ms X ys k) (hr : nrm .f64 r = outD ms (stD ms X k) (X k) ms.length) (hw : wfk .f64 r) : RungD ms X (ys ++ [r]) (k + 1) := by
  obtain ⟨hl, h⟩ := h
  refine ⟨by simp [hl], fun i hi => ?_⟩
  rcases Nat.lt_or_ge i k with h1 | h1
  · have e : (ys ++ [r]).getD i 0 = ys.getD i 0 := by
      simp only [List.getD]; rw [List.getElem?_append_left (by omega)]
    rw [e]; exact h i h1
  · obtain rfl : i = k := by omega
    have e : (ys ++ [r]).getD i 0 = r := by
      simp only [List.getD]; rw [List.getElem?_append_right (by omega), hl]; simp
    rw [e]; exact ⟨hr, hw⟩
/-- States that are the same but for the bits of a NaN. -/
def AliS (s t : CW) : Prop := nrm .f64 s.1 = nrm .f64 t.1 ∧ nrm .f64 s.2 = nrm .f64 t.2
theorem step_ali {m : DW} {s t : CW} {x y p q p2 q2 p3 q3 : Nat} (h : AliS s t) (hx : nrm .f64 x = nrm .f64 y) (h1 : nrm .f64 p = nrm .f64 (mulRe s.1 s.2 m.1 m.2.1) ∧ nrm .f64 q = nrm .f64 (mulIm s.1 s.2 m.1 m.2.1))
    (h2 : nrm .f64 p2 = nrm .f64 (fo .mul .f64 m.2.2.1 x) ∧ nrm .f64 q2 = nrm .f64 (fo .mul .f64 m.2.2.2 x)) (h3 : nrm .f64 p3 = nrm .f64 (fo .add .f64 p p2) ∧ nrm .f64 q3 = nrm .f64 (fo .add .f64 q q2)) : AliS (p3, q3) (stepD m t y) := by
  obtain ⟨e1, e2⟩ := mul_congr h.1 h.2 (rfl : nrm .f64 m.1 = nrm .f64 m.1) (rfl : nrm .f64 m.2.1 = nrm .f64 m.2.1)
  have g1 : fo .mul .f64 m.2.2.1 x = fo .mul .f64 m.2.2.1 y := fo_congr rfl hx
  have g2 : fo .mul .f64 m.2.2.2 x = fo .mul .f64 m.2.2.2 y := fo_congr rfl hx
  refine ⟨?_, ?_⟩
  · show nrm .f64 p3 = nrm .f64 (fo .add .f64 _ _)
    rw [h3.1, nrm_fo, nrm_fo]
    exact fo_congr (by rw [h1.1, e1]) (by rw [h2.1, g1])
  · show nrm .f64 q3 = nrm .f64 (fo .add .f64 _ _)
    rw [h3.2, nrm_fo, nrm_fo]
    exact fo_congr (by rw [h1.2, e2]) (by rw [h2.2, g2])
/-- A row of states: the words ts, which are the states ss but for the bits of a NaN. -/
def cV (s : CW) : Value := .complex .f64 s.1 s.2
structure StRow (w : World) (g n : Nat) (ss : List CW) (ts : List CW) : Prop where
  row : w.rowIs g 33 n (fun i => cV (sAt ts i))
  len : ts.length = n
  ali : ∀ i, i < n → AliS (sAt ts i) (sAt ss i)

theorem getD_setC {ts : List CW} {k i : Nat} {s : CW} (hk : k < ts.length) : sAt (ts.set k s) i = if i = k then s else sAt ts i := by
  unfold sAt
  simp only [List.getD, List.getElem?_set]
  by_cases e : i = k
  · subst e; simp [hk]
  · rw [if_neg (fun h => e h.symm), if_neg e]
/-- A row of states where the first j have made a step. -/
structure StMid (w : World) (g : Nat) (ms : List DW) (ss : List CW) (x j : Nat) (ts : List CW) : Prop where
  row : w.rowIs g 33 ms.length (fun i => cV (sAt ts i))
  len : ts.length = ms.length
  ali : ∀ i, i < ms.length → AliS (sAt ts i) (if i < j then stepD (dAt ms i) (sAt ss i) x else sAt ss i)
theorem StMid.drewN {w : World} {g : Nat} {ms : List DW} {ss : List CW} {x j : Nat} {ts : List CW} (h : StMid w g ms ss x j ts) (n : Nat) : StMid (w.drewN n) g ms ss x j ts := ⟨h.row, h.len, h.ali⟩
theorem grown_setG {w w' : World} {g k : Nat} {v : Value} (h : w.grownBy w' (some g)) : w.grownBy (w'.setCell ⟨g, k, none⟩ v) (some g) :=
  ⟨h.os, h.tape, h.output, by simpa using h.size, fun i hi hn => (Below.heap_setCell _ _ _ _ (by show i ≠ g; intro e; subst e; exact hn rfl)).trans (h.block i hi hn)⟩
theorem StMid.step {w w' : World} {g : Nat} {ms : List DW} {ss : List CW} {x j : Nat} {ts : List CW} {s : CW} (h : StMid w g ms ss x j ts) (hj : j < ms.length) (hs : AliS s (stepD (dAt ms j) (sAt ss j) x))
    (hw : w'.rowIs g 33 ms.length (fun i => if i = j then cV s else cV (sAt ts i))) : StMid w' g ms ss x (j + 1) (ts.set j s) := by
  refine ⟨hw.congr fun i _ => ?_, by simpa using h.len, fun i hi => ?_⟩
  · rw [getD_setC (by rw [h.len]; exact hj)]; split <;> rfl
  · rw [getD_setC (by rw [h.len]; exact hj)]
    by_cases e : i = j
    · subst e; rw [if_pos rfl, if_pos (by omega)]; exact hs
    · rw [if_neg e]
      have := h.ali i hi
      by_cases e' : i < j
      · rw [if_pos (by omega)]; rwa [if_pos e'] at this
      · rw [if_neg (by omega)]; rwa [if_neg e'] at this

set_option maxHeartbeats 400000 in
theorem implAddD_any (a b c d : Nat) (w : World) : Calls Try.prog 96 #[.complex .f64 a b, .complex .f64 c d] w fun e w' => ∃ p q n, e = .returned (.complex .f64 p q) ∧ nrm .f64 p = nrm .f64 (fo .add .f64 a c) ∧ nrm .f64 q = nrm .f64 (fo .add .f64 b d) ∧ wfk .f64 p ∧ wfk .f64 q ∧ w.drewN n = w' := by
  go_enter Try.func96, Try.ntmps96
  go_wp2_with fail
  go_ret
  exact ⟨_, _, _, rfl, fRo rfl rfl _, fRo rfl rfl _, fR_lt _ _ _ _ _, fR_lt _ _ _ _ _, rfl⟩
theorem f64_info' : (Try.prog.info? 30).map (fun i => (i.zero, i.size, i.bytes)) = some (some (.float .f64 0), 1, 8) := by kernel_rfl

set_option maxRecDepth 100000 in
set_option maxHeartbeats 2000000 in
theorem ring_any (A : Option Addr) (c lo hi : Nat) (ds : List DW) (pb : Nat) (X : Nat → Nat) (n : Nat) (w : World) (h : OwnD w lo hi A c ds) (hh : hi ≤ w.heap.size) (hl : ds.length ≤ 16) (hn : n ≤ 2000)
    (hin : ∀ (i : Nat) (W : World), i < n → Below w.heap.size w W → Calls Try.prog 116 #[.int .i64 i, .pointer (some ⟨pb, 0, none⟩)] W fun e w' => ∃ x m, e = .returned (.float .f64 x) ∧ nrm .f64 x = nrm .f64 (X i) ∧ W.drewN m = w') :
    Calls Try.prog 113 #[.slice A ds.length c, .func (.func 116) #[] #[.pointer (some ⟨pb, 0, none⟩)], .int .i64 n] w fun e w' => ∃ (A' : Option Addr) (c' : Nat) (ys : List Nat), e = .returned (.slice A' ys.length c') ∧
      w'.ownsRow w.heap.size 30 1 (.slice A' ys.length c') ys.length (f64s ys) ∧ RungD ds X ys n ∧ Below w.heap.size w w' := by
  have H0 := Lib.hid h
  have HIN := Lib.hid hin
  clear h hin
  have hmk := fun W => run_make_row' (P := Try.prog) 36 33 (.complex .f64 0 0) 16 Try.underlying36 c128_info rfl .i64 .i64 ds.length (by omega) (by omega) W
  have S0 : Hid (StRow ((w.alloc (.cells (madeCells #[.complex .f64 0 0] ds.length) 33)).alloc (.cells #[] 30)) w.heap.size ds.length (stD ds X 0) (List.replicate ds.length (0, 0))) :=
    ⟨((World.rowIs_made w (.complex .f64 0 0) ds.length 33).alloc _).congr fun i hi => by simp [sAt, cV, List.getD, hi], by simp, fun i hi => by simp [stD, AliS]⟩
  have hz1 : (w.alloc (.cells (madeCells #[.complex .f64 0 0] ds.length) 33)).heap.size = w.heap.size + 1 := by simp
  have hz2 : ((w.alloc (.cells (madeCells #[.complex .f64 0 0] ds.length) 33)).alloc (.cells #[] 30)).heap.size = w.heap.size + 2 := by simp
  have own0 : ((w.alloc (.cells (madeCells #[.complex .f64 0 0] ds.length) 33)).alloc (.cells #[] 30)).ownsRow (w.heap.size + 1) 30 1 (.slice (some ⟨w.heap.size + 1, 0, none⟩) 0 0) 0 (f64s []) := by
    have := owns_empty (w.alloc (.cells (madeCells #[.complex .f64 0 0] ds.length) 33)) 30
    rw [hz1] at this; exact this
  have B0 : Hid (Below w.heap.size w ((w.alloc (.cells (madeCells #[.complex .f64 0 0] ds.length) 33)).alloc (.cells #[] 30))) := ((Below.refl w.heap.size w).alloc (Nat.le_refl _) _).alloc (by rw [hz1]; omega) _
  go_enter Try.func113, Try.ntmps113
  go_wp2_with fail
  generalize (w.alloc (.cells (madeCells #[.complex .f64 0 0] ds.length) 33)).alloc (.cells #[] 30) = W2 at *
  clear hz1
  go_loopw [8, 19] (fun v i wr => ∃ (k : Nat) (ys : List Nat) (ts : List CW), i = .int .i64 (k : Int) ∧ k ≤ n ∧ wr.ownsRow (w.heap.size + 1) 30 1 v k (f64s ys) ∧ Hid (RungD ds X ys k) ∧ Hid (StRow wr w.heap.size ds.length (stD ds X k) ts) ∧
    Hid (Below w.heap.size w wr) ∧ w.heap.size + 2 ≤ wr.heap.size) (fun _ i _ => n - (intOf i).toNat)
  case atStart => exact ⟨0, [], _, rfl, by omega, own0, ⟨rfl, fun i hi => absurd hi (Nat.not_lt_zero _)⟩, S0.out, B0.out, by omega⟩
  case round =>
    clear own0 S0 B0
    obtain ⟨k, ys, ts, rfl, hk, hown, hrg, hst, hbel, hgs⟩ := hrel
    obtain ⟨wo, hwo⟩ : ∃ wo, wo = wr := ⟨_, rfl⟩
    subst hwo
    by_cases hlt : k < n
    · go_wp2_with fail
      refine (HIN.out k wo hlt hbel.out).mono ?_
      rintro e w' ⟨x, mx, rfl, hx, rfl⟩
      have HX := Lib.hid hx
      clear hx
      have hst1 : StMid (wo.drewN mx) w.heap.size ds (stD ds X k) (X k) 0 ts := ⟨hst.out.row, hst.out.len, fun i hi => by rw [if_neg (by omega)]; exact hst.out.ali i hi⟩
      have HM := Lib.hid hst1
      have Hown := Lib.hid hown
      clear hst1 hst hown
      go_wp2_with fail
      go_loopw [11, 27] (fun sm i w3 => ∃ (j r : Nat) (ts : List CW), i = .int .i64 (j : Int) ∧ j ≤ ds.length ∧ sm = .float .f64 r ∧ Hid (nrm .f64 r = outD ds (stD ds X k) (X k) j ∧ wfk .f64 r) ∧ Hid (StMid w3 w.heap.size ds (stD ds X k) (X k) j ts) ∧
        Hid (wo.grownBy w3 (some w.heap.size))) (fun _ i _ => ds.length - (intOf i).toNat)
      case atStart => exact ⟨0, 0, ts, rfl, by omega, rfl, ⟨nrm_of_num (by decide +kernel), by rw [wfk_64]; omega⟩, HM.out, rfl, rfl, rfl, Nat.le_refl _, fun _ _ _ => rfl⟩
      case round =>
        clear HM
        obtain ⟨j, r, ts, rfl, hj, rfl, hr, hM, hG⟩ := hrel
        by_cases hlj : j < ds.length
        · have hG1 := hG.out
          have hgs1 : w.heap.size + 2 ≤ wr.heap.size := Nat.le_trans hgs hG1.size
          have HD1 : OwnD wr lo hi A c ds := (H0.out.below hbel.out hh).keep fun q _ hq => hG1.block q (by omega) (by intro e; injection e with e; omega)
          obtain ⟨b, rfl, hb1, hb2, hlc, hmx, hcell⟩ := HD1.cells (by omega)
          obtain ⟨e1, e2⟩ := hcell j hlj
          have e3 : wr.cell? ⟨w.heap.size, j, none⟩ = some (.complex .f64 (sAt ts j).1 (sAt ts j).2) := hM.out.row.cell hlj
          have e1' : wr.cell? ⟨b, j * 2, none⟩ = some (.complex .f64 (dAt ds j).1 (dAt ds j).2.1) := e1
          have e2' : wr.cell? ⟨b, j * 2 + 1, none⟩ = some (.complex .f64 (dAt ds j).2.2.1 (dAt ds j).2.2.2) := e2
          have hA0 : AliS (sAt ts j) (sAt (stD ds X k) j) := by have := hM.out.ali j hlj; rwa [if_neg (by omega)] at this
          have HS : Hid (∀ p q p2 q2 p3 q3, nrm .f64 p = nrm .f64 (mulRe (sAt ts j).1 (sAt ts j).2 (dAt ds j).1 (dAt ds j).2.1) ∧ nrm .f64 q = nrm .f64 (mulIm (sAt ts j).1 (sAt ts j).2 (dAt ds j).1 (dAt ds j).2.1) →
              nrm .f64 p2 = fo .mul .f64 (dAt ds j).2.2.1 x ∧ nrm .f64 q2 = fo .mul .f64 (dAt ds j).2.2.2 x → nrm .f64 p3 = nrm .f64 (fo .add .f64 p p2) ∧ nrm .f64 q3 = nrm .f64 (fo .add .f64 q q2) → AliS (p3, q3) (stepD (dAt ds j) (sAt (stD ds X k) j) (X k))) := fun p q p2 q2 p3 q3 h1 h2 h3 =>
            step_ali hA0 HX.out h1 (by rw [nrm_fo, nrm_fo]; exact h2) h3
          have HO : Hid (outD ds (stD ds X k) (X k) (j + 1) = fo .add .f64 (outD ds (stD ds X k) (X k) j) (stepD (dAt ds j) (sAt (stD ds X k) j) (X k)).1) := rfl
          clear e1 e2 hcell hA0
          obtain ⟨a, ha⟩ : ∃ a, (dAt ds j).1 = a := ⟨_, rfl⟩
          obtain ⟨b0, hb⟩ : ∃ b, (dAt ds j).2.1 = b := ⟨_, rfl⟩
          obtain ⟨c0, hc⟩ : ∃ c, (dAt ds j).2.2.1 = c := ⟨_, rfl⟩
          obtain ⟨d0, hd⟩ : ∃ d, (dAt ds j).2.2.2 = d := ⟨_, rfl⟩
          obtain ⟨s1, hs1⟩ : ∃ s, (sAt ts j).1 = s := ⟨_, rfl⟩
          obtain ⟨s2, hs2⟩ : ∃ s, (sAt ts j).2 = s := ⟨_, rfl⟩
          rw [ha, hb] at e1' HS
          rw [hc, hd] at e2' HS
          rw [hs1, hs2] at e3 HS
          clear ha hb hc hd hs1 hs2
          have R1 : Hid (∀ m, ((wr.alloc (.cells #[.complex .f64 a b0, .complex .f64 c0 d0] 131)).drewN m).rowIs w.heap.size 33 ds.length (fun i => cV (sAt ts i))) := fun m => hM.out.row.alloc _
          have G1 : Hid (∀ m, wo.grownBy ((wr.alloc (.cells #[.complex .f64 a b0, .complex .f64 c0 d0] 131)).drewN m) (some w.heap.size)) := fun m => ⟨hG1.os, hG1.tape, hG1.output, by have := hG1.size; show wo.heap.size ≤ (wr.alloc _).heap.size; simp; omega, fun i hi hne => (Below.heap_alloc wr _ i (Nat.lt_of_lt_of_le hi hG1.size)).trans (hG1.block i hi hne)⟩
          have hmB : (wr.alloc (.cells #[.complex .f64 a b0, .complex .f64 c0 d0] 131)).heap[wr.heap.size]? = some (.cells #[.complex .f64 a b0, .complex .f64 c0 d0] 131 (0, 0)) := heap_alloc_new wr _
          have HLEN := Lib.hid hM.out.len
          go_wp2_with fail
          have m0 := cell_of_row _ wr.heap.size 0 _ _ (0, 0) hmB
          have m1 := cell_of_row _ wr.heap.size 1 _ _ (0, 0) hmB
          simp only [List.getElem?_toArray, List.getElem?_cons_zero, List.getElem?_cons_succ] at m0 m1
          have s0 : (wr.alloc (.cells #[.complex .f64 a b0, .complex .f64 c0 d0] 131)).cell? ⟨w.heap.size, j, none⟩ = some (.complex .f64 s1 s2) := (World.cell?_of_block (Below.heap_alloc wr _ w.heap.size (by omega))).trans e3
          have f0 : (wr.alloc (.cells #[.complex .f64 a b0, .complex .f64 c0 d0] 131)).frozen? ⟨w.heap.size, j, none⟩ = false := (R1.out 0).frozen j
          have c6 : ∀ m v, (((wr.alloc (.cells #[.complex .f64 a b0, .complex .f64 c0 d0] 131)).drewN m).setCell ⟨w.heap.size, j, none⟩ v).cell? ⟨w.heap.size, j, none⟩ = some v := fun m v => by
            have := ((R1.out m).set j v).cell hlj
            simpa using this
          generalize wr.alloc (.cells #[.complex .f64 a b0, .complex .f64 c0 d0] 131) = Wa at *
          generalize wr.heap.size = mb at *
          clear e1' e2' e3 hmB hG1 HD1
          go_region_with (first
            | (go_at_call 79
               refine (implTimes_any s1 s2 a b0 _).mono ?_
               rintro e w' ⟨p, q, n1, rfl, hp, hq, _, _, rfl⟩
               have HP := Lib.hid (And.intro hp hq)
               clear hp hq)
            | (go_at_call 29
               refine (scale_any c0 d0 x _).mono ?_
               rintro e w' ⟨p2, q2, n2, rfl, hp, hq, _, _, rfl⟩
               have HP2 := Lib.hid (And.intro hp hq)
               clear hp hq)
            | (go_at_call 96
               refine (implAddD_any p q p2 q2 _).mono ?_
               rintro e w' ⟨p3, q3, n3, rfl, hp, hq, hw1, hw2, rfl⟩
               have HP3 := Lib.hid (And.intro (HS.out p q p2 q2 p3 q3 HP.out HP2.out (And.intro hp hq)) (And.intro hw1 hw2))
               clear hp hq hw1 hw2))
          all_goals
            go_wp2_with fail
            go_roundw
            case rel =>
              refine ⟨j + 1, _, _, by go_num, by omega, rfl, ⟨?_, fR_lt _ _ _ _ _⟩, (hM.out.step hlj HP3.out.1 ((R1.out _).set j _)).drewN _, grown_drewN (grown_setG (G1.out _)) _⟩
              rw [nrm_fR, HO.out]
              exact fo_congr (by rw [hr.out.1, nrm_outD]) HP3.out.1.1
            case measure => simp [intOf]; omega
        · have hkj : ds.length = j := by omega
          subst hkj
          have hG1 := hG.out
          have hgs1 : w.heap.size + 2 ≤ wr.heap.size := Nat.le_trans hgs hG1.size
          have hown3 : wr.ownsRow (w.heap.size + 1) 30 1 u8 k (f64s ys) := owns_keep Hown.out fun j h1 h2 => hG1.block j h2 (by intro e; injection e with e; omega)
          have HR := Lib.hid (rungD_snoc hrg.out hr.out.1 hr.out.2)
          have HST : Hid (StRow wr w.heap.size ds.length (stD ds X (k + 1)) ts) := ⟨hM.out.row, hM.out.len, fun i hi => by
            have := hM.out.ali i hi
            rw [if_pos hi] at this
            rw [show sAt (stD ds X (k + 1)) i = stepD (dAt ds i) (sAt (stD ds X k) i) (X k) from nextD_at (by rw [stD_len]; exact hi)]
            exact this⟩
          have B3 : Hid (Below w.heap.size w wr) := ⟨hG1.os.trans hbel.out.os, hG1.tape.trans hbel.out.tape, hG1.output.trans hbel.out.output, Nat.le_trans hbel.out.size hG1.size, fun q hq => (hG1.block q (by have := hbel.out.size; omega) (by intro e; injection e with e; omega)).trans (hbel.out.block q hq)⟩
          have hgs3 : w.heap.size + 1 ≤ wr.heap.size := by omega
          clear Hown hr hM hG hG1
          go_wp2_with (at_builtin; refine wpList_app1 rfl (.tmp 55) (.tmp 57) 87 rfl (w.heap.size + 1) 30 (.float .f64 0) 8 Try.underlying87 f64_info' rfl u8 k (f64s ys) _ rfl rfl rfl hown3 hgs3 (by omega) (by omega) ?_; intro v' w4 hown4 hbel4)
          go_roundw
          case rel =>
            refine ⟨k + 1, ys ++ [r], ts, by go_num, by omega, by simpa [f64s] using hown4, HR.out, ⟨HST.out.row.of_block (hbel4.block _ (by omega)), HST.out.len, HST.out.ali⟩, B3.out.trans (hbel4.mono (by omega)), ?_⟩
            have := own_size hown4; omega
          case measure => simp [intOf]; omega
    · have hkn : n = k := by omega
      subst hkn
      go_wp2_with fail
      go_ret
      obtain ⟨A', cap, hv, hl', hrd⟩ := own_rd hown
      subst hv
      have e := hrg.out.1
      exact ⟨A', cap, ys, by rw [e]; rfl, by rw [e]; exact owns_low hown (by omega), hrg.out, hbel.out⟩
end Go.Proofs.Ytignncjmbcdpaaa

/-
Small inputs: no step overflows. (Plain arithmetic.)
-/
namespace Go.Proofs.Ytignncjmbcdpaaa
open Go Go.RowKit Ieee

def pw3 (i : Nat) : Rat := 2 ^ 14 * ((3 ^ i : Nat) : Rat)
theorem pw3_succ (i : Nat) : pw3 i * 3 = pw3 (i + 1) := by
  unfold pw3
  rw [Nat.pow_succ, Rat.natCast_mul]
  have : ((3 : Nat) : Rat) = 3 := by simp
  rw [this]; grind
theorem pw3_lo (i : Nat) : 2 ^ 14 ≤ pw3 i := by
  have h : 1 ≤ 3 ^ i := Nat.one_le_pow _ _ (by decide)
  have := Rat.natCast_le_natCast.2 h
  have e : ((1 : Nat) : Rat) = 1 := by simp
  rw [e] at this
  unfold pw3; grind
theorem pw3_hi (i : Nat) (h : i ≤ 61) : pw3 i ≤ 2 ^ 112 := by
  have h1 : 3 ^ i ≤ 3 ^ 61 := Nat.pow_le_pow_right (by decide) h
  have h2 : 3 ^ 61 ≤ 2 ^ 97 := by decide
  have h3 := Rat.natCast_le_natCast.2 (Nat.le_trans h1 h2)
  have e : ((2 ^ 97 : Nat) : Rat) = 2 ^ 97 := by simp; grind
  rw [e] at h3
  unfold pw3; grind
theorem zero_ok {L : Rat} (hL : 0 ≤ L) : StOk L (0, 0) := by
  obtain ⟨z1, z2⟩ := zero_fin .f32
  exact ⟨z1, z1, by rw [wfk_32]; omega, by rw [wfk_32]; omega, by rw [z2, ab_of_nonneg Rat.le_refl]; exact hL, by rw [z2, ab_of_nonneg Rat.le_refl]; exact hL⟩
/-- Inputs that are finite and at most 8. -/
def Low (xs : List Nat) : Prop := ∀ i, i < xs.length → fin .f32 (xs.getD i 0) ∧ ab (fv .f32 (xs.getD i 0)) ≤ 8
theorem Low.at_ {xs : List Nat} (h : Low xs) (i : Nat) : fin .f32 (inAt xs i) ∧ ab (fv .f32 (inAt xs i)) ≤ 8 := by
  unfold inAt
  split
  · exact h i ‹_›
  · obtain ⟨z1, z2⟩ := zero_fin .f32
    exact ⟨z1, by rw [z2, ab_of_nonneg Rat.le_refl]; grind⟩
theorem states_ok {ms : List MW} {xs : List Nat} (hm : ModesOk ms) (hx : Low xs) (i : Nat) (hi : i ≤ 61) : ∀ k, k < ms.length → StOk (pw3 i) (sAt (stAt ms xs i) k) := by
  induction i with
  | zero =>
    intro k hk
    have e : sAt (stAt ms xs 0) k = (0, 0) := by simp [stAt, sAt, List.getD, hk]
    rw [e]
    exact zero_ok (by have := pw3_lo 0; grind)
  | succ i ih =>
    intro k hk
    have h := ih (by omega) k hk
    have e : sAt (stAt ms xs (i + 1)) k = stepW (mAt ms k) (sAt (stAt ms xs i) k) (inAt xs i) := nextS_at (by rw [stAt_len]; exact hk)
    rw [e, ← pw3_succ]
    obtain ⟨x1, x2⟩ := hx.at_ i
    exact (step_ok (hm.at_ hk) h x1 x2 (pw3_lo i) (pw3_hi i (by omega))).1
theorem calm_of {ms : List MW} {xs : List Nat} (hm : ModesOk ms) (hx : Low xs) (n : Nat) (hn : n ≤ 61) : Calm ms xs n := fun i hi k hk => by
  obtain ⟨x1, x2⟩ := hx.at_ i
  exact (step_ok (hm.at_ hk) (states_ok hm hx i (by omega) k hk) x1 x2 (pw3_lo i) (pw3_hi i (by omega))).2
/-- What a body rings does not depend on how long it rings. -/
theorem rung_prefix {ms : List MW} {xs ys zs : List Nat} {n k : Nat} (hy : Rung ms xs ys n) (hz : Rung ms xs zs k) (hk : k ≤ n) : ∀ i, i < k → sameB .f32 (zs.getD i 0) (ys.getD i 0) = true := fun i hi => by
  unfold sameB
  rw [(hy.2 i (by omega)).1, (hz.2 i hi).1]
  simp
end Go.Proofs.Ytignncjmbcdpaaa

/-
A late input rings late, in equal numbers. (Plain arithmetic.)
-/
namespace Go.Proofs.Ytignncjmbcdpaaa
open Go Ieee

def EqvS (s t : Nat × Nat) : Prop := Eqv .f32 s.1 t.1 ∧ Eqv .f32 s.2 t.2
theorem prod_top {x y L : Rat} (hx : ab x ≤ L) (hy : ab y ≤ 1 + 1 / 2 ^ 40) (hL : 1 ≤ L) (hL2 : L ≤ 2 ^ 112) : ab (x * y) ≤ top .f64 := by
  have ht := top210
  rw [ab_mul]
  have h1 := Rat.mul_le_mul_of_nonneg_left hy (ab_nonneg x)
  grind
theorem sub_top {x y L : Rat} (hx : ab x ≤ L * (1 + 1 / 2 ^ 30)) (hy : ab y ≤ L * (1 + 1 / 2 ^ 30)) (hL : 1 ≤ L) (hL2 : L ≤ 2 ^ 112) : ab (x - y) ≤ top .f64 ∧ ab (x + y) ≤ top .f64 := by
  have ht := top210
  obtain ⟨x1, x2⟩ := le_ab x
  obtain ⟨y1, y2⟩ := le_ab y
  exact ⟨ab_le (by grind) (by grind), ab_le (by grind) (by grind)⟩
theorem times_eqv {a b c d a' b' : Nat} {L : Rat} (W : World) (ha : Eqv .f32 a a') (hb : Eqv .f32 b b') (fc : fin .f32 c) (fd : fin .f32 d) (wc : wfk .f32 c) (wd : wfk .f32 d) (la : ab (fv .f32 a) ≤ L) (lb : ab (fv .f32 b) ≤ L) (hL : 1 ≤ L) (hL2 : L ≤ 2 ^ 112)
    (hc : ab (fv .f32 c) ≤ 1 + 1 / 2 ^ 40) (hd : ab (fv .f32 d) ≤ 1 + 1 / 2 ^ 40) : Eqv .f32 (sRe a b c d) (sRe a' b' c d) ∧ Eqv .f32 (sIm a b c d) (sIm a' b' c d) := by
  obtain ⟨M, _, _, _, _⟩ := wide_mild ha.fa hb.fa fc fd la lb hL hL2 hc hd
  have A := ha.wid
  have B := hb.wid
  have C := (Eqv.refl fc wc).wid
  have D := (Eqv.refl fd wd).wid
  have la' : ab (fv .f64 (wid a)) ≤ L := by rw [(wid_fin ha.fa).2]; exact la
  have lb' : ab (fv .f64 (wid b)) ≤ L := by rw [(wid_fin hb.fa).2]; exact lb
  have hc' : ab (fv .f64 (wid c)) ≤ 1 + 1 / 2 ^ 40 := by rw [(wid_fin fc).2]; exact hc
  have hd' : ab (fv .f64 (wid d)) ≤ 1 + 1 / 2 ^ 40 := by rw [(wid_fin fd).2]; exact hd
  have P1 := A.mul C (prod_top la' hc' hL hL2)
  have P2 := B.mul D (prod_top lb' hd' hL hL2)
  have P3 := A.mul D (prod_top la' hd' hL hL2)
  have P4 := B.mul C (prod_top lb' hc' hL hL2)
  have e1 := (part_mul A.fa C.fa la' hL hL2 hc').2
  have e2 := (part_mul B.fa D.fa lb' hL hL2 hd').2
  have e3 := (part_mul A.fa D.fa la' hL hL2 hd').2
  have e4 := (part_mul B.fa C.fa lb' hL hL2 hc').2
  exact ⟨(P1.sub P2 (sub_top e1 e2 hL hL2).1).nar M.tr W, (P3.add P4 (sub_top e3 e4 hL hL2).2).nar M.ti W⟩
theorem pole_le {m : MW} (hm : ModeOk m.1 m.2.1 m.2.2.1 m.2.2.2) : ab (fv .f32 m.1) ≤ 1 + 1 / 2 ^ 40 ∧ ab (fv .f32 m.2.1) ≤ 1 + 1 / 2 ^ 40 := by
  have hsq := hm.square
  have q1 := sq_nonneg (fv .f32 m.1)
  have q2 := sq_nonneg (fv .f32 m.2.1)
  exact ⟨ab_le_of_sq (by grind) (by grind), ab_le_of_sq (by grind) (by grind)⟩
theorem add_top {s g : Nat} {L : Rat} (hs : ab (fv .f32 s) ≤ L * (9 / 4)) (hg : ab (fv .f32 g) ≤ 8193) (hL : 2 ^ 14 ≤ L) (hL2 : L ≤ 2 ^ 112) : ab (fv .f32 s + fv .f32 g) ≤ top .f32 := by
  have ht2 := top32
  have g1 := ab_add (fv .f32 s) (fv .f32 g)
  grind
theorem gain_part {g x : Nat} (fg : fin .f32 g) (fx : fin .f32 x) (hg : ab (fv .f32 g) ≤ 1024) (hx : ab (fv .f32 x) ≤ 8) : ab (fv .f32 (fo .mul .f32 g x)) ≤ 8193 := by
  obtain ⟨u1, u2, _⟩ := consts32
  have ht2 := top32
  have n1 := ab_nonneg (fv .f32 g)
  have h1 := Rat.mul_le_mul_of_nonneg_left hx n1
  have h2 : ab (fv .f32 g * fv .f32 x) ≤ 8192 := by rw [ab_mul]; grind
  have hm := mul_spec fg fx (by grind)
  have e := hm.2.1
  rw [u1] at e
  have t := ab_tri (fv .f32 (fo .mul .f32 g x)) (fv .f32 g * fv .f32 x)
  grind
theorem step_eqv {m : MW} {s t : Nat × Nat} {x : Nat} {L : Rat} (W : World) (hm : ModeOk m.1 m.2.1 m.2.2.1 m.2.2.2) (hs : StOk L s) (h : EqvS s t) (fx : fin .f32 x) (hx : ab (fv .f32 x) ≤ 8) (hL : 2 ^ 14 ≤ L) (hL2 : L ≤ 2 ^ 112) :
    EqvS (stepW m s x) (stepW m t x) := by
  obtain ⟨p1, p2⟩ := pole_le hm
  obtain ⟨_, n1, n2, c1, c2⟩ := wide_mild hs.f1 hs.f2 (fin_of_wid hm.fa) (fin_of_wid hm.fb) hs.b1 hs.b2 (by grind) hL2 p1 p2
  have S := (step_ok hm hs fx hx hL hL2).2
  obtain ⟨e1, e2⟩ := times_eqv W h.1 h.2 (fin_of_wid hm.fa) (fin_of_wid hm.fb) hm.wa hm.wb hs.b1 hs.b2 (by grind) hL2 p1 p2
  have g1 := gain_part (fin_of_wid hm.fc) fx (gain_le hm.fc hm.gain.1) hx
  have g2 := gain_part (fin_of_wid hm.fd) fx (gain_le hm.fd hm.gain.2) hx
  exact ⟨e1.add (Eqv.refl S.g1 (fo_lt _ _ _ _)) (add_top c1 g1 hL hL2), e2.add (Eqv.refl S.g2 (fo_lt _ _ _ _)) (add_top c2 g2 hL hL2)⟩

/-- A state of zeros stays so without an input. -/
theorem rest_eqv {m : MW} (W : World) (hm : ModeOk m.1 m.2.1 m.2.2.1 m.2.2.2) : EqvS (stepW m (0, 0) 0) (0, 0) := by
  obtain ⟨z1, z2⟩ := zero_fin .f32
  have z3 : ab (fv .f32 0) ≤ 8 := by rw [z2, ab_of_nonneg Rat.le_refl]; grind
  have hs : StOk (2 ^ 14) (0, 0) := zero_ok (by grind)
  obtain ⟨hs', S⟩ := step_ok hm hs z1 z3 (Rat.le_refl) (by grind)
  obtain ⟨p1, p2⟩ := pole_le hm
  obtain ⟨w1, w2⟩ := wid_fin z1
  rw [z2] at w2
  have fa := hm.fa
  have fb := hm.fb
  have zt : ab (0 : Rat) ≤ top .f64 := by rw [ab_of_nonneg Rat.le_refl]; exact top_pos _
  have zt2 : ab (0 : Rat) ≤ top .f32 := by rw [ab_of_nonneg Rat.le_refl]; exact top_pos _
  have mz : ∀ {c : Nat}, fin .f64 c → fin .f64 (fo .mul .f64 (wid 0) c) ∧ fv .f64 (fo .mul .f64 (wid 0) c) = 0 := fun {c} hc => by
    have e : fv .f64 (wid 0) * fv .f64 c = 0 := by rw [w2, Rat.zero_mul]
    have r := mul_spec w1 hc (by rw [e]; exact zt)
    exact ⟨r.1, round_zero r e⟩
  have re : fv .f64 (mulRe (wid 0) (wid 0) (wid m.1) (wid m.2.1)) = 0 := by
    have e : fv .f64 (fo .mul .f64 (wid 0) (wid m.1)) - fv .f64 (fo .mul .f64 (wid 0) (wid m.2.1)) = 0 := by rw [(mz fa).2, (mz fb).2]; grind
    exact round_zero (sub_spec (mz fa).1 (mz fb).1 (by rw [e]; exact zt)) e
  have im : fv .f64 (mulIm (wid 0) (wid 0) (wid m.1) (wid m.2.1)) = 0 := by
    have e : fv .f64 (fo .mul .f64 (wid 0) (wid m.2.1)) + fv .f64 (fo .mul .f64 (wid 0) (wid m.1)) = 0 := by rw [(mz fa).2, (mz fb).2]; grind
    exact round_zero (add_spec (mz fb).1 (mz fa).1 (by rw [e]; exact zt)) e
  have M := S.mild
  have R1 := (nar_ok M.fr M.tr).2
  have R2 := (nar_ok M.fi M.ti).2
  have v1 := round_zero R1 re
  have v2 := round_zero R2 im
  have g : ∀ {c : Nat}, fin .f32 c → fv .f32 (fo .mul .f32 c 0) = 0 := fun {c} hc => by
    have e : fv .f32 c * fv .f32 0 = 0 := by rw [z2, Rat.mul_zero]
    exact round_zero (mul_spec hc z1 (by rw [e]; exact zt2)) e
  have k1 : fv .f32 (stepW m (0, 0) 0).1 = 0 := by
    have e : fv .f32 (sRe 0 0 m.1 m.2.1) + fv .f32 (fo .mul .f32 m.2.2.1 0) = 0 := by
      rw [show fv .f32 (sRe 0 0 m.1 m.2.1) = 0 from v1, g (fin_of_wid hm.fc)]; grind
    exact round_zero (add_spec R1.1 S.g1 (by rw [e]; exact zt2)) e
  have k2 : fv .f32 (stepW m (0, 0) 0).2 = 0 := by
    have e : fv .f32 (sIm 0 0 m.1 m.2.1) + fv .f32 (fo .mul .f32 m.2.2.2 0) = 0 := by
      rw [show fv .f32 (sIm 0 0 m.1 m.2.1) = 0 from v2, g (fin_of_wid hm.fd)]; grind
    exact round_zero (add_spec R2.1 S.g2 (by rw [e]; exact zt2)) e
  exact ⟨⟨S.n1, z1, hs'.w1, by rw [wfk_32]; omega, by rw [k1, z2]⟩, ⟨S.n2, z1, hs'.w2, by rw [wfk_32]; omega, by rw [k2, z2]⟩⟩

theorem low_late {xs : List Nat} (h : Low xs) : Low (0 :: xs) := fun i hi => by
  cases i with
  | zero =>
    obtain ⟨z1, z2⟩ := zero_fin .f32
    exact ⟨z1, by show ab (fv .f32 0) ≤ 8; rw [z2, ab_of_nonneg Rat.le_refl]; grind⟩
  | succ i =>
    simp at hi
    have := h i hi
    simpa using this
theorem inAt_late (xs : List Nat) (i : Nat) : inAt (0 :: xs) (i + 1) = inAt xs i := by
  unfold inAt
  simp
theorem inAt_late0 (xs : List Nat) : inAt (0 :: xs) 0 = 0 := by unfold inAt; simp
theorem late_states {ms : List MW} {xs : List Nat} (W : World) (hm : ModesOk ms) (hx : Low xs) (i : Nat) (hi : i ≤ 60) : ∀ k, k < ms.length → EqvS (sAt (stAt ms (0 :: xs) (i + 1)) k) (sAt (stAt ms xs i) k) := by
  induction i with
  | zero =>
    intro k hk
    have e0 : sAt (stAt ms (0 :: xs) 0) k = (0, 0) := by simp [stAt, sAt, List.getD, hk]
    have e1 : sAt (stAt ms xs 0) k = (0, 0) := by simp [stAt, sAt, List.getD, hk]
    have e : sAt (stAt ms (0 :: xs) (0 + 1)) k = stepW (mAt ms k) (sAt (stAt ms (0 :: xs) 0) k) (inAt (0 :: xs) 0) := nextS_at (by rw [stAt_len]; exact hk)
    rw [e, e0, e1, inAt_late0]
    exact rest_eqv W (hm.at_ hk)
  | succ i ih =>
    intro k hk
    have h := ih (by omega) k hk
    have e : sAt (stAt ms (0 :: xs) (i + 1 + 1)) k = stepW (mAt ms k) (sAt (stAt ms (0 :: xs) (i + 1)) k) (inAt (0 :: xs) (i + 1)) := nextS_at (by rw [stAt_len]; exact hk)
    have e' : sAt (stAt ms xs (i + 1)) k = stepW (mAt ms k) (sAt (stAt ms xs i) k) (inAt xs i) := nextS_at (by rw [stAt_len]; exact hk)
    rw [e, e', inAt_late]
    obtain ⟨x1, x2⟩ := hx.at_ i
    exact step_eqv W (hm.at_ hk) (states_ok hm (low_late hx) (i + 1) (by omega) k hk) h x1 x2 (pw3_lo _) (pw3_hi _ (by omega))
theorem out_eqv {ms : List MW} {ss ts : List (Nat × Nat)} {x : Nat} (h : ∀ k, k < ms.length → EqvS (stepW (mAt ms k) (sAt ss k) x) (stepW (mAt ms k) (sAt ts k) x) ∧ ab (fv .f32 (stepW (mAt ms k) (sAt ss k) x).1) ≤ 2 ^ 114) (k : Nat) (hk : k ≤ ms.length) (h5 : k ≤ 5) :
    Eqv .f32 (outAt ms ss x k) (outAt ms ts x k) ∧ ab (fv .f32 (outAt ms ss x k)) ≤ (k : Rat) * 2 ^ 115 := by
  induction k with
  | zero =>
    obtain ⟨z1, z2⟩ := zero_fin .f32
    refine ⟨Eqv.refl z1 (by show (0 : Nat) < 4294967296; omega), ?_⟩
    show ab (fv .f32 0) ≤ _
    rw [z2, ab_of_nonneg Rat.le_refl]; simp
  | succ k ih =>
    obtain ⟨e, b⟩ := ih (by omega) (by omega)
    obtain ⟨hs, hb⟩ := h k (by omega)
    have hk5 : (k : Rat) ≤ 5 := by
      have := Rat.natCast_le_natCast.2 (show k ≤ 5 by omega)
      simpa using this
    have hk0 : (0 : Rat) ≤ (k : Rat) := Rat.natCast_nonneg
    have ht2 := top32
    obtain ⟨u1, u2, u3⟩ := consts32
    have t1 := ab_add (fv .f32 (outAt ms ss x k)) (fv .f32 (stepW (mAt ms k) (sAt ss k) x).1)
    have t2 : ab (fv .f32 (outAt ms ss x k) + fv .f32 (stepW (mAt ms k) (sAt ss k) x).1) ≤ top .f32 := by grind
    refine ⟨e.add hs.1 t2, ?_⟩
    have r := (add_spec e.fa hs.1.fa t2).2.1
    rw [u1] at r
    have t3 := ab_tri (fv .f32 (fo .add .f32 (outAt ms ss x k) (stepW (mAt ms k) (sAt ss k) x).1)) (fv .f32 (outAt ms ss x k) + fv .f32 (stepW (mAt ms k) (sAt ss k) x).1)
    have ec : ((k + 1 : Nat) : Rat) = (k : Rat) + 1 := by simp
    rw [ec]
    show ab (fv .f32 (fo .add .f32 (outAt ms ss x k) (stepW (mAt ms k) (sAt ss k) x).1)) ≤ _
    grind
/-- **A LATE INPUT RINGS LATE.** -/
theorem late_out {ms : List MW} {xs ys zs : List Nat} {n : Nat} (W : World) (hm : ModesOk ms) (h5 : ms.length ≤ 5) (hx : Low xs) (hn : n ≤ 60) (hy : Rung ms xs ys n) (hz : Rung ms (0 :: xs) zs (n + 1)) : ∀ i, i < n → feq .f32 (zs.getD (i + 1) 0) (ys.getD i 0) = true := fun i hi => by
  obtain ⟨x1, x2⟩ := hx.at_ i
  have hst := late_states W hm hx i (by omega)
  have key := out_eqv (ms := ms) (ss := stAt ms (0 :: xs) (i + 1)) (ts := stAt ms xs i) (x := inAt xs i) (fun k hk => by
    have s0 := states_ok hm (low_late hx) (i + 1) (by omega) k hk
    refine ⟨step_eqv W (hm.at_ hk) s0 (hst k hk) x1 x2 (pw3_lo _) (pw3_hi _ (by omega)), ?_⟩
    have b := (step_ok (hm.at_ hk) s0 x1 x2 (pw3_lo _) (pw3_hi _ (by omega))).1.b1
    have := pw3_hi (i + 1) (by omega)
    have b' : ab (fv .f32 (stepW (mAt ms k) (sAt (stAt ms (0 :: xs) (i + 1)) k) (inAt xs i)).1) ≤ pw3 (i + 1) * 3 := b
    grind) ms.length (Nat.le_refl _) h5
  have e1 := (hz.2 (i + 1) (by omega)).1
  have e2 := (hy.2 i hi).1
  rw [inAt_late] at e1
  have f1 := nrm_fin_eq e1 key.1.fa
  have f2 := nrm_fin_eq e2 key.1.fb
  rw [f1, f2]
  exact (feq_iff key.1.fa key.1.fb).2 key.1.v
end Go.Proofs.Ytignncjmbcdpaaa

/-
One step of a mode: the errors in single and in double precision. (Plain arithmetic.)
-/
namespace Go.Proofs.Ytignncjmbcdpaaa
open Go Ieee

/-- Two products, their sum, narrowed. -/
theorem err_nar {p q s r P Q S : Rat} (hp : ab (p - P) ≤ ab P / 2 ^ 53 + 1 / 2 ^ 200) (hq : ab (q - Q) ≤ ab Q / 2 ^ 53 + 1 / 2 ^ 200) (hs : ab (s - (p + q)) ≤ ab (p + q) / 2 ^ 53 + 1 / 2 ^ 200)
    (hr : ab (r - s) ≤ ab s / 2 ^ 24 + 1 / 2 ^ 149) (hS : ab P + ab Q ≤ S) : ab (r - (P + Q)) ≤ S / 2 ^ 24 + S / 2 ^ 40 + 1 / 2 ^ 147 := by
  have t1 := ab_tri p P
  have t2 := ab_tri q Q
  have t3 := ab_add p q
  have t4 := ab_tri s (p + q)
  have t5 := ab_add (r - s) (s - (p + q))
  have t6 := ab_add (r - (p + q)) ((p - P) + (q - Q))
  have t7 := ab_add (p - P) (q - Q)
  have e1 : r - s + (s - (p + q)) = r - (p + q) := by grind
  have e2 : r - (p + q) + ((p - P) + (q - Q)) = r - (P + Q) := by grind
  rw [e1] at t5
  rw [e2] at t6
  have n1 := ab_nonneg P
  have n2 := ab_nonneg Q
  clear e1 e2
  generalize ab (p - P) = x1 at *
  generalize ab (q - Q) = x2 at *
  generalize ab (s - (p + q)) = x3 at *
  generalize ab (r - s) = x4 at *
  generalize ab (r - (p + q)) = x5 at *
  generalize ab (p - P + (q - Q)) = x6 at *
  generalize ab (r - (P + Q)) = x7 at *
  generalize ab (p + q) = x8 at *
  generalize ab p = x9 at *
  generalize ab q = x10 at *
  generalize ab s = x11 at *
  generalize ab P = x12 at *
  generalize ab Q = x13 at *
  grind
/-- Two products and their sum. -/
theorem err_dbl {p q s P Q S : Rat} (hp : ab (p - P) ≤ ab P / 2 ^ 53 + 1 / 2 ^ 200) (hq : ab (q - Q) ≤ ab Q / 2 ^ 53 + 1 / 2 ^ 200) (hs : ab (s - (p + q)) ≤ ab (p + q) / 2 ^ 53 + 1 / 2 ^ 200)
    (hS : ab P + ab Q ≤ S) : ab (s - (P + Q)) ≤ S / 2 ^ 51 + 1 / 2 ^ 197 := by
  have t1 := ab_tri p P
  have t2 := ab_tri q Q
  have t3 := ab_add p q
  have t6 := ab_add (s - (p + q)) ((p - P) + (q - Q))
  have t7 := ab_add (p - P) (q - Q)
  have e2 : s - (p + q) + ((p - P) + (q - Q)) = s - (P + Q) := by grind
  rw [e2] at t6
  have n1 := ab_nonneg P
  have n2 := ab_nonneg Q
  clear e2
  generalize ab (p - P) = x1 at *
  generalize ab (q - Q) = x2 at *
  generalize ab (s - (p + q)) = x3 at *
  generalize ab (p - P + (q - Q)) = x6 at *
  generalize ab (s - (P + Q)) = x7 at *
  generalize ab (p + q) = x8 at *
  generalize ab p = x9 at *
  generalize ab q = x10 at *
  generalize ab P = x12 at *
  generalize ab Q = x13 at *
  grind
/-- A part and a gain's part times an input, added. -/
theorem err_add {r g z V G S W μ τ : Rat} (hμ : 0 ≤ μ) (hμ1 : μ ≤ 1 / 2 ^ 24) (hτ : 0 ≤ τ) (hr : ab (r - V) ≤ S * μ + S / 2 ^ 16 * μ + τ * 4) (hV : ab V ≤ S) (hg : ab (g - G) ≤ μ * ab G + τ) (hG : ab G ≤ W) (hz : ab (z - (r + g)) ≤ μ * ab (r + g) + τ) (hS : 0 ≤ S) (hτ1 : τ ≤ 1) :
    ab (z - (V + G)) ≤ (S + W) * μ * 3 + τ * 8 := by
  have t1 := ab_tri r V
  have t2 := ab_tri g G
  have t3 := ab_add r g
  have t4 := ab_add (z - (r + g)) ((r - V) + (g - G))
  have t5 := ab_add (r - V) (g - G)
  have e : z - (r + g) + ((r - V) + (g - G)) = z - (V + G) := by grind
  rw [e] at t4
  clear e
  have n1 := ab_nonneg V
  have n2 := ab_nonneg G
  have n3 := ab_nonneg (r + g)
  generalize ab (r - V) = x1 at *
  generalize ab (g - G) = x2 at *
  generalize ab (z - (r + g)) = x3 at *
  generalize ab (r - V + (g - G)) = x4 at *
  generalize ab (z - (V + G)) = x5 at *
  generalize ab (r + g) = x6 at *
  generalize ab r = x7 at *
  generalize ab g = x8 at *
  generalize ab V = x9 at *
  generalize ab G = x10 at *
  have hW : 0 ≤ W := by grind
  have m1 := Rat.mul_nonneg hμ hS
  have m2 := Rat.mul_nonneg hμ hW
  have m3 : x6 ≤ S + W + (S * μ + S / 2 ^ 16 * μ + τ * 4) + (μ * x10 + τ) := by grind
  have m4 : μ * x10 ≤ μ * W := Rat.mul_le_mul_of_nonneg_left hG hμ
  have m5 := Rat.mul_le_mul_of_nonneg_left m3 hμ
  have m6 : μ * (μ * S) ≤ μ * S / 2 ^ 24 := by
    have := Rat.mul_le_mul_of_nonneg_right hμ1 m1
    grind
  have m7 : μ * (μ * W) ≤ μ * W / 2 ^ 24 := by
    have := Rat.mul_le_mul_of_nonneg_right hμ1 m2
    grind
  have m8 : μ * τ ≤ τ / 2 ^ 24 := by
    have := Rat.mul_le_mul_of_nonneg_right hμ1 hτ
    grind
  have m9 : μ * (μ * x10) ≤ μ * (μ * W) := Rat.mul_le_mul_of_nonneg_left m4 hμ
  grind
end Go.Proofs.Ytignncjmbcdpaaa

/-
One step of a mode against the exact one. (Plain arithmetic.)
-/
namespace Go.Proofs.Ytignncjmbcdpaaa
open Go Ieee

theorem ModeOk.ball {m : MW} (hm : ModeOk m.1 m.2.1 m.2.2.1 m.2.2.2) : B2 (fv .f32 m.1) (fv .f32 m.2.1) rho := B2.pole hm.square
/-- The size of a mode's gain. -/
def gam (m : MW) : Rat := ab (fv .f32 m.2.2.1) + ab (fv .f32 m.2.2.2)
theorem gam_nonneg (m : MW) : 0 ≤ gam m := by
  have := ab_nonneg (fv .f32 m.2.2.1)
  have := ab_nonneg (fv .f32 m.2.2.2)
  unfold gam; grind
/-- The exact step. -/
def exRe (m : MW) (A B x : Rat) : Rat := A * fv .f32 m.1 - B * fv .f32 m.2.1 + fv .f32 m.2.2.1 * x
def exIm (m : MW) (A B x : Rat) : Rat := A * fv .f32 m.2.1 + B * fv .f32 m.1 + fv .f32 m.2.2.2 * x
theorem ex_ball {m : MW} (hm : ModeOk m.1 m.2.1 m.2.2.1 m.2.2.2) {A B R x : Rat} (h : B2 A B R) : B2 (exRe m A B x) (exIm m A B x) (R * rho + gam m * ab x) :=
  (h.mul hm.ball).add ((B2.l1 _ _).scale x)

theorem gain_err {g x : Nat} (fg : fin .f32 g) (fx : fin .f32 x) (hg : ab (fv .f32 g) ≤ 1024) (hx : ab (fv .f32 x) ≤ 128) :
    fin .f32 (fo .mul .f32 g x) ∧ ab (fv .f32 (fo .mul .f32 g x) - fv .f32 g * fv .f32 x) ≤ 1 / 2 ^ 24 * ab (fv .f32 g * fv .f32 x) + 1 / 2 ^ 149 ∧ ab (fv .f32 (fo .mul .f32 g x)) ≤ 2 ^ 18 := by
  obtain ⟨u1, u2, _⟩ := consts32
  have ht2 := top32
  have h1 := Rat.mul_le_mul_of_nonneg_left hx (ab_nonneg (fv .f32 g))
  have h2 : ab (fv .f32 g * fv .f32 x) ≤ 2 ^ 17 := by rw [ab_mul]; grind
  have hm := mul_spec fg fx (by grind)
  have e := hm.2.1
  rw [u1] at e
  have t := ab_tri (fv .f32 (fo .mul .f32 g x)) (fv .f32 g * fv .f32 x)
  exact ⟨hm.1, by grind, by grind⟩
theorem prod64 {a c : Nat} {L : Rat} (fa : fin .f64 a) (fc : fin .f64 c) (h : ab (fv .f64 a * fv .f64 c) ≤ L) (hL : L ≤ 2 ^ 150) :
    fin .f64 (fo .mul .f64 a c) ∧ ab (fv .f64 (fo .mul .f64 a c) - fv .f64 a * fv .f64 c) ≤ ab (fv .f64 a * fv .f64 c) / 2 ^ 53 + 1 / 2 ^ 200 ∧ ab (fv .f64 (fo .mul .f64 a c)) ≤ L * 2 + 1 := by
  obtain ⟨k1, k2, k3⟩ := consts64
  have hm := mul_spec fa fc (by grind)
  have e := hm.2.1
  rw [k1] at e
  have t := ab_tri (fv .f64 (fo .mul .f64 a c)) (fv .f64 a * fv .f64 c)
  have n := ab_nonneg (fv .f64 a * fv .f64 c)
  exact ⟨hm.1, by grind, by grind⟩
/-- One part in double precision: two products and their sum. -/
theorem sum64 {p q : Nat} {L : Rat} (fp : fin .f64 p) (fq : fin .f64 q) (hp : ab (fv .f64 p) ≤ L) (hq : ab (fv .f64 q) ≤ L) (hL : L ≤ 2 ^ 160) :
    fin .f64 (fo .sub .f64 p q) ∧ fin .f64 (fo .add .f64 p q) ∧ ab (fv .f64 (fo .sub .f64 p q) - (fv .f64 p + -fv .f64 q)) ≤ ab (fv .f64 p + -fv .f64 q) / 2 ^ 53 + 1 / 2 ^ 200 ∧
      ab (fv .f64 (fo .add .f64 p q) - (fv .f64 p + fv .f64 q)) ≤ ab (fv .f64 p + fv .f64 q) / 2 ^ 53 + 1 / 2 ^ 200 := by
  obtain ⟨k1, k2, k3⟩ := consts64
  obtain ⟨p1, p2⟩ := le_ab (fv .f64 p)
  obtain ⟨q1, q2⟩ := le_ab (fv .f64 q)
  have b1 : ab (fv .f64 p - fv .f64 q) ≤ L * 2 := ab_le (by grind) (by grind)
  have b2 : ab (fv .f64 p + fv .f64 q) ≤ L * 2 := ab_le (by grind) (by grind)
  have s1 := sub_spec fp fq (by grind)
  have s2 := add_spec fp fq (by grind)
  have e1 := s1.2.1
  have e2 := s2.2.1
  rw [k1] at e1 e2
  have e : fv .f64 p + -fv .f64 q = fv .f64 p - fv .f64 q := by grind
  rw [e]
  exact ⟨s1.1, s2.1, by grind, by grind⟩
/-- A product of complex numbers in double precision. -/
theorem times64 {a b c d : Nat} {R : Rat} (fa : fin .f64 a) (fb : fin .f64 b) (fc : fin .f64 c) (fd : fin .f64 d) (h : B2 (fv .f64 a) (fv .f64 b) R) (g : B2 (fv .f64 c) (fv .f64 d) rho) (hR : R ≤ 2 ^ 100) :
    fin .f64 (mulRe a b c d) ∧ fin .f64 (mulIm a b c d) ∧ ab (fv .f64 (mulRe a b c d) - (fv .f64 a * fv .f64 c + -(fv .f64 b * fv .f64 d))) ≤ R * rho / 2 ^ 51 + 1 / 2 ^ 197 ∧
      ab (fv .f64 (mulIm a b c d) - (fv .f64 a * fv .f64 d + fv .f64 b * fv .f64 c)) ≤ R * rho / 2 ^ 51 + 1 / 2 ^ 197 := by
  obtain ⟨S1, S2⟩ := h.prods g
  have hr : R * rho ≤ 2 ^ 101 := by
    have := h.1
    unfold rho; grind
  have n1 := ab_nonneg (fv .f64 a * fv .f64 c)
  have n2 := ab_nonneg (fv .f64 b * fv .f64 d)
  have n3 := ab_nonneg (fv .f64 a * fv .f64 d)
  have n4 := ab_nonneg (fv .f64 b * fv .f64 c)
  obtain ⟨f1, e1, b1⟩ := prod64 fa fc (L := 2 ^ 101) (by grind) (by grind)
  obtain ⟨f2, e2, b2⟩ := prod64 fb fd (L := 2 ^ 101) (by grind) (by grind)
  obtain ⟨f3, e3, b3⟩ := prod64 fa fd (L := 2 ^ 101) (by grind) (by grind)
  obtain ⟨f4, e4, b4⟩ := prod64 fb fc (L := 2 ^ 101) (by grind) (by grind)
  obtain ⟨g1, _, x1, _⟩ := sum64 f1 f2 (L := 2 ^ 110) (by grind) (by grind) (by grind)
  obtain ⟨_, g2, _, x2⟩ := sum64 f3 f4 (L := 2 ^ 110) (by grind) (by grind) (by grind)
  have e2' : ab (-fv .f64 (fo .mul .f64 b d) - -(fv .f64 b * fv .f64 d)) ≤ ab (-(fv .f64 b * fv .f64 d)) / 2 ^ 53 + 1 / 2 ^ 200 := by
    rw [ab_neg, show -fv .f64 (fo .mul .f64 b d) - -(fv .f64 b * fv .f64 d) = -(fv .f64 (fo .mul .f64 b d) - fv .f64 b * fv .f64 d) by grind, ab_neg]; exact e2
  exact ⟨g1, g2, err_dbl e1 e2' x1 (by rw [ab_neg]; exact S1), err_dbl e3 e4 x2 S2⟩
end Go.Proofs.Ytignncjmbcdpaaa

/-
The pole that is fitted by least squares to the ringing of a mode. (Plain arithmetic.)
-/
namespace Go.Proofs.Ytignncjmbcdpaaa
open Go Ieee

/-- The value of a complex word. -/
def vRe (z : Nat × Nat) : Rat := fv .f64 z.1
def vIm (z : Nat × Nat) : Rat := fv .f64 z.2
/-- Ringing: words that are finite, in a ball. -/
structure RingAt (p z : Nat × Nat) (R : Rat) : Prop where
  f : finC z
  b : B2 (vRe z) (vIm z) R
theorem ring_step {p z : Nat × Nat} {R : Rat} (fp : finC p) (hp : B2 (vRe p) (vIm p) rho) (h : RingAt p z R) (hR : R ≤ 2 ^ 60) :
    RingAt p (prodC z p) (R + R / 2 ^ 38 + 1 / 2 ^ 190) ∧ ab (vRe (prodC z p) - (vRe z * vRe p - vIm z * vIm p)) ≤ R * rho / 2 ^ 51 + 1 / 2 ^ 197 ∧ ab (vIm (prodC z p) - (vRe z * vIm p + vIm z * vRe p)) ≤ R * rho / 2 ^ 51 + 1 / 2 ^ 197 := by
  obtain ⟨t1, t2, t3, t4⟩ := times64 h.f.1 h.f.2 fp.1 fp.2 h.b hp (by grind)
  have e1 : fv .f64 z.1 * fv .f64 p.1 + -(fv .f64 z.2 * fv .f64 p.2) = vRe z * vRe p - vIm z * vIm p := by unfold vRe vIm; grind
  rw [e1] at t3
  have b := h.b.mul hp
  have r0 := h.b.1
  have k := B2.box t3 t4
  have s := b.add k
  have q : B2 (vRe (prodC z p)) (vIm (prodC z p)) (R * rho + (R * rho / 2 ^ 51 + 1 / 2 ^ 197) * (3 / 2)) := by
    have e2 : vRe z * vRe p - vIm z * vIm p + (fv .f64 (mulRe z.1 z.2 p.1 p.2) - (vRe z * vRe p - vIm z * vIm p)) = fv .f64 (mulRe z.1 z.2 p.1 p.2) := by grind
    have e3 : vRe z * vIm p + vIm z * vRe p + (fv .f64 (mulIm z.1 z.2 p.1 p.2) - (fv .f64 z.1 * fv .f64 p.2 + fv .f64 z.2 * fv .f64 p.1)) = fv .f64 (mulIm z.1 z.2 p.1 p.2) := by unfold vRe vIm; grind
    rw [e2, e3] at s
    exact s
  refine ⟨⟨⟨t1, t2⟩, q.le ?_⟩, t3, t4⟩
  unfold rho; grind
theorem ring_all {p a : Nat × Nat} {R : Rat} (fp : finC p) (hp : B2 (vRe p) (vIm p) rho) (ha : RingAt p a R) (hR : R ≤ 2 ^ 30) (k : Nat) (hk : k ≤ 100) : RingAt p (zC p a k) (R * (1 + (k : Rat) / 2 ^ 30) + (k : Rat) / 2 ^ 180) := by
  induction k with
  | zero =>
    have e : R * (1 + ((0 : Nat) : Rat) / 2 ^ 30) + ((0 : Nat) : Rat) / 2 ^ 180 = R := by simp; grind
    rw [e]; exact ha
  | succ k ih =>
    have h := ih (by omega)
    have r0 := ha.b.1
    have k0 : (0 : Rat) ≤ (k : Rat) := Rat.natCast_nonneg
    have k1 : (k : Rat) ≤ 100 := by
      have := Rat.natCast_le_natCast.2 (show k ≤ 100 by omega)
      simpa using this
    have kR := Rat.mul_nonneg k0 r0
    have kR2 : (k : Rat) * R ≤ 100 * R := Rat.mul_le_mul_of_nonneg_right k1 r0
    have ec : ((k + 1 : Nat) : Rat) = (k : Rat) + 1 := by simp
    have s := (ring_step fp hp h (by grind)).1
    rw [ec]
    exact ⟨s.f, s.b.le (by grind)⟩
end Go.Proofs.Ytignncjmbcdpaaa

/-
Sums of products of a ringing with its conjugates. (Plain arithmetic.)
-/
namespace Go.Proofs.Ytignncjmbcdpaaa
open Go Ieee

/-- A product of complex numbers in double precision, any factors. -/
theorem times64g {a b c d : Nat} {R S : Rat} (fa : fin .f64 a) (fb : fin .f64 b) (fc : fin .f64 c) (fd : fin .f64 d) (h : B2 (fv .f64 a) (fv .f64 b) R) (g : B2 (fv .f64 c) (fv .f64 d) S) (hR : R * S ≤ 2 ^ 101) :
    fin .f64 (mulRe a b c d) ∧ fin .f64 (mulIm a b c d) ∧ ab (fv .f64 (mulRe a b c d) - (fv .f64 a * fv .f64 c + -(fv .f64 b * fv .f64 d))) ≤ R * S / 2 ^ 51 + 1 / 2 ^ 197 ∧
      ab (fv .f64 (mulIm a b c d) - (fv .f64 a * fv .f64 d + fv .f64 b * fv .f64 c)) ≤ R * S / 2 ^ 51 + 1 / 2 ^ 197 := by
  obtain ⟨S1, S2⟩ := h.prods g
  have n1 := ab_nonneg (fv .f64 a * fv .f64 c)
  have n2 := ab_nonneg (fv .f64 b * fv .f64 d)
  have n3 := ab_nonneg (fv .f64 a * fv .f64 d)
  have n4 := ab_nonneg (fv .f64 b * fv .f64 c)
  obtain ⟨f1, e1, b1⟩ := prod64 fa fc (L := 2 ^ 101) (by grind) (by grind)
  obtain ⟨f2, e2, b2⟩ := prod64 fb fd (L := 2 ^ 101) (by grind) (by grind)
  obtain ⟨f3, e3, b3⟩ := prod64 fa fd (L := 2 ^ 101) (by grind) (by grind)
  obtain ⟨f4, e4, b4⟩ := prod64 fb fc (L := 2 ^ 101) (by grind) (by grind)
  obtain ⟨g1, _, x1, _⟩ := sum64 f1 f2 (L := 2 ^ 110) (by grind) (by grind) (by grind)
  obtain ⟨_, g2, _, x2⟩ := sum64 f3 f4 (L := 2 ^ 110) (by grind) (by grind) (by grind)
  have e2' : ab (-fv .f64 (fo .mul .f64 b d) - -(fv .f64 b * fv .f64 d)) ≤ ab (-(fv .f64 b * fv .f64 d)) / 2 ^ 53 + 1 / 2 ^ 200 := by
    rw [ab_neg, show -fv .f64 (fo .mul .f64 b d) - -(fv .f64 b * fv .f64 d) = -(fv .f64 (fo .mul .f64 b d) - fv .f64 b * fv .f64 d) by grind, ab_neg]; exact e2
  exact ⟨g1, g2, err_dbl e1 e2' x1 (by rw [ab_neg]; exact S1), err_dbl e3 e4 x2 S2⟩
/-- A product with a conjugate. -/
theorem conj_times {x y : Nat × Nat} {R S : Rat} (fx : finC x) (fy : finC y) (hx : B2 (vRe x) (vIm x) R) (hy : B2 (vRe y) (vIm y) S) (hR : R * S ≤ 2 ^ 101) :
    finC (prodC x (conjW y)) ∧ ab (vRe (prodC x (conjW y)) - (vRe x * vRe y + vIm x * vIm y)) ≤ R * S / 2 ^ 51 + 1 / 2 ^ 197 ∧ ab (vIm (prodC x (conjW y)) - (vIm x * vRe y - vRe x * vIm y)) ≤ R * S / 2 ^ 51 + 1 / 2 ^ 197 := by
  obtain ⟨n1, n2⟩ := neg_fin fy.2
  have hy' : B2 (fv .f64 y.1) (fv .f64 (Op.negFloat .f64 y.2)) S := by rw [n2]; exact ⟨hy.1, by have := hy.2; unfold vRe vIm at this; grind⟩
  obtain ⟨t1, t2, t3, t4⟩ := times64g fx.1 fx.2 fy.1 n1 hx hy' hR
  rw [n2] at t3 t4
  refine ⟨⟨t1, t2⟩, ?_, ?_⟩
  · have e : vRe x * vRe y + vIm x * vIm y = fv .f64 x.1 * fv .f64 y.1 + -(fv .f64 x.2 * -fv .f64 y.2) := by unfold vRe vIm; grind
    rw [e]; exact t3
  · have e : vIm x * vRe y - vRe x * vIm y = fv .f64 x.1 * -fv .f64 y.2 + fv .f64 x.2 * fv .f64 y.1 := by unfold vRe vIm; grind
    rw [e]; exact t4
/-- The exact sum of the squares. -/
def tsum (z : Nat → Nat × Nat) : Nat → Rat
  | 0 => 0
  | k + 1 => tsum z k + (vRe (z k) * vRe (z k) + vIm (z k) * vIm (z k))
theorem tsum_nonneg (z : Nat → Nat × Nat) (k : Nat) : 0 ≤ tsum z k := by
  induction k with
  | zero => exact Rat.le_refl
  | succ k ih =>
    have q1 := sq_nonneg (vRe (z k))
    have q2 := sq_nonneg (vIm (z k))
    show 0 ≤ tsum z k + _
    grind
/-- A sum of k products is near V times the sum of the squares, part by part. -/
structure SumAt (s : Nat × Nat) (X Y T e : Rat) : Prop where
  f : finC s
  re : ab (vRe s - X * T) ≤ e
  im : ab (vIm s - Y * T) ≤ e
/-- One addition of a part. -/
theorem part_step {s q : Nat} {X T t e g : Rat} (fs : fin .f64 s) (fq : fin .f64 q) (h : ab (fv .f64 s - X * T) ≤ e) (hq : ab (fv .f64 q - X * t) ≤ g) (hX : ab X ≤ 2) (hT : 0 ≤ T) (ht : 0 ≤ t) (hT2 : T + t ≤ 2 ^ 60) (he : e ≤ 2 ^ 60) (hg : g ≤ 2 ^ 60) :
    fin .f64 (fo .add .f64 s q) ∧ ab (fv .f64 (fo .add .f64 s q) - X * (T + t)) ≤ (e + g) * (1 + 1 / 2 ^ 50) + (ab X * (T + t)) / 2 ^ 53 + 1 / 2 ^ 200 := by
  obtain ⟨k1, k2, k3⟩ := consts64
  have t1 := ab_add (fv .f64 s - X * T) (fv .f64 q - X * t)
  have e1 : fv .f64 s - X * T + (fv .f64 q - X * t) = fv .f64 s + fv .f64 q - X * (T + t) := by grind
  rw [e1] at t1
  have t2 := ab_tri (fv .f64 s + fv .f64 q) (X * (T + t))
  have hp : ab (X * (T + t)) = ab X * (T + t) := by rw [ab_mul, ab_of_nonneg (x := T + t) (by grind)]
  rw [hp] at t2
  have hb := mul_mono hX hT2 (ab_nonneg X) (by grind)
  have n := ab_nonneg (fv .f64 s + fv .f64 q - X * (T + t))
  have ad := add_spec fs fq (by grind)
  have er := ad.2.1
  rw [k1] at er
  have t3 := ab_add (fv .f64 (fo .add .f64 s q) - (fv .f64 s + fv .f64 q)) (fv .f64 s + fv .f64 q - X * (T + t))
  rw [show fv .f64 (fo .add .f64 s q) - (fv .f64 s + fv .f64 q) + (fv .f64 s + fv .f64 q - X * (T + t)) = fv .f64 (fo .add .f64 s q) - X * (T + t) by grind] at t3
  refine ⟨ad.1, ?_⟩
  clear ad hb hp k1 k3 e1
  generalize ab (fv .f64 s + fv .f64 q - X * (T + t)) = A at *
  generalize ab (fv .f64 s + fv .f64 q) = B at *
  generalize ab (fv .f64 (fo .add .f64 s q) - (fv .f64 s + fv .f64 q)) = C at *
  generalize ab (fv .f64 (fo .add .f64 s q) - X * (T + t)) = D at *
  generalize ab X * (T + t) = P at *
  grind
end Go.Proofs.Ytignncjmbcdpaaa

/-
The ringing of a mode is near the powers of its pole, relatively. (Plain arithmetic.)
-/
namespace Go.Proofs.Ytignncjmbcdpaaa
open Go Ieee

def vC (z : Nat × Nat) : Rat × Rat := (vRe z, vIm z)
theorem tiny_s {s : Rat} (hs : 0 ≤ s) (h : 1 / 2 ^ 260 ≤ s * s) : 1 / 2 ^ 197 ≤ s / 2 ^ 67 := by
  have := ab_le_of_sq (x := 1 / 2 ^ 130) (y := s) hs (by grind)
  have e : ab (1 / 2 ^ 130) = (1 / 2 ^ 130 : Rat) := ab_of_nonneg (by grind)
  rw [e] at this
  grind
theorem l1_sq (x y : Rat) : x * x + y * y ≤ (ab x + ab y) * (ab x + ab y) ∧ (ab x + ab y) * (ab x + ab y) ≤ 2 * (x * x + y * y) := by
  have n1 := ab_nonneg x
  have n2 := ab_nonneg y
  have s1 := ab_sq x
  have s2 := ab_sq y
  have m := Rat.mul_nonneg n1 n2
  have q := sq_nonneg (ab x - ab y)
  exact ⟨by grind, by grind⟩
/-- Two parts that are small, as a ball. -/
theorem box_BN {x y e K n : Rat} (hx : ab x ≤ e) (hy : ab y ≤ e) (hK : 0 ≤ K) (hn : 0 ≤ n) (h : 2 * (e * e) ≤ K * K * n) : BN x y K n := by
  have a1 := sq_le_of_ab hx
  have a2 := sq_le_of_ab hy
  exact ⟨hK, hn, by grind⟩
theorem err_sq {s n e : Rat} (hs : 0 ≤ s) (h4 : s * s ≤ 4 * n) (he : e ≤ s / 2 ^ 51 + s / 2 ^ 67) (he0 : 0 ≤ e) : 2 * (e * e) ≤ 3 / 2 ^ 51 * (3 / 2 ^ 51) * n := by
  have m := mul_mono he he he0 (by grind)
  have e1 : (s / 2 ^ 51 + s / 2 ^ 67) * (s / 2 ^ 51 + s / 2 ^ 67) = s * s * ((1 / 2 ^ 51 + 1 / 2 ^ 67) * (1 / 2 ^ 51 + 1 / 2 ^ 67)) := by grind
  rw [e1] at m
  have q0 := sq_nonneg s
  clear e1 he
  generalize s * s = q at *
  grind
/-- **A PRODUCT**, relatively. -/
theorem times_rel {z w : Nat × Nat} (fz : finC z) (fw : finC w) (lo : 1 / 2 ^ 260 ≤ nn (vC z) * nn (vC w)) (hi : nn (vC z) * nn (vC w) ≤ 2 ^ 100) :
    finC (prodC z w) ∧ BN (vRe (prodC z w) - (cmul (vC z) (vC w)).1) (vIm (prodC z w) - (cmul (vC z) (vC w)).2) (3 / 2 ^ 51) (nn (vC z) * nn (vC w)) := by
  obtain ⟨r1, r2⟩ := l1_sq (vRe z) (vIm z)
  obtain ⟨s1, s2⟩ := l1_sq (vRe w) (vIm w)
  have z0 := nn_nonneg (vC z)
  have w0 := nn_nonneg (vC w)
  have ez : nn (vC z) = vRe z * vRe z + vIm z * vIm z := rfl
  have ew : nn (vC w) = vRe w * vRe w + vIm w * vIm w := rfl
  rw [← ez] at r1 r2
  rw [← ew] at s1 s2
  have R0 : 0 ≤ ab (vRe z) + ab (vIm z) := by have := ab_nonneg (vRe z); have := ab_nonneg (vIm z); grind
  have S0 : 0 ≤ ab (vRe w) + ab (vIm w) := by have := ab_nonneg (vRe w); have := ab_nonneg (vIm w); grind
  have bz := B2.l1 (vRe z) (vIm z)
  have bw := B2.l1 (vRe w) (vIm w)
  generalize ab (vRe z) + ab (vIm z) = R at *
  generalize ab (vRe w) + ab (vIm w) = S at *
  generalize hnz : nn (vC z) = nz at *
  generalize hnw : nn (vC w) = nw at *
  have p1 := mul_mono r1 s1 z0 (by grind)
  have p2 := mul_mono r2 s2 (by grind) (by grind)
  have RS0 := Rat.mul_nonneg R0 S0
  have e1 : R * R * (S * S) = R * S * (R * S) := by grind
  have e2 : 2 * nz * (2 * nw) = 4 * (nz * nw) := by grind
  rw [e1] at p1 p2
  rw [e2] at p2
  have n0 : 0 ≤ nz * nw := Rat.mul_nonneg z0 w0
  obtain ⟨s, hs⟩ : ∃ s, R * S = s := ⟨_, rfl⟩
  obtain ⟨n, hn⟩ : ∃ n, nz * nw = n := ⟨_, rfl⟩
  rw [hs] at p1 p2 RS0
  rw [hn] at p1 p2 n0 lo hi ⊢
  have hRS : s ≤ 2 ^ 101 := by
    have := ab_le_of_sq (x := s) (y := 2 ^ 101) (by grind) (by grind)
    have l := (le_ab s).1
    grind
  obtain ⟨t1, t2, t3, t4⟩ := times64g fz.1 fz.2 fw.1 fw.2 bz bw (by rw [hs]; exact hRS)
  rw [hs] at t3 t4
  have ts := tiny_s RS0 (by grind)
  have hK : (0 : Rat) ≤ 3 / 2 ^ 51 := by grind
  have e0 : 0 ≤ s / 2 ^ 51 + 1 / 2 ^ 197 := by grind
  have he : s / 2 ^ 51 + 1 / 2 ^ 197 ≤ s / 2 ^ 51 + s / 2 ^ 67 := by grind
  have hq := err_sq RS0 p2 he e0
  refine ⟨⟨t1, t2⟩, box_BN (e := s / 2 ^ 51 + 1 / 2 ^ 197) ?_ ?_ hK n0 hq⟩
  · have e3 : (cmul (vC z) (vC w)).1 = fv .f64 z.1 * fv .f64 w.1 + -(fv .f64 z.2 * fv .f64 w.2) := by unfold cmul vC vRe vIm; grind
    rw [e3]; exact t3
  · have e3 : (cmul (vC z) (vC w)).2 = fv .f64 z.1 * fv .f64 w.2 + fv .f64 z.2 * fv .f64 w.1 := by unfold cmul vC vRe vIm; grind
    rw [e3]; exact t4

/-- A pole and a start. -/
structure RIn (p a : Nat × Nat) : Prop where
  fp : finC p
  fa : finC a
  plo : 1 / 2 ^ 5 ≤ nn (vC p)
  phi : nn (vC p) ≤ 1 + 1 / 2 ^ 40
  alo : 1 / 2 ^ 10 ≤ nn (vC a)
  ahi : nn (vC a) ≤ 2 ^ 6
/-- The size of the k-th power, squared. -/
def nk (p a : Nat × Nat) (k : Nat) : Rat := nn (vC a) * npow (nn (vC p)) k
theorem nk_eq (p a : Nat × Nat) (k : Nat) : nn (cpow (vC p) (vC a) k) = nk p a k := nn_cpow _ _ k
theorem RIn.nk_hi {p a : Nat × Nat} (h : RIn p a) (k : Nat) (hk : k ≤ 100) : nk p a k ≤ 2 ^ 7 := by
  have m := mul_mono h.ahi (npow_le2 (nn_nonneg _) h.phi k hk) (nn_nonneg _) (by grind)
  unfold nk; grind
theorem RIn.nk_lo {p a : Nat × Nat} (h : RIn p a) (k : Nat) (hk : k ≤ 45) : 1 / 2 ^ 240 ≤ nk p a k := by
  have m := mul_mono h.alo (npow_ge h.plo k) (by grind) (npow_nonneg (nn_nonneg _) k)
  have m2 : pw (-225) ≤ pw (-(5 * (k : Int))) := pw_mono (by omega)
  have e : pw (-225) = 1 / 2 ^ 225 := by unfold pw; grind
  rw [e] at m2
  unfold nk
  clear e
  generalize nn (vC a) * npow (nn (vC p)) k = y at *
  generalize pw (-(5 * (k : Int))) = x at *
  clear h
  grind
theorem RIn.nk_pos {p a : Nat × Nat} (h : RIn p a) (k : Nat) (hk : k ≤ 45) : 0 < nk p a k := by have := h.nk_lo k hk; grind
theorem nk_succ (p a : Nat × Nat) (k : Nat) : nk p a (k + 1) = nk p a k * nn (vC p) := by
  show nn (vC a) * (npow (nn (vC p)) k * nn (vC p)) = nn (vC a) * npow (nn (vC p)) k * nn (vC p)
  rw [Rat.mul_assoc]
theorem k45 {k : Nat} (hk : k ≤ 45) : (0 : Rat) ≤ (k : Rat) ∧ (k : Rat) ≤ 45 := by
  have := Rat.natCast_le_natCast.2 hk
  exact ⟨Rat.natCast_nonneg, by simpa using this⟩
/-- What is near the k-th power. -/
def NearK (p a : Nat × Nat) (k : Nat) (K : Rat) (z : Nat × Nat) : Prop :=
  finC z ∧ BN (vRe z - (cpow (vC p) (vC a) k).1) (vIm z - (cpow (vC p) (vC a) k).2) K (nk p a k)
theorem NearK.sq {p a z : Nat × Nat} {k : Nat} {K : Rat} (h : NearK p a k K z) (hK : K ≤ 1 / 4) : nk p a k / 4 ≤ nn (vC z) ∧ nn (vC z) ≤ (1 + K) * (1 + K) * nk p a k := by
  have e := nk_eq p a k
  unfold nn at e
  exact ⟨h.2.low e hK, (h.2.high e).2.2⟩
theorem NearK.step {p a z : Nat × Nat} {k : Nat} {K : Rat} (hi : RIn p a) (hk : k ≤ 44) (h : NearK p a k K z) (hK : K ≤ 1 / 2 ^ 30) :
    NearK p a (k + 1) (K + 1 / 2 ^ 49) (prodC z p) ∧ BN (vRe (prodC z p) - (cmul (vC z) (vC p)).1) (vIm (prodC z p) - (cmul (vC z) (vC p)).2) (3 / 2 ^ 51) (nn (vC z) * nn (vC p)) := by
  obtain ⟨s1, s2⟩ := h.sq (by grind)
  have k0 := h.2.1
  have l := hi.nk_lo k (by omega)
  have u := hi.nk_hi k (by omega)
  have pl := hi.plo
  have ph := hi.phi
  have z0 := nn_nonneg (vC z)
  have p0 := nn_nonneg (vC p)
  have KK := mul_mono hK hK k0 (by grind)
  have c1 : (1 + K) * (1 + K) * nk p a k ≤ 5 / 4 * nk p a k := Rat.mul_le_mul_of_nonneg_right (by grind) (by grind)
  have c2 : (1 + K) * (1 + K) ≤ (1 + 1 / 2 ^ 28) * (1 + 1 / 2 ^ 28) := mul_mono (by grind) (by grind) (by grind) (by grind)
  have m1 := mul_mono (show 1 / 2 ^ 250 ≤ nn (vC z) by grind) pl (by grind) p0
  have m2 := mul_mono (show nn (vC z) ≤ 2 ^ 10 by grind) ph z0 (by grind)
  obtain ⟨f, b⟩ := times_rel h.1 hi.fp (by grind) (by grind)
  refine ⟨⟨f, ?_⟩, b⟩
  have g : BN (vRe p) (vIm p) 1 (nn (vC p)) := BN.self _ _
  have d := h.2.mul g
  rw [← nk_succ, Rat.mul_one] at d
  have b2 : BN (vRe (prodC z p) - (cmul (vC z) (vC p)).1) (vIm (prodC z p) - (cmul (vC z) (vC p)).2) (3 / 2 ^ 51 * (1 + 1 / 2 ^ 28)) (nk p a (k + 1)) := by
    refine BN.shift (n := nk p a (k + 1)) (m := (1 + 1 / 2 ^ 28) * (1 + 1 / 2 ^ 28)) ?_ (by grind) (by rw [nk_succ]; exact Rat.mul_nonneg (by grind) p0) Rat.le_refl
    refine b.up ?_
    rw [nk_succ]
    have m3 := Rat.mul_le_mul_of_nonneg_right c2 (show 0 ≤ nk p a k by grind)
    have m4 := Rat.mul_le_mul_of_nonneg_right (Rat.le_trans s2 m3) p0
    grind
  have s := d.add b2
  have e1 : (vRe z - (cpow (vC p) (vC a) k).1) * vRe p - (vIm z - (cpow (vC p) (vC a) k).2) * vIm p + (vRe (prodC z p) - (cmul (vC z) (vC p)).1) = vRe (prodC z p) - (cpow (vC p) (vC a) (k + 1)).1 := by
    show _ = vRe (prodC z p) - (cmul (cpow (vC p) (vC a) k) (vC p)).1
    unfold cmul vC; grind
  have e2 : (vRe z - (cpow (vC p) (vC a) k).1) * vIm p + (vIm z - (cpow (vC p) (vC a) k).2) * vRe p + (vIm (prodC z p) - (cmul (vC z) (vC p)).2) = vIm (prodC z p) - (cpow (vC p) (vC a) (k + 1)).2 := by
    show _ = vIm (prodC z p) - (cmul (cpow (vC p) (vC a) k) (vC p)).2
    unfold cmul vC; grind
  rw [e1, e2] at s
  exact s.le (by grind)
/-- **THE RINGING.** -/
theorem ring_near {p a : Nat × Nat} (hi : RIn p a) (k : Nat) (hk : k ≤ 45) : NearK p a k ((k : Rat) / 2 ^ 49) (zC p a k) := by
  induction k with
  | zero =>
    refine ⟨hi.fa, ?_⟩
    have e1 : vRe (zC p a 0) - (cpow (vC p) (vC a) 0).1 = 0 := by show vRe a - vRe a = 0; grind
    have e2 : vIm (zC p a 0) - (cpow (vC p) (vC a) 0).2 = 0 := by show vIm a - vIm a = 0; grind
    rw [e1, e2]
    exact (BN.zero (Rat.le_of_lt (hi.nk_pos 0 (by omega)))).le (by simp; grind)
  | succ k ih =>
    obtain ⟨q1, q2⟩ := k45 (show k ≤ 45 by omega)
    have := (NearK.step hi (by omega) (ih (by omega)) (by grind)).1
    have ec : ((k + 1 : Nat) : Rat) = (k : Rat) + 1 := by simp
    rw [ec]
    have e : ((k : Rat) + 1) / 2 ^ 49 = (k : Rat) / 2 ^ 49 + 1 / 2 ^ 49 := by grind
    rw [e]
    exact this
end Go.Proofs.Ytignncjmbcdpaaa

/-
The quotient of the sums is near the pole. (Plain arithmetic.)
-/
namespace Go.Proofs.Ytignncjmbcdpaaa
open Go Ieee

def eAt (k T U : Rat) : Rat := k * T / 2 ^ 52 + k * U * (11 / 4) / 2 ^ 51 + k / 2 ^ 150
/-- One addition, with the bound that grows. -/
theorem sum_step {s q : Nat × Nat} {X Y k T t U : Rat} (h : SumAt s X Y T (eAt k T U)) (fq : finC q) (h1 : ab (vRe q - X * t) ≤ U * (21 / 8) / 2 ^ 51 + 1 / 2 ^ 160) (h2 : ab (vIm q - Y * t) ≤ U * (21 / 8) / 2 ^ 51 + 1 / 2 ^ 160)
    (hX : ab X ≤ 5 / 4) (hY : ab Y ≤ 5 / 4) (hk : 0 ≤ k) (hk2 : k ≤ 100) (hT : 0 ≤ T) (ht : 0 ≤ t) (hT2 : T + t ≤ 2 ^ 50) (hU : 0 ≤ U) (hU2 : U ≤ 2 ^ 40) :
    SumAt (fo .add .f64 s.1 q.1, fo .add .f64 s.2 q.2) X Y (T + t) (eAt (k + 1) (T + t) U) := by
  have kT := Rat.mul_nonneg hk hT
  have kt := Rat.mul_nonneg hk ht
  have kU := Rat.mul_nonneg hk hU
  have kT2 : k * T ≤ 100 * T := Rat.mul_le_mul_of_nonneg_right hk2 hT
  have kU2 : k * U ≤ 100 * U := Rat.mul_le_mul_of_nonneg_right hk2 hU
  have key : ∀ Z : Rat, ab Z ≤ 5 / 4 → (eAt k T U + (U * (21 / 8) / 2 ^ 51 + 1 / 2 ^ 160)) * (1 + 1 / 2 ^ 50) + (ab Z * (T + t)) / 2 ^ 53 + 1 / 2 ^ 200 ≤ eAt (k + 1) (T + t) U := fun Z hZ => by
    have b := Rat.mul_le_mul_of_nonneg_right hZ (show 0 ≤ T + t by grind)
    unfold eAt
    generalize ab Z * (T + t) = A at *
    grind
  have e60 : eAt k T U ≤ 2 ^ 60 := by unfold eAt; grind
  obtain ⟨r1, r2⟩ := part_step h.f.1 fq.1 h.re h1 (by grind) hT ht (by grind) e60 (by grind)
  obtain ⟨i1, i2⟩ := part_step h.f.2 fq.2 h.im h2 (by grind) hT ht (by grind) e60 (by grind)
  exact ⟨⟨r1, i1⟩, Rat.le_trans r2 (key X hX), Rat.le_trans i2 (key Y hY)⟩
theorem chain2 {z a b g h T : Rat} (t : z ≤ a + b) (ha : a ≤ g) (hb : b ≤ h) (hT : h + g ≤ T) : z ≤ T := by grind
/-- A term of the sum of squares, of the sum with the next. -/
theorem term_sq {p z : Nat × Nat} {R : Rat} (h : RingAt p z R) (hR : R ≤ 2 ^ 20) : finC (prodC z (conjW z)) ∧ ab (vRe (prodC z (conjW z)) - 1 * (vRe z * vRe z + vIm z * vIm z)) ≤ R * R / 2 ^ 51 + 1 / 2 ^ 197 ∧ ab (vIm (prodC z (conjW z)) - 0 * (vRe z * vRe z + vIm z * vIm z)) ≤ R * R / 2 ^ 51 + 1 / 2 ^ 197 := by
  have r0 := h.b.1
  have m := mul_mono hR hR r0 (by grind)
  obtain ⟨f, a, b⟩ := conj_times h.f h.f h.b h.b (by grind)
  refine ⟨f, ?_, ?_⟩
  · rw [Rat.one_mul]; exact a
  · rw [Rat.zero_mul]
    have e : vIm z * vRe z - vRe z * vIm z = 0 := by grind
    rw [e] at b; exact b
theorem term_next {p z : Nat × Nat} {R : Rat} (fp : finC p) (hp : B2 (vRe p) (vIm p) rho) (h : RingAt p z R) (h' : RingAt p (prodC z p) R) (hR : R ≤ 2 ^ 20) :
    finC (prodC (prodC z p) (conjW z)) ∧ ab (vRe (prodC (prodC z p) (conjW z)) - vRe p * (vRe z * vRe z + vIm z * vIm z)) ≤ R * R * (5 / 2) * (1 + 1 / 2 ^ 30) / 2 ^ 51 + 1 / 2 ^ 170 ∧
      ab (vIm (prodC (prodC z p) (conjW z)) - vIm p * (vRe z * vRe z + vIm z * vIm z)) ≤ R * R * (5 / 2) * (1 + 1 / 2 ^ 30) / 2 ^ 51 + 1 / 2 ^ 170 := by
  have r0 := h.b.1
  have m := mul_mono hR hR r0 (by grind)
  have m0 := Rat.mul_nonneg r0 r0
  obtain ⟨_, e1, e2⟩ := ring_step fp hp h (by grind)
  obtain ⟨f, a, b⟩ := conj_times h'.f h.f h'.b h.b (by grind)
  have E := B2.box e1 e2
  have c1 := cauchy E h.b
  have hz : B2 (-vIm z) (vRe z) R := ⟨r0, by have := h.b.2; grind⟩
  have c2 := cauchy E hz
  have q1 : vRe (prodC z p) * vRe z + vIm (prodC z p) * vIm z = vRe p * (vRe z * vRe z + vIm z * vIm z) + ((vRe (prodC z p) - (vRe z * vRe p - vIm z * vIm p)) * vRe z + (vIm (prodC z p) - (vRe z * vIm p + vIm z * vRe p)) * vIm z) := by grind
  have q2 : vIm (prodC z p) * vRe z - vRe (prodC z p) * vIm z = vIm p * (vRe z * vRe z + vIm z * vIm z) + ((vRe (prodC z p) - (vRe z * vRe p - vIm z * vIm p)) * -vIm z + (vIm (prodC z p) - (vRe z * vIm p + vIm z * vRe p)) * vRe z) := by grind
  have hb : (R * rho / 2 ^ 51 + 1 / 2 ^ 197) * (3 / 2) * R + (R * R / 2 ^ 51 + 1 / 2 ^ 197) ≤ R * R * (5 / 2) * (1 + 1 / 2 ^ 30) / 2 ^ 51 + 1 / 2 ^ 170 := by
    unfold rho
    clear E c1 c2 hz q1 q2 a b e1 e2
    grind
  refine ⟨f, ?_, ?_⟩
  · have t := ab_add (vRe (prodC (prodC z p) (conjW z)) - (vRe (prodC z p) * vRe z + vIm (prodC z p) * vIm z)) ((vRe (prodC z p) - (vRe z * vRe p - vIm z * vIm p)) * vRe z + (vIm (prodC z p) - (vRe z * vIm p + vIm z * vRe p)) * vIm z)
    rw [show vRe (prodC (prodC z p) (conjW z)) - (vRe (prodC z p) * vRe z + vIm (prodC z p) * vIm z) + ((vRe (prodC z p) - (vRe z * vRe p - vIm z * vIm p)) * vRe z + (vIm (prodC z p) - (vRe z * vIm p + vIm z * vRe p)) * vIm z) = vRe (prodC (prodC z p) (conjW z)) - vRe p * (vRe z * vRe z + vIm z * vIm z) by rw [q1]; grind] at t
    exact chain2 t a c1 hb
  · have t := ab_add (vIm (prodC (prodC z p) (conjW z)) - (vIm (prodC z p) * vRe z - vRe (prodC z p) * vIm z)) ((vRe (prodC z p) - (vRe z * vRe p - vIm z * vIm p)) * -vIm z + (vIm (prodC z p) - (vRe z * vIm p + vIm z * vRe p)) * vRe z)
    rw [show vIm (prodC (prodC z p) (conjW z)) - (vIm (prodC z p) * vRe z - vRe (prodC z p) * vIm z) + ((vRe (prodC z p) - (vRe z * vRe p - vIm z * vIm p)) * -vIm z + (vIm (prodC z p) - (vRe z * vIm p + vIm z * vRe p)) * vRe z) = vIm (prodC (prodC z p) (conjW z)) - vIm p * (vRe z * vRe z + vIm z * vIm z) by rw [q2]; grind] at t
    exact chain2 t b c2 hb
end Go.Proofs.Ytignncjmbcdpaaa

/-
Least squares: the fitted pole is near the pole. (Plain arithmetic.)
-/
namespace Go.Proofs.Ytignncjmbcdpaaa
open Go Ieee

theorem le_of_mul {x κ d : Rat} (hd : 0 < d) (h : x * d ≤ κ * d) : x ≤ κ := by
  rcases rat_lt_or_le κ x with h1 | h1
  · exfalso
    have := Rat.mul_lt_mul_of_pos_right h1 hd
    grind
  · exact h1
theorem big_ok {T E den : Rat} (hET : E * T ≤ T * T / 2 ^ 43) (hEE : E * E ≤ E * T / 2 ^ 43) (hdlo : T * T * (1 - 1 / 2 ^ 41) ≤ den) (hTT : 0 < T * T) (hET0 : 0 ≤ E * T) : 5 / 2 * E * (T + E) + 5 / 2 * E * E ≤ 501 / 100 / 2 ^ 44 * den := by grind
theorem quot_near {N D : Nat × Nat} {Pr Pi T E : Rat} (hN : SumAt N Pr Pi T E) (hD : SumAt D 1 0 T E) (hT : 1 / 2 ^ 20 ≤ T) (hT2 : T ≤ 2 ^ 50) (hE0 : 0 ≤ E) (hE : E ≤ T / 2 ^ 43) (hP : B2 Pr Pi rho) :
    fin .f64 (quoRe N.1 N.2 D.1 D.2) ∧ fin .f64 (quoIm N.1 N.2 D.1 D.2) ∧ ab (fv .f64 (quoRe N.1 N.2 D.1 D.2) - Pr) ≤ 13 / 2 ^ 45 ∧ ab (fv .f64 (quoIm N.1 N.2 D.1 D.2) - Pi) ≤ 13 / 2 ^ 45 ∧ (feq .f64 D.1 0 && feq .f64 D.2 0) = false := by
  obtain ⟨fN, n1, n2⟩ := hN
  obtain ⟨fD, d1, d2⟩ := hD
  unfold vRe vIm at *
  have fa := fN.1
  have fb := fN.2
  have fc := fD.1
  have fd := fD.2
  obtain ⟨a, ha⟩ : ∃ a, fv .f64 N.1 = a := ⟨_, rfl⟩
  obtain ⟨b, hb⟩ : ∃ b, fv .f64 N.2 = b := ⟨_, rfl⟩
  obtain ⟨c, hc⟩ : ∃ c, fv .f64 D.1 = c := ⟨_, rfl⟩
  obtain ⟨d, hd⟩ : ∃ d, fv .f64 D.2 = d := ⟨_, rfl⟩
  rw [ha] at n1
  rw [hb] at n2
  rw [hc, Rat.one_mul] at d1
  rw [hd, Rat.zero_mul, show d - 0 = d by grind] at d2
  obtain ⟨c1, c2⟩ := le_ab (c - T)
  have hc0 : T - E ≤ c := by grind
  have hc3 : c ≤ T + E := by grind
  have cpos : 0 < c := by grind
  have hden0 : (T - E) * (T - E) ≤ c * c := mul_mono hc0 hc0 (by grind) (by grind)
  have qd := sq_nonneg d
  have hTT : 0 < T * T := Rat.mul_pos (by grind) (by grind)
  have hET : E * T ≤ T * T / 2 ^ 43 := by
    have := Rat.mul_le_mul_of_nonneg_right hE (show 0 ≤ T by grind)
    grind
  have hEE : E * E ≤ E * T / 2 ^ 43 := by
    have := Rat.mul_le_mul_of_nonneg_left hE hE0
    clear n1 n2 d1 d2 c1 c2 hden0 qd hTT hET
    grind
  have hEE0 := Rat.mul_nonneg hE0 hE0
  have hET0 : 0 ≤ E * T := Rat.mul_nonneg hE0 (by grind)
  obtain ⟨den, hden⟩ : ∃ den, c * c + d * d = den := ⟨_, rfl⟩
  have hdlo : T * T * (1 - 1 / 2 ^ 41) ≤ den := by rw [← hden]; grind
  have dpos : 0 < den := by grind
  obtain ⟨X, hX⟩ : ∃ X, (a * c + b * d) / den = X := ⟨_, rfl⟩
  obtain ⟨Y, hY⟩ : ∃ Y, (b * c - a * d) / den = Y := ⟨_, rfl⟩
  have eX : X * den = a * c + b * d := by rw [← hX]; exact Rat.div_mul_cancel (by grind)
  have eY : Y * den = b * c - a * d := by rw [← hY]; exact Rat.div_mul_cancel (by grind)
  -- the pole's parts
  have hPs : ab Pr + ab Pi ≤ 3 / 2 := by
    have s1 := ab_sq Pr
    have s2 := ab_sq Pi
    have s3 := sq_nonneg (ab Pr - ab Pi)
    have h2 := hP.2
    have n1 := ab_nonneg Pr
    have n2 := ab_nonneg Pi
    have := ab_le_of_sq (x := ab Pr + ab Pi) (y := 3 / 2) (by grind) (by unfold rho at h2; grind)
    rwa [ab_of_nonneg (by grind)] at this
  have nr := ab_nonneg Pr
  have ni := ab_nonneg Pi
  have hprE : ab Pr * E + ab Pi * E ≤ 3 / 2 * E := by
    have := Rat.mul_le_mul_of_nonneg_right hPs hE0
    grind
  have hu : ab (a - (Pr * c - Pi * d)) ≤ 5 / 2 * E := by
    have t1 := ab_add (a - Pr * T) (-(Pr * (c - T)) + Pi * d)
    have t2 := ab_add (-(Pr * (c - T))) (Pi * d)
    rw [ab_neg, ab_mul, ab_mul] at t2
    have m1 := Rat.mul_le_mul_of_nonneg_left d1 nr
    have m2 := Rat.mul_le_mul_of_nonneg_left d2 ni
    rw [show a - Pr * T + (-(Pr * (c - T)) + Pi * d) = a - (Pr * c - Pi * d) by grind] at t1
    grind
  have hv : ab (b - (Pr * d + Pi * c)) ≤ 5 / 2 * E := by
    have t1 := ab_add (b - Pi * T) (-(Pi * (c - T)) + -(Pr * d))
    have t2 := ab_add (-(Pi * (c - T))) (-(Pr * d))
    rw [ab_neg, ab_neg, ab_mul, ab_mul] at t2
    have m1 := Rat.mul_le_mul_of_nonneg_left d1 ni
    have m2 := Rat.mul_le_mul_of_nonneg_left d2 nr
    rw [show b - Pi * T + (-(Pi * (c - T)) + -(Pr * d)) = b - (Pr * d + Pi * c) by grind] at t1
    grind
  obtain ⟨u, hu'⟩ : ∃ u, a - (Pr * c - Pi * d) = u := ⟨_, rfl⟩
  obtain ⟨v, hv'⟩ : ∃ v, b - (Pr * d + Pi * c) = v := ⟨_, rfl⟩
  rw [hu'] at hu
  rw [hv'] at hv
  have ac : ab c ≤ T + E := by rw [ab_of_nonneg (by grind)]; exact hc3
  have nu := ab_nonneg u
  have nv := ab_nonneg v
  have big : 5 / 2 * E * (T + E) + 5 / 2 * E * E ≤ 501 / 100 / 2 ^ 44 * den := big_ok hET hEE hdlo hTT hET0
  have m1 := mul_mono hu ac nu (by grind)
  have m2 := mul_mono hv d2 nv hE0
  have m3 := mul_mono hv ac nv (by grind)
  have m4 := mul_mono hu d2 nu hE0
  have hXP : ab (X - Pr) ≤ 501 / 100 / 2 ^ 44 := by
    refine le_of_mul dpos ?_
    have e : (X - Pr) * den = u * c + v * d := by rw [← hu', ← hv', ← hden] at *; grind
    have e2 : ab (X - Pr) * den = ab (u * c + v * d) := by rw [← e, ab_mul, ab_of_nonneg (Rat.le_of_lt dpos)]
    have t := ab_add (u * c) (v * d)
    rw [ab_mul, ab_mul] at t
    rw [e2]
    clear e e2 hX hY eX eY hu' hv' ha hb hc hd
    grind
  have hYP : ab (Y - Pi) ≤ 501 / 100 / 2 ^ 44 := by
    refine le_of_mul dpos ?_
    have e : (Y - Pi) * den = v * c + -(u * d) := by rw [← hu', ← hv', ← hden] at *; grind
    have e2 : ab (Y - Pi) * den = ab (v * c + -(u * d)) := by rw [← e, ab_mul, ab_of_nonneg (Rat.le_of_lt dpos)]
    have t := ab_add (v * c) (-(u * d))
    rw [ab_neg, ab_mul, ab_mul] at t
    rw [e2]
    clear e e2 hX hY eX eY hu' hv' ha hb hc hd hXP
    grind
  obtain ⟨pr1, pr2⟩ := hP.parts
  unfold rho at pr1 pr2
  have tX := ab_tri X Pr
  have tY := ab_tri Y Pi
  have exA : a = X * c - Y * d := by
    have h : (X * c - Y * d) * den = a * den := by
      have : (X * c - Y * d) * den = (X * den) * c - (Y * den) * d := by grind
      rw [this, eX, eY, ← hden]; grind
    exact (Rat.le_antisymm (le_of_mul dpos (by rw [h]; exact Rat.le_refl)) (le_of_mul dpos (by rw [h]; exact Rat.le_refl))).symm
  have exB : b = X * d + Y * c := by
    have h : (X * d + Y * c) * den = b * den := by
      have : (X * d + Y * c) * den = (X * den) * d + (Y * den) * c := by grind
      rw [this, eX, eY, ← hden]; grind
    exact (Rat.le_antisymm (le_of_mul dpos (by rw [h]; exact Rat.le_refl)) (le_of_mul dpos (by rw [h]; exact Rat.le_refl))).symm
  have hlo : pw (-300) ≤ ab c := by
    have h1 : pw (-300) ≤ pw (-20) := pw_mono (by omega)
    have h2 : pw (-20) = 1 / 2 ^ 20 := by unfold pw; grind
    have h3 : 1 / 2 ^ 21 ≤ c := by grind
    have h4 : pw (-300) ≤ pw (-21) := pw_mono (by omega)
    have h5 : pw (-21) = 1 / 2 ^ 21 := by unfold pw; grind
    rw [ab_of_nonneg (by grind)]; grind
  have aA := ab_tri a (Pr * T)
  have aB := ab_tri b (Pi * T)
  have pT1 : ab (Pr * T) ≤ 2 ^ 51 := by
    rw [ab_mul, ab_of_nonneg (x := T) (by grind)]
    have := mul_mono pr1 hT2 nr (by grind)
    grind
  have pT2 : ab (Pi * T) ≤ 2 ^ 51 := by
    rw [ab_mul, ab_of_nonneg (x := T) (by grind)]
    have := mul_mono pr2 hT2 ni (by grind)
    grind
  obtain ⟨⟨g1, g2⟩, g3, g4⟩ := quot_err (X := X) (Y := Y) (M := 9 / 8) fa fb fc fd (.inl (by rw [hc]; exact hlo)) (by rw [hc]; grind) (by rw [hd]; grind) (by grind) (by grind) (by grind) (by rw [ha, hc, hd]; exact exA) (by rw [hb, hc, hd]; exact exB) (by rw [ha]; grind) (by rw [hb]; grind)
  have s1 := ab_add (fv .f64 (quoRe N.1 N.2 D.1 D.2) - X) (X - Pr)
  have s2 := ab_add (fv .f64 (quoIm N.1 N.2 D.1 D.2) - Y) (Y - Pi)
  rw [show fv .f64 (quoRe N.1 N.2 D.1 D.2) - X + (X - Pr) = fv .f64 (quoRe N.1 N.2 D.1 D.2) - Pr by grind] at s1
  rw [show fv .f64 (quoIm N.1 N.2 D.1 D.2) - Y + (Y - Pi) = fv .f64 (quoIm N.1 N.2 D.1 D.2) - Pi by grind] at s2
  refine ⟨g1, g3, by clear s2 g4; grind, by clear s1 g2; grind, ?_⟩
  have hz : feq .f64 D.1 0 = false := by
    cases h : feq .f64 D.1 0
    · rfl
    · have := (feq_iff fc (zero_fin .f64).1).1 h
      rw [hc, (zero_fin .f64).2] at this
      grind
  rw [hz]; rfl
end Go.Proofs.Ytignncjmbcdpaaa

/-
The quotient of two complex numbers whose exact quotient is nearly known. (Plain arithmetic.)
-/
namespace Go.Proofs.Ytignncjmbcdpaaa
open Go Ieee

/-- The words of a quotient. -/
def qC (N D : Nat × Nat) : Nat × Nat := (quoRe N.1 N.2 D.1 D.2, quoIm N.1 N.2 D.1 D.2)
theorem part_quot {X V K den u : Rat} (hd : 0 < den) (hK : 0 ≤ K) (e : (X - V) * den = u) (h : u * u ≤ K * 1 * (K * 1) * (den * den)) : ab (X - V) ≤ K := by
  refine le_of_mul hd ?_
  have e2 : ab (X - V) * den = ab u := by rw [← e, ab_mul, ab_of_nonneg (Rat.le_of_lt hd)]
  rw [e2]
  exact ab_le_of_sq (Rat.mul_nonneg hK (Rat.le_of_lt hd)) (by grind)
theorem quot_gen {N D : Nat × Nat} {V : Rat × Rat} {K M : Rat} (fN : finC N) (fD : finC D) (b : BN (vRe N - (cmul V (vC D)).1) (vIm N - (cmul V (vC D)).2) K (nn (vC D)))
    (lo : 1 / 2 ^ 255 ≤ nn (vC D)) (hi : nn (vC D) ≤ 2 ^ 100) (hV1 : ab V.1 ≤ M) (hV2 : ab V.2 ≤ M) (hM : M ≤ 2 ^ 10) (hK : K ≤ 1 / 2 ^ 10) :
    finC (qC N D) ∧ ab (vRe (qC N D) - V.1) ≤ K + (M + K) / 2 ^ 44 + 1 / 2 ^ 90 ∧ ab (vIm (qC N D) - V.2) ≤ K + (M + K) / 2 ^ 44 + 1 / 2 ^ 90 ∧ (feq .f64 D.1 0 && feq .f64 D.2 0) = false := by
  have k0 := b.1
  have M0 : 0 ≤ M := Rat.le_trans (ab_nonneg _) hV1
  obtain ⟨x, hx⟩ : ∃ x, vRe N = x := ⟨_, rfl⟩
  obtain ⟨y, hy⟩ : ∃ y, vIm N = y := ⟨_, rfl⟩
  obtain ⟨c, hc⟩ : ∃ c, vRe D = c := ⟨_, rfl⟩
  obtain ⟨d, hd⟩ : ∃ d, vIm D = d := ⟨_, rfl⟩
  obtain ⟨v1, hv1⟩ : ∃ v, V.1 = v := ⟨_, rfl⟩
  obtain ⟨v2, hv2⟩ : ∃ v, V.2 = v := ⟨_, rfl⟩
  have eden : nn (vC D) = c * c + d * d := by rw [← hc, ← hd]; rfl
  have c1 : (cmul V (vC D)).1 = v1 * c - v2 * d := by rw [← hv1, ← hv2, ← hc, ← hd]; rfl
  have c2 : (cmul V (vC D)).2 = v1 * d + v2 * c := by rw [← hv1, ← hv2, ← hc, ← hd]; rfl
  rw [c1, c2, hx, hy] at b
  rw [hv1] at hV1
  rw [hv2] at hV2
  rw [hv1, hv2]
  obtain ⟨den, hden⟩ : ∃ den, nn (vC D) = den := ⟨_, rfl⟩
  rw [hden] at b lo hi eden
  have dpos : 0 < den := by grind
  have b0 := b
  clear b
  have hc50 : ab c ≤ 2 ^ 50 := by
    have qd := sq_nonneg d
    refine ab_le_of_sq (by grind) ?_
    rw [eden] at hi
    generalize c * c = a at *
    generalize d * d = b at *
    clear hx hy hc hd hv1 hv2 c1 c2 fN fD hV1 hV2
    grind
  have hd50 : ab d ≤ 2 ^ 50 := by
    have qc := sq_nonneg c
    refine ab_le_of_sq (by grind) ?_
    rw [eden] at hi
    generalize c * c = a at *
    generalize d * d = b at *
    clear hx hy hc hd hv1 hv2 c1 c2 fN fD hV1 hV2
    grind
  have hlo : pw (-300) ≤ ab c ∨ pw (-300) ≤ ab d := by
    have e : pw (-130) = 1 / 2 ^ 130 := by unfold pw; grind
    have e3 : pw (-300) ≤ pw (-130) := pw_mono (by omega)
    rw [e] at e3
    rcases rat_lt_or_le (ab c) (1 / 2 ^ 130) with h1 | h1
    · rcases rat_lt_or_le (ab d) (1 / 2 ^ 130) with h2 | h2
      · exfalso
        have a1 := ab_sq c
        have a2 := ab_sq d
        have m1 := mul_mono (Rat.le_of_lt h1) (Rat.le_of_lt h1) (ab_nonneg c) (by grind)
        have m2 := mul_mono (Rat.le_of_lt h2) (Rat.le_of_lt h2) (ab_nonneg d) (by grind)
        rw [eden] at lo
        rw [a1] at m1
        rw [a2] at m2
        generalize c * c = a at *
        generalize d * d = b at *
        clear hx hy hc hd hv1 hv2 c1 c2 fN fD hV1 hV2
        grind
      · exact .inr (Rat.le_trans e3 h2)
    · exact .inl (Rat.le_trans e3 h1)
  have b := b0
  obtain ⟨X, hX⟩ : ∃ X, (x * c + y * d) / den = X := ⟨_, rfl⟩
  obtain ⟨Y, hY⟩ : ∃ Y, (y * c - x * d) / den = Y := ⟨_, rfl⟩
  have eX : X * den = x * c + y * d := by rw [← hX]; exact Rat.div_mul_cancel (by grind)
  have eY : Y * den = y * c - x * d := by rw [← hY]; exact Rat.div_mul_cancel (by grind)
  have s1 : BN c d 1 den := by rw [eden]; exact BN.self c d
  have s2 : BN (-d) c 1 den := ⟨s1.1, s1.2.1, by have := s1.2.2; grind⟩
  have q1 := cauchyN b s1
  have q2 := cauchyN b s2
  have hXP : ab (X - v1) ≤ K := part_quot dpos k0 (u := (x - (v1 * c - v2 * d)) * c + (y - (v1 * d + v2 * c)) * d) (by clear hX hY q1 q2 b s1 s2; grind) q1
  have hYP : ab (Y - v2) ≤ K := part_quot dpos k0 (u := (x - (v1 * c - v2 * d)) * -d + (y - (v1 * d + v2 * c)) * c) (by clear hX hY q1 q2 b s1 s2; grind) q2
  have exA : x = X * c - Y * d := by
    have h : (X * c - Y * d) * den = x * den := by
      have : (X * c - Y * d) * den = (X * den) * c - (Y * den) * d := by grind
      rw [this, eX, eY, eden]; grind
    exact (Rat.le_antisymm (le_of_mul dpos (by rw [h]; exact Rat.le_refl)) (le_of_mul dpos (by rw [h]; exact Rat.le_refl))).symm
  have exB : y = X * d + Y * c := by
    have h : (X * d + Y * c) * den = y * den := by
      have : (X * d + Y * c) * den = (X * den) * d + (Y * den) * c := by grind
      rw [this, eX, eY, eden]; grind
    exact (Rat.le_antisymm (le_of_mul dpos (by rw [h]; exact Rat.le_refl)) (le_of_mul dpos (by rw [h]; exact Rat.le_refl))).symm
  have tX := ab_tri X v1
  have tY := ab_tri Y v2
  have bX : ab X ≤ M + K := by grind
  have bY : ab Y ≤ M + K := by grind
  have pa : ab x ≤ 2 ^ 100 := by
    rw [exA]
    have t := ab_add (X * c) (-(Y * d))
    rw [ab_neg, ab_mul, ab_mul, ← Rat.sub_eq_add_neg] at t
    have m1 := mul_mono bX hc50 (ab_nonneg X) (by grind)
    have m2 := mul_mono bY hd50 (ab_nonneg Y) (by grind)
    grind
  have pb : ab y ≤ 2 ^ 100 := by
    rw [exB]
    have t := ab_add (X * d) (Y * c)
    rw [ab_mul, ab_mul] at t
    have m1 := mul_mono bX hd50 (ab_nonneg X) (by grind)
    have m2 := mul_mono bY hc50 (ab_nonneg Y) (by grind)
    grind
  have hx' : fv .f64 N.1 = x := hx
  have hy' : fv .f64 N.2 = y := hy
  have hc' : fv .f64 D.1 = c := hc
  have hd' : fv .f64 D.2 = d := hd
  obtain ⟨⟨g1, g2⟩, g3, g4⟩ := quot_err (X := X) (Y := Y) (M := M + K) fN.1 fN.2 fD.1 fD.2 (by rw [hc', hd']; exact hlo) (by rw [hc']; grind) (by rw [hd']; grind) bX bY (by grind) (by rw [hx', hc', hd']; exact exA) (by rw [hy', hc', hd']; exact exB) (by rw [hx']; exact pa) (by rw [hy']; exact pb)
  have z1 := ab_add (fv .f64 (quoRe N.1 N.2 D.1 D.2) - X) (X - v1)
  have z2 := ab_add (fv .f64 (quoIm N.1 N.2 D.1 D.2) - Y) (Y - v2)
  rw [show fv .f64 (quoRe N.1 N.2 D.1 D.2) - X + (X - v1) = fv .f64 (quoRe N.1 N.2 D.1 D.2) - v1 by grind] at z1
  rw [show fv .f64 (quoIm N.1 N.2 D.1 D.2) - Y + (Y - v2) = fv .f64 (quoIm N.1 N.2 D.1 D.2) - v2 by grind] at z2
  refine ⟨⟨g1, g3⟩, ?_, ?_, ?_⟩
  · show ab (fv .f64 (quoRe N.1 N.2 D.1 D.2) - v1) ≤ _
    clear z2 g4; grind
  · show ab (fv .f64 (quoIm N.1 N.2 D.1 D.2) - v2) ≤ _
    clear z1 g2; grind
  · cases h1 : feq .f64 D.1 0
    · rfl
    · cases h2 : feq .f64 D.2 0
      · rfl
      · exfalso
        have e1 := (feq_iff fD.1 (zero_fin .f64).1).1 h1
        have e2 := (feq_iff fD.2 (zero_fin .f64).1).1 h2
        rw [hc', (zero_fin .f64).2] at e1
        rw [hd', (zero_fin .f64).2] at e2
        rw [e1, e2] at eden
        grind
end Go.Proofs.Ytignncjmbcdpaaa

/-
The mean of the quotients of a ringing is near the pole. (Plain arithmetic.)
-/
namespace Go.Proofs.Ytignncjmbcdpaaa
open Go Ieee

/-- The quotients of a ringing. -/
def rq (p a : Nat × Nat) (k : Nat) : Nat × Nat := qC (zC p a (k + 1)) (zC p a k)
theorem pole_le1 {p a : Nat × Nat} (h : RIn p a) : ab (vRe p) ≤ 1 + 1 / 2 ^ 40 ∧ ab (vIm p) ≤ 1 + 1 / 2 ^ 40 := by
  have q1 := sq_nonneg (vRe p)
  have q2 := sq_nonneg (vIm p)
  have ph := h.phi
  have e : nn (vC p) = vRe p * vRe p + vIm p * vIm p := rfl
  exact ⟨ab_le_of_sq (by grind) (by grind), ab_le_of_sq (by grind) (by grind)⟩
theorem cmul_comm' (z w : Rat × Rat) : cmul z w = cmul w z := by unfold cmul; ext <;> (simp only; grind)
/-- A quotient is near the pole, and its divisor is not 0. -/
theorem rq_near {p a : Nat × Nat} (h : RIn p a) (k : Nat) (hk : k ≤ 44) :
    finC (rq p a k) ∧ ab (vRe (rq p a k) - vRe p) ≤ 5 / 4 / 2 ^ 44 ∧ ab (vIm (rq p a k) - vIm p) ≤ 5 / 4 / 2 ^ 44 ∧ (feq .f64 (zC p a k).1 0 && feq .f64 (zC p a k).2 0) = false := by
  obtain ⟨q1, q2⟩ := k45 (show k ≤ 45 by omega)
  have r := ring_near h k (by omega)
  have r2 := ring_near h (k + 1) (by omega)
  obtain ⟨s1, s2⟩ := r.sq (by grind)
  have st := (NearK.step h hk r (by grind)).2
  have l := h.nk_lo k (by omega)
  have u := h.nk_hi k (by omega)
  have z0 := nn_nonneg (vC (zC p a k))
  have c1 : (1 + (k : Rat) / 2 ^ 49) * (1 + (k : Rat) / 2 ^ 49) * nk p a k ≤ 2 * 2 * 2 ^ 7 := mul_mono (mul_mono (by grind) (by grind) (by grind) (by grind)) u (Rat.mul_nonneg (by grind) (by grind)) (by grind)
  have b : BN (vRe (zC p a (k + 1)) - (cmul (vC p) (vC (zC p a k))).1) (vIm (zC p a (k + 1)) - (cmul (vC p) (vC (zC p a k))).2) (3 / 2 ^ 51 * (1 + 1 / 2 ^ 20)) (nn (vC (zC p a k))) := by
    rw [cmul_comm' (vC p)]
    exact BN.shift st (by grind) z0 (by have := h.phi; grind)
  obtain ⟨p1, p2⟩ := pole_le1 h
  obtain ⟨g1, g2, g3, g4⟩ := quot_gen (M := 1 + 1 / 2 ^ 40) r2.1 r.1 b (by grind) (by grind) p1 p2 (by grind) (by grind)
  exact ⟨g1, Rat.le_trans g2 (by grind), Rat.le_trans g3 (by grind), g4⟩

/-- The sum of the first k quotients. -/
def sq' (p a : Nat × Nat) : Nat → Nat × Nat
  | 0 => (0, 0)
  | k + 1 => (fo .add .f64 (sq' p a k).1 (rq p a k).1, fo .add .f64 (sq' p a k).2 (rq p a k).2)
theorem sum_part {s q : Nat} {X : Rat} {k : Rat} (fs : fin .f64 s) (fq : fin .f64 q) (k0 : 0 ≤ k) (k1 : k ≤ 45) (h : ab (fv .f64 s - k * X) ≤ k * (11 / 8 / 2 ^ 44)) (hq : ab (fv .f64 q - X) ≤ 5 / 4 / 2 ^ 44) (hX : ab X ≤ 1 + 1 / 2 ^ 40) :
    fin .f64 (fo .add .f64 s q) ∧ ab (fv .f64 (fo .add .f64 s q) - (k + 1) * X) ≤ (k + 1) * (11 / 8 / 2 ^ 44) := by
  have h' : ab (fv .f64 s - X * k) ≤ k * (11 / 8 / 2 ^ 44) := by rw [Rat.mul_comm]; exact h
  have hq' : ab (fv .f64 q - X * 1) ≤ 5 / 4 / 2 ^ 44 := by rw [Rat.mul_one]; exact hq
  obtain ⟨r1, r2⟩ := part_step fs fq h' hq' (by grind) k0 (by grind) (by grind) (by grind) (by grind)
  refine ⟨r1, ?_⟩
  have m := mul_mono hX (show k + 1 ≤ 46 by grind) (ab_nonneg X) (by grind)
  rw [Rat.mul_comm X (k + 1)] at r2
  grind
theorem sums_near {p a : Nat × Nat} (h : RIn p a) (k : Nat) (hk : k ≤ 45) : finC (sq' p a k) ∧ ab (vRe (sq' p a k) - (k : Rat) * vRe p) ≤ (k : Rat) * (11 / 8 / 2 ^ 44) ∧ ab (vIm (sq' p a k) - (k : Rat) * vIm p) ≤ (k : Rat) * (11 / 8 / 2 ^ 44) := by
  induction k with
  | zero =>
    obtain ⟨z1, z2⟩ := zero_fin .f64
    refine ⟨⟨z1, z1⟩, ?_, ?_⟩
    · show ab (fv .f64 0 - ((0 : Nat) : Rat) * vRe p) ≤ ((0 : Nat) : Rat) * _
      rw [z2, show ((0 : Nat) : Rat) = 0 from rfl, Rat.zero_mul, Rat.zero_mul, show (0 : Rat) - 0 = 0 by grind, ab_of_nonneg Rat.le_refl]; exact Rat.le_refl
    · show ab (fv .f64 0 - ((0 : Nat) : Rat) * vIm p) ≤ ((0 : Nat) : Rat) * _
      rw [z2, show ((0 : Nat) : Rat) = 0 from rfl, Rat.zero_mul, Rat.zero_mul, show (0 : Rat) - 0 = 0 by grind, ab_of_nonneg Rat.le_refl]; exact Rat.le_refl
  | succ k ih =>
    obtain ⟨q1, q2⟩ := k45 (show k ≤ 45 by omega)
    obtain ⟨i1, i2, i3⟩ := ih (by omega)
    obtain ⟨g1, g2, g3, _⟩ := rq_near h k (by omega)
    obtain ⟨p1, p2⟩ := pole_le1 h
    have ec : ((k + 1 : Nat) : Rat) = (k : Rat) + 1 := by simp
    rw [ec]
    obtain ⟨a1, a2⟩ := sum_part i1.1 g1.1 q1 q2 i2 g2 p1
    obtain ⟨b1, b2⟩ := sum_part i1.2 g1.2 q1 q2 i3 g3 p2
    exact ⟨⟨a1, b1⟩, a2, b2⟩
/-- **THE MEAN.** -/
theorem mean_near {p a : Nat × Nat} (h : RIn p a) (k : Nat) (hk : k ≤ 45) (hk1 : 1 ≤ k) :
    finC (qC (sq' p a k) (floatOfInt .f64 (k : Int), 0)) ∧ ab (vRe (qC (sq' p a k) (floatOfInt .f64 (k : Int), 0)) - vRe p) ≤ 13 / 4 / 2 ^ 44 ∧ ab (vIm (qC (sq' p a k) (floatOfInt .f64 (k : Int), 0)) - vIm p) ≤ 13 / 4 / 2 ^ 44 ∧
      (feq .f64 (floatOfInt .f64 (k : Int)) 0 && feq .f64 0 0) = false := by
  obtain ⟨q1, q2⟩ := k45 hk
  have q3 : (1 : Rat) ≤ (k : Rat) := by
    have := Rat.natCast_le_natCast.2 hk1
    simpa using this
  obtain ⟨i1, i2, i3⟩ := sums_near h k hk
  obtain ⟨p1, p2⟩ := pole_le1 h
  have b53 : 2 * FloatKind.f64.format.binade = 2 ^ 53 := by decide +kernel
  obtain ⟨e1, e2⟩ := int_exact .f64 (k : Int) (by omega)
  rw [Rat.intCast_natCast] at e2
  obtain ⟨z1, z2⟩ := zero_fin .f64
  have fD : finC (floatOfInt .f64 (k : Int), 0) := ⟨e1, z1⟩
  have eD : vC (floatOfInt .f64 (k : Int), 0) = ((k : Rat), 0) := by
    show (fv .f64 _, fv .f64 0) = _
    rw [e2, z2]
  have en : nn (vC (floatOfInt .f64 (k : Int), 0)) = (k : Rat) * (k : Rat) := by rw [eD]; unfold nn; simp only; grind
  have kk := mul_mono q3 q3 (by grind) (by grind)
  have kk2 := mul_mono q2 q2 q1 (by grind)
  have b : BN (vRe (sq' p a k) - (cmul (vC p) (vC (floatOfInt .f64 (k : Int), 0))).1) (vIm (sq' p a k) - (cmul (vC p) (vC (floatOfInt .f64 (k : Int), 0))).2) (11 / 8 / 2 ^ 44 * (3 / 2)) (nn (vC (floatOfInt .f64 (k : Int), 0))) := by
    rw [en, eD]
    have x1 : (cmul (vC p) ((k : Rat), 0)).1 = (k : Rat) * vRe p := by unfold cmul vC; simp only; grind
    have x2 : (cmul (vC p) ((k : Rat), 0)).2 = (k : Rat) * vIm p := by unfold cmul vC; simp only; grind
    rw [x1, x2]
    refine box_BN i2 i3 (by grind) (by grind) ?_
    generalize (k : Rat) = c at *
    have : c * (11 / 8 / 2 ^ 44) * (c * (11 / 8 / 2 ^ 44)) = c * c * (11 / 8 / 2 ^ 44 * (11 / 8 / 2 ^ 44)) := by grind
    rw [this]
    generalize c * c = cc at *
    grind
  obtain ⟨g1, g2, g3, g4⟩ := quot_gen (M := 1 + 1 / 2 ^ 40) i1 fD b (by rw [en]; grind) (by rw [en]; grind) p1 p2 (by grind) (by grind)
  exact ⟨g1, Rat.le_trans g2 (by grind), Rat.le_trans g3 (by grind), g4⟩
end Go.Proofs.Ytignncjmbcdpaaa

/-
Least squares over the ringing of a mode: all is finite, and the pole is met. (Plain arithmetic.)
-/
namespace Go.Proofs.Ytignncjmbcdpaaa
open Go Ieee

/-- The lists z[1:] and z[:n-1]. -/
def nxt (p a : Nat × Nat) (n : Nat) : List (Nat × Nat) := (zList p a n).drop 1
def fst' (p a : Nat × Nat) (n : Nat) : List (Nat × Nat) := (zList p a n).take (n - 1)
theorem nxt_at {p a : Nat × Nat} {n k : Nat} (h : k < n - 1) : cgetD (nxt p a n) k = zC p a (k + 1) := by
  unfold cgetD nxt zList
  simp only [List.getD, List.getElem?_drop, List.getElem?_map]
  rw [List.getElem?_range (by omega), Nat.add_comm 1 k]
  rfl
theorem fst_at {p a : Nat × Nat} {n k : Nat} (h : k < n - 1) : cgetD (fst' p a n) k = zC p a k := by
  unfold cgetD fst' zList
  simp only [List.getD, List.getElem?_take, if_pos h, List.getElem?_map]
  rw [List.getElem?_range (by omega)]
  rfl
/-- The size of a start. -/
def siz (a : Nat × Nat) : Rat := ab (vRe a) + ab (vIm a)
theorem siz_nonneg (a : Nat × Nat) : 0 ≤ siz a := by
  have := ab_nonneg (vRe a)
  have := ab_nonneg (vIm a)
  unfold siz; grind
structure FitIn (p a : Nat × Nat) : Prop where
  fp : finC p
  fa : finC a
  hp : B2 (vRe p) (vIm p) rho
  hR : siz a ≤ 2 ^ 12
def uU (a : Nat × Nat) : Rat := siz a * siz a + 1 / 2 ^ 100
theorem FitIn.ring {p a : Nat × Nat} (h : FitIn p a) (k : Nat) (hk : k ≤ 100) : RingAt p (zC p a k) (siz a * (1 + 1 / 2 ^ 20) + 1 / 2 ^ 170) := by
  have b : RingAt p a (siz a) := ⟨h.fa, B2.l1 _ _⟩
  have r := ring_all h.fp h.hp b (by have := h.hR; grind) k hk
  have s0 := siz_nonneg a
  have k0 : (0 : Rat) ≤ (k : Rat) := Rat.natCast_nonneg
  have k1 : (k : Rat) ≤ 100 := by
    have := Rat.natCast_le_natCast.2 hk
    simpa using this
  have kR : (k : Rat) * siz a ≤ 100 * siz a := Rat.mul_le_mul_of_nonneg_right k1 s0
  exact ⟨r.f, r.b.le (by grind)⟩
theorem rad_le {R : Rat} (h0 : 0 ≤ R) (h1 : R ≤ 2 ^ 12) : R * (1 + 1 / 2 ^ 20) + 1 / 2 ^ 170 ≤ 2 ^ 20 ∧ (R * (1 + 1 / 2 ^ 20) + 1 / 2 ^ 170) * (R * (1 + 1 / 2 ^ 20) + 1 / 2 ^ 170) ≤ (R * R + 1 / 2 ^ 100) * (1 + 1 / 2 ^ 18) := by
  have q := Rat.mul_nonneg h0 h0
  exact ⟨by grind, by grind⟩
theorem tsum_le {p a : Nat × Nat} (h : FitIn p a) (k : Nat) (hk : k ≤ 100) : tsum (zC p a) k ≤ (k : Rat) * 2 ^ 26 := by
  induction k with
  | zero => show (0 : Rat) ≤ _; simp
  | succ k ih =>
    have i := ih (by omega)
    have r := (h.ring k (by omega)).b.2
    have s0 := siz_nonneg a
    obtain ⟨_, r2⟩ := rad_le s0 h.hR
    have m := mul_mono h.hR h.hR s0 (by grind)
    have ec : ((k + 1 : Nat) : Rat) = (k : Rat) + 1 := by simp
    rw [ec]
    show tsum (zC p a) k + _ ≤ _
    grind
theorem parts54 {x y : Rat} (h : B2 x y rho) : ab x ≤ 5 / 4 ∧ ab y ≤ 5 / 4 := by
  obtain ⟨a, b⟩ := h.parts
  unfold rho at a b
  exact ⟨by grind, by grind⟩
/-- **THE SUMS.** -/
theorem corr_sums {p a : Nat × Nat} (h : FitIn p a) (n : Nat) (hn : n ≤ 100) (k : Nat) (hk : k ≤ n - 1) :
    SumAt (corrW (nxt p a n) (fst' p a n) k) (vRe p) (vIm p) (tsum (zC p a) k) (eAt (k : Rat) (tsum (zC p a) k) (uU a)) ∧
    SumAt (corrW (fst' p a n) (fst' p a n) k) 1 0 (tsum (zC p a) k) (eAt (k : Rat) (tsum (zC p a) k) (uU a)) ∧
    (∀ j, j < k → finC (prodC (cgetD (nxt p a n) j) (conjW (cgetD (fst' p a n) j))) ∧ finC (prodC (cgetD (fst' p a n) j) (conjW (cgetD (fst' p a n) j)))) := by
  have s0 := siz_nonneg a
  obtain ⟨r1, r2⟩ := rad_le s0 h.hR
  have m := mul_mono h.hR h.hR s0 (by grind)
  have U0 : 0 ≤ uU a := by have := Rat.mul_nonneg s0 s0; unfold uU; grind
  have U1 : uU a ≤ 2 ^ 40 := by unfold uU; grind
  obtain ⟨pr, pi⟩ := parts54 h.hp
  induction k with
  | zero =>
    obtain ⟨z1, z2⟩ := zero_fin .f64
    have e : eAt ((0 : Nat) : Rat) (tsum (zC p a) 0) (uU a) = 0 := by unfold eAt; simp; grind
    have e0 : ∀ X : Rat, ab (fv .f64 0 - X * 0) ≤ 0 := fun X => by rw [z2, show (0 : Rat) - X * 0 = 0 by grind, ab_of_nonneg Rat.le_refl]; exact Rat.le_refl
    refine ⟨⟨⟨z1, z1⟩, ?_, ?_⟩, ⟨⟨z1, z1⟩, ?_, ?_⟩, fun j hj => absurd hj (Nat.not_lt_zero _)⟩ <;> (rw [e]; exact e0 _)
  | succ k ih =>
    obtain ⟨i1, i2, i3⟩ := ih (by omega)
    have hk' : k < n - 1 := by omega
    have rk := h.ring k (by omega)
    have rk' : RingAt p (prodC (zC p a k) p) _ := h.ring (k + 1) (by omega)
    have T0 := tsum_nonneg (zC p a) k
    have T1 := tsum_le h (k + 1) (by omega)
    have k0 : (0 : Rat) ≤ (k : Rat) := Rat.natCast_nonneg
    have k1 : (k : Rat) ≤ 100 := by
      have := Rat.natCast_le_natCast.2 (show k ≤ 100 by omega)
      simpa using this
    have k2 : ((k + 1 : Nat) : Rat) ≤ 100 := by
      have := Rat.natCast_le_natCast.2 (show k + 1 ≤ 100 by omega)
      simpa using this
    have ec : ((k + 1 : Nat) : Rat) = (k : Rat) + 1 := by simp
    have q1 := sq_nonneg (vRe (zC p a k))
    have q2 := sq_nonneg (vIm (zC p a k))
    obtain ⟨g1, g2, g3⟩ := term_next h.fp h.hp rk rk' r1
    obtain ⟨d1, d2, d3⟩ := term_sq rk r1
    have b1 : (siz a * (1 + 1 / 2 ^ 20) + 1 / 2 ^ 170) * (siz a * (1 + 1 / 2 ^ 20) + 1 / 2 ^ 170) * (5 / 2) * (1 + 1 / 2 ^ 30) / 2 ^ 51 + 1 / 2 ^ 170 ≤ uU a * (21 / 8) / 2 ^ 51 + 1 / 2 ^ 160 := by
      unfold uU at U0 ⊢
      generalize (siz a * (1 + 1 / 2 ^ 20) + 1 / 2 ^ 170) * (siz a * (1 + 1 / 2 ^ 20) + 1 / 2 ^ 170) = Q at *
      generalize siz a * siz a + 1 / 2 ^ 100 = V at *
      clear g2 g3 d2 d3 i1 i2
      grind
    have b2 : (siz a * (1 + 1 / 2 ^ 20) + 1 / 2 ^ 170) * (siz a * (1 + 1 / 2 ^ 20) + 1 / 2 ^ 170) / 2 ^ 51 + 1 / 2 ^ 197 ≤ uU a * (21 / 8) / 2 ^ 51 + 1 / 2 ^ 160 := by
      unfold uU at U0 ⊢
      generalize (siz a * (1 + 1 / 2 ^ 20) + 1 / 2 ^ 170) * (siz a * (1 + 1 / 2 ^ 20) + 1 / 2 ^ 170) = Q at *
      generalize siz a * siz a + 1 / 2 ^ 100 = V at *
      clear g2 g3 d2 d3 i1 i2
      grind
    have T2 : tsum (zC p a) k + (vRe (zC p a k) * vRe (zC p a k) + vIm (zC p a k) * vIm (zC p a k)) ≤ 2 ^ 50 := by
      have : tsum (zC p a) (k + 1) ≤ 2 ^ 50 := by grind
      exact this
    have s1 := sum_step i1 g1 (Rat.le_trans g2 b1) (Rat.le_trans g3 b1) pr pi k0 k1 T0 (by grind) T2 U0 U1
    have s2 := sum_step i2 d1 (Rat.le_trans d2 b2) (Rat.le_trans d3 b2) (by rw [ab_of_nonneg (by grind)]; grind) (by rw [ab_of_nonneg Rat.le_refl]; grind) k0 k1 T0 (by grind) T2 U0 U1
    have e1 : cgetD (nxt p a n) k = prodC (zC p a k) p := nxt_at hk'
    have e2 := fst_at (p := p) (a := a) hk'
    refine ⟨?_, ?_, fun j hj => ?_⟩
    · rw [ec]
      show SumAt (fo .add .f64 (corrW (nxt p a n) (fst' p a n) k).1 (prodC (cgetD (nxt p a n) k) (conjW (cgetD (fst' p a n) k))).1, _) _ _ _ _
      rw [e1, e2]; exact s1
    · rw [ec]
      show SumAt (fo .add .f64 (corrW (fst' p a n) (fst' p a n) k).1 (prodC (cgetD (fst' p a n) k) (conjW (cgetD (fst' p a n) k))).1, _) _ _ _ _
      rw [e2]; exact s2
    · rcases Nat.lt_succ_iff_lt_or_eq.1 hj with h1 | h1
      · exact i3 j h1
      · subst h1
        rw [e1, e2]; exact ⟨g1, d1⟩
theorem corr_ok {p a : Nat × Nat} (h : FitIn p a) (n : Nat) (hn : n ≤ 100) : CorrOk (nxt p a n) (fst' p a n) (n - 1) ∧ CorrOk (fst' p a n) (fst' p a n) (n - 1) := by
  constructor
  · intro k hk
    obtain ⟨s1, s2, s3⟩ := corr_sums h n hn (k + 1) (by omega)
    exact ⟨(s3 k (by omega)).1, s1.f⟩
  · intro k hk
    obtain ⟨s1, s2, s3⟩ := corr_sums h n hn (k + 1) (by omega)
    exact ⟨(s3 k (by omega)).2, s2.f⟩
/-- **THE FIT.** -/
theorem fit_near {p a : Nat × Nat} (h : FitIn p a) (hlo : 1 / 2 ^ 6 ≤ siz a) (n : Nat) (h2 : 2 ≤ n) (hn : n ≤ 42) :
    fin .f64 (quoRe (corrW (nxt p a n) (fst' p a n) (n - 1)).1 (corrW (nxt p a n) (fst' p a n) (n - 1)).2 (corrW (fst' p a n) (fst' p a n) (n - 1)).1 (corrW (fst' p a n) (fst' p a n) (n - 1)).2) ∧
    fin .f64 (quoIm (corrW (nxt p a n) (fst' p a n) (n - 1)).1 (corrW (nxt p a n) (fst' p a n) (n - 1)).2 (corrW (fst' p a n) (fst' p a n) (n - 1)).1 (corrW (fst' p a n) (fst' p a n) (n - 1)).2) ∧
    ab (fv .f64 (quoRe (corrW (nxt p a n) (fst' p a n) (n - 1)).1 (corrW (nxt p a n) (fst' p a n) (n - 1)).2 (corrW (fst' p a n) (fst' p a n) (n - 1)).1 (corrW (fst' p a n) (fst' p a n) (n - 1)).2) - vRe p) ≤ 13 / 2 ^ 45 ∧
    ab (fv .f64 (quoIm (corrW (nxt p a n) (fst' p a n) (n - 1)).1 (corrW (nxt p a n) (fst' p a n) (n - 1)).2 (corrW (fst' p a n) (fst' p a n) (n - 1)).1 (corrW (fst' p a n) (fst' p a n) (n - 1)).2) - vIm p) ≤ 13 / 2 ^ 45 ∧
    (feq .f64 (corrW (fst' p a n) (fst' p a n) (n - 1)).1 0 && feq .f64 (corrW (fst' p a n) (fst' p a n) (n - 1)).2 0) = false := by
  obtain ⟨s1, s2, _⟩ := corr_sums h n (by omega) (n - 1) (Nat.le_refl _)
  obtain ⟨k, hk⟩ : ∃ k, n - 1 = k + 1 := ⟨n - 2, by omega⟩
  rw [hk] at s1 s2 ⊢
  have T1 := tsum_le h (k + 1) (by omega)
  have k0 : (0 : Rat) ≤ ((k + 1 : Nat) : Rat) := Rat.natCast_nonneg
  have k2 : ((k + 1 : Nat) : Rat) ≤ 41 := by
    have := Rat.natCast_le_natCast.2 (show k + 1 ≤ 41 by omega)
    simpa using this
  have T0 : vRe a * vRe a + vIm a * vIm a ≤ tsum (zC p a) (k + 1) := by
    clear s1 s2 T1 k0 k2 hk
    induction k with
    | zero =>
      show _ ≤ (0 : Rat) + (vRe (zC p a 0) * vRe (zC p a 0) + vIm (zC p a 0) * vIm (zC p a 0))
      show vRe a * vRe a + vIm a * vIm a ≤ (0 : Rat) + (vRe a * vRe a + vIm a * vIm a)
      grind
    | succ k ih =>
      have q1 := sq_nonneg (vRe (zC p a (k + 1)))
      have q2 := sq_nonneg (vIm (zC p a (k + 1)))
      have e : tsum (zC p a) (k + 1 + 1) = tsum (zC p a) (k + 1) + (vRe (zC p a (k + 1)) * vRe (zC p a (k + 1)) + vIm (zC p a (k + 1)) * vIm (zC p a (k + 1))) := rfl
      rw [e]
      grind
  have hsq : siz a * siz a ≤ 2 * tsum (zC p a) (k + 1) := by
    have a1 := ab_sq (vRe a)
    have a2 := ab_sq (vIm a)
    have a3 := sq_nonneg (ab (vRe a) - ab (vIm a))
    unfold siz
    grind
  have hl2 := mul_mono hlo hlo (by grind) (siz_nonneg a)
  generalize tsum (zC p a) (k + 1) = T at *
  have hT : 1 / 2 ^ 20 ≤ T := by grind
  have kT : ((k + 1 : Nat) : Rat) * T ≤ 41 * T := Rat.mul_le_mul_of_nonneg_right k2 (by grind)
  have kT0 : 0 ≤ ((k + 1 : Nat) : Rat) * T := Rat.mul_nonneg k0 (by grind)
  have hU : uU a ≤ 2 * T + T / 2 ^ 70 := by unfold uU; grind
  have U0 : 0 ≤ uU a := by have := Rat.mul_nonneg (siz_nonneg a) (siz_nonneg a); unfold uU; grind
  have kU : ((k + 1 : Nat) : Rat) * uU a ≤ 41 * uU a := Rat.mul_le_mul_of_nonneg_right k2 U0
  have kU0 : 0 ≤ ((k + 1 : Nat) : Rat) * uU a := Rat.mul_nonneg k0 U0
  exact quot_near s1 s2 hT (by grind) (by unfold eAt; grind) (by unfold eAt; grind) h.hp
end Go.Proofs.Ytignncjmbcdpaaa

/-
impl.DivideDouble at finite numbers; impl.FitSquares over the ringing of a mode.
-/
namespace Go.Proofs.Ytignncjmbcdpaaa
open Go Go.RowKit Ieee

/-- What DivideDouble returns of finite numbers. -/
def DivPost (a b c d : Nat) (w : World) (e : Ending) (w' : World) : Prop :=
  ∃ p q t n, e = .returned (.tuple #[.complex .f64 p q, .bool t]) ∧ (fin .f64 p ∧ fin .f64 q ∧ wfk .f64 p ∧ wfk .f64 q) ∧
    ((feq .f64 c 0 && feq .f64 d 0) = false → fin .f64 (quoRe a b c d) → fin .f64 (quoIm a b c d) → p = quoRe a b c d ∧ q = quoIm a b c d ∧ t = true) ∧ w.drewN n = w'
theorem zero64 : fin .f64 0 ∧ wfk .f64 0 := ⟨(zero_fin .f64).1, by show (0 : Nat) < 18446744073709551616; omega⟩
set_option maxRecDepth 100000 in
set_option maxHeartbeats 400000 in
theorem divide_any (a b c d : Nat) (w : World) (fa : fin .f64 a) (fb : fin .f64 b) (fc : fin .f64 c) (fd : fin .f64 d) (wa : wfk .f64 a) (wb : wfk .f64 b) (wc : wfk .f64 c) (wd : wfk .f64 d) :
    Calls Try.prog 80 #[.complex .f64 a b, .complex .f64 c d] w (DivPost a b c d w) := by
  have Ha := Lib.hid (show (finB a && finB b) = true by rw [finB_of fa, finB_of fb]; rfl)
  have Hc := Lib.hid (show (finB c && finB d) = true by rw [finB_of fc, finB_of fd]; rfl)
  clear fa fb fc fd
  cases hz : (feq .f64 c 0 && feq .f64 d 0)
  · have Hz := Lib.hid hz
    clear hz
    go_enter Try.func80, Try.ntmps80
    go_wp2_with fail
    refine (finiteDouble_any a b _ wa wb).mono ?_
    rintro e w' ⟨rfl, rfl⟩
    rw [Ha.out]
    go_wp2_with fail
    refine (finiteDouble_any c d _ wc wd).mono ?_
    rintro e w' ⟨rfl, rfl⟩
    rw [Hc.out]
    go_wp2_with fail
    refine (equalDouble_any c d 0 0 _).mono ?_
    rintro e w' ⟨rfl, rfl⟩
    rw [Hz.out]
    go_wp2_with fail
    refine (quot_any a b c d _ wc wd).mono ?_
    rintro e w' ⟨p, q, n, rfl, h1, h2, w1, w2, rfl⟩
    have P1 := Lib.hid h1
    have P2 := Lib.hid h2
    have W1 := Lib.hid w1
    have W2 := Lib.hid w2
    clear w1 w2 h1 h2
    cases hq : (finB p && finB q)
    · have Hq := Lib.hid hq
      clear hq
      go_wp2_with fail
      refine (finiteDouble_any p q _ W1.out W2.out).mono ?_
      rintro e w' ⟨rfl, rfl⟩
      rw [Hq.out]
      go_wp2_with fail
      go_ret2
      refine ⟨0, 0, false, n, rfl, ⟨zero64.1, zero64.1, zero64.2, zero64.2⟩, fun _ h1 h2 => ?_, rfl⟩
      exfalso
      have e1 : p = quoRe a b c d := nrm_fin_eq (P1.out.trans (nrm_fin h1)) h1
      have e2 : q = quoIm a b c d := nrm_fin_eq (P2.out.trans (nrm_fin h2)) h2
      have := Hq.out
      rw [e1, e2, finB_of h1, finB_of h2] at this
      cases this
    · have Hq := Lib.hid hq
      clear hq
      go_wp2_with fail
      refine (finiteDouble_any p q _ W1.out W2.out).mono ?_
      rintro e w' ⟨rfl, rfl⟩
      rw [Hq.out]
      go_wp2_with fail
      go_ret2
      have h := Hq.out
      rw [Bool.and_eq_true] at h
      exact ⟨p, q, true, n, rfl, ⟨(finB_iff p).1 h.1, (finB_iff q).1 h.2, W1.out, W2.out⟩, fun _ h1 h2 => ⟨nrm_fin_eq (P1.out.trans (nrm_fin h1)) h1, nrm_fin_eq (P2.out.trans (nrm_fin h2)) h2, rfl⟩, rfl⟩
  · have Hz := Lib.hid hz
    clear hz
    go_enter Try.func80, Try.ntmps80
    go_wp2_with fail
    refine (finiteDouble_any a b _ wa wb).mono ?_
    rintro e w' ⟨rfl, rfl⟩
    rw [Ha.out]
    go_wp2_with fail
    refine (finiteDouble_any c d _ wc wd).mono ?_
    rintro e w' ⟨rfl, rfl⟩
    rw [Hc.out]
    go_wp2_with fail
    refine (equalDouble_any c d 0 0 _).mono ?_
    rintro e w' ⟨rfl, rfl⟩
    rw [Hz.out]
    go_wp2_with fail
    go_ret2
    exact ⟨0, 0, false, 0, rfl, ⟨zero64.1, zero64.1, zero64.2, zero64.2⟩, fun h => (by have := Hz.out; rw [h] at this; cases this), World.drewN_zero w⟩

theorem c64s_take (xs : List (Nat × Nat)) (k : Nat) : c64s (xs.take k) = (c64s xs).take k := by simp [c64s, List.map_take]
theorem c64s_drop (xs : List (Nat × Nat)) (k : Nat) : c64s (xs.drop k) = (c64s xs).drop k := by simp [c64s, List.map_drop]
theorem rdV_take {w : World} {A : Option Addr} {xs : List Value} (h : Rd w A xs) (k : Nat) : Rd w A (xs.take k) := fun hl => by
  have hl' : 0 < xs.length := by
    simp only [List.length_take] at hl; omega
  obtain ⟨b, off, e, hb, hc⟩ := h hl'
  refine ⟨b, off, e, hb, fun j u hu => hc j u ?_⟩
  rw [List.getElem?_take] at hu
  split at hu
  · exact hu
  · cases hu
theorem rdV_drop {w : World} {b off : Nat} {xs : List Value} (h : Rd w (some ⟨b, off, none⟩) xs) : Rd w (some ⟨b, off + 1, none⟩) (xs.drop 1) := fun hl => by
  have hl' : 0 < xs.length := by
    simp only [List.length_drop] at hl; omega
  obtain ⟨b', off', e, hb, hc⟩ := h hl'
  injection e with e
  injection e with e1 e2
  subst e1 e2
  refine ⟨b, off + 1, rfl, hb, fun j u hu => ?_⟩
  rw [List.getElem?_drop] at hu
  have := hc (1 + j) u hu
  rw [show off + 1 + j = off + (1 + j) by omega]
  exact this
theorem corrW_lt (xs ys : List (Nat × Nat)) (k : Nat) : wfk .f64 (corrW xs ys k).1 ∧ wfk .f64 (corrW xs ys k).2 := by
  cases k with
  | zero => exact ⟨zero64.2, zero64.2⟩
  | succ k => exact ⟨fo_lt _ _ _ _, fo_lt _ _ _ _⟩

/-- What FitSquares returns over a ringing. -/
def FitPost (p a : Nat × Nat) (n : Nat) (w : World) (e : Ending) (w' : World) : Prop :=
  ∃ q1 q2 t j, e = .returned (.tuple #[.complex .f64 q1 q2, .bool t]) ∧ (fin .f64 q1 ∧ fin .f64 q2 ∧ wfk .f64 q1 ∧ wfk .f64 q2) ∧
    (1 / 2 ^ 6 ≤ siz a → ab (fv .f64 q1 - vRe p) ≤ 13 / 2 ^ 45 ∧ ab (fv .f64 q2 - vIm p) ≤ 13 / 2 ^ 45 ∧ t = true) ∧ w.drewN j = w'
set_option maxRecDepth 100000 in
set_option maxHeartbeats 400000 in
theorem fitSquares_any (p a : Nat × Nat) (g c n : Nat) (w : World) (h : FitIn p a) (h2 : 2 ≤ n) (hn : n ≤ 42) (hc : n ≤ c) (hr : Rd w (some ⟨g, 0, none⟩) (c64s (zList p a n))) :
    Calls Try.prog 47 #[.slice (some ⟨g, 0, none⟩) n c] w (FitPost p a n w) := by
  obtain ⟨k, hk⟩ : ∃ k, n = k + 1 := ⟨n - 1, by omega⟩
  have R1 : Hid (Rd w (some ⟨g, 1, none⟩) (c64s (nxt p a n))) := by
    have := rdV_drop hr
    rw [← c64s_drop] at this
    exact this
  have R2 : Hid (Rd w (some ⟨g, 0, none⟩) (c64s (fst' p a n))) := by
    have := rdV_take hr (n - 1)
    rw [← c64s_take] at this
    exact this
  have L1 : Hid ((nxt p a n).length = k) := by show _ = _; unfold nxt; rw [List.length_drop, zList_len]; omega
  have L2 : Hid ((fst' p a n).length = k) := by show _ = _; unfold fst'; rw [List.length_take, zList_len]; omega
  have ok := corr_ok h n (by omega)
  have nr : 1 / 2 ^ 6 ≤ siz a → _ := fun hlo => fit_near h hlo n h2 hn
  rw [show n - 1 = k by omega] at ok nr
  have OK := Lib.hid ok
  have NR := Lib.hid nr
  have C1 := Lib.hid (corrW_lt (nxt p a n) (fst' p a n) k)
  have C2 := Lib.hid (corrW_lt (fst' p a n) (fst' p a n) k)
  have F1 : Hid (finC (corrW (nxt p a n) (fst' p a n) k) ∧ finC (corrW (fst' p a n) (fst' p a n) k)) := by
    obtain ⟨s1, s2, _⟩ := corr_sums h n (by omega) k (by omega)
    exact ⟨s1.f, s2.f⟩
  have T1 := Lib.hid (fun (j cc dd : Nat) => corr_any (some ⟨g, 1, none⟩) (some ⟨g, 0, none⟩) cc dd k k (nxt p a n) (fst' p a n) (w.drewN j) (R1.out.drewN j) (R2.out.drewN j) L1.out L2.out (by omega) rfl ok.1)
  have T2 := Lib.hid (fun (j cc dd : Nat) => corr_any (some ⟨g, 0, none⟩) (some ⟨g, 0, none⟩) cc dd k k (fst' p a n) (fst' p a n) (w.drewN j) (R2.out.drewN j) (R2.out.drewN j) L2.out L2.out (by omega) rfl ok.2)
  have T3 := Lib.hid (fun W => divide_any (corrW (nxt p a n) (fst' p a n) k).1 (corrW (nxt p a n) (fst' p a n) k).2 (corrW (fst' p a n) (fst' p a n) k).1 (corrW (fst' p a n) (fst' p a n) k).2 W F1.out.1.1 F1.out.1.2 F1.out.2.1 F1.out.2.2 C1.out.1 C1.out.2 C2.out.1 C2.out.2)
  clear ok nr OK C1 C2 F1 R1 R2 L1 L2 h hr
  obtain ⟨N1, hN1⟩ : ∃ x, (corrW (nxt p a n) (fst' p a n) k).1 = x := ⟨_, rfl⟩
  obtain ⟨N2, hN2⟩ : ∃ x, (corrW (nxt p a n) (fst' p a n) k).2 = x := ⟨_, rfl⟩
  obtain ⟨D1, hD1⟩ : ∃ x, (corrW (fst' p a n) (fst' p a n) k).1 = x := ⟨_, rfl⟩
  obtain ⟨D2, hD2⟩ : ∃ x, (corrW (fst' p a n) (fst' p a n) k).2 = x := ⟨_, rfl⟩
  rw [hN1, hN2] at T1
  rw [hD1, hD2] at T2
  rw [hN1, hN2, hD1, hD2] at T3 NR
  clear hN1 hN2 hD1 hD2
  have hk1 : 1 ≤ k := by omega
  have hk2 : ¬ (c = 1) := by omega
  have hsub : (n : Int) - 1 = (k : Int) := by omega
  have hlt : (k : Int) ≤ (c : Int) := by omega
  have hn0 : ((n : Int) == 0) = false := beq_eq_false_iff_ne.2 (by omega)
  have hn1 : (1 : Int) ≤ (n : Int) := by omega
  have hnk : n - 1 = k := by omega
  have HK := Lib.hid hk
  clear hk
  go_enter Try.func47, Try.ntmps47
  go_wp2_with fail
  refine (T1.out 0 _ _).mono ?_
  rintro e w' ⟨rfl, j1, rfl⟩
  go_wp2_with fail
  refine (T2.out j1 _ _).mono ?_
  rintro e w' ⟨rfl, j2, rfl⟩
  go_wp2_with fail
  refine (T3.out _).mono ?_
  intro e w' hp
  unfold DivPost at hp
  obtain ⟨p1, p2, t, j3, rfl, hf, hq, rfl⟩ := hp
  have HF := Lib.hid hf
  have HQ := Lib.hid hq
  clear hf hq
  go_wp2_with fail
  go_ret2
  refine ⟨p1, p2, t, _, rfl, HF.out, fun hlo => ?_, rfl⟩
  obtain ⟨a1, a2, a3, a4, a5⟩ := NR.out hlo
  obtain ⟨q1, q2, q3⟩ := HQ.out a5 a1 a2
  rw [q1, q2]
  exact ⟨a3, a4, q3⟩
end Go.Proofs.Ytignncjmbcdpaaa

/-
impl.QuotientsOf, impl.FitQuotients over the ringing of a mode.
-/
namespace Go.Proofs.Ytignncjmbcdpaaa
open Go Go.RowKit Ieee

theorem zC_wf {p a : Nat × Nat} (h : wfk .f64 a.1 ∧ wfk .f64 a.2) (k : Nat) : wfk .f64 (zC p a k).1 ∧ wfk .f64 (zC p a k).2 := by
  cases k with
  | zero => exact h
  | succ k => exact ⟨fo_lt _ _ _ _, fo_lt _ _ _ _⟩
/-- A division that is well. -/
theorem div_ok {a b c d : Nat} (W : World) (fa : fin .f64 a) (fb : fin .f64 b) (fc : fin .f64 c) (fd : fin .f64 d) (wa : wfk .f64 a) (wb : wfk .f64 b) (wc : wfk .f64 c) (wd : wfk .f64 d)
    (hz : (feq .f64 c 0 && feq .f64 d 0) = false) (h : finC (qC (a, b) (c, d))) :
    Calls Try.prog 80 #[.complex .f64 a b, .complex .f64 c d] W fun e w' => e = .returned (.tuple #[.complex .f64 (qC (a, b) (c, d)).1 (qC (a, b) (c, d)).2, .bool true]) ∧ ∃ j, W.drewN j = w' := by
  refine (divide_any a b c d W fa fb fc fd wa wb wc wd).mono ?_
  intro e w' hp
  unfold DivPost at hp
  obtain ⟨p, q, t, j, rfl, _, hq, rfl⟩ := hp
  obtain ⟨rfl, rfl, rfl⟩ := hq hz h.1 h.2
  exact ⟨rfl, j, rfl⟩
/-- The quotients. -/
def qList (p a : Nat × Nat) (n : Nat) : List (Nat × Nat) := (List.range n).map (rq p a)
theorem qList_len (p a : Nat × Nat) (n : Nat) : (qList p a n).length = n := by simp [qList]
theorem qList_snoc (p a : Nat × Nat) (n : Nat) : c64s (qList p a n) ++ [.complex .f64 (rq p a n).1 (rq p a n).2] = c64s (qList p a (n + 1)) := by simp [qList, c64s, List.range_succ]
theorem zList_get {p a : Nat × Nat} {n k : Nat} (h : k < n) : (c64s (zList p a n))[k]? = some (.complex .f64 (zC p a k).1 (zC p a k).2) := by
  simp [c64s, zList, h]
theorem qList_get {p a : Nat × Nat} {n k : Nat} (h : k < n) : (c64s (qList p a n))[k]? = some (.complex .f64 (rq p a k).1 (rq p a k).2) := by
  simp [c64s, qList, h]

def QuotPost (p a : Nat × Nat) (n : Nat) (w : World) (e : Ending) (w' : World) : Prop :=
  ∃ (A : Option Addr) (c : Nat), e = .returned (.tuple #[.slice A (n - 1) c, .bool true]) ∧ Rd w' A (c64s (qList p a (n - 1))) ∧ Below w.heap.size w w'
set_option maxRecDepth 100000 in
set_option maxHeartbeats 1000000 in
theorem quotients_any (p a : Nat × Nat) (A : Option Addr) (c n : Nat) (w : World) (hi : RIn p a) (hwf : wfk .f64 a.1 ∧ wfk .f64 a.2) (h2 : 2 ≤ n) (hn : n ≤ 45) (hr : Rd w A (c64s (zList p a n))) :
    Calls Try.prog 95 #[.slice A n c] w (QuotPost p a n w) := by
  have HT : Hid (∀ k, k + 1 < n → ∀ W : World, Calls Try.prog 80 #[.complex .f64 (zC p a (k + 1)).1 (zC p a (k + 1)).2, .complex .f64 (zC p a k).1 (zC p a k).2] W fun e w' => e = .returned (.tuple #[.complex .f64 (rq p a k).1 (rq p a k).2, .bool true]) ∧ ∃ j, W.drewN j = w') := fun k hk W => by
    obtain ⟨g1, _, _, g4⟩ := rq_near hi k (by omega)
    have f1 := (ring_near hi k (by omega)).1
    have f2 := (ring_near hi (k + 1) (by omega)).1
    have w1 := zC_wf (p := p) hwf k
    have w2 := zC_wf (p := p) hwf (k + 1)
    exact div_ok W f2.1 f2.2 f1.1 f1.2 w2.1 w2.2 w1.1 w1.2 g4 g1
  have HR := Lib.hid hr
  have own0 := owns_empty w 33
  have hb0 : Below w.heap.size w (w.alloc (.cells #[] 33)) := (Below.refl w.heap.size w).alloc (Nat.le_refl _) _
  clear hr hi hwf
  go_enter Try.func95, Try.ntmps95
  go_wp2_with fail
  generalize w.alloc (.cells #[] 33) = W0 at *
  go_loopw [4, 5] (fun v i wr => ∃ k : Nat, 1 ≤ k ∧ k ≤ n ∧ i = .int .i64 (k : Int) ∧ wr.ownsRow w.heap.size 33 1 v (k - 1) (c64s (qList p a (k - 1))) ∧ Below w.heap.size w wr) (fun _ i _ => n - (intOf i).toNat)
  case atStart => exact ⟨1, by omega, by omega, rfl, own0, hb0⟩
  case round =>
    clear own0 hb0
    obtain ⟨k, h1, hk, rfl, hown, hbel⟩ := hrel
    by_cases hlt : k < n
    · obtain ⟨b, off, rfl, hb, hc⟩ := (HR.out.below hbel) (by simp [c64s, zList]; omega)
      have e1 := hc k _ (zList_get hlt)
      have e0 := hc (k - 1) _ (zList_get (by omega))
      have T := HT.out (k - 1) (by omega)
      rw [show k - 1 + 1 = k by omega] at T
      have hsn := qList_snoc p a (k - 1)
      rw [show k - 1 + 1 = k by omega] at hsn
      have HSN := Lib.hid hsn
      have HTk := Lib.hid T
      have hwk : IntKind.i64.wrap ((k : Int) - 1) = ((k - 1 : Nat) : Int) := by rw [IntWalk.i64_in ((k : Int) - 1) (by omega)]; omega
      have hw1 : k - 1 < n := by omega
      clear hc T hsn
      obtain ⟨x1, hx1⟩ : ∃ x, (zC p a k).1 = x := ⟨_, rfl⟩
      obtain ⟨x2, hx2⟩ : ∃ x, (zC p a k).2 = x := ⟨_, rfl⟩
      obtain ⟨y1, hy1⟩ : ∃ x, (zC p a (k - 1)).1 = x := ⟨_, rfl⟩
      obtain ⟨y2, hy2⟩ : ∃ x, (zC p a (k - 1)).2 = x := ⟨_, rfl⟩
      obtain ⟨q1, hq1⟩ : ∃ x, (rq p a (k - 1)).1 = x := ⟨_, rfl⟩
      obtain ⟨q2, hq2⟩ : ∃ x, (rq p a (k - 1)).2 = x := ⟨_, rfl⟩
      rw [hx1, hx2] at e1 HTk
      rw [hy1, hy2] at e0 HTk
      rw [hq1, hq2] at HTk HSN
      clear hx1 hx2 hy1 hy2 hq1 hq2
      have hsz := hbel.size
      go_wp2_with fail
      refine wp_region_rx (by kernel_rfl) (by kernel_rfl) ?_; apply Exists.intro
      repeat (first | (apply wpR_val; intro K hK; go_simp; refine ⟨rfl, hK _ ?_⟩; clear hK K) | (apply wpR_skip; intro K hK; go_simp; refine hK _ ?_; clear hK K))
      apply wpR_val (v := .tuple #[.complex .f64 q1 q2, .bool true]); intro K hK; go_simp; refine ⟨fun m => rcall0 (HTk.out _), hK _ ?_⟩; clear hK K
      repeat (first | (apply wpR_val; intro K hK; go_simp; refine ⟨rfl, hK _ ?_⟩; clear hK K) | (apply wpR_skip; intro K hK; go_simp; refine hK _ ?_; clear hK K))
      apply wpR_nil (Rs := []); rintro _ ⟨nq, rfl⟩
      have hown1 : (wr.drewN nq).ownsRow w.heap.size 33 1 u4 (k - 1) (c64s (qList p a (k - 1))) := by
        obtain ⟨g1, g2⟩ := hown
        exact ⟨g1, g2⟩
      have hbel1 := below_drewN hbel nq
      have hsz1 : w.heap.size ≤ (wr.drewN nq).heap.size := hsz
      generalize wr.drewN nq = wr1 at *
      clear hown hbel hsz e1 e0
      go_wp2_with (at_builtin; refine wpList_app1 rfl (.tmp 38) (.tmp 40) 36 rfl w.heap.size 33 (.complex .f64 0 0) 16 Try.underlying36 c128_info rfl u4 (k - 1) (c64s (qList p a (k - 1))) _ rfl rfl rfl hown1 hsz1 (by omega) (by omega) ?_; intro v' w' hown' hbel')
      rw [HSN.out, show k - 1 + 1 = k by omega] at hown'
      go_roundw
      case rel => exact ⟨k + 1, by omega, by omega, by go_num, by rw [show k + 1 - 1 = k by omega]; exact hown', hbel1.trans hbel'⟩
      case measure => simp [intOf]; omega
    · obtain rfl : k = n := by omega
      go_wp2_with fail
      go_ret2
      obtain ⟨A', cap, hv, hl, hrd⟩ := own_rd hown
      subst hv
      unfold QuotPost
      exact ⟨A', cap, rfl, hrd, hbel⟩

/-- The words of the mean. -/
def meanW (p a : Nat × Nat) (n : Nat) : Nat × Nat := qC (sq' p a (n - 1)) (floatOfInt .f64 ((n - 1 : Nat) : Int), 0)
theorem sq_wf (p a : Nat × Nat) (k : Nat) : wfk .f64 (sq' p a k).1 ∧ wfk .f64 (sq' p a k).2 := by
  cases k with
  | zero => exact ⟨by show wfk .f64 0; rw [wfk_64]; omega, by show wfk .f64 0; rw [wfk_64]; omega⟩
  | succ k => exact ⟨fo_lt _ _ _ _, fo_lt _ _ _ _⟩
def FitQPost (p a : Nat × Nat) (n : Nat) (w : World) (e : Ending) (w' : World) : Prop :=
  e = .returned (.tuple #[.complex .f64 (meanW p a n).1 (meanW p a n).2, .bool true]) ∧ Below w.heap.size w w'
set_option maxRecDepth 100000 in
set_option maxHeartbeats 1000000 in
theorem fitQuotients_any (p a : Nat × Nat) (A : Option Addr) (c n : Nat) (w : World) (hi : RIn p a) (hwf : wfk .f64 a.1 ∧ wfk .f64 a.2) (h2 : 2 ≤ n) (hn : n ≤ 45) (hr : Rd w A (c64s (zList p a n))) :
    Calls Try.prog 46 #[.slice A n c] w (FitQPost p a n w) := by
  have HQ := Lib.hid (quotients_any p a A c n w hi hwf h2 hn hr)
  have HA : Hid (∀ k, k < n - 1 → ∀ W : World, Calls Try.prog 96 #[.complex .f64 (sq' p a k).1 (sq' p a k).2, .complex .f64 (rq p a k).1 (rq p a k).2] W fun e w' => e = .returned (.complex .f64 (sq' p a (k + 1)).1 (sq' p a (k + 1)).2) ∧ ∃ j, W.drewN j = w') := fun k hk W => by
    have s := (sums_near hi (k + 1) (by omega)).1
    exact addD_fin _ _ _ _ W s.1 s.2
  obtain ⟨m, hm⟩ : ∃ m, n - 1 = m := ⟨_, rfl⟩
  have HD : Hid (∀ W : World, Calls Try.prog 80 #[.complex .f64 (sq' p a m).1 (sq' p a m).2, .complex .f64 (floatOfInt .f64 (m : Int)) 0] W fun e w' => e = .returned (.tuple #[.complex .f64 (meanW p a n).1 (meanW p a n).2, .bool true]) ∧ ∃ j, W.drewN j = w') := fun W => by
    obtain ⟨g1, _, _, g4⟩ := mean_near hi m (by omega) (by omega)
    have s := (sums_near hi m (by omega)).1
    have sw := sq_wf p a m
    have z := zero_fin .f64
    have b53 : 2 * FloatKind.f64.format.binade = 2 ^ 53 := by decide +kernel
    have e1 := (int_exact .f64 (m : Int) (by omega)).1
    have e : meanW p a n = qC (sq' p a m) (floatOfInt .f64 (m : Int), 0) := by unfold meanW; rw [hm]
    rw [e]
    exact div_ok W s.1 s.2 e1 z.1 sw.1 sw.2 (wfk_lit (floatOfInt_wf .f64 _)) (by rw [wfk_64]; omega) g4 g1
  have hz : sq' p a 0 = (0, 0) := rfl
  have HZ := Lib.hid hz
  clear hr hi hwf hz
  go_enter Try.func46, Try.ntmps46
  go_wp2_with fail
  refine HQ.out.mono ?_
  intro e W1 hp
  unfold QuotPost at hp
  obtain ⟨A1, c1, rfl, hrd, hb1⟩ := hp
  rw [hm] at hrd HA ⊢
  have HR := Lib.hid hrd
  have HB := Lib.hid hb1
  clear hrd hb1
  go_wp2_with fail
  go_loopw [6, 18] (fun v i wr => ∃ k j : Nat, k ≤ m ∧ i = .int .i64 (k : Int) ∧ v = .complex .f64 (sq' p a k).1 (sq' p a k).2 ∧ wr = W1.drewN j) (fun _ i _ => m - (intOf i).toNat)
  case atStart => exact ⟨0, 0, by omega, rfl, by rw [HZ.out], (World.drewN_zero _).symm⟩
  case round =>
    obtain ⟨k, j, hk, rfl, rfl, rfl⟩ := hrel
    by_cases hlt : k < m
    · obtain ⟨b, off, rfl, hb, hc⟩ := HR.out (by simp [c64s, qList]; omega)
      have e1 := hc k _ (qList_get hlt)
      have T := Lib.hid (HA.out k hlt)
      clear hc
      obtain ⟨x1, hx1⟩ : ∃ x, (sq' p a k).1 = x := ⟨_, rfl⟩
      obtain ⟨x2, hx2⟩ : ∃ x, (sq' p a k).2 = x := ⟨_, rfl⟩
      obtain ⟨y1, hy1⟩ : ∃ x, (rq p a k).1 = x := ⟨_, rfl⟩
      obtain ⟨y2, hy2⟩ : ∃ x, (rq p a k).2 = x := ⟨_, rfl⟩
      rw [hx1, hx2, hy1, hy2] at T
      rw [hy1, hy2] at e1
      rw [hx1, hx2]
      clear hx1 hx2 hy1 hy2
      go_wp2_with fail
      refine (T.out _).mono ?_
      rintro e w' ⟨rfl, j2, rfl⟩
      go_wp2_with fail
      go_roundw
      case rel => exact ⟨k + 1, _, by omega, by go_num, rfl, rfl⟩
      case measure => simp [intOf]; omega
    · obtain rfl : k = m := by omega
      obtain ⟨x1, hx1⟩ : ∃ x, (sq' p a k).1 = x := ⟨_, rfl⟩
      obtain ⟨x2, hx2⟩ : ∃ x, (sq' p a k).2 = x := ⟨_, rfl⟩
      obtain ⟨d, hd⟩ : ∃ x, floatOfInt .f64 (k : Int) = x := ⟨_, rfl⟩
      obtain ⟨y1, hy1⟩ : ∃ x, (meanW p a n).1 = x := ⟨_, rfl⟩
      obtain ⟨y2, hy2⟩ : ∃ x, (meanW p a n).2 = x := ⟨_, rfl⟩
      rw [hx1, hx2, hd, hy1, hy2] at HD
      rw [hx1, hx2]
      have HY := Lib.hid (And.intro hy1 hy2)
      clear hx1 hx2 hy1 hy2
      go_wp2_with fail
      refine (HD.out _).mono ?_
      rintro e w' ⟨rfl, j2, rfl⟩
      go_wp2_with fail
      go_ret2
      unfold FitQPost
      rw [HY.out.1, HY.out.2]
      exact ⟨rfl, below_drewN HB.out _⟩
end Go.Proofs.Ytignncjmbcdpaaa

/-
The start that is fitted to a ringing is near the start. (Plain arithmetic.)
-/
namespace Go.Proofs.Ytignncjmbcdpaaa
open Go Ieee

/-- The number 1. -/
def oneC : Nat × Nat := (4607182418800017408, 0)
theorem oneC_v : finC oneC ∧ vC oneC = (1, 0) := by
  obtain ⟨o1, o2⟩ := one_fin
  obtain ⟨z1, z2⟩ := zero_fin .f64
  exact ⟨⟨o1, z1⟩, by show (fv .f64 4607182418800017408, fv .f64 0) = _; rw [o2, z2]⟩
theorem RIn.one {p a : Nat × Nat} (h : RIn p a) : RIn p oneC := by
  obtain ⟨o1, o2⟩ := oneC_v
  have e : nn (vC oneC) = 1 := by rw [o2]; unfold nn; simp only; grind
  exact ⟨h.fp, o1, h.plo, h.phi, by rw [e]; grind, by rw [e]; grind⟩
theorem nk_one (p : Nat × Nat) (k : Nat) : nk p oneC k = npow (nn (vC p)) k := by
  have e : nn (vC oneC) = 1 := by rw [oneC_v.2]; unfold nn; simp only; grind
  unfold nk; rw [e, Rat.one_mul]
/-- The powers from a start are those from 1, times the start. -/
theorem cpow_one (P a : Rat × Rat) (k : Nat) : cpow P a k = cmul a (cpow P (1, 0) k) := by
  induction k with
  | zero => show a = cmul a (1, 0); unfold cmul; ext <;> (simp only; grind)
  | succ k ih =>
    show cmul (cpow P a k) P = cmul a (cmul (cpow P (1, 0) k) P)
    rw [ih]; unfold cmul; ext <;> (simp only; grind)
theorem cpow_oneC (p a : Nat × Nat) (k : Nat) : cpow (vC p) (vC a) k = cmul (vC a) (cpow (vC p) (vC oneC) k) := by rw [oneC_v.2]; exact cpow_one _ _ k
/-- The radius of a product, of two radii. -/
theorem rad_mul {R S n m c : Rat} (hR : R * R ≤ 2 * n) (hS : S * S ≤ 2 * m) (h0 : 0 ≤ R * S) (hn : 0 ≤ n) (hm : 0 ≤ m) (hc : 0 ≤ c) (h : 4 * (n * m) ≤ c * c) : R * S ≤ c := by
  have q1 := sq_nonneg R
  have q2 := sq_nonneg S
  have p := mul_mono hR hS q1 (by grind)
  have := ab_le_of_sq (x := R * S) (y := c) hc (by grind)
  rwa [ab_of_nonneg h0] at this
/-- A term of the sum over the ringing and the powers: near the start times the square of the power. -/
theorem term_start {p a : Nat × Nat} (hi : RIn p a) (k : Nat) (hk : k ≤ 44) :
    finC (prodC (zC p a k) (conjW (zC p oneC k))) ∧ ab (vRe (prodC (zC p a k) (conjW (zC p oneC k))) - vRe a * nn (vC (zC p oneC k))) ≤ 726 / 2 ^ 49 * nn (vC (zC p oneC k)) + 1 / 2 ^ 197 ∧
      ab (vIm (prodC (zC p a k) (conjW (zC p oneC k))) - vIm a * nn (vC (zC p oneC k))) ≤ 726 / 2 ^ 49 * nn (vC (zC p oneC k)) + 1 / 2 ^ 197 := by
  obtain ⟨q1, q2⟩ := k45 (show k ≤ 45 by omega)
  have ho := hi.one
  obtain ⟨fz, bz⟩ := ring_near hi k (by omega)
  obtain ⟨fq, bq⟩ := ring_near ho k (by omega)
  obtain ⟨_, hz2⟩ := NearK.sq ⟨fz, bz⟩ (by grind)
  have enk := nk_eq p oneC k
  unfold nn at enk
  have lo := bq.low2 enk
  have et : nn (vC (zC p oneC k)) = vRe (zC p oneC k) * vRe (zC p oneC k) + vIm (zC p oneC k) * vIm (zC p oneC k) := rfl
  rw [← et] at lo
  rw [nk_one] at lo bq
  have na : nk p a k = nn (vC a) * npow (nn (vC p)) k := rfl
  have ah := hi.ahi
  have a0 := nn_nonneg (vC a)
  have N0 := npow_nonneg (nn_nonneg (vC p)) k
  have hc := cpow_oneC p a k
  obtain ⟨z, hz⟩ : ∃ z, zC p a k = z := ⟨_, rfl⟩
  obtain ⟨q, hq⟩ : ∃ q, zC p oneC k = q := ⟨_, rfl⟩
  rw [hz] at fz bz hz2 ⊢
  rw [hq] at fq bq lo et ⊢
  obtain ⟨N, hN⟩ : ∃ N, npow (nn (vC p)) k = N := ⟨_, rfl⟩
  rw [hN] at lo bq na N0
  obtain ⟨t, ht⟩ : ∃ t, nn (vC q) = t := ⟨_, rfl⟩
  rw [ht] at lo et ⊢
  have t0 : 0 ≤ t := by rw [← ht]; exact nn_nonneg _
  -- the power is not greater than what is near it
  have hNt : N ≤ t * (1 + 1 / 2 ^ 40) := by
    have m := Rat.mul_le_mul_of_nonneg_left (show 1 - 1 / 2 ^ 42 ≤ 1 - 2 * ((k : Rat) / 2 ^ 49) by grind) N0
    grind
  -- z is near a q
  have bz' : BN (vRe z - (cmul (vC a) (cpow (vC p) (vC oneC) k)).1) (vIm z - (cmul (vC a) (cpow (vC p) (vC oneC) k)).2) ((k : Rat) / 2 ^ 49) (nn (vC a) * N) := by rw [← hc, ← na]; exact bz
  have sa : BN (vRe a) (vIm a) 1 (nn (vC a)) := BN.self _ _
  have bq' := (sa.mul bq).neg
  rw [Rat.one_mul] at bq'
  have bd := bz'.add bq'
  obtain ⟨C, hC⟩ : ∃ C, cpow (vC p) (vC oneC) k = C := ⟨_, rfl⟩
  rw [hC] at bd
  have sq : BN (vRe q) (-vIm q) 1 t := by rw [et]; exact (BN.self _ _).conj
  have bt := bd.mul sq
  have hnA : nn (vC a) * N * t ≤ (8 * (1 + 1 / 2 ^ 40) * t) * (8 * (1 + 1 / 2 ^ 40) * t) := by
    have m1 := mul_mono ah hNt a0 (Rat.mul_nonneg t0 (by grind))
    have m2 := Rat.mul_le_mul_of_nonneg_right m1 t0
    have tt := Rat.mul_nonneg t0 t0
    grind
  obtain ⟨x1, x2⟩ := bt.parts (A := 8 * (1 + 1 / 2 ^ 40) * t) (Rat.mul_nonneg (by grind) t0) hnA
  -- the rounding of the product
  obtain ⟨r1, r2⟩ := l1_sq (vRe z) (vIm z)
  obtain ⟨s1, s2⟩ := l1_sq (vRe q) (vIm q)
  have Bz := B2.l1 (vRe z) (vIm z)
  have Bq := B2.l1 (vRe q) (vIm q)
  have RS0 := Rat.mul_nonneg Bz.1 Bq.1
  have enz : nn (vC z) = vRe z * vRe z + vIm z * vIm z := rfl
  rw [← enz] at r2
  rw [← et] at s2
  have z0 := nn_nonneg (vC z)
  have hnz : nn (vC z) ≤ 65 * t := by
    have m1 := mul_mono ah hNt a0 (Rat.mul_nonneg t0 (by grind))
    rw [← na] at m1
    have m2 : (1 + (k : Rat) / 2 ^ 49) * (1 + (k : Rat) / 2 ^ 49) ≤ (1 + 1 / 2 ^ 40) * (1 + 1 / 2 ^ 40) := mul_mono (by grind) (by grind) (by grind) (by grind)
    have k0 : 0 ≤ nk p a k := by rw [na]; exact Rat.mul_nonneg a0 N0
    have m3 := mul_mono m2 m1 (Rat.mul_nonneg (by grind) (by grind)) (Rat.mul_nonneg (by grind) (Rat.mul_nonneg t0 (by grind)))
    grind
  have hRS : (ab (vRe z) + ab (vIm z)) * (ab (vRe q) + ab (vIm q)) ≤ 17 * t := by
    refine rad_mul r2 s2 RS0 z0 t0 (by grind) ?_
    have := Rat.mul_le_mul_of_nonneg_right hnz t0
    have tt := Rat.mul_nonneg t0 t0
    grind
  have ht2 : 17 * t ≤ 2 ^ 100 := by
    have hi2 := ho.nk_hi k (by omega)
    obtain ⟨_, hq2⟩ := NearK.sq (ring_near ho k (by omega)) (by grind)
    rw [hq, ht] at hq2
    have m2 : (1 + (k : Rat) / 2 ^ 49) * (1 + (k : Rat) / 2 ^ 49) ≤ 2 := by
      have := mul_mono (show 1 + (k : Rat) / 2 ^ 49 ≤ 5 / 4 by grind) (show 1 + (k : Rat) / 2 ^ 49 ≤ 5 / 4 by grind) (by grind) (by grind)
      grind
    have n0 : 0 ≤ nk p oneC k := Rat.le_of_lt (ho.nk_pos k (by omega))
    have m3 := mul_mono m2 hi2 (Rat.mul_nonneg (by grind) (by grind)) (by grind)
    grind
  obtain ⟨f, c1, c2⟩ := conj_times fz fq Bz Bq (by grind)
  have z1 := ab_add (vRe (prodC z (conjW q)) - (vRe z * vRe q + vIm z * vIm q)) (vRe z * vRe q + vIm z * vIm q - vRe a * t)
  have z2 := ab_add (vIm (prodC z (conjW q)) - (vIm z * vRe q - vRe z * vIm q)) (vIm z * vRe q - vRe z * vIm q - vIm a * t)
  rw [show vRe (prodC z (conjW q)) - (vRe z * vRe q + vIm z * vIm q) + (vRe z * vRe q + vIm z * vIm q - vRe a * t) = vRe (prodC z (conjW q)) - vRe a * t by grind] at z1
  rw [show vIm (prodC z (conjW q)) - (vIm z * vRe q - vRe z * vIm q) + (vIm z * vRe q - vRe z * vIm q - vIm a * t) = vIm (prodC z (conjW q)) - vIm a * t by grind] at z2
  have y1 : vRe z * vRe q + vIm z * vIm q - vRe a * t = (vRe z - (cmul (vC a) C).1 + -(vRe a * (vRe q - C.1) - vIm a * (vIm q - C.2))) * vRe q - (vIm z - (cmul (vC a) C).2 + -(vRe a * (vIm q - C.2) + vIm a * (vRe q - C.1))) * -vIm q := by
    rw [et]; unfold cmul vC; simp only; grind
  have y2 : vIm z * vRe q - vRe z * vIm q - vIm a * t = (vRe z - (cmul (vC a) C).1 + -(vRe a * (vRe q - C.1) - vIm a * (vIm q - C.2))) * -vIm q + (vIm z - (cmul (vC a) C).2 + -(vRe a * (vIm q - C.2) + vIm a * (vRe q - C.1))) * vRe q := by
    rw [et]; unfold cmul vC; simp only; grind
  rw [y1] at z1
  rw [y2] at z2
  have hK : ((k : Rat) / 2 ^ 49 + (k : Rat) / 2 ^ 49) * 1 * (8 * (1 + 1 / 2 ^ 40) * t) ≤ 721 / 2 ^ 49 * t := by
    have : ((k : Rat) / 2 ^ 49 + (k : Rat) / 2 ^ 49) * 1 * (8 * (1 + 1 / 2 ^ 40)) ≤ 721 / 2 ^ 49 := by grind
    have := Rat.mul_le_mul_of_nonneg_right this t0
    grind
  have hC1 := Rat.le_trans x1 hK
  have hC2 := Rat.le_trans x2 hK
  refine ⟨f, ?_, ?_⟩
  · refine Rat.le_trans z1 ?_
    clear z1 z2 y1 y2 x1 x2 bt bd bq' bz' c2 hC2
    grind
  · refine Rat.le_trans z2 ?_
    clear z1 z2 y1 y2 x1 x2 bt bd bq' bz' c1 hC1
    grind
end Go.Proofs.Ytignncjmbcdpaaa

/-
The sums of the fit of a start, and their quotient. (Plain arithmetic.)
-/
namespace Go.Proofs.Ytignncjmbcdpaaa
open Go Ieee

/-- One addition of a part; the factor is not greater than 8. -/
theorem part_step8 {s q : Nat} {X T t e g : Rat} (fs : fin .f64 s) (fq : fin .f64 q) (h : ab (fv .f64 s - X * T) ≤ e) (hq : ab (fv .f64 q - X * t) ≤ g) (hX : ab X ≤ 8) (hT : 0 ≤ T) (ht : 0 ≤ t) (hT2 : T + t ≤ 2 ^ 60) (he : e ≤ 2 ^ 60) (hg : g ≤ 2 ^ 60) :
    fin .f64 (fo .add .f64 s q) ∧ ab (fv .f64 (fo .add .f64 s q) - X * (T + t)) ≤ (e + g) * (1 + 1 / 2 ^ 50) + (8 * (T + t)) / 2 ^ 53 + 1 / 2 ^ 200 := by
  obtain ⟨k1, k2, k3⟩ := consts64
  have t1 := ab_add (fv .f64 s - X * T) (fv .f64 q - X * t)
  have e1 : fv .f64 s - X * T + (fv .f64 q - X * t) = fv .f64 s + fv .f64 q - X * (T + t) := by grind
  rw [e1] at t1
  have t2 := ab_tri (fv .f64 s + fv .f64 q) (X * (T + t))
  have hp : ab (X * (T + t)) = ab X * (T + t) := by rw [ab_mul, ab_of_nonneg (x := T + t) (by grind)]
  rw [hp] at t2
  have hb : ab X * (T + t) ≤ 8 * (T + t) := Rat.mul_le_mul_of_nonneg_right hX (by grind)
  have n := ab_nonneg (fv .f64 s + fv .f64 q - X * (T + t))
  have ad := add_spec fs fq (by grind)
  have er := ad.2.1
  rw [k1] at er
  have t3 := ab_add (fv .f64 (fo .add .f64 s q) - (fv .f64 s + fv .f64 q)) (fv .f64 s + fv .f64 q - X * (T + t))
  rw [show fv .f64 (fo .add .f64 s q) - (fv .f64 s + fv .f64 q) + (fv .f64 s + fv .f64 q - X * (T + t)) = fv .f64 (fo .add .f64 s q) - X * (T + t) by grind] at t3
  refine ⟨ad.1, ?_⟩
  clear ad hp k1 k3 e1
  generalize ab (fv .f64 s + fv .f64 q - X * (T + t)) = A at *
  generalize ab (fv .f64 s + fv .f64 q) = B at *
  generalize ab (fv .f64 (fo .add .f64 s q) - (fv .f64 s + fv .f64 q)) = C at *
  generalize ab (fv .f64 (fo .add .f64 s q) - X * (T + t)) = D at *
  generalize ab X * (T + t) = P at *
  grind
/-- The bound after k terms, each within G times its weight. -/
def gAt (k T G : Rat) : Rat := k * T * 9 / 2 ^ 53 + G * T + k / 2 ^ 190
theorem sum8 {s q : Nat × Nat} {X Y k T t G : Rat} (h : SumAt s X Y T (gAt k T G)) (fq : finC q) (h1 : ab (vRe q - X * t) ≤ G * t + 1 / 2 ^ 197) (h2 : ab (vIm q - Y * t) ≤ G * t + 1 / 2 ^ 197)
    (hX : ab X ≤ 8) (hY : ab Y ≤ 8) (hk : 0 ≤ k) (hk2 : k ≤ 100) (hT : 0 ≤ T) (ht : 0 ≤ t) (hT2 : T + t ≤ 2 ^ 50) (hG : 0 ≤ G) (hG2 : G ≤ 1 / 2 ^ 20) :
    SumAt (fo .add .f64 s.1 q.1, fo .add .f64 s.2 q.2) X Y (T + t) (gAt (k + 1) (T + t) G) := by
  have kT := Rat.mul_nonneg hk hT
  have kt := Rat.mul_nonneg hk ht
  have GT := Rat.mul_nonneg hG hT
  have Gt := Rat.mul_nonneg hG ht
  have kT2 : k * T ≤ 100 * T := Rat.mul_le_mul_of_nonneg_right hk2 hT
  have GT2 : G * T ≤ 1 / 2 ^ 20 * T := Rat.mul_le_mul_of_nonneg_right hG2 hT
  have Gt2 : G * t ≤ 1 / 2 ^ 20 * t := Rat.mul_le_mul_of_nonneg_right hG2 ht
  have key : (gAt k T G + (G * t + 1 / 2 ^ 197)) * (1 + 1 / 2 ^ 50) + (8 * (T + t)) / 2 ^ 53 + 1 / 2 ^ 200 ≤ gAt (k + 1) (T + t) G := by
    have e1 : (k + 1) * (T + t) = k * T + k * t + T + t := by grind
    have e2 : G * (T + t) = G * T + G * t := by grind
    unfold gAt
    rw [e1, e2]
    generalize k * T = a at *
    generalize k * t = b at *
    generalize G * T = c at *
    generalize G * t = d at *
    grind
  have e60 : gAt k T G ≤ 2 ^ 60 := by unfold gAt; grind
  obtain ⟨r1, r2⟩ := part_step8 h.f.1 fq.1 h.re h1 hX hT ht (by grind) e60 (by grind)
  obtain ⟨i1, i2⟩ := part_step8 h.f.2 fq.2 h.im h2 hY hT ht (by grind) e60 (by grind)
  exact ⟨⟨r1, i1⟩, Rat.le_trans r2 key, Rat.le_trans i2 key⟩
/-- A term of the sum of squares of the powers. -/
theorem term_one {p a : Nat × Nat} (hi : RIn p a) (k : Nat) (hk : k ≤ 44) :
    finC (prodC (zC p oneC k) (conjW (zC p oneC k))) ∧ ab (vRe (prodC (zC p oneC k) (conjW (zC p oneC k))) - 1 * nn (vC (zC p oneC k))) ≤ 1 / 2 ^ 49 * nn (vC (zC p oneC k)) + 1 / 2 ^ 197 ∧
      ab (vIm (prodC (zC p oneC k) (conjW (zC p oneC k))) - 0 * nn (vC (zC p oneC k))) ≤ 1 / 2 ^ 49 * nn (vC (zC p oneC k)) + 1 / 2 ^ 197 := by
  obtain ⟨q1, q2⟩ := k45 (show k ≤ 45 by omega)
  have ho := hi.one
  obtain ⟨fq, bq⟩ := ring_near ho k (by omega)
  obtain ⟨_, hq2⟩ := NearK.sq ⟨fq, bq⟩ (by grind)
  have hi2 := ho.nk_hi k (by omega)
  have n0 : 0 ≤ nk p oneC k := Rat.le_of_lt (ho.nk_pos k (by omega))
  have m2 : (1 + (k : Rat) / 2 ^ 49) * (1 + (k : Rat) / 2 ^ 49) ≤ 2 := by
    have := mul_mono (show 1 + (k : Rat) / 2 ^ 49 ≤ 5 / 4 by grind) (show 1 + (k : Rat) / 2 ^ 49 ≤ 5 / 4 by grind) (by grind) (by grind)
    grind
  have m3 := mul_mono m2 hi2 (Rat.mul_nonneg (by grind) (by grind)) (by grind)
  obtain ⟨q, hq⟩ : ∃ q, zC p oneC k = q := ⟨_, rfl⟩
  rw [hq] at fq hq2 ⊢
  obtain ⟨s1, s2⟩ := l1_sq (vRe q) (vIm q)
  have Bq := B2.l1 (vRe q) (vIm q)
  have et : nn (vC q) = vRe q * vRe q + vIm q * vIm q := rfl
  rw [← et] at s2
  obtain ⟨f, c1, c2⟩ := conj_times fq fq Bq Bq (by grind)
  refine ⟨f, ?_, ?_⟩
  · rw [Rat.one_mul, et]
    rw [← et]
    grind
  · rw [show vIm q * vRe q - vRe q * vIm q = 0 by grind] at c2
    rw [Rat.zero_mul]
    grind
/-- **THE SUMS.** -/
theorem start_sums {p a : Nat × Nat} (hi : RIn p a) (n : Nat) (hn : n ≤ 45) (k : Nat) (hk : k ≤ n) :
    SumAt (corrW (zList p a n) (zList p oneC n) k) (vRe a) (vIm a) (tsum (zC p oneC) k) (gAt (k : Rat) (tsum (zC p oneC) k) (726 / 2 ^ 49)) ∧
    SumAt (corrW (zList p oneC n) (zList p oneC n) k) 1 0 (tsum (zC p oneC) k) (gAt (k : Rat) (tsum (zC p oneC) k) (1 / 2 ^ 49)) ∧ tsum (zC p oneC) k ≤ (k : Rat) * 2 := by
  have ah := hi.ahi
  have a8 : ab (vRe a) ≤ 8 ∧ ab (vIm a) ≤ 8 := by
    have q1 := sq_nonneg (vRe a)
    have q2 := sq_nonneg (vIm a)
    have e : nn (vC a) = vRe a * vRe a + vIm a * vIm a := rfl
    exact ⟨ab_le_of_sq (by grind) (by grind), ab_le_of_sq (by grind) (by grind)⟩
  induction k with
  | zero =>
    have z := zero_fin .f64
    have g0 : ∀ G : Rat, gAt ((0 : Nat) : Rat) (tsum (zC p oneC) 0) G = 0 := fun G => by
      show gAt ((0 : Nat) : Rat) 0 G = 0
      unfold gAt; simp; grind
    have s0 : ∀ X Y : Rat, SumAt (0, 0) X Y 0 0 := fun X Y => by
      have e : ∀ Z : Rat, ab (fv .f64 0 - Z * 0) ≤ 0 := fun Z => by rw [z.2, Rat.mul_zero, show (0 : Rat) - 0 = 0 by grind, ab_of_nonneg Rat.le_refl]; exact Rat.le_refl
      exact ⟨⟨z.1, z.1⟩, e X, e Y⟩
    refine ⟨?_, ?_, ?_⟩
    · rw [g0]; exact s0 _ _
    · rw [g0]; exact s0 _ _
    · show (0 : Rat) ≤ ((0 : Nat) : Rat) * 2; simp
  | succ k ih =>
    obtain ⟨i1, i2, i3⟩ := ih (by omega)
    obtain ⟨q1, q2⟩ := k45 (show k ≤ 45 by omega)
    obtain ⟨f1, a1, a2⟩ := term_start hi k (by omega)
    obtain ⟨f2, b1, b2⟩ := term_one hi k (by omega)
    have ex : cgetD (zList p a n) k = zC p a k := by simp [cgetD, zList, List.getD, show k < n by omega]
    have ey : cgetD (zList p oneC n) k = zC p oneC k := by simp [cgetD, zList, List.getD, show k < n by omega]
    have T0 := tsum_nonneg (zC p oneC) k
    have t0 := nn_nonneg (vC (zC p oneC k))
    have t2 : nn (vC (zC p oneC k)) ≤ 2 := by
      obtain ⟨_, hq2⟩ := NearK.sq (ring_near hi.one k (by omega)) (by grind)
      have e := nk_one p k
      have m := npow_le2 (nn_nonneg (vC p)) hi.phi k (by omega)
      have m2 : (1 + (k : Rat) / 2 ^ 49) * (1 + (k : Rat) / 2 ^ 49) ≤ 3 / 2 := by
        have := mul_mono (show 1 + (k : Rat) / 2 ^ 49 ≤ 9 / 8 by grind) (show 1 + (k : Rat) / 2 ^ 49 ≤ 9 / 8 by grind) (by grind) (by grind)
        grind
      have m3 := mul_mono m2 m (Rat.mul_nonneg (by grind) (by grind)) (by grind)
      rw [e] at hq2
      grind
    have ec : ((k + 1 : Nat) : Rat) = (k : Rat) + 1 := by simp
    have et : tsum (zC p oneC) (k + 1) = tsum (zC p oneC) k + nn (vC (zC p oneC k)) := rfl
    rw [ec, et]
    have one8 : ab (1 : Rat) ≤ 8 := by rw [ab_of_nonneg (by grind)]; grind
    have zero8 : ab (0 : Rat) ≤ 8 := by rw [ab_of_nonneg (by grind)]; grind
    refine ⟨?_, ?_, by grind⟩
    · have := sum8 i1 f1 a1 a2 a8.1 a8.2 q1 (by grind) T0 t0 (by grind) (by grind) (by grind)
      unfold corrW
      rw [ex, ey]; exact this
    · have := sum8 i2 f2 b1 b2 one8 zero8 q1 (by grind) T0 t0 (by grind) (by grind) (by grind)
      unfold corrW
      rw [ey]; exact this
theorem tsum_ge {p : Nat × Nat} (k : Nat) (hk : 1 ≤ k) : 1 ≤ tsum (zC p oneC) k := by
  induction k with
  | zero => omega
  | succ k ih =>
    have t0 := nn_nonneg (vC (zC p oneC k))
    have et : tsum (zC p oneC) (k + 1) = tsum (zC p oneC) k + nn (vC (zC p oneC k)) := rfl
    rw [et]
    rcases Nat.eq_zero_or_pos k with h | h
    · subst h
      have e : nn (vC (zC p oneC 0)) = 1 := by show nn (vC oneC) = 1; rw [oneC_v.2]; unfold nn; simp only; grind
      have e0 : tsum (zC p oneC) 0 = 0 := rfl
      rw [e, e0]; grind
    · have := ih h
      grind
theorem start_ok {p a : Nat × Nat} (hi : RIn p a) (n : Nat) (hn : n ≤ 45) : CorrOk (zList p a n) (zList p oneC n) n ∧ CorrOk (zList p oneC n) (zList p oneC n) n := by
  refine ⟨fun k hk => ?_, fun k hk => ?_⟩
  · have ex : cgetD (zList p a n) k = zC p a k := by simp [cgetD, zList, List.getD, hk]
    have ey : cgetD (zList p oneC n) k = zC p oneC k := by simp [cgetD, zList, List.getD, hk]
    rw [ex, ey]
    exact ⟨(term_start hi k (by omega)).1, (start_sums hi n hn (k + 1) (by omega)).1.f⟩
  · have ey : cgetD (zList p oneC n) k = zC p oneC k := by simp [cgetD, zList, List.getD, hk]
    rw [ey]
    exact ⟨(term_one hi k (by omega)).1, (start_sums hi n hn (k + 1) (by omega)).2.1.f⟩
/-- **THE START.** -/
theorem start_near {p a : Nat × Nat} (hi : RIn p a) (n : Nat) (hn : n ≤ 45) (h1 : 1 ≤ n) :
    finC (qC (corrW (zList p a n) (zList p oneC n) n) (corrW (zList p oneC n) (zList p oneC n) n)) ∧
    ab (vRe (qC (corrW (zList p a n) (zList p oneC n) n) (corrW (zList p oneC n) (zList p oneC n) n)) - vRe a) ≤ 1 / 2 ^ 37 / 2 ∧
    ab (vIm (qC (corrW (zList p a n) (zList p oneC n) n) (corrW (zList p oneC n) (zList p oneC n) n)) - vIm a) ≤ 1 / 2 ^ 37 / 2 ∧
    (feq .f64 (corrW (zList p oneC n) (zList p oneC n) n).1 0 && feq .f64 (corrW (zList p oneC n) (zList p oneC n) n).2 0) = false := by
  obtain ⟨⟨fN, n1, n2⟩, ⟨fD, d1, d2⟩, t3⟩ := start_sums hi n hn n (Nat.le_refl _)
  obtain ⟨q1, q2⟩ := k45 hn
  have T1 := tsum_ge (p := p) n h1
  have ah := hi.ahi
  have a8 : ab (vRe a) ≤ 8 ∧ ab (vIm a) ≤ 8 := by
    have q1 := sq_nonneg (vRe a)
    have q2 := sq_nonneg (vIm a)
    have e : nn (vC a) = vRe a * vRe a + vIm a * vIm a := rfl
    exact ⟨ab_le_of_sq (by grind) (by grind), ab_le_of_sq (by grind) (by grind)⟩
  obtain ⟨N, hN⟩ : ∃ N, corrW (zList p a n) (zList p oneC n) n = N := ⟨_, rfl⟩
  obtain ⟨D, hD⟩ : ∃ D, corrW (zList p oneC n) (zList p oneC n) n = D := ⟨_, rfl⟩
  obtain ⟨T, hT⟩ : ∃ T, tsum (zC p oneC) n = T := ⟨_, rfl⟩
  obtain ⟨c, hc⟩ : ∃ c, ((n : Nat) : Rat) = c := ⟨_, rfl⟩
  rw [hN] at fN n1 n2 ⊢
  rw [hD] at fD d1 d2 ⊢
  rw [hT] at n1 n2 d1 d2 t3 T1
  rw [hc] at n1 n2 d1 d2 t3 q1 q2
  have cT : c * T ≤ 45 * T := Rat.mul_le_mul_of_nonneg_right q2 (by grind)
  have cT0 : 0 ≤ c * T := Rat.mul_nonneg q1 (by grind)
  have gN : gAt c T (726 / 2 ^ 49) ≤ 752 / 2 ^ 49 * T := by unfold gAt; grind
  have gD : gAt c T (1 / 2 ^ 49) ≤ 27 / 2 ^ 49 * T := by unfold gAt; grind
  have n1 := Rat.le_trans n1 gN
  have n2 := Rat.le_trans n2 gN
  have d1 := Rat.le_trans d1 gD
  have d2 := Rat.le_trans d2 gD
  rw [Rat.one_mul] at d1
  rw [Rat.zero_mul, show vIm D - 0 = vIm D by grind] at d2
  have dr := (le_ab (vRe D - T)).2
  have dr1 := (le_ab (vRe D - T)).1
  have qi := sq_nonneg (vIm D)
  have lowD : T * (1 - 1 / 2 ^ 40) ≤ vRe D := by grind
  have en : nn (vC D) = vRe D * vRe D + vIm D * vIm D := rfl
  have TT : 1 ≤ T * T := by have := mul_mono T1 T1 (by grind) (by grind); grind
  have lowN : T * T * (1 - 1 / 2 ^ 38) ≤ nn (vC D) := by
    have := mul_mono lowD lowD (Rat.mul_nonneg (by grind) (by grind)) (by grind)
    rw [en]; grind
  have hiN : nn (vC D) ≤ 2 ^ 100 := by
    have u1 : vRe D ≤ 2 ^ 10 := by grind
    have m1 := mul_mono u1 u1 (by grind) (by grind)
    have m2 := mul_mono d2 d2 (ab_nonneg _) (by grind)
    rw [ab_sq] at m2
    have TT2 : T * T ≤ 2 ^ 20 := by have := mul_mono (show T ≤ 2 ^ 10 by grind) (show T ≤ 2 ^ 10 by grind) (by grind) (by grind); grind
    rw [en]; grind
  have mul8 : ∀ x y : Rat, ab x ≤ 8 → ab y ≤ 27 / 2 ^ 49 * T → ab (x * y) ≤ 216 / 2 ^ 49 * T := fun x y hx hy => by
    rw [ab_mul]
    have := mul_mono hx hy (ab_nonneg x) (by grind)
    grind
  have e1 : ab (vRe N - (cmul (vC a) (vC D)).1) ≤ 1184 / 2 ^ 49 * T := by
    have m1 := mul8 (vRe a) (vRe D - T) a8.1 d1
    have m2 := mul8 (vIm a) (vIm D) a8.2 d2
    have t1 := ab_add (vRe N - vRe a * T) (-(vRe a * (vRe D - T)) + vIm a * vIm D)
    have t2 := ab_add (-(vRe a * (vRe D - T))) (vIm a * vIm D)
    rw [ab_neg] at t2
    have e : (cmul (vC a) (vC D)).1 = vRe a * vRe D - vIm a * vIm D := rfl
    rw [e]
    rw [show vRe N - vRe a * T + (-(vRe a * (vRe D - T)) + vIm a * vIm D) = vRe N - (vRe a * vRe D - vIm a * vIm D) by grind] at t1
    grind
  have e2 : ab (vIm N - (cmul (vC a) (vC D)).2) ≤ 1184 / 2 ^ 49 * T := by
    have m1 := mul8 (vIm a) (vRe D - T) a8.2 d1
    have m2 := mul8 (vRe a) (vIm D) a8.1 d2
    have t1 := ab_add (vIm N - vIm a * T) (-(vIm a * (vRe D - T)) + -(vRe a * vIm D))
    have t2 := ab_add (-(vIm a * (vRe D - T))) (-(vRe a * vIm D))
    rw [ab_neg, ab_neg] at t2
    have e : (cmul (vC a) (vC D)).2 = vRe a * vIm D + vIm a * vRe D := rfl
    rw [e]
    rw [show vIm N - vIm a * T + (-(vIm a * (vRe D - T)) + -(vRe a * vIm D)) = vIm N - (vRe a * vIm D + vIm a * vRe D) by grind] at t1
    grind
  have b : BN (vRe N - (cmul (vC a) (vC D)).1) (vIm N - (cmul (vC a) (vC D)).2) (1776 / 2 ^ 49) (nn (vC D)) := by
    refine box_BN e1 e2 (by grind) (nn_nonneg _) ?_
    rw [show 1184 / 2 ^ 49 * T * (1184 / 2 ^ 49 * T) = T * T * (1184 / 2 ^ 49 * (1184 / 2 ^ 49)) by grind]
    generalize T * T = tt at *
    generalize nn (vC D) = dd at *
    grind
  obtain ⟨g1, g2, g3, g4⟩ := quot_gen (M := 8) fN fD b (by grind) hiN a8.1 a8.2 (by grind) (by grind)
  exact ⟨g1, Rat.le_trans g2 (by grind), Rat.le_trans g3 (by grind), g4⟩
end Go.Proofs.Ytignncjmbcdpaaa

/-
Spectra of a ringing: Horner's scheme from the top; the quotient of two of them. (Plain arithmetic.)
-/
namespace Go.Proofs.Ytignncjmbcdpaaa
open Go Ieee

/-- The scheme over m elements of f, j steps from the top. -/
def horW (f : Nat → Nat × Nat) (w : Nat × Nat) (m : Nat) : Nat → Nat × Nat
  | 0 => (0, 0)
  | j + 1 => (fo .add .f64 (prodC (horW f w m j) w).1 (f (m - 1 - j)).1, fo .add .f64 (prodC (horW f w m j) w).2 (f (m - 1 - j)).2)
/-- The geometric sum. -/
def gs (Q : Rat × Rat) : Nat → Rat × Rat
  | 0 => (0, 0)
  | j + 1 => (1 + (cmul Q (gs Q j)).1, (cmul Q (gs Q j)).2)
/-- Where the spectrum is taken. -/
structure WIn (w : Nat × Nat) : Prop where
  f : finC w
  b : B2 (vRe w) (vIm w) (1 / 4)
theorem WIn.q {p a w : Nat × Nat} (hi : RIn p a) (hw : WIn w) : BN (cmul (vC p) (vC w)).1 (cmul (vC p) (vC w)).2 (1 / 4) (1 + 1 / 2 ^ 40) := by
  have b1 : BN (vRe w) (vIm w) (1 / 4) 1 := ⟨by grind, by grind, by have := hw.b.2; grind⟩
  have b2 : BN (vRe p) (vIm p) 1 (1 + 1 / 2 ^ 40) := (BN.self _ _).up hi.phi
  have := b2.mul b1
  rw [Rat.one_mul, Rat.mul_one] at this
  exact this
theorem gs_ball {Q : Rat × Rat} (h : BN Q.1 Q.2 (1 / 4) (1 + 1 / 2 ^ 40)) (j : Nat) : BN (gs Q j).1 (gs Q j).2 (3 / 2) 1 ∧ (1 ≤ j → 1 / 2 ≤ (gs Q j).1) := by
  induction j with
  | zero => exact ⟨(BN.zero (by grind)).le (by grind), fun h => absurd h (by omega)⟩
  | succ j ih =>
    have m := h.mul ih.1
    have m' : BN (cmul Q (gs Q j)).1 (cmul Q (gs Q j)).2 (1 / 4 * (3 / 2) * (1 + 1 / 2 ^ 20)) 1 := BN.shift (n := 1) (m := 1 + 1 / 2 ^ 40) (by rw [Rat.one_mul]; rw [Rat.mul_one] at m; exact m) (by grind) (by grind) (by grind)
    have o : BN 1 0 1 1 := ⟨by grind, by grind, by grind⟩
    have s := o.add m'
    rw [show (0 : Rat) + (cmul Q (gs Q j)).2 = (cmul Q (gs Q j)).2 by grind] at s
    refine ⟨s.le (by grind), fun _ => ?_⟩
    obtain ⟨x1, _⟩ := m'.parts (A := 1) (by grind) (by grind)
    have := (le_ab (cmul Q (gs Q j)).1).2
    show 1 / 2 ≤ 1 + (cmul Q (gs Q j)).1
    grind
/-- The sum of two parts, rounded, as an error. -/
theorem add_part {x y : Nat} (fx : fin .f64 x) (fy : fin .f64 y) {L : Rat} (hL : ab (fv .f64 x + fv .f64 y) ≤ L) (hL2 : L ≤ 2 ^ 100) : fin .f64 (fo .add .f64 x y) ∧ ab (fv .f64 (fo .add .f64 x y) - (fv .f64 x + fv .f64 y)) ≤ L / 2 ^ 53 + 1 / 2 ^ 200 := by
  obtain ⟨k1, k2, k3⟩ := consts64
  have ad := add_spec fx fy (by grind)
  have er := ad.2.1
  rw [k1] at er
  exact ⟨ad.1, by grind⟩
/-- What the scheme has reached. -/
def HorAt (p a w : Nat × Nat) (k j : Nat) (s : Nat × Nat) : Prop :=
  finC s ∧ BN (vRe s - (cmul (cpow (vC p) (vC a) k) (gs (cmul (vC p) (vC w)) j)).1) (vIm s - (cmul (cpow (vC p) (vC a) k) (gs (cmul (vC p) (vC w)) j)).2) (64 / 2 ^ 49) (nk p a k)
theorem hor_step {p a w s : Nat × Nat} {k j : Nat} (hi : RIn p a) (hw : WIn w) (hk : k ≤ 43) (h : HorAt p a w (k + 1) j s) :
    finC (prodC s w) ∧ HorAt p a w k (j + 1) (fo .add .f64 (prodC s w).1 (zC p a k).1, fo .add .f64 (prodC s w).2 (zC p a k).2) := by
  obtain ⟨fs, bs⟩ := h
  obtain ⟨q1, q2⟩ := k45 (show k ≤ 45 by omega)
  obtain ⟨fz, bz⟩ := ring_near hi k (by omega)
  obtain ⟨zl, zh⟩ := NearK.sq ⟨fz, bz⟩ (by grind)
  have hq := hw.q hi
  have hg := (gs_ball hq j).1
  have nlo := hi.nk_lo k (by omega)
  have nhi := hi.nk_hi k (by omega)
  have ens := nk_succ p a k
  have ph := hi.phi
  have p0 := nn_nonneg (vC p)
  have ekk := nk_eq p a (k + 1)
  have hwb := hw.b
  have fw := hw.f
  obtain ⟨z, hz⟩ : ∃ z, zC p a k = z := ⟨_, rfl⟩
  rw [hz] at fz bz zl zh ⊢
  obtain ⟨n, hn⟩ : ∃ n, nk p a k = n := ⟨_, rfl⟩
  obtain ⟨n1, hn1⟩ : ∃ n1, nk p a (k + 1) = n1 := ⟨_, rfl⟩
  obtain ⟨nz, hnz⟩ : ∃ nz, nn (vC z) = nz := ⟨_, rfl⟩
  rw [hn1] at ens bs ekk
  rw [hn] at ens nlo nhi bz zl zh
  rw [hnz] at zl zh
  have n10 : n1 ≤ n * (1 + 1 / 2 ^ 40) := by rw [ens]; exact Rat.mul_le_mul_of_nonneg_left ph (by grind)
  have n1p : 0 ≤ n1 := by rw [ens]; exact Rat.mul_nonneg (by grind) p0
  -- the exact state
  obtain ⟨C, hC⟩ : ∃ C, cpow (vC p) (vC a) (k + 1) = C := ⟨_, rfl⟩
  obtain ⟨C0, hC0⟩ : ∃ C, cpow (vC p) (vC a) k = C := ⟨_, rfl⟩
  have hCC : C = cmul C0 (vC p) := by rw [← hC, ← hC0]; rfl
  rw [hC] at bs ekk
  rw [hC0] at bz
  obtain ⟨G, hG⟩ : ∃ G, gs (cmul (vC p) (vC w)) j = G := ⟨_, rfl⟩
  rw [hG] at bs hg
  have sC : BN C.1 C.2 1 n1 := by rw [← ekk]; exact BN.self _ _
  have sCG := sC.mul hg
  rw [Rat.one_mul, Rat.mul_one] at sCG
  have ss := sCG.add bs
  have ess1 : C.1 * G.1 - C.2 * G.2 + (vRe s - (cmul C G).1) = vRe s := by unfold cmul; simp only; grind
  have ess2 : C.1 * G.2 + C.2 * G.1 + (vIm s - (cmul C G).2) = vIm s := by unfold cmul; simp only; grind
  rw [ess1, ess2] at ss
  -- its radius, in the size of z
  obtain ⟨r1, r2⟩ := l1_sq (vRe z) (vIm z)
  have enz : nn (vC z) = vRe z * vRe z + vIm z * vIm z := rfl
  rw [hnz] at enz
  rw [← enz] at r1 r2
  have l0 : 0 ≤ ab (vRe z) + ab (vIm z) := (B2.l1 _ _).1
  have zp1 : ab (vRe z) ≤ ab (vRe z) + ab (vIm z) := by have := ab_nonneg (vIm z); grind
  have zp2 : ab (vIm z) ≤ ab (vRe z) + ab (vIm z) := by have := ab_nonneg (vRe z); grind
  obtain ⟨l, hl⟩ : ∃ l, ab (vRe z) + ab (vIm z) = l := ⟨_, rfl⟩
  rw [hl] at r1 r2 l0 zp1 zp2
  have hnl : n * (1 - 1 / 2 ^ 40) ≤ nz := by
    have e := nk_eq p a k
    unfold nn at e
    rw [hC0, hn] at e
    have lw := bz.low2 e
    rw [← enz] at lw
    have := Rat.mul_le_mul_of_nonneg_left (show 1 - 1 / 2 ^ 40 ≤ 1 - 2 * ((k : Rat) / 2 ^ 49) by grind) (show 0 ≤ n by grind)
    grind
  have Bs : B2 (vRe s) (vIm s) (2 * l) := by
    have u := ss.2.2
    have c : (3 / 2 + 64 / 2 ^ 49) * (3 / 2 + 64 / 2 ^ 49) * n1 ≤ 3 * n1 := Rat.mul_le_mul_of_nonneg_right (by grind) n1p
    exact ⟨by grind, by grind⟩
  have l10 : l ≤ 2 ^ 10 := by
    have zh2 : nz ≤ 2 ^ 10 := by
      have m2 : (1 + (k : Rat) / 2 ^ 49) * (1 + (k : Rat) / 2 ^ 49) ≤ 2 := by
        have := mul_mono (show 1 + (k : Rat) / 2 ^ 49 ≤ 5 / 4 by grind) (show 1 + (k : Rat) / 2 ^ 49 ≤ 5 / 4 by grind) (by grind) (by grind)
        grind
      have m3 := mul_mono m2 nhi (Rat.mul_nonneg (by grind) (by grind)) (by grind)
      grind
    have := ab_le_of_sq (x := l) (y := 2 ^ 10) (by grind) (by grind)
    rwa [ab_of_nonneg l0] at this
  have ltiny : 1 / 2 ^ 197 ≤ l / 2 ^ 67 := tiny_s l0 (by grind)
  obtain ⟨t1, t2, t3, t4⟩ := times64g fs.1 fs.2 fw.1 fw.2 Bs hwb (by grind)
  refine ⟨⟨t1, t2⟩, ?_⟩
  -- the product
  obtain ⟨u1, hu1⟩ : ∃ u, fv .f64 (mulRe s.1 s.2 w.1 w.2) = u := ⟨_, rfl⟩
  obtain ⟨u2, hu2⟩ : ∃ u, fv .f64 (mulIm s.1 s.2 w.1 w.2) = u := ⟨_, rfl⟩
  rw [hu1] at t3
  rw [hu2] at t4
  have pb := Bs.mul hwb
  obtain ⟨pp1, pp2⟩ := pb.parts
  have e3 : fv .f64 s.1 * fv .f64 w.1 + -(fv .f64 s.2 * fv .f64 w.2) = vRe s * vRe w - vIm s * vIm w := by unfold vRe vIm; grind
  have e4 : fv .f64 s.1 * fv .f64 w.2 + fv .f64 s.2 * fv .f64 w.1 = vRe s * vIm w + vIm s * vRe w := by unfold vRe vIm; grind
  rw [e3] at t3
  rw [e4] at t4
  have hp1 : ab u1 ≤ l := by have := ab_tri u1 (vRe s * vRe w - vIm s * vIm w); grind
  have hp2 : ab u2 ≤ l := by have := ab_tri u2 (vRe s * vIm w + vIm s * vRe w); grind
  have b1 : BN (u1 - (vRe s * vRe w - vIm s * vIm w)) (u2 - (vRe s * vIm w + vIm s * vRe w)) (2 / 2 ^ 51) nz := by
    refine box_BN t3 t4 (by grind) (by grind) ?_
    have e0 : 2 * l * (1 / 4) / 2 ^ 51 + 1 / 2 ^ 197 ≤ l * (3 / 4) / 2 ^ 51 := by grind
    have m := mul_mono e0 e0 (by grind) (by grind)
    have e5 : l * (3 / 4) / 2 ^ 51 * (l * (3 / 4) / 2 ^ 51) = l * l * (3 / 4 / 2 ^ 51 * (3 / 4 / 2 ^ 51)) := by grind
    rw [e5] at m
    generalize l * l = ll at *
    grind
  -- the sum
  have h1 := ab_add u1 (vRe z)
  have h2 := ab_add u2 (vIm z)
  obtain ⟨a1, a2⟩ := add_part (L := 2 * l) t1 fz.1 (by rw [hu1]; show ab (u1 + vRe z) ≤ _; grind) (by grind)
  obtain ⟨a3, a4⟩ := add_part (L := 2 * l) t2 fz.2 (by rw [hu2]; show ab (u2 + vIm z) ≤ _; grind) (by grind)
  rw [hu1] at a2
  rw [hu2] at a4
  have b2 : BN (fv .f64 (fo .add .f64 (mulRe s.1 s.2 w.1 w.2) z.1) - (u1 + vRe z)) (fv .f64 (fo .add .f64 (mulIm s.1 s.2 w.1 w.2) z.2) - (u2 + vIm z)) (2 / 2 ^ 51) nz := by
    refine box_BN a2 a4 (by grind) (by grind) ?_
    have e0 : 2 * l / 2 ^ 53 + 1 / 2 ^ 200 ≤ l * (3 / 4) / 2 ^ 51 := by grind
    have m := mul_mono e0 e0 (by grind) (by grind)
    have e5 : l * (3 / 4) / 2 ^ 51 * (l * (3 / 4) / 2 ^ 51) = l * l * (3 / 4 / 2 ^ 51 * (3 / 4 / 2 ^ 51)) := by grind
    rw [e5] at m
    generalize l * l = ll at *
    grind
  refine ⟨⟨a1, a3⟩, ?_⟩
  obtain ⟨o1, ho1⟩ : ∃ o, fv .f64 (fo .add .f64 (mulRe s.1 s.2 w.1 w.2) z.1) = o := ⟨_, rfl⟩
  obtain ⟨o2, ho2⟩ : ∃ o, fv .f64 (fo .add .f64 (mulIm s.1 s.2 w.1 w.2) z.2) = o := ⟨_, rfl⟩
  rw [ho1, ho2] at b2
  have bw : BN (vRe w) (vIm w) (1 / 4) 1 := ⟨by grind, by grind, by have := hwb.2; grind⟩
  have pr := bs.mul bw
  rw [Rat.mul_one] at pr
  have pr' := pr.up n10
  have pr2 : BN _ _ (64 / 2 ^ 49 * (1 / 4) * (1 + 1 / 2 ^ 20)) n := BN.shift (n := n) pr' (by grind) (by grind) (by grind)
  have zz : (1 + (k : Rat) / 2 ^ 49) * (1 + (k : Rat) / 2 ^ 49) ≤ 9 / 8 := by
    have := mul_mono (show 1 + (k : Rat) / 2 ^ 49 ≤ 1 + 1 / 2 ^ 20 by grind) (show 1 + (k : Rat) / 2 ^ 49 ≤ 1 + 1 / 2 ^ 20 by grind) (by grind) (by grind)
    grind
  have nz2 : nz ≤ n * (9 / 8) := by have := Rat.mul_le_mul_of_nonneg_right zz (show 0 ≤ n by grind); grind
  have b1' : BN _ _ (2 / 2 ^ 51 * (9 / 8)) n := BN.shift (n := n) (b1.up nz2) (by grind) (by grind) (by grind)
  have b2' : BN _ _ (2 / 2 ^ 51 * (9 / 8)) n := BN.shift (n := n) (b2.up nz2) (by grind) (by grind) (by grind)
  have tot := ((pr2.add bz).add b1').add b2'
  have f1 : (vRe s - (cmul C G).1) * vRe w - (vIm s - (cmul C G).2) * vIm w + (vRe z - C0.1) + (u1 - (vRe s * vRe w - vIm s * vIm w)) + (o1 - (u1 + vRe z)) = o1 - (cmul C0 (gs (cmul (vC p) (vC w)) (j + 1))).1 := by
    show _ = o1 - (cmul C0 (1 + (cmul (cmul (vC p) (vC w)) (gs (cmul (vC p) (vC w)) j)).1, (cmul (cmul (vC p) (vC w)) (gs (cmul (vC p) (vC w)) j)).2)).1
    rw [hG, hCC]; unfold cmul vC; simp only; grind
  have f2 : (vRe s - (cmul C G).1) * vIm w + (vIm s - (cmul C G).2) * vRe w + (vIm z - C0.2) + (u2 - (vRe s * vIm w + vIm s * vRe w)) + (o2 - (u2 + vIm z)) = o2 - (cmul C0 (gs (cmul (vC p) (vC w)) (j + 1))).2 := by
    show _ = o2 - (cmul C0 (1 + (cmul (cmul (vC p) (vC w)) (gs (cmul (vC p) (vC w)) j)).1, (cmul (cmul (vC p) (vC w)) (gs (cmul (vC p) (vC w)) j)).2)).2
    rw [hG, hCC]; unfold cmul vC; simp only; grind
  rw [f1, f2] at tot
  have goal1 : vRe (fo .add .f64 (prodC s w).1 z.1, fo .add .f64 (prodC s w).2 z.2) = o1 := ho1
  have goal2 : vIm (fo .add .f64 (prodC s w).1 z.1, fo .add .f64 (prodC s w).2 z.2) = o2 := ho2
  rw [goal1, goal2, hC0, hn]
  exact tot.le (by grind)
/-- **THE SCHEME** over the elements b .. b + m - 1. -/
theorem hor_all {p a w : Nat × Nat} (hi : RIn p a) (hw : WIn w) (b m : Nat) (hb : b + m ≤ 44) (j : Nat) (hj : j ≤ m) :
    HorAt p a w (b + m - j) j (horW (fun i => zC p a (b + i)) w m j) ∧ (j < m → finC (prodC (horW (fun i => zC p a (b + i)) w m j) w)) := by
  have key : ∀ j, j ≤ m → HorAt p a w (b + m - j) j (horW (fun i => zC p a (b + i)) w m j) := fun j => by
    induction j with
    | zero =>
      intro _
      obtain ⟨z1, z2⟩ := zero_fin .f64
      refine ⟨⟨z1, z1⟩, ?_⟩
      have e1 : vRe (horW (fun i => zC p a (b + i)) w m 0) - (cmul (cpow (vC p) (vC a) (b + m - 0)) (gs (cmul (vC p) (vC w)) 0)).1 = 0 := by
        show fv .f64 0 - _ = 0
        rw [z2]; unfold gs cmul; simp only; grind
      have e2 : vIm (horW (fun i => zC p a (b + i)) w m 0) - (cmul (cpow (vC p) (vC a) (b + m - 0)) (gs (cmul (vC p) (vC w)) 0)).2 = 0 := by
        show fv .f64 0 - _ = 0
        rw [z2]; unfold gs cmul; simp only; grind
      rw [e1, e2]
      exact (BN.zero (Rat.le_of_lt (hi.nk_pos _ (by omega)))).le (by grind)
    | succ j ih =>
      intro hj
      have h := ih (by omega)
      have ek : b + m - j = (b + m - (j + 1)) + 1 := by omega
      rw [ek] at h
      have s := (hor_step hi hw (by omega) h).2
      have ez : b + (m - 1 - j) = b + m - (j + 1) := by omega
      show HorAt p a w (b + m - (j + 1)) (j + 1) (fo .add .f64 _ (zC p a (b + (m - 1 - j))).1, fo .add .f64 _ (zC p a (b + (m - 1 - j))).2)
      rw [ez]; exact s
  refine ⟨key j hj, fun hlt => ?_⟩
  have h := key j hj
  have ek : b + m - j = (b + m - (j + 1)) + 1 := by omega
  rw [ek] at h
  exact (hor_step hi hw (by omega) h).1
/-- **THE SPECTRA.** -/
theorem spectra_near {p a w : Nat × Nat} (hi : RIn p a) (hw : WIn w) (m : Nat) (h1 : 1 ≤ m) (hm : m ≤ 20) :
    finC (qC (horW (fun i => zC p a (m + i)) w m m) (horW (fun i => zC p a (0 + i)) w m m)) ∧
    ab (vRe (qC (horW (fun i => zC p a (m + i)) w m m) (horW (fun i => zC p a (0 + i)) w m m)) - (cpow (vC p) (1, 0) m).1) ≤ 1 / 2 ^ 39 ∧
    ab (vIm (qC (horW (fun i => zC p a (m + i)) w m m) (horW (fun i => zC p a (0 + i)) w m m)) - (cpow (vC p) (1, 0) m).2) ≤ 1 / 2 ^ 39 ∧
    (feq .f64 (horW (fun i => zC p a (0 + i)) w m m).1 0 && feq .f64 (horW (fun i => zC p a (0 + i)) w m m).2 0) = false := by
  obtain ⟨⟨fN, bN⟩, _⟩ := hor_all hi hw m m (by omega) m (Nat.le_refl _)
  obtain ⟨⟨fD, bD⟩, _⟩ := hor_all hi hw 0 m (by omega) m (Nat.le_refl _)
  rw [show m + m - m = m by omega] at bN
  rw [show 0 + m - m = 0 by omega] at bD
  have hq := hw.q hi
  obtain ⟨_, hg2⟩ := gs_ball hq m
  have g2 := hg2 h1
  obtain ⟨N, hN⟩ : ∃ N, horW (fun i => zC p a (m + i)) w m m = N := ⟨_, rfl⟩
  obtain ⟨D, hD⟩ : ∃ D, horW (fun i => zC p a (0 + i)) w m m = D := ⟨_, rfl⟩
  rw [hN] at fN bN ⊢
  rw [hD] at fD bD ⊢
  obtain ⟨G, hG⟩ : ∃ G, gs (cmul (vC p) (vC w)) m = G := ⟨_, rfl⟩
  rw [hG] at bN bD g2
  have ep := cpow_one (vC p) (vC a) m
  obtain ⟨V, hV⟩ : ∃ V, cpow (vC p) (1, 0) m = V := ⟨_, rfl⟩
  rw [hV] at ep ⊢
  rw [ep] at bN
  have e0 : cpow (vC p) (vC a) 0 = vC a := rfl
  rw [e0] at bD
  have nk0 : nk p a 0 = nn (vC a) := by unfold nk npow; grind
  rw [nk0] at bD
  have nkm : nk p a m = nn (vC a) * nn V := by
    have := nn_cpow (vC p) (1, 0) m
    rw [hV] at this
    have e1 : nn ((1 : Rat), (0 : Rat)) = 1 := by unfold nn; simp only; grind
    rw [e1, Rat.one_mul] at this
    unfold nk; rw [this]
  rw [nkm] at bN
  have nV : nn V ≤ 1 + 1 / 2 ^ 32 := by
    have := nn_cpow (vC p) (1, 0) m
    rw [hV] at this
    have e1 : nn ((1 : Rat), (0 : Rat)) = 1 := by unfold nn; simp only; grind
    rw [e1, Rat.one_mul] at this
    rw [this]; exact npow_le2 (nn_nonneg _) hi.phi m (by omega)
  have nV0 := nn_nonneg V
  have al := hi.alo
  have ah := hi.ahi
  have a0 := nn_nonneg (vC a)
  -- the divisor
  have nG : 1 / 4 ≤ nn G := by
    have m := mul_mono g2 g2 (by grind) (by grind)
    have q := sq_nonneg G.2
    unfold nn; grind
  have naG : nn (cmul (vC a) G) = nn (vC a) * nn G := nn_mul _ _
  have mG := Rat.mul_le_mul_of_nonneg_left nG a0
  have bD2 : BN (vRe D - (cmul (vC a) G).1) (vIm D - (cmul (vC a) G).2) (64 / 2 ^ 49 * 2) (nn (cmul (vC a) G)) := by
    refine BN.shift (m := 4) ?_ (by grind) (nn_nonneg _) (by grind)
    exact bD.up (by rw [naG]; grind)
  have lowD := bD2.low (by rfl) (by grind)
  have hiD := (bD2.high (by rfl)).2.2
  rw [naG] at lowD hiD
  have enD : nn (vC D) = vRe D * vRe D + vIm D * vIm D := rfl
  rw [← enD] at lowD hiD
  have gb := (gs_ball hq m).1.2.2
  rw [hG] at gb
  have nG2 : nn G ≤ 4 := by unfold nn; grind
  have mG2 := mul_mono ah nG2 a0 (by grind)
  -- the dividend
  have sV : BN V.1 V.2 1 (nn V) := BN.self _ _
  have x := (bD.mul sV).neg
  rw [Rat.mul_one] at x
  have y := bN.add x
  have f1 : vRe N - (cmul (cmul (vC a) V) G).1 + -((vRe D - (cmul (vC a) G).1) * V.1 - (vIm D - (cmul (vC a) G).2) * V.2) = vRe N - (cmul V (vC D)).1 := by unfold cmul vC; simp only; grind
  have f2 : vIm N - (cmul (cmul (vC a) V) G).2 + -((vRe D - (cmul (vC a) G).1) * V.2 + (vIm D - (cmul (vC a) G).2) * V.1) = vIm N - (cmul V (vC D)).2 := by unfold cmul vC; simp only; grind
  rw [f1, f2] at y
  have y2 : BN (vRe N - (cmul V (vC D)).1) (vIm N - (cmul V (vC D)).2) ((64 / 2 ^ 49 + 64 / 2 ^ 49) * 5) (nn (vC D)) := by
    refine BN.shift (m := 16 * (1 + 1 / 2 ^ 32)) (y.up ?_) (by grind) (nn_nonneg _) (by grind)
    have := mul_mono (show nn (vC a) ≤ 16 * nn (vC D) by grind) nV a0 (by grind)
    grind
  have v1 : ab V.1 ≤ 2 ∧ ab V.2 ≤ 2 := by
    have q1 := sq_nonneg V.1
    have q2 := sq_nonneg V.2
    have e : nn V = V.1 * V.1 + V.2 * V.2 := rfl
    exact ⟨ab_le_of_sq (by grind) (by grind), ab_le_of_sq (by grind) (by grind)⟩
  obtain ⟨g1, g2', g3, g4⟩ := quot_gen (M := 2) fN fD y2 (by grind) (by grind) v1.1 v1.2 (by grind) (by grind)
  exact ⟨g1, Rat.le_trans g2' (by grind), Rat.le_trans g3 (by grind), g4⟩
end Go.Proofs.Ytignncjmbcdpaaa

/-
Powers by squaring, near the powers. (Plain arithmetic.)
-/
namespace Go.Proofs.Ytignncjmbcdpaaa
open Go Ieee

/-- The state after j digits of n, the highest one of L first. -/
def powW (z : Nat × Nat) (n L : Nat) : Nat → Nat × Nat
  | 0 => oneC
  | j + 1 => if n / 2 ^ (L - 1 - j) % 2 = 1 then prodC (prodC (powW z n L j) (powW z n L j)) z else prodC (powW z n L j) (powW z n L j)
theorem cpow_add (P : Rat × Rat) (i j : Nat) : cpow P (1, 0) (i + j) = cmul (cpow P (1, 0) i) (cpow P (1, 0) j) := by
  induction j with
  | zero => show cpow P (1, 0) i = cmul (cpow P (1, 0) i) (1, 0); unfold cmul; ext <;> (simp only; grind)
  | succ j ih =>
    show cmul (cpow P (1, 0) (i + j)) P = cmul (cpow P (1, 0) i) (cmul (cpow P (1, 0) j) P)
    rw [ih]; unfold cmul; ext <;> (simp only; grind)
theorem pow_square {p a s : Nat × Nat} {m : Nat} {K : Rat} (hi : RIn p a) (hm : m ≤ 20) (h : NearK p oneC m K s) (hK : K ≤ 1 / 2 ^ 30) : NearK p oneC (m + m) (2 * K + 1 / 2 ^ 49) (prodC s s) := by
  have ho := hi.one
  obtain ⟨s1, s2⟩ := h.sq (by grind)
  have k0 := h.2.1
  have l := npow_ge hi.plo m
  have u := npow_le2 (nn_nonneg (vC p)) hi.phi m (by omega)
  have e := nk_one p m
  have l2 : 1 / 2 ^ 100 ≤ nk p oneC m := by
    rw [e]
    have m2 : pw (-100) ≤ pw (-(5 * (m : Int))) := pw_mono (by omega)
    have e : pw (-100) = 1 / 2 ^ 100 := by unfold pw; grind
    grind
  have u2 : nk p oneC m ≤ 2 := by rw [e]; grind
  have z0 := nn_nonneg (vC s)
  have c2 : (1 + K) * (1 + K) ≤ (1 + 1 / 2 ^ 28) * (1 + 1 / 2 ^ 28) := mul_mono (by grind) (by grind) (by grind) (by grind)
  have s3 : nn (vC s) ≤ nk p oneC m * (1 + 1 / 2 ^ 26) := by have := Rat.mul_le_mul_of_nonneg_right c2 (show 0 ≤ nk p oneC m by grind); grind
  have m1 := mul_mono (show 1 / 2 ^ 102 ≤ nn (vC s) by grind) (show 1 / 2 ^ 102 ≤ nn (vC s) by grind) (by grind) z0
  have m2 := mul_mono (show nn (vC s) ≤ 4 by grind) (show nn (vC s) ≤ 4 by grind) z0 (by grind)
  obtain ⟨f, b⟩ := times_rel h.1 h.1 (by grind) (by grind)
  refine ⟨f, ?_⟩
  have en : nk p oneC (m + m) = nk p oneC m * nk p oneC m := by rw [nk_one, nk_one, npow_add]
  have eC : cpow (vC p) (vC oneC) (m + m) = cmul (cpow (vC p) (vC oneC) m) (cpow (vC p) (vC oneC) m) := by rw [oneC_v.2]; exact cpow_add _ _ _
  have hC : BN (cpow (vC p) (vC oneC) m).1 (cpow (vC p) (vC oneC) m).2 1 (nk p oneC m) := by rw [← nk_eq]; exact BN.self _ _
  have hs := h.2
  obtain ⟨C, hC'⟩ : ∃ C, cpow (vC p) (vC oneC) m = C := ⟨_, rfl⟩
  rw [hC'] at hC hs eC
  rw [eC, en]
  have sb : BN (vRe s) (vIm s) (1 + K) (nk p oneC m) := by
    have := hC.add hs
    rw [show C.1 + (vRe s - C.1) = vRe s by grind, show C.2 + (vIm s - C.2) = vIm s by grind] at this
    exact this
  have x1 := hs.mul sb
  have x2 := hC.mul hs
  have hn := Rat.mul_nonneg (show 0 ≤ nk p oneC m by grind) (show 0 ≤ nk p oneC m by grind)
  have b2 : BN (vRe (prodC s s) - (cmul (vC s) (vC s)).1) (vIm (prodC s s) - (cmul (vC s) (vC s)).2) (3 / 2 ^ 51 * (1 + 1 / 2 ^ 20)) (nk p oneC m * nk p oneC m) := by
    refine BN.shift (n := nk p oneC m * nk p oneC m) (m := (1 + 1 / 2 ^ 26) * (1 + 1 / 2 ^ 26)) (b.up ?_) (by grind) hn (by grind)
    have := mul_mono s3 s3 z0 (Rat.mul_nonneg (by grind) (by grind))
    grind
  have t := (x1.add x2).add b2
  have f1 : (vRe s - C.1) * vRe s - (vIm s - C.2) * vIm s + (C.1 * (vRe s - C.1) - C.2 * (vIm s - C.2)) + (vRe (prodC s s) - (cmul (vC s) (vC s)).1) = vRe (prodC s s) - (cmul C C).1 := by unfold cmul vC; simp only; grind
  have f2 : (vRe s - C.1) * vIm s + (vIm s - C.2) * vRe s + (C.1 * (vIm s - C.2) + C.2 * (vRe s - C.1)) + (vIm (prodC s s) - (cmul (vC s) (vC s)).2) = vIm (prodC s s) - (cmul C C).2 := by unfold cmul vC; simp only; grind
  rw [f1, f2] at t
  have KK := mul_mono hK (Rat.le_refl (a := K)) k0 k0
  refine t.le ?_
  generalize K * K = q at *
  have e1 : K * (1 + K) = K + K * K := by grind
  rw [e1]
  have KK2 := mul_mono hK (Rat.le_refl (a := K)) k0 k0
  generalize K * K = q2 at *
  grind
def kap : Nat → Rat
  | 0 => 0
  | j + 1 => 2 * kap j + 2 / 2 ^ 49
theorem kap_le (j : Nat) (hj : j ≤ 5) : 0 ≤ kap j ∧ kap j ≤ 64 / 2 ^ 49 := by
  have h : ∀ i, 0 ≤ kap i := fun i => by
    induction i with
    | zero => exact Rat.le_refl
    | succ i ih => unfold kap; grind
  refine ⟨h j, ?_⟩
  rcases (by omega : j = 0 ∨ j = 1 ∨ j = 2 ∨ j = 3 ∨ j = 4 ∨ j = 5) with rfl | rfl | rfl | rfl | rfl | rfl <;> simp only [kap] <;> grind
/-- **THE POWER.** -/
theorem pow_all {p a : Nat × Nat} (hi : RIn p a) (n L : Nat) (hn : n < 2 ^ L) (hL : L ≤ 5) (hn2 : n ≤ 20) (j : Nat) (hj : j ≤ L) :
    NearK p oneC (n / 2 ^ (L - j)) (kap j) (powW p n L j) ∧ (j < L → finC (prodC (powW p n L j) (powW p n L j)) ∧ (n / 2 ^ (L - 1 - j) % 2 = 1 → finC (prodC (prodC (powW p n L j) (powW p n L j)) p))) := by
  have sq : ∀ j, j < L → NearK p oneC (n / 2 ^ (L - j)) (kap j) (powW p n L j) → NearK p oneC (n / 2 ^ (L - j) + n / 2 ^ (L - j)) (2 * kap j + 1 / 2 ^ 49) (prodC (powW p n L j) (powW p n L j)) := fun j hj h => by
    obtain ⟨k0, k1⟩ := kap_le j (by omega)
    have hm : n / 2 ^ (L - j) ≤ 20 := Nat.le_trans (Nat.div_le_self _ _) hn2
    exact pow_square hi hm h (by grind)
  have half : ∀ j, j < L → n / 2 ^ (L - 1 - j) / 2 = n / 2 ^ (L - j) := fun j hj => by
    rw [Nat.div_div_eq_div_mul, ← Nat.pow_succ]
    congr 2; omega
  have small : ∀ j, j < L → n / 2 ^ (L - j) + n / 2 ^ (L - j) ≤ 20 := fun j hj => by
    have := half j hj
    have h2 : n / 2 ^ (L - 1 - j) ≤ 20 := Nat.le_trans (Nat.div_le_self _ _) hn2
    omega
  have key : ∀ j, j ≤ L → NearK p oneC (n / 2 ^ (L - j)) (kap j) (powW p n L j) := fun j => by
    induction j with
    | zero =>
      intro _
      have e : n / 2 ^ (L - 0) = 0 := by rw [Nat.sub_zero]; exact Nat.div_eq_of_lt hn
      rw [e]
      have := ring_near hi.one 0 (by omega)
      have e0 : (((0 : Nat) : Rat)) / 2 ^ 49 = kap 0 := by show _ = (0 : Rat); simp; grind
      rw [e0] at this
      exact this
    | succ j ih =>
      intro hj
      have h := sq j (by omega) (ih (by omega))
      obtain ⟨k0, k1⟩ := kap_le j (by omega)
      have hh := half j (by omega)
      have ei : L - (j + 1) = L - 1 - j := by omega
      rw [ei]
      unfold powW
      by_cases hb : n / 2 ^ (L - 1 - j) % 2 = 1
      · rw [if_pos hb]
        have s := (NearK.step hi.one (by have := small j (by omega); omega) h (by grind)).1
        have e : n / 2 ^ (L - j) + n / 2 ^ (L - j) + 1 = n / 2 ^ (L - 1 - j) := by omega
        rw [e] at s
        exact ⟨s.1, s.2.le (by show _ ≤ 2 * kap j + 2 / 2 ^ 49; grind)⟩
      · rw [if_neg hb]
        have e : n / 2 ^ (L - j) + n / 2 ^ (L - j) = n / 2 ^ (L - 1 - j) := by omega
        rw [e] at h
        exact ⟨h.1, h.2.le (by show _ ≤ 2 * kap j + 2 / 2 ^ 49; grind)⟩
  refine ⟨key j hj, fun hlt => ?_⟩
  have h := sq j hlt (key j hj)
  obtain ⟨k0, k1⟩ := kap_le j (by omega)
  exact ⟨h.1, fun _ => (NearK.step hi.one (by have := small j hlt; omega) h (by grind)).1.1⟩
theorem pow_near {p a : Nat × Nat} (hi : RIn p a) (n L : Nat) (hn : n < 2 ^ L) (hL : L ≤ 5) (hn2 : n ≤ 20) : finC (powW p n L L) ∧ ab (vRe (powW p n L L) - (cpow (vC p) (1, 0) n).1) ≤ 1 / 2 ^ 42 ∧ ab (vIm (powW p n L L) - (cpow (vC p) (1, 0) n).2) ≤ 1 / 2 ^ 42 := by
  have h := (pow_all hi n L hn hL hn2 L (Nat.le_refl _)).1
  have e : n / 2 ^ (L - L) = n := by rw [Nat.sub_self]; simp
  rw [e] at h
  obtain ⟨k0, k1⟩ := kap_le L hL
  have u := npow_le2 (nn_nonneg (vC p)) hi.phi n (by omega)
  obtain ⟨x1, x2⟩ := h.2.parts (A := 3 / 2) (by grind) (by rw [nk_one]; grind)
  rw [oneC_v.2] at x1 x2
  exact ⟨h.1, by grind, by grind⟩
end Go.Proofs.Ytignncjmbcdpaaa

/-
impl.widened.
-/
namespace Go.Proofs.Ytignncjmbcdpaaa
open Go Go.RowKit Ieee

set_option maxRecDepth 100000 in
set_option maxHeartbeats 1000000 in
theorem widened_any (A : Option Addr) (c lo hi : Nat) (ms : List MW) (w : World) (h : OwnM w lo hi A c ms) (hh : hi ≤ w.heap.size) (hok : ModesOk ms) (hl : ms.length ≤ 16) :
    Calls Try.prog 109 #[.agg #[.slice A ms.length c]] w fun e w' => ∃ (A' : Option Addr) (c' : Nat), e = .returned (.slice A' ms.length c') ∧ OwnD w' w.heap.size w'.heap.size A' c' (ms.map widM) ∧ Below w.heap.size w w' := by
  have HB : Hid (Below w.heap.size w ((w.alloc (.cells #[.slice A ms.length c] 69)).alloc (.cells #[] 131))) := ((Below.refl w.heap.size w).alloc (Nat.le_refl _) _).alloc (by simp) _
  have H0 := Lib.hid h
  have HK := Lib.hid hok
  have hBd : ((w.alloc (.cells #[.slice A ms.length c] 69)).alloc (.cells #[] 131)).heap[w.heap.size]? = some (.cells #[.slice A ms.length c] 69 (0, 0)) := (Below.heap_alloc _ _ _ (by simp)).trans (heap_alloc_new w _)
  have c0 := cell_of_row _ w.heap.size 0 _ _ (0, 0) hBd
  have own0 : ((w.alloc (.cells #[.slice A ms.length c] 69)).alloc (.cells #[] 131)).ownsRow w.heap.size 131 2 (.slice (some ⟨w.heap.size + 1, 0, none⟩) 0 0) 0 (flatD (([] : List MW).map widM)) := by
    have hn := heap_alloc_new (w.alloc (.cells #[.slice A ms.length c] 69)) (.cells #[] 131)
    refine ⟨by simp [flatD], .inr ⟨w.heap.size + 1, 0, #[], rfl, by omega, by simpa using hn, Nat.le_refl _, by simp [maxLen], by simp, by simp [flatD]⟩⟩
  clear h hok hBd
  go_enter Try.func109, Try.ntmps109
  go_wp2_with fail
  generalize (w.alloc (.cells #[.slice A ms.length c] 69)).alloc (.cells #[] 131) = W at *
  go_loopw [3, 10] (fun v i wr => ∃ (k : Nat) (L : List MW), i = .int .i64 (k : Int) ∧ k ≤ ms.length ∧ Hid (L = ms.take k) ∧ wr.ownsRow w.heap.size 131 2 v k (flatD (L.map widM)) ∧ Below w.heap.size w wr) (fun _ i _ => ms.length - (intOf i).toNat)
  case atStart => exact ⟨0, [], rfl, by omega, rfl, own0, HB.out⟩
  case round =>
    clear own0 c0
    obtain ⟨k, L, rfl, hk, HL, hown, hbel⟩ := hrel
    by_cases hlt : k < ms.length
    · obtain ⟨b, rfl, hb1, hb2, hlc, hmx, hcell⟩ := (H0.out.below hbel hh).cells (by omega)
      obtain ⟨e1, e2⟩ := hcell k hlt
      have hmk := HK.out.at_ hlt
      have HLx : Hid (L ++ [mAt ms k] = ms.take (k + 1)) := by
        show L ++ [mAt ms k] = ms.take (k + 1)
        rw [HL.out, List.take_add_one, List.getElem?_eq_getElem hlt]
        simp [mAt, List.getD, List.getElem?_eq_getElem hlt]
      have hmod : Hid (modeD (widM (mAt ms k)) = [.complex .f64 (wid (mAt ms k).1) (wid (mAt ms k).2.1), .complex .f64 (wid (mAt ms k).2.2.1) (wid (mAt ms k).2.2.2)]) := rfl
      have e1' : wr.cell? ⟨b, k * 2, none⟩ = some (.complex .f32 (mAt ms k).1 (mAt ms k).2.1) := e1
      have e2' : wr.cell? ⟨b, k * 2 + 1, none⟩ = some (.complex .f32 (mAt ms k).2.2.1 (mAt ms k).2.2.2) := e2
      have T1 := Lib.hid (fun W => widenFin_any (mAt ms k).1 (mAt ms k).2.1 W hmk.fa hmk.fb)
      have T2 := Lib.hid (fun W => widenFin_any (mAt ms k).2.2.1 (mAt ms k).2.2.2 W hmk.fc hmk.fd)
      clear e1 e2 hcell hmk
      obtain ⟨a, ha⟩ : ∃ a, (mAt ms k).1 = a := ⟨_, rfl⟩
      obtain ⟨b0, hb⟩ : ∃ b, (mAt ms k).2.1 = b := ⟨_, rfl⟩
      obtain ⟨c0, hc⟩ : ∃ c, (mAt ms k).2.2.1 = c := ⟨_, rfl⟩
      obtain ⟨d0, hd⟩ : ∃ d, (mAt ms k).2.2.2 = d := ⟨_, rfl⟩
      rw [ha, hb] at e1' T1
      rw [hc, hd] at e2' T2
      rw [ha, hb, hc, hd] at hmod
      clear ha hb hc hd
      obtain ⟨a', ha⟩ : ∃ a', wid a = a' := ⟨_, rfl⟩
      obtain ⟨b', hb⟩ : ∃ b', wid b0 = b' := ⟨_, rfl⟩
      obtain ⟨c'', hc⟩ : ∃ c', wid c0 = c' := ⟨_, rfl⟩
      obtain ⟨d', hd⟩ : ∃ d', wid d0 = d' := ⟨_, rfl⟩
      rw [ha, hb] at T1
      rw [hc, hd] at T2
      rw [ha, hb, hc, hd] at hmod
      clear ha hb hc hd
      have hmB : Hid ((wr.alloc (.cells #[.complex .f32 a b0, .complex .f32 c0 d0] 52)).heap[wr.heap.size]? = some (.cells #[.complex .f32 a b0, .complex .f32 c0 d0] 52 (0, 0))) := heap_alloc_new wr _
      have HB1 : Hid (Below w.heap.size w (wr.alloc (.cells #[.complex .f32 a b0, .complex .f32 c0 d0] 52))) := hbel.alloc hbel.size _
      have HO1 : Hid ((wr.alloc (.cells #[.complex .f32 a b0, .complex .f32 c0 d0] 52)).ownsRow w.heap.size 131 2 u3 k (flatD (L.map widM))) := hown.alloc _
      have hms : wr.heap.size < (wr.alloc (.cells #[.complex .f32 a b0, .complex .f32 c0 d0] 52)).heap.size := by simp
      have hNG : Hid (∀ q, (u3 : Value).ownBlock = some q → q < wr.heap.size) := fun q hq => (hown.lt q hq).2
      have hws : w.heap.size ≤ wr.heap.size := hbel.size
      go_wp2_with fail
      generalize wr.alloc (.cells #[.complex .f32 a b0, .complex .f32 c0 d0] 52) = Wa at *
      obtain ⟨m0, m1, _, _⟩ := m_cells hmB.out
      generalize hmm : wr.heap.size = mb at *
      obtain ⟨wr1, hwr1⟩ : ∃ wr1, Wa.drew = wr1 := ⟨_, rfl⟩
      have hS : Wa.drew.cell? ⟨mb, 0, none⟩ = some (.complex .f32 a b0) ∧ Wa.drew.cell? ⟨mb, 1, none⟩ = some (.complex .f32 c0 d0) := ⟨m0, m1⟩
      have HOW : Hid (wr1.ownsRow w.heap.size 131 2 u3 k (flatD (L.map widM))) := by rw [← hwr1]; exact HO1.out
      have HAl : Hid ((wr1.alloc (.cells #[.complex .f64 a' b', .complex .f64 c'' d'] 131)).cell? ⟨mb, 0, none⟩ = some (.complex .f32 a b0) ∧ (wr1.alloc (.cells #[.complex .f64 a' b', .complex .f64 c'' d'] 131)).cell? ⟨mb, 1, none⟩ = some (.complex .f32 c0 d0)) := by
        rw [← hwr1]
        exact ⟨(World.cell?_of_block (Below.heap_alloc Wa.drew _ mb hms)).trans m0, (World.cell?_of_block (Below.heap_alloc Wa.drew _ mb hms)).trans m1⟩
      have BK : Hid (∀ (w4 : World) (gg : Nat), (wr1.alloc (.cells #[.complex .f64 a' b', .complex .f64 c'' d'] 131)).grownBy w4 (u3 : Value).ownBlock → Below w.heap.size w w4 ∧ (w4.cell? ⟨mb, 0, none⟩ = some (.complex .f32 a b0) ∧ w4.cell? ⟨mb, 1, none⟩ = some (.complex .f32 c0 d0))) := fun w4 gg hg => by
        have hsz : wr1.heap.size = Wa.heap.size := by rw [← hwr1]; rfl
        have hne : some mb ≠ (u3 : Value).ownBlock := fun e => by have := hNG.out _ e.symm; omega
        have k4 := hg.block mb (by simp; omega) hne
        have b1 : Below w.heap.size w wr1 := by
          rw [← hwr1]; exact below_drewN HB1.out 1
        refine ⟨(b1.alloc (by have := HB1.out.size; omega) _).grown hg (by have := HB1.out.size; simp; omega) (fun q hq => (HOW.out.lt q hq).1), (World.cell?_of_block k4).trans HAl.out.1, (World.cell?_of_block k4).trans HAl.out.2⟩
      have hb0 : w.heap.size ≤ wr1.heap.size := by rw [← hwr1]; exact HB1.out.size
      clear m0 m1 hown hbel e1' e2'
      refine wp_region_held_drew (S := fun w' => w'.cell? ⟨mb, 0, none⟩ = some (.complex .f32 a b0) ∧ w'.cell? ⟨mb, 1, none⟩ = some (.complex .f32 c0 d0)) (by kernel_rfl) hS (fun hHeld => ?_)
      rw [hwr1] at hHeld ⊢
      refine wpAnyH_take (i := 0) (oi := _) (v := ?_) rfl (by kernel_rfl) (by kernel_rfl) (by kernel_rfl) (fun _ _ _ h => h) (Or.inl ⟨by rfl, ?_⟩) (by assumption) ?_
      rotate_left
      · (intro w hSw; (try dsimp only at hSw); go_simp; try (with_reducible rfl))
      (try simp only [Act.put, List.setIfInBounds_toArray, List.set_cons_zero, List.set_cons_succ])
      refine wpAnyH_take (i := 1) (oi := _) (v := ?_) rfl (by kernel_rfl) (by kernel_rfl) (by kernel_rfl) (fun _ _ _ h => h) (Or.inl ⟨by rfl, ?_⟩) (by assumption) ?_
      rotate_left
      · (intro w hSw; (try dsimp only at hSw); go_simp; try (with_reducible rfl))
      (try simp only [Act.put, List.setIfInBounds_toArray, List.set_cons_zero, List.set_cons_succ])
      refine wpAnyH_take (i := 2) (oi := _) (v := ?_) rfl (by kernel_rfl) (by kernel_rfl) (by kernel_rfl) (fun _ _ _ h => h) (Or.inl ⟨by rfl, ?_⟩) (by assumption) ?_
      rotate_left
      · (intro w hSw; (try dsimp only at hSw); go_simp; try (with_reducible rfl))
      (try simp only [Act.put, List.setIfInBounds_toArray, List.set_cons_zero, List.set_cons_succ])
      refine wpAnyH_take (i := 4) (oi := _) (v := ?_) rfl (by kernel_rfl) (by kernel_rfl) (by kernel_rfl) (fun _ _ _ h => h) (Or.inl ⟨by rfl, ?_⟩) (by assumption) ?_
      rotate_left
      · (intro w hSw; (try dsimp only at hSw); go_simp; try (with_reducible rfl))
      (try simp only [Act.put, List.setIfInBounds_toArray, List.set_cons_zero, List.set_cons_succ])
      refine wpAnyH_take (i := 5) (oi := _) (v := ?_) rfl (by kernel_rfl) (by kernel_rfl) (by kernel_rfl) (fun _ _ _ h => h) (Or.inl ⟨by rfl, ?_⟩) (by assumption) ?_
      rotate_left
      · (intro w hSw; (try dsimp only at hSw); go_simp; try (with_reducible rfl))
      (try simp only [Act.put, List.setIfInBounds_toArray, List.set_cons_zero, List.set_cons_succ])
      refine wpAnyH_ready (rs := [3]) (by kernel_rfl) (by simp) ?_
      refine AllReadyH.cons (o := _) rfl (fun K hK => ?_) AllReadyH.nil
      go_simp
      refine (T1.out wr1).mono ?_
      rintro e w' ⟨rfl, rfl⟩
      go_wp2_with fail
      refine hK.out _ _ ?_ (fun hHelda => ?_)
      · exact hHeld
      clear hK K
      (try simp only [Act.put, List.setIfInBounds_toArray, List.set_cons_zero, List.set_cons_succ])
      refine wpAnyH_ready (rs := [6]) (by kernel_rfl) (by simp) ?_
      refine AllReadyH.cons (o := _) rfl (fun K hK => ?_) AllReadyH.nil
      go_simp
      refine (T2.out wr1).mono ?_
      rintro e w' ⟨rfl, rfl⟩
      go_wp2_with fail
      refine hK.out _ _ ?_ (fun hHeldb => ?_)
      · exact hHeld
      clear hK K
      (try simp only [Act.put, List.setIfInBounds_toArray, List.set_cons_zero, List.set_cons_succ])
      refine wpAnyH_take (i := 7) (oi := _) (v := ?_) rfl (by kernel_rfl) (by kernel_rfl) (by kernel_rfl) (fun _ _ _ h => h) (Or.inl ⟨by rfl, ?_⟩) (by assumption) ?_
      rotate_left
      · (intro w hSw; (try dsimp only at hSw); go_simp; try (with_reducible rfl))
      (try simp only [Act.put, List.setIfInBounds_toArray, List.set_cons_zero, List.set_cons_succ])
      refine wpAnyH_ready (rs := [8]) (by kernel_rfl) (by simp) ?_
      refine AllReadyH.cons (o := _) rfl (fun K hK => ?_) AllReadyH.nil
      go_simp
      refine hK.out _ _ ?_ (fun hHeldc => ?_)
      · exact HAl.out
      clear hK K
      (try simp only [Act.put, List.setIfInBounds_toArray, List.set_cons_zero, List.set_cons_succ])
      obtain ⟨i0, hi0, hz0, hz1, hz2'⟩ := info_parts wide_info
      refine wpAnyH_ready (rs := [9]) (by kernel_rfl) (by simp) ?_
      refine AllReadyH.cons (o := _) rfl (fun K hK => ?_) AllReadyH.nil
      refine step_append_lies _ (by rfl) (.tmp 14) (.tmp 22) 83 (by rfl) w.heap.size 131 i0 _ 2 32 Try.underlying83 hi0 hz0 hz1 hz2' rfl (by omega) u3 k (flatD (L.map widM)) (by rfl) (HOW.out.alloc _) ⟨wr1.heap.size, 0, none⟩ 1 1 [.complex .f64 a' b', .complex .f64 c'' d'] (by rfl) (by rfl) (World.news_of_block (cs := #[.complex .f64 a' b', .complex .f64 c'' d']) (t := 131) (fr := (0, 0)) (heap_alloc_new wr1 _)) (by simp [Value.oneCell']) (by omega) (by simp only [maxLen]; omega) (by omega) (by simp; omega) (wr1.heap.size + 1) (by simp) ?_
      intro gg cap w4 hown4 hgrow hat hlt4
      have B4 := Lib.hid (BK.out w4 gg hgrow)
      refine hK.out _ _ ?_ (fun hHeldd => ?_)
      · exact B4.out.2
      clear hK K
      (try simp only [Act.put, List.setIfInBounds_toArray, List.set_cons_zero, List.set_cons_succ])
      refine wpAnyH_take (i := 10) (oi := _) (v := ?_) rfl (by kernel_rfl) (by kernel_rfl) (by kernel_rfl) (fun _ _ _ h => h) (Or.inl ⟨by rfl, ?_⟩) (by assumption) ?_
      rotate_left
      · (intro w hSw; (try dsimp only at hSw); go_simp; try (with_reducible rfl))
      (try simp only [Act.put, List.setIfInBounds_toArray, List.set_cons_zero, List.set_cons_succ])
      refine wpAnyH_done (by kernel_rfl) ?_ _
      go_wp2_with fail
      go_roundw
      case rel =>
        refine ⟨k + 1, L ++ [mAt ms k], by go_num, by omega, HLx.out, ?_, B4.out.1⟩
        rw [List.map_append, List.map_cons, List.map_nil, ← flatD_snoc, hmod.out]
        exact hown4
      case measure => simp [intOf]; omega
    · have hkn : ms.length = k := by omega
      subst hkn
      have hL : L = ms := by rw [HL.out, List.take_length]
      subst hL
      go_wp2_with fail
      go_ret
      have hv : ∃ A' c', u3 = .slice A' L.length c' := by
        rcases hown.2 with ⟨rfl, h0⟩ | ⟨G, cap', cur', rfl, _⟩
        · exact ⟨none, 0, by rw [h0]⟩
        · exact ⟨_, _, rfl⟩
      obtain ⟨A', c', rfl⟩ := hv
      have hln : (L.map widM).length = L.length := by simp
      refine ⟨A', c', rfl, OwnD.of ?_, hbel⟩
      rw [hln]; exact hown
end Go.Proofs.Ytignncjmbcdpaaa

/-
impl.RingDouble at a valid body.
-/
namespace Go.Proofs.Ytignncjmbcdpaaa
open Go Go.RowKit Ieee

set_option maxRecDepth 100000 in
set_option maxHeartbeats 400000 in
theorem input_any (B : Option Addr) (d pb : Nat) (xs : List Nat) (i : Nat) (w : World) (hc : w.cell? ⟨pb, 0, none⟩ = some (.slice B xs.length d)) (hr : Rd w B (f32s xs)) (hm : xs.length ≤ 1048576) (hi : i ≤ 2000) :
    Calls Try.prog 116 #[.int .i64 i, .pointer (some ⟨pb, 0, none⟩)] w fun e w' => ∃ x m, e = .returned (.float .f64 x) ∧ nrm .f64 x = nrm .f64 (wid (inAt xs i)) ∧ w.drewN m = w' := by
  have T := Lib.hid (element_any B d xs i w hr hm hi)
  obtain ⟨y, hy⟩ : ∃ y, inAt xs i = y := ⟨_, rfl⟩
  rw [hy] at T ⊢
  clear hr hy
  go_enter Try.func116, Try.ntmps116
  go_wp2_with fail
  refine T.out.mono ?_
  rintro e w' ⟨rfl, rfl⟩
  go_wp2_with fail
  go_ret
  exact ⟨_, _, rfl, by rw [nrm_wid, nrm_cv (by decide)], rfl⟩

/-- The inputs of a body in double precision. -/
def inW (xs : List Nat) (i : Nat) : Nat := wid (inAt xs i)
set_option maxRecDepth 100000 in
set_option maxHeartbeats 800000 in
theorem ringDouble_any (A B : Option Addr) (c d lo hi : Nat) (ms : List MW) (xs : List Nat) (n : Nat) (w : World) (h : OwnM w lo hi A c ms) (hh : hi ≤ w.heap.size) (hok : ModesOk ms) (hl : ms.length ≤ 16)
    (hr : Rd w B (f32s xs)) (hm : xs.length ≤ 1048576) (hn : n ≤ 2000) :
    Calls Try.prog 66 #[.agg #[.slice A ms.length c], .slice B xs.length d, .int .i64 n] w fun e w' => ∃ (A' : Option Addr) (c' : Nat) (ys : List Nat), e = .returned (.tuple #[.slice A' ys.length c', .bool true]) ∧
      w'.ownsRow w.heap.size 30 1 (.slice A' ys.length c') ys.length (f64s ys) ∧ RungD (ms.map widM) (inW xs) ys n ∧ Below w.heap.size w w' := by
  have HB : Hid (Below w.heap.size w ((w.alloc (.cells #[.slice A ms.length c] 69)).alloc (.cells #[.slice B xs.length d] 23))) := ((Below.refl w.heap.size w).alloc (Nat.le_refl _) _).alloc (by simp) _
  have H : Hid (OwnM ((w.alloc (.cells #[.slice A ms.length c] 69)).alloc (.cells #[.slice B xs.length d] 23)) lo hi A c ms) := h.below HB.out hh
  have HR : Hid (Rd ((w.alloc (.cells #[.slice A ms.length c] 69)).alloc (.cells #[.slice B xs.length d] 23)) B (f32s xs)) := hr.below HB.out
  have HP : Hid (((w.alloc (.cells #[.slice A ms.length c] 69)).alloc (.cells #[.slice B xs.length d] 23)).heap[w.heap.size]? = some (.cells #[.slice A ms.length c] 69 (0, 0))) :=
    (Below.heap_alloc _ _ _ (by simp)).trans (heap_alloc_new w _)
  have HI : Hid (((w.alloc (.cells #[.slice A ms.length c] 69)).alloc (.cells #[.slice B xs.length d] 23)).heap[w.heap.size + 1]? = some (.cells #[.slice B xs.length d] 23 (0, 0))) := by
    show _ = _
    have := heap_alloc_new (w.alloc (.cells #[.slice A ms.length c] 69)) (.cells #[.slice B xs.length d] 23)
    simpa using this
  have hsz : w.heap.size + 1 < ((w.alloc (.cells #[.slice A ms.length c] 69)).alloc (.cells #[.slice B xs.length d] 23)).heap.size := by simp
  have hin : (decide ((0 : Int) ≤ (n : Int)) && decide ((n : Int) ≤ 2000)) = true := by simp; omega
  have HK := Lib.hid hok
  have c0 := cell_of_row _ w.heap.size 0 _ _ (0, 0) HP.out
  clear h hr hok
  go_enter Try.func66, Try.ntmps66
  go_wp2_with fail
  generalize (w.alloc (.cells #[.slice A ms.length c] 69)).alloc (.cells #[.slice B xs.length d] 23) = W at *
  refine (isBody_any A c lo hi ms _ H.out (by omega) HK.out hl).mono ?_
  rintro e W1 ⟨rfl, hb1⟩
  have hs1 := hb1.size
  have HP1 := Lib.hid ((hb1.block _ (by omega)).trans HP.out)
  have HI1 := Lib.hid ((hb1.block _ (by omega)).trans HI.out)
  have H1 := Lib.hid (H.out.below hb1 (by omega))
  have HR1 := Lib.hid (HR.out.below hb1)
  have HB1 : Hid (Below w.heap.size w W1) := HB.out.trans (hb1.mono (by omega))
  clear c0 H HR HP HI HB hb1
  have c1 := cell_of_row _ w.heap.size 0 _ _ (0, 0) HP1.out
  go_wp2_with fail
  refine (count_any n _).mono ?_
  rintro e w' ⟨rfl, rfl⟩
  rw [hin]
  go_wp2_with fail
  refine (widened_any A c lo hi ms W1 H1.out (by omega) HK.out hl).mono ?_
  rintro e W2 ⟨A2, c2, he, ho2, hb2⟩
  obtain ⟨ds, hds⟩ : ∃ ds, ms.map widM = ds := ⟨_, rfl⟩
  have hdl : ms.length = ds.length := by rw [← hds]; simp
  rw [hds] at ho2
  rw [hdl] at he
  have HDS := Lib.hid hds
  subst he
  have HO2 := Lib.hid ho2
  have HR2 := Lib.hid (HR1.out.below hb2)
  have hs2 := hb2.size
  have HI2 := Lib.hid ((hb2.block _ (by omega)).trans HI1.out)
  have HB2 : Hid (Below w.heap.size w W2) := HB1.out.trans (hb2.mono (by omega))
  have hdl16 : ds.length ≤ 16 := by omega
  clear ho2 hb2 c1 HP1 HI1 H1 HR1 HB1 hds
  go_wp2_with fail
  refine (ring_any A2 c2 _ _ ds (w.heap.size + 1) (inW xs) n W2 HO2.out (Nat.le_refl _) hdl16 hn (fun i W3 hi hb3 => input_any B d (w.heap.size + 1) xs i W3 (cell_of_row W3 (w.heap.size + 1) 0 _ _ (0, 0) ((hb3.block _ (by omega)).trans HI2.out)) (HR2.out.below hb3) hm (by omega))).mono ?_
  rintro e W4 ⟨A4, c4, ys, rfl, ho4, hr4, hb4⟩
  have HO4 := Lib.hid (owns_low (lo' := w.heap.size) ho4 (by omega))
  have HR4 := Lib.hid hr4
  have HB4 : Hid (Below w.heap.size w W4) := HB2.out.trans (hb4.mono (by omega))
  clear ho4 hr4 hb4
  go_wp2_with fail
  go_ret2
  exact ⟨A4, c4, ys, rfl, HO4.out, by rw [HDS.out]; exact HR4.out, HB4.out⟩
end Go.Proofs.Ytignncjmbcdpaaa

/-
One step of a mode in single and in double precision. (Plain arithmetic.)
-/
namespace Go.Proofs.Ytignncjmbcdpaaa
open Go Ieee

theorem nar_err {s r : Nat} {V S : Rat} (fs : fin .f64 s) (he : ab (fv .f64 s - V) ≤ S / 2 ^ 51 + 1 / 2 ^ 197) (hV : ab V ≤ S) (hS : S ≤ 2 ^ 102) (hr : r = nar s) :
    ab (fv .f64 s) ≤ top .f32 ∧ fin .f32 r ∧ ab (fv .f32 r - V) ≤ S * (1 / 2 ^ 24) + S / 2 ^ 16 * (1 / 2 ^ 24) + 1 / 2 ^ 149 * 4 ∧ ab (fv .f32 r) ≤ 2 ^ 104 := by
  obtain ⟨u1, u2, _⟩ := consts32
  have ht2 := top32
  have t := ab_tri (fv .f64 s) V
  have n := ab_nonneg V
  have hb : ab (fv .f64 s) ≤ S + S / 2 ^ 51 + 1 / 2 ^ 197 := by grind
  have htop : ab (fv .f64 s) ≤ top .f32 := by grind
  have h := (nar_ok fs htop).2
  have e := h.2.1
  rw [u1] at e
  have t2 := ab_add (fv .f32 (nar s) - fv .f64 s) (fv .f64 s - V)
  rw [show fv .f32 (nar s) - fv .f64 s + (fv .f64 s - V) = fv .f32 (nar s) - V by grind] at t2
  have t3 := ab_tri (fv .f32 (nar s)) V
  subst hr
  exact ⟨htop, h.1, by grind, by grind⟩
theorem add_err {r g : Nat} {V G S W : Rat} (fr : fin .f32 r) (fg : fin .f32 g) (hr : ab (fv .f32 r - V) ≤ S * (1 / 2 ^ 24) + S / 2 ^ 16 * (1 / 2 ^ 24) + 1 / 2 ^ 149 * 4) (hV : ab V ≤ S) (br : ab (fv .f32 r) ≤ 2 ^ 104)
    (hg : ab (fv .f32 g - G) ≤ 1 / 2 ^ 24 * ab G + 1 / 2 ^ 149) (hG : ab G ≤ W) (bg : ab (fv .f32 g) ≤ 2 ^ 18) :
    fin .f32 (fo .add .f32 r g) ∧ ab (fv .f32 (fo .add .f32 r g) - (V + G)) ≤ (S + W) / 2 ^ 22 + 1 / 2 ^ 146 := by
  obtain ⟨u1, u2, _⟩ := consts32
  have ht2 := top32
  have t := ab_add (fv .f32 r) (fv .f32 g)
  have h := add_spec fr fg (by grind)
  have e := h.2.1
  rw [u1] at e
  have nV := ab_nonneg V
  have nG := ab_nonneg G
  have k := err_add (μ := 1 / 2 ^ 24) (τ := 1 / 2 ^ 149) (by grind) (by grind) (by grind) hr hV hg hG (z := fv .f32 (fo .add .f32 r g)) (by grind) (by grind) (by grind)
  exact ⟨h.1, by grind⟩
theorem s32_step {m : MW} {s : Nat × Nat} {x : Nat} {R : Rat} (hm : ModeOk m.1 m.2.1 m.2.2.1 m.2.2.2) (f1 : fin .f32 s.1) (f2 : fin .f32 s.2) (w1 : wfk .f32 s.1) (w2 : wfk .f32 s.2)
    (hB : B2 (fv .f32 s.1) (fv .f32 s.2) R) (hR : R ≤ 2 ^ 100) (fx : fin .f32 x) (hx : ab (fv .f32 x) ≤ 128) :
    StepOk m s x ∧ ab (fv .f32 (stepW m s x).1 - exRe m (fv .f32 s.1) (fv .f32 s.2) (fv .f32 x)) ≤ (R * rho + gam m * ab (fv .f32 x)) / 2 ^ 22 + 1 / 2 ^ 146 ∧
      ab (fv .f32 (stepW m s x).2 - exIm m (fv .f32 s.1) (fv .f32 s.2) (fv .f32 x)) ≤ (R * rho + gam m * ab (fv .f32 x)) / 2 ^ 22 + 1 / 2 ^ 146 := by
  obtain ⟨a1, a2⟩ := wid_fin f1
  obtain ⟨b1, b2⟩ := wid_fin f2
  have c2 := (wid_fin (fin_of_wid hm.fa)).2
  have d2 := (wid_fin (fin_of_wid hm.fb)).2
  have hP := hm.ball
  obtain ⟨S1, S2⟩ := hB.prods hP
  obtain ⟨t1, t2, t3, t4⟩ := times64 a1 b1 hm.fa hm.fb (by rw [a2, b2]; exact hB) (by rw [c2, d2]; exact hP) hR
  rw [a2, b2, c2, d2] at t3 t4
  have hS : R * rho ≤ 2 ^ 102 := by
    have := hB.1
    unfold rho; grind
  have v1 := ab_add (fv .f32 s.1 * fv .f32 m.1) (-(fv .f32 s.2 * fv .f32 m.2.1))
  rw [ab_neg] at v1
  have v2 := ab_add (fv .f32 s.1 * fv .f32 m.2.1) (fv .f32 s.2 * fv .f32 m.1)
  obtain ⟨p1, p2, p3, p4⟩ := nar_err t1 t3 (by grind) hS (rfl : sRe s.1 s.2 m.1 m.2.1 = _)
  obtain ⟨q1, q2, q3, q4⟩ := nar_err t2 t4 (by grind) hS (rfl : sIm s.1 s.2 m.1 m.2.1 = _)
  obtain ⟨g1, g2, g3⟩ := gain_err (fin_of_wid hm.fc) fx (gain_le hm.fc hm.gain.1) hx
  obtain ⟨h1, h2, h3⟩ := gain_err (fin_of_wid hm.fd) fx (gain_le hm.fd hm.gain.2) hx
  have n1 := ab_nonneg (fv .f32 m.2.2.1)
  have n2 := ab_nonneg (fv .f32 m.2.2.2)
  have n3 := ab_nonneg (fv .f32 x)
  have W1 : ab (fv .f32 m.2.2.1 * fv .f32 x) ≤ gam m * ab (fv .f32 x) := by
    rw [ab_mul]; exact Rat.mul_le_mul_of_nonneg_right (by unfold gam; grind) n3
  have W2 : ab (fv .f32 m.2.2.2 * fv .f32 x) ≤ gam m * ab (fv .f32 x) := by
    rw [ab_mul]; exact Rat.mul_le_mul_of_nonneg_right (by unfold gam; grind) n3
  obtain ⟨z1, z2⟩ := add_err p2 g1 p3 (by grind) p4 g2 W1 g3
  obtain ⟨y1, y2⟩ := add_err q2 h1 q3 (by grind) q4 h2 W2 h3
  refine ⟨⟨⟨t1, t2, p1, q1⟩, w1, w2, g1, h1, z1, y1⟩, ?_, ?_⟩
  · have e : exRe m (fv .f32 s.1) (fv .f32 s.2) (fv .f32 x) = fv .f32 s.1 * fv .f32 m.1 + -(fv .f32 s.2 * fv .f32 m.2.1) + fv .f32 m.2.2.1 * fv .f32 x := by unfold exRe; grind
    rw [e]; exact z2
  · exact y2
theorem gain64 {g x : Nat} (fg : fin .f64 g) (fx : fin .f64 x) (hg : ab (fv .f64 g) ≤ 1024) (hx : ab (fv .f64 x) ≤ 128) :
    fin .f64 (fo .mul .f64 g x) ∧ ab (fv .f64 (fo .mul .f64 g x) - fv .f64 g * fv .f64 x) ≤ 1 / 2 ^ 51 * ab (fv .f64 g * fv .f64 x) + 1 / 2 ^ 199 ∧ ab (fv .f64 (fo .mul .f64 g x)) ≤ 2 ^ 18 := by
  obtain ⟨k1, k2, k3⟩ := consts64
  have h1 := Rat.mul_le_mul_of_nonneg_left hx (ab_nonneg (fv .f64 g))
  have h2 : ab (fv .f64 g * fv .f64 x) ≤ 2 ^ 17 := by rw [ab_mul]; grind
  have hm := mul_spec fg fx (by grind)
  have e := hm.2.1
  rw [k1] at e
  have n := ab_nonneg (fv .f64 g * fv .f64 x)
  have t := ab_tri (fv .f64 (fo .mul .f64 g x)) (fv .f64 g * fv .f64 x)
  exact ⟨hm.1, by grind, by grind⟩
theorem add64_err {r g : Nat} {V G S W : Rat} (fr : fin .f64 r) (fg : fin .f64 g) (hr : ab (fv .f64 r - V) ≤ S / 2 ^ 51 + 1 / 2 ^ 197) (hV : ab V ≤ S) (hS : S ≤ 2 ^ 102)
    (hg : ab (fv .f64 g - G) ≤ 1 / 2 ^ 51 * ab G + 1 / 2 ^ 199) (hG : ab G ≤ W) (bg : ab (fv .f64 g) ≤ 2 ^ 18) :
    fin .f64 (fo .add .f64 r g) ∧ ab (fv .f64 (fo .add .f64 r g) - (V + G)) ≤ (S + W) / 2 ^ 49 + 1 / 2 ^ 196 := by
  obtain ⟨k1, k2, k3⟩ := consts64
  have nV := ab_nonneg V
  have nG := ab_nonneg G
  have t0 := ab_tri (fv .f64 r) V
  have t := ab_add (fv .f64 r) (fv .f64 g)
  have n := ab_nonneg (fv .f64 r + fv .f64 g)
  have h := add_spec fr fg (by grind)
  have e := h.2.1
  rw [k1] at e
  have k := err_add (μ := 1 / 2 ^ 51) (τ := 1 / 2 ^ 199) (S := S) (by grind) (by grind) (by grind) (r := fv .f64 r) (V := V) (by grind) hV hg hG (z := fv .f64 (fo .add .f64 r g)) (by grind) (by grind) (by grind)
  exact ⟨h.1, by grind⟩
theorem s64_step {m : MW} {s : CW} {x : Nat} {R : Rat} (hm : ModeOk m.1 m.2.1 m.2.2.1 m.2.2.2) (f1 : fin .f64 s.1) (f2 : fin .f64 s.2)
    (hB : B2 (fv .f64 s.1) (fv .f64 s.2) R) (hR : R ≤ 2 ^ 100) (fx : fin .f32 x) (hx : ab (fv .f32 x) ≤ 128) :
    fin .f64 (stepD (widM m) s (wid x)).1 ∧ fin .f64 (stepD (widM m) s (wid x)).2 ∧
      ab (fv .f64 (stepD (widM m) s (wid x)).1 - exRe m (fv .f64 s.1) (fv .f64 s.2) (fv .f32 x)) ≤ (R * rho + gam m * ab (fv .f32 x)) / 2 ^ 49 + 1 / 2 ^ 196 ∧
      ab (fv .f64 (stepD (widM m) s (wid x)).2 - exIm m (fv .f64 s.1) (fv .f64 s.2) (fv .f32 x)) ≤ (R * rho + gam m * ab (fv .f32 x)) / 2 ^ 49 + 1 / 2 ^ 196 := by
  have c2 := (wid_fin (fin_of_wid hm.fa)).2
  have d2 := (wid_fin (fin_of_wid hm.fb)).2
  have gc := (wid_fin (fin_of_wid hm.fc)).2
  have gd := (wid_fin (fin_of_wid hm.fd)).2
  obtain ⟨x1, x2⟩ := wid_fin fx
  have hP := hm.ball
  obtain ⟨S1, S2⟩ := hB.prods hP
  obtain ⟨t1, t2, t3, t4⟩ := times64 f1 f2 hm.fa hm.fb hB (by rw [c2, d2]; exact hP) hR
  rw [c2, d2] at t3 t4
  have hS : R * rho ≤ 2 ^ 102 := by
    have := hB.1
    unfold rho; grind
  have v1 := ab_add (fv .f64 s.1 * fv .f32 m.1) (-(fv .f64 s.2 * fv .f32 m.2.1))
  rw [ab_neg] at v1
  have v2 := ab_add (fv .f64 s.1 * fv .f32 m.2.1) (fv .f64 s.2 * fv .f32 m.1)
  obtain ⟨g1, g2, g3⟩ := gain64 hm.fc x1 (by rw [gc]; exact gain_le hm.fc hm.gain.1) (by rw [x2]; exact hx)
  obtain ⟨h1, h2, h3⟩ := gain64 hm.fd x1 (by rw [gd]; exact gain_le hm.fd hm.gain.2) (by rw [x2]; exact hx)
  rw [gc, x2] at g2
  rw [gd, x2] at h2
  have n1 := ab_nonneg (fv .f32 m.2.2.1)
  have n2 := ab_nonneg (fv .f32 m.2.2.2)
  have n3 := ab_nonneg (fv .f32 x)
  have W1 : ab (fv .f32 m.2.2.1 * fv .f32 x) ≤ gam m * ab (fv .f32 x) := by
    rw [ab_mul]; exact Rat.mul_le_mul_of_nonneg_right (by unfold gam; grind) n3
  have W2 : ab (fv .f32 m.2.2.2 * fv .f32 x) ≤ gam m * ab (fv .f32 x) := by
    rw [ab_mul]; exact Rat.mul_le_mul_of_nonneg_right (by unfold gam; grind) n3
  obtain ⟨z1, z2⟩ := add64_err t1 g1 t3 (by grind) hS g2 W1 g3
  obtain ⟨y1, y2⟩ := add64_err t2 h1 t4 (by grind) hS h2 W2 h3
  refine ⟨z1, y1, ?_, y2⟩
  have e : exRe m (fv .f64 s.1) (fv .f64 s.2) (fv .f32 x) = fv .f64 s.1 * fv .f32 m.1 + -(fv .f64 s.2 * fv .f32 m.2.1) + fv .f32 m.2.2.1 * fv .f32 x := by unfold exRe; grind
  rw [e]; exact z2
end Go.Proofs.Ytignncjmbcdpaaa

/-
The states in single precision stay near those in double precision. (Plain arithmetic.)
-/
namespace Go.Proofs.Ytignncjmbcdpaaa
open Go Ieee

/-- After t steps, where the gain times what came in is U. -/
structure Near (s : Nat × Nat) (S : CW) (t U : Rat) : Prop where
  f1 : fin .f32 s.1
  f2 : fin .f32 s.2
  w1 : wfk .f32 s.1
  w2 : wfk .f32 s.2
  F1 : fin .f64 S.1
  F2 : fin .f64 S.2
  b1 : B2 (fv .f32 s.1) (fv .f32 s.2) (U + t * U / 2 ^ 20 + t / 2 ^ 130)
  b2 : B2 (fv .f64 S.1) (fv .f64 S.2) (U + t * U / 2 ^ 20 + t / 2 ^ 130)
  b3 : B2 (fv .f32 s.1 - fv .f64 S.1) (fv .f32 s.2 - fv .f64 S.2) (t * U * (9 / 8) / 2 ^ 21 + t / 2 ^ 120)
theorem near_zero : Near (0, 0) (0, 0) 0 0 := by
  obtain ⟨z1, z2⟩ := zero_fin .f32
  obtain ⟨y1, y2⟩ := zero_fin .f64
  have e : (0 : Rat) + 0 * 0 / 2 ^ 20 + 0 / 2 ^ 130 = 0 := by grind
  have e' : (0 : Rat) * 0 * (9 / 8) / 2 ^ 21 + 0 / 2 ^ 120 = 0 := by grind
  refine ⟨z1, z1, by show (0 : Nat) < 4294967296; omega, by show (0 : Nat) < 4294967296; omega, y1, y1, ?_, ?_, ?_⟩
  · show B2 (fv .f32 0) (fv .f32 0) _
    rw [e, z2]; exact B2.zero
  · show B2 (fv .f64 0) (fv .f64 0) _
    rw [e, y2]; exact B2.zero
  · show B2 (fv .f32 0 - fv .f64 0) (fv .f32 0 - fv .f64 0) _
    rw [e', z2, y2]
    have : (0 : Rat) - 0 = 0 := by grind
    rw [this]; exact B2.zero
theorem ball_of {x y a b R e : Rat} (h : B2 a b R) (hx : ab (x - a) ≤ e) (hy : ab (y - b) ≤ e) : B2 x y (R + e * (3 / 2)) := by
  have := h.add (B2.box hx hy)
  rw [show a + (x - a) = x by grind, show b + (y - b) = y by grind] at this
  exact this
theorem near_step {m : MW} {s : Nat × Nat} {S : CW} {x : Nat} {t U : Rat} (hm : ModeOk m.1 m.2.1 m.2.2.1 m.2.2.2) (h : Near s S t U) (fx : fin .f32 x) (hx : ab (fv .f32 x) ≤ 128) (ht : 0 ≤ t) (ht2 : t ≤ 300) (hU : 0 ≤ U) (hU2 : U ≤ 2 ^ 60) :
    StepOk m s x ∧ Near (stepW m s x) (stepD (widM m) S (wid x)) (t + 1) (U + gam m * ab (fv .f32 x)) := by
  obtain ⟨W, hW⟩ : ∃ W, gam m * ab (fv .f32 x) = W := ⟨_, rfl⟩
  have hW0 : 0 ≤ W := by rw [← hW]; exact Rat.mul_nonneg (gam_nonneg m) (ab_nonneg _)
  have tU0 := Rat.mul_nonneg ht hU
  have tW0 := Rat.mul_nonneg ht hW0
  have tU1 : t * U ≤ 300 * U := Rat.mul_le_mul_of_nonneg_right ht2 hU
  have tW1 : t * W ≤ 300 * W := Rat.mul_le_mul_of_nonneg_right ht2 hW0
  obtain ⟨R, hR⟩ : ∃ R, U + t * U / 2 ^ 20 + t / 2 ^ 130 = R := ⟨_, rfl⟩
  obtain ⟨E, hE⟩ : ∃ E, t * U * (9 / 8) / 2 ^ 21 + t / 2 ^ 120 = E := ⟨_, rfl⟩
  have b1 := h.b1
  have b2 := h.b2
  have b3 := h.b3
  rw [hR] at b1 b2
  rw [hE] at b3
  have hRb : R ≤ 2 ^ 100 := by grind
  obtain ⟨so, e1, e2⟩ := s32_step hm h.f1 h.f2 h.w1 h.w2 b1 hRb fx hx
  obtain ⟨G1, G2, e3, e4⟩ := s64_step hm h.F1 h.F2 b2 hRb fx hx
  have x1 := ex_ball (x := fv .f32 x) hm b1
  have x2 := ex_ball (x := fv .f32 x) hm b2
  rw [hW] at e1 e2 e3 e4 x1 x2
  have r0 : R * rho = R + R / 2 ^ 40 := by unfold rho; grind
  rw [r0] at e1 e2 e3 e4 x1 x2
  have y1 := ball_of x1 e1 e2
  have y2 := ball_of x2 e3 e4
  have d := b3.mul hm.ball
  have r1 : E * rho = E + E / 2 ^ 40 := by unfold rho; grind
  rw [r1] at d
  have d1 : B2 (exRe m (fv .f32 s.1) (fv .f32 s.2) (fv .f32 x) - exRe m (fv .f64 S.1) (fv .f64 S.2) (fv .f32 x)) (exIm m (fv .f32 s.1) (fv .f32 s.2) (fv .f32 x) - exIm m (fv .f64 S.1) (fv .f64 S.2) (fv .f32 x)) (E + E / 2 ^ 40) := by
    have q1 : exRe m (fv .f32 s.1) (fv .f32 s.2) (fv .f32 x) - exRe m (fv .f64 S.1) (fv .f64 S.2) (fv .f32 x) = (fv .f32 s.1 - fv .f64 S.1) * fv .f32 m.1 - (fv .f32 s.2 - fv .f64 S.2) * fv .f32 m.2.1 := by unfold exRe; grind
    have q2 : exIm m (fv .f32 s.1) (fv .f32 s.2) (fv .f32 x) - exIm m (fv .f64 S.1) (fv .f64 S.2) (fv .f32 x) = (fv .f32 s.1 - fv .f64 S.1) * fv .f32 m.2.1 + (fv .f32 s.2 - fv .f64 S.2) * fv .f32 m.1 := by unfold exIm; grind
    rw [q1, q2]; exact d
  have d2 := d1.add ((B2.box e1 e2).add (B2.box e3 e4).neg)
  have hN : Near (stepW m s x) (stepD (widM m) S (wid x)) (t + 1) (U + W) := by
    refine ⟨so.n1, so.n2, fo_lt _ _ _ _, fo_lt _ _ _ _, G1, G2, y1.le ?_, y2.le ?_, ?_⟩
    · rw [← hR]; grind
    · rw [← hR]; grind
    · have e5 : ∀ a b c d : Rat, a - c + ((b - a) + -(d - c)) = b - d := fun a b c d => by grind
      rw [e5, e5] at d2
      refine d2.le ?_
      rw [← hR, ← hE]
      grind
  rw [hW]
  exact ⟨so, hN⟩
end Go.Proofs.Ytignncjmbcdpaaa
