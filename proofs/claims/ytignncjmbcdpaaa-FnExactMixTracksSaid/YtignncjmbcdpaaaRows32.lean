/-
Slices of slices of single precision: laws.szFloat32SS, toFloat32SS, eqFloat32SS, markFloat32SS.
-/
import Derived.Test.YtignncjmbcdpaaaMark
import Derived.Test.YtignncjmbcdpaaaOpenRows
namespace Go.Proofs.Ytignncjmbcdpaaa
open Go Go.RowKit Ieee

theorem setCell_size (W : World) (a : Addr) (v : Value) : (W.setCell a v).heap.size = W.heap.size := by simp
/-- How many words the first rows have. -/
def totL (rs : List Row) : Nat → Nat
  | 0 => 0
  | k + 1 => totL rs k + (rowAt rs k).2.2.length
theorem totL_mono (rs : List Row) {j k : Nat} (h : j ≤ k) : totL rs j ≤ totL rs k := by
  induction k with
  | zero => obtain rfl : j = 0 := by omega
            exact Nat.le_refl _
  | succ k ih =>
    rcases Nat.lt_or_ge j (k + 1) with h1 | h1
    · have := ih (by omega); show _ ≤ totL rs k + _; omega
    · obtain rfl : j = k + 1 := by omega
      exact Nat.le_refl _
theorem totL_row (rs : List Row) {i n : Nat} (h : i < n) : (rowAt rs i).2.2.length ≤ totL rs n := by
  have := totL_mono rs (show i + 1 ≤ n by omega)
  have e : totL rs (i + 1) = totL rs i + (rowAt rs i).2.2.length := rfl
  omega

set_option maxHeartbeats 400000 in
theorem sz1_any (A : Option Addr) (c n : Nat) (left : Int) (w : World) (hn : n ≤ maxLen) (h0 : 0 ≤ left) (h1 : left ≤ 1048576) :
    Calls Try.prog 93 #[.slice A n c, .int .i64 left] w fun e w' => e = .returned (.int .i64 (if left < n then -1 else left - n)) ∧ w = w' := by
  simp only [maxLen] at hn
  by_cases h : left < n
  · rw [if_pos h]
    go_enter Try.func93, Try.ntmps93
    go_wp2
    go_ret
    exact ⟨rfl, rfl⟩
  · rw [if_neg h]
    go_enter Try.func93, Try.ntmps93
    go_wp2
    go_ret
    exact ⟨rfl, rfl⟩

set_option maxHeartbeats 400000 in
theorem szSS_any (A : Option Addr) (c : Nat) (rs : List Row) (w : World) (hr : RdSS w A rs) (hn : rs.length ≤ maxLen) (hl : ∀ i, i < rs.length → (rowAt rs i).2.2.length ≤ maxLen) :
    Calls Try.prog 38 #[.slice A rs.length c, .int .i64 1048576] w fun e w' => ∃ L : Int, e = .returned (.int .i64 L) ∧ (0 ≤ L → rs.length + totL rs rs.length ≤ 1048576) ∧ w = w' := by
  have hn' := hn
  simp only [maxLen] at hn'
  have Hl := Lib.hid hl
  clear hl
  by_cases h0 : (1048576 : Int) < rs.length
  · go_enter Try.func38, Try.ntmps38
    go_wp2
    go_ret
    exact ⟨-1, rfl, by omega, rfl⟩
  · go_enter Try.func38, Try.ntmps38
    go_wp2_with fail
    go_loopw [1, 5] (fun l i wr => ∃ k : Nat, i = .int .i64 (k : Int) ∧ l = .int .i64 (1048576 - (rs.length : Int) - (totL rs k : Int)) ∧ k ≤ rs.length ∧ Hid (0 ≤ 1048576 - (rs.length : Int) - (totL rs k : Int)) ∧ wr = w) (fun _ i _ => rs.length - (intOf i).toNat)
    case atStart => exact ⟨0, rfl, by simp [totL], by omega, by simp only [totL]; show 0 ≤ 1048576 - (rs.length : Int) - ((0 : Nat) : Int); omega, rfl⟩
    case round =>
      obtain ⟨k, rfl, rfl, hk, hL, rfl⟩ := hrel
      by_cases hlt : k < rs.length
      · obtain ⟨b, off, rfl, hb, hc⟩ := hr.1 (by simp; omega)
        have e1 := hc k _ (rowV_at hlt)
        have hlen := Hl.out k hlt
        have H := hL.out
        have Ht : Hid (totL rs (k + 1) = totL rs k + (rowAt rs k).2.2.length) := rfl
        clear hc
        unfold rowV at e1
        generalize (rowAt rs k).2.2.length = m at *
        generalize (rowAt rs k).1 = A' at *
        generalize (rowAt rs k).2.1 = c' at *
        generalize totL rs k = T at *
        go_wp2_with fail
        refine (sz1_any A' c' m _ _ hlen (by omega) (by omega)).mono ?_
        rintro e w' ⟨rfl, rfl⟩
        by_cases hd : 1048576 - (rs.length : Int) - (T : Int) < m
        · rw [if_pos hd]
          go_wp2_with fail
          go_ret
          exact ⟨-1, rfl, by omega, rfl⟩
        · rw [if_neg hd]
          go_wp2_with fail
          go_roundw
          case rel => exact ⟨k + 1, by go_num, by rw [Ht.out]; simp; omega, by omega, by rw [Ht.out]; show 0 ≤ 1048576 - (rs.length : Int) - ((T + m : Nat) : Int); omega, trivial⟩
          case measure => simp [intOf]; omega
      · obtain rfl : k = rs.length := by omega
        have H := hL.out
        go_wp2_with fail
        go_ret
        exact ⟨_, rfl, by omega, rfl⟩

theorem row_info : (Try.prog.info? 23).map (fun i => (i.zero, i.size, i.bytes)) = some (some (.slice none 0 0), 1, 24) := by kernel_rfl
/-- The rows of a copy whose outer block is b. -/
def copyRows (b : Nat) (rs : List Row) : List Row := (List.range rs.length).map fun i => (some ⟨b + 1 + i, 0, none⟩, (rowAt rs i).2.2.length, (rowAt rs i).2.2)
theorem copyRows_len (b : Nat) (rs : List Row) : (copyRows b rs).length = rs.length := by simp [copyRows]
theorem copyRows_at {b : Nat} {rs : List Row} {i : Nat} (h : i < rs.length) : rowAt (copyRows b rs) i = (some ⟨b + 1 + i, 0, none⟩, (rowAt rs i).2.2.length, (rowAt rs i).2.2) := by
  show (copyRows b rs).getD i (none, 0, []) = _
  simp [copyRows, List.getD, h]
/-- A copy: the outer block b, then a block a row. -/
structure CopySS (w : World) (b : Nat) (rs : List Row) : Prop where
  top : w.rowIs b 23 rs.length (fun i => rowV (rowAt (copyRows b rs) i))
  rows : ∀ i, i < rs.length → Own w (b + 1 + i) (b + 2 + i) (some ⟨b + 1 + i, 0, none⟩) (rowAt rs i).2.2.length (rowAt rs i).2.2
theorem CopySS.rd {w : World} {b : Nat} {rs : List Row} (h : CopySS w b rs) : RdSS w (some ⟨b, 0, none⟩) (copyRows b rs) := by
  refine ⟨fun h0 => ⟨b, 0, rfl, h.top.lt, fun k u hu => ?_⟩, fun i hi => ?_⟩
  · have hk : k < rs.length := by
      rcases Nat.lt_or_ge k rs.length with h1 | h1
      · exact h1
      · rw [List.getElem?_eq_none (by simpa [copyRows] using h1)] at hu; cases hu
    rw [rowV_at (by rw [copyRows_len]; exact hk)] at hu
    rw [Nat.zero_add, h.top.cell hk]; exact hu
  · rw [copyRows_len] at hi
    rw [copyRows_at hi]
    exact (h.rows i hi).rd
theorem CopySS.keep {w w' : World} {b : Nat} {rs : List Row} (h : CopySS w b rs) (hk : ∀ j, b ≤ j → j < b + 1 + rs.length → w'.heap[j]? = w.heap[j]?) : CopySS w' b rs :=
  ⟨h.top.of_block (hk b (Nat.le_refl _) (by omega)), fun i hi => (h.rows i hi).keep fun j h1 h2 => hk j (by omega) (by omega)⟩
theorem CopySS.below {w w' : World} {b B : Nat} {rs : List Row} (h : CopySS w b rs) (hb : Below B w w') (hB : b + 1 + rs.length ≤ B) : CopySS w' b rs :=
  h.keep fun j _ hj => hb.block j (by omega)

set_option maxRecDepth 100000 in
set_option maxHeartbeats 400000 in
theorem toFF_any (A : Option Addr) (c : Nat) (rs : List Row) (w : World) (hr : RdSS w A rs) (hn : rs.length ≤ 1048576) (hl : ∀ i, i < rs.length → (rowAt rs i).2.2.length ≤ 1048576) :
    Calls Try.prog 40 #[.slice A rs.length c] w fun e w' => e = .returned (.slice (some ⟨w.heap.size, 0, none⟩) rs.length rs.length) ∧ CopySS w' w.heap.size rs ∧ Below w.heap.size w w' ∧ w'.heap.size = w.heap.size + 1 + rs.length := by
  have hmk := fun W => run_make_row' (P := Try.prog) 56 23 (.slice none 0 0) 24 Try.underlying56 row_info rfl .i64 .i64 rs.length (by omega) (by omega) W
  have Hl := Lib.hid hl
  clear hl
  go_enter Try.func40, Try.ntmps40
  go_wp2_with fail
  have T0 : (w.alloc (.cells (madeCells #[.slice none 0 0] rs.length) 23)).rowIs w.heap.size 23 rs.length (fun i => if i < 0 then rowV (rowAt (copyRows w.heap.size rs) i) else .slice none 0 0) :=
    (World.rowIs_made w (.slice none 0 0) rs.length 23).congr fun i _ => by rw [if_neg (by omega)]
  have B0 : Hid (Below w.heap.size w (w.alloc (.cells (madeCells #[.slice none 0 0] rs.length) 23))) := (Below.refl w.heap.size w).alloc (Nat.le_refl _) _
  have Z0 : Hid ((w.alloc (.cells (madeCells #[.slice none 0 0] rs.length) 23)).heap.size = w.heap.size + 1 + 0) := by show (w.alloc _).heap.size = _; simp
  generalize w.alloc (.cells (madeCells #[.slice none 0 0] rs.length) 23) = W0 at *
  go_loopw [4] (fun i wr => ∃ k : Nat, i = .int .i64 (k : Int) ∧ k ≤ rs.length ∧ wr.rowIs w.heap.size 23 rs.length (fun i => if i < k then rowV (rowAt (copyRows w.heap.size rs) i) else .slice none 0 0) ∧
    Hid (∀ i, i < k → Own wr (w.heap.size + 1 + i) (w.heap.size + 2 + i) (some ⟨w.heap.size + 1 + i, 0, none⟩) (rowAt rs i).2.2.length (rowAt rs i).2.2) ∧ Hid (Below w.heap.size w wr) ∧ Hid (wr.heap.size = w.heap.size + 1 + k)) (fun i _ => rs.length - (intOf i).toNat)
  case atStart => exact ⟨0, rfl, by omega, T0, fun i hi => absurd hi (Nat.not_lt_zero _), B0, Z0⟩
  case round =>
    clear T0 B0 Z0
    obtain ⟨k, rfl, hk, hT, hO, hB, hZ⟩ := hrel
    by_cases hlt : k < rs.length
    · have hr' := Lib.hid (hr.below hB.out)
      obtain ⟨b, off, rfl, hb, hc⟩ := hr'.out.1 (by simp; omega)
      have e1 := hc k _ (rowV_at hlt)
      have hrow := Lib.hid (hr'.out.2 k hlt)
      have hlen := Hl.out k hlt
      have hcp := Lib.hid (copyRows_at (b := w.heap.size) hlt)
      clear hc hr'
      unfold rowV at e1
      go_wp2_with fail
      refine (toF32_any _ _ _ _ hrow.out hlen).mono ?_
      rintro e W' ⟨rfl, hm⟩
      have T1 : W'.rowIs w.heap.size 23 rs.length (fun i => if i < k then rowV (rowAt (copyRows w.heap.size rs) i) else .slice none 0 0) :=
        hT.of_block (hm.below.block _ (by have := hZ.out; omega))
      have O1 : Hid (∀ i, i < k → Own W' (w.heap.size + 1 + i) (w.heap.size + 2 + i) (some ⟨w.heap.size + 1 + i, 0, none⟩) (rowAt rs i).2.2.length (rowAt rs i).2.2) :=
        fun i hi => (hO.out i hi).below hm.below (by have := hZ.out; omega)
      have O2 : Hid (Own W' (w.heap.size + 1 + k) (w.heap.size + 2 + k) (some ⟨w.heap.size + 1 + k, 0, none⟩) (rowAt rs k).2.2.length (rowAt rs k).2.2) := by
        have := hm.own hlen
        rw [hm.size, hZ.out] at this
        rw [show w.heap.size + 2 + k = w.heap.size + 1 + k + 1 by omega]; exact this
      have B1 : Hid (Below w.heap.size w W') := hB.out.trans (hm.below.mono (by have := hZ.out; omega))
      have Z1 : Hid (W'.heap.size = w.heap.size + 1 + (k + 1)) := by show W'.heap.size = _; rw [hm.size, hZ.out]; omega
      have hz := hZ.out
      rw [hz]
      have c1 := T1.cell hlt
      have c2 := T1.frozen k
      have Tset := Lib.hid (T1.set k (.slice (some ⟨w.heap.size + 1 + k, 0, none⟩) (rowAt rs k).2.2.length (rowAt rs k).2.2.length))
      clear hT hO hB hZ hm T1 e1
      go_wp2_with fail
      go_roundw
      case rel =>
        refine ⟨k + 1, by go_num, by omega, Tset.out.congr fun i hi => ?_, fun i hi => ?_, B1.out.setCell (Nat.le_refl _) _, (setCell_size _ _ _).trans Z1.out⟩
        · show (if i = k then _ else _) = _
          by_cases e : i = k
          · subst e; rw [if_pos rfl, if_pos (by omega), hcp.out]; rfl
          · rw [if_neg e]
            by_cases e' : i < k
            · rw [if_pos e', if_pos (by omega)]
            · rw [if_neg e', if_neg (by omega)]
        · have hk2 : ∀ j, w.heap.size + 1 + i ≤ j → j < w.heap.size + 2 + i → (W'.setCell ⟨w.heap.size, k, none⟩ (.slice (some ⟨w.heap.size + 1 + k, 0, none⟩) (rowAt rs k).2.2.length (rowAt rs k).2.2.length)).heap[j]? = W'.heap[j]? :=
            fun j h1 h2 => Below.heap_setCell _ _ _ _ (by show j ≠ w.heap.size; omega)
          rcases Nat.lt_or_ge i k with h | h
          · exact (O1.out i h).keep hk2
          · obtain rfl : i = k := by omega
            exact O2.out.keep hk2
      case measure => simp [intOf]; omega
    · obtain rfl : k = rs.length := by omega
      go_wp2_with fail
      go_ret
      exact ⟨rfl, ⟨hT.congr fun i hi => if_pos hi, hO.out⟩, hB.out, hZ.out⟩

set_option maxHeartbeats 400000 in
theorem eqFF_any (A B : Option Addr) (c d : Nat) (rs qs : List Row) (w : World) (hr : RdSS w A rs) (hq : RdSS w B qs) (hn : rs.length ≤ 1048576) (hl : qs.length = rs.length)
    (hw : ∀ i, i < rs.length → (rowAt qs i).2.2 = (rowAt rs i).2.2 ∧ (rowAt rs i).2.2.length ≤ 1048576 ∧ ∀ j, j < (rowAt rs i).2.2.length → wfk .f32 ((rowAt rs i).2.2.getD j 0)) :
    Calls Try.prog 42 #[.slice A rs.length c, .slice B qs.length d] w fun e w' => e = .returned (.bool true) ∧ ∃ n, w.drewN n = w' := by
  have Hw := Lib.hid hw
  have Hln := Lib.hid hl
  rw [hl]
  clear hw hl
  go_enter Try.func42, Try.ntmps42
  go_wp2_with fail
  go_loopw [5] (fun i wr => ∃ k n : Nat, i = .int .i64 (k : Int) ∧ k ≤ rs.length ∧ wr = w.drewN n) (fun i _ => rs.length - (intOf i).toNat)
  case atStart => exact ⟨0, 0, rfl, by omega, rfl⟩
  case round =>
    obtain ⟨k, n, rfl, hk, rfl⟩ := hrel
    by_cases hlt : k < rs.length
    · obtain ⟨b, off, rfl, hb, hc⟩ := hr.1 (by simp; omega)
      obtain ⟨b', off', rfl, hb', hc'⟩ := hq.1 (by simp; have := Hln.out; omega)
      have e1 := hc k _ (rowV_at hlt)
      have e2 := hc' k _ (rowV_at (by rw [Hln.out]; exact hlt))
      obtain ⟨w1, w2, w3⟩ := Hw.out k hlt
      have E := Lib.hid (fun W h1 h2 => eqF32_any (rowAt rs k).1 (rowAt qs k).1 (rowAt rs k).2.1 (rowAt qs k).2.1 _ (rowAt rs k).2.2 (rowAt qs k).2.2 W h1 h2 w2 rfl (by rw [w1]) (fun i hi => ⟨w3 i hi, by rw [w1]; exact w3 i hi, by rw [w1]; unfold sameB; simp⟩))
      have R1 := Lib.hid (hr.2 k hlt)
      have R2 := Lib.hid (hq.2 k (by rw [Hln.out]; exact hlt))
      unfold rowV at e1 e2
      rw [w1] at e2
      clear hc hc' w1 w2 w3
      have E2 := Lib.hid (fun W h1 h2 => (E.out W h1 h2).mono fun e w' h => (h : e = .returned (.bool true) ∧ ∃ j, W.drewN j = w'))
      go_wp2_with fail
      refine wp_region_rx (by kernel_rfl) (by kernel_rfl) ?_; apply Exists.intro
      repeat (first | (apply wpR_val; intro K hK; go_simp; refine ⟨rfl, hK _ ?_⟩; clear hK K) | (apply wpR_skip; intro K hK; go_simp; refine hK _ ?_; clear hK K))
      apply wpR_val (v := .bool true); intro K hK; go_simp; refine ⟨fun m => rcall (E2.out _ (R1.out.drewN _) (R2.out.drewN _)), hK _ ?_⟩; clear hK K
      repeat (first | (apply wpR_val; intro K hK; go_simp; refine ⟨rfl, hK _ ?_⟩; clear hK K) | (apply wpR_skip; intro K hK; go_simp; refine hK _ ?_; clear hK K))
      apply wpR_nil (Rs := []); rintro _ ⟨nq, rfl⟩
      go_wp2_with fail
      go_roundw
      case rel => exact ⟨k + 1, _, by go_num, by omega, rfl⟩
      case measure => simp [intOf]; omega
    · obtain rfl : k = rs.length := by omega
      go_wp2_with fail
      go_ret
      exact ⟨rfl, _, rfl⟩

set_option maxHeartbeats 400000 in
theorem markFF_any (b : Nat) (rs : List Row) (w : World) (h : CopySS w b rs) (hn : rs.length + totL rs rs.length ≤ 1048576) :
    Calls Try.prog 43 #[.slice (some ⟨b, 0, none⟩) rs.length rs.length, .int .i64 1] w fun e w' => e = .returned (.int .i64 (1 + (totL rs rs.length : Int))) ∧
      w'.os = w.os ∧ w'.tape = w.tape ∧ w'.output = w.output ∧ w'.heap.size = w.heap.size ∧ ∀ j, (j < b ∨ b + 1 + rs.length ≤ j) → w'.heap[j]? = w.heap[j]? := by
  have HT := Lib.hid h.top
  have HR := Lib.hid h.rows
  clear h
  go_enter Try.func43, Try.ntmps43
  go_outline
  go_wp2_with fail
  go_loopw [1, 5] (fun l i wr => ∃ k : Nat, i = .int .i64 (k : Int) ∧ l = .int .i64 (1 + (totL rs k : Int)) ∧ k ≤ rs.length ∧ Hid (wr.rowIs b 23 rs.length (fun i => rowV (rowAt (copyRows b rs) i))) ∧
    Hid (∀ i, k ≤ i → i < rs.length → Own wr (b + 1 + i) (b + 2 + i) (some ⟨b + 1 + i, 0, none⟩) (rowAt rs i).2.2.length (rowAt rs i).2.2) ∧
    Hid (wr.os = w.os ∧ wr.tape = w.tape ∧ wr.output = w.output ∧ wr.heap.size = w.heap.size ∧ ∀ j, (j < b ∨ b + 1 + rs.length ≤ j) → wr.heap[j]? = w.heap[j]?)) (fun _ i _ => rs.length - (intOf i).toNat)
  case atStart => exact ⟨0, rfl, by simp [totL], by omega, HT, fun i _ hi => HR.out i hi, rfl, rfl, rfl, rfl, fun _ _ => rfl⟩
  case round =>
    obtain ⟨k, rfl, rfl, hk, hT, hO, hW⟩ := hrel
    by_cases hlt : k < rs.length
    · have e1 := hT.out.cell hlt
      rw [copyRows_at hlt] at e1
      unfold rowV at e1
      have ht := totL_row rs hlt
      have ht2 := totL_mono rs hk
      have htn : Hid (totL rs (k + 1) = totL rs k + (rowAt rs k).2.2.length) := rfl
      go_wp2_with fail
      refine (mark_gen (b + 1 + k) (b + 2 + k) _ _ _ (1 + totL rs k) _ (hO.out k (Nat.le_refl _) hlt) (by omega) (by omega)).mono ?_
      rintro e w' ⟨rfl, _, k1, k2, k3, k4, k5⟩
      have HK := Lib.hid (And.intro k1 (And.intro k2 (And.intro k3 (And.intro k4 k5))))
      clear k1 k2 k3 k4 k5 e1
      go_wp2_with fail
      go_roundw
      case rel =>
        obtain ⟨k1, k2, k3, k4, k5⟩ := HK.out
        obtain ⟨m1, m2, m3, m4, m5⟩ := hW.out
        refine ⟨k + 1, by go_num, by rw [htn.out]; go_num, by omega, hT.out.of_block (k5 b (.inl (by omega))), fun i h1 h2 => (hO.out i (by omega) h2).keep fun j j1 j2 => k5 j (.inr (by omega)), k1.trans m1, k2.trans m2, k3.trans m3, k4.trans m4, fun j hj => (k5 j (by omega)).trans (m5 j hj)⟩
      case measure => simp [intOf]; omega
    · obtain rfl : k = rs.length := by omega
      go_wp2_with fail
      go_ret
      exact ⟨rfl, hW.out⟩
end Go.Proofs.Ytignncjmbcdpaaa
