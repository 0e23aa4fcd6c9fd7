/-
Slices of single precision: laws.toFloat32S, laws.eqFloat32S.
-/
import Derived.Test.YtignncjmbcdpaaaSame
import Derived.Test.YtignncjmbcdpaaaQuietR
import Derived.Deep.OwnRows
namespace Go.Proofs.Ytignncjmbcdpaaa
open Go Go.RowKit Ieee

theorem run_store_float (P : Program) (w : World) (a : Addr) (m : Mode) (k : FloatKind) (b : Nat) : (store a (.float k b) m).run P w = stored P w a (.float k b) m := run_store P w a _ m rfl
attribute [go_sem] run_store_float

theorem f32_info : (Try.prog.info? 25).map (fun i => (i.zero, i.size, i.bytes)) = some (some (.float .f32 0), 1, 4) := by kernel_rfl

/-- A block of the call's own, filled up to 'k'. -/
def Filled (w wr : World) (T n k : Nat) (vs : List Value) : Prop :=
  ∃ cs : Array Value, wr = w.alloc (.cells cs T) ∧ cs.size = n ∧ ∀ j, j < k → cs[j]? = vs[j]?

theorem Filled.start (w : World) (T n : Nat) (z : Value) (vs : List Value) : Filled w (w.alloc (.cells (madeCells #[z] n) T)) T n 0 vs :=
  ⟨_, rfl, size_madeCells _ _, fun _ h => absurd h (Nat.not_lt_zero _)⟩
theorem Filled.set_ {w wr : World} {T n k : Nat} {vs : List Value} {v : Value} (h : Filled w wr T n k vs) (hk : k < n) (hv : vs[k]? = some v) : Filled w (wr.setCell ⟨w.heap.size, k, none⟩ v) T n (k + 1) vs := by
  obtain ⟨cs, rfl, hs, hc⟩ := h
  refine ⟨cs.setIfInBounds k v, ?_, by simpa using hs, fun j hj => ?_⟩
  · exact World.setCell_alloc_at _ _ _ _ _ rfl
  · rw [Array.getElem?_setIfInBounds]
    split
    · rename_i e; subst e; rw [if_pos (by omega), hv]
    · exact hc j (by omega)
theorem Filled.cell {w wr : World} {T n k : Nat} {vs : List Value} (h : Filled w wr T n k vs) {j : Nat} (hj : j < n) : (∃ u, wr.cell? ⟨w.heap.size, j, none⟩ = some u) ∧ wr.frozen? ⟨w.heap.size, j, none⟩ = false := by
  obtain ⟨cs, rfl, hs, hc⟩ := h
  have hb : (w.alloc (.cells cs T)).heap[w.heap.size]? = some (.cells cs T (0, 0)) := heap_alloc_new w _
  constructor
  · exact ⟨cs[j], (cell_of_row _ _ j cs T (0, 0) hb).trans (Array.getElem?_eq_getElem (by omega))⟩
  · unfold World.frozen?
    simp only [hb]
    simp
/-- The world with one new block, of these cells. -/
def MadeRow (w w' : World) (T : Nat) (vs : List Value) : Prop := ∃ cs : Array Value, w' = w.alloc (.cells cs T) ∧ cs.toList = vs
theorem MadeRow.rd {w w' : World} {T : Nat} {vs : List Value} (h : MadeRow w w' T vs) : Rd w' (some ⟨w.heap.size, 0, none⟩) vs := fun _ => by
  obtain ⟨cs, rfl, rfl⟩ := h
  have hb : (w.alloc (.cells cs T)).heap[w.heap.size]? = some (.cells cs T (0, 0)) := heap_alloc_new w _
  refine ⟨w.heap.size, 0, rfl, by simp, fun k u hu => ?_⟩
  rw [Nat.zero_add, cell_of_row _ _ k cs T (0, 0) hb]
  simpa using hu
theorem MadeRow.below {w w' : World} {T : Nat} {vs : List Value} (h : MadeRow w w' T vs) : Below w.heap.size w w' := by
  obtain ⟨cs, rfl, _⟩ := h
  exact (Below.refl _ _).alloc (Nat.le_refl _) _
theorem MadeRow.size {w w' : World} {T : Nat} {vs : List Value} (h : MadeRow w w' T vs) : w'.heap.size = w.heap.size + 1 := by
  obtain ⟨cs, rfl, _⟩ := h
  simp
theorem Filled.done {w wr : World} {T n : Nat} {vs : List Value} (h : Filled w wr T n n vs) (hl : vs.length = n) : MadeRow w wr T vs := by
  obtain ⟨cs, rfl, hs, hc⟩ := h
  refine ⟨cs, rfl, ?_⟩
  apply List.ext_getElem?
  intro j
  by_cases hj : j < n
  · rw [← hc j hj]; simp
  · rw [List.getElem?_eq_none (by simp; omega), List.getElem?_eq_none (by omega)]
theorem Filled.below {w wr : World} {T n k : Nat} {vs : List Value} (h : Filled w wr T n k vs) : Below w.heap.size w wr := by
  obtain ⟨cs, rfl, _, _⟩ := h
  exact (Below.refl _ _).alloc (Nat.le_refl _) _

set_option maxHeartbeats 400000 in
theorem toF32_any (A : Option Addr) (c : Nat) (bs : List Nat) (w : World) (hr : Rd w A (f32s bs)) (hm : bs.length ≤ 1048576) :
    Calls Try.prog 31 #[.slice A bs.length c] w fun e w' => e = .returned (.slice (some ⟨w.heap.size, 0, none⟩) bs.length bs.length) ∧
      MadeRow w w' 25 (f32s bs) := by
  have hmk := fun W => run_make_row' (P := Try.prog) 23 25 (.float .f32 0) 4 Try.underlying23 f32_info rfl .i64 .i64 bs.length (by omega) (by omega) W
  go_enter Try.func31, Try.ntmps31
  go_wp2
  go_loopw [4] (fun i wr => ∃ k : Nat, k ≤ bs.length ∧ i = .int .i64 k ∧ Filled w wr 25 bs.length k (f32s bs)) (fun i _ => bs.length - (intOf i).toNat)
  case atStart => exact ⟨0, by omega, rfl, Filled.start _ _ _ _ _⟩
  case round =>
    obtain ⟨k, hk, rfl, hf⟩ := hrel
    by_cases hlt : k < bs.length
    · obtain ⟨b, off, rfl, hb, hc⟩ := hr (by simp; omega)
      have e1 := (hf.below.cell (p := ⟨b, off + k, none⟩) hb).trans (hc k _ (List.getElem?_eq_getElem (by simpa using hlt)))
      obtain ⟨⟨u, hu⟩, hz⟩ := hf.cell hlt
      have H := Lib.hid (hf.set_ hlt (List.getElem?_eq_getElem (l := f32s bs) (by simpa using hlt)))
      simp only [List.getElem_map] at e1 H
      clear hc hf
      go_wp2
      go_roundw
      case rel => exact ⟨k + 1, by omega, by go_num, H.out⟩
      case measure => simp [intOf]; omega
    · go_wp2
      go_ret
      exact ⟨rfl, Filled.done (by rwa [show k = bs.length by omega] at hf) (by simp)⟩

theorem f32s_at {l : List Nat} {k : Nat} (h : k < l.length) : (f32s l)[k]? = some (.float .f32 (l.getD k 0)) := by
  simp [f32s, List.getD, List.getElem?_eq_getElem h]

set_option maxHeartbeats 1000000 in
theorem eqF32_any (A B : Option Addr) (c d m : Nat) (xs ys : List Nat) (w : World) (hr : Rd w A (f32s xs)) (hs : Rd w B (f32s ys)) (hm : m ≤ 1048576) (hx : xs.length = m) (hy : ys.length = m)
    (wa : ∀ i, i < m → wfk .f32 (xs.getD i 0) ∧ wfk .f32 (ys.getD i 0) ∧ sameB .f32 (xs.getD i 0) (ys.getD i 0) = true) :
    Calls Try.prog 32 #[.slice A m c, .slice B m d] w fun e w' => e = .returned (.bool true) ∧ ∃ n, w.drewN n = w' := by
  have Hx := Lib.hid hx
  have Hy := Lib.hid hy
  clear hx hy
  go_enter Try.func32, Try.ntmps32
  go_wp2
  go_loopw [5] (fun i wr => ∃ k n : Nat, k ≤ m ∧ i = .int .i64 k ∧ wr = w.drewN n) (fun i _ => m - (intOf i).toNat)
  case atStart => exact ⟨0, 0, by omega, rfl, rfl⟩
  case round =>
    obtain ⟨k, n, hk, rfl, rfl⟩ := hrel
    by_cases hlt : k < m
    · obtain ⟨wfa, wfb, hsame⟩ := wa k hlt
      obtain ⟨b, off, rfl, hb, hc⟩ := hr (by rw [List.length_map, Hx.out]; omega)
      obtain ⟨b', off', rfl, hb', hc'⟩ := hs (by rw [List.length_map, Hy.out]; omega)
      have e1 := hc k _ (f32s_at (by rw [Hx.out]; exact hlt))
      have e2 := hc' k _ (f32s_at (by rw [Hy.out]; exact hlt))
      clear hc hc'
      generalize xs.getD k 0 = x at *
      generalize ys.getD k 0 = y at *
      have v1 := fun w => isF_wid wfa w
      have v2 := fun w => isF_wid wfb w
      go_wp2
      refine wp_region_rx (by kernel_rfl) (by kernel_rfl) ?_; apply Exists.intro
      repeat (first | (apply wpR_val; intro K hK; go_simp; refine ⟨rfl, hK _ ?_⟩; clear hK K) | (apply wpR_skip; intro K hK; go_simp; refine hK _ ?_; clear hK K))
      apply wpR_any (R := isF .f64 (wid x)); intro K hK; go_simp; rintro _ ⟨r1, rfl, hr1, hw1⟩; refine hK _ ?_; clear hK K
      have Hr1 := Lib.hid hr1
      clear hr1
      repeat (first | (apply wpR_val; intro K hK; go_simp; refine ⟨rfl, hK _ ?_⟩; clear hK K) | (apply wpR_skip; intro K hK; go_simp; refine hK _ ?_; clear hK K))
      apply wpR_any (R := isF .f64 (wid y)); intro K hK; go_simp; rintro _ ⟨r2, rfl, hr2, hw2⟩; refine hK _ ?_; clear hK K
      have Hr2 := Lib.hid hr2
      clear hr2
      have Hs : Hid (sameB .f64 r1 r2 = true) := (same_of_wid wfa wfb Hr1.out Hr2.out).trans hsame
      apply wpR_val (v := .bool true); intro K hK; go_simp
      refine ⟨fun m => (sameFloat_any r1 r2 _ hw1 hw2).mono ?_, hK _ ?_⟩
      · rintro e w' ⟨rfl, rfl⟩; exact ⟨_, rfl, by rw [Hs.out], _, rfl⟩
      clear hK K
      repeat (first | (apply wpR_val; intro K hK; go_simp; refine ⟨rfl, hK _ ?_⟩; clear hK K) | (apply wpR_skip; intro K hK; go_simp; refine hK _ ?_; clear hK K))
      apply wpR_nil (Rs := []); rintro _ ⟨nq, rfl⟩
      go_wp2
      go_roundw
      case rel => exact ⟨k + 1, _, by omega, by go_num, rfl⟩
      case measure => simp [intOf]; omega
    · go_wp2
      go_ret
      exact ⟨rfl, _, rfl⟩
end Go.Proofs.Ytignncjmbcdpaaa
