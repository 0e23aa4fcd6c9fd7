/-
The drawing of bytes: spec.l01New, spec.l01Byte, spec.l01Below.
-/
import Derived.Test.YtignncjmbcdpaaaWords
import Derived.Test.YtignncjmbcdpaaaQuietR
import Derived.Laws.BitsAllLaws
import Derived.Laws.BitsLemmas
namespace Go.Proofs.Ytignncjmbcdpaaa
open Go Go.RowKit

/-- The slice at 'A', in a block below 'L', holds the cells 'xs'. -/
def RdL (w : World) (L : Nat) (A : Option Addr) (xs : List Value) : Prop :=
  0 < xs.length → ∃ b off, A = some ⟨b, off, none⟩ ∧ b < L ∧ ∀ k u, xs[k]? = some u → w.cell? ⟨b, off + k, none⟩ = some u
theorem RdL.rd {w : World} {L : Nat} {A : Option Addr} {xs : List Value} (h : RdL w L A xs) (hL : L ≤ w.heap.size) : Rd w A xs := fun hl => by
  obtain ⟨b, off, e, hb, hc⟩ := h hl
  exact ⟨b, off, e, by omega, hc⟩
theorem Rd.rdL {w : World} {A : Option Addr} {xs : List Value} (h : Rd w A xs) : RdL w w.heap.size A xs := h
theorem RdL.keep {w w' : World} {L : Nat} {A : Option Addr} {xs : List Value} (h : RdL w L A xs) (hk : ∀ i, i < L → w'.heap[i]? = w.heap[i]?) : RdL w' L A xs := fun hl => by
  obtain ⟨b, off, e, hb, hc⟩ := h hl
  exact ⟨b, off, e, hb, fun k u hu => (World.cell?_of_block (w := w) (hk b hb)).trans (hc k u hu)⟩

/-- The cells of the cursor. -/
def curCells (A : Option Addr) (n c : Nat) (i h : Int) : Obj := .cells #[.slice A n c, .int .i64 i, .int .i64 h] 139 (0, 0)
/-- A cursor over bytes lies in block 'g'. -/
def Cur (w : World) (g : Nat) : Prop :=
  ∃ (A : Option Addr) (n c : Nat) (bs : List Int) (i h : Int), w.heap[g]? = some (curCells A n c i h) ∧ bs.length = n ∧ n ≤ 1048576 ∧ RdL w g A (bs.map (.int .u8)) ∧ 0 ≤ i ∧ i ≤ n

theorem Cur.lt {w : World} {g : Nat} (h : Cur w g) : g < w.heap.size := by
  obtain ⟨A, n, c, bs, i, h, hb, _⟩ := h
  rcases Nat.lt_or_ge g w.heap.size with h1 | h1
  · exact h1
  · rw [Array.getElem?_eq_none h1] at hb; cases hb

/-- A step of the cursor: it alone has turned, and what is new. -/
def CurStep (w w' : World) (g : Nat) : Prop := Cur w' g ∧ w.grownBy w' (some g)

theorem and_255 (x : Int) : 0 ≤ bits .and .i64 x 255 ∧ bits .and .i64 x 255 ≤ 255 := by
  have e : (BitVec.ofInt 64 x &&& BitVec.ofInt 64 255).toNat = (BitVec.ofInt 64 x).toNat % 256 := by
    rw [BitVec.toNat_and]
    have : (BitVec.ofInt 64 255).toNat = 2 ^ 8 - 1 := by decide
    rw [this, Nat.and_two_pow_sub_one_eq_mod]
  have e' : bits .and .i64 x 255 = IntKind.i64.wrap ((BitVec.ofInt 64 x &&& BitVec.ofInt 64 255).toNat : Int) := rfl
  rw [e', e, IntKind.wrap_i64]
  omega

theorem Cur.set2 {w : World} {g : Nat} {A : Option Addr} {n c : Nat} {i h : Int} (hb : w.heap[g]? = some (curCells A n c i h)) (h' : Int) : (w.setCell ⟨g, 2, none⟩ (.int .i64 h')).heap[g]? = some (curCells A n c i h') := by
  simp [World.setCell, Array.getElem?_modify, hb, curCells]
theorem Cur.set1 {w : World} {g : Nat} {A : Option Addr} {n c : Nat} {i h : Int} (hb : w.heap[g]? = some (curCells A n c i h)) (i' : Int) : (w.setCell ⟨g, 1, none⟩ (.int .i64 i')).heap[g]? = some (curCells A n c i' h) := by
  simp [World.setCell, Array.getElem?_modify, hb, curCells]
theorem cur_cells {w : World} {g : Nat} {A : Option Addr} {n c : Nat} {i h : Int} (hb : w.heap[g]? = some (curCells A n c i h)) :
    w.cell? ⟨g, 0, none⟩ = some (.slice A n c) ∧ w.cell? ⟨g, 1, none⟩ = some (.int .i64 i) ∧ w.cell? ⟨g, 2, none⟩ = some (.int .i64 h) ∧ w.frozen? ⟨g, 1, none⟩ = false ∧ w.frozen? ⟨g, 2, none⟩ = false :=
  ⟨cell_of_row w g 0 _ _ (0, 0) hb, cell_of_row w g 1 _ _ (0, 0) hb, cell_of_row w g 2 _ _ (0, 0) hb, by unfold World.frozen?; simp only [hb, curCells]; simp, by unfold World.frozen?; simp only [hb, curCells]; simp⟩
theorem grown_set {w : World} {g : Nat} (o : Nat) (v : Value) : w.grownBy (w.setCell ⟨g, o, none⟩ v) (some g) :=
  ⟨rfl, rfl, rfl, by simp [World.setCell], fun i hi hne => Below.heap_setCell _ _ _ _ (fun e => hne (by rw [e]))⟩
theorem grown_drewN {w w' : World} {row : Option Nat} (h : w.grownBy w' row) (n : Nat) : w.grownBy (w'.drewN n) row := ⟨h.os, h.tape, h.output, h.size, h.block⟩
theorem grown_trans {a b c : World} {row : Option Nat} (h : a.grownBy b row) (k : b.grownBy c row) : a.grownBy c row :=
  ⟨k.os.trans h.os, k.tape.trans h.tape, k.output.trans h.output, Nat.le_trans h.size k.size, fun i hi hne => (k.block i (Nat.lt_of_lt_of_le hi h.size) hne).trans (h.block i hi hne)⟩

set_option maxHeartbeats 1000000 in
theorem byte_any (g : Nat) (w : World) (h : Cur w g) :
    Calls Try.prog 121 #[.pointer (some ⟨g, 0, none⟩)] w fun e w' => ∃ x : Int, e = .returned (.int .i64 x) ∧ (0 ≤ x ∧ x ≤ 255) ∧ CurStep w w' g := by
  have hlt := h.lt
  obtain ⟨A, n, c, bs, i, h, hb, hl, hm, hr, hi, hi'⟩ := h
  obtain ⟨c0, c1, c2, f1, f2⟩ := cur_cells hb
  have Hb := Lib.hid hb
  have Hl := Lib.hid hl
  clear hb hl
  go_enter Try.func121, Try.ntmps121
  go_wp2
  generalize wrap64 (wrap64 (h * 6364136223846793005) + 1442695040888963407) = h'
  have Hb1 := Lib.hid (Cur.set2 Hb.out h')
  obtain ⟨c0', c1', c2', f1', f2'⟩ := cur_cells Hb1.out
  have Hg := Lib.hid (grown_set (w := w) (g := g) 2 (.int .i64 h'))
  have hr' := Lib.hid (hr.keep (w' := w.setCell ⟨g, 2, none⟩ (.int .i64 h')) fun i hi => Below.heap_setCell _ _ _ _ (by show i ≠ g; omega))
  clear c0 c1 c2 f1 f2 Hb hr
  generalize w.setCell ⟨g, 2, none⟩ (.int .i64 h') = W at *
  obtain ⟨j, rfl⟩ := Int.eq_ofNat_of_zero_le hi
  by_cases hj : j < n
  · obtain ⟨b, off, rfl, hb', hc⟩ := hr'.out (by rw [List.length_map, Hl.out]; omega)
    have e1 := hc j _ (List.getElem?_eq_getElem (by rw [List.length_map, Hl.out]; exact hj))
    simp only [List.getElem_map] at e1
    clear hc
    have g1 : (j : Int) < (n : Int) := by omega
    refine wp_region_rx (by kernel_rfl) (by kernel_rfl) ?_; apply Exists.intro
    repeat (first | (apply wpR_val; intro K hK; go_simp; refine ⟨rfl, hK _ ?_⟩; clear hK K) | (apply wpR_skip; intro K hK; go_simp; refine hK _ ?_; clear hK K))
    apply wpR_nil (Rs := []); rintro _ ⟨nq, rfl⟩
    go_wp2
    refine wp_region_rx (by kernel_rfl) (by kernel_rfl) ?_; apply Exists.intro
    repeat (first | (apply wpR_val; intro K hK; go_simp; refine ⟨rfl, hK _ ?_⟩; clear hK K) | (apply wpR_skip; intro K hK; go_simp; refine hK _ ?_; clear hK K))
    apply wpR_nil (Rs := []); rintro _ ⟨nq, rfl⟩
    go_wp2
    refine wp_region_rx (by kernel_rfl) (by kernel_rfl) ?_; apply Exists.intro
    repeat (first | (apply wpR_val; intro K hK; go_simp; refine ⟨rfl, hK _ ?_⟩; clear hK K) | (apply wpR_skip; intro K hK; go_simp; refine hK _ ?_; clear hK K))
    apply wpR_nil (Rs := []); rintro _ ⟨nq, rfl⟩
    go_wp2
    go_ret
    refine ⟨_, rfl, and_255 _, ⟨_, n, c, bs, (j : Int) + 1, h', Cur.set1 Hb1.out _, Hl.out, hm, ?_, by omega, by omega⟩, ?_⟩
    · exact hr'.out.keep (fun i hi => Below.heap_setCell _ _ _ _ (by show i ≠ g; omega))
    · exact grown_trans Hg.out (grown_drewN (grown_set _ _) _)
  · have g1 : ¬ (j : Int) < (n : Int) := by omega
    refine wp_region_rx (by kernel_rfl) (by kernel_rfl) ?_; apply Exists.intro
    repeat (first | (apply wpR_val; intro K hK; go_simp; refine ⟨rfl, hK _ ?_⟩; clear hK K) | (apply wpR_skip; intro K hK; go_simp; refine hK _ ?_; clear hK K))
    apply wpR_nil (Rs := []); rintro _ ⟨nq, rfl⟩
    go_wp2
    refine wp_region_rx (by kernel_rfl) (by kernel_rfl) ?_; apply Exists.intro
    repeat (first | (apply wpR_val; intro K hK; go_simp; refine ⟨rfl, hK _ ?_⟩; clear hK K) | (apply wpR_skip; intro K hK; go_simp; refine hK _ ?_; clear hK K))
    apply wpR_nil (Rs := []); rintro _ ⟨nq, rfl⟩
    go_wp2
    go_ret
    exact ⟨_, rfl, and_255 _, ⟨_, n, c, bs, j, h', Hb1.out, Hl.out, hm, hr'.out, by omega, by omega⟩, grown_drewN (grown_drewN Hg.out _) _⟩

theorem CurStep.trans {w w1 w2 : World} {g : Nat} (h : CurStep w w1 g) (k : CurStep w1 w2 g) : CurStep w w2 g := ⟨k.1, grown_trans h.2 k.2⟩

set_option maxHeartbeats 1000000 in
theorem below_any (g : Nat) (n : Int) (w : World) (h : Cur w g) (h0 : 0 < n) (h1 : n ≤ 4294967296) :
    Calls Try.prog 72 #[.pointer (some ⟨g, 0, none⟩), .int .i64 n] w fun e w' => ∃ x : Int, e = .returned (.int .i64 x) ∧ (0 ≤ x ∧ x < n) ∧ CurStep w w' g := by
  have hn0 : ¬ n ≤ 0 := by omega
  have hz : n ≠ 0 := by omega
  have hz' : (n == 0) = false := by simp; omega
  by_cases hn : n ≤ 256
  · go_enter Try.func72, Try.ntmps72
    go_wp2_with fail
    refine (byte_any g _ h).mono ?_
    rintro e w1 ⟨x, rfl, hx, hs⟩
    obtain ⟨hx1, hx2⟩ := hx
    go_wp2_with fail
    go_ret
    exact ⟨_, rfl, ⟨Int.emod_nonneg _ hz, Int.emod_lt_of_pos _ h0⟩, hs⟩
  · go_enter Try.func72, Try.ntmps72
    go_wp2_with fail
    refine (byte_any g _ h).mono ?_
    rintro e w1 ⟨x1, rfl, ⟨a1, b1⟩, s1⟩
    go_wp2_with fail
    refine (byte_any g _ s1.1).mono ?_
    rintro e w2 ⟨x2, rfl, ⟨a2, b2⟩, s2⟩
    go_wp2_with fail
    refine (byte_any g _ s2.1).mono ?_
    rintro e w3 ⟨x3, rfl, ⟨a3, b3⟩, s3⟩
    go_wp2_with fail
    refine (byte_any g _ s3.1).mono ?_
    rintro e w4 ⟨x4, rfl, ⟨a4, b4⟩, s4⟩
    go_wp2_with fail
    go_ret
    exact ⟨_, rfl, ⟨Int.emod_nonneg _ hz, Int.emod_lt_of_pos _ h0⟩, ((s1.trans s2).trans s3).trans s4⟩

theorem Cur.new (w : World) {A : Option Addr} {c : Nat} {bs : List Int} (hm : bs.length ≤ 1048576) (hr : Rd w A (bs.map (.int .u8))) (h : Int) :
    Cur (w.alloc (.cells #[.slice A bs.length c, .int .i64 0, .int .i64 h] 139)) w.heap.size :=
  ⟨A, bs.length, c, bs, 0, h, heap_alloc_new w _, rfl, hm, hr.rdL.keep (fun _ hi => Below.heap_alloc _ _ _ hi), by omega, by omega⟩

set_option maxRecDepth 100000 in
set_option maxHeartbeats 1000000 in
theorem new_any (A : Option Addr) (c : Nat) (bs : List Int) (w : World) (hr : Rd w A (bs.map (.int .u8))) (hm : bs.length ≤ 1048576) :
    Calls Try.prog 71 #[.slice A bs.length c] w fun e w' => ∃ g, e = .returned (.pointer (some ⟨g, 0, none⟩)) ∧ w.heap.size ≤ g ∧ Cur w' g ∧ Below w.heap.size w w' := by
  go_enter Try.func71, Try.ntmps71
  go_wp2
  go_loop [3, 4] (fun h i => ∃ (k : Nat) (v : Int), k ≤ bs.length ∧ i = .int .i64 k ∧ h = .int .i64 v) (fun _ i => bs.length - (intOf i).toNat)
  case atStart => exact ⟨0, _, by omega, rfl, rfl⟩
  case round =>
    obtain ⟨k, v, hk, rfl, rfl⟩ := hrel
    by_cases hlt : k < bs.length
    · obtain ⟨b, off, rfl, hb', hc⟩ := hr (by simp; omega)
      have e1 := hc k _ (List.getElem?_eq_getElem (by simpa using hlt))
      simp only [List.getElem_map] at e1
      clear hc
      by_cases h4 : k < 4000
      · go_wp2
        go_round
        case rel => exact ⟨k + 1, _, by omega, by go_num, rfl⟩
        case measure => simp [intOf]; omega
      · go_wp2
        go_ret
        exact ⟨_, rfl, Nat.le_refl _, Cur.new w hm hr v, (Below.refl _ _).alloc (Nat.le_refl _) _⟩
    · go_wp2
      go_ret
      exact ⟨_, rfl, Nat.le_refl _, Cur.new w hm hr v, (Below.refl _ _).alloc (Nat.le_refl _) _⟩
end Go.Proofs.Ytignncjmbcdpaaa
