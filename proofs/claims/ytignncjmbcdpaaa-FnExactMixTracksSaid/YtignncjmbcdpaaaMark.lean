/-
Rows of the call's own: marked, held, kept.
-/
import Derived.Test.YtignncjmbcdpaaaLimitS
namespace Go.Proofs.Ytignncjmbcdpaaa
open Go Go.RowKit Ieee

theorem some_lt {W : World} {i : Nat} {o : Obj} (h : W.heap[i]? = some o) : i < W.heap.size := by
  rcases Nat.lt_or_ge i W.heap.size with h1 | h1
  · exact h1
  · rw [Array.getElem?_eq_none h1] at h; cases h
/-- A slice of single precision whose block lies from 'lo' on and below 'hi'. -/
def Own (w : World) (lo hi : Nat) (A : Option Addr) (c : Nat) (xs : List Nat) : Prop :=
  w.ownsRow lo 25 1 (.slice A xs.length c) xs.length (f32s xs) ∧ ∀ k, (Value.slice A xs.length c).ownBlock = some k → k < hi
theorem Own.keep {w w' : World} {lo hi : Nat} {A : Option Addr} {c : Nat} {xs : List Nat} (h : Own w lo hi A c xs) (hk : ∀ j, lo ≤ j → j < hi → w'.heap[j]? = w.heap[j]?) : Own w' lo hi A c xs := by
  obtain ⟨⟨h1, h2⟩, h3⟩ := h
  refine ⟨⟨h1, ?_⟩, h3⟩
  rcases h2 with h2 | ⟨g, cap, cur, e1, e2, e3, e4⟩
  · exact .inl h2
  · refine .inr ⟨g, cap, cur, e1, e2, (hk g e2 (h3 g (by rw [e1]; rfl))).trans e3, e4⟩
theorem Own.below {w w' : World} {lo hi B : Nat} {A : Option Addr} {c : Nat} {xs : List Nat} (h : Own w lo hi A c xs) (hb : Below B w w') (hB : hi ≤ B) : Own w' lo hi A c xs :=
  h.keep fun j _ hj => hb.block j (by omega)
theorem Own.drewN {w : World} {lo hi : Nat} {A : Option Addr} {c : Nat} {xs : List Nat} (h : Own w lo hi A c xs) (n : Nat) : Own (w.drewN n) lo hi A c xs := h
theorem Own.of {w : World} {lo : Nat} {A : Option Addr} {c n : Nat} {xs : List Nat} (h : w.ownsRow lo 25 1 (.slice A n c) n (f32s xs)) (hn : xs.length = n) : Own w lo w.heap.size A c xs := by
  subst hn
  refine ⟨h, fun k hk => ?_⟩
  rcases h.2 with ⟨e, _⟩ | ⟨g, cap, cur, e1, e2, e3, e4⟩
  · rw [e] at hk; cases hk
  · rw [e1] at hk
    have : g = k := by injection hk
    subst this
    exact some_lt e3
theorem Own.rd {w : World} {lo hi : Nat} {A : Option Addr} {c : Nat} {xs : List Nat} (h : Own w lo hi A c xs) : Rd w A (f32s xs) := by
  obtain ⟨A', cap, e, _, hr⟩ := own_rd h.1
  injection e with e1 e2 e3
  subst e1
  exact hr
theorem MadeRow.own {w w' : World} {xs : List Nat} (h : MadeRow w w' 25 (f32s xs)) (hm : xs.length ≤ 1048576) : Own w' w.heap.size w'.heap.size (some ⟨w.heap.size, 0, none⟩) xs.length xs := by
  obtain ⟨cs, rfl, hc⟩ := h
  have hs : cs.size = xs.length := by rw [← Array.length_toList, hc]; simp
  refine Own.of (n := xs.length) ⟨by simp, .inr ⟨w.heap.size, xs.length, cs, rfl, Nat.le_refl _, heap_alloc_new w _, Nat.le_refl _, ?_, by rw [hs]; simp, ?_⟩⟩ rfl
  · simp only [maxLen]; omega
  · rw [hc, List.take_of_length_le (by simp)]
/-- The marks: k, k + 1, ... -/
def marks (k n : Nat) : List Nat := (List.range n).map fun (j : Nat) => floatOfInt .f32 ((k : Int) + (j : Int))
theorem marks_len (k n : Nat) : (marks k n).length = n := by simp [marks]
theorem marks_at {k n j : Nat} (h : j < n) : (marks k n).getD j 0 = floatOfInt .f32 ((k : Int) + (j : Int)) := by simp [marks, List.getD, h]
theorem mark_fin {k : Nat} (h : k ≤ 2000000) (j : Nat) (hj : j ≤ 2000000) : feq .f32 (floatOfInt .f32 ((k : Int) + (j : Int))) (floatOfInt .f32 ((k : Int) + (j : Int))) = true := by
  rw [feq_self, fin_num (int_exact .f32 _ (by have : FloatKind.f32.format.binade = 8388608 := by decide +kernel
                                              rw [this]; omega)).1]
  rfl

set_option maxHeartbeats 400000 in
theorem mark_gen (lo hi c : Nat) (A : Option Addr) (xs : List Nat) (k0 : Nat) (w : World) (h : Own w lo hi A c xs) (hm : xs.length ≤ 1048576) (hk0 : k0 ≤ 2000000) :
    Calls Try.prog 33 #[.slice A xs.length c, .int .i64 k0] w fun e w' => e = .returned (.int .i64 ((k0 : Int) + (xs.length : Int))) ∧ Own w' lo hi A c (marks k0 xs.length) ∧
      w'.os = w.os ∧ w'.tape = w.tape ∧ w'.output = w.output ∧ w'.heap.size = w.heap.size ∧ ∀ j, (j < lo ∨ hi ≤ j) → w'.heap[j]? = w.heap[j]? := by
  obtain ⟨⟨h1, h2⟩, h3⟩ := h
  rcases h2 with ⟨e, h0⟩ | ⟨g, cap, cur, e1, e2, e3, e4, e5, e6, e7⟩
  · injection e with q1 q2 q3
    subst q1 q3
    have hx : xs = [] := List.eq_nil_of_length_eq_zero h0
    subst hx
    go_enter Try.func33, Try.ntmps33
    go_wp2_with fail
    go_loopw [1, 5] (fun k i wr => k = .int .i64 k0 ∧ i = .int .i64 0 ∧ wr = w) (fun _ _ _ => 0)
    case atStart => exact ⟨rfl, rfl, rfl⟩
    case round =>
      obtain ⟨rfl, rfl, rfl⟩ := hrel
      go_wp2_with fail
      go_ret
      exact ⟨by simp, ⟨⟨rfl, .inl ⟨rfl, rfl⟩⟩, fun k hk => by cases hk⟩, rfl, rfl, rfl, rfl, fun _ _ => rfl⟩
  · injection e1 with q1 q2 q3
    subst q1 q3
    have hgl := some_lt e3
    have hgh : g < hi := h3 g rfl
    have hrow : w.rowIs g 25 c (fun i => if i < 0 then .float .f32 (floatOfInt .f32 ((k0 : Int) + (i : Int))) else cur.getD i undef) :=
      ⟨cur, e3, by simpa using e6, fun i hi' => by simp [Array.getElem?_eq_getElem (show i < cur.size by simp at e6; omega)]⟩
    clear e3 e6 e7 h1 h3
    go_enter Try.func33, Try.ntmps33
    go_wp2_with fail
    go_loopw [1, 5] (fun k i wr => ∃ j : Nat, k = .int .i64 ((k0 : Int) + (j : Int)) ∧ i = .int .i64 (j : Int) ∧ j ≤ xs.length ∧ wr.rowIs g 25 c (fun i => if i < j then .float .f32 (floatOfInt .f32 ((k0 : Int) + (i : Int))) else cur.getD i undef) ∧
      Hid (wr.os = w.os ∧ wr.tape = w.tape ∧ wr.output = w.output ∧ wr.heap.size = w.heap.size ∧ ∀ j, j ≠ g → wr.heap[j]? = w.heap[j]?)) (fun _ i _ => xs.length - (intOf i).toNat)
    case atStart => exact ⟨0, by simp, rfl, by omega, hrow, rfl, rfl, rfl, rfl, fun _ _ => rfl⟩
    case round =>
      clear hrow
      obtain ⟨j, rfl, rfl, hj, hrow, hw⟩ := hrel
      by_cases hlt : j < xs.length
      · have c1 := hrow.cell (i := j) (by omega)
        have c2 := hrow.frozen j
        have Hset := Lib.hid (hrow.set j (.float .f32 (floatOfInt .f32 ((k0 : Int) + (j : Int)))))
        clear hrow
        go_wp2_with fail
        go_roundw
        case rel =>
          refine ⟨j + 1, by go_num, by go_num, by omega, Hset.out.congr fun i hi' => ?_, ?_⟩
          · show (if i = j then _ else _) = _
            by_cases e : i = j
            · subst e; rw [if_pos rfl, if_pos (by omega)]
            · rw [if_neg e]
              by_cases e' : i < j
              · rw [if_pos e', if_pos (by omega)]
              · rw [if_neg e', if_neg (by omega)]
          · obtain ⟨w1, w2, w3, w4, w5⟩ := hw.out
            exact ⟨w1, w2, w3, by rw [← w4]; simp, fun i hi' => (Below.heap_setCell _ _ _ _ hi').trans (w5 i hi')⟩
        case measure => simp [intOf]; omega
      · obtain rfl : j = xs.length := by omega
        go_wp2_with fail
        go_ret
        obtain ⟨w1, w2, w3, w4, w5⟩ := hw.out
        obtain ⟨cs, k1, k2, k3⟩ := hrow
        refine ⟨rfl, ⟨⟨by simp [marks_len], .inr ⟨g, c, cs, by rw [marks_len], e2, k1, by rw [marks_len]; exact e4, e5, by rw [k2]; simp, ?_⟩⟩, fun k hk => by injection hk with hk; subst hk; exact hgh⟩, w1, w2, w3, w4, fun i hi' => w5 i (by omega)⟩
        apply List.ext_getElem?
        intro i
        rw [marks_len, Nat.mul_one, List.getElem?_take]
        by_cases hi' : i < xs.length
        · rw [if_pos hi', Array.getElem?_toList, k3 i (by omega)]; show some (if i < xs.length then _ else _) = _; rw [if_pos hi', f32s_at (by rw [marks_len]; exact hi'), marks_at hi']
        · rw [if_neg hi', List.getElem?_eq_none (by simp [marks_len]; omega)]

theorem mark_any (lo hi c : Nat) (A : Option Addr) (xs : List Nat) (k0 : Nat) (w : World) (h : Own w lo hi A c xs) (hm : xs.length ≤ 1048576) (hk0 : k0 ≤ 10) :
    Calls Try.prog 33 #[.slice A xs.length c, .int .i64 k0] w fun e w' => e = .returned (.int .i64 ((k0 : Int) + (xs.length : Int))) ∧ Own w' lo hi A c (marks k0 xs.length) ∧
      w'.os = w.os ∧ w'.tape = w.tape ∧ w'.output = w.output ∧ w'.heap.size = w.heap.size ∧ ∀ j, (j < lo ∨ hi ≤ j) → w'.heap[j]? = w.heap[j]? := mark_gen lo hi c A xs k0 w h hm (by omega)

set_option maxHeartbeats 400000 in
theorem held_any (A : Option Addr) (c n k0 : Nat) (w : World) (hr : Rd w A (f32s (marks k0 n))) (hm : n ≤ 1048576) (hk0 : k0 ≤ 10) :
    Calls Try.prog 34 #[.slice A n c, .int .i64 k0] w fun e w' => e = .returned (.int .i64 ((k0 : Int) + (n : Int))) ∧ w = w' := by
  go_enter Try.func34, Try.ntmps34
  go_wp2_with fail
  go_loopw [1, 5] (fun k i wr => ∃ j : Nat, k = .int .i64 ((k0 : Int) + (j : Int)) ∧ i = .int .i64 (j : Int) ∧ j ≤ n ∧ wr = w) (fun _ i _ => n - (intOf i).toNat)
  case atStart => exact ⟨0, by simp, rfl, by omega, rfl⟩
  case round =>
    obtain ⟨j, rfl, rfl, hj, rfl⟩ := hrel
    by_cases hlt : j < n
    · obtain ⟨b, off, rfl, hb, hc⟩ := hr (by simp [marks_len]; omega)
      have e1 := hc j _ (f32s_at (by rw [marks_len]; exact hlt))
      rw [marks_at hlt] at e1
      have hf := mark_fin (k := k0) (by omega) j (by omega)
      clear hc
      go_wp2_with fail
      go_roundw
      case rel => exact ⟨j + 1, by go_num, by go_num, by omega, by first | rfl | trivial⟩
      case measure => simp [intOf]; omega
    · obtain rfl : j = n := by omega
      go_wp2_with fail
      go_ret
      exact ⟨rfl, rfl⟩
end Go.Proofs.Ytignncjmbcdpaaa
