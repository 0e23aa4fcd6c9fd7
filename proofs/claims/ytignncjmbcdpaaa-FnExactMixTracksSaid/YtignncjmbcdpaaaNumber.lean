/-
spec.l1Number: its text is not empty.
-/
import Derived.Test.YtignncjmbcdpaaaParts
import Derived.Laws.BytesArg
import Derived.Laws.Concat
namespace Go.Proofs.Ytignncjmbcdpaaa
open Go Go.RowKit Ieee

theorem byte_text (b : Int) (W : World) : (convert 22 9 (.slice (some ⟨W.heap.size, 0, none⟩) 1 1)).run Try.prog (W.alloc (.cells #[.int .u8 b] 5)) = .ok (.string (strOfNums [b])) (W.alloc (.cells #[.int .u8 b] 5)) := by
  refine run_convert_bytes_arg _ 22 5 (by kernel_rfl) (by kernel_rfl) W.heap.size 0 1 1 [b] rfl (fun i hi => ?_) 9 (by kernel_rfl)
  have hb : (W.alloc (.cells #[.int .u8 b] 5)).heap[W.heap.size]? = some (.cells #[.int .u8 b] 5 (0, 0)) := heap_alloc_new W _
  obtain rfl : i = 0 := by omega
  exact (cell_of_row _ _ 0 _ _ (0, 0) hb).trans (by simp)
theorem join_text {a b : ByteArray} (ha : a.size ≤ 1000) (hb : b.size ≤ 1000) (W : World) : (Op.stringOp .add a b).run Try.prog W = .ok (.string (a ++ b)) W := run_string_add W a b (by omega) (by omega)

set_option maxRecDepth 100000 in
set_option maxHeartbeats 400000 in
theorem number_pos (n0 : Nat) (w : World) (h1 : n0 ≤ 1152921504606846976) : Calls Try.prog 164 #[.int .i64 n0] w fun e w' =>
    ∃ s : ByteArray, e = .returned (.string s) ∧ 1 ≤ s.size ∧ s.size ≤ 21 ∧ Below w.heap.size w w' := by
  have hconv := byte_text
  go_enter Try.func164, Try.ntmps164
  go_wp2_with fail
  have hB0 : Hid (Below w.heap.size w (w.alloc (.cells #[.int .u8 (48 + (n0 : Int) % 10)] 5))) := (Below.refl w.heap.size w).alloc (Nat.le_refl _) _
  generalize w.alloc (.cells #[.int .u8 (48 + (n0 : Int) % 10)] 5) = W0 at *
  go_loopw [0, 3] (fun n o wr => ∃ (k d : Nat) (s : ByteArray), n = .int .i64 (k : Int) ∧ o = .string s ∧ k ≤ n0 ∧ Hid (k < 10 ^ d ∧ s.size + d ≤ 21 ∧ 1 ≤ s.size) ∧ Hid (Below w.heap.size w wr)) (fun n _ _ => (intOf n).toNat)
  case atStart => exact ⟨n0 / 10, 18, _, by go_num, rfl, by omega, ⟨by omega, by rw [strOfNums_size]; simp, by rw [strOfNums_size]; simp⟩, hB0⟩
  case round =>
    obtain ⟨k, d, s, rfl, rfl, hk, hs, hb⟩ := hrel
    have hadd := fun b => join_text (a := strOfNums [b]) (b := s) (by rw [strOfNums_size]; simp) (by have := hs.out; omega)
    by_cases h0 : 0 < k
    · go_wp2_with fail
      go_roundw
      case rel =>
        obtain ⟨hs1, hs2, hs3⟩ := hs.out
        obtain ⟨d, rfl⟩ : ∃ e, d = e + 1 := by
          rcases Nat.eq_zero_or_pos d with hz | hz
          · subst hz; omega
          · exact ⟨d - 1, by omega⟩
        refine ⟨k / 10, d, _, by go_num, rfl, by omega, ⟨?_, ?_, ?_⟩, hb.out.alloc hb.out.size _⟩
        · rw [Nat.pow_succ] at hs1; omega
        · rw [ByteArray.size_append, strOfNums_size]; simp; omega
        · rw [ByteArray.size_append, strOfNums_size]; simp
      case measure => simp [intOf]; omega
    · go_wp2_with fail
      go_ret
      exact ⟨s, rfl, hs.out.2.2, by have := hs.out; omega, hb.out⟩

set_option maxRecDepth 100000 in
set_option maxHeartbeats 400000 in
theorem number_any (n : Int) (w : World) (h0 : -1152921504606846976 ≤ n) (h1 : n ≤ 1152921504606846976) : Calls Try.prog 164 #[.int .i64 n] w fun e w' =>
    ∃ s : ByteArray, e = .returned (.string s) ∧ 1 ≤ s.size ∧ s.size ≤ 22 ∧ Below w.heap.size w w' := by
  by_cases hn : 0 ≤ n
  · obtain ⟨k, rfl⟩ := Int.eq_ofNat_of_zero_le hn
    refine (number_pos k w (by omega)).mono ?_
    rintro e w' ⟨s, rfl, h2, h3, hb⟩
    exact ⟨s, rfl, h2, by omega, hb⟩
  · obtain ⟨k, hk⟩ : ∃ k : Nat, -n = k := Int.eq_ofNat_of_zero_le (by omega)
    have hneg : decide (n < 0) = true := by simp; omega
    go_enter Try.func164, Try.ntmps164
    go_wp2_with fail
    refine (number_pos k _ (by omega)).mono ?_
    rintro e w' ⟨s, rfl, h2, h3, hb⟩
    have hadd := join_text (a := ⟨#[45]⟩) (b := s) (by decide) (by omega)
    go_wp2_with fail
    go_ret
    exact ⟨_, rfl, by rw [ByteArray.size_append]; omega, by rw [ByteArray.size_append]; have : (ByteArray.mk #[45]).size = 1 := rfl; omega, hb⟩
end Go.Proofs.Ytignncjmbcdpaaa

