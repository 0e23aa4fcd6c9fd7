/-
Part 3 of 8 of the proof of the law FnCut: it returns true for all codes. No condition.
-/
import Derived.Test.YtndnfhhdflmfcaaGreatLawCutM2
import Derived.Laws.BytesArg
import Derived.Laws.Concat
import Derived.ProofKit
import Derived.OpenShut
import Derived.Deep.Slices
import Derived.Deep.CutRange
import Derived.Deep.RegionHeld3
import Derived.Deep.AppendLies
import Derived.Laws.ResultCell
import Derived.Lib.SliceRun
import Derived.Deep.RegionHeld

/-
spec.l1Number: its text is not empty.
-/
namespace Go.Proofs.YtndnfhhdflmfcaaGreat
open Go Go.RowKit Ieee

theorem byte_text (b : Int) (W : World) : (convert 22 9 (.slice (some ⟨W.heap.size, 0, none⟩) 1 1)).run Tryz.prog (W.alloc (.cells #[.int .u8 b] 5)) = .ok (.string (strOfNums [b])) (W.alloc (.cells #[.int .u8 b] 5)) := by
  refine run_convert_bytes_arg _ 22 5 (by kernel_rfl) (by kernel_rfl) W.heap.size 0 1 1 [b] rfl (fun i hi => ?_) 9 (by kernel_rfl)
  have hb : (W.alloc (.cells #[.int .u8 b] 5)).heap[W.heap.size]? = some (.cells #[.int .u8 b] 5 (0, 0)) := heap_alloc_new W _
  obtain rfl : i = 0 := by omega
  exact (cell_of_row _ _ 0 _ _ (0, 0) hb).trans (by simp)
theorem join_text {a b : ByteArray} (ha : a.size ≤ 1000) (hb : b.size ≤ 1000) (W : World) : (Op.stringOp .add a b).run Tryz.prog W = .ok (.string (a ++ b)) W := run_string_add W a b (by omega) (by omega)

set_option maxRecDepth 100000 in
set_option maxHeartbeats 400000 in
theorem number_pos (n0 : Nat) (w : World) (h1 : n0 ≤ 1152921504606846976) : Calls Tryz.prog 56 #[.int .i64 n0] w fun e w' =>
    ∃ s : ByteArray, e = .returned (.string s) ∧ 1 ≤ s.size ∧ s.size ≤ 21 ∧ Below w.heap.size w w' := by
  have hconv := byte_text
  go_enter Tryz.func56, Tryz.ntmps56
  go_wp2_with fail
  have hB0 : Hid (Below w.heap.size w (w.alloc (.cells #[.int .u8 (48 + (n0 : Int) % 10)] 5))) := (Below.refl w.heap.size w).alloc (Nat.le_refl _) _
  generalize w.alloc (.cells #[.int .u8 (48 + (n0 : Int) % 10)] 5) = W0 at *
  go_loopw [0, 3] (fun n o wr => ∃ (k d : Nat) (s : ByteArray), n = .int .i64 (k : Int) ∧ o = .string s ∧ k ≤ n0 ∧ Hid (k < 10 ^ d ∧ s.size + d ≤ 21 ∧ 1 ≤ s.size) ∧ Hid (Below w.heap.size w wr)) (fun n _ _ => (intOf n).toNat)
  case atStart => exact ⟨n0 / 10, 18, _, by go_num, rfl, by omega, ⟨by omega, by rw [strOfNums_size]; simp, by rw [strOfNums_size]; simp⟩, hB0⟩
  case round =>
    obtain ⟨k, d, s, rfl, rfl, hk, hs, hb⟩ := hrel
    have hadd := fun b => join_text (a := strOfNums [b]) (b := s) (by rw [strOfNums_size]; simp) (by have := hs.out; omega)
    by_cases h0 : 0 < k
    · go_wp2_with fail
      go_roundw
      case rel =>
        obtain ⟨hs1, hs2, hs3⟩ := hs.out
        obtain ⟨d, rfl⟩ : ∃ e, d = e + 1 := by
          rcases Nat.eq_zero_or_pos d with hz | hz
          · subst hz; omega
          · exact ⟨d - 1, by omega⟩
        refine ⟨k / 10, d, _, by go_num, rfl, by omega, ⟨?_, ?_, ?_⟩, hb.out.alloc hb.out.size _⟩
        · rw [Nat.pow_succ] at hs1; omega
        · rw [ByteArray.size_append, strOfNums_size]; simp; omega
        · rw [ByteArray.size_append, strOfNums_size]; simp
      case measure => simp [intOf]; omega
    · go_wp2_with fail
      go_ret
      exact ⟨s, rfl, hs.out.2.2, by have := hs.out; omega, hb.out⟩

set_option maxRecDepth 100000 in
set_option maxHeartbeats 400000 in
theorem number_any (n : Int) (w : World) (h0 : -1152921504606846976 ≤ n) (h1 : n ≤ 1152921504606846976) : Calls Tryz.prog 56 #[.int .i64 n] w fun e w' =>
    ∃ s : ByteArray, e = .returned (.string s) ∧ 1 ≤ s.size ∧ s.size ≤ 22 ∧ Below w.heap.size w w' := by
  by_cases hn : 0 ≤ n
  · obtain ⟨k, rfl⟩ := Int.eq_ofNat_of_zero_le hn
    refine (number_pos k w (by omega)).mono ?_
    rintro e w' ⟨s, rfl, h2, h3, hb⟩
    exact ⟨s, rfl, h2, by omega, hb⟩
  · obtain ⟨k, hk⟩ : ∃ k : Nat, -n = k := Int.eq_ofNat_of_zero_le (by omega)
    have hneg : decide (n < 0) = true := by simp; omega
    go_enter Tryz.func56, Tryz.ntmps56
    go_wp2_with fail
    refine (number_pos k _ (by omega)).mono ?_
    rintro e w' ⟨s, rfl, h2, h3, hb⟩
    have hadd := join_text (a := ⟨#[45]⟩) (b := s) (by decide) (by omega)
    go_wp2_with fail
    go_ret
    exact ⟨_, rfl, by rw [ByteArray.size_append]; omega, by rw [ByteArray.size_append]; have : (ByteArray.mk #[45]).size = 1 := rfl; omega, hb⟩
end Go.Proofs.YtndnfhhdflmfcaaGreat

/-
spec.FormatSingle of a number from 0 to 1; spec.l7Limits.
-/
namespace Go.Proofs.YtndnfhhdflmfcaaGreat
open Go Go.RowKit Ieee

/-- A positive number of single precision that is at most 1. -/
theorem pos_parts {r : Nat} (hr : fin .f32 r) (h0 : 0 < fv .f32 r) (h1 : fv .f32 r ≤ 1) : ∃ N k : Nat, fv .f32 r = (N : Rat) * pw (-(k : Int)) ∧ 0 < N ∧ N < 2 ^ 24 ∧ k ≤ 149 := by
  obtain ⟨s, m, e, hrd⟩ := hr
  obtain ⟨b1, b2, b3, b4, _⟩ := read_bounds FloatKind.f32.format (by decide) hrd
  have e1 : FloatKind.f32.format.leastPlace = -149 := by decide +kernel
  have e2 : FloatKind.f32.format.binade = 8388608 := by decide +kernel
  rw [e1] at b1
  rw [e2] at b2
  have hv : fv .f32 r = if s = true then -mval m e else mval m e := by unfold fv; rw [hrd, dval_num]
  have hm0 := mval_nonneg m e
  have hs : s = false := by
    cases s
    · rfl
    · simp only [if_true] at hv; exfalso; grind
  subst hs
  simp only [Bool.false_eq_true, if_false] at hv
  rw [hv] at h0 h1
  have hm : 0 < m := by
    rcases Nat.eq_zero_or_pos m with hz | hz
    · subst hz; rw [mval_zero] at h0; grind
    · exact hz
  have he : e ≤ 0 := by
    rcases Int.lt_or_le 0 e with h | h
    · exfalso
      have h2 : mval 1 1 ≤ mval m e := by
        refine Rat.le_trans (mval_le (e := 1) hm) ?_
        exact Rat.mul_le_mul_of_nonneg_left (pw_mono (by omega)) Rat.natCast_nonneg
      have h3 : mval 1 1 = 2 := by unfold mval pw; grind
      grind
    · exact h
  refine ⟨m, (-e).toNat, ?_, hm, by omega, by omega⟩
  rw [hv, show -(((-e).toNat : Nat) : Int) = e by omega]; rfl

theorem sign_flt (w : World) : flt .f64 (fR .quo .f64 4607182418800017408 0 w) 0 = false ∧ flt .f64 (fR .quo .f64 4607182418800017408 9223372036854775808 w) 0 = true := by
  have h1 : floatBits .quo .f64 4607182418800017408 0 = some 9218868437227405312 := by decide +kernel
  have h2 : floatBits .quo .f64 4607182418800017408 9223372036854775808 = some 18442240474082181120 := by decide +kernel
  constructor
  · unfold fR; rw [h1]
    show flt .f64 9218868437227405312 0 = false
    decide +kernel
  · unfold fR; rw [h2]
    show flt .f64 18442240474082181120 0 = true
    decide +kernel

/-- What FormatDouble returns: the text of -0, or another. -/
def TextPost (x : Nat) (w : World) (e : Ending) (w' : World) : Prop :=
  ∃ s : ByteArray, e = .returned (.string s) ∧ (s.toList == [45, 48]) = signB x ∧ Below w.heap.size w w'
theorem not_minus {s : ByteArray} (h : s.size ≠ 2) : (s.toList == [45, 48]) = false := by
  cases hc : (s.toList == [45, 48])
  · rfl
  · exfalso
    have := eq_of_beq hc
    rw [ByteArray.toList_eq] at this
    have h2 := congrArg List.length this
    simp at h2
    exact h h2
theorem sign_pos {x : Nat} (hx : fin .f64 x) (hw : wfk .f64 x) (h : 0 < fv .f64 x) : signB x = false := by
  obtain ⟨s, m, e, hr⟩ := hx
  obtain ⟨_, _, _, _, _, h6⟩ := read_bounds FloatKind.f64.format (by decide) hr
  have hs : FloatKind.f64.format.signWeight = 9223372036854775808 := by decide +kernel
  rw [hs] at h6
  have hm0 := mval_nonneg m e
  have hv : fv .f64 x = if s = true then -mval m e else mval m e := by unfold fv; rw [hr, dval_num]
  cases hc : signB x
  · rfl
  · exfalso
    have h1 : 9223372036854775808 ≤ x := of_decide_eq_true hc
    rw [wfk_64] at hw
    have : s = true := by rw [h6]; simp; omega
    subst this
    simp only [if_true] at hv
    grind

set_option maxRecDepth 100000 in
set_option maxHeartbeats 400000 in
theorem format_any (x r : Nat) (w : World) (hx : fin .f64 x) (hw : wfk .f64 x) (hv : fv .f64 x = fv .f32 r) (hr : fin .f32 r) (h0 : 0 ≤ fv .f32 r) (h1 : fv .f32 r ≤ 1) :
    Calls Tryz.prog 84 #[.float .f64 x] w (TextPost x w) := by
  obtain ⟨z1, z2⟩ := zero_fin .f64
  have hfin : feq .f64 (fo .sub .f64 x x) 0 = true := by rw [fin_sub]; exact (finB_iff x).2 hx
  cases t : feq .f64 x 0
  · have hpos : 0 < fv .f32 r := by
      rcases Rat.le_iff_lt_or_eq.1 h0 with h | h
      · exact h
      · have : feq .f64 x 0 = true := (feq_iff hx z1).2 (by rw [hv, z2, ← h])
        rw [this] at t; cases t
    have hsg : signB x = false := sign_pos hx hw (by rw [hv]; exact hpos)
    have hlt : flt .f64 x 0 = false := by
      cases hc : flt .f64 x 0
      · rfl
      · have := (flt_iff hx z1).1 hc
        rw [z2, hv] at this; grind
    obtain ⟨N, k, p1, p2, p3, p4⟩ := pos_parts hr hpos h1
    obtain ⟨a1, a2⟩ := absB_fin hx
    have a3 : fv .f64 (absB x) = (N : Rat) * pw (-(k : Int)) := by rw [a2, hv, ab_of_nonneg h0, p1]
    have PA := Lib.hid (fun w => parts_any (absB x) N k w a1 a3 p2 p3 p4)
    have SG := Lib.hid hsg
    clear a1 a2 a3 p1 p2 p3 p4 hsg hv hr h0 h1 hpos hx
    go_enter Tryz.func84, Tryz.ntmps84
    go_wp2_with fail
    refine (l1Finite_any x _).mono ?_
    rintro e w' ⟨n1, rfl, rfl⟩
    rw [hfin]
    go_wp2_with fail
    refine (l1Abs_any x _).mono ?_
    rintro e w' ⟨rfl, rfl⟩
    go_wp2_with fail
    refine (PA.out _).mono ?_
    rintro e w' ⟨m, j, n2, rfl, m1, m2, j1, j2, rfl⟩
    go_wp2_with fail
    refine (number_any m _ (by omega) (by omega)).mono ?_
    rintro e w1 ⟨s1, rfl, l1, l2, hb1⟩
    have HB1 : Hid (Below w.heap.size w w1) := (below_drewN (Below.refl _ _) _).trans hb1
    have hadd1 := join_text (a := ⟨#[]⟩) (b := s1) (by decide) (by omega)
    have hsz1 : ((⟨#[]⟩ : ByteArray) ++ s1).size = s1.size := by rw [ByteArray.size_append]; have : (ByteArray.mk #[]).size = 0 := rfl; omega
    generalize (⟨#[]⟩ : ByteArray) ++ s1 = u1 at *
    have hadd2 := join_text (a := u1) (b := ⟨#[112]⟩) (by omega) (by decide)
    have hsz2 : (u1 ++ (⟨#[112]⟩ : ByteArray)).size = u1.size + 1 := by rw [ByteArray.size_append]; rfl
    generalize u1 ++ (⟨#[112]⟩ : ByteArray) = u2 at *
    clear hb1
    go_wp2_with fail
    refine (number_any j _ (by omega) (by omega)).mono ?_
    rintro e w2 ⟨s2, rfl, l3, l4, hb2⟩
    have HB2 : Hid (Below w.heap.size w w2) := HB1.out.trans (hb2.mono HB1.out.size)
    have hadd3 := join_text (a := u2) (b := s2) (by omega) (by omega)
    have hsz3 : (u2 ++ s2).size = u2.size + s2.size := ByteArray.size_append
    generalize u2 ++ s2 = u3 at *
    clear hb2
    go_wp2_with fail
    go_ret
    exact ⟨u3, rfl, by rw [SG.out]; exact not_minus (by omega), HB2.out⟩
  · rcases feq_zero hw t with rfl | rfl
    · have s0 := fun w => (sign_flt w).1
      go_enter Tryz.func84, Tryz.ntmps84
      go_wp2_with fail
      refine (l1Finite_any _ _).mono ?_
      rintro e w' ⟨n1, rfl, rfl⟩
      rw [hfin]
      go_wp2_with fail
      go_ret
      exact ⟨_, rfl, by rw [not_minus (by decide)]; decide, below_drewN (Below.refl _ _) _⟩
    · have s0 := fun w => (sign_flt w).2
      go_enter Tryz.func84, Tryz.ntmps84
      go_wp2_with fail
      refine (l1Finite_any _ _).mono ?_
      rintro e w' ⟨n1, rfl, rfl⟩
      rw [hfin]
      go_wp2_with fail
      go_ret
      exact ⟨_, rfl, by rw [ByteArray.toList_eq]; decide, below_drewN (Below.refl _ _) _⟩
end Go.Proofs.YtndnfhhdflmfcaaGreat

/-
spec.l7Limits, spec.LimitSamples.
-/
namespace Go.Proofs.YtndnfhhdflmfcaaGreat
open Go Go.RowKit Ieee

theorem range_val {r : Nat} (h1 : fge .f32 r 0 = true) (h2 : fle .f32 r 1065353216 = true) : 0 ≤ fv .f32 r ∧ fv .f32 r ≤ 1 := by
  have hr := fin_range h1 h2
  obtain ⟨z1, z2⟩ := zero_fin .f32
  have ho : FloatKind.f32.format.read 1065353216 = .number false 8388608 (-23) := by decide +kernel
  obtain ⟨o1, o2⟩ := fin_of_read (k := .f32) ho
  have o3 : fv .f32 1065353216 = 1 := by
    rw [o2, dval_num]
    unfold mval pw
    simp only [Bool.false_eq_true, if_false]
    grind
  have g1 := (fge_iff hr z1).1 h1
  have g2 := (fle_iff hr o1).1 h2
  rw [z2] at g1
  rw [o3] at g2
  exact ⟨g1, g2⟩

set_option maxHeartbeats 400000 in
theorem single_text (r : Nat) (w : World) (_hw : wfk .f32 r) (h1 : fge .f32 r 0 = true) (h2 : fle .f32 r 1065353216 = true) : Calls Tryz.prog 57 #[.float .f32 r] w fun e w' =>
    ∃ s : ByteArray, e = .returned (.string s) ∧ (s.toList == [45, 48]) = signB (wid r) ∧ Below w.heap.size w w' := by
  have hr := fin_range h1 h2
  obtain ⟨v1, v2⟩ := range_val h1 h2
  have hc := cR_wid_fin hr
  have F := Lib.hid (fun w => format_any (wid r) r w (wid_fin hr).1 (wid_lt _) (wid_fin hr).2 hr v1 v2)
  clear h1 h2 hr v1 v2
  go_enter Tryz.func57, Tryz.ntmps57
  go_wp2_with fail
  refine (F.out _).mono ?_
  rintro e w' ⟨s, rfl, hs, hb⟩
  go_wp2_with fail
  go_ret
  exact ⟨s, rfl, hs, (below_drewN (Below.refl _ _) _).trans hb⟩

set_option maxHeartbeats 400000 in
theorem limits_any (c r : Nat) (w : World) (_hcw : wfk .f32 c) (hrw : wfk .f32 r) :
    Calls Tryz.prog 30 #[.float .f32 c, .float .f32 r] w fun e w' => e = .returned (.bool (limOk c r)) ∧ Below w.heap.size w w' := by
  have HL : Hid (limOk c r = (finB (wid c) && fgt .f32 c 0 && fge .f32 r 0 && fle .f32 r 1065353216 && !signB (wid r))) := rfl
  have Hf := Lib.hid (fun w => (by rw [fin_sub, finB_nrm (by rw [nrm_wid, nrm_cv (by decide)] : nrm .f64 (cR .f32 c .f64 w) = nrm .f64 (wid c))] : feq .f64 (fo .sub .f64 (cR .f32 c .f64 w) (cR .f32 c .f64 w)) 0 = finB (wid c)))
  cases h2 : fgt .f32 c 0
  · have e3 : limOk c r = false := by rw [HL.out, h2, Bool.and_false]; rfl
    have E3 := Lib.hid e3
    clear HL e3
    go_enter Tryz.func30, Tryz.ntmps30
    go_wp2_with fail
    go_ret
    exact ⟨by rw [E3.out]; rfl, Below.refl _ _⟩
  cases h1 : finB (wid c)
  · have e3 : limOk c r = false := by rw [HL.out, h1]; rfl
    have E3 := Lib.hid e3
    clear HL e3
    go_enter Tryz.func30, Tryz.ntmps30
    go_wp2_with fail
    refine (l1Finite_any _ _).mono ?_
    rintro e w' ⟨n1, rfl, rfl⟩
    rw [Hf.out, h1]
    go_wp2_with fail
    go_ret
    exact ⟨by rw [E3.out]; rfl, below_drewN (Below.refl _ _) _⟩
  cases h3 : fge .f32 r 0
  · have e3 : limOk c r = false := by rw [HL.out, h1, h2, h3]; rfl
    have E3 := Lib.hid e3
    clear HL e3
    go_enter Tryz.func30, Tryz.ntmps30
    go_wp2_with fail
    refine (l1Finite_any _ _).mono ?_
    rintro e w' ⟨n1, rfl, rfl⟩
    rw [Hf.out, h1]
    go_wp2_with fail
    go_ret
    exact ⟨by rw [E3.out]; rfl, below_drewN (Below.refl _ _) _⟩
  cases h4 : fle .f32 r 1065353216
  · have e3 : limOk c r = false := by rw [HL.out, h1, h2, h3, h4]; rfl
    have E3 := Lib.hid e3
    clear HL e3
    go_enter Tryz.func30, Tryz.ntmps30
    go_wp2_with fail
    refine (l1Finite_any _ _).mono ?_
    rintro e w' ⟨n1, rfl, rfl⟩
    rw [Hf.out, h1]
    go_wp2_with fail
    go_ret
    exact ⟨by rw [E3.out]; rfl, below_drewN (Below.refl _ _) _⟩
  · have e3 : limOk c r = !signB (wid r) := by rw [HL.out, h1, h2, h3, h4]; rfl
    have E3 := Lib.hid e3
    have T := Lib.hid (fun w => single_text r w hrw h3 h4)
    clear HL e3
    go_enter Tryz.func30, Tryz.ntmps30
    go_wp2_with fail
    refine (l1Finite_any _ _).mono ?_
    rintro e w' ⟨n1, rfl, rfl⟩
    rw [Hf.out, h1]
    go_wp2_with fail
    refine (T.out _).mono ?_
    rintro e w' ⟨s, rfl, hs, hb⟩
    have HB : Hid (Below w.heap.size w w') := (below_drewN (Below.refl _ _) _).trans hb
    clear hb
    go_wp2_with fail
    go_ret
    exact ⟨by rw [E3.out]; rfl, HB.out⟩

end Go.Proofs.YtndnfhhdflmfcaaGreat

/-
Rows of the call's own: marked, held, kept.
-/
namespace Go.Proofs.YtndnfhhdflmfcaaGreat
open Go Go.RowKit Ieee

theorem some_lt {W : World} {i : Nat} {o : Obj} (h : W.heap[i]? = some o) : i < W.heap.size := by
  rcases Nat.lt_or_ge i W.heap.size with h1 | h1
  · exact h1
  · rw [Array.getElem?_eq_none h1] at h; cases h
/-- A slice of single precision whose block lies from 'lo' on and below 'hi'. -/
def Own (w : World) (lo hi : Nat) (A : Option Addr) (c : Nat) (xs : List Nat) : Prop :=
  w.ownsRow lo 23 1 (.slice A xs.length c) xs.length (f32s xs) ∧ ∀ k, (Value.slice A xs.length c).ownBlock = some k → k < hi
theorem Own.keep {w w' : World} {lo hi : Nat} {A : Option Addr} {c : Nat} {xs : List Nat} (h : Own w lo hi A c xs) (hk : ∀ j, lo ≤ j → j < hi → w'.heap[j]? = w.heap[j]?) : Own w' lo hi A c xs := by
  obtain ⟨⟨h1, h2⟩, h3⟩ := h
  refine ⟨⟨h1, ?_⟩, h3⟩
  rcases h2 with h2 | ⟨g, cap, cur, e1, e2, e3, e4⟩
  · exact .inl h2
  · refine .inr ⟨g, cap, cur, e1, e2, (hk g e2 (h3 g (by rw [e1]; rfl))).trans e3, e4⟩
theorem Own.below {w w' : World} {lo hi B : Nat} {A : Option Addr} {c : Nat} {xs : List Nat} (h : Own w lo hi A c xs) (hb : Below B w w') (hB : hi ≤ B) : Own w' lo hi A c xs :=
  h.keep fun j _ hj => hb.block j (by omega)
theorem Own.drewN {w : World} {lo hi : Nat} {A : Option Addr} {c : Nat} {xs : List Nat} (h : Own w lo hi A c xs) (n : Nat) : Own (w.drewN n) lo hi A c xs := h
theorem Own.of {w : World} {lo : Nat} {A : Option Addr} {c n : Nat} {xs : List Nat} (h : w.ownsRow lo 23 1 (.slice A n c) n (f32s xs)) (hn : xs.length = n) : Own w lo w.heap.size A c xs := by
  subst hn
  refine ⟨h, fun k hk => ?_⟩
  rcases h.2 with ⟨e, _⟩ | ⟨g, cap, cur, e1, e2, e3, e4⟩
  · rw [e] at hk; cases hk
  · rw [e1] at hk
    have : g = k := by injection hk
    subst this
    exact some_lt e3
theorem Own.rd {w : World} {lo hi : Nat} {A : Option Addr} {c : Nat} {xs : List Nat} (h : Own w lo hi A c xs) : Rd w A (f32s xs) := by
  obtain ⟨A', cap, e, _, hr⟩ := own_rd h.1
  injection e with e1 e2 e3
  subst e1
  exact hr
theorem MadeRow.own {w w' : World} {xs : List Nat} (h : MadeRow w w' 23 (f32s xs)) (hm : xs.length ≤ 1048576) : Own w' w.heap.size w'.heap.size (some ⟨w.heap.size, 0, none⟩) xs.length xs := by
  obtain ⟨cs, rfl, hc⟩ := h
  have hs : cs.size = xs.length := by rw [← Array.length_toList, hc]; simp
  refine Own.of (n := xs.length) ⟨by simp, .inr ⟨w.heap.size, xs.length, cs, rfl, Nat.le_refl _, heap_alloc_new w _, Nat.le_refl _, ?_, by rw [hs]; simp, ?_⟩⟩ rfl
  · simp only [maxLen]; omega
  · rw [hc, List.take_of_length_le (by simp)]
/-- The marks: k, k + 1, ... -/
def marks (k n : Nat) : List Nat := (List.range n).map fun (j : Nat) => floatOfInt .f32 ((k : Int) + (j : Int))
theorem marks_len (k n : Nat) : (marks k n).length = n := by simp [marks]
theorem marks_at {k n j : Nat} (h : j < n) : (marks k n).getD j 0 = floatOfInt .f32 ((k : Int) + (j : Int)) := by simp [marks, List.getD, h]
theorem mark_fin {k : Nat} (h : k ≤ 2000000) (j : Nat) (hj : j ≤ 2000000) : feq .f32 (floatOfInt .f32 ((k : Int) + (j : Int))) (floatOfInt .f32 ((k : Int) + (j : Int))) = true := by
  rw [feq_self, fin_num (int_exact .f32 _ (by have : FloatKind.f32.format.binade = 8388608 := by decide +kernel
                                              rw [this]; omega)).1]
  rfl

end Go.Proofs.YtndnfhhdflmfcaaGreat

/-
Arguments opened: slices of floats, floats.
-/
namespace Go.Proofs.YtndnfhhdflmfcaaGreat
open Go Go.RowKit Go.ChangeShapes Go.WideShapes

theorem own : ownKnob Tryz.prog.godebug = none := by kernel_rfl
theorem laidOut : laidOutB Tryz.prog = true := by kernel_rfl

section
variable {H : Type} {enc : TypeId × Value → H} {P : Program} {w : World} {base fuel : Nat} {spare : Nat → Bool} {held : Bool} {t e : TypeId} {cs : List Value} {x : DataW H × List MemPlace}

theorem trod_float {k : FloatKind} (ht : P.underlying t = some (.float k)) (h : DataW.trod enc P w base spare held fuel t cs = some x) :
    ∃ b, cs = [.float k b] ∧ x = (.lit (.float k b), []) ∧ (Lit.float k b).wf = true := by
  cases fuel with
  | zero => simp [DataW.trod] at h
  | succ n =>
    unfold DataW.trod at h
    rw [ht] at h
    split at h <;> simp_all

theorem addr_add_spot (a : Addr) (hs : a.spot = none) (i : Nat) : a.add i = ⟨a.block, a.off + i, none⟩ := by
  obtain ⟨b, o, s⟩ := a
  subst hs
  unfold Addr.add
  by_cases h : i = 0
  · subst h; simp
  · simp [h]

theorem cell_lt {w : World} {p : Addr} {v : Value} (h : w.cell? p = some v) : p.block < w.heap.size := by
  unfold World.cell? at h
  rcases Nat.lt_or_ge p.block w.heap.size with h1 | h1
  · exact h1
  · rw [Array.getElem?_eq_none h1] at h; cases h

/-- A slice of floats that came in. -/
theorem open_floats {k : FloatKind} {v : Value} {d : DataW H} {ps : List MemPlace} {A : Option Addr} {len cap : Nat} (hv : v = .slice A len cap) (ht : P.underlying t = some (.slice e)) (he : P.underlying e = some (.float k)) (hc : P.cellsOf e = 1)
    (h : DataW.Trod enc P w base spare held t v d ps) : ∃ bs : List Nat, bs.length = len ∧ len ≤ maxLen ∧ Rd w A (bs.map (.float k)) ∧ ∀ i, i < len → wfk k (bs.getD i 0) := by
  obtain ⟨fuel, hf⟩ := h
  subst hv
  rcases Deep.open_slice1 ht hc hf with ⟨hcs, _⟩ | ⟨a, l, c, m, n, V, D, Pl, hcs, hb, hl, hm, hmm, _, hx⟩
  · simp [Value.cells] at hcs
    obtain ⟨rfl, rfl, rfl⟩ := hcs
    exact ⟨[], rfl, by simp, fun h => by simp at h, fun i hi => absurd hi (Nat.not_lt_zero _)⟩
  · simp [Value.cells] at hcs
    obtain ⟨rfl, rfl, rfl⟩ := hcs
    have hlm : len ≤ m := by rw [hmm]; split <;> omega
    obtain ⟨F, hF⟩ := Deep.choose_lt (n := len) (p := fun i b => V i = .float k b ∧ (Lit.float k b).wf = true) (fun i hi => by
      obtain ⟨_, h2⟩ := hx i (by omega)
      obtain ⟨b, h3, _, h4⟩ := trod_float he h2
      exact ⟨b, by simpa using h3, h4⟩)
    refine ⟨(List.range len).map F, by simp, by omega, fun h0 => ?_, fun i hi => ?_⟩
    · have h0 : 0 < len := by simpa using h0
      have hs : a.spot = none := by
        have := World.cell?_spot (hx 0 (by omega)).1
        simpa [Addr.add] using this
      have hcell := (hx 0 (by omega)).1
      rw [addr_add_spot a hs] at hcell
      refine ⟨a.block, a.off, ?_, cell_lt (p := ⟨a.block, a.off + 0, none⟩) hcell, fun j u hu => ?_⟩
      · obtain ⟨b, o, s⟩ := a
        subst hs; rfl
      · have hj : j < len := by
          rcases Nat.lt_or_ge j len with h1 | h1
          · exact h1
          · rw [List.getElem?_eq_none (by simpa using h1)] at hu; cases hu
        have h1 := (hx j (by omega)).1
        rw [addr_add_spot a hs, (hF j hj).1] at h1
        rw [h1]
        simpa [List.getElem?_range hj] using hu
    · have := (hF i hi).2
      have e1 : ((List.range len).map F).getD i 0 = F i := by simp [List.getD, hi]
      rw [e1]
      exact wfk_lit this

/-- A slice of bytes that came in. -/
theorem open_bytes {v : Value} {d : DataW H} {ps : List MemPlace} {A : Option Addr} {len cap : Nat} (hv : v = .slice A len cap) (ht : P.underlying t = some (.slice e)) (he : P.underlying e = some (.int .u8)) (hc : P.cellsOf e = 1)
    (h : DataW.Trod enc P w base spare held t v d ps) : ∃ bs : List Int, bs.length = len ∧ len ≤ maxLen ∧ Rd w A (bs.map (.int .u8)) ∧ ∀ i, i < len → 0 ≤ bs.getD i 0 ∧ bs.getD i 0 ≤ 255 := by
  obtain ⟨fuel, hf⟩ := h
  subst hv
  rcases Deep.open_slice1 ht hc hf with ⟨hcs, _⟩ | ⟨a, l, c, m, n, V, D, Pl, hcs, hb, hl, hm, hmm, _, hx⟩
  · simp [Value.cells] at hcs
    obtain ⟨rfl, rfl, rfl⟩ := hcs
    exact ⟨[], rfl, by simp, fun h => by simp at h, fun i hi => absurd hi (Nat.not_lt_zero _)⟩
  · simp [Value.cells] at hcs
    obtain ⟨rfl, rfl, rfl⟩ := hcs
    have hlm : len ≤ m := by rw [hmm]; split <;> omega
    obtain ⟨F, hF⟩ := Deep.choose_lt (n := len) (p := fun i b => V i = .int .u8 b ∧ (Lit.int .u8 b).wf = true) (fun i hi => by
      obtain ⟨_, h2⟩ := hx i (by omega)
      obtain ⟨b, h3, _, h4⟩ := DataW.trod_int he h2
      exact ⟨b, by simpa using h3, h4⟩)
    refine ⟨(List.range len).map F, by simp, by omega, fun h0 => ?_, fun i hi => ?_⟩
    · have h0 : 0 < len := by simpa using h0
      have hs : a.spot = none := by
        have := World.cell?_spot (hx 0 (by omega)).1
        simpa [Addr.add] using this
      have hcell := (hx 0 (by omega)).1
      rw [addr_add_spot a hs] at hcell
      refine ⟨a.block, a.off, ?_, cell_lt (p := ⟨a.block, a.off + 0, none⟩) hcell, fun j u hu => ?_⟩
      · obtain ⟨b, o, s⟩ := a
        subst hs; rfl
      · have hj : j < len := by
          rcases Nat.lt_or_ge j len with h1 | h1
          · exact h1
          · rw [List.getElem?_eq_none (by simpa using h1)] at hu; cases hu
        have h1 := (hx j (by omega)).1
        rw [addr_add_spot a hs, (hF j hj).1] at h1
        rw [h1]
        simpa [List.getElem?_range hj] using hu
    · have h1 := (hF i hi).2
      have e1 : ((List.range len).map F).getD i 0 = F i := by simp [List.getD, hi]
      rw [e1]
      simpa [Lit.wf, IntKind.min, IntKind.max, IntKind.signed, IntKind.bits] using h1
end
end Go.Proofs.YtndnfhhdflmfcaaGreat

/-
A slice of slices of single precision that came in.
-/
namespace Go.Proofs.YtndnfhhdflmfcaaGreat
open Go Go.RowKit Ieee

/-- A row: where it lies, its capacity, its words. -/
abbrev Row := Option Addr × Nat × List Nat
def rowV (r : Row) : Value := .slice r.1 r.2.2.length r.2.1
def rowAt (rs : List Row) (i : Nat) : Row := rs.getD i (none, 0, [])
def RdSS (w : World) (A : Option Addr) (rs : List Row) : Prop := Rd w A (rs.map rowV) ∧ ∀ i, i < rs.length → Rd w (rowAt rs i).1 (f32s (rowAt rs i).2.2)
theorem RdSS.below {w w' : World} {A : Option Addr} {rs : List Row} (h : RdSS w A rs) (hb : Below w.heap.size w w') : RdSS w' A rs := ⟨h.1.below hb, fun i hi => (h.2 i hi).below hb⟩
theorem rowV_at {rs : List Row} {k : Nat} (h : k < rs.length) : (rs.map rowV)[k]? = some (rowV (rowAt rs k)) := by
  simp [rowAt, List.getD, List.getElem?_eq_getElem h]

section
variable {H : Type} {enc : TypeId × Value → H} {P : Program} {w : World} {base : Nat} {spare : Nat → Bool} {held : Bool} {t e q : TypeId}
theorem open_rows {v : Value} {d : DataW H} {ps : List MemPlace} {A : Option Addr} {len cap : Nat} (hv : v = .slice A len cap) (ht : P.underlying t = some (.slice e)) (he : P.underlying e = some (.slice q)) (hq : P.underlying q = some (.float .f32))
    (ce : P.cellsOf e = 1) (cq : P.cellsOf q = 1)
    (h : DataW.Trod enc P w base spare held t v d ps) : ∃ rs : List Row, rs.length = len ∧ len ≤ maxLen ∧ RdSS w A rs ∧ ∀ i, i < len → (rowAt rs i).2.2.length ≤ maxLen ∧ ∀ j, j < (rowAt rs i).2.2.length → wfk .f32 ((rowAt rs i).2.2.getD j 0) := by
  obtain ⟨fuel, hf⟩ := h
  subst hv
  rcases Deep.open_slice1 ht ce hf with ⟨hcs, _⟩ | ⟨a, l, c, m, n, V, D, Pl, hcs, hb, hl, hm, hmm, _, hx⟩
  · simp [Value.cells] at hcs
    obtain ⟨rfl, rfl, rfl⟩ := hcs
    exact ⟨[], rfl, by simp, ⟨fun h => by simp at h, fun i hi => by simp at hi⟩, fun i hi => absurd hi (Nat.not_lt_zero _)⟩
  · simp [Value.cells] at hcs
    obtain ⟨rfl, rfl, rfl⟩ := hcs
    have hlm : len ≤ m := by rw [hmm]; split <;> omega
    obtain ⟨F, hF⟩ := Deep.choose_lt (n := len) (p := fun i (r : Row) => V i = rowV r ∧ Rd w r.1 (f32s r.2.2) ∧ r.2.2.length ≤ maxLen ∧ ∀ j, j < r.2.2.length → wfk .f32 (r.2.2.getD j 0)) (fun i hi => by
      obtain ⟨_, h2⟩ := hx i (by omega)
      obtain ⟨A', l', c', hV⟩ : ∃ A' l' c', V i = .slice A' l' c' := by
        rcases Deep.open_slice1 he cq h2 with ⟨h3, _⟩ | ⟨a', l', c', _, _, _, _, _, h3, _⟩
        · exact ⟨none, 0, 0, by simpa using h3⟩
        · exact ⟨some a', l', c', by simpa using h3⟩
      have hT : DataW.Trod enc P w base spare held e (.slice A' l' c') (D i) (Pl i) := ⟨n, by rw [hV] at h2; simpa [Value.cells] using h2⟩
      obtain ⟨bs, hb1, hb2, hb3, hb4⟩ := open_floats rfl he hq cq hT
      exact ⟨(A', c', bs), by rw [hV]; simp [rowV, hb1], hb3, by simpa [hb1] using hb2, fun j hj => hb4 j (by simpa [hb1] using hj)⟩)
    have hat : ∀ i, i < len → rowAt ((List.range len).map F) i = F i := fun i hi => by simp [rowAt, List.getD, hi]
    refine ⟨(List.range len).map F, by simp, by omega, ⟨fun h0 => ?_, fun i hi => ?_⟩, fun i hi => ?_⟩
    · have h0 : 0 < len := by simpa using h0
      have hs : a.spot = none := by
        have := World.cell?_spot (hx 0 (by omega)).1
        simpa [Addr.add] using this
      have hcell := (hx 0 (by omega)).1
      rw [addr_add_spot a hs] at hcell
      refine ⟨a.block, a.off, ?_, cell_lt (p := ⟨a.block, a.off + 0, none⟩) hcell, fun j u hu => ?_⟩
      · obtain ⟨b, o, s⟩ := a
        subst hs; rfl
      · have hj : j < len := by
          rcases Nat.lt_or_ge j len with h1 | h1
          · exact h1
          · rw [List.getElem?_eq_none (by simpa using h1)] at hu; cases hu
        have h1 := (hx j (by omega)).1
        rw [addr_add_spot a hs, (hF j hj).1] at h1
        rw [h1]
        simpa [List.getElem?_range hj] using hu
    · have hi : i < len := by simpa using hi
      rw [hat i hi]; exact (hF i hi).2.1
    · rw [hat i hi]; exact (hF i hi).2.2
end
end Go.Proofs.YtndnfhhdflmfcaaGreat

/-
Slices of slices of single precision: laws.szFloat32SS, toFloat32SS, eqFloat32SS, markFloat32SS.
-/
namespace Go.Proofs.YtndnfhhdflmfcaaGreat
open Go Go.RowKit Ieee

theorem setCell_size (W : World) (a : Addr) (v : Value) : (W.setCell a v).heap.size = W.heap.size := by simp
/-- How many words the first rows have. -/
def totL (rs : List Row) : Nat → Nat
  | 0 => 0
  | k + 1 => totL rs k + (rowAt rs k).2.2.length
theorem totL_mono (rs : List Row) {j k : Nat} (h : j ≤ k) : totL rs j ≤ totL rs k := by
  induction k with
  | zero => obtain rfl : j = 0 := by omega
            exact Nat.le_refl _
  | succ k ih =>
    rcases Nat.lt_or_ge j (k + 1) with h1 | h1
    · have := ih (by omega); show _ ≤ totL rs k + _; omega
    · obtain rfl : j = k + 1 := by omega
      exact Nat.le_refl _
theorem totL_row (rs : List Row) {i n : Nat} (h : i < n) : (rowAt rs i).2.2.length ≤ totL rs n := by
  have := totL_mono rs (show i + 1 ≤ n by omega)
  have e : totL rs (i + 1) = totL rs i + (rowAt rs i).2.2.length := rfl
  omega

theorem row_info : (Tryz.prog.info? 35).map (fun i => (i.zero, i.size, i.bytes)) = some (some (.slice none 0 0), 1, 24) := by kernel_rfl
/-- The rows of a copy whose outer block is b. -/
def copyRows (b : Nat) (rs : List Row) : List Row := (List.range rs.length).map fun i => (some ⟨b + 1 + i, 0, none⟩, (rowAt rs i).2.2.length, (rowAt rs i).2.2)
theorem copyRows_len (b : Nat) (rs : List Row) : (copyRows b rs).length = rs.length := by simp [copyRows]
theorem copyRows_at {b : Nat} {rs : List Row} {i : Nat} (h : i < rs.length) : rowAt (copyRows b rs) i = (some ⟨b + 1 + i, 0, none⟩, (rowAt rs i).2.2.length, (rowAt rs i).2.2) := by
  show (copyRows b rs).getD i (none, 0, []) = _
  simp [copyRows, List.getD, h]
/-- A copy: the outer block b, then a block a row. -/
structure CopySS (w : World) (b : Nat) (rs : List Row) : Prop where
  top : w.rowIs b 35 rs.length (fun i => rowV (rowAt (copyRows b rs) i))
  rows : ∀ i, i < rs.length → Own w (b + 1 + i) (b + 2 + i) (some ⟨b + 1 + i, 0, none⟩) (rowAt rs i).2.2.length (rowAt rs i).2.2
theorem CopySS.rd {w : World} {b : Nat} {rs : List Row} (h : CopySS w b rs) : RdSS w (some ⟨b, 0, none⟩) (copyRows b rs) := by
  refine ⟨fun h0 => ⟨b, 0, rfl, h.top.lt, fun k u hu => ?_⟩, fun i hi => ?_⟩
  · have hk : k < rs.length := by
      rcases Nat.lt_or_ge k rs.length with h1 | h1
      · exact h1
      · rw [List.getElem?_eq_none (by simpa [copyRows] using h1)] at hu; cases hu
    rw [rowV_at (by rw [copyRows_len]; exact hk)] at hu
    rw [Nat.zero_add, h.top.cell hk]; exact hu
  · rw [copyRows_len] at hi
    rw [copyRows_at hi]
    exact (h.rows i hi).rd
theorem CopySS.keep {w w' : World} {b : Nat} {rs : List Row} (h : CopySS w b rs) (hk : ∀ j, b ≤ j → j < b + 1 + rs.length → w'.heap[j]? = w.heap[j]?) : CopySS w' b rs :=
  ⟨h.top.of_block (hk b (Nat.le_refl _) (by omega)), fun i hi => (h.rows i hi).keep fun j h1 h2 => hk j (by omega) (by omega)⟩
theorem CopySS.below {w w' : World} {b B : Nat} {rs : List Row} (h : CopySS w b rs) (hb : Below B w w') (hB : b + 1 + rs.length ≤ B) : CopySS w' b rs :=
  h.keep fun j _ hj => hb.block j (by omega)

end Go.Proofs.YtndnfhhdflmfcaaGreat

/-
MixTracks of both packages.
-/
namespace Go.Proofs.YtndnfhhdflmfcaaGreat
open Go Go.RowKit Ieee

/-- The sum of the first rows at a place. -/
def sumAt (rs : List Row) : Nat → Nat → Nat
  | 0, _ => 0
  | k + 1, j => fo .add .f32 (sumAt rs k j) ((rowAt rs k).2.2.getD j 0)
theorem nrm_sumAt (rs : List Row) (k j : Nat) : nrm .f32 (sumAt rs k j) = sumAt rs k j := by
  cases k with
  | zero => exact (nrm_of_num (by decide +kernel) : nrm .f32 0 = 0)
  | succ k => exact nrm_fo _ _ _ _
def rowLen (rs : List Row) (i : Nat) : Nat := (rowAt rs i).2.2.length
/-- The row k added to the first m of the sums. -/
def Part (rs : List Row) (k L m : Nat) (ts : List Nat) : Prop :=
  ts.length = L ∧ ∀ j, j < L → nrm .f32 (ts.getD j 0) = (if j < m then sumAt rs (k + 1) j else sumAt rs k j) ∧ wfk .f32 (ts.getD j 0)
theorem getD_set {ts : List Nat} {m v j : Nat} (hm : m < ts.length) : (ts.set m v).getD j 0 = if j = m then v else ts.getD j 0 := by
  simp only [List.getD, List.getElem?_set]
  by_cases h : m = j
  · subst h; simp [hm]
  · rw [if_neg h, if_neg (fun e => h e.symm)]
theorem Part.set {rs : List Row} {k L m : Nat} {ts : List Nat} (h : Part rs k L m ts) (hm : m < L) {a x : Nat} (ha : nrm .f32 a = nrm .f32 (ts.getD m 0)) (hx : (rowAt rs k).2.2.getD m 0 = x) (w : World) :
    Part rs k L (m + 1) (ts.set m (fR .add .f32 a x w)) := by
  obtain ⟨h1, h2⟩ := h
  refine ⟨by simpa using h1, fun j hj => ?_⟩
  rw [getD_set (by omega)]
  by_cases e : j = m
  · subst e
    rw [if_pos rfl, if_pos (by omega)]
    refine ⟨?_, fR_lt _ _ _ _ _⟩
    have h3 := (h2 j hj).1
    rw [if_neg (by omega)] at h3
    rw [nrm_fR]
    show _ = fo .add .f32 (sumAt rs k j) ((rowAt rs k).2.2.getD j 0)
    rw [hx]
    exact fo_congr (by rw [ha, h3, nrm_sumAt]) rfl
  · rw [if_neg e]
    by_cases e' : j < m
    · rw [if_pos (by omega)]; have := h2 j hj; rwa [if_pos e'] at this
    · rw [if_neg (by omega)]; have := h2 j hj; rwa [if_neg e'] at this
theorem Part.next {rs : List Row} {k L : Nat} {ts : List Nat} (h : Part rs k L L ts) : Part rs (k + 1) L 0 ts :=
  ⟨h.1, fun j hj => by have := h.2 j hj; rw [if_pos hj] at this; rwa [if_neg (by omega)]⟩
theorem Part.zero (rs : List Row) (L : Nat) : Part rs 0 L 0 (List.replicate L 0) :=
  ⟨by simp, fun j hj => by
    rw [if_neg (by omega)]
    have e : (List.replicate L 0).getD j 0 = 0 := by simp [List.getD, hj]
    rw [e]
    exact ⟨nrm_of_num (by decide +kernel), by rw [wfk_32]; omega⟩⟩
theorem rowIs_rd {w : World} {g L : Nat} {ts : List Nat} (h : w.rowIs g 23 L (fun j => .float .f32 (ts.getD j 0))) (hl : ts.length = L) : Rd w (some ⟨g, 0, none⟩) (f32s ts) := fun _ =>
  ⟨g, 0, rfl, h.lt, fun k u hu => by
    have hk : k < ts.length := by
      rcases Nat.lt_or_ge k ts.length with h1 | h1
      · exact h1
      · rw [List.getElem?_eq_none (by simpa using h1)] at hu; cases hu
    rw [f32s_at hk] at hu
    rw [Nat.zero_add, h.cell (by omega)]; exact hu⟩
theorem rowIs_upd {w : World} {g L m v : Nat} {ts : List Nat} (h : w.rowIs g 23 L (fun j => .float .f32 (ts.getD j 0))) (hl : ts.length = L) (hm : m < L) :
    (w.setCell ⟨g, m, none⟩ (.float .f32 v)).rowIs g 23 L (fun j => .float .f32 ((ts.set m v).getD j 0)) :=
  (h.set m (.float .f32 v)).congr fun i hi => by
    show (if i = m then _ else _) = _
    rw [getD_set (by omega)]
    by_cases e : i = m
    · rw [if_pos e, if_pos e]
    · rw [if_neg e, if_neg e]

/-- What MixTracks returns. -/
def MixRes (c r : Nat) (rs : List Row) (ok : Bool) (ys : List Nat) : Prop :=
  ((∀ i, i < rs.length → rowLen rs i = rowLen rs 0) ∧ ok = limOk c r ∧ ∃ ss, Part rs rs.length (if rs.length = 0 then 0 else rowLen rs 0) 0 ss ∧ (if limOk c r = true then limited ss c r ys ss.length else ys = [])) ∨
  ((∃ i, i < rs.length ∧ rowLen rs i ≠ rowLen rs 0) ∧ ok = false ∧ ys = [])
def MixPost (c r : Nat) (rs : List Row) (w : World) (e : Ending) (w' : World) : Prop :=
  ∃ (A' : Option Addr) (c' : Nat) (ys : List Nat) (ok : Bool), e = .returned (.tuple #[.slice A' ys.length c', .bool ok]) ∧ Own w' w.heap.size w'.heap.size A' c' ys ∧ MixRes c r rs ok ys ∧ Below w.heap.size w w'
/-- The sums after so many rows. -/
structure Summed (w W : World) (rs : List Row) (k : Nat) (v : Value) (L : Nat) : Prop where
  below : Below w.heap.size w W
  row : ∃ g ss, v = .slice (some ⟨g, 0, none⟩) L L ∧ w.heap.size ≤ g ∧ W.rowIs g 23 L (fun j => .float .f32 (ss.getD j 0)) ∧ Part rs k L 0 ss

theorem owns_low {w : World} {lo lo' n : Nat} {e : TypeId} {v : Value} {xs : List Value} (h : w.ownsRow lo e 1 v n xs) (hl : lo' ≤ lo) : w.ownsRow lo' e 1 v n xs := by
  obtain ⟨h1, h2⟩ := h
  refine ⟨h1, ?_⟩
  rcases h2 with h2 | ⟨g, cap, cur, e1, e2, e3⟩
  · exact .inl h2
  · exact .inr ⟨g, cap, cur, e1, by omega, e3⟩
theorem mix_bad (c r : Nat) {rs : List Row} {k : Nat} {w W : World} (hk : k < rs.length) (hne : rowLen rs k ≠ rowLen rs 0) (hb : Below w.heap.size w W) : MixPost c r rs w (.returned (.tuple #[.slice none 0 0, .bool false])) W :=
  ⟨none, 0, [], false, rfl, ⟨⟨rfl, .inl ⟨rfl, rfl⟩⟩, fun k hk => by cases hk⟩, .inr ⟨⟨k, hk, hne⟩, rfl, rfl⟩, hb⟩
theorem mix_good {c r : Nat} {rs : List Row} {w W W' : World} {ss : List Nat} {e : Ending} (hsame : ∀ i, i < rs.length → rowLen rs i = rowLen rs 0) (hL : (if rs.length = 0 then 0 else rowLen rs 0) = ss.length) (hP : Part rs rs.length ss.length 0 ss) (hb : Below w.heap.size w W)
    (h : LimitPost c r ss W e W') : MixPost c r rs w e W' := by
  obtain ⟨A', c', ys, he, ho, hy, hb2⟩ := h
  exact ⟨A', c', ys, _, he, Own.of (owns_low ho hb.size) rfl, .inl ⟨hsame, rfl, ss, by rw [hL]; exact hP, hy⟩, hb.trans (hb2.mono hb.size)⟩

end Go.Proofs.YtndnfhhdflmfcaaGreat

/-
impl.RingBody at valid modes, where no step overflows.
-/
namespace Go.Proofs.YtndnfhhdflmfcaaGreat
open Go Go.RowKit Ieee

/-- An element of an input, or 0. -/
def inAt (xs : List Nat) (i : Nat) : Nat := if i < xs.length then xs.getD i 0 else 0
/-- The states after so many steps. -/
def stAt (ms : List MW) (xs : List Nat) : Nat → List (Nat × Nat)
  | 0 => List.replicate ms.length (0, 0)
  | i + 1 => nextS ms (stAt ms xs i) (inAt xs i)
theorem stAt_len (ms : List MW) (xs : List Nat) (i : Nat) : (stAt ms xs i).length = ms.length := by
  induction i with
  | zero => simp [stAt]
  | succ i ih => simp [stAt, nextS, ih]
/-- What a body rings: pointwise, a NaN made the one NaN. -/
def Rung (ms : List MW) (xs ys : List Nat) (n : Nat) : Prop :=
  ys.length = n ∧ ∀ i, i < n → nrm .f32 (ys.getD i 0) = outAt ms (stAt ms xs i) (inAt xs i) ms.length ∧ wfk .f32 (ys.getD i 0)
theorem rung_snoc {ms : List MW} {xs ys : List Nat} {k r : Nat} (h : Rung ms xs ys k) (hr : nrm .f32 r = outAt ms (stAt ms xs k) (inAt xs k) ms.length) (hw : wfk .f32 r) : Rung ms xs (ys ++ [r]) (k + 1) := by
  obtain ⟨hl, h⟩ := h
  refine ⟨by simp [hl], fun i hi => ?_⟩
  rcases Nat.lt_or_ge i k with h1 | h1
  · have e : (ys ++ [r]).getD i 0 = ys.getD i 0 := by
      simp only [List.getD]; rw [List.getElem?_append_left (by omega)]
    rw [e]; exact h i h1
  · obtain rfl : i = k := by omega
    have e : (ys ++ [r]).getD i 0 = r := by
      simp only [List.getD]; rw [List.getElem?_append_right (by omega), hl]; simp
    rw [e]; exact ⟨hr, hw⟩
/-- A row is as it was where its blocks are. -/
theorem owns_keep {w w' : World} {lo n : Nat} {e : TypeId} {v : Value} {xs : List Value} (h : w.ownsRow lo e 1 v n xs) (hk : ∀ j, lo ≤ j → j < w.heap.size → w'.heap[j]? = w.heap[j]?) : w'.ownsRow lo e 1 v n xs := by
  obtain ⟨h1, h2⟩ := h
  refine ⟨h1, ?_⟩
  rcases h2 with h2 | ⟨g, cap, cur, e1, e2, e3, e4⟩
  · exact .inl h2
  · exact .inr ⟨g, cap, cur, e1, e2, (hk g e2 (some_lt e3)).trans e3, e4⟩
/-- No step overflows. -/
def Calm (ms : List MW) (xs : List Nat) (n : Nat) : Prop := ∀ i, i < n → ∀ k, k < ms.length → StepOk (mAt ms k) (sAt (stAt ms xs i) k) (inAt xs i)

theorem c64_info : (Tryz.prog.info? 85).map (fun i => (i.zero, i.size, i.bytes)) = some (some (.complex .f32 0 0), 1, 8) := by kernel_rfl
set_option maxHeartbeats 400000 in
theorem element_any (A : Option Addr) (c : Nat) (xs : List Nat) (i : Nat) (w : World) (hr : Rd w A (f32s xs)) (hm : xs.length ≤ 1048576) (hi : i ≤ 2000) :
    Calls Tryz.prog 71 #[.slice A xs.length c, .int .i64 i] w fun e w' => e = .returned (.float .f32 (inAt xs i)) ∧ w = w' := by
  by_cases h : i < xs.length
  · obtain ⟨b, off, rfl, hb1, hc⟩ := hr (by simp; omega)
    have e1 := hc i _ (f32s_at h)
    have He : Hid (inAt xs i = xs.getD i 0) := if_pos h
    clear hc hr
    generalize xs.getD i 0 = x at *
    go_enter Tryz.func71, Tryz.ntmps71
    go_wp2
    go_ret
    exact ⟨by rw [He.out]; rfl, rfl⟩
  · have He : Hid (inAt xs i = 0) := if_neg h
    clear hr
    go_enter Tryz.func71, Tryz.ntmps71
    go_wp2
    go_ret
    exact ⟨by rw [He.out]; rfl, rfl⟩

end Go.Proofs.YtndnfhhdflmfcaaGreat

/-
Small inputs: no step overflows. (Plain arithmetic.)
-/
namespace Go.Proofs.YtndnfhhdflmfcaaGreat
open Go Go.RowKit Ieee

def pw3 (i : Nat) : Rat := 2 ^ 14 * ((3 ^ i : Nat) : Rat)
theorem pw3_succ (i : Nat) : pw3 i * 3 = pw3 (i + 1) := by
  unfold pw3
  rw [Nat.pow_succ, Rat.natCast_mul]
  have : ((3 : Nat) : Rat) = 3 := by simp
  rw [this]; grind
theorem pw3_lo (i : Nat) : 2 ^ 14 ≤ pw3 i := by
  have h : 1 ≤ 3 ^ i := Nat.one_le_pow _ _ (by decide)
  have := Rat.natCast_le_natCast.2 h
  have e : ((1 : Nat) : Rat) = 1 := by simp
  rw [e] at this
  unfold pw3; grind
theorem pw3_hi (i : Nat) (h : i ≤ 61) : pw3 i ≤ 2 ^ 112 := by
  have h1 : 3 ^ i ≤ 3 ^ 61 := Nat.pow_le_pow_right (by decide) h
  have h2 : 3 ^ 61 ≤ 2 ^ 97 := by decide
  have h3 := Rat.natCast_le_natCast.2 (Nat.le_trans h1 h2)
  have e : ((2 ^ 97 : Nat) : Rat) = 2 ^ 97 := by simp; grind
  rw [e] at h3
  unfold pw3; grind
theorem zero_ok {L : Rat} (hL : 0 ≤ L) : StOk L (0, 0) := by
  obtain ⟨z1, z2⟩ := zero_fin .f32
  exact ⟨z1, z1, by rw [wfk_32]; omega, by rw [wfk_32]; omega, by rw [z2, ab_of_nonneg Rat.le_refl]; exact hL, by rw [z2, ab_of_nonneg Rat.le_refl]; exact hL⟩
/-- Inputs that are finite and at most 8. -/
def Low (xs : List Nat) : Prop := ∀ i, i < xs.length → fin .f32 (xs.getD i 0) ∧ ab (fv .f32 (xs.getD i 0)) ≤ 8
theorem Low.at_ {xs : List Nat} (h : Low xs) (i : Nat) : fin .f32 (inAt xs i) ∧ ab (fv .f32 (inAt xs i)) ≤ 8 := by
  unfold inAt
  split
  · exact h i ‹_›
  · obtain ⟨z1, z2⟩ := zero_fin .f32
    exact ⟨z1, by rw [z2, ab_of_nonneg Rat.le_refl]; grind⟩
theorem states_ok {ms : List MW} {xs : List Nat} (hm : ModesOk ms) (hx : Low xs) (i : Nat) (hi : i ≤ 61) : ∀ k, k < ms.length → StOk (pw3 i) (sAt (stAt ms xs i) k) := by
  induction i with
  | zero =>
    intro k hk
    have e : sAt (stAt ms xs 0) k = (0, 0) := by simp [stAt, sAt, List.getD, hk]
    rw [e]
    exact zero_ok (by have := pw3_lo 0; grind)
  | succ i ih =>
    intro k hk
    have h := ih (by omega) k hk
    have e : sAt (stAt ms xs (i + 1)) k = stepW (mAt ms k) (sAt (stAt ms xs i) k) (inAt xs i) := nextS_at (by rw [stAt_len]; exact hk)
    rw [e, ← pw3_succ]
    obtain ⟨x1, x2⟩ := hx.at_ i
    exact (step_ok (hm.at_ hk) h x1 x2 (pw3_lo i) (pw3_hi i (by omega))).1
theorem calm_of {ms : List MW} {xs : List Nat} (hm : ModesOk ms) (hx : Low xs) (n : Nat) (hn : n ≤ 61) : Calm ms xs n := fun i hi k hk => by
  obtain ⟨x1, x2⟩ := hx.at_ i
  exact (step_ok (hm.at_ hk) (states_ok hm hx i (by omega) k hk) x1 x2 (pw3_lo i) (pw3_hi i (by omega))).2
/-- What a body rings does not depend on how long it rings. -/
theorem rung_prefix {ms : List MW} {xs ys zs : List Nat} {n k : Nat} (hy : Rung ms xs ys n) (hz : Rung ms xs zs k) (hk : k ≤ n) : ∀ i, i < k → sameB .f32 (zs.getD i 0) (ys.getD i 0) = true := fun i hi => by
  unfold sameB
  rw [(hy.2 i (by omega)).1, (hz.2 i hi).1]
  simp
end Go.Proofs.YtndnfhhdflmfcaaGreat

/-
impl.forced: a shape times a force.
-/
namespace Go.Proofs.YtndnfhhdflmfcaaGreat
open Go Go.RowKit Ieee

/-- The samples, each multiplied by a force. -/
def ForcedL (xs : List Nat) (f : Nat) (ys : List Nat) (k : Nat) : Prop := ys.length = k ∧ ∀ i, i < k → nrm .f32 (ys.getD i 0) = fo .mul .f32 (xs.getD i 0) f ∧ wfk .f32 (ys.getD i 0)
theorem forced_snoc {xs ys : List Nat} {f k s : Nat} (h : ForcedL xs f ys k) (hs : nrm .f32 s = fo .mul .f32 (xs.getD k 0) f) (hw : wfk .f32 s) : ForcedL xs f (ys ++ [s]) (k + 1) := by
  obtain ⟨hl, h⟩ := h
  refine ⟨by simp [hl], fun i hi => ?_⟩
  rcases Nat.lt_or_ge i k with h1 | h1
  · have e : (ys ++ [s]).getD i 0 = ys.getD i 0 := by
      simp only [List.getD]; rw [List.getElem?_append_left (by omega)]
    rw [e]; exact h i h1
  · obtain rfl : i = k := by omega
    have e : (ys ++ [s]).getD i 0 = s := by
      simp only [List.getD]; rw [List.getElem?_append_right (by omega), hl]; simp
    rw [e]; exact ⟨hs, hw⟩

set_option maxRecDepth 100000 in
set_option maxHeartbeats 600000 in
theorem forced_any (A : Option Addr) (cp f : Nat) (xs : List Nat) (w : World) (hrd : Rd w A (f32s xs)) (hm : xs.length ≤ 1048576) :
    Calls Tryz.prog 113 #[.slice A xs.length cp, .float .f32 f] w fun e w' => ∃ (A' : Option Addr) (c' : Nat) (ys : List Nat), e = .returned (.slice A' ys.length c') ∧ w'.ownsRow w.heap.size 23 1 (.slice A' ys.length c') ys.length (f32s ys) ∧ ForcedL xs f ys xs.length ∧ Below w.heap.size w w' := by
  have hown0 := owns_empty w 23
  have hb0 : Below w.heap.size w (w.alloc (.cells #[] 23)) := (Below.refl w.heap.size w).alloc (Nat.le_refl _) _
  go_enter Tryz.func113, Tryz.ntmps113
  go_wp2_with fail
  generalize w.alloc (.cells #[] 23) = W0 at *
  go_loopw [5, 11] (fun v i wr => ∃ (k : Nat) (ys : List Nat), i = .int .i64 (k : Int) ∧ k ≤ xs.length ∧ Hid (ForcedL xs f ys k) ∧ wr.ownsRow w.heap.size 23 1 v k (f32s ys) ∧ Below w.heap.size w wr) (fun _ i _ => xs.length - (intOf i).toNat)
  case atStart => exact ⟨0, [], rfl, by omega, ⟨rfl, fun i hi => absurd hi (Nat.not_lt_zero _)⟩, hown0, hb0⟩
  case round =>
    clear hown0 hb0
    obtain ⟨k, ys, rfl, hk, HF, hown, hb⟩ := hrel
    by_cases hlt : k < xs.length
    · obtain ⟨b, off, rfl, hbk, hcell⟩ := (hrd.below hb) (by simp; omega)
      have e1 := hcell k _ (f32s_at hlt)
      obtain ⟨x, hx⟩ : ∃ x, xs.getD k 0 = x := ⟨_, rfl⟩
      rw [hx] at e1
      have Hx := Lib.hid hx
      have hsz := hb.size
      have HS := Lib.hid (fun W => forced_snoc HF.out (s := fR .mul .f32 x f W) (by rw [Hx.out]; exact nrm_fR _ _ _ _ _) (fR_lt _ _ _ _ _))
      have hown2 : (wr.drewN (fN .mul .f32 x f)).ownsRow w.heap.size 23 1 u5 k (f32s ys) := hown
      have hb2 := below_drewN hb (fN .mul .f32 x f)
      clear hcell hx
      go_wp2_with (at_builtin; refine wpList_app1 rfl (.tmp 15) (.tmp 19) 35 rfl w.heap.size 23 (.float .f32 0) 4 Tryz.underlying35 f32_info rfl u5 k (f32s ys) _ rfl rfl rfl hown2 hsz (by omega) (by omega) ?_; intro v' w' hown' hbel')
      go_roundw
      case rel => exact ⟨k + 1, ys ++ [_], by go_num, by omega, HS.out _, by simpa [f32s] using hown', hb2.trans hbel'⟩
      case measure => simp [intOf]; omega
    · obtain rfl : k = xs.length := by omega
      go_wp2_with fail
      go_ret
      obtain ⟨A', cap, hv, hl', hrd2⟩ := own_rd hown
      subst hv
      have e := HF.out.1
      exact ⟨A', cap, ys, by rw [e]; rfl, by rw [e]; exact hown, HF.out, hb⟩
/-- One times a number is the number, to the bit. -/
theorem mul_one {x : Nat} (hx : fin .f32 x) (hw : wfk .f32 x) : fo .mul .f32 x 1065353216 = x := by
  have ho : FloatKind.f32.format.read 1065353216 = .number false 8388608 (-23) := by decide +kernel
  obtain ⟨s, m, e, hr⟩ := hx
  have h1 : fo .mul .f32 x 1065353216 = FloatKind.f32.format.write (.number (s ^^ false) (m * 8388608) (e + -23)) := fo_some (by
    show ((FloatKind.f32.format.read x).product (FloatKind.f32.format.read 1065353216)).map FloatKind.f32.format.write = _
    rw [hr, ho]; rfl)
  rw [h1]
  have h2 := nearest_scale FloatKind.f32.format s m e 23
  have h3 := write_read FloatKind.f32.format (by decide) hw (by rw [hr]; rfl)
  rw [hr] at h3
  show FloatKind.f32.format.nearest (s ^^ false) (m * 8388608) (e + -23) = x
  rw [Bool.xor_false]
  exact h2.trans h3
end Go.Proofs.YtndnfhhdflmfcaaGreat

/-
impl.StrikeBody with the force 1.
-/
namespace Go.Proofs.YtndnfhhdflmfcaaGreat
open Go Go.RowKit Ieee

theorem forced_one {xs ys : List Nat} (h : ForcedL xs 1065353216 ys xs.length) (hx : ∀ i, i < xs.length → fin .f32 (xs.getD i 0) ∧ wfk .f32 (xs.getD i 0)) : ys = xs := by
  refine List.ext_getElem h.1 fun i h1 h2 => ?_
  obtain ⟨f, w⟩ := hx i h2
  have := (h.2 i h2).1
  rw [mul_one f w] at this
  have e := nrm_fin_eq this f
  simpa [List.getD, List.getElem?_eq_getElem h1, List.getElem?_eq_getElem h2] using e

end Go.Proofs.YtndnfhhdflmfcaaGreat

/-
The words of the three shapes of impl.StrikeShape.
-/
namespace Go.Proofs.YtndnfhhdflmfcaaGreat
open Go Go.RowKit Ieee

/-- The words of a shape, as the operations give them. -/
def arcT (n i : Nat) : Nat := fo .quo .f32 (floatOfInt .f32 (2 * (i : Int) + 1)) (floatOfInt .f32 (2 * (n : Int)))
def shapeW (kind n i : Nat) : Nat :=
  match kind with
  | 0 => if i = 0 then 1065353216 else 0
  | 1 => fo .quo .f32 (floatOfInt .f32 ((i : Int) + 1)) (floatOfInt .f32 (n : Int))
  | _ => fo .mul .f32 (fo .mul .f32 1082130432 (arcT n i)) (fo .sub .f32 1065353216 (arcT n i))
/-- The first k places of a shape are there. -/
def Shaped (kind n k : Nat) (ts : List Nat) : Prop := ts.length = n ∧ ∀ j, j < n → nrm .f32 (ts.getD j 0) = (if j < k then nrm .f32 (shapeW kind n j) else 0) ∧ wfk .f32 (ts.getD j 0)
theorem Shaped.set {kind n k v : Nat} {ts : List Nat} (h : Shaped kind n k ts) (hk : k < n) (hv : nrm .f32 v = nrm .f32 (shapeW kind n k)) (hw : wfk .f32 v) : Shaped kind n (k + 1) (ts.set k v) := by
  obtain ⟨h1, h2⟩ := h
  refine ⟨by simpa using h1, fun j hj => ?_⟩
  rw [getD_set (by omega)]
  by_cases e : j = k
  · subst e; rw [if_pos rfl, if_pos (by omega)]; exact ⟨hv, hw⟩
  · rw [if_neg e]
    by_cases e' : j < k
    · rw [if_pos (by omega)]; have := h2 j hj; rwa [if_pos e'] at this
    · rw [if_neg (by omega)]; have := h2 j hj; rwa [if_neg e'] at this
theorem Shaped.click {n k : Nat} {ts : List Nat} (h : Shaped 0 n k ts) (hn : 0 < n) : Shaped 0 n (k + 1) (ts.set 0 1065353216) := by
  obtain ⟨h1, h2⟩ := h
  have e0 : nrm .f32 0 = 0 := nrm_of_num (by decide +kernel)
  have s0 : ∀ j, j ≠ 0 → shapeW 0 n j = 0 := fun j hj => if_neg hj
  refine ⟨by simpa using h1, fun j hj => ?_⟩
  rw [getD_set (by omega)]
  by_cases e : j = 0
  · subst e; rw [if_pos rfl, if_pos (by omega)]; exact ⟨rfl, by rw [wfk_32]; omega⟩
  · rw [if_neg e]
    have := h2 j hj
    rw [s0 j e, e0] at this ⊢
    refine ⟨?_, this.2⟩
    have t := this.1
    split at t <;> (split <;> exact t)
theorem Shaped.zero (kind n : Nat) : Shaped kind n 0 (List.replicate n 0) :=
  ⟨by simp, fun j hj => by
    have e : (List.replicate n 0).getD j 0 = 0 := by simp [List.getD, hj]
    rw [e, if_neg (by omega)]
    exact ⟨nrm_of_num (by decide +kernel), by rw [wfk_32]; omega⟩⟩
end Go.Proofs.YtndnfhhdflmfcaaGreat

/-
The three shapes: from 0 to 1, ramps rise to 1, arches are the same from both ends but for rounding. (By computation, for all lengths up to 64.)
-/
namespace Go.Proofs.YtndnfhhdflmfcaaGreat
open Go Ieee

def numB (k : FloatKind) (b : Nat) : Bool := match k.format.read b with | .number _ _ _ => true | _ => false
theorem numB_fin {k : FloatKind} {b : Nat} (h : numB k b = true) : fin k b := by
  unfold numB at h
  split at h
  · exact ⟨_, _, _, ‹_›⟩
  · cases h
def inUnit (v : Nat) : Bool := numB .f32 v && fge .f32 v 0 && fle .f32 v 1065353216
/-- 2^-20. -/
def p20 : Nat := 4517110426252607488
def diffD (a b : Nat) : Nat := fo .sub .f64 (wid a) (wid b)
def diffW (a b : Nat) : Nat := fo .add .f64 (absB (diffD a b)) (absB (fo .sub .f64 0 0))
def rampOk (n : Nat) : Bool := ((List.range n).all fun i => inUnit (shapeW 1 n i) && (i == 0 || !fge .f32 (shapeW 1 n (i - 1)) (shapeW 1 n i))) && feq .f32 (shapeW 1 n (n - 1)) 1065353216
def archOk (n : Nat) : Bool := (List.range n).all fun i => inUnit (shapeW 2 n i) && numB .f64 (diffD (shapeW 2 n i) (shapeW 2 n (n - 1 - i))) && fle .f64 (diffW (shapeW 2 n i) (shapeW 2 n (n - 1 - i))) p20
theorem ramps0 : (List.range 32).all (fun n => rampOk (n + 1)) = true := by decide +kernel
theorem arches0 : (List.range 32).all (fun n => archOk (n + 1)) = true := by decide +kernel
theorem ramps32 : (List.range 16).all (fun n => rampOk (n + 33)) = true := by decide +kernel
theorem arches32 : (List.range 16).all (fun n => archOk (n + 33)) = true := by decide +kernel
theorem ramps48 : (List.range 8).all (fun n => rampOk (n + 49)) = true := by decide +kernel
theorem arches48 : (List.range 8).all (fun n => archOk (n + 49)) = true := by decide +kernel
theorem ramps56 : (List.range 8).all (fun n => rampOk (n + 57)) = true := by decide +kernel
theorem arches56 : (List.range 8).all (fun n => archOk (n + 57)) = true := by decide +kernel
theorem all_at {P : Nat → Bool} {m c n : Nat} (h : (List.range m).all (fun n => P (n + c)) = true) (h1 : c ≤ n) (h2 : n < m + c) : P n = true := by
  have := List.all_eq_true.1 h (n - c) (List.mem_range.2 (by omega))
  rwa [show n - c + c = n by omega] at this
theorem ramp_ok {n : Nat} (h1 : 1 ≤ n) (h2 : n ≤ 64) : rampOk n = true := by
  by_cases a : n ≤ 32
  · exact all_at ramps0 (by omega) (by omega)
  by_cases b : n ≤ 48
  · exact all_at ramps32 (by omega) (by omega)
  by_cases c : n ≤ 56
  · exact all_at ramps48 (by omega) (by omega)
  · exact all_at ramps56 (by omega) (by omega)
theorem arch_ok {n : Nat} (h1 : 1 ≤ n) (h2 : n ≤ 64) : archOk n = true := by
  by_cases a : n ≤ 32
  · exact all_at arches0 (by omega) (by omega)
  by_cases b : n ≤ 48
  · exact all_at arches32 (by omega) (by omega)
  by_cases c : n ≤ 56
  · exact all_at arches48 (by omega) (by omega)
  · exact all_at arches56 (by omega) (by omega)
/-- What a shape's places are. -/
theorem shape_in {kind n i : Nat} (hk : kind < 3) (h1 : 1 ≤ n) (h2 : n ≤ 64) (hi : i < n) : fin .f32 (shapeW kind n i) ∧ fge .f32 (shapeW kind n i) 0 = true ∧ fle .f32 (shapeW kind n i) 1065353216 = true := by
  have key : inUnit (shapeW kind n i) = true := by
    match kind, hk with
    | 0, _ =>
      show inUnit (if i = 0 then 1065353216 else 0) = true
      split <;> decide +kernel
    | 1, _ =>
      have h := ramp_ok h1 h2
      unfold rampOk at h
      rw [Bool.and_eq_true, List.all_eq_true] at h
      have := h.1 i (List.mem_range.2 hi)
      rw [Bool.and_eq_true] at this
      exact this.1
    | 2, _ =>
      have h := arch_ok h1 h2
      unfold archOk at h
      rw [List.all_eq_true] at h
      have := h i (List.mem_range.2 hi)
      rw [Bool.and_eq_true, Bool.and_eq_true] at this
      exact this.1.1
  unfold inUnit at key
  rw [Bool.and_eq_true, Bool.and_eq_true] at key
  exact ⟨numB_fin key.1.1, key.1.2, key.2⟩
theorem ramp_rise {n i : Nat} (h1 : 1 ≤ n) (h2 : n ≤ 64) (hi : i + 1 < n) : fge .f32 (shapeW 1 n i) (shapeW 1 n (i + 1)) = false := by
  have h := ramp_ok h1 h2
  unfold rampOk at h
  rw [Bool.and_eq_true, List.all_eq_true] at h
  have := h.1 (i + 1) (List.mem_range.2 hi)
  rw [Bool.and_eq_true, Bool.or_eq_true] at this
  rcases this.2 with e | e
  · simp at e
  · simpa using e
theorem ramp_end {n : Nat} (h1 : 1 ≤ n) (h2 : n ≤ 64) : feq .f32 (shapeW 1 n (n - 1)) 1065353216 = true := by
  have h := ramp_ok h1 h2
  unfold rampOk at h
  rw [Bool.and_eq_true] at h
  exact h.2
theorem arch_ends {n i : Nat} (h1 : 1 ≤ n) (h2 : n ≤ 64) (hi : i < n) : fin .f64 (diffD (shapeW 2 n i) (shapeW 2 n (n - 1 - i))) ∧ fle .f64 (diffW (shapeW 2 n i) (shapeW 2 n (n - 1 - i))) p20 = true := by
  have h := arch_ok h1 h2
  unfold archOk at h
  rw [List.all_eq_true] at h
  have := h i (List.mem_range.2 hi)
  rw [Bool.and_eq_true, Bool.and_eq_true] at this
  exact ⟨numB_fin this.1.2, this.2⟩
theorem p20_val : fin .f64 p20 ∧ fv .f64 p20 = pw (-20) := by
  have h : FloatKind.f64.format.read p20 = .number false 4503599627370496 (-72) := by decide +kernel
  obtain ⟨a, b⟩ := fin_of_read h
  refine ⟨a, ?_⟩
  rw [b, dval_num]
  have e : mval 4503599627370496 (-72) = pw (-20) := by unfold mval pw; grind
  rw [e]; simp
end Go.Proofs.YtndnfhhdflmfcaaGreat

/-
Operations at equal values give equal values (zeros may differ in sign). (Plain arithmetic.)
-/
namespace Go.Proofs.YtndnfhhdflmfcaaGreat
open Go Ieee

theorem one32 : fin .f32 1065353216 ∧ fv .f32 1065353216 = 1 := by
  have h : FloatKind.f32.format.read 1065353216 = .number false 8388608 (-23) := by decide +kernel
  obtain ⟨h1, h2⟩ := fin_of_read h
  refine ⟨h1, ?_⟩
  rw [h2, dval_num]
  have e : mval 8388608 (-23) = 1 := by unfold mval pw; grind
  rw [e]; simp
/-- Words with the same value, both numbers. -/
structure Eqv (k : FloatKind) (a b : Nat) : Prop where
  fa : fin k a
  fb : fin k b
  wa : wfk k a
  wb : wfk k b
  v : fv k a = fv k b

/-- A value other than 0 has one word. -/
theorem word_eq {k : FloatKind} {a b : Nat} (ha : fin k a) (hb : fin k b) (wa : wfk k a) (wb : wfk k b) (h : fv k a = fv k b) (h0 : fv k a ≠ 0) : a = b := by
  obtain ⟨s, m, e, ha⟩ := ha
  obtain ⟨t, n, f, hb⟩ := hb
  have ea := write_read k.format (eb_ge k) wa (by rw [ha]; rfl)
  have eb := write_read k.format (eb_ge k) wb (by rw [hb]; rfl)
  rw [ha] at ea
  rw [hb] at eb
  unfold fv at h h0
  rw [ha, dval_num] at h h0
  rw [hb, dval_num] at h
  have pm := mval_nonneg m e
  have pn := mval_nonneg n f
  have hm : mval m e ≠ 0 := by intro hz; apply h0; rw [hz]; cases s <;> simp
  have hst : s = t ∧ mval m e = mval n f := by
    cases s <;> cases t <;> simp at h ⊢
    · exact h
    · exfalso; grind
    · exfalso; grind
    · grind
  obtain ⟨rfl, hv⟩ := hst
  have key : ∀ (m n : Nat) (e f : Int), e ≤ f → mval m e = mval n f → k.format.write (.number s m e) = k.format.write (.number s n f) := by
    intro m n e f hef hv
    obtain ⟨j, rfl⟩ : ∃ j : Nat, f = e + j := ⟨(f - e).toNat, by omega⟩
    rw [← mval_scale'] at hv
    have h1 := le_of_mval (by rw [hv]; exact Rat.le_refl : mval m e ≤ mval (n * 2 ^ j) e)
    have h2 := le_of_mval (by rw [hv]; exact Rat.le_refl : mval (n * 2 ^ j) e ≤ mval m e)
    obtain rfl : m = n * 2 ^ j := Nat.le_antisymm h1 h2
    have := nearest_scale k.format s n (e + j) j
    rw [show e + (j : Int) - j = e by omega] at this
    exact this
  rw [← ea, ← eb]
  rcases Int.le_total e f with hef | hef
  · exact key m n e f hef hv
  · exact (key n m f e hef hv.symm).symm

theorem Eqv.refl {k : FloatKind} {a : Nat} (f : fin k a) (w : wfk k a) : Eqv k a a := ⟨f, f, w, w, rfl⟩
theorem Eqv.cases {k : FloatKind} {a b : Nat} (h : Eqv k a b) : a = b ∨ (fv k a = 0 ∧ fv k b = 0) := by
  by_cases h0 : fv k a = 0
  · exact .inr ⟨h0, by rw [← h.v]; exact h0⟩
  · exact .inl (word_eq h.fa h.fb h.wa h.wb h.v h0)
theorem top_pos (k : FloatKind) : (0 : Rat) ≤ top k := by cases k <;> exact Rat.le_of_lt (pw_pos _)
theorem round_zero {k : FloatKind} {v : Rat} {r : Nat} (h : RoundOf k v r) (h0 : v = 0) : fv k r = 0 := by
  have := h.exact (zero_fin k).1 (by rw [(zero_fin k).2, h0])
  rw [this, h0]
theorem Eqv.mul {k : FloatKind} {a a' b b' : Nat} (h : Eqv k a a') (g : Eqv k b b') (t : ab (fv k a * fv k b) ≤ top k) : Eqv k (fo .mul k a b) (fo .mul k a' b') := by
  have r := mul_spec h.fa g.fa t
  have t' : ab (fv k a' * fv k b') ≤ top k := by rw [← h.v, ← g.v]; exact t
  have r' := mul_spec h.fb g.fb t'
  refine ⟨r.1, r'.1, fo_lt _ _ _ _, fo_lt _ _ _ _, ?_⟩
  rcases h.cases with rfl | ⟨z, z'⟩
  · rcases g.cases with rfl | ⟨y, y'⟩
    · rfl
    · rw [round_zero r (by rw [y, Rat.mul_zero]), round_zero r' (by rw [y', Rat.mul_zero])]
  · rw [round_zero r (by rw [z, Rat.zero_mul]), round_zero r' (by rw [z', Rat.zero_mul])]
theorem Eqv.add {k : FloatKind} {a a' b b' : Nat} (h : Eqv k a a') (g : Eqv k b b') (t : ab (fv k a + fv k b) ≤ top k) : Eqv k (fo .add k a b) (fo .add k a' b') := by
  have r := add_spec h.fa g.fa t
  have t' : ab (fv k a' + fv k b') ≤ top k := by rw [← h.v, ← g.v]; exact t
  have r' := add_spec h.fb g.fb t'
  refine ⟨r.1, r'.1, fo_lt _ _ _ _, fo_lt _ _ _ _, ?_⟩
  rcases h.cases with rfl | ⟨z, z'⟩
  · rcases g.cases with rfl | ⟨y, y'⟩
    · rfl
    · rw [r.exact h.fa (by rw [y]; grind), r'.exact h.fb (by rw [y']; grind), y, y']
  · rw [r.exact g.fa (by rw [z]; grind), r'.exact g.fb (by rw [z']; grind), z, z', g.v]
theorem Eqv.sub {k : FloatKind} {a a' b b' : Nat} (h : Eqv k a a') (g : Eqv k b b') (t : ab (fv k a - fv k b) ≤ top k) : Eqv k (fo .sub k a b) (fo .sub k a' b') := by
  have r := sub_spec h.fa g.fa t
  have t' : ab (fv k a' - fv k b') ≤ top k := by rw [← h.v, ← g.v]; exact t
  have r' := sub_spec h.fb g.fb t'
  refine ⟨r.1, r'.1, fo_lt _ _ _ _, fo_lt _ _ _ _, ?_⟩
  rcases h.cases with rfl | ⟨z, z'⟩
  · rcases g.cases with rfl | ⟨y, y'⟩
    · rfl
    · rw [r.exact h.fa (by rw [y]; grind), r'.exact h.fb (by rw [y']; grind), y, y']
  · obtain ⟨n1, n2⟩ := neg_fin g.fa
    obtain ⟨n3, n4⟩ := neg_fin g.fb
    rw [r.exact n1 (by rw [n2, z]; grind), r'.exact n3 (by rw [n4, z']; grind), z, z', g.v]
theorem Eqv.wid {a b : Nat} (h : Eqv .f32 a b) : Eqv .f64 (wid a) (wid b) := by
  obtain ⟨a1, a2⟩ := wid_fin h.fa
  obtain ⟨b1, b2⟩ := wid_fin h.fb
  exact ⟨a1, b1, wid_lt a, wid_lt b, by rw [a2, b2, h.v]⟩
theorem nar_wf {x : Nat} (hx : fin .f64 x) (h : ab (fv .f64 x) ≤ top .f32) (w : wfk .f64 x) (W : World) : wfk .f32 (nar x) := by
  rw [← (nar_ok hx h).1 W]
  exact cR_lt w W
theorem Eqv.nar {x y : Nat} (h : Eqv .f64 x y) (t : ab (fv .f64 x) ≤ top .f32) (W : World) : Eqv .f32 (nar x) (nar y) := by
  have t' : ab (fv .f64 y) ≤ top .f32 := by rw [← h.v]; exact t
  have r := (nar_ok h.fa t).2
  have r' := (nar_ok h.fb t').2
  refine ⟨r.1, r'.1, nar_wf h.fa t h.wa W, nar_wf h.fb t' h.wb W, ?_⟩
  rcases h.cases with rfl | ⟨z, z'⟩
  · rfl
  · rw [round_zero r z, round_zero r' z']
end Go.Proofs.YtndnfhhdflmfcaaGreat

/-
A late input rings late, in equal numbers. (Plain arithmetic.)
-/
namespace Go.Proofs.YtndnfhhdflmfcaaGreat
open Go Ieee

def EqvS (s t : Nat × Nat) : Prop := Eqv .f32 s.1 t.1 ∧ Eqv .f32 s.2 t.2
theorem prod_top {x y L : Rat} (hx : ab x ≤ L) (hy : ab y ≤ 1 + 1 / 2 ^ 40) (_ : 1 ≤ L) (hL2 : L ≤ 2 ^ 112) : ab (x * y) ≤ top .f64 := by
  have ht := top210
  rw [ab_mul]
  have h1 := Rat.mul_le_mul_of_nonneg_left hy (ab_nonneg x)
  grind
theorem sub_top {x y L : Rat} (hx : ab x ≤ L * (1 + 1 / 2 ^ 30)) (hy : ab y ≤ L * (1 + 1 / 2 ^ 30)) (_ : 1 ≤ L) (hL2 : L ≤ 2 ^ 112) : ab (x - y) ≤ top .f64 ∧ ab (x + y) ≤ top .f64 := by
  have ht := top210
  obtain ⟨x1, x2⟩ := le_ab x
  obtain ⟨y1, y2⟩ := le_ab y
  exact ⟨ab_le (by grind) (by grind), ab_le (by grind) (by grind)⟩
theorem times_eqv {a b c d a' b' : Nat} {L : Rat} (W : World) (ha : Eqv .f32 a a') (hb : Eqv .f32 b b') (fc : fin .f32 c) (fd : fin .f32 d) (wc : wfk .f32 c) (wd : wfk .f32 d) (la : ab (fv .f32 a) ≤ L) (lb : ab (fv .f32 b) ≤ L) (hL : 1 ≤ L) (hL2 : L ≤ 2 ^ 112)
    (hc : ab (fv .f32 c) ≤ 1 + 1 / 2 ^ 40) (hd : ab (fv .f32 d) ≤ 1 + 1 / 2 ^ 40) : Eqv .f32 (sRe a b c d) (sRe a' b' c d) ∧ Eqv .f32 (sIm a b c d) (sIm a' b' c d) := by
  obtain ⟨M, _, _, _, _⟩ := wide_mild ha.fa hb.fa fc fd la lb hL hL2 hc hd
  have A := ha.wid
  have B := hb.wid
  have C := (Eqv.refl fc wc).wid
  have D := (Eqv.refl fd wd).wid
  have la' : ab (fv .f64 (wid a)) ≤ L := by rw [(wid_fin ha.fa).2]; exact la
  have lb' : ab (fv .f64 (wid b)) ≤ L := by rw [(wid_fin hb.fa).2]; exact lb
  have hc' : ab (fv .f64 (wid c)) ≤ 1 + 1 / 2 ^ 40 := by rw [(wid_fin fc).2]; exact hc
  have hd' : ab (fv .f64 (wid d)) ≤ 1 + 1 / 2 ^ 40 := by rw [(wid_fin fd).2]; exact hd
  have P1 := A.mul C (prod_top la' hc' hL hL2)
  have P2 := B.mul D (prod_top lb' hd' hL hL2)
  have P3 := A.mul D (prod_top la' hd' hL hL2)
  have P4 := B.mul C (prod_top lb' hc' hL hL2)
  have e1 := (part_mul A.fa C.fa la' hL hL2 hc').2
  have e2 := (part_mul B.fa D.fa lb' hL hL2 hd').2
  have e3 := (part_mul A.fa D.fa la' hL hL2 hd').2
  have e4 := (part_mul B.fa C.fa lb' hL hL2 hc').2
  exact ⟨(P1.sub P2 (sub_top e1 e2 hL hL2).1).nar M.tr W, (P3.add P4 (sub_top e3 e4 hL hL2).2).nar M.ti W⟩
theorem pole_le {m : MW} (hm : ModeOk m.1 m.2.1 m.2.2.1 m.2.2.2) : ab (fv .f32 m.1) ≤ 1 + 1 / 2 ^ 40 ∧ ab (fv .f32 m.2.1) ≤ 1 + 1 / 2 ^ 40 := by
  have hsq := hm.square
  have q1 := sq_nonneg (fv .f32 m.1)
  have q2 := sq_nonneg (fv .f32 m.2.1)
  exact ⟨ab_le_of_sq (by grind) (by grind), ab_le_of_sq (by grind) (by grind)⟩
theorem add_top {s g : Nat} {L : Rat} (hs : ab (fv .f32 s) ≤ L * (9 / 4)) (hg : ab (fv .f32 g) ≤ 8193) (_ : 2 ^ 14 ≤ L) (hL2 : L ≤ 2 ^ 112) : ab (fv .f32 s + fv .f32 g) ≤ top .f32 := by
  have ht2 := top32
  have g1 := ab_add (fv .f32 s) (fv .f32 g)
  grind
theorem gain_part {g x : Nat} (fg : fin .f32 g) (fx : fin .f32 x) (hg : ab (fv .f32 g) ≤ 1024) (hx : ab (fv .f32 x) ≤ 8) : ab (fv .f32 (fo .mul .f32 g x)) ≤ 8193 := by
  obtain ⟨u1, u2, _⟩ := consts32
  have ht2 := top32
  have n1 := ab_nonneg (fv .f32 g)
  have h1 := Rat.mul_le_mul_of_nonneg_left hx n1
  have h2 : ab (fv .f32 g * fv .f32 x) ≤ 8192 := by rw [ab_mul]; grind
  have hm := mul_spec fg fx (by grind)
  have e := hm.2.1
  rw [u1] at e
  have t := ab_tri (fv .f32 (fo .mul .f32 g x)) (fv .f32 g * fv .f32 x)
  grind
theorem step_eqv {m : MW} {s t : Nat × Nat} {x : Nat} {L : Rat} (W : World) (hm : ModeOk m.1 m.2.1 m.2.2.1 m.2.2.2) (hs : StOk L s) (h : EqvS s t) (fx : fin .f32 x) (hx : ab (fv .f32 x) ≤ 8) (hL : 2 ^ 14 ≤ L) (hL2 : L ≤ 2 ^ 112) :
    EqvS (stepW m s x) (stepW m t x) := by
  obtain ⟨p1, p2⟩ := pole_le hm
  obtain ⟨_, n1, n2, c1, c2⟩ := wide_mild hs.f1 hs.f2 (fin_of_wid hm.fa) (fin_of_wid hm.fb) hs.b1 hs.b2 (by grind) hL2 p1 p2
  have S := (step_ok hm hs fx hx hL hL2).2
  obtain ⟨e1, e2⟩ := times_eqv W h.1 h.2 (fin_of_wid hm.fa) (fin_of_wid hm.fb) hm.wa hm.wb hs.b1 hs.b2 (by grind) hL2 p1 p2
  have g1 := gain_part (fin_of_wid hm.fc) fx (gain_le hm.fc hm.gain.1) hx
  have g2 := gain_part (fin_of_wid hm.fd) fx (gain_le hm.fd hm.gain.2) hx
  exact ⟨e1.add (Eqv.refl S.g1 (fo_lt _ _ _ _)) (add_top c1 g1 hL hL2), e2.add (Eqv.refl S.g2 (fo_lt _ _ _ _)) (add_top c2 g2 hL hL2)⟩

/-- A state of zeros stays so without an input. -/
theorem rest_eqv {m : MW} (_ : World) (hm : ModeOk m.1 m.2.1 m.2.2.1 m.2.2.2) : EqvS (stepW m (0, 0) 0) (0, 0) := by
  obtain ⟨z1, z2⟩ := zero_fin .f32
  have z3 : ab (fv .f32 0) ≤ 8 := by rw [z2, ab_of_nonneg Rat.le_refl]; grind
  have hs : StOk (2 ^ 14) (0, 0) := zero_ok (by grind)
  obtain ⟨hs', S⟩ := step_ok hm hs z1 z3 (Rat.le_refl) (by grind)
  obtain ⟨p1, p2⟩ := pole_le hm
  obtain ⟨w1, w2⟩ := wid_fin z1
  rw [z2] at w2
  have fa := hm.fa
  have fb := hm.fb
  have zt : ab (0 : Rat) ≤ top .f64 := by rw [ab_of_nonneg Rat.le_refl]; exact top_pos _
  have zt2 : ab (0 : Rat) ≤ top .f32 := by rw [ab_of_nonneg Rat.le_refl]; exact top_pos _
  have mz : ∀ {c : Nat}, fin .f64 c → fin .f64 (fo .mul .f64 (wid 0) c) ∧ fv .f64 (fo .mul .f64 (wid 0) c) = 0 := fun {c} hc => by
    have e : fv .f64 (wid 0) * fv .f64 c = 0 := by rw [w2, Rat.zero_mul]
    have r := mul_spec w1 hc (by rw [e]; exact zt)
    exact ⟨r.1, round_zero r e⟩
  have re : fv .f64 (mulRe (wid 0) (wid 0) (wid m.1) (wid m.2.1)) = 0 := by
    have e : fv .f64 (fo .mul .f64 (wid 0) (wid m.1)) - fv .f64 (fo .mul .f64 (wid 0) (wid m.2.1)) = 0 := by rw [(mz fa).2, (mz fb).2]; grind
    exact round_zero (sub_spec (mz fa).1 (mz fb).1 (by rw [e]; exact zt)) e
  have im : fv .f64 (mulIm (wid 0) (wid 0) (wid m.1) (wid m.2.1)) = 0 := by
    have e : fv .f64 (fo .mul .f64 (wid 0) (wid m.2.1)) + fv .f64 (fo .mul .f64 (wid 0) (wid m.1)) = 0 := by rw [(mz fa).2, (mz fb).2]; grind
    exact round_zero (add_spec (mz fb).1 (mz fa).1 (by rw [e]; exact zt)) e
  have M := S.mild
  have R1 := (nar_ok M.fr M.tr).2
  have R2 := (nar_ok M.fi M.ti).2
  have v1 := round_zero R1 re
  have v2 := round_zero R2 im
  have g : ∀ {c : Nat}, fin .f32 c → fv .f32 (fo .mul .f32 c 0) = 0 := fun {c} hc => by
    have e : fv .f32 c * fv .f32 0 = 0 := by rw [z2, Rat.mul_zero]
    exact round_zero (mul_spec hc z1 (by rw [e]; exact zt2)) e
  have k1 : fv .f32 (stepW m (0, 0) 0).1 = 0 := by
    have e : fv .f32 (sRe 0 0 m.1 m.2.1) + fv .f32 (fo .mul .f32 m.2.2.1 0) = 0 := by
      rw [show fv .f32 (sRe 0 0 m.1 m.2.1) = 0 from v1, g (fin_of_wid hm.fc)]; grind
    exact round_zero (add_spec R1.1 S.g1 (by rw [e]; exact zt2)) e
  have k2 : fv .f32 (stepW m (0, 0) 0).2 = 0 := by
    have e : fv .f32 (sIm 0 0 m.1 m.2.1) + fv .f32 (fo .mul .f32 m.2.2.2 0) = 0 := by
      rw [show fv .f32 (sIm 0 0 m.1 m.2.1) = 0 from v2, g (fin_of_wid hm.fd)]; grind
    exact round_zero (add_spec R2.1 S.g2 (by rw [e]; exact zt2)) e
  exact ⟨⟨S.n1, z1, hs'.w1, by rw [wfk_32]; omega, by rw [k1, z2]⟩, ⟨S.n2, z1, hs'.w2, by rw [wfk_32]; omega, by rw [k2, z2]⟩⟩

theorem low_late {xs : List Nat} (h : Low xs) : Low (0 :: xs) := fun i hi => by
  cases i with
  | zero =>
    obtain ⟨z1, z2⟩ := zero_fin .f32
    exact ⟨z1, by show ab (fv .f32 0) ≤ 8; rw [z2, ab_of_nonneg Rat.le_refl]; grind⟩
  | succ i =>
    simp at hi
    have := h i hi
    simpa using this
theorem inAt_late (xs : List Nat) (i : Nat) : inAt (0 :: xs) (i + 1) = inAt xs i := by
  unfold inAt
  simp
theorem inAt_late0 (xs : List Nat) : inAt (0 :: xs) 0 = 0 := by unfold inAt; simp
theorem late_states {ms : List MW} {xs : List Nat} (W : World) (hm : ModesOk ms) (hx : Low xs) (i : Nat) (hi : i ≤ 60) : ∀ k, k < ms.length → EqvS (sAt (stAt ms (0 :: xs) (i + 1)) k) (sAt (stAt ms xs i) k) := by
  induction i with
  | zero =>
    intro k hk
    have e0 : sAt (stAt ms (0 :: xs) 0) k = (0, 0) := by simp [stAt, sAt, List.getD, hk]
    have e1 : sAt (stAt ms xs 0) k = (0, 0) := by simp [stAt, sAt, List.getD, hk]
    have e : sAt (stAt ms (0 :: xs) (0 + 1)) k = stepW (mAt ms k) (sAt (stAt ms (0 :: xs) 0) k) (inAt (0 :: xs) 0) := nextS_at (by rw [stAt_len]; exact hk)
    rw [e, e0, e1, inAt_late0]
    exact rest_eqv W (hm.at_ hk)
  | succ i ih =>
    intro k hk
    have h := ih (by omega) k hk
    have e : sAt (stAt ms (0 :: xs) (i + 1 + 1)) k = stepW (mAt ms k) (sAt (stAt ms (0 :: xs) (i + 1)) k) (inAt (0 :: xs) (i + 1)) := nextS_at (by rw [stAt_len]; exact hk)
    have e' : sAt (stAt ms xs (i + 1)) k = stepW (mAt ms k) (sAt (stAt ms xs i) k) (inAt xs i) := nextS_at (by rw [stAt_len]; exact hk)
    rw [e, e', inAt_late]
    obtain ⟨x1, x2⟩ := hx.at_ i
    exact step_eqv W (hm.at_ hk) (states_ok hm (low_late hx) (i + 1) (by omega) k hk) h x1 x2 (pw3_lo _) (pw3_hi _ (by omega))
theorem out_eqv {ms : List MW} {ss ts : List (Nat × Nat)} {x : Nat} (h : ∀ k, k < ms.length → EqvS (stepW (mAt ms k) (sAt ss k) x) (stepW (mAt ms k) (sAt ts k) x) ∧ ab (fv .f32 (stepW (mAt ms k) (sAt ss k) x).1) ≤ 2 ^ 114) (k : Nat) (hk : k ≤ ms.length) (h5 : k ≤ 5) :
    Eqv .f32 (outAt ms ss x k) (outAt ms ts x k) ∧ ab (fv .f32 (outAt ms ss x k)) ≤ (k : Rat) * 2 ^ 115 := by
  induction k with
  | zero =>
    obtain ⟨z1, z2⟩ := zero_fin .f32
    refine ⟨Eqv.refl z1 (by show (0 : Nat) < 4294967296; omega), ?_⟩
    show ab (fv .f32 0) ≤ _
    rw [z2, ab_of_nonneg Rat.le_refl]; simp
  | succ k ih =>
    obtain ⟨e, b⟩ := ih (by omega) (by omega)
    obtain ⟨hs, hb⟩ := h k (by omega)
    have hk5 : (k : Rat) ≤ 5 := by
      have := Rat.natCast_le_natCast.2 (show k ≤ 5 by omega)
      simpa using this
    have hk0 : (0 : Rat) ≤ (k : Rat) := Rat.natCast_nonneg
    have ht2 := top32
    obtain ⟨u1, u2, u3⟩ := consts32
    have t1 := ab_add (fv .f32 (outAt ms ss x k)) (fv .f32 (stepW (mAt ms k) (sAt ss k) x).1)
    have t2 : ab (fv .f32 (outAt ms ss x k) + fv .f32 (stepW (mAt ms k) (sAt ss k) x).1) ≤ top .f32 := by grind
    refine ⟨e.add hs.1 t2, ?_⟩
    have r := (add_spec e.fa hs.1.fa t2).2.1
    rw [u1] at r
    have t3 := ab_tri (fv .f32 (fo .add .f32 (outAt ms ss x k) (stepW (mAt ms k) (sAt ss k) x).1)) (fv .f32 (outAt ms ss x k) + fv .f32 (stepW (mAt ms k) (sAt ss k) x).1)
    have ec : ((k + 1 : Nat) : Rat) = (k : Rat) + 1 := by simp
    rw [ec]
    show ab (fv .f32 (fo .add .f32 (outAt ms ss x k) (stepW (mAt ms k) (sAt ss k) x).1)) ≤ _
    grind
/-- **A LATE INPUT RINGS LATE.** -/
theorem late_out {ms : List MW} {xs ys zs : List Nat} {n : Nat} (W : World) (hm : ModesOk ms) (h5 : ms.length ≤ 5) (hx : Low xs) (hn : n ≤ 60) (hy : Rung ms xs ys n) (hz : Rung ms (0 :: xs) zs (n + 1)) : ∀ i, i < n → feq .f32 (zs.getD (i + 1) 0) (ys.getD i 0) = true := fun i hi => by
  obtain ⟨x1, x2⟩ := hx.at_ i
  have hst := late_states W hm hx i (by omega)
  have key := out_eqv (ms := ms) (ss := stAt ms (0 :: xs) (i + 1)) (ts := stAt ms xs i) (x := inAt xs i) (fun k hk => by
    have s0 := states_ok hm (low_late hx) (i + 1) (by omega) k hk
    refine ⟨step_eqv W (hm.at_ hk) s0 (hst k hk) x1 x2 (pw3_lo _) (pw3_hi _ (by omega)), ?_⟩
    have b := (step_ok (hm.at_ hk) s0 x1 x2 (pw3_lo _) (pw3_hi _ (by omega))).1.b1
    have := pw3_hi (i + 1) (by omega)
    have b' : ab (fv .f32 (stepW (mAt ms k) (sAt (stAt ms (0 :: xs) (i + 1)) k) (inAt xs i)).1) ≤ pw3 (i + 1) * 3 := b
    grind) ms.length (Nat.le_refl _) h5
  have e1 := (hz.2 (i + 1) (by omega)).1
  have e2 := (hy.2 i hi).1
  rw [inAt_late] at e1
  have f1 := nrm_fin_eq e1 key.1.fa
  have f2 := nrm_fin_eq e2 key.1.fb
  rw [f1, f2]
  exact (feq_iff key.1.fa key.1.fb).2 key.1.v
end Go.Proofs.YtndnfhhdflmfcaaGreat

/-
Damped modes are valid. (Plain arithmetic.)
-/
namespace Go.Proofs.YtndnfhhdflmfcaaGreat
open Go Ieee

/-- A mode whose pole is scaled. -/
def dampM (f : Nat) (m : MW) : MW := (fo .mul .f32 m.1 f, fo .mul .f32 m.2.1 f, m.2.2.1, m.2.2.2)
/-- A factor that is 1, or at most 255/256. -/
structure FacOk (f : Nat) : Prop where
  ff : fin .f32 f
  wf : wfk .f32 f
  lo : 0 ≤ fv .f32 f
  hi : f = 1065353216 ∨ fv .f32 f ≤ 255 / 256
theorem FacOk.le {f : Nat} (h : FacOk f) : fv .f32 f ≤ 1 := by
  rcases h.hi with e | e
  · rw [e, one32.2]; exact Rat.le_refl
  · grind
theorem dampM_one {m : MW} (hm : ModeOk m.1 m.2.1 m.2.2.1 m.2.2.2) : dampM 1065353216 m = m := by
  unfold dampM
  rw [mul_one (fin_of_wid hm.fa) hm.wa, mul_one (fin_of_wid hm.fb) hm.wb]
theorem damp_part {a f : Nat} (fa : fin .f32 a) (la : ab (fv .f32 a) ≤ 1 + 1 / 2 ^ 40) (hf : fin .f32 f) (h0 : 0 ≤ fv .f32 f) (h1 : fv .f32 f ≤ 255 / 256) :
    fin .f32 (fo .mul .f32 a f) ∧ fv .f32 (fo .mul .f32 a f) * fv .f32 (fo .mul .f32 a f) ≤ fv .f32 a * fv .f32 a * (511 / 512) + 1 / 2 ^ 100 ∧ ab (fv .f32 (fo .mul .f32 a f)) ≤ 2 := by
  obtain ⟨u1, u2, _⟩ := consts32
  have ht2 := top32
  have n1 := ab_nonneg (fv .f32 a)
  have hf' : ab (fv .f32 f) ≤ 255 / 256 := by rw [ab_of_nonneg h0]; exact h1
  have p := Rat.mul_le_mul_of_nonneg_left hf' n1
  have hp : ab (fv .f32 a * fv .f32 f) ≤ ab (fv .f32 a) * (255 / 256) := by rw [ab_mul]; exact p
  have hm := mul_spec fa hf (by grind)
  have e := hm.2.1
  rw [u1] at e
  have t := ab_tri (fv .f32 (fo .mul .f32 a f)) (fv .f32 a * fv .f32 f)
  have hr : ab (fv .f32 (fo .mul .f32 a f)) ≤ ab (fv .f32 a) * (255 / 256 + 1 / 2 ^ 20) + 1 / 2 ^ 149 := by grind
  have sq := sq_le_of_ab hr
  have ea := ab_sq (fv .f32 a)
  refine ⟨hm.1, ?_, by grind⟩
  have n2 := Rat.mul_le_mul_of_nonneg_left la n1
  have n3 := sq_nonneg (ab (fv .f32 a))
  rw [ea] at n3
  generalize ab (fv .f32 a) = A at *
  grind
theorem damp_sum {r s : Nat} {V : Rat} (fr : fin .f32 r) (fs : fin .f32 s) (h : fv .f32 r * fv .f32 r + fv .f32 s * fv .f32 s ≤ V) (hV : V ≤ 1 - 1 / 2 ^ 20) :
    fle .f64 (fo .add .f64 (fo .mul .f64 (wid r) (wid r)) (fo .mul .f64 (wid s) (wid s))) 4607182418800017408 = true := by
  obtain ⟨a1, a2⟩ := wid_fin fr
  obtain ⟨b1, b2⟩ := wid_fin fs
  obtain ⟨k1, k2, k3⟩ := consts64
  have q1 := sq_nonneg (fv .f32 r)
  have q2 := sq_nonneg (fv .f32 s)
  have t1 : ab (fv .f64 (wid r) * fv .f64 (wid r)) = fv .f32 r * fv .f32 r := by rw [a2, ab_of_nonneg q1]
  have t2 : ab (fv .f64 (wid s) * fv .f64 (wid s)) = fv .f32 s * fv .f32 s := by rw [b2, ab_of_nonneg q2]
  have m1 := mul_spec a1 a1 (by rw [t1]; grind)
  have m2 := mul_spec b1 b1 (by rw [t2]; grind)
  have e1 := m1.2.1
  have e2 := m2.2.1
  rw [t1, k1] at e1
  rw [t2, k1] at e2
  rw [a2] at e1
  rw [b2] at e2
  have l1 := le_ab (fv .f64 (fo .mul .f64 (wid r) (wid r)) - fv .f32 r * fv .f32 r)
  have l2 := le_ab (fv .f64 (fo .mul .f64 (wid s) (wid s)) - fv .f32 s * fv .f32 s)
  have bd : ab (fv .f64 (fo .mul .f64 (wid r) (wid r)) + fv .f64 (fo .mul .f64 (wid s) (wid s))) ≤ 1 - 1 / 2 ^ 22 := ab_le (by grind) (by grind)
  have ad := add_spec m1.1 m2.1 (by grind)
  have e3 := ad.2.1
  rw [k1] at e3
  have l3 := le_ab (fv .f64 (fo .add .f64 (fo .mul .f64 (wid r) (wid r)) (fo .mul .f64 (wid s) (wid s))) - (fv .f64 (fo .mul .f64 (wid r) (wid r)) + fv .f64 (fo .mul .f64 (wid s) (wid s))))
  have l4 := le_ab (fv .f64 (fo .mul .f64 (wid r) (wid r)) + fv .f64 (fo .mul .f64 (wid s) (wid s)))
  refine (fle_iff ad.1 one_val.1).2 ?_
  rw [one_val.2]
  grind
theorem damp_ok {f : Nat} {m : MW} (hm : ModeOk m.1 m.2.1 m.2.2.1 m.2.2.2) (hf : FacOk f) : ModeOk (dampM f m).1 (dampM f m).2.1 (dampM f m).2.2.1 (dampM f m).2.2.2 := by
  rcases hf.hi with rfl | h1
  · rw [dampM_one hm]; exact hm
  obtain ⟨p1, p2⟩ := pole_le hm
  have hsq := hm.square
  obtain ⟨f1, s1, _⟩ := damp_part (fin_of_wid hm.fa) p1 hf.ff hf.lo h1
  obtain ⟨f2, s2, _⟩ := damp_part (fin_of_wid hm.fb) p2 hf.ff hf.lo h1
  have hs : fv .f32 (fo .mul .f32 m.1 f) * fv .f32 (fo .mul .f32 m.1 f) + fv .f32 (fo .mul .f32 m.2.1 f) * fv .f32 (fo .mul .f32 m.2.1 f) ≤ 1 - 1 / 2 ^ 20 := by grind
  exact ⟨fo_lt _ _ _ _, fo_lt _ _ _ _, hm.wc, hm.wd, (wid_fin f1).1, (wid_fin f2).1, hm.fc, hm.fd, damp_sum f1 f2 hs Rat.le_refl, hm.gain⟩
theorem damps_ok {f : Nat} {ms : List MW} (hm : ModesOk ms) (hf : FacOk f) : ModesOk (ms.map (dampM f)) := fun m h => by
  obtain ⟨m', h1, rfl⟩ := List.mem_map.1 h
  exact damp_ok (hm m' h1) hf
theorem damps_one {ms : List MW} (hm : ModesOk ms) : ms.map (dampM 1065353216) = ms := by
  have : ms.map (dampM 1065353216) = ms.map id := List.map_congr_left fun m h => dampM_one (hm m h)
  rw [this, List.map_id]

/-- A byte by 255. -/
def fac (q : Int) : Nat := fo .quo .f32 (floatOfInt .f32 q) 1132396544
def facOk (f : Nat) : Bool := (match FloatKind.f32.format.read f with | .number _ _ _ => true | _ => false) && fge .f32 f 0 && (f == 1065353216 || fle .f32 f 1065287680)
theorem facs : (List.range 256).all (fun (q : Nat) => facOk (fac (q : Int))) = true := by decide +kernel
theorem fac_ok {q : Int} (h0 : 0 ≤ q) (h1 : q ≤ 255) : FacOk (fac q) := by
  obtain ⟨n, rfl⟩ : ∃ n : Nat, q = n := ⟨q.toNat, by omega⟩
  have h := List.all_eq_true.1 facs n (List.mem_range.2 (by omega))
  unfold facOk at h
  simp only [Bool.and_eq_true, Bool.or_eq_true, beq_iff_eq] at h
  obtain ⟨⟨h2, h3⟩, h4⟩ := h
  have ff : fin .f32 (fac (n : Int)) := by
    split at h2
    · exact ⟨_, _, _, ‹_›⟩
    · cases h2
  have hr : FloatKind.f32.format.read 1065287680 = .number false 16711680 (-24) := by decide +kernel
  obtain ⟨c1, c2⟩ := fin_of_read hr
  refine ⟨ff, fo_lt _ _ _ _, ?_, ?_⟩
  · have := (fge_iff ff (zero_fin .f32).1).1 h3
    rwa [(zero_fin .f32).2] at this
  · rcases h4 with h4 | h4
    · exact .inl h4
    · have := (fle_iff ff c1).1 h4
      rw [c2, dval_num] at this
      have e : mval 16711680 (-24) = 255 / 256 := by unfold mval pw; grind
      rw [e] at this
      exact .inr (by simpa using this)
end Go.Proofs.YtndnfhhdflmfcaaGreat

/-
Events as they lie in memory; spec.l7Some: an event of a score.
-/
namespace Go.Proofs.YtndnfhhdflmfcaaGreat
open Go Go.RowKit Ieee

set_option maxHeartbeats 400000 in
theorem pickIn_any (g : Nat) (A : Option Addr) (c : Nat) (xs : List Int) (w : World) (h : Cur w g) (hr : Rd w A (xs.map (.int .i64))) (h0 : 0 < xs.length) (h1 : xs.length ≤ 1000) (hA : ∀ a, A = some a → a.block ≠ g) :
    Calls Tryz.prog 26 #[.pointer (some ⟨g, 0, none⟩), .slice A xs.length c] w fun e w' => ∃ v : Int, e = .returned (.int .i64 v) ∧ v ∈ xs ∧ CurStep w w' g := by
  go_enter Tryz.func26, Tryz.ntmps26
  go_wp2_with fail
  refine (below_any g xs.length _ h (by omega) (by omega)).mono ?_
  rintro e w1 ⟨x, rfl, hx, hs⟩
  obtain ⟨b, off, rfl, hb, hc⟩ := hr (by simp; omega)
  have hne := hA _ rfl
  obtain ⟨k, rfl⟩ : ∃ k : Nat, x = k := ⟨x.toNat, by omega⟩
  have hk : k < xs.length := by omega
  have e0 := hc k (.int .i64 (xs.getD k 0)) (by simp [List.getD, List.getElem?_eq_getElem hk])
  have e1 : w1.cell? ⟨b, off + k, none⟩ = some (.int .i64 (xs.getD k 0)) := by
    rw [← e0]; exact World.cell?_of_block (hs.2.block b hb (by intro e; injection e with e; exact hne e))
  have HM : Hid (xs.getD k 0 ∈ xs) := by
    simp only [List.getD, List.getElem?_eq_getElem hk, Option.getD_some]
    exact List.getElem_mem hk
  clear hc e0
  generalize xs.getD k 0 = v at *
  go_wp2
  go_ret
  exact ⟨_, rfl, HM.out, hs⟩

/-- The cells of an event. -/
def evC (e : Ev) : Array Value := #[.int .i64 e.1, .int .i64 e.2.1, .int .i64 e.2.2.1, .int .i64 e.2.2.2.1, .int .i64 e.2.2.2.2.1, .float .f32 e.2.2.2.2.2]
def evV (e : Ev) : List Value := [.int .i64 e.1, .int .i64 e.2.1, .int .i64 e.2.2.1, .int .i64 e.2.2.2.1, .int .i64 e.2.2.2.2.1, .float .f32 e.2.2.2.2.2]
def flatE (L : List Ev) : List Value := L.flatMap evV
theorem ev_info : (Tryz.prog.info? 71).map (fun i => (i.zero, i.size, i.bytes)) = some (some (.agg #[.int .i64 0, .int .i64 0, .int .i64 0, .int .i64 0, .int .i64 0, .float .f32 0]), 6, 48) := by kernel_rfl
/-- A valid event of a score of 'L' samples with 'nb' bodies; its shape is short. -/
structure EvOk (L nb : Int) (e : Ev) : Prop where
  a0 : 0 ≤ e.1
  a1 : e.1 ≤ L
  b0 : 0 ≤ e.2.2.1
  b1 : e.2.2.1 < nb
  f : fin .f32 e.2.2.2.2.2
  w : wfk .f32 e.2.2.2.2.2
  big : ab (fv .f32 e.2.2.2.2.2) ≤ 16000
  kind : (e.2.1 = 1 ∧ (0 ≤ e.2.2.2.1 ∧ e.2.2.2.1 < 3) ∧ 1 ≤ e.2.2.2.2.1 ∧ e.2.2.2.2.1 ≤ 9) ∨
    (e.2.1 = 2 ∧ (e.2.2.2.1 = 0 ∧ e.2.2.2.2.1 = 0) ∧ fge .f32 e.2.2.2.2.2 0 = true ∧ fle .f32 e.2.2.2.2.2 1065353216 = true ∧ FacOk e.2.2.2.2.2) ∨
    (e.2.1 = 3 ∧ (e.2.2.2.1 = 0 ∧ e.2.2.2.2.1 = 0) ∧ e.2.2.2.2.2 = 0)

/-- The damping factors. -/
theorem damp_words {v : Int} (h : v ∈ [(0 : Int), 500, 900, 1000]) : fin .f32 (fo .quo .f32 (floatOfInt .f32 v) 1148846080) ∧ wfk .f32 (fo .quo .f32 (floatOfInt .f32 v) 1148846080) ∧ ab (fv .f32 (fo .quo .f32 (floatOfInt .f32 v) 1148846080)) ≤ 16000 ∧
    fge .f32 (fo .quo .f32 (floatOfInt .f32 v) 1148846080) 0 = true ∧ fle .f32 (fo .quo .f32 (floatOfInt .f32 v) 1148846080) 1065353216 = true ∧ FacOk (fo .quo .f32 (floatOfInt .f32 v) 1148846080) := by
  have key : fin .f32 (fo .quo .f32 (floatOfInt .f32 v) 1148846080) ∧ fge .f32 (fo .quo .f32 (floatOfInt .f32 v) 1148846080) 0 = true ∧ fle .f32 (fo .quo .f32 (floatOfInt .f32 v) 1148846080) 1065353216 = true ∧ (fo .quo .f32 (floatOfInt .f32 v) 1148846080 = 1065353216 ∨ fle .f32 (fo .quo .f32 (floatOfInt .f32 v) 1148846080) 1065287680 = true) := by
    simp only [List.mem_cons, List.not_mem_nil, or_false] at h
    rcases h with rfl | rfl | rfl | rfl
    · exact ⟨numB_fin (by decide +kernel), by decide +kernel, by decide +kernel, by decide +kernel⟩
    · exact ⟨numB_fin (by decide +kernel), by decide +kernel, by decide +kernel, by decide +kernel⟩
    · exact ⟨numB_fin (by decide +kernel), by decide +kernel, by decide +kernel, by decide +kernel⟩
    · exact ⟨numB_fin (by decide +kernel), by decide +kernel, by decide +kernel, by decide +kernel⟩
  obtain ⟨f, a, b, c⟩ := key
  have a' := (fge_iff f (zero_fin .f32).1).1 a
  have b' := (fle_iff f one32.1).1 b
  rw [(zero_fin .f32).2] at a'
  rw [one32.2] at b'
  refine ⟨f, fo_lt _ _ _ _, by rw [ab_of_nonneg a']; exact Rat.le_trans b' (by grind), a, b, ⟨f, fo_lt _ _ _ _, a', ?_⟩⟩
  have hr : FloatKind.f32.format.read 1065287680 = .number false 16711680 (-24) := by decide +kernel
  obtain ⟨c1, c2⟩ := fin_of_read hr
  rcases c with c | c
  · exact .inl c
  · have := (fle_iff f c1).1 c
    rw [c2, dval_num] at this
    have e : mval 16711680 (-24) = 255 / 256 := by unfold mval pw; grind
    rw [e] at this
    exact .inr (by simpa using this)

/-- The state of spec.l7Some. -/
structure ESt (w W : World) (g M : Nat) (e : Ev) : Prop where
  cur : Cur W g
  gr : w.grownBy W (some g)
  r : W.heap[w.heap.size]? = some (.cells #[.int .i64 0, .int .i64 0, .int .i64 0, .int .i64 0, .int .i64 0, .float .f32 0] 71 (0, 0))
  hg : g < w.heap.size
  hM : w.heap.size < M
  m : W.heap[M]? = some (.cells (evC e) 71 (0, 0))
section
variable {w W W' : World} {g M : Nat} {e : Ev}
theorem ESt.keep (h : ESt w W g M e) (hcur : Cur W' g) (hgr : w.grownBy W' (some g)) (hk : ∀ j, j < W.heap.size → j ≠ g → W'.heap[j]? = W.heap[j]?) : ESt w W' g M e := by
  have hg := h.hg
  have hM := h.hM
  exact ⟨hcur, hgr, (hk _ (lt_of_some h.r) (by omega)).trans h.r, hg, hM, (hk _ (lt_of_some h.m) (by omega)).trans h.m⟩
theorem ESt.step (h : ESt w W g M e) (s : CurStep W W' g) : ESt w W' g M e :=
  h.keep s.1 (grown_trans h.gr s.2) fun j hj hn => s.2.block j hj (by intro e; injection e with e; exact hn e)
theorem ESt.alloc (h : ESt w W g M e) (o : Obj) : ESt w (W.alloc o) g M e :=
  h.keep (h.cur.alloc o) (grown_trans h.gr ⟨rfl, rfl, rfl, by simp, fun i hi _ => Below.heap_alloc W o i hi⟩) fun j hj _ => Below.heap_alloc W o j hj
theorem ESt.drewN (h : ESt w W g M e) (n : Nat) : ESt w (W.drewN n) g M e := ⟨h.cur, grown_drewN h.gr n, h.r, h.hg, h.hM, h.m⟩
theorem ESt.set (h : ESt w W g M e) (i : Nat) (v : Value) (e' : Ev) (he : (evC e).setIfInBounds i v = evC e') : ESt w (W.setCell ⟨M, i, none⟩ v) g M e' := by
  have hg := h.hg
  have hM := h.hM
  refine ⟨cur_set h.cur _ _ _ (by omega) (by omega), grown_set' h.gr (by omega), (Below.heap_setCell _ _ _ _ (by show w.heap.size ≠ M; omega)).trans h.r, hg, hM, ?_⟩
  rw [← he]
  simp [World.setCell, Array.getElem?_modify, h.m]
theorem ev_cells {W : World} {M : Nat} {e : Ev} (h : W.heap[M]? = some (.cells (evC e) 71 (0, 0))) :
    W.cell? ⟨M, 0, none⟩ = some (.int .i64 e.1) ∧ W.cell? ⟨M, 1, none⟩ = some (.int .i64 e.2.1) ∧ W.cell? ⟨M, 2, none⟩ = some (.int .i64 e.2.2.1) ∧ W.cell? ⟨M, 3, none⟩ = some (.int .i64 e.2.2.2.1) ∧ W.cell? ⟨M, 4, none⟩ = some (.int .i64 e.2.2.2.2.1) ∧ W.cell? ⟨M, 5, none⟩ = some (.float .f32 e.2.2.2.2.2) :=
  ⟨cell_of_row W M 0 _ _ (0, 0) h, cell_of_row W M 1 _ _ (0, 0) h, cell_of_row W M 2 _ _ (0, 0) h, cell_of_row W M 3 _ _ (0, 0) h, cell_of_row W M 4 _ _ (0, 0) h, cell_of_row W M 5 _ _ (0, 0) h⟩
theorem free_cells {W : World} {M : Nat} {cs : Array Value} {t : TypeId} (h : W.heap[M]? = some (.cells cs t (0, 0))) (i : Nat) : W.frozen? ⟨M, i, none⟩ = false := by
  unfold World.frozen?; simp only [h]; simp
theorem ESt.all (h : ESt w W g M e) : W.frozen? ⟨M, 1, none⟩ = false ∧ W.frozen? ⟨M, 3, none⟩ = false ∧ W.frozen? ⟨M, 4, none⟩ = false ∧ W.frozen? ⟨M, 5, none⟩ = false ∧
    W.cell? ⟨w.heap.size, 0, none⟩ = some (.int .i64 0) ∧ W.cell? ⟨w.heap.size, 1, none⟩ = some (.int .i64 0) ∧ W.cell? ⟨w.heap.size, 2, none⟩ = some (.int .i64 0) ∧ W.cell? ⟨w.heap.size, 3, none⟩ = some (.int .i64 0) ∧ W.cell? ⟨w.heap.size, 4, none⟩ = some (.int .i64 0) ∧ W.cell? ⟨w.heap.size, 5, none⟩ = some (.float .f32 0) ∧
    W.frozen? ⟨w.heap.size, 0, none⟩ = false ∧ W.frozen? ⟨w.heap.size, 1, none⟩ = false ∧ W.frozen? ⟨w.heap.size, 2, none⟩ = false ∧ W.frozen? ⟨w.heap.size, 3, none⟩ = false ∧ W.frozen? ⟨w.heap.size, 4, none⟩ = false ∧ W.frozen? ⟨w.heap.size, 5, none⟩ = false :=
  ⟨free_cells h.m 1, free_cells h.m 3, free_cells h.m 4, free_cells h.m 5, cell_of_row W _ 0 _ _ (0, 0) h.r, cell_of_row W _ 1 _ _ (0, 0) h.r, cell_of_row W _ 2 _ _ (0, 0) h.r, cell_of_row W _ 3 _ _ (0, 0) h.r, cell_of_row W _ 4 _ _ (0, 0) h.r, cell_of_row W _ 5 _ _ (0, 0) h.r,
    free_cells h.r 0, free_cells h.r 1, free_cells h.r 2, free_cells h.r 3, free_cells h.r 4, free_cells h.r 5⟩
/-- Six stores into a block of six cells. -/
theorem put6 {W : World} {R : Nat} {a b c d e f : Value} {t : TypeId} (h : W.heap[R]? = some (.cells #[a, b, c, d, e, f] t (0, 0))) (x0 x1 x2 x3 x4 x5 : Value) :
    ((((((W.setCell ⟨R, 0, none⟩ x0).setCell ⟨R, 1, none⟩ x1).setCell ⟨R, 2, none⟩ x2).setCell ⟨R, 3, none⟩ x3).setCell ⟨R, 4, none⟩ x4).setCell ⟨R, 5, none⟩ x5).heap[R]? = some (.cells #[x0, x1, x2, x3, x4, x5] t (0, 0)) := by
  simp [World.setCell, Array.getElem?_modify, h]
theorem put6_else {W : World} {R j : Nat} (hj : j ≠ R) (x0 x1 x2 x3 x4 x5 : Value) :
    ((((((W.setCell ⟨R, 0, none⟩ x0).setCell ⟨R, 1, none⟩ x1).setCell ⟨R, 2, none⟩ x2).setCell ⟨R, 3, none⟩ x3).setCell ⟨R, 4, none⟩ x4).setCell ⟨R, 5, none⟩ x5).heap[j]? = W.heap[j]? := by
  simp only [Below.heap_setCell _ _ _ _ (show j ≠ (⟨R, _, none⟩ : Addr).block from hj)]
theorem put6_cur {W : World} {R g : Nat} (h : Cur W g) (hg : g < R) (x0 x1 x2 x3 x4 x5 : Value) :
    Cur ((((((W.setCell ⟨R, 0, none⟩ x0).setCell ⟨R, 1, none⟩ x1).setCell ⟨R, 2, none⟩ x2).setCell ⟨R, 3, none⟩ x3).setCell ⟨R, 4, none⟩ x4).setCell ⟨R, 5, none⟩ x5) g := by
  have n : R ≠ g := by omega
  exact cur_set (cur_set (cur_set (cur_set (cur_set (cur_set h _ _ _ n hg) _ _ _ n hg) _ _ _ n hg) _ _ _ n hg) _ _ _ n hg) _ _ _ n hg
theorem put6_grown {w W : World} {R g : Nat} (h : w.grownBy W (some g)) (hR : w.heap.size ≤ R) (x0 x1 x2 x3 x4 x5 : Value) :
    w.grownBy ((((((W.setCell ⟨R, 0, none⟩ x0).setCell ⟨R, 1, none⟩ x1).setCell ⟨R, 2, none⟩ x2).setCell ⟨R, 3, none⟩ x3).setCell ⟨R, 4, none⟩ x4).setCell ⟨R, 5, none⟩ x5) (some g) :=
  grown_set' (grown_set' (grown_set' (grown_set' (grown_set' (grown_set' h hR) hR) hR) hR) hR) hR
theorem ESt.res (h : ESt w W g M e) (x0 x1 x2 x3 x4 x5 : Value) :
    ((((((W.setCell ⟨w.heap.size, 0, none⟩ x0).setCell ⟨w.heap.size, 1, none⟩ x1).setCell ⟨w.heap.size, 2, none⟩ x2).setCell ⟨w.heap.size, 3, none⟩ x3).setCell ⟨w.heap.size, 4, none⟩ x4).setCell ⟨w.heap.size, 5, none⟩ x5).heap[w.heap.size]? = some (.cells #[x0, x1, x2, x3, x4, x5] 71 (0, 0)) := put6 h.r _ _ _ _ _ _
theorem ESt.done (h : ESt w W g M e) (x0 x1 x2 x3 x4 x5 : Value) :
    CurStep w ((((((W.setCell ⟨w.heap.size, 0, none⟩ x0).setCell ⟨w.heap.size, 1, none⟩ x1).setCell ⟨w.heap.size, 2, none⟩ x2).setCell ⟨w.heap.size, 3, none⟩ x3).setCell ⟨w.heap.size, 4, none⟩ x4).setCell ⟨w.heap.size, 5, none⟩ x5) g :=
  ⟨put6_cur h.cur h.hg _ _ _ _ _ _, put6_grown h.gr (Nat.le_refl _) _ _ _ _ _ _⟩
end

/-- What spec.l7Some returns. -/
def EvPost (L nb : Int) (w : World) (g : Nat) (r : Ending) (w' : World) : Prop := ∃ v : Ev, r = .returned (.agg (evC v)) ∧ EvOk L nb v ∧ CurStep w w' g
set_option maxRecDepth 100000 in
set_option maxHeartbeats 800000 in
theorem someEv_any (g : Nat) (L nb : Int) (w : World) (h : Cur w g) (hL : 0 ≤ L) (hL2 : L ≤ 500) (hb : 1 ≤ nb) (hb2 : nb ≤ 8) :
    Calls Tryz.prog 28 #[.pointer (some ⟨g, 0, none⟩), .int .i64 L, .int .i64 nb] w (EvPost L nb w g) := by
  have hg := h.lt
  have h0 := fun o => h.alloc o
  clear h
  go_enter Tryz.func28, Tryz.ntmps28
  go_wp2_with fail
  refine (below_any g (L + 1) _ (h0 _) (by omega) (by omega)).mono ?_
  rintro r w1 ⟨x, rfl, ⟨hx0, hx1⟩, s1⟩
  go_wp2_with fail
  refine (below_any g nb _ s1.1 (by omega) (by omega)).mono ?_
  rintro r w2 ⟨y, rfl, ⟨hy0, hy1⟩, s2⟩
  have s3 := s1.trans s2
  have hR := (s3.2.block w.heap.size (by simp) (by intro e; injection e with e; omega)).trans (heap_alloc_new w _)
  have hz := lt_of_some hR
  have S0 : Hid (ESt w (w2.alloc (.cells #[.int .i64 x, .int .i64 0, .int .i64 y, .int .i64 0, .int .i64 0, .float .f32 0] 71)) g w2.heap.size (x, 0, y, 0, 0, 0)) :=
    ⟨s3.1.alloc _, ⟨s3.2.os, s3.2.tape, s3.2.output, by have := s3.2.size; simp at this ⊢; omega, fun i hi hne => by
        have h1 := s3.2.block i (by simp; omega) hne
        exact ((Below.heap_alloc w2 _ i (by omega)).trans h1).trans (Below.heap_alloc w _ i hi)⟩,
      (Below.heap_alloc w2 _ _ hz).trans hR, hg, hz, heap_alloc_new w2 _⟩
  clear s1 s2 s3 hR h0
  go_wp2_with fail
  generalize w2.alloc (.cells #[.int .i64 x, .int .i64 0, .int .i64 y, .int .i64 0, .int .i64 0, .float .f32 0] 71) = W at *
  generalize w2.heap.size = M at *
  refine (below_any g 7 _ S0.out.cur (by omega) (by omega)).mono ?_
  rintro r W1 ⟨z, rfl, ⟨hz0, hz1⟩, s1⟩
  have S1 := Lib.hid (S0.out.step s1)
  clear S0 s1
  have hMR : ¬ M = w.heap.size := by have := S1.out.hM; omega
  have hRM : ¬ w.heap.size = M := by omega
  have hMg : ¬ M = g := by omega
  have hRg : ¬ w.heap.size = g := by omega
  by_cases hz : z = 0
  · subst hz
    have f1 := free_cells S1.out.m 1
    obtain ⟨_, c1, _⟩ := ev_cells S1.out.m
    go_wp2_with fail
    have S2 := Lib.hid (S1.out.set 1 (.int .i64 2) (x, 2, y, 0, 0, 0) rfl)
    clear f1 c1 S1
    have hVs : Hid ((W1.setCell ⟨M, 1, none⟩ (.int .i64 2)).heap.size = W1.heap.size) := by show (W1.setCell _ _).heap.size = _; simp
    generalize W1.setCell ⟨M, 1, none⟩ (.int .i64 2) = V at *
    have S3 := Lib.hid (S2.out.alloc (.cells #[.int .i64 0, .int .i64 500, .int .i64 900, .int .i64 1000] 3))
    have hr := rd_ints V 3 (V.alloc (.cells #[.int .i64 0, .int .i64 500, .int .i64 900, .int .i64 1000] 3)) [0, 500, 900, 1000] rfl
    rw [hVs.out] at hr
    refine (pickIn_any g (some ⟨W1.heap.size, 0, none⟩) 4 [0, 500, 900, 1000] _ S3.out.cur hr (by simp) (by simp) (fun a ha => by cases ha; have := S2.out.cur.lt; have := hVs.out; show W1.heap.size ≠ g; omega)).mono ?_
    rintro r W2 ⟨v, rfl, hv, s2⟩
    have S4 := Lib.hid (S3.out.step s2)
    obtain ⟨d1, d2, d3, d4, d5, d6⟩ := damp_words hv
    obtain ⟨fq, hfq⟩ : ∃ fq, floatOfInt .f32 v = fq := ⟨_, rfl⟩
    rw [hfq] at d1 d2 d3 d4 d5 d6
    obtain ⟨F, hF⟩ : ∃ F, fo .quo .f32 fq 1148846080 = F := ⟨_, rfl⟩
    have hR : ∀ W, fR .quo .f32 fq 1148846080 W = F := fun W => by rw [← hF]; exact rnd_eq d1 W
    rw [hF] at d1 d2 d3 d4 d5 d6
    have HV := Lib.hid (And.intro d1 (And.intro d2 (And.intro d3 (And.intro d4 (And.intro d5 d6)))))
    clear hF S3 S2 hv s2 hr hVs d1 d2 d3 d4 d5 d6
    have S5 := Lib.hid (S4.out.drewN (fN .quo .f32 fq 1148846080))
    obtain ⟨f1, f3, f4, f5, r0, r1, r2, r3, r4, r5, q0, q1, q2, q3, q4, q5⟩ := S4.out.all
    obtain ⟨c0, c1, c2, c3, c4, c5⟩ := ev_cells S4.out.m
    go_wp2_with fail
    have HS := Lib.hid (S5.out.set 5 (.float .f32 F) (x, 2, y, 0, 0, F) rfl)
    refine bodyPost_ret (results_cell_row rfl _ _ w.heap.size 71 (evC (x, 2, y, 0, 0, F)) (0, 0) _ rfl (HS.out.res _ _ _ _ _ _) Tryz.underlying71 rfl (by kernel_rfl)) rfl ?_
    exact ⟨(x, 2, y, 0, 0, F), rfl, ⟨hx0, by omega, hy0, hy1, HV.out.1, HV.out.2.1, HV.out.2.2.1, .inr (.inl ⟨rfl, ⟨rfl, rfl⟩, HV.out.2.2.2⟩)⟩, HS.out.done _ _ _ _ _ _⟩
  · by_cases hz1' : z = 1
    · subst hz1'
      obtain ⟨f1, f3, f4, f5, r0, r1, r2, r3, r4, r5, q0, q1, q2, q3, q4, q5⟩ := S1.out.all
      obtain ⟨c0, c1, c2, c3, c4, c5⟩ := ev_cells S1.out.m
      go_wp2_with fail
      have HS := Lib.hid (S1.out.set 1 (.int .i64 3) (x, 3, y, 0, 0, 0) rfl)
      refine bodyPost_ret (results_cell_row rfl _ _ w.heap.size 71 (evC (x, 3, y, 0, 0, 0)) (0, 0) _ rfl (HS.out.res _ _ _ _ _ _) Tryz.underlying71 rfl (by kernel_rfl)) rfl ?_
      exact ⟨(x, 3, y, 0, 0, 0), rfl, ⟨hx0, by omega, hy0, hy1, (zero_fin .f32).1, (by rw [wfk_32]; decide : wfk .f32 0), by rw [(zero_fin .f32).2, ab_of_nonneg Rat.le_refl]; grind, .inr (.inr ⟨rfl, ⟨rfl, rfl⟩, rfl⟩)⟩, HS.out.done _ _ _ _ _ _⟩
    · have z0 : (z == 0) = false := by simp; omega
      have z1 : (z == 1) = false := by simp; omega
      have f1 := free_cells S1.out.m 1
      obtain ⟨_, c1, _⟩ := ev_cells S1.out.m
      go_wp2_with fail
      have S2 := Lib.hid (S1.out.set 1 (.int .i64 1) (x, 1, y, 0, 0, 0) rfl)
      clear f1 c1 S1 z0 z1
      refine (below_any g 3 _ S2.out.cur (by omega) (by omega)).mono ?_
      rintro r W2 ⟨sh, rfl, ⟨hs0, hs1⟩, s2⟩
      have S3 := Lib.hid (S2.out.step s2)
      clear s2 S2
      have f3 := free_cells S3.out.m 3
      obtain ⟨_, _, _, c3, _⟩ := ev_cells S3.out.m
      go_wp2_with fail
      clear f3 c3
      have S4 := Lib.hid (S3.out.set 3 (.int .i64 sh) (x, 1, y, sh, 0, 0) rfl)
      refine (below_any g 9 _ S4.out.cur (by omega) (by omega)).mono ?_
      rintro r W3 ⟨co, rfl, ⟨hc0, hc1⟩, s3⟩
      have S5 := Lib.hid (S4.out.step s3)
      clear S3 S4 s3
      have f4 := free_cells S5.out.m 4
      obtain ⟨_, _, _, _, c4, _⟩ := ev_cells S5.out.m
      go_wp2_with fail
      clear f4 c4
      have S6 := Lib.hid (S5.out.set 4 (.int .i64 (1 + co)) (x, 1, y, sh, 1 + co, 0) rfl)
      refine (some_fin g _ S6.out.cur).mono ?_
      rintro r W4 ⟨b, rfl, ⟨hb1, hb2⟩, s4⟩
      have S7 := Lib.hid (S6.out.step s4)
      obtain ⟨k1, k2, k3⟩ := force_ok hb1 hb2
      obtain ⟨N, hN⟩ : ∃ N, nar b = N := ⟨_, rfl⟩
      rw [hN] at k1 k2 k3
      obtain ⟨F, hF⟩ : ∃ F, fo .quo .f32 N 1115684864 = F := ⟨_, rfl⟩
      have hR : ∀ W, fR .quo .f32 N 1115684864 W = F := fun W => by rw [← hF]; exact rnd_eq k2 W
      have hw : wfk .f32 F := by rw [← hF]; exact fo_lt _ _ _ _
      rw [hF] at k2 k3
      have HV := Lib.hid (And.intro k2 (And.intro hw k3))
      clear hF S5 S6 s4 hN hw k2 k3
      obtain ⟨f1, f3, f4, f5, r0, r1, r2, r3, r4, r5, q0, q1, q2, q3, q4, q5⟩ := S7.out.all
      obtain ⟨c0, c1, c2, c3, c4, c5⟩ := ev_cells S7.out.m
      go_wp2_with fail
      have HS := Lib.hid (fun n => (S7.out.drewN n).set 5 (.float .f32 F) (x, 1, y, sh, 1 + co, F) rfl)
      refine bodyPost_ret (results_cell_row rfl _ _ w.heap.size 71 (evC (x, 1, y, sh, 1 + co, F)) (0, 0) _ rfl ((HS.out _).res _ _ _ _ _ _) Tryz.underlying71 rfl (by kernel_rfl)) rfl ?_
      exact ⟨(x, 1, y, sh, 1 + co, F), rfl, ⟨hx0, by omega, hy0, hy1, HV.out.1, HV.out.2.1, HV.out.2.2, .inl ⟨rfl, ⟨hs0, hs1⟩, by show 1 ≤ 1 + co; omega, by show 1 + co ≤ 9; omega⟩⟩, (HS.out _).done _ _ _ _ _ _⟩
end Go.Proofs.YtndnfhhdflmfcaaGreat

/-
Weights of rooms; modes whose gains are scaled. (Plain arithmetic.)
-/
namespace Go.Proofs.YtndnfhhdflmfcaaGreat
open Go Ieee

/-- A weight: a number, at most 1. -/
structure Wt (x : Nat) : Prop where
  f : fin .f32 x
  w : wfk .f32 x
  l : ab (fv .f32 x) ≤ 1
def wt (j : Int) : Nat := fo .quo .f32 (floatOfInt .f32 j) 1107296256
def wtOk (x : Nat) : Bool := (match FloatKind.f32.format.read x with | .number _ _ _ => true | _ => false) && fle .f32 x 1065353216 && fge .f32 x 3212836864
theorem wts : (List.range 65).all (fun (n : Nat) => wtOk (wt ((n : Int) - 32))) = true := by decide +kernel
theorem minus_one : fin .f32 3212836864 ∧ fv .f32 3212836864 = -1 := by
  have h : FloatKind.f32.format.read 3212836864 = .number true 8388608 (-23) := by decide +kernel
  obtain ⟨h1, h2⟩ := fin_of_read h
  refine ⟨h1, ?_⟩
  rw [h2, dval_num]
  have e : mval 8388608 (-23) = 1 := by unfold mval pw; grind
  rw [e]; simp
theorem wt_ok {j : Int} (h0 : -32 ≤ j) (h1 : j ≤ 32) : Wt (wt j) := by
  obtain ⟨n, rfl⟩ : ∃ n : Nat, j = (n : Int) - 32 := ⟨(j + 32).toNat, by omega⟩
  have h := List.all_eq_true.1 wts n (List.mem_range.2 (by omega))
  unfold wtOk at h
  simp only [Bool.and_eq_true] at h
  obtain ⟨⟨h2, h3⟩, h4⟩ := h
  have ff : fin .f32 (wt ((n : Int) - 32)) := by
    split at h2
    · exact ⟨_, _, _, ‹_›⟩
    · cases h2
  have l1 := (fle_iff ff one32.1).1 h3
  have l2 := (fge_iff ff minus_one.1).1 h4
  rw [one32.2] at l1
  rw [minus_one.2] at l2
  exact ⟨ff, fo_lt _ _ _ _, ab_le l1 (by grind)⟩
theorem wt_one : Wt 1065353216 := ⟨one32.1, by rw [wfk_32]; omega, by rw [one32.2, ab_of_nonneg (by grind)]; exact Rat.le_refl⟩
/-- A number times a weight is no greater. -/
theorem mul_wt {c x : Nat} (fc : fin .f32 c) (hc : ab (fv .f32 c) ≤ 1024) (hx : Wt x) : fin .f32 (fo .mul .f32 c x) ∧ ab (fv .f32 (fo .mul .f32 c x)) ≤ ab (fv .f32 c) := by
  have ht2 := top32
  have n1 := ab_nonneg (fv .f32 c)
  have p := Rat.mul_le_mul_of_nonneg_left hx.l n1
  have hp : ab (fv .f32 c * fv .f32 x) ≤ ab (fv .f32 c) := by rw [ab_mul]; grind
  have hm := mul_spec fc hx.f (by grind)
  obtain ⟨a1, a2⟩ := abs32_fin fc
  obtain ⟨b1, b2⟩ := neg_fin a1
  have u := (hm.2.2 _ a1).2
  have l := (hm.2.2 _ b1).1
  rw [a2] at u
  rw [b2, a2] at l
  obtain ⟨q1, q2⟩ := le_ab (fv .f32 c * fv .f32 x)
  exact ⟨hm.1, ab_le (u (by grind)) (by have := l (by grind); grind)⟩
theorem Wt.mul {a b : Nat} (ha : Wt a) (hb : Wt b) : Wt (fo .mul .f32 a b) := by
  have := mul_wt ha.f (by have := ha.l; grind) hb
  exact ⟨this.1, fo_lt _ _ _ _, by have := ha.l; grind⟩
theorem mul_comm_fin {a b : Nat} (ha : fin .f32 a) (hb : fin .f32 b) : fo .mul .f32 a b = fo .mul .f32 b a := by
  obtain ⟨s, m, e, hr⟩ := ha
  obtain ⟨t, n, f, hq⟩ := hb
  have h1 : fo .mul .f32 a b = FloatKind.f32.format.write (.number (s ^^ t) (m * n) (e + f)) := fo_some (by
    show ((FloatKind.f32.format.read a).product (FloatKind.f32.format.read b)).map FloatKind.f32.format.write = _
    rw [hr, hq]; rfl)
  have h2 : fo .mul .f32 b a = FloatKind.f32.format.write (.number (t ^^ s) (n * m) (f + e)) := fo_some (by
    show ((FloatKind.f32.format.read b).product (FloatKind.f32.format.read a)).map FloatKind.f32.format.write = _
    rw [hr, hq]; rfl)
  rw [h1, h2, Bool.xor_comm, Nat.mul_comm, Int.add_comm]
/-- A mode whose gain is scaled. -/
def gainM (x : Nat) (m : MW) : MW := (m.1, m.2.1, fo .mul .f32 m.2.2.1 x, fo .mul .f32 m.2.2.2 x)
theorem gain_fin {m : MW} {x : Nat} (hm : ModeOk m.1 m.2.1 m.2.2.1 m.2.2.2) (hx : Wt x) : fin .f32 (fo .mul .f32 m.2.2.1 x) ∧ fin .f32 (fo .mul .f32 m.2.2.2 x) :=
  ⟨(mul_wt (fin_of_wid hm.fc) (gain_le hm.fc hm.gain.1) hx).1, (mul_wt (fin_of_wid hm.fd) (gain_le hm.fd hm.gain.2) hx).1⟩
theorem gain_back {y : Nat} (hy : fin .f32 y) (h : ab (fv .f32 y) ≤ 1024) : fle .f64 (absB (wid y)) 4652218415073722368 = true := by
  obtain ⟨w1, w2⟩ := wid_fin hy
  obtain ⟨a1, a2⟩ := absB_fin w1
  obtain ⟨g1, g2⟩ := gain_val
  refine (fle_iff a1 g1).2 ?_
  rw [a2, g2, w2]
  exact h
theorem gain_ok {m : MW} {x : Nat} (hm : ModeOk m.1 m.2.1 m.2.2.1 m.2.2.2) (hx : Wt x) : ModeOk (gainM x m).1 (gainM x m).2.1 (gainM x m).2.2.1 (gainM x m).2.2.2 := by
  have c1 := gain_le hm.fc hm.gain.1
  have c2 := gain_le hm.fd hm.gain.2
  obtain ⟨f1, l1⟩ := mul_wt (fin_of_wid hm.fc) c1 hx
  obtain ⟨f2, l2⟩ := mul_wt (fin_of_wid hm.fd) c2 hx
  exact ⟨hm.wa, hm.wb, fo_lt _ _ _ _, fo_lt _ _ _ _, hm.fa, hm.fb, (wid_fin f1).1, (wid_fin f2).1, hm.sq, gain_back f1 (Rat.le_trans l1 c1), gain_back f2 (Rat.le_trans l2 c2)⟩
/-- The modes of a room's body. -/
def roomM (ms : List MW) (ws : Nat → Nat) : List MW := (List.range ms.length).map fun k => gainM (ws k) (mAt ms k)
theorem roomM_len (ms : List MW) (ws : Nat → Nat) : (roomM ms ws).length = ms.length := by simp [roomM]
theorem roomM_at {ms : List MW} {ws : Nat → Nat} {k : Nat} (h : k < ms.length) : mAt (roomM ms ws) k = gainM (ws k) (mAt ms k) := by
  show (roomM ms ws).getD k (0, 0, 0, 0) = _
  simp [roomM, List.getD, h]
theorem roomM_congr {ms : List MW} {ws vs : Nat → Nat} (h : ∀ k, k < ms.length → ws k = vs k) : roomM ms ws = roomM ms vs := by
  unfold roomM
  exact List.map_congr_left fun k hk => by rw [h k (List.mem_range.1 hk)]
theorem roomM_ok {ms : List MW} {ws : Nat → Nat} (hm : ModesOk ms) (hw : ∀ k, k < ms.length → Wt (ws k)) : ModesOk (roomM ms ws) := fun m h => by
  unfold roomM at h
  obtain ⟨k, hk, rfl⟩ := List.mem_map.1 h
  have hk := List.mem_range.1 hk
  exact gain_ok (hm.at_ hk) (hw k hk)
end Go.Proofs.YtndnfhhdflmfcaaGreat

/-
'append(out, xs...)': a slice that reads as a list onto a row of the call's own.
-/
namespace Go.Proofs.YtndnfhhdflmfcaaGreat
open Go Go.RowKit

theorem run_append_none {P : Program} (w : World) (t ty e : TypeId) (i : TypeInfo) (ht : P.underlying t = some (.slice e)) (hi : P.info? e = some i) {base n size : Nat} {v : Value} {xs : List Value}
    (hown : w.ownsRow base e size v n xs) (c : Nat) : (Builtin.append_ #[t, t] ty #[v, .slice none 0 c]).run P w = .ok v w := by
  rcases hown.2 with ⟨rfl, rfl⟩ | ⟨g, cap, cur, rfl, _, _, hnc, _⟩
  · simp [Builtin.append_, run_underlying ht, sizeOf, typeInfo, hi, Builtin.lenOf, Builtin.firstCells]
  · simp [Builtin.append_, run_underlying ht, sizeOf, typeInfo, hi, Builtin.lenOf, Builtin.firstCells, hnc, storeCells]

theorem wpList_appRd {P : Program} {w : World} {ops : Array Oper} {rest : List Oper} {o : Oper} {a : Act} {Q : Exit → Act → World → Prop} (hgd : o.guard = none) (s x : Operand) (t : TypeId)
    (ho : o.op = .call { callee := .builtin .append, args := #[s, x], argTypes := #[t, t] })
    (B : Nat) (e : TypeId) (z : Value) (bytes : Nat) (ht : P.underlying t = some (.slice e)) (hinfo : (P.info? e).map (fun i => (i.zero, i.size, i.bytes)) = some (some z, 1, bytes)) (hzs : z.cells.size = 1)
    (v : Value) (n : Nat) (xs : List Value) (A : Option Addr) (m c : Nat) (news : List Value) (hs : a.eval s = v) (hx : a.eval x = .slice A m c) (hu : ∀ u ∈ news, u.oneCell' = true) (hown : w.ownsRow B e 1 v n xs) (hB : B ≤ w.heap.size)
    (hr : Rd w A news) (hm : news.length = m) (h63 : n + m ≤ 1048576) (hby : bytes ≤ 1024)
    (h : ∀ v' w', w'.ownsRow B e 1 v' (n + m) (xs ++ news) → Below B w w' → wpList P ops Q rest (a.put o.dst v') w') : wpList P ops Q (o :: rest) a w := by
  obtain ⟨i, hi, hzz⟩ := Option.map_eq_some_iff.1 hinfo
  simp only [Prod.mk.injEq] at hzz
  obtain ⟨hz, hsz, hb⟩ := hzz
  rcases A with _ | ad
  · have hm0 : news = [] := by
      rcases Nat.eq_zero_or_pos news.length with h0 | h0
      · exact List.eq_nil_of_length_eq_zero h0
      · obtain ⟨b, off, h1, _⟩ := hr h0; cases h1
    subst hm0
    simp at hm; subst hm
    refine wpList_plain hgd fun K hK => ?_
    have hrun := run_append_none (P := P) w t o.type e i ht hi hown c
    unfold Oper.wp execOp
    simp only [ho, resolve, invoke, builtin, Sem.run_bind, Sem.run_pure, Result.andThen_ok, List.map_toArray, List.map_cons, List.map_nil, hs, hx, hrun]
    exact hK _ _ (h v w (by simpa using hown) (Below.refl _ _))
  · have hcells : ∀ j u, news[j]? = some u → w.cell? (ad.add j) = some u := fun j u hj => by
      have hpos : 0 < news.length := by
        rcases Nat.eq_zero_or_pos news.length with h0 | h0
        · rw [List.eq_nil_of_length_eq_zero h0] at hj; simp at hj
        · exact h0
      obtain ⟨b, off, h1, _, hc⟩ := hr hpos
      injection h1 with h1
      subst h1
      have := hc j u hj
      rw [← this]
      congr 1
      unfold Addr.add
      by_cases h0 : j = 0 <;> simp [h0]
    refine wpList_append_own _ hgd s x t ho B e i z 1 bytes ht hi hz hsz hb hzs (by decide) v n xs hs hown ad m c news hx (by omega) hcells hu ?_ ?_ hB ?_
    · simp only [maxLen]; omega
    · have := Nat.mul_le_mul h63 hby; omega
    · intro v' w' h2 h3 _
      exact h v' w' h2 ((Below.refl _ _).grown h3 hB (fun k hk => (hown.lt k hk).1))
/-- The same, at one operation of a region. -/
theorem step_appRd {P : Program} {w : World} {ops : Array Oper} {o : Oper} {a : Act} {K : Act → World → Prop} {Q : Exit → Act → World → Prop} {E : Prop} (hgd : o.guard = none) (s x : Operand) (t : TypeId)
    (ho : o.op = .call { callee := .builtin .append, args := #[s, x], argTypes := #[t, t] })
    (B : Nat) (e : TypeId) (z : Value) (bytes : Nat) (ht : P.underlying t = some (.slice e)) (hinfo : (P.info? e).map (fun i => (i.zero, i.size, i.bytes)) = some (some z, 1, bytes)) (hzs : z.cells.size = 1)
    (v : Value) (n : Nat) (xs : List Value) (A : Option Addr) (m c : Nat) (news : List Value) (hs : a.eval s = v) (hx : a.eval x = .slice A m c) (hu : ∀ u ∈ news, u.oneCell' = true) (hown : w.ownsRow B e 1 v n xs) (hB : B ≤ w.heap.size)
    (hr : Rd w A news) (hm : news.length = m) (h63 : n + m ≤ 1048576) (hby : bytes ≤ 1024)
    (h : ∀ A' c' w', w'.ownsRow B e 1 (.slice A' (n + m) c') (n + m) (xs ++ news) → Below B w w' → K (a.put o.dst (.slice A' (n + m) c')) w') : if Region.wanted o (yielded ops a.tmps) = true then Oper.wp P o a w K Q else E := by
  have hw : Region.wanted o (yielded ops a.tmps) = true := by simp [Region.wanted, hgd]
  rw [if_pos hw]
  obtain ⟨i, hi, hzz⟩ := Option.map_eq_some_iff.1 hinfo
  simp only [Prod.mk.injEq] at hzz
  obtain ⟨hz, hsz, hb⟩ := hzz
  rcases A with _ | ad
  · have hm0 : news = [] := by
      rcases Nat.eq_zero_or_pos news.length with h0 | h0
      · exact List.eq_nil_of_length_eq_zero h0
      · obtain ⟨b, off, h1, _⟩ := hr h0; cases h1
    subst hm0
    simp at hm; subst hm
    have hrun := run_append_none (P := P) w t o.type e i ht hi hown c
    unfold Oper.wp execOp
    simp only [ho, resolve, invoke, builtin, Sem.run_bind, Sem.run_pure, Result.andThen_ok, List.map_toArray, List.map_cons, List.map_nil, hs, hx, hrun]
    obtain ⟨A', c', rfl, _, _⟩ := own_rd hown
    exact h A' c' w (by simpa using hown) (Below.refl _ _)
  · have hcells : ∀ j u, news[j]? = some u → w.cell? (ad.add j) = some u := fun j u hj => by
      have hpos : 0 < news.length := by
        rcases Nat.eq_zero_or_pos news.length with h0 | h0
        · rw [List.eq_nil_of_length_eq_zero h0] at hj; simp at hj
        · exact h0
      obtain ⟨b, off, h1, _, hc⟩ := hr hpos
      injection h1 with h1
      subst h1
      have := hc j u hj
      rw [← this]
      congr 1
      unfold Addr.add
      by_cases h0 : j = 0 <;> simp [h0]
    refine wp_append_own _ s x t ho B e i z 1 bytes ht hi hz hsz hb hzs (by decide) v n xs hs hown ad m c news hx (by omega) hcells hu ?_ ?_ hB ?_
    · simp only [maxLen]; omega
    · have := Nat.mul_le_mul h63 hby; omega
    · intro v' w' h2 h3 _
      obtain ⟨A', c', rfl, _, _⟩ := own_rd h2
      exact h A' c' w' h2 ((Below.refl _ _).grown h3 hB (fun k hk => (hown.lt k hk).1))
end Go.Proofs.YtndnfhhdflmfcaaGreat

/-
slices.Clone of modes, impl.copyBody.
-/
namespace Go.Proofs.YtndnfhhdflmfcaaGreat
open Go Go.RowKit Ieee

theorem results_cell_tmp_row {P : Program} {fn : Func} {p u : Tmp} {ty : TypeId} (h : fn.results = #[.cell p ty, .tmp u]) (tmps : Array Value) (w : World) (g : Nat) (t : TypeId) (cs : Array Value) (fr : Nat × Nat) (d : TypeDesc)
    (hp : tmps.getD p undef = .pointer (some ⟨g, 0, none⟩)) (hg : w.heap[g]? = some (.cells cs t fr))
    (hu : P.underlying ty = some d) (hd : (match d with | .struct _ | .array _ _ => true | _ => false) = true) (hi : (P.info? ty).map (·.size) = some cs.size) :
    (results fn tmps).run P w = .ok (.tuple #[.agg cs, tmps.getD u undef]) w := by
  rw [results_cell_tmp h]
  have hp' : tmps[p]?.getD undef = .pointer (some ⟨g, 0, none⟩) := by simpa using hp
  simp [hp', asAddr, run_loadVar_row w g t ty cs fr d hg hu hd hi]

theorem own_size {w : World} {base n : Nat} {e : TypeId} {v : Value} {xs : List Value} (h : w.ownsRow base e 1 v (n + 1) xs) : base < w.heap.size := by
  rcases h.2 with ⟨_, h⟩ | ⟨g, cap, cur, e1, e2, e3, e4⟩
  · omega
  · have := lt_of_some e3; omega

/-- Append of all modes of a row onto a row of the call's own. -/
theorem wpList_appM {P : Program} {w : World} {ops : Array Oper} {rest : List Oper} {o : Oper} {a : Act} {Q : Exit → Act → World → Prop} (hgd : o.guard = none) (s x : Operand) (t : TypeId)
    (ho : o.op = .call { callee := .builtin .append, args := #[s, x], argTypes := #[t, t] })
    (B : Nat) (e : TypeId) (z : Value) (bytes : Nat) (ht : P.underlying t = some (.slice e)) (hinfo : (P.info? e).map (fun i => (i.zero, i.size, i.bytes)) = some (some z, 2, bytes)) (hzs : z.cells.size = 2)
    (v : Value) (n : Nat) (xs : List Value) (b m c : Nat) (news : List Value) (hs : a.eval s = v) (hx : a.eval x = .slice (some ⟨b, 0, none⟩) m c) (hu : ∀ u ∈ news, u.oneCell' = true) (hown : w.ownsRow B e 2 v n xs) (hB : B ≤ w.heap.size)
    (hr : ∀ j u, news[j]? = some u → w.cell? ⟨b, j, none⟩ = some u) (hm : news.length = m * 2) (h63 : n + m ≤ 1048576) (hby : bytes ≤ 1024)
    (h : ∀ v' w', w'.ownsRow B e 2 v' (n + m) (xs ++ news) → Below B w w' → wpList P ops Q rest (a.put o.dst v') w') : wpList P ops Q (o :: rest) a w := by
  obtain ⟨i, hi, hzz⟩ := Option.map_eq_some_iff.1 hinfo
  simp only [Prod.mk.injEq] at hzz
  obtain ⟨hz, hsz, hb⟩ := hzz
  have hcells : ∀ j u, news[j]? = some u → w.cell? ((⟨b, 0, none⟩ : Addr).add j) = some u := fun j u hj => by
    rw [← hr j u hj]
    congr 1
    unfold Addr.add
    by_cases h0 : j = 0 <;> simp [h0]
  refine wpList_append_own _ hgd s x t ho B e i z 2 bytes ht hi hz hsz hb hzs (by decide) v n xs hs hown ⟨b, 0, none⟩ m c news hx (by omega) hcells hu ?_ ?_ hB ?_
  · simp only [maxLen]; omega
  · have := Nat.mul_le_mul h63 hby; omega
  · intro v' w' h2 h3 _
    exact h v' w' h2 ((Below.refl _ _).grown h3 hB (fun k hk => (hown.lt k hk).1))

theorem flatM_one (ms : List MW) : ∀ u ∈ flatM ms, u.oneCell' = true := fun u hu => by
  obtain ⟨m, _, h⟩ := List.mem_flatMap.1 hu
  simp [modeV] at h
  rcases h with rfl | rfl <;> rfl
theorem OwnM.flat {w : World} {lo hi b c : Nat} {ms : List MW} (h : OwnM w lo hi (some ⟨b, 0, none⟩) c ms) : ∀ j u, (flatM ms)[j]? = some u → w.cell? ⟨b, j, none⟩ = some u := fun j u hu => by
  obtain ⟨⟨h1, h2⟩, h3⟩ := h
  rcases h2 with ⟨h2, _⟩ | ⟨g, cap, cur, e1, e2, e3, e4, e5, e6, e7⟩
  · cases h2
  · injection e1 with q1 q2 q3
    injection q1 with q1
    injection q1 with q1
    subst q1
    have hj : j < ms.length * 2 := by
      rcases Nat.lt_or_ge j (flatM ms).length with h | h
      · omega
      · rw [List.getElem?_eq_none h] at hu; cases hu
    rw [cell_of_row w b j _ _ (0, 0) e3]
    rw [← e7, List.getElem?_take, if_pos hj] at hu
    simpa using hu

def CloneP (lo : Nat) (ms : List MW) (w : World) (e : Ending) (w' : World) : Prop :=
  ∃ (A' : Option Addr) (c' : Nat), e = .returned (.slice A' ms.length c') ∧ OwnM w' lo w'.heap.size A' c' ms ∧ Below w.heap.size w w'
set_option maxRecDepth 100000 in
set_option maxHeartbeats 400000 in
theorem clone_any (A : Option Addr) (c lo hi : Nat) (ms : List MW) (w : World) (h : OwnM w lo hi A c ms) (hl : ms.length ≤ 16) :
    Calls Tryz.prog 39 #[.slice A ms.length c] w (CloneP w.heap.size ms w) := by
  have h2 := h.1.2
  rcases h2 with ⟨h2, h0⟩ | ⟨g, cap, cur, e1, _⟩
  · injection h2 with q1 q2 q3
    subst q1 q3
    have hn : ms = [] := List.eq_nil_of_length_eq_zero h0
    subst hn
    clear h0 q2
    have hq := fun W => Lib.run_eql_slice_nil (P := Tryz.prog) W 56 87 none 0 0 0 0 Tryz.underlying56
    go_enter Tryz.func39, Tryz.ntmps39
    go_wp2_with fail
    go_ret
    exact ⟨none, 0, rfl, ⟨⟨rfl, .inl ⟨rfl, rfl⟩⟩, fun k hk => by cases hk⟩, Below.refl _ _⟩
  · injection e1 with q1 q2 q3
    subst q1 q3
    have HC : Hid (∀ o j u, (flatM ms)[j]? = some u → (w.alloc o).cell? ⟨g, j, none⟩ = some u) := fun o j u hu => by
      have hg : g < w.heap.size := h.1.lt g rfl |>.2
      exact (World.cell?_of_block (Below.heap_alloc w o g hg)).trans (h.flat j u hu)
    have own0 : (w.alloc (.cells #[] 87)).ownsRow w.heap.size 87 2 (.slice (some ⟨w.heap.size, 0, none⟩) 0 0) 0 [] := ⟨by simp, .inr ⟨w.heap.size, 0, #[], rfl, Nat.le_refl _, heap_alloc_new w _, Nat.le_refl _, by simp [maxLen], by simp, by simp⟩⟩
    have b0 : Below w.heap.size w (w.alloc (.cells #[] 87)) := (Below.refl w.heap.size w).alloc (Nat.le_refl _) _
    have hl2 : (flatM ms).length = ms.length * 2 := flatM_len ms
    have HL2 := Lib.hid hl2
    clear h hl2
    have hq := fun W => Lib.run_eql_slice_nil (P := Tryz.prog) W 56 87 (some ⟨g, 0, none⟩) ms.length c 0 0 Tryz.underlying56
    go_enter Tryz.func39, Tryz.ntmps39
    go_wp2_with (at_builtin; refine wpList_appM rfl (.tmp 5) (.tmp 6) 56 rfl w.heap.size 87 (.agg #[.complex .f32 0 0, .complex .f32 0 0]) 16 Tryz.underlying56 mode_info rfl (.slice (some ⟨w.heap.size, 0, none⟩) 0 0) 0 [] g ms.length c (flatM ms) rfl rfl (flatM_one ms) own0 b0.size (HC.out _) HL2.out (by omega) (by omega) ?_; intro v1 w2 hown1 hbel1)
    go_ret
    rw [Nat.zero_add, List.nil_append] at hown1
    have hv : ∃ A' c', v1 = .slice A' ms.length c' := by
      rcases hown1.2 with ⟨rfl, h0⟩ | ⟨G, cap', cur', rfl, _⟩
      · exact ⟨none, 0, by rw [h0]⟩
      · exact ⟨_, _, rfl⟩
    obtain ⟨A', c', rfl⟩ := hv
    exact ⟨A', c', rfl, OwnM.of hown1, b0.trans hbel1⟩

set_option maxRecDepth 100000 in
set_option maxHeartbeats 400000 in
theorem copyBody_any (A : Option Addr) (c lo hi : Nat) (ms : List MW) (w : World) (h : OwnM w lo hi A c ms) (hh : hi ≤ w.heap.size) (hl : ms.length ≤ 16) :
    Calls Tryz.prog 73 #[.agg #[.slice A ms.length c]] w fun e w' => ∃ (A' : Option Addr) (c' : Nat), e = .returned (.agg #[.slice A' ms.length c']) ∧ OwnM w' w.heap.size w'.heap.size A' c' ms ∧ Below w.heap.size w w' := by
  have HB : Hid (Below w.heap.size w ((w.alloc (.cells #[.slice A ms.length c] 68)).alloc (.cells #[.slice none 0 0] 68))) := ((Below.refl w.heap.size w).alloc (Nat.le_refl _) _).alloc (by simp) _
  have H : Hid (OwnM ((w.alloc (.cells #[.slice A ms.length c] 68)).alloc (.cells #[.slice none 0 0] 68)) lo hi A c ms) := h.below HB.out hh
  have hR : ((w.alloc (.cells #[.slice A ms.length c] 68)).alloc (.cells #[.slice none 0 0] 68)).heap[w.heap.size + 1]? = some (.cells #[.slice none 0 0] 68 (0, 0)) := by
    have := heap_alloc_new (w.alloc (.cells #[.slice A ms.length c] 68)) (.cells #[.slice none 0 0] 68)
    simpa using this
  have hsz : w.heap.size + 1 < ((w.alloc (.cells #[.slice A ms.length c] 68)).alloc (.cells #[.slice none 0 0] 68)).heap.size := by simp
  clear h
  go_enter Tryz.func73, Tryz.ntmps73
  go_wp2_with fail
  generalize (w.alloc (.cells #[.slice A ms.length c] 68)).alloc (.cells #[.slice none 0 0] 68) = W at *
  refine (clone_any A c lo hi ms _ H.out hl).mono ?_
  intro e w2 hp
  unfold CloneP at hp
  obtain ⟨A', c', rfl, ho, hb⟩ := hp
  have hR2 := (hb.block _ hsz).trans hR
  have r0 := cell_of_row w2 (w.heap.size + 1) 0 _ _ (0, 0) hR2
  have r1 : w2.frozen? ⟨w.heap.size + 1, 0, none⟩ = false := by unfold World.frozen?; simp only [hR2]; simp
  have HRes : Hid (∀ v, (w2.setCell ⟨w.heap.size + 1, 0, none⟩ v).heap[w.heap.size + 1]? = some (.cells #[v] 68 (0, 0))) := fun v => by
    simp [World.setCell, Array.getElem?_modify, hR2]
  have HB2 : Hid (Below w.heap.size w w2) := HB.out.trans (hb.mono (by omega))
  have HO : Hid (OwnM (w2.setCell ⟨w.heap.size + 1, 0, none⟩ (.slice A' ms.length c')) w.heap.size (w2.setCell ⟨w.heap.size + 1, 0, none⟩ (.slice A' ms.length c')).heap.size A' c' ms) := by
    refine OwnM.of ?_
    obtain ⟨p1, p2⟩ := ho.1
    refine ⟨p1, ?_⟩
    rcases p2 with p2 | ⟨G, cap, cur, q1, q2, q3, q4⟩
    · exact .inl p2
    · exact .inr ⟨G, cap, cur, q1, by omega, (Below.heap_setCell _ _ _ _ (by show G ≠ w.heap.size + 1; omega)).trans q3, q4⟩
  clear ho hb hR hR2
  go_wp2_with fail
  refine bodyPost_ret (results_cell_row rfl _ _ (w.heap.size + 1) 68 #[.slice A' ms.length c'] (0, 0) _ rfl (HRes.out _) Tryz.underlying68 rfl (by kernel_rfl)) rfl ?_
  exact ⟨A', c', rfl, HO.out, HB2.out.setCell (by show w.heap.size ≤ w.heap.size + 1; omega) _⟩
end Go.Proofs.YtndnfhhdflmfcaaGreat

/-
Rows of rows that a call has built by append; rooms as they lie in memory.
-/
namespace Go.Proofs.YtndnfhhdflmfcaaGreat
open Go Go.RowKit Ieee

theorem row_info2 : (Tryz.prog.info? 35).map (fun i => (i.zero, i.size, i.bytes)) = some (some (.slice none 0 0), 1, 24) := by kernel_rfl
theorem owns_stay {w w' : World} {lo n s : Nat} {e : TypeId} {v : Value} {xs : List Value} (h : w.ownsRow lo e s v n xs) (hb : ∀ k, v.ownBlock = some k → w'.heap[k]? = w.heap[k]?) : w'.ownsRow lo e s v n xs := by
  obtain ⟨h1, h2⟩ := h
  refine ⟨h1, ?_⟩
  rcases h2 with h2 | ⟨g, cap, cur, e1, e2, e3, e4⟩
  · exact .inl h2
  · exact .inr ⟨g, cap, cur, e1, e2, (hb g (by rw [e1]; rfl)).trans e3, e4⟩
theorem owns_lower {w : World} {lo lo' n s : Nat} {e : TypeId} {v : Value} {xs : List Value} (h : w.ownsRow lo e s v n xs) (hl : lo' ≤ lo) : w.ownsRow lo' e s v n xs := by
  obtain ⟨h1, h2⟩ := h
  refine ⟨h1, ?_⟩
  rcases h2 with h2 | ⟨g, cap, cur, e1, e2, e3⟩
  · exact .inl h2
  · exact .inr ⟨g, cap, cur, e1, by omega, e3⟩
/-- Rows of numbers, each in a block of its own, gathered in the row 'v'; all blocks from 'lo' on and below 'hi'. -/
structure RowsOwn (w : World) (lo hi : Nat) (v : Value) (rs : List Row) : Prop where
  own : w.ownsRow lo 35 1 v rs.length (rs.map rowV)
  vlt : ∀ k, v.ownBlock = some k → k < hi
  row : ∀ i, i < rs.length → w.ownsRow lo 23 1 (rowV (rowAt rs i)) (rowAt rs i).2.2.length (f32s (rowAt rs i).2.2) ∧ ∀ k, (rowV (rowAt rs i)).ownBlock = some k → k < hi ∧ v.ownBlock ≠ some k
theorem RowsOwn.keep {w w' : World} {lo hi : Nat} {v : Value} {rs : List Row} (h : RowsOwn w lo hi v rs) (hk : ∀ j, lo ≤ j → j < hi → w'.heap[j]? = w.heap[j]?) : RowsOwn w' lo hi v rs :=
  ⟨owns_stay h.own fun k e => hk k (h.own.lt k e).1 (h.vlt k e), h.vlt, fun i hi => ⟨owns_stay (h.row i hi).1 fun k e => hk k ((h.row i hi).1.lt k e).1 ((h.row i hi).2 k e).1, (h.row i hi).2⟩⟩
theorem RowsOwn.raise {w : World} {lo hi hi' : Nat} {v : Value} {rs : List Row} (h : RowsOwn w lo hi v rs) (hh : hi ≤ hi') : RowsOwn w lo hi' v rs :=
  ⟨h.own, fun k e => Nat.lt_of_lt_of_le (h.vlt k e) hh, fun i hi => ⟨(h.row i hi).1, fun k e => ⟨Nat.lt_of_lt_of_le ((h.row i hi).2 k e).1 hh, ((h.row i hi).2 k e).2⟩⟩⟩
theorem RowsOwn.lower {w : World} {lo lo' hi : Nat} {v : Value} {rs : List Row} (h : RowsOwn w lo hi v rs) (hl : lo' ≤ lo) : RowsOwn w lo' hi v rs := ⟨owns_lower h.own hl, h.vlt, fun i hi => ⟨owns_lower (h.row i hi).1 hl, (h.row i hi).2⟩⟩
theorem RowsOwn.nil (w : World) (lo hi : Nat) : RowsOwn w lo hi (.slice none 0 0) [] := ⟨⟨rfl, .inl ⟨rfl, rfl⟩⟩, fun k h => by (cases h), fun i hi => absurd hi (Nat.not_lt_zero _)⟩
theorem rowAt_snoc {rs : List Row} {r : Row} {i : Nat} (hi : i < rs.length) : rowAt (rs ++ [r]) i = rowAt rs i := by
  unfold rowAt
  simp only [List.getD]; rw [List.getElem?_append_left hi]
theorem rowAt_last {rs : List Row} {r : Row} : rowAt (rs ++ [r]) rs.length = r := by
  unfold rowAt
  simp
/-- A row appended. -/
theorem RowsOwn.app {w w' : World} {lo lo1 hi g cap : Nat} {v : Value} {rs : List Row} {r : Row} (h : RowsOwn w lo hi v rs) (h1 : lo ≤ lo1) (h2 : hi ≤ lo1) (hr : w.ownsRow lo1 23 1 (rowV r) r.2.2.length (f32s r.2.2))
    (hown : w'.ownsRow lo 35 1 (.slice (some ⟨g, 0, none⟩) (rs.length + 1) cap) (rs.length + 1) (rs.map rowV ++ [rowV r])) (hg : w.grownBy w' v.ownBlock) (hor : v.ownBlock = some g ∨ w.heap.size ≤ g) (hlt : g < w'.heap.size) (hh : hi ≤ w.heap.size) :
    RowsOwn w' lo w'.heap.size (.slice (some ⟨g, 0, none⟩) (rs.length + 1) cap) (rs ++ [r]) := by
  refine ⟨by simpa using hown, fun k e => ?_, fun i hi => ?_⟩
  · injection e with e
    subst e; exact hlt
  · have hsz := hg.size
    rcases Nat.lt_or_ge i rs.length with hi' | hi'
    · rw [rowAt_snoc hi']
      obtain ⟨o, b⟩ := h.row i hi'
      refine ⟨owns_stay o fun k e => hg.block k (by have := (b k e).1; omega) (fun q => (b k e).2 q.symm), fun k e => ⟨by have := (b k e).1; omega, fun q => ?_⟩⟩
      injection q with q
      rcases hor with hor | hor
      · exact (b k e).2 (by rw [hor, ← q])
      · have q' : g = k := q
        have := (b k e).1; omega
    · have hn : i = rs.length := by simp at hi; omega
      subst hn
      rw [rowAt_last]
      have ne : ∀ k, (rowV r).ownBlock = some k → v.ownBlock ≠ some k := fun k e q => by have := h.vlt k q; have := (hr.lt k e).1; omega
      refine ⟨owns_lower (owns_stay hr fun k e => hg.block k (hr.lt k e).2 (fun q => ne k e q.symm)) h1, fun k e => ⟨by have := (hr.lt k e).2; omega, fun q => ?_⟩⟩
      injection q with q
      have q' : g = k := q
      rcases hor with hor | hor
      · exact ne k e (by rw [hor, q'])
      · have := (hr.lt k e).2; omega
theorem RowsOwn.form {w : World} {lo hi : Nat} {v : Value} {rs : List Row} (h : RowsOwn w lo hi v rs) : ∃ A c, v = .slice A rs.length c ∧ RdSS w A rs ∧ ((A = none ∧ rs.length = 0 ∧ c = 0) ∨ ∃ g, A = some ⟨g, 0, none⟩ ∧ rs.length ≤ c ∧ c ≤ maxLen) := by
  obtain ⟨A, c, hv, _, hr⟩ := own_rd h.own
  refine ⟨A, c, hv, ⟨hr, fun i hi => ?_⟩, ?_⟩
  · obtain ⟨o, _⟩ := h.row i hi
    obtain ⟨A', c', q, _, rd⟩ := own_rd o
    unfold rowV at q
    injection q with q1 _ _
    rw [q1]; exact rd
  · rcases h.own.2 with ⟨q, h0⟩ | ⟨g, cap, cur, q, _, _, h1, h2, _⟩
    · rw [hv] at q
      injection q with q1 q2 q3
      exact .inl ⟨q1, h0, q3⟩
    · rw [hv] at q
      injection q with q1 q2 q3
      exact .inr ⟨g, q1, by omega, by omega⟩

/-- Rows of weights, one for each mode. -/
def RShaped (ms : List MW) (rs : List Row) : Prop := ∀ i, i < rs.length → (rowAt rs i).2.2.length = ms.length ∧ ∀ k, k < ms.length → Wt ((rowAt rs i).2.2.getD k 0)
def roomV (A : Option Addr) (c : Nat) (ms : List MW) (B : Option Addr) (d : Nat) (rs : List Row) : Value := .agg #[.slice A ms.length c, .slice B rs.length d]
/-- A valid room. -/
structure RoomIn (w : World) (lo hi : Nat) (A : Option Addr) (c : Nat) (ms : List MW) (B : Option Addr) (rs : List Row) : Prop where
  own : OwnM w lo hi A c ms
  hh : hi ≤ w.heap.size
  rows : RdSS w B rs
theorem RoomIn.below {w w' : World} {lo hi : Nat} {A : Option Addr} {c : Nat} {ms : List MW} {B : Option Addr} {rs : List Row} (h : RoomIn w lo hi A c ms B rs) (hb : Below w.heap.size w w') : RoomIn w' lo hi A c ms B rs :=
  ⟨h.own.below hb h.hh, Nat.le_trans h.hh hb.size, h.rows.below hb⟩
theorem RoomIn.drewN {w : World} {lo hi : Nat} {A : Option Addr} {c : Nat} {ms : List MW} {B : Option Addr} {rs : List Row} (h : RoomIn w lo hi A c ms B rs) (n : Nat) : RoomIn (w.drewN n) lo hi A c ms B rs := h.below (below_drewN (Below.refl _ _) n)
structure RoomOk (ms : List MW) (rs : List Row) (m n : Nat) : Prop where
  ok : ModesOk ms
  lm : ms.length ≤ m
  ln : rs.length ≤ n
  sh : RShaped ms rs
theorem r_cells {W : World} {M : Nat} {x y : Value} {t : TypeId} (h : W.heap[M]? = some (.cells #[x, y] t (0, 0))) :
    W.cell? ⟨M, 0, none⟩ = some x ∧ W.cell? ⟨M, 1, none⟩ = some y ∧ W.frozen? ⟨M, 0, none⟩ = false ∧ W.frozen? ⟨M, 1, none⟩ = false :=
  ⟨cell_of_row W M 0 _ _ (0, 0) h, cell_of_row W M 1 _ _ (0, 0) h, by unfold World.frozen?; simp only [h]; simp, by unfold World.frozen?; simp only [h]; simp⟩
end Go.Proofs.YtndnfhhdflmfcaaGreat

/-
Scores as they lie in memory: rows of bodies, each body's modes in a block of its own; rows of events.
-/
namespace Go.Proofs.YtndnfhhdflmfcaaGreat
open Go Go.RowKit Ieee

theorem body_info : (Tryz.prog.info? 68).map (fun i => (i.zero, i.size, i.bytes)) = some (some (.agg #[.slice none 0 0]), 1, 24) := by kernel_rfl
/-- A body: where its modes lie, the capacity, the modes. -/
abbrev Bd := Option Addr × Nat × List MW
def bodV (b : Bd) : Value := .slice b.1 b.2.2.length b.2.1
def bodAt (bs : List Bd) (i : Nat) : Bd := bs.getD i (none, 0, [])
/-- Bodies gathered in the row 'v', the modes of each in a block of its own; all blocks from 'lo' on and below 'hi'. -/
structure BodsOwn (w : World) (lo hi : Nat) (v : Value) (bs : List Bd) : Prop where
  own : w.ownsRow lo 68 1 v bs.length (bs.map bodV)
  vlt : ∀ k, v.ownBlock = some k → k < hi
  row : ∀ i, i < bs.length → w.ownsRow lo 87 2 (bodV (bodAt bs i)) (bodAt bs i).2.2.length (flatM (bodAt bs i).2.2) ∧ ∀ k, (bodV (bodAt bs i)).ownBlock = some k → k < hi ∧ v.ownBlock ≠ some k
theorem BodsOwn.keep {w w' : World} {lo hi : Nat} {v : Value} {bs : List Bd} (h : BodsOwn w lo hi v bs) (hk : ∀ j, lo ≤ j → j < hi → w'.heap[j]? = w.heap[j]?) : BodsOwn w' lo hi v bs :=
  ⟨owns_stay h.own fun k e => hk k (h.own.lt k e).1 (h.vlt k e), h.vlt, fun i hi => ⟨owns_stay (h.row i hi).1 fun k e => hk k ((h.row i hi).1.lt k e).1 ((h.row i hi).2 k e).1, (h.row i hi).2⟩⟩
theorem BodsOwn.raise {w : World} {lo hi hi' : Nat} {v : Value} {bs : List Bd} (h : BodsOwn w lo hi v bs) (hh : hi ≤ hi') : BodsOwn w lo hi' v bs :=
  ⟨h.own, fun k e => Nat.lt_of_lt_of_le (h.vlt k e) hh, fun i hi => ⟨(h.row i hi).1, fun k e => ⟨Nat.lt_of_lt_of_le ((h.row i hi).2 k e).1 hh, ((h.row i hi).2 k e).2⟩⟩⟩
theorem BodsOwn.lower {w : World} {lo lo' hi : Nat} {v : Value} {bs : List Bd} (h : BodsOwn w lo hi v bs) (hl : lo' ≤ lo) : BodsOwn w lo' hi v bs := ⟨owns_lower h.own hl, h.vlt, fun i hi => ⟨owns_lower (h.row i hi).1 hl, (h.row i hi).2⟩⟩
theorem BodsOwn.nil (w : World) (lo hi : Nat) : BodsOwn w lo hi (.slice none 0 0) [] := ⟨⟨rfl, .inl ⟨rfl, rfl⟩⟩, fun k h => by (cases h), fun i hi => absurd hi (Nat.not_lt_zero _)⟩
theorem bodAt_snoc {bs : List Bd} {r : Bd} {i : Nat} (hi : i < bs.length) : bodAt (bs ++ [r]) i = bodAt bs i := by
  unfold bodAt
  simp only [List.getD]; rw [List.getElem?_append_left hi]
theorem bodAt_last {bs : List Bd} {r : Bd} : bodAt (bs ++ [r]) bs.length = r := by
  unfold bodAt
  simp
/-- A body appended. -/
theorem BodsOwn.app {w w' : World} {lo lo1 hi g cap : Nat} {v : Value} {bs : List Bd} {r : Bd} (h : BodsOwn w lo hi v bs) (h1 : lo ≤ lo1) (h2 : hi ≤ lo1) (hr : w.ownsRow lo1 87 2 (bodV r) r.2.2.length (flatM r.2.2))
    (hown : w'.ownsRow lo 68 1 (.slice (some ⟨g, 0, none⟩) (bs.length + 1) cap) (bs.length + 1) (bs.map bodV ++ [bodV r])) (hg : w.grownBy w' v.ownBlock) (hor : v.ownBlock = some g ∨ w.heap.size ≤ g) (hlt : g < w'.heap.size) (hh : hi ≤ w.heap.size) :
    BodsOwn w' lo w'.heap.size (.slice (some ⟨g, 0, none⟩) (bs.length + 1) cap) (bs ++ [r]) := by
  refine ⟨by simpa using hown, fun k e => ?_, fun i hi => ?_⟩
  · injection e with e
    subst e; exact hlt
  · have hsz := hg.size
    rcases Nat.lt_or_ge i bs.length with hi' | hi'
    · rw [bodAt_snoc hi']
      obtain ⟨o, b⟩ := h.row i hi'
      refine ⟨owns_stay o fun k e => hg.block k (by have := (b k e).1; omega) (fun q => (b k e).2 q.symm), fun k e => ⟨by have := (b k e).1; omega, fun q => ?_⟩⟩
      injection q with q
      rcases hor with hor | hor
      · exact (b k e).2 (by rw [hor, ← q])
      · have q' : g = k := q
        have := (b k e).1; omega
    · have hn : i = bs.length := by simp at hi; omega
      subst hn
      rw [bodAt_last]
      have ne : ∀ k, (bodV r).ownBlock = some k → v.ownBlock ≠ some k := fun k e q => by have := h.vlt k q; have := (hr.lt k e).1; omega
      refine ⟨owns_lower (owns_stay hr fun k e => hg.block k (hr.lt k e).2 (fun q => ne k e q.symm)) h1, fun k e => ⟨by have := (hr.lt k e).2; omega, fun q => ?_⟩⟩
      injection q with q
      have q' : g = k := q
      rcases hor with hor | hor
      · exact ne k e (by rw [hor, q'])
      · have := (hr.lt k e).2; omega
/-- Bodies that can be read. -/
structure BodsIn (w : World) (lo hi : Nat) (A : Option Addr) (bs : List Bd) : Prop where
  rd : Rd w A (bs.map bodV)
  row : ∀ i, i < bs.length → OwnM w lo hi (bodAt bs i).1 (bodAt bs i).2.1 (bodAt bs i).2.2
  hh : hi ≤ w.heap.size
theorem BodsIn.below {w w' : World} {lo hi : Nat} {A : Option Addr} {bs : List Bd} (h : BodsIn w lo hi A bs) (hb : Below w.heap.size w w') : BodsIn w' lo hi A bs :=
  ⟨h.rd.below hb, fun i hi' => (h.row i hi').below hb h.hh, Nat.le_trans h.hh hb.size⟩
theorem BodsIn.drewN {w : World} {lo hi : Nat} {A : Option Addr} {bs : List Bd} (h : BodsIn w lo hi A bs) (n : Nat) : BodsIn (w.drewN n) lo hi A bs := h.below (below_drewN (Below.refl _ _) n)
theorem BodsOwn.form {w : World} {lo hi : Nat} {v : Value} {bs : List Bd} (h : BodsOwn w lo hi v bs) (hh : hi ≤ w.heap.size) : ∃ A c, v = .slice A bs.length c ∧ BodsIn w lo hi A bs := by
  obtain ⟨A, c, hv, _, hr⟩ := own_rd h.own
  exact ⟨A, c, hv, hr, fun i hi' => ⟨(h.row i hi').1, fun k e => ((h.row i hi').2 k e).1⟩, hh⟩

/-- Events that lie from a block on. -/
def OwnE (w : World) (lo hi : Nat) (A : Option Addr) (c : Nat) (L : List Ev) : Prop :=
  w.ownsRow lo 71 6 (.slice A L.length c) L.length (flatE L) ∧ ∀ k, (Value.slice A L.length c).ownBlock = some k → k < hi
theorem flatE_len (L : List Ev) : (flatE L).length = L.length * 6 := by
  induction L with
  | nil => rfl
  | cons m L ih => simp [flatE, evV] at ih ⊢; omega
theorem flatE_snoc (L : List Ev) (e : Ev) : flatE L ++ evV e = flatE (L ++ [e]) := by simp [flatE]
theorem flatE_at {L : List Ev} {i : Nat} (h : i < L.length) : (flatE L)[i * 6]? = some (.int .i64 (eAt L i).1) ∧ (flatE L)[i * 6 + 1]? = some (.int .i64 (eAt L i).2.1) ∧ (flatE L)[i * 6 + 2]? = some (.int .i64 (eAt L i).2.2.1) ∧
    (flatE L)[i * 6 + 3]? = some (.int .i64 (eAt L i).2.2.2.1) ∧ (flatE L)[i * 6 + 4]? = some (.int .i64 (eAt L i).2.2.2.2.1) ∧ (flatE L)[i * 6 + 5]? = some (.float .f32 (eAt L i).2.2.2.2.2) := by
  induction L generalizing i with
  | nil => simp at h
  | cons m L ih =>
    cases i with
    | zero => exact ⟨rfl, rfl, rfl, rfl, rfl, rfl⟩
    | succ i =>
      have h2 := ih (i := i) (by simpa using h)
      have e1 : (i + 1) * 6 = i * 6 + 6 := by omega
      rw [e1]
      exact h2
theorem OwnE.keep {w w' : World} {lo hi : Nat} {A : Option Addr} {c : Nat} {L : List Ev} (h : OwnE w lo hi A c L) (hk : ∀ j, lo ≤ j → j < hi → w'.heap[j]? = w.heap[j]?) : OwnE w' lo hi A c L := by
  obtain ⟨h1, h3⟩ := h
  exact ⟨owns_stay h1 fun k e => hk k (h1.lt k e).1 (h3 k e), h3⟩
theorem OwnE.below {w w' : World} {lo hi B : Nat} {A : Option Addr} {c : Nat} {L : List Ev} (h : OwnE w lo hi A c L) (hb : Below B w w') (hB : hi ≤ B) : OwnE w' lo hi A c L :=
  h.keep fun j _ hj => hb.block j (by omega)
theorem OwnE.of {w : World} {lo : Nat} {A : Option Addr} {c : Nat} {L : List Ev} (h : w.ownsRow lo 71 6 (.slice A L.length c) L.length (flatE L)) : OwnE w lo w.heap.size A c L := ⟨h, fun k e => (h.lt k e).2⟩
/-- What its cells hold. -/
theorem OwnE.cells {w : World} {lo hi : Nat} {A : Option Addr} {c : Nat} {L : List Ev} (h : OwnE w lo hi A c L) (h0 : 0 < L.length) : ∃ b, A = some ⟨b, 0, none⟩ ∧ lo ≤ b ∧ b < hi ∧ b < w.heap.size ∧ L.length ≤ c ∧ c ≤ maxLen ∧
    ∀ i, i < L.length → w.cell? ⟨b, i * 6, none⟩ = some (.int .i64 (eAt L i).1) ∧ w.cell? ⟨b, i * 6 + 1, none⟩ = some (.int .i64 (eAt L i).2.1) ∧ w.cell? ⟨b, i * 6 + 2, none⟩ = some (.int .i64 (eAt L i).2.2.1) ∧
      w.cell? ⟨b, i * 6 + 3, none⟩ = some (.int .i64 (eAt L i).2.2.2.1) ∧ w.cell? ⟨b, i * 6 + 4, none⟩ = some (.int .i64 (eAt L i).2.2.2.2.1) ∧ w.cell? ⟨b, i * 6 + 5, none⟩ = some (.float .f32 (eAt L i).2.2.2.2.2) := by
  obtain ⟨⟨h1, h2⟩, h3⟩ := h
  rcases h2 with ⟨_, h2⟩ | ⟨g, cap, cur, e1, e2, e3, e4, e5, e6, e7⟩
  · omega
  · injection e1 with q1 q2 q3
    subst q1 q3
    refine ⟨g, rfl, e2, h3 g rfl, lt_of_some e3, e4, e5, fun i hi => ?_⟩
    obtain ⟨f0, f1, f2, f3, f4, f5⟩ := flatE_at hi
    have key : ∀ j u, j < L.length * 6 → (flatE L)[j]? = some u → w.cell? ⟨g, j, none⟩ = some u := fun j u hj hu => by
      rw [cell_of_row w g j _ _ (0, 0) e3]
      rw [← e7, List.getElem?_take, if_pos hj] at hu
      simpa using hu
    exact ⟨key _ _ (by omega) f0, key _ _ (by omega) f1, key _ _ (by omega) f2, key _ _ (by omega) f3, key _ _ (by omega) f4, key _ _ (by omega) f5⟩
theorem owns_form {w : World} {lo n k : Nat} {e : TypeId} {v : Value} {xs : List Value} (h : w.ownsRow lo e k v n xs) : ∃ A c, v = .slice A n c := by
  rcases h.2 with ⟨rfl, rfl⟩ | ⟨g, cap, cur, rfl, _⟩
  · exact ⟨none, 0, rfl⟩
  · exact ⟨_, cap, rfl⟩
theorem evV_one (e : Ev) : ∀ u ∈ evV e, u.oneCell' = true := fun u hu => by
  simp [evV] at hu
  rcases hu with rfl | rfl | rfl | rfl | rfl | rfl <;> rfl
end Go.Proofs.YtndnfhhdflmfcaaGreat

/-
A region that draws its order, ends in a store, and loads what that store writes: 'S', the condition under which a load may be taken first, is not asked behind the last operation (number 'k'), which waits for the loads.
(After the library's Derived/OrdersHeld.lean: there S is asked behind every operation.)
-/
namespace Go.Proofs.YtndnfhhdflmfcaaGreat
open Go Go.RowKit

section
variable {P : Program} {ops : Array Oper} {Q : Exit → Act → World → Prop} {md : Region.Mode} {S : World → Prop} {k : Nat}

/-- Whatever order is picked from here on; behind each operation but number 'k' S holds. -/
def wpAnyX (P : Program) (md : Region.Mode) (ops : Array Oper) (Q : Exit → Act → World → Prop) (S : World → Prop) (k : Nat) : Nat → Array Bool → Act → World → Prop
  | 0, listed, a, w => Region.ready md ops listed = [] ∧ Q .normal a w
  | fuel + 1, listed, a, w =>
    (Region.ready md ops listed = [] → Q .normal a w) ∧
    ∀ i ∈ Region.ready md ops listed, wpOp P ops Q i (fun a' w' => (i = k ∨ S w') ∧ wpAnyX P md ops Q S k fuel (listed.setIfInBounds i true) a' w') a w

theorem wpAny_of_x : ∀ (fuel : Nat) (listed : Array Bool) (a : Act) (w : World), wpAnyX P md ops Q S k fuel listed a w → wpAny P md ops Q fuel listed a w
  | 0, _, _, _, h => h
  | fuel + 1, _, _, _, h => ⟨h.1, fun i hi => wpOp_mono (fun a' w' h' => wpAny_of_x fuel _ a' w' h'.2) (h.2 i hi)⟩

/-- The operations 'D' wait for 'i', each for another one of them; the last one is among them; none has come up. -/
def waitsB (md : Region.Mode) (ops : Array Oper) (D : List Nat) (i k : Nat) (listed : Array Bool) : Bool :=
  D.contains k && (i != k) && D.all (fun j => !(listed.getD j true)) && D.all (fun j => j == i || match ops[j]? with | some o => o.after.any (fun e => Region.binds md e && D.contains e.on) | none => true)
theorem waitsB_spec {D : List Nat} {i : Nat} {listed : Array Bool} (h : waitsB md ops D i k listed = true) :
    k ∈ D ∧ i ≠ k ∧ (∀ j ∈ D, listed.getD j true = false) ∧ (∀ j ∈ D, j ≠ i → ∀ o, ops[j]? = some o → ∃ e ∈ o.after, Region.binds md e = true ∧ e.on ∈ D) := by
  unfold waitsB at h
  rw [Bool.and_eq_true, Bool.and_eq_true, Bool.and_eq_true] at h
  obtain ⟨⟨⟨h1, h2⟩, h3⟩, h4⟩ := h
  refine ⟨List.contains_iff_mem.1 h1, by simpa using h2, fun j hj => ?_, fun j hj hne o ho => ?_⟩
  · have := List.all_eq_true.1 h3 j hj
    simpa using this
  · have := List.all_eq_true.1 h4 j hj
    rw [ho] at this
    simp only [Bool.or_eq_true, beq_iff_eq] at this
    rcases this with h | h
    · exact absurd h hne
    · rw [Array.any_eq_true'] at h
      obtain ⟨e, he, hb⟩ := h
      rw [Bool.and_eq_true] at hb
      exact ⟨e, he, hb.1, List.contains_iff_mem.1 hb.2⟩

theorem wpAnyX_first {i : Nat} {oi : Oper} {v : Value} {D : List Nat} (hi : ops[i]? = some oi) (hsel : ∀ (j : Nat) (o : Oper) cs b, ops[j]? = some o → o.op ≠ .select cs b)
    (hQ : ∀ c a w, Q (.panic c) (a.put oi.dst v) w → Q (.panic c) a w) (hkD : k ∈ D) (hD : ∀ j ∈ D, j ≠ i → ∀ o, ops[j]? = some o → ∃ e ∈ o.after, Region.binds md e = true ∧ e.on ∈ D) :
    ∀ (fuel : Nat) (listed : Array Bool) (a : Act) (w : World),
      (∀ j oj, ops[j]? = some oj → j ≠ i → listed.getD j true = false → (∀ e ∈ oj.after, Region.binds md e = true → e.on ≠ i) → oi.apart ops oj = true) →
      (∀ j ∈ D, listed.getD j true = false) →
      i ∈ Region.ready md ops listed → YieldsIf P ops S oi v a → S w →
      wpAnyX P md ops Q S k fuel (listed.setIfInBounds i true) (a.put oi.dst v) w → wpAnyX P md ops Q S k (fuel + 1) listed a w := by
  intro fuel
  induction fuel with
  | zero =>
    intro listed a w _ _ hr hy hS H
    refine ⟨fun h => (by rw [h] at hr; cases hr), fun j hj => ?_⟩
    by_cases hji : j = i
    · subst hji; exact hy.wpOp hi hS ⟨.inr hS, H⟩
    · have := ready_mono hj hji
      rw [H.1] at this
      cases this
  | succ fuel ih =>
    intro listed a w hfree hun hr hy hS H
    refine ⟨fun h => (by rw [h] at hr; cases hr), fun j hj => ?_⟩
    by_cases hji : j = i
    · subst hji; exact hy.wpOp hi hS ⟨.inr hS, H⟩
    · have h1 := H.2 j (ready_mono hj hji)
      obtain ⟨hjun, oj, hoj, hall⟩ := mem_ready.1 hj
      have hun' : ∀ e : Nat, listed[e]? = some true → listed.getD e true = false → False := fun e h1 h0 => by
        rcases Nat.lt_or_ge e listed.size with h' | h'
        · simp [h'] at h0 h1; rw [h0] at h1; cases h1
        · simp [Array.getElem?_eq_none h'] at h1
      have hnot : ∀ e ∈ oj.after, Region.binds md e = true → e.on ≠ i := fun e he hb heq => by
        have h1 := hall e he hb
        have h0 := (mem_ready.1 hr).1
        rw [heq] at h1
        rcases Nat.lt_or_ge i listed.size with h' | h'
        · simp [h'] at h0 h1; rw [h0] at h1; cases h1
        · simp [Array.getElem?_eq_none h'] at h1
      have hjD : j ∉ D := fun hm => by
        obtain ⟨e, he, hb, hon⟩ := hD j hm hji oj hoj
        have h1 := hall e he hb
        have h0 := hun _ hon
        rcases Nat.lt_or_ge e.on listed.size with h' | h'
        · simp [h'] at h0 h1; rw [h0] at h1; cases h1
        · simp [Array.getElem?_eq_none h'] at h1
      have hjk : j ≠ k := fun e => hjD (e ▸ hkD)
      have h2 := wpOp_putIf hoj (hfree j oj hoj hji hjun hnot) (fun cs b => hsel i oi cs b hi) (fun cs b => hsel j oj cs b hoj) hQ hy h1
      have hfree' : ∀ k ok, ops[k]? = some ok → k ≠ i → (listed.setIfInBounds j true).getD k true = false →
          (∀ e ∈ ok.after, Region.binds md e = true → e.on ≠ i) → oi.apart ops ok = true := fun k ok hk hki hun hno => by
        refine hfree k ok hk hki ?_ hno
        by_cases hjk : j = k
        · subst hjk; exact hjun
        · rw [getD_set_ne true hjk] at hun; exact hun
      have hunj : ∀ d ∈ D, (listed.setIfInBounds j true).getD d true = false := fun d hd => by
        have hne : j ≠ d := fun e => hjD (e ▸ hd)
        rw [getD_set_ne true hne]; exact hun d hd
      refine wpOp_mono (fun a' w' h3 => ?_) h2
      have hS' : S w' := h3.2.1.resolve_left hjk
      refine ⟨.inr hS', ih (listed.setIfInBounds j true) a' w' hfree' hunj (ready_mono hr (Ne.symm hji)) h3.1 hS' ?_⟩
      rw [Array.setIfInBounds_comm _ _ hji]
      exact h3.2.2

/-- Take number 'i' first. -/
theorem wpAnyX_take (D : List Nat) {i : Nat} {oi : Oper} {v : Value} {fuel : Nat} {listed : Array Bool} {a : Act} {w : World} (hi : ops[i]? = some oi)
    (hs : Region.noSelect ops = true) (hf : Region.free md ops listed i = true) (hr : (Region.ready md ops listed).contains i = true) (hw : waitsB md ops D i k listed = true)
    (hQ : ∀ c a w, Q (.panic c) (a.put oi.dst v) w → Q (.panic c) a w) (hy : YieldsIf P ops S oi v a) (hS : S w)
    (h : wpAnyX P md ops Q S k fuel (listed.setIfInBounds i true) (a.put oi.dst v) w) : wpAnyX P md ops Q S k (fuel + 1) listed a w := by
  obtain ⟨h1, _, h3, h4⟩ := waitsB_spec hw
  exact wpAnyX_first hi (Region.noSelect_spec hs) hQ h1 h4 fuel listed a w (Region.free_spec hi hf) h3 (by simpa using hr) hy hS h

/-- Number 'i' alone may come up, and is not the last one. -/
theorem wpAnyX_ready {i : Nat} {o : Oper} {fuel : Nat} {listed : Array Bool} {a : Act} {w : World} (hr : Region.ready md ops listed = [i]) (ho : ops[i]? = some o)
    (h : ∀ K' : Act → World → Prop, Shut (∀ a w, S w → (S w → wpAnyX P md ops Q S k fuel (listed.setIfInBounds i true) a w) → K' a w) → if Region.wanted o (yielded ops a.tmps) = true then Oper.wp P o a w K' Q else K' (a.put o.dst undef) w) :
    wpAnyX P md ops Q S k (fuel + 1) listed a w :=
  ⟨fun h0 => (by rw [hr] at h0; cases h0), fun j hj => by
    rw [hr] at hj
    obtain rfl : j = i := by simpa using hj
    exact wpOp_step ho (fun K' hK => h K' (fun a w hS hW => hK a w ⟨.inr hS, hW hS⟩))⟩
/-- Two may come up, neither of them the last one. -/
theorem wpAnyX_ready2 {i j : Nat} {oi oj : Oper} {fuel : Nat} {listed : Array Bool} {a : Act} {w : World} (hr : Region.ready md ops listed = [i, j]) (hoi : ops[i]? = some oi) (hoj : ops[j]? = some oj)
    (hi : ∀ K' : Act → World → Prop, Shut (∀ a w, S w → (S w → wpAnyX P md ops Q S k fuel (listed.setIfInBounds i true) a w) → K' a w) → if Region.wanted oi (yielded ops a.tmps) = true then Oper.wp P oi a w K' Q else K' (a.put oi.dst undef) w)
    (hj : ∀ K' : Act → World → Prop, Shut (∀ a w, S w → (S w → wpAnyX P md ops Q S k fuel (listed.setIfInBounds j true) a w) → K' a w) → if Region.wanted oj (yielded ops a.tmps) = true then Oper.wp P oj a w K' Q else K' (a.put oj.dst undef) w) :
    wpAnyX P md ops Q S k (fuel + 1) listed a w :=
  ⟨fun h0 => (by rw [hr] at h0; cases h0), fun q hq => by
    rw [hr] at hq
    simp only [List.mem_cons, List.not_mem_nil, or_false] at hq
    rcases hq with rfl | rfl
    · exact wpOp_step hoi (fun K' hK => hi K' (fun a w hS hW => hK a w ⟨.inr hS, hW hS⟩))
    · exact wpOp_step hoj (fun K' hK => hj K' (fun a w hS hW => hK a w ⟨.inr hS, hW hS⟩))⟩
/-- The last one. -/
theorem wpAnyX_last {o : Oper} {fuel : Nat} {listed : Array Bool} {a : Act} {w : World} (hr : Region.ready md ops listed = [k]) (ho : ops[k]? = some o)
    (h : ∀ K' : Act → World → Prop, Shut (∀ a w, wpAnyX P md ops Q S k fuel (listed.setIfInBounds k true) a w → K' a w) → if Region.wanted o (yielded ops a.tmps) = true then Oper.wp P o a w K' Q else K' (a.put o.dst undef) w) :
    wpAnyX P md ops Q S k (fuel + 1) listed a w :=
  ⟨fun h0 => (by rw [hr] at h0; cases h0), fun j hj => by
    rw [hr] at hj
    obtain rfl : j = k := by simpa using hj
    exact wpOp_step ho (fun K' hK => h K' (fun a w hW => hK a w ⟨.inl rfl, hW⟩))⟩
theorem wpAnyX_done {listed : Array Bool} {a : Act} {w : World} (hr : Region.ready md ops listed = []) (h : Q .normal a w) : ∀ fuel, wpAnyX P md ops Q S k fuel listed a w
  | 0 => ⟨hr, h⟩
  | _ + 1 => ⟨fun _ => h, by rw [hr]; simp⟩
/-- The beginning. -/
theorem wp_region_last (S : World → Prop) (k : Nat) {id : Nat} {a : Act} {w : World} (hm : P.follows .mixedOrders = true) (hS : S w.drew)
    (h : S w.drew → wpAnyX P .any ops Q S k ops.size (Array.replicate ops.size false) a w.drew) : (Code.region id ops true).wp P Q a w :=
  wp_region_any hm (wpAny_of_x _ _ _ _ (h hS))
end
end Go.Proofs.YtndnfhhdflmfcaaGreat

/-
spec.l7Score, spec.MakeScore: a valid score.
(Printed by wip/tools/gscore.py out of score_base.txt.)
-/
namespace Go.Proofs.YtndnfhhdflmfcaaGreat
open Go Go.RowKit Ieee

/-- The plain parts of a score: its length, voices, ceiling, release. -/
abbrev Sh := Int × Int × Nat × Nat
structure ShOk (most : Int) (s : Sh) : Prop where
  l0 : 0 ≤ s.1
  l1 : s.1 ≤ most
  v0 : 1 ≤ s.2.1
  v1 : s.2.1 ≤ 4
  lim : limOk s.2.2.1 s.2.2.2 = true
  cw : wfk .f32 s.2.2.1
  rw : wfk .f32 s.2.2.2
def BodsOk (bs : List Bd) (m n : Nat) : Prop := bs.length ≤ n ∧ ∀ i, i < bs.length → ModesOk (bodAt bs i).2.2 ∧ (bodAt bs i).2.2.length ≤ m
def EvsOk (L : Int) (nb : Nat) (evs : List Ev) (n : Nat) : Prop := evs.length ≤ n ∧ ∀ e ∈ evs, EvOk L nb e
/-- The state of spec.l7Score. -/
structure SSc (w wr : World) (g q L : Nat) (s : Sh) (vB : Value) (bs : List Bd) (vE : Value) (evs : List Ev) : Prop where
  cur : Cur wr g
  gr : w.grownBy wr (some g)
  hg : g < w.heap.size
  q0 : w.heap.size < q
  qL : q < L
  Ls : L ≤ wr.heap.size
  r : wr.heap[w.heap.size]? = some (.cells #[.int .i64 0, .int .i64 0, .float .f32 0, .float .f32 0, .slice none 0 0, .slice none 0 0] 27 (0, 0))
  b : wr.heap[q]? = some (.cells #[.int .i64 s.1, .int .i64 s.2.1, .float .f32 s.2.2.1, .float .f32 s.2.2.2, vB, vE] 27 (0, 0))
  bods : BodsOwn wr (q + 1) L vB bs
  bok : ∀ i, i < bs.length → ModesOk (bodAt bs i).2.2 ∧ (bodAt bs i).2.2.length ≤ 4
  evr : wr.ownsRow L 71 6 vE evs.length (flatE evs)
  eok : ∀ e ∈ evs, EvOk s.1 bs.length e
theorem sc_cells {W : World} {M : Nat} {a b c d e f : Value} {t : TypeId} (h : W.heap[M]? = some (.cells #[a, b, c, d, e, f] t (0, 0))) :
    W.cell? ⟨M, 0, none⟩ = some a ∧ W.cell? ⟨M, 1, none⟩ = some b ∧ W.cell? ⟨M, 2, none⟩ = some c ∧ W.cell? ⟨M, 3, none⟩ = some d ∧ W.cell? ⟨M, 4, none⟩ = some e ∧ W.cell? ⟨M, 5, none⟩ = some f :=
  ⟨cell_of_row W M 0 _ _ (0, 0) h, cell_of_row W M 1 _ _ (0, 0) h, cell_of_row W M 2 _ _ (0, 0) h, cell_of_row W M 3 _ _ (0, 0) h, cell_of_row W M 4 _ _ (0, 0) h, cell_of_row W M 5 _ _ (0, 0) h⟩
theorem sc_free {W : World} {M : Nat} {cs : Array Value} {t : TypeId} (h : W.heap[M]? = some (.cells cs t (0, 0))) :
    W.frozen? ⟨M, 0, none⟩ = false ∧ W.frozen? ⟨M, 1, none⟩ = false ∧ W.frozen? ⟨M, 2, none⟩ = false ∧ W.frozen? ⟨M, 3, none⟩ = false ∧ W.frozen? ⟨M, 4, none⟩ = false ∧ W.frozen? ⟨M, 5, none⟩ = false :=
  ⟨free_cells h 0, free_cells h 1, free_cells h 2, free_cells h 3, free_cells h 4, free_cells h 5⟩
section
variable {w wr wr' : World} {g q L : Nat} {s : Sh} {vB vE : Value} {bs : List Bd} {evs : List Ev}
theorem SSc.keep (h : SSc w wr g q L s vB bs vE evs) (hcur : Cur wr' g) (hgr : w.grownBy wr' (some g)) (hs : wr.heap.size ≤ wr'.heap.size) (hk : ∀ j, j < wr.heap.size → j ≠ g → wr'.heap[j]? = wr.heap[j]?) : SSc w wr' g q L s vB bs vE evs := by
  have hg := h.hg
  have q0 := h.q0
  have qL := h.qL
  have Ls := h.Ls
  exact ⟨hcur, hgr, hg, q0, qL, Nat.le_trans Ls hs, (hk _ (by omega) (by omega)).trans h.r, (hk _ (by omega) (by omega)).trans h.b, h.bods.keep fun j h1 h2 => hk j (by omega) (by omega), h.bok, owns_stay h.evr fun k e => hk k (h.evr.lt k e).2 (by have := (h.evr.lt k e).1; omega), h.eok⟩
theorem SSc.step (h : SSc w wr g q L s vB bs vE evs) (t : CurStep wr wr' g) : SSc w wr' g q L s vB bs vE evs :=
  h.keep t.1 (grown_trans h.gr t.2) t.2.size fun j hj hn => t.2.block j hj (by intro e; injection e with e; exact hn e)
theorem SSc.alloc (h : SSc w wr g q L s vB bs vE evs) (o : Obj) : SSc w (wr.alloc o) g q L s vB bs vE evs :=
  h.keep (h.cur.alloc o) (grown_trans h.gr ⟨rfl, rfl, rfl, by simp, fun i hi _ => Below.heap_alloc wr o i hi⟩) (by simp) fun j hj _ => Below.heap_alloc wr o j hj
theorem SSc.drewN (h : SSc w wr g q L s vB bs vE evs) (n : Nat) : SSc w (wr.drewN n) g q L s vB bs vE evs :=
  h.keep h.cur (grown_drewN h.gr n) (Nat.le_refl _) fun _ _ _ => rfl
theorem SSc.raise (h : SSc w wr g q L s vB bs (.slice none 0 0) []) : SSc w wr g q wr.heap.size s vB bs (.slice none 0 0) [] :=
  ⟨h.cur, h.gr, h.hg, h.q0, Nat.lt_of_lt_of_le h.qL h.Ls, Nat.le_refl _, h.r, h.b, h.bods.raise h.Ls, h.bok, ⟨rfl, .inl ⟨rfl, rfl⟩⟩, h.eok⟩
/-- Growth of the row of bodies. -/
theorem SSc.bodGrown {o : Obj} (h : SSc w wr g q L s vB bs (.slice none 0 0) []) (hg : (wr.alloc o).grownBy wr' vB.ownBlock) : wr.grownBy wr' vB.ownBlock ∧ wr'.heap[q]? = some (.cells #[.int .i64 s.1, .int .i64 s.2.1, .float .f32 s.2.2.1, .float .f32 s.2.2.2, vB, .slice none 0 0] 27 (0, 0)) := by
  have qL := h.qL
  have Ls := h.Ls
  have G : wr.grownBy wr' vB.ownBlock := grown_trans (b := wr.alloc o) ⟨rfl, rfl, rfl, by simp, fun i hi _ => Below.heap_alloc wr o i hi⟩ hg
  exact ⟨G, (G.block q (by omega) (fun e => by have := (h.bods.own.lt q e.symm).1; omega)).trans h.b⟩
theorem SSc.bodApp {lo1 g' cap : Nat} {r : Bd} {o : Obj} (h : SSc w wr g q L s vB bs (.slice none 0 0) []) (hl : L ≤ lo1) (hr : wr.ownsRow lo1 87 2 (bodV r) r.2.2.length (flatM r.2.2)) (hok : ModesOk r.2.2 ∧ (r.2.2.length : Int) ≤ 4)
    (hown : wr'.ownsRow (q + 1) 68 1 (.slice (some ⟨g', 0, none⟩) (bs.length + 1) cap) (bs.length + 1) (bs.map bodV ++ [bodV r])) (hg : (wr.alloc o).grownBy wr' vB.ownBlock) (hor : vB.ownBlock = some g' ∨ g' = wr.heap.size + 1) (hlt : g' < wr'.heap.size) :
    SSc w (wr'.setCell ⟨q, 4, none⟩ (.slice (some ⟨g', 0, none⟩) (bs.length + 1) cap)) g q (wr'.setCell ⟨q, 4, none⟩ (.slice (some ⟨g', 0, none⟩) (bs.length + 1) cap)).heap.size s (.slice (some ⟨g', 0, none⟩) (bs.length + 1) cap) (bs ++ [r]) (.slice none 0 0) [] := by
  obtain ⟨G, hb1⟩ := h.bodGrown hg
  have hg0 := h.hg
  have q0 := h.q0
  have qL := h.qL
  have Ls := h.Ls
  have hs := G.size
  have far : ∀ j, j ≤ q → some j ≠ vB.ownBlock := fun j hj e => by have := (h.bods.own.lt j e.symm).1; omega
  have k : ∀ j, j ≠ q → (wr'.setCell ⟨q, 4, none⟩ (.slice (some ⟨g', 0, none⟩) (bs.length + 1) cap)).heap[j]? = wr'.heap[j]? := fun j hj => Below.heap_setCell _ _ _ _ hj
  have R := BodsOwn.app (w := wr) (w' := wr') (lo := q + 1) (lo1 := lo1) (hi := L) h.bods (by omega) hl hr hown G (hor.imp id fun e => by omega) hlt Ls
  refine ⟨cur_set (h.cur.grown G fun k e => by have := (h.bods.own.lt k e).1; omega) _ _ _ (by omega) (by omega), ?_, hg0, q0, by simp; omega, Nat.le_refl _, ?_, ?_, ?_, ?_, ⟨rfl, .inl ⟨rfl, rfl⟩⟩, fun e he => by cases he⟩
  · exact grown_set' ⟨G.os.trans h.gr.os, G.tape.trans h.gr.tape, G.output.trans h.gr.output, Nat.le_trans h.gr.size hs, fun i hi hn => (G.block i (by have := h.gr.size; omega) (far i (by omega))).trans (h.gr.block i hi hn)⟩ (by omega)
  · exact (k _ (by omega)).trans ((G.block _ (by omega) (far _ (by omega))).trans h.r)
  · simp [World.setCell, Array.getElem?_modify, hb1]
  · exact (R.keep fun j j1 j2 => k j (by omega)).raise (by simp)
  · intro i hi
    rcases Nat.lt_or_ge i bs.length with hi' | hi'
    · rw [bodAt_snoc hi']; exact h.bok i hi'
    · have hn : i = bs.length := by simp at hi; omega
      subst hn
      rw [bodAt_last]; exact ⟨hok.1, by have := hok.2; omega⟩
/-- Growth of the row of events. -/
theorem SSc.evG {o : Obj} (h : SSc w wr g q L s vB bs vE evs) (hg : (wr.alloc o).grownBy wr' vE.ownBlock) : wr.grownBy wr' vE.ownBlock ∧ ∀ j, j < L → wr'.heap[j]? = wr.heap[j]? := by
  have Ls := h.Ls
  have G : wr.grownBy wr' vE.ownBlock := grown_trans (b := wr.alloc o) ⟨rfl, rfl, rfl, by simp, fun i hi _ => Below.heap_alloc wr o i hi⟩ hg
  exact ⟨G, fun j hj => G.block j (by omega) (fun e => by have := (h.evr.lt j e.symm).1; omega)⟩
theorem SSc.evGrown {o : Obj} (h : SSc w wr g q L s vB bs vE evs) (hg : (wr.alloc o).grownBy wr' vE.ownBlock) : wr'.heap[q]? = some (.cells #[.int .i64 s.1, .int .i64 s.2.1, .float .f32 s.2.2.1, .float .f32 s.2.2.2, vB, vE] 27 (0, 0)) :=
  ((h.evG hg).2 q h.qL).trans h.b
theorem SSc.evApp {o : Obj} {v' : Value} {e : Ev} (h : SSc w wr g q L s vB bs vE evs) (he : EvOk s.1 bs.length e) (hown : wr'.ownsRow L 71 6 v' (evs.length + 1) (flatE evs ++ evV e)) (hg : (wr.alloc o).grownBy wr' vE.ownBlock) :
    SSc w (wr'.setCell ⟨q, 5, none⟩ v') g q L s vB bs v' (evs ++ [e]) := by
  obtain ⟨G, B⟩ := h.evG hg
  have hb1 := h.evGrown hg
  have hg0 := h.hg
  have q0 := h.q0
  have qL := h.qL
  have Ls := h.Ls
  have hs := G.size
  have k : ∀ j, j ≠ q → (wr'.setCell ⟨q, 5, none⟩ v').heap[j]? = wr'.heap[j]? := fun j hj => Below.heap_setCell _ _ _ _ hj
  refine ⟨cur_set (h.cur.grown G fun k e => by have := (h.evr.lt k e).1; omega) _ _ _ (by omega) (by omega), ?_, hg0, q0, qL, by simp; omega, ?_, ?_, ?_, h.bok, ?_, fun x hx => ?_⟩
  · exact grown_set' ⟨G.os.trans h.gr.os, G.tape.trans h.gr.tape, G.output.trans h.gr.output, Nat.le_trans h.gr.size hs, fun i hi hn => (B i (by omega)).trans (h.gr.block i hi hn)⟩ (by omega)
  · exact (k _ (by omega)).trans ((B _ (by omega)).trans h.r)
  · simp [World.setCell, Array.getElem?_modify, hb1]
  · exact h.bods.keep fun j j1 j2 => (k j (by omega)).trans (B j (by omega))
  · have e1 : (evs ++ [e]).length = evs.length + 1 := by simp
    rw [← flatE_snoc, e1]
    exact owns_stay hown fun j e => k j (by have := (hown.lt j e).1; omega)
  · rcases List.mem_append.1 hx with hx | hx
    · exact h.eok x hx
    · simp at hx; subst hx; exact he
theorem SSc.res (h : SSc w wr g q L s vB bs vE evs) (x0 x1 x2 x3 x4 x5 : Value) :
    ((((((wr.setCell ⟨w.heap.size, 0, none⟩ x0).setCell ⟨w.heap.size, 1, none⟩ x1).setCell ⟨w.heap.size, 2, none⟩ x2).setCell ⟨w.heap.size, 3, none⟩ x3).setCell ⟨w.heap.size, 4, none⟩ x4).setCell ⟨w.heap.size, 5, none⟩ x5).heap[w.heap.size]? = some (.cells #[x0, x1, x2, x3, x4, x5] 27 (0, 0)) := put6 h.r _ _ _ _ _ _
end
/-- A score in memory. -/
structure ScIn (w : World) (lo hi : Nat) (B : Option Addr) (cb : Nat) (bs : List Bd) (E : Option Addr) (ce : Nat) (evs : List Ev) : Prop where
  bods : BodsOwn w lo hi (.slice B bs.length cb) bs
  evs : OwnE w lo hi E ce evs
  hh : hi ≤ w.heap.size
section
variable {w w' : World} {lo lo' hi hi' cb ce : Nat} {B E : Option Addr} {bs : List Bd} {evs : List Ev}
theorem ScIn.keep (h : ScIn w lo hi B cb bs E ce evs) (hk : ∀ j, lo ≤ j → j < hi → w'.heap[j]? = w.heap[j]?) (hs : hi ≤ w'.heap.size) : ScIn w' lo hi B cb bs E ce evs := ⟨h.bods.keep hk, h.evs.keep hk, hs⟩
theorem ScIn.below (h : ScIn w lo hi B cb bs E ce evs) (hb : Below w.heap.size w w') : ScIn w' lo hi B cb bs E ce evs :=
  h.keep (fun j _ hj => hb.block j (Nat.lt_of_lt_of_le hj h.hh)) (Nat.le_trans h.hh hb.size)
theorem ScIn.low (h : ScIn w lo hi B cb bs E ce evs) (h1 : lo' ≤ lo) (h2 : hi ≤ hi') (h3 : hi' ≤ w.heap.size) : ScIn w lo' hi' B cb bs E ce evs :=
  ⟨(h.bods.raise h2).lower h1, ⟨owns_lower h.evs.1 h1, fun k e => Nat.lt_of_lt_of_le (h.evs.2 k e) h2⟩, h3⟩
theorem ScIn.bodsIn (h : ScIn w lo hi B cb bs E ce evs) : BodsIn w lo hi B bs := by
  obtain ⟨A, c, hv, hb⟩ := h.bods.form h.hh
  injection hv with hv _ _
  rw [hv]; exact hb
end
def scV (s : Sh) (B : Option Addr) (cb : Nat) (bs : List Bd) (E : Option Addr) (ce : Nat) (evs : List Ev) : Value := .agg #[.int .i64 s.1, .int .i64 s.2.1, .float .f32 s.2.2.1, .float .f32 s.2.2.2, .slice B bs.length cb, .slice E evs.length ce]
/-- A valid score, its parts. -/
structure ScOk (most : Int) (s : Sh) (bs : List Bd) (evs : List Ev) : Prop where
  sh : ShOk most s
  bods : BodsOk bs 4 3
  evs : EvsOk s.1 bs.length evs 13
/-- What MakeScore returns. -/
def ScPost (most : Int) (w : World) (e : Ending) (w' : World) : Prop :=
  ∃ (s : Sh) (B : Option Addr) (cb : Nat) (bs : List Bd) (E : Option Addr) (ce : Nat) (evs : List Ev), e = .returned (scV s B cb bs E ce evs) ∧ ScIn w' w.heap.size w'.heap.size B cb bs E ce evs ∧ ScOk most s bs evs
theorem SSc.done {w wr : World} {g q L : Nat} {s : Sh} {B : Option Addr} {cb : Nat} {bs : List Bd} {E : Option Addr} {ce : Nat} {evs : List Ev} (h : SSc w wr g q L s (.slice B bs.length cb) bs (.slice E evs.length ce) evs) (x0 x1 x2 x3 x4 x5 : Value) (W : World)
    (hW : ((((((wr.setCell ⟨w.heap.size, 0, none⟩ x0).setCell ⟨w.heap.size, 1, none⟩ x1).setCell ⟨w.heap.size, 2, none⟩ x2).setCell ⟨w.heap.size, 3, none⟩ x3).setCell ⟨w.heap.size, 4, none⟩ x4).setCell ⟨w.heap.size, 5, none⟩ x5) = W) :
    ScIn W w.heap.size W.heap.size B cb bs E ce evs ∧ CurStep w W g := by
  have k : ∀ j, j ≠ w.heap.size → W.heap[j]? = wr.heap[j]? := fun j hj => by rw [← hW]; exact put6_else hj _ _ _ _ _ _
  have hc : CurStep w W g := by rw [← hW]; exact ⟨put6_cur h.cur h.hg _ _ _ _ _ _, put6_grown h.gr (Nat.le_refl _) _ _ _ _ _ _⟩
  have hz : W.heap.size = wr.heap.size := by rw [← hW]; simp
  have q0 := h.q0
  have qL := h.qL
  have Ls := h.Ls
  have he := owns_lower (owns_stay (w' := W) h.evr fun j e => k j (by have := (h.evr.lt j e).1; omega)) (show w.heap.size ≤ L by omega)
  exact ⟨⟨((h.bods.keep (w' := W) fun j j1 j2 => k j (by omega)).raise (show L ≤ W.heap.size by omega)).lower (show w.heap.size ≤ q + 1 by omega), ⟨he, fun j e => (he.lt j e).2⟩, Nat.le_refl _⟩, hc⟩
theorem ceil_words {v u : Int} (h : v ∈ [(1 : Int), 8, 100]) (h2 : u ∈ [(0 : Int), 500, 990, 1000]) : fin .f32 (fo .quo .f32 (floatOfInt .f32 v) 1090519040) ∧ fin .f32 (fo .quo .f32 (floatOfInt .f32 u) 1148846080) ∧
    limOk (fo .quo .f32 (floatOfInt .f32 v) 1090519040) (fo .quo .f32 (floatOfInt .f32 u) 1148846080) = true := by
  simp only [List.mem_cons, List.not_mem_nil, or_false] at h h2
  rcases h with rfl | rfl | rfl <;> rcases h2 with rfl | rfl | rfl | rfl <;> exact ⟨numB_fin (by decide +kernel), numB_fin (by decide +kernel), by decide +kernel⟩

section
attribute [local go_sem] alloc_drewN setCell_drewN
set_option maxRecDepth 100000 in
set_option maxHeartbeats 4000000 in
theorem l7Score_any (g : Nat) (most : Int) (w : World) (h : Cur w g) (h0 : 0 ≤ most) (h1 : most ≤ 100) :
    Calls Tryz.prog 11 #[.pointer (some ⟨g, 0, none⟩), .int .i64 most] w fun e w' => ScPost most w e w' ∧ CurStep w w' g := by
  have hgl := h.lt
  have R0 := heap_alloc_new w (.cells #[.int .i64 0, .int .i64 0, .float .f32 0, .float .f32 0, .slice none 0 0, .slice none 0 0] 27)
  have C0 : CurStep w (w.alloc (.cells #[.int .i64 0, .int .i64 0, .float .f32 0, .float .f32 0, .slice none 0 0, .slice none 0 0] 27)) g := ⟨h.alloc _, ⟨rfl, rfl, rfl, by simp, fun i hi _ => Below.heap_alloc _ _ i hi⟩⟩
  have CA := Lib.hid (And.intro C0 R0)
  clear h C0 R0
  go_enter Tryz.func11, Tryz.ntmps11
  go_wp2_with fail
  generalize w.alloc (.cells #[.int .i64 0, .int .i64 0, .float .f32 0, .float .f32 0, .slice none 0 0, .slice none 0 0] 27) = W0 at *
  refine (below_any g (most + 1) _ CA.out.1.1 (by omega) (by omega)).mono ?_
  rintro e W1 ⟨len, rfl, ⟨hl0, hl1⟩, s1⟩
  have CB : Hid (CurStep w W1 g ∧ W1.heap[w.heap.size]? = some (.cells #[.int .i64 0, .int .i64 0, .float .f32 0, .float .f32 0, .slice none 0 0, .slice none 0 0] 27 (0, 0))) := ⟨CA.out.1.trans s1, (s1.2.block _ (lt_of_some CA.out.2) (by intro e; injection e with e; omega)).trans CA.out.2⟩
  clear CA s1
  go_wp2_with fail
  refine (below_any g 4 _ CB.out.1.1 (by omega) (by omega)).mono ?_
  rintro e W2 ⟨vo, rfl, ⟨hv0, hv1⟩, s1⟩
  have CC : Hid (CurStep w W2 g ∧ W2.heap[w.heap.size]? = some (.cells #[.int .i64 0, .int .i64 0, .float .f32 0, .float .f32 0, .slice none 0 0, .slice none 0 0] 27 (0, 0))) := ⟨CB.out.1.trans s1, (s1.2.block _ (lt_of_some CB.out.2) (by intro e; injection e with e; omega)).trans CB.out.2⟩
  clear CB s1
  go_wp2_with fail
  have hr := rd_ints W2 3 (W2.alloc (.cells #[.int .i64 1, .int .i64 8, .int .i64 100] 3)) [1, 8, 100] rfl
  refine (pickIn_any g (some ⟨W2.heap.size, 0, none⟩) 3 [1, 8, 100] _ (CC.out.1.1.alloc _) hr (by simp) (by simp) (fun a ha => by cases ha; have := CC.out.1.1.lt; show W2.heap.size ≠ g; omega)).mono ?_
  rintro e W3 ⟨ci, rfl, hci, s1⟩
  have CD : Hid (CurStep w W3 g ∧ W3.heap[w.heap.size]? = some (.cells #[.int .i64 0, .int .i64 0, .float .f32 0, .float .f32 0, .slice none 0 0, .slice none 0 0] 27 (0, 0))) := by
    have hz := lt_of_some CC.out.2
    have sA : CurStep W2 (W2.alloc (.cells #[.int .i64 1, .int .i64 8, .int .i64 100] 3)) g := ⟨CC.out.1.1.alloc _, ⟨rfl, rfl, rfl, by simp, fun i hi _ => Below.heap_alloc _ _ i hi⟩⟩
    exact ⟨(CC.out.1.trans sA).trans s1, (s1.2.block _ (by simp; omega) (by intro e; injection e with e; omega)).trans ((Below.heap_alloc _ _ _ hz).trans CC.out.2)⟩
  clear CC s1 hr
  obtain ⟨fc, hfc⟩ : ∃ fc, floatOfInt .f32 ci = fc := ⟨_, rfl⟩
  have hc1 : fin .f32 (fo .quo .f32 fc 1090519040) := by rw [← hfc]; exact (ceil_words hci (u := 0) (by simp)).1
  obtain ⟨ce, hce⟩ : ∃ ce, fo .quo .f32 fc 1090519040 = ce := ⟨_, rfl⟩
  have hRc : ∀ W, fR .quo .f32 fc 1090519040 W = ce := fun W => by rw [← hce]; exact rnd_eq hc1 W
  have HC := Lib.hid (And.intro hci (And.intro hfc hce))
  clear hci hc1 hce
  go_wp2_with fail
  clear hfc hRc
  have CE : Hid (CurStep w (W3.drewN (fN .quo .f32 fc 1090519040)) g ∧ (W3.drewN (fN .quo .f32 fc 1090519040)).heap[w.heap.size]? = some (.cells #[.int .i64 0, .int .i64 0, .float .f32 0, .float .f32 0, .slice none 0 0, .slice none 0 0] 27 (0, 0))) := ⟨CD.out.1.drewN _, CD.out.2⟩
  clear CD
  generalize fN .quo .f32 fc 1090519040 = nd at *
  have hr := rd_ints W3 3 ((W3.alloc (.cells #[.int .i64 0, .int .i64 500, .int .i64 990, .int .i64 1000] 3)).drewN nd) [0, 500, 990, 1000] rfl
  refine (pickIn_any g (some ⟨W3.heap.size, 0, none⟩) 4 [0, 500, 990, 1000] _ (CE.out.1.1.alloc _) hr (by simp) (by simp) (fun a ha => by cases ha; have := CE.out.1.1.lt; show W3.heap.size ≠ g; have : g < W3.heap.size := this; omega)).mono ?_
  rintro e W4 ⟨ri, rfl, hri, s1⟩
  have CF : Hid (CurStep w W4 g ∧ W4.heap[w.heap.size]? = some (.cells #[.int .i64 0, .int .i64 0, .float .f32 0, .float .f32 0, .slice none 0 0, .slice none 0 0] 27 (0, 0))) := by
    have hz := lt_of_some CE.out.2
    have sA : CurStep (W3.drewN nd) ((W3.drewN nd).alloc (.cells #[.int .i64 0, .int .i64 500, .int .i64 990, .int .i64 1000] 3)) g := ⟨CE.out.1.1.alloc _, ⟨rfl, rfl, rfl, by simp, fun i hi _ => Below.heap_alloc _ _ i hi⟩⟩
    exact ⟨(CE.out.1.trans sA).trans s1, (s1.2.block _ (by have : w.heap.size < W3.heap.size := hz; simp; omega) (by intro e; injection e with e; omega)).trans ((Below.heap_alloc _ _ _ hz).trans CE.out.2)⟩
  clear CE s1 hr
  obtain ⟨fr, hfr⟩ : ∃ fr, floatOfInt .f32 ri = fr := ⟨_, rfl⟩
  have hlim := (ceil_words HC.out.1 hri).2
  rw [HC.out.2.1, HC.out.2.2, hfr] at hlim
  obtain ⟨re, hre⟩ : ∃ re, fo .quo .f32 fr 1148846080 = re := ⟨_, rfl⟩
  have hRr : ∀ W, fR .quo .f32 fr 1148846080 W = re := fun W => by rw [← hre]; exact rnd_eq hlim.1 W
  have hwr : wfk .f32 re := by rw [← hre]; exact fo_lt _ _ _ _
  have hwc : wfk .f32 ce := by rw [← HC.out.2.2]; exact fo_lt _ _ _ _
  rw [hre] at hlim
  have HL : Hid (ShOk most (len, 1 + vo, ce, re)) := ⟨hl0, by show len ≤ most; omega, by show 1 ≤ 1 + vo; omega, by show 1 + vo ≤ 4; omega, hlim.2, hwc, hwr⟩
  clear hri HC hlim hre hwr hwc
  have S0 : Hid (∀ n, SSc w ((W4.alloc (.cells #[.int .i64 len, .int .i64 (1 + vo), .float .f32 ce, .float .f32 re, .slice none 0 0, .slice none 0 0] 27)).drewN n) g W4.heap.size (W4.heap.size + 1) (len, 1 + vo, ce, re) (.slice none 0 0) [] (.slice none 0 0) []) := fun n => by
    have hz := lt_of_some CF.out.2
    have G : w.grownBy (W4.alloc (.cells #[.int .i64 len, .int .i64 (1 + vo), .float .f32 ce, .float .f32 re, .slice none 0 0, .slice none 0 0] 27)) (some g) := grown_trans CF.out.1.2 ⟨rfl, rfl, rfl, by simp, fun i hi _ => Below.heap_alloc _ _ i hi⟩
    exact ⟨CF.out.1.1.alloc _, grown_drewN G n, hgl, hz, by omega, by show _ ≤ (W4.alloc _).heap.size; simp, (Below.heap_alloc _ _ _ hz).trans CF.out.2, heap_alloc_new W4 _, BodsOwn.nil _ _ _, fun i hi => absurd hi (Nat.not_lt_zero _), ⟨rfl, .inl ⟨rfl, rfl⟩⟩, fun e he => by cases he⟩
  clear CF
  go_wp2_with fail
  have S1 := Lib.hid (S0.out (fN .quo .f32 fr 1148846080))
  clear S0 hRr hfr
  generalize fN .quo .f32 fr 1148846080 = nr at *
  generalize (W4.alloc (.cells #[.int .i64 len, .int .i64 (1 + vo), .float .f32 ce, .float .f32 re, .slice none 0 0, .slice none 0 0] 27)).drewN nr = W5 at *
  generalize W4.heap.size = q at *
  refine (below_any g 4 _ S1.out.cur (by omega) (by omega)).mono ?_
  rintro e W6 ⟨k0, rfl, ⟨hk0, hk1⟩, s1⟩
  have S2 := Lib.hid (S1.out.step s1)
  clear S1 s1
  go_wp2_with fail
  go_loopw [6] (fun kk wr => ∃ (j : Int) (vB : Value) (bs : List Bd) (L : Nat), kk = .int .i64 j ∧ 0 ≤ j ∧ j + bs.length ≤ 3 ∧ Hid (SSc w wr g q L (len, 1 + vo, ce, re) vB bs (.slice none 0 0) [])) (fun kk _ => (intOf kk).toNat)
  case atStart => exact ⟨k0, _, [], _, rfl, hk0, by simp; omega, S2⟩
  case round =>
    clear S2
    obtain ⟨j, vB, bs, L, rfl, hj0, hjm, hS0⟩ := hrel
    by_cases hp : 0 < j
    · go_wp2_with fail
      have hS : wr.drew.cell? ⟨q, 4, none⟩ = some vB := (sc_cells hS0.out.b).2.2.2.2.1
      refine wp_region_last (fun w' => w'.cell? ⟨q, 4, none⟩ = some vB) 7 (by kernel_rfl) hS (fun hHeld => ?_)
      have T1 : Hid (SSc w wr.drew g q L (len, 1 + vo, ce, re) vB bs (.slice none 0 0) []) := hS0.out.drewN 1
      clear hS0
      generalize wr.drew = Wb at *
      refine wpAnyX_take [0, 1, 5, 7] (i := 0) (oi := _) (v := ?_) rfl (by kernel_rfl) (by kernel_rfl) (by kernel_rfl) (by kernel_rfl) (fun _ _ _ h => h) (Or.inl ⟨by rfl, ?_⟩) (by assumption) ?_
      rotate_left
      · (intro w hSw; (try dsimp only at hSw); go_simp; try (with_reducible rfl))
      (try simp only [Act.put, List.setIfInBounds_toArray, List.set_cons_zero, List.set_cons_succ])
      refine wpAnyX_take [1, 5, 7] (i := 1) (oi := _) (v := ?_) rfl (by kernel_rfl) (by kernel_rfl) (by kernel_rfl) (by kernel_rfl) (fun _ _ _ h => h) (Or.inl ⟨by rfl, ?_⟩) (by assumption) ?_
      rotate_left
      · (intro w hSw; (try dsimp only at hSw); go_simp; try (with_reducible rfl))
      (try simp only [Act.put, List.setIfInBounds_toArray, List.set_cons_zero, List.set_cons_succ])
      refine wpAnyX_take [2, 3, 4, 5, 7] (i := 2) (oi := _) (v := ?_) rfl (by kernel_rfl) (by kernel_rfl) (by kernel_rfl) (by kernel_rfl) (fun _ _ _ h => h) (Or.inl ⟨by rfl, ?_⟩) (by assumption) ?_
      rotate_left
      · (intro w hSw; (try dsimp only at hSw); go_simp; try (with_reducible rfl))
      (try simp only [Act.put, List.setIfInBounds_toArray, List.set_cons_zero, List.set_cons_succ])
      refine wpAnyX_ready (i := 3) (o := _) (by kernel_rfl) rfl (fun K hK => ?_)
      go_simp
      refine (l2Body_any g 4 Wb T1.out.cur (by omega) (by omega)).mono ?_
      rintro e W1 ⟨⟨A, c, ms, rfl, ho, hok, hl⟩, s1⟩
      have T2 := Lib.hid (T1.out.step s1)
      have OB := Lib.hid ho
      have HB2 := Lib.hid (And.intro hok hl)
      have hWb := T1.out.Ls
      clear ho hok hl s1 T1
      go_wp2_with fail
      refine hK.out _ _ ?_ (fun hHelda => ?_)
      · exact (sc_cells T2.out.b).2.2.2.2.1
      clear hK K
      (try simp only [Act.put, List.setIfInBounds_toArray, List.set_cons_zero, List.set_cons_succ])
      clear hHeld
      refine wpAnyX_ready (i := 4) (o := _) (by kernel_rfl) rfl (fun K hK => ?_)
      go_simp
      have T3 := Lib.hid (T2.out.alloc (.cells #[.slice A ms.length c] 68))
      refine hK.out _ _ ?_ (fun hHeldb => ?_)
      · exact (sc_cells T3.out.b).2.2.2.2.1
      clear hK K
      (try simp only [Act.put, List.setIfInBounds_toArray, List.set_cons_zero, List.set_cons_succ])
      clear hHelda T3
      obtain ⟨i0, hi0, hz0, hz1, hz2⟩ := info_parts body_info
      have hq1 := T2.out.qL
      have hq2 := T2.out.Ls
      refine wpAnyX_ready (i := 5) (o := _) (by kernel_rfl) rfl (fun K hK => ?_)
      refine step_append_lies _ (by rfl) (.tmp 33) (.tmp 36) 24 (by rfl) (q + 1) 68 i0 _ 1 24 Tryz.underlying24 hi0 hz0 hz1 hz2 rfl (by omega) vB bs.length (bs.map bodV) (by rfl) (T2.out.bods.own.alloc _) ⟨W1.heap.size, 0, none⟩ 1 1 [.slice A ms.length c] (by rfl) (by rfl) (World.news_of_block (cs := #[.slice A ms.length c]) (t := 68) (fr := (0, 0)) (heap_alloc_new W1 _)) (by simp [Value.oneCell']) (by omega) (by simp only [maxLen]; omega) (by omega) (by simp; omega) (W1.heap.size + 1) (by simp) ?_
      intro gg cap w4 hown4 hgrow hat hlt4
      have B4 := Lib.hid (T2.out.bodGrown hgrow)
      have A4 := Lib.hid (T2.out.bodApp (lo1 := Wb.heap.size + 2) (r := (A, c, ms)) (by omega) OB.out HB2.out hown4 hgrow hat hlt4)
      have c4 := (sc_cells B4.out.2).2.2.2.2.1
      have f4 := free_cells B4.out.2 4
      clear hown4 hgrow hat OB
      refine hK.out _ _ ?_ (fun hHeldc => ?_)
      · exact c4
      clear hK K
      (try simp only [Act.put, List.setIfInBounds_toArray, List.set_cons_zero, List.set_cons_succ])
      clear hHeldb
      refine wpAnyX_take [6, 7] (i := 6) (oi := _) (v := ?_) rfl (by kernel_rfl) (by kernel_rfl) (by kernel_rfl) (by kernel_rfl) (fun _ _ _ h => h) (Or.inl ⟨by rfl, ?_⟩) (by assumption) ?_
      rotate_left
      · (intro w hSw; (try dsimp only at hSw); go_simp; try (with_reducible rfl))
      (try simp only [Act.put, List.setIfInBounds_toArray, List.set_cons_zero, List.set_cons_succ])
      refine wpAnyX_last (o := _) (by kernel_rfl) rfl (fun K hK => ?_)
      go_simp
      refine hK.out _ _ ?_
      clear hK K
      (try simp only [Act.put, List.setIfInBounds_toArray, List.set_cons_zero, List.set_cons_succ])
      refine wpAnyX_done (by kernel_rfl) ?_ _
      go_wp2_with fail
      go_roundw
      case rel => exact ⟨j - 1, _, bs ++ [(A, c, ms)], _, by go_num, by omega, by simp; omega, A4.out⟩
      case measure => simp [intOf]; omega
    · have S3 := Lib.hid hS0.out.raise
      clear hS0
      have hbl : bs.length ≤ 3 := by omega
      obtain ⟨B, cb, rfl⟩ := owns_form S3.out.bods.own
      have hLs := S3.out.Ls
      generalize wr.heap.size = M at *
      obtain ⟨c0, c1, c2, c3, c4, c5⟩ := sc_cells S3.out.b
      by_cases hn : bs.length = 0
      · have hn' : ((bs.length : Int) == 0) = true := by simp [hn]
        obtain ⟨d0, d1, d2, d3, d4, d5⟩ := sc_cells S3.out.r
        obtain ⟨f0, f1, f2, f3, f4, f5⟩ := sc_free S3.out.r
        have HN := Lib.hid hn
        clear hn
        go_wp2_with fail
        refine bodyPost_ret (results_cell_row rfl _ _ w.heap.size 27 #[.int .i64 len, .int .i64 (1 + vo), .float .f32 ce, .float .f32 re, .slice B bs.length cb, .slice none 0 0] (0, 0) _ rfl (S3.out.res _ _ _ _ _ _) Tryz.underlying27 rfl (by kernel_rfl)) rfl ?_
        have D := SSc.done (evs := []) (ce := 0) (E := none) S3.out (.int .i64 len) (.int .i64 (1 + vo)) (.float .f32 ce) (.float .f32 re) (.slice B bs.length cb) (.slice none 0 0) _ rfl
        exact ⟨⟨(len, 1 + vo, ce, re), B, cb, bs, none, 0, [], rfl, D.1, ⟨HL.out, ⟨hbl, S3.out.bok⟩, by simp, fun e he => by cases he⟩⟩, D.2⟩
      · have hn' : ((bs.length : Int) == 0) = false := by simp; intro e; rw [e] at hn; exact hn rfl
        have hb1 : 1 ≤ (bs.length : Int) := by omega
        have HN := Lib.hid hn
        clear hn
        go_wp2_with fail
        clear c0 c1 c2 c3 c4 c5 hn'
        refine (below_any g 14 _ S3.out.cur (by omega) (by omega)).mono ?_
        rintro e W7 ⟨k0, rfl, ⟨hk0, hk1⟩, s1⟩
        have S4 := Lib.hid (S3.out.step s1)
        clear S3 s1 hLs
        go_wp2_with fail
        go_loopw [7] (fun kk wr => ∃ (j : Int) (vE : Value) (evs : List Ev), kk = .int .i64 j ∧ 0 ≤ j ∧ j + evs.length ≤ 13 ∧ Hid (SSc w wr g q M (len, 1 + vo, ce, re) (.slice B bs.length cb) bs vE evs)) (fun kk _ => (intOf kk).toNat)
        case atStart => exact ⟨k0, _, [], rfl, hk0, by simp; omega, S4⟩
        case round =>
          clear S4
          obtain ⟨j, vE, evs, rfl, hj0, hjm, hS0⟩ := hrel
          by_cases hp : 0 < j
          · go_wp2_with fail
            have hS : wr.drew.cell? ⟨q, 5, none⟩ = some vE ∧ wr.drew.cell? ⟨q, 0, none⟩ = some (.int .i64 len) ∧ wr.drew.cell? ⟨q, 4, none⟩ = some (.slice B bs.length cb) := ⟨(sc_cells hS0.out.b).2.2.2.2.2, (sc_cells hS0.out.b).1, (sc_cells hS0.out.b).2.2.2.2.1⟩
            refine wp_region_last (fun w' => w'.cell? ⟨q, 5, none⟩ = some vE ∧ w'.cell? ⟨q, 0, none⟩ = some (.int .i64 len) ∧ w'.cell? ⟨q, 4, none⟩ = some (.slice B bs.length cb)) 12 (by kernel_rfl) hS (fun hHeld => ?_)
            have T1 : Hid (SSc w wr.drew g q M (len, 1 + vo, ce, re) (.slice B bs.length cb) bs vE evs) := hS0.out.drewN 1
            clear hS0
            generalize wr.drew = Wb at *
            refine wpAnyX_take [0, 1, 10, 12] (i := 0) (oi := _) (v := ?_) rfl (by kernel_rfl) (by kernel_rfl) (by kernel_rfl) (by kernel_rfl) (fun _ _ _ h => h) (Or.inl ⟨by rfl, ?_⟩) (by assumption) ?_
            rotate_left
            · (intro w hSw; (try dsimp only at hSw); go_simp; try (with_reducible rfl))
            (try simp only [Act.put, List.setIfInBounds_toArray, List.set_cons_zero, List.set_cons_succ])
            refine wpAnyX_take [1, 10, 12] (i := 1) (oi := _) (v := ?_) rfl (by kernel_rfl) (by kernel_rfl) (by kernel_rfl) (by kernel_rfl) (fun _ _ _ h => h) (Or.inl ⟨by rfl, ?_⟩) (by assumption) ?_
            rotate_left
            · (intro w hSw; (try dsimp only at hSw); go_simp; try (with_reducible rfl))
            (try simp only [Act.put, List.setIfInBounds_toArray, List.set_cons_zero, List.set_cons_succ])
            refine wpAnyX_take [2, 8, 9, 10, 12] (i := 2) (oi := _) (v := ?_) rfl (by kernel_rfl) (by kernel_rfl) (by kernel_rfl) (by kernel_rfl) (fun _ _ _ h => h) (Or.inl ⟨by rfl, ?_⟩) (by assumption) ?_
            rotate_left
            · (intro w hSw; (try dsimp only at hSw); go_simp; try (with_reducible rfl))
            (try simp only [Act.put, List.setIfInBounds_toArray, List.set_cons_zero, List.set_cons_succ])
            refine wpAnyX_take [3, 4, 8, 9, 10, 12] (i := 3) (oi := _) (v := ?_) rfl (by kernel_rfl) (by kernel_rfl) (by kernel_rfl) (by kernel_rfl) (fun _ _ _ h => h) (Or.inl ⟨by rfl, ?_⟩) (by assumption) ?_
            rotate_left
            · (intro w hSw; (try dsimp only at hSw); go_simp; try (with_reducible rfl))
            (try simp only [Act.put, List.setIfInBounds_toArray, List.set_cons_zero, List.set_cons_succ])
            refine wpAnyX_take [4, 8, 9, 10, 12] (i := 4) (oi := _) (v := ?_) rfl (by kernel_rfl) (by kernel_rfl) (by kernel_rfl) (by kernel_rfl) (fun _ _ _ h => h) (Or.inl ⟨by rfl, ?_⟩) (by assumption) ?_
            rotate_left
            · (intro w hSw; (try dsimp only at hSw); go_simp; try (with_reducible rfl))
            (try simp only [Act.put, List.setIfInBounds_toArray, List.set_cons_zero, List.set_cons_succ])
            refine wpAnyX_take [5, 6, 7, 8, 9, 10, 12] (i := 5) (oi := _) (v := ?_) rfl (by kernel_rfl) (by kernel_rfl) (by kernel_rfl) (by kernel_rfl) (fun _ _ _ h => h) (Or.inl ⟨by rfl, ?_⟩) (by assumption) ?_
            rotate_left
            · (intro w hSw; (try dsimp only at hSw); go_simp; try (with_reducible rfl))
            (try simp only [Act.put, List.setIfInBounds_toArray, List.set_cons_zero, List.set_cons_succ])
            refine wpAnyX_take [6, 7, 8, 9, 10, 12] (i := 6) (oi := _) (v := ?_) rfl (by kernel_rfl) (by kernel_rfl) (by kernel_rfl) (by kernel_rfl) (fun _ _ _ h => h) (Or.inl ⟨by rfl, ?_⟩) (by assumption) ?_
            rotate_left
            · (intro w hSw; (try dsimp only at hSw); go_simp; try (with_reducible rfl))
            (try simp only [Act.put, List.setIfInBounds_toArray, List.set_cons_zero, List.set_cons_succ])
            refine wpAnyX_take [7, 8, 9, 10, 12] (i := 7) (oi := _) (v := ?_) rfl (by kernel_rfl) (by kernel_rfl) (by kernel_rfl) (by kernel_rfl) (fun _ _ _ h => h) (Or.inl ⟨by rfl, ?_⟩) (by assumption) ?_
            rotate_left
            · (intro w hSw; (try dsimp only at hSw); go_simp; try (with_reducible rfl))
            (try simp only [Act.put, List.setIfInBounds_toArray, List.set_cons_zero, List.set_cons_succ])
            refine wpAnyX_ready (i := 8) (o := _) (by kernel_rfl) rfl (fun K hK => ?_)
            go_simp
            refine (someEv_any g len bs.length Wb T1.out.cur (by omega) (by omega) (by omega) (by omega)).mono ?_
            intro e W1 hp
            unfold EvPost at hp
            obtain ⟨v, rfl, hv, s1⟩ := hp
            have T2 := Lib.hid (T1.out.step s1)
            have HV := Lib.hid hv
            clear hv s1 T1
            unfold evC
            go_wp2_with fail
            refine hK.out _ _ ?_ (fun hHelda => ?_)
            · exact ⟨(sc_cells T2.out.b).2.2.2.2.2, (sc_cells T2.out.b).1, (sc_cells T2.out.b).2.2.2.2.1⟩
            clear hK K
            (try simp only [Act.put, List.setIfInBounds_toArray, List.set_cons_zero, List.set_cons_succ])
            clear hHeld
            refine wpAnyX_ready (i := 9) (o := _) (by kernel_rfl) rfl (fun K hK => ?_)
            go_simp
            have T3 := Lib.hid (T2.out.alloc (.cells #[.int .i64 v.1, .int .i64 v.2.1, .int .i64 v.2.2.1, .int .i64 v.2.2.2.1, .int .i64 v.2.2.2.2.1, .float .f32 v.2.2.2.2.2] 71))
            refine hK.out _ _ ?_ (fun hHeldb => ?_)
            · exact ⟨(sc_cells T3.out.b).2.2.2.2.2, (sc_cells T3.out.b).1, (sc_cells T3.out.b).2.2.2.2.1⟩
            clear hK K
            (try simp only [Act.put, List.setIfInBounds_toArray, List.set_cons_zero, List.set_cons_succ])
            clear hHelda T3
            obtain ⟨i0, hi0, hz0, hz1, hz2⟩ := info_parts ev_info
            have hq1 := T2.out.qL
            have hq2 := T2.out.Ls
            refine wpAnyX_ready (i := 10) (o := _) (by kernel_rfl) rfl (fun K hK => ?_)
            refine step_append_lies _ (by rfl) (.tmp 51) (.tmp 59) 25 (by rfl) M 71 i0 _ 6 48 Tryz.underlying25 hi0 hz0 hz1 hz2 rfl (by omega) vE evs.length (flatE evs) (by rfl) (T2.out.evr.alloc _) ⟨W1.heap.size, 0, none⟩ 1 1 (evV v) (by rfl) (by rfl) (World.news_of_block (cs := #[.int .i64 v.1, .int .i64 v.2.1, .int .i64 v.2.2.1, .int .i64 v.2.2.2.1, .int .i64 v.2.2.2.2.1, .float .f32 v.2.2.2.2.2]) (t := 71) (fr := (0, 0)) (heap_alloc_new W1 _)) (evV_one v) (by omega) (by simp only [maxLen]; omega) (by omega) (by simp; omega) (W1.heap.size + 1) (by simp) ?_
            intro gg cap w4 hown4 hgrow hat hlt4
            have B4 := Lib.hid (T2.out.evGrown hgrow)
            have A4 := Lib.hid (T2.out.evApp HV.out hown4 hgrow)
            have c4 := (sc_cells B4.out).2.2.2.2.2
            have f4 := free_cells B4.out 5
            have c40 := (sc_cells B4.out).1
            have c44 := (sc_cells B4.out).2.2.2.2.1
            clear hown4 hgrow hat
            refine hK.out _ _ ?_ (fun hHeldc => ?_)
            · exact ⟨c4, c40, c44⟩
            clear hK K
            (try simp only [Act.put, List.setIfInBounds_toArray, List.set_cons_zero, List.set_cons_succ])
            clear hHeldb
            refine wpAnyX_take [11, 12] (i := 11) (oi := _) (v := ?_) rfl (by kernel_rfl) (by kernel_rfl) (by kernel_rfl) (by kernel_rfl) (fun _ _ _ h => h) (Or.inl ⟨by rfl, ?_⟩) (by assumption) ?_
            rotate_left
            · (intro w hSw; (try dsimp only at hSw); go_simp; try (with_reducible rfl))
            (try simp only [Act.put, List.setIfInBounds_toArray, List.set_cons_zero, List.set_cons_succ])
            refine wpAnyX_last (o := _) (by kernel_rfl) rfl (fun K hK => ?_)
            go_simp
            refine hK.out _ _ ?_
            clear hK K
            (try simp only [Act.put, List.setIfInBounds_toArray, List.set_cons_zero, List.set_cons_succ])
            refine wpAnyX_done (by kernel_rfl) ?_ _
            go_wp2_with fail
            go_roundw
            case rel => exact ⟨j - 1, _, evs ++ [v], by go_num, by omega, by simp; omega, A4.out⟩
            case measure => simp [intOf]; omega
          · obtain ⟨E, cE, rfl⟩ := owns_form hS0.out.evr
            obtain ⟨c0, c1, c2, c3, c4, c5⟩ := sc_cells hS0.out.b
            obtain ⟨d0, d1, d2, d3, d4, d5⟩ := sc_cells hS0.out.r
            obtain ⟨f0, f1, f2, f3, f4, f5⟩ := sc_free hS0.out.r
            go_wp2_with fail
            refine bodyPost_ret (results_cell_row rfl _ _ w.heap.size 27 #[.int .i64 len, .int .i64 (1 + vo), .float .f32 ce, .float .f32 re, .slice B bs.length cb, .slice E evs.length cE] (0, 0) _ rfl (hS0.out.res _ _ _ _ _ _) Tryz.underlying27 rfl (by kernel_rfl)) rfl ?_
            have D := SSc.done (ce := cE) (E := E) hS0.out (.int .i64 len) (.int .i64 (1 + vo)) (.float .f32 ce) (.float .f32 re) (.slice B bs.length cb) (.slice E evs.length cE) _ rfl
            exact ⟨⟨(len, 1 + vo, ce, re), B, cb, bs, E, cE, evs, rfl, D.1, ⟨HL.out, ⟨hbl, hS0.out.bok⟩, by omega, hS0.out.eok⟩⟩, D.2⟩
end
set_option maxRecDepth 100000 in
set_option maxHeartbeats 800000 in
theorem makeScore_any (A : Option Addr) (cp : Nat) (bs : List Int) (m : Int) (w : World) (hr : Rd w A (bs.map (.int .u8))) (hm : bs.length ≤ 1048576) (h : m = 8 ∨ m = 30 ∨ m = 40 ∨ m = 60) :
    Calls Tryz.prog 4 #[.slice A bs.length cp, .int .i64 m] w fun e w' => ScPost m w e w' ∧ Below w.heap.size w w' := by
  rcases h with rfl | rfl | rfl | rfl
  all_goals
    have Hr := Lib.hid (fun o => hr.below ((Below.refl w.heap.size w).alloc (Nat.le_refl _) o))
    clear hr
    go_enter Tryz.func4, Tryz.ntmps4
    go_wp2_with fail
    refine (new_any A cp bs _ (Hr.out _) hm).mono ?_
    rintro e w1 ⟨g, rfl, hg, hcur, hb1⟩
    have hgs : w.heap.size < g := by simp at hg; omega
    have hs1 : w.heap.size + 1 ≤ w1.heap.size := by have := hb1.size; simpa using this
    have HC := Lib.hid hcur
    have HB1 := Lib.hid (((Below.refl w.heap.size w).alloc (Nat.le_refl _) (.cells #[.int .i64 0, .int .i64 0, .float .f32 0, .float .f32 0, .slice none 0 0, .slice none 0 0] 27)).trans (hb1.mono (by simp)))
    have HR := Lib.hid ((hb1.block w.heap.size (by simp)).trans (heap_alloc_new w _))
    have hgl := hcur.lt
    clear hg hcur hb1 Hr
    go_wp2_with fail
    refine (l7Score_any g _ _ HC.out (by omega) (by omega)).mono ?_
    rintro e w2 ⟨⟨s, B, cb, bds, E, ce, evs, rfl, hin, hok⟩, hs⟩
    have HR2 := Lib.hid ((hs.2.block w.heap.size (by omega) (by intro e; injection e with e; omega)).trans HR.out)
    have HB2 := Lib.hid (HB1.out.trans (below_of_step hs (by omega) (by omega)))
    have HI := Lib.hid hin
    have HK := Lib.hid hok
    obtain ⟨d0, d1, d2, d3, d4, d5⟩ := sc_cells HR2.out
    obtain ⟨f0, f1, f2, f3, f4, f5⟩ := sc_free HR2.out
    clear HR HB1 HC hin hok hs
    unfold scV
    go_wp2_with fail
    refine bodyPost_ret (results_cell_row rfl _ _ w.heap.size 27 #[.int .i64 s.1, .int .i64 s.2.1, .float .f32 s.2.2.1, .float .f32 s.2.2.2, .slice B bds.length cb, .slice E evs.length ce] (0, 0) _ rfl (put6 HR2.out _ _ _ _ _ _) Tryz.underlying27 rfl (by kernel_rfl)) rfl ?_
    refine ⟨⟨s, B, cb, bds, E, ce, evs, rfl, ?_, HK.out⟩, (((((HB2.out.setCell (Nat.le_refl _) _).setCell (Nat.le_refl _) _).setCell (Nat.le_refl _) _).setCell (Nat.le_refl _) _).setCell (Nat.le_refl _) _).setCell (Nat.le_refl _) _⟩
    exact (HI.out.keep (fun j hj _ => put6_else (by omega) _ _ _ _ _ _) (by simp)).low (by omega) (by simp) (Nat.le_refl _)
end Go.Proofs.YtndnfhhdflmfcaaGreat

/-
impl.StrikeShape: the click.
-/
namespace Go.Proofs.YtndnfhhdflmfcaaGreat
open Go Go.RowKit Ieee

set_option maxRecDepth 100000 in
set_option maxHeartbeats 800000 in
theorem shape_any0 (n : Nat) (w : World) (hn : 1 ≤ n ∧ n ≤ 64) :
    Calls Tryz.prog 83 #[.int .i64 0, .int .i64 n] w fun e w' => ∃ ts, e = .returned (.tuple #[.slice (some ⟨w.heap.size, 0, none⟩) n n, .bool true]) ∧ w'.rowIs w.heap.size 23 n (fun j => .float .f32 (ts.getD j 0)) ∧ Shaped 0 n n ts ∧ Below w.heap.size w w' := by
  have hmk := fun W => run_make_row' (P := Tryz.prog) 35 23 (.float .f32 0) 4 Tryz.underlying35 f32_info rfl .i64 .i64 n (by omega) (by omega) W
  have S0 : Hid ((w.alloc (.cells (madeCells #[.float .f32 0] n) 23)).rowIs w.heap.size 23 n (fun j => .float .f32 ((List.replicate n 0).getD j 0))) := (World.rowIs_made w (.float .f32 0) n 23).congr fun i hi => by simp [List.getD, hi]
  have B0 : Hid (Below w.heap.size w (w.alloc (.cells (madeCells #[.float .f32 0] n) 23))) := (Below.refl w.heap.size w).alloc (Nat.le_refl _) _
  go_enter Tryz.func83, Tryz.ntmps83
  go_wp2_with fail
  generalize w.alloc (.cells (madeCells #[.float .f32 0] n) 23) = W0 at *
  go_loopw [29] (fun i wr => ∃ (k : Nat) (ts : List Nat), i = .int .i64 (k : Int) ∧ k ≤ n ∧ wr.rowIs w.heap.size 23 n (fun j => .float .f32 (ts.getD j 0)) ∧ Hid (Shaped 0 n k ts) ∧ Hid (Below w.heap.size w wr)) (fun i _ => n - (intOf i).toNat)
  case atStart => exact ⟨0, _, rfl, by omega, S0.out, Shaped.zero _ _, B0⟩
  case round =>
    obtain ⟨k, ts, rfl, hk, hrow, hS, hB⟩ := hrel
    by_cases hlt : k < n
    · have c0 := hrow.cell (i := 0) (by omega)
      have f0 := hrow.frozen 0
      have U := Lib.hid (rowIs_upd (v := 1065353216) hrow hS.out.1 (show 0 < n by omega))
      go_wp2_with fail
      go_roundw
      case rel => exact ⟨k + 1, _, by go_num, by omega, U.out, hS.out.click (by omega), hB.out.setCell (Nat.le_refl _) _⟩
      case measure => simp [intOf]; omega
    · obtain rfl : k = n := by omega
      go_wp2_with fail
      go_ret2
      exact ⟨ts, rfl, hrow, hS.out, hB.out⟩
end Go.Proofs.YtndnfhhdflmfcaaGreat

/-
impl.StrikeShape: the ramp.
-/
namespace Go.Proofs.YtndnfhhdflmfcaaGreat
open Go Go.RowKit Ieee

set_option maxRecDepth 100000 in
set_option maxHeartbeats 800000 in
theorem shape_any1 (n : Nat) (w : World) (hn : 1 ≤ n ∧ n ≤ 64) :
    Calls Tryz.prog 83 #[.int .i64 1, .int .i64 n] w fun e w' => ∃ ts, e = .returned (.tuple #[.slice (some ⟨w.heap.size, 0, none⟩) n n, .bool true]) ∧ w'.rowIs w.heap.size 23 n (fun j => .float .f32 (ts.getD j 0)) ∧ Shaped 1 n n ts ∧ Below w.heap.size w w' := by
  have hmk := fun W => run_make_row' (P := Tryz.prog) 35 23 (.float .f32 0) 4 Tryz.underlying35 f32_info rfl .i64 .i64 n (by omega) (by omega) W
  have S0 : Hid ((w.alloc (.cells (madeCells #[.float .f32 0] n) 23)).rowIs w.heap.size 23 n (fun j => .float .f32 ((List.replicate n 0).getD j 0))) := (World.rowIs_made w (.float .f32 0) n 23).congr fun i hi => by simp [List.getD, hi]
  have B0 : Hid (Below w.heap.size w (w.alloc (.cells (madeCells #[.float .f32 0] n) 23))) := (Below.refl w.heap.size w).alloc (Nat.le_refl _) _
  go_enter Tryz.func83, Tryz.ntmps83
  go_wp2_with fail
  generalize w.alloc (.cells (madeCells #[.float .f32 0] n) 23) = W0 at *
  go_loopw [29] (fun i wr => ∃ (k : Nat) (ts : List Nat), i = .int .i64 (k : Int) ∧ k ≤ n ∧ wr.rowIs w.heap.size 23 n (fun j => .float .f32 (ts.getD j 0)) ∧ Hid (Shaped 1 n k ts) ∧ Hid (Below w.heap.size w wr)) (fun i _ => n - (intOf i).toNat)
  case atStart => exact ⟨0, _, rfl, by omega, S0.out, Shaped.zero _ _, B0⟩
  case round =>
    obtain ⟨k, ts, rfl, hk, hrow, hS, hB⟩ := hrel
    by_cases hlt : k < n
    · have c0 := hrow.cell hlt
      have f0 := hrow.frozen k
      have U := Lib.hid (fun (m v : Nat) => rowIs_upd (v := v) (w := wr.drewN m) hrow hS.out.1 hlt)
      obtain ⟨p, hp⟩ : ∃ p, floatOfInt .f32 ((k : Int) + 1) = p := ⟨_, rfl⟩
      obtain ⟨q, hq⟩ : ∃ q, floatOfInt .f32 (n : Int) = q := ⟨_, rfl⟩
      have V := Lib.hid (fun W => hS.out.set hlt (v := fR .quo .f32 p q W) (by rw [← hp, ← hq]; exact fRo rfl rfl W) (fR_lt _ _ _ _ _))
      go_wp2_with fail
      go_roundw
      case rel => exact ⟨k + 1, _, by go_num, by omega, U.out _ _, V.out _, (below_drewN hB.out _).setCell (Nat.le_refl _) _⟩
      case measure => simp [intOf]; omega
    · obtain rfl : k = n := by omega
      go_wp2_with fail
      go_ret2
      exact ⟨ts, rfl, hrow, hS.out, hB.out⟩
end Go.Proofs.YtndnfhhdflmfcaaGreat

/-
impl.StrikeShape: the arch.
-/
namespace Go.Proofs.YtndnfhhdflmfcaaGreat
open Go Go.RowKit Ieee

set_option maxRecDepth 100000 in
set_option maxHeartbeats 800000 in
theorem shape_any2 (n : Nat) (w : World) (hn : 1 ≤ n ∧ n ≤ 64) :
    Calls Tryz.prog 83 #[.int .i64 2, .int .i64 n] w fun e w' => ∃ ts, e = .returned (.tuple #[.slice (some ⟨w.heap.size, 0, none⟩) n n, .bool true]) ∧ w'.rowIs w.heap.size 23 n (fun j => .float .f32 (ts.getD j 0)) ∧ Shaped 2 n n ts ∧ Below w.heap.size w w' := by
  have hmk := fun W => run_make_row' (P := Tryz.prog) 35 23 (.float .f32 0) 4 Tryz.underlying35 f32_info rfl .i64 .i64 n (by omega) (by omega) W
  have S0 : Hid ((w.alloc (.cells (madeCells #[.float .f32 0] n) 23)).rowIs w.heap.size 23 n (fun j => .float .f32 ((List.replicate n 0).getD j 0))) := (World.rowIs_made w (.float .f32 0) n 23).congr fun i hi => by simp [List.getD, hi]
  have B0 : Hid (Below w.heap.size w (w.alloc (.cells (madeCells #[.float .f32 0] n) 23))) := (Below.refl w.heap.size w).alloc (Nat.le_refl _) _
  go_enter Tryz.func83, Tryz.ntmps83
  go_wp2_with fail
  generalize w.alloc (.cells (madeCells #[.float .f32 0] n) 23) = W0 at *
  go_loopw [29] (fun i wr => ∃ (k : Nat) (ts : List Nat), i = .int .i64 (k : Int) ∧ k ≤ n ∧ wr.rowIs w.heap.size 23 n (fun j => .float .f32 (ts.getD j 0)) ∧ Hid (Shaped 2 n k ts) ∧ Hid (Below w.heap.size w wr)) (fun i _ => n - (intOf i).toNat)
  case atStart => exact ⟨0, _, rfl, by omega, S0.out, Shaped.zero _ _, B0⟩
  case round =>
    obtain ⟨k, ts, rfl, hk, hrow, hS, hB⟩ := hrel
    by_cases hlt : k < n
    · have c0 := hrow.cell hlt
      have f0 := hrow.frozen k
      have U := Lib.hid (fun (m v : Nat) => rowIs_upd (v := v) (w := wr.drewN m) hrow hS.out.1 hlt)
      obtain ⟨p, hp⟩ : ∃ p, floatOfInt .f32 (2 * (k : Int) + 1) = p := ⟨_, rfl⟩
      obtain ⟨q, hq⟩ : ∃ q, floatOfInt .f32 (2 * (n : Int)) = q := ⟨_, rfl⟩
      have E : ∀ W, nrm .f32 (fR .quo .f32 p q W) = nrm .f32 (arcT n k) := fun W => by
        unfold arcT; rw [hp, hq, nrm_fR, nrm_fo]
      have V := Lib.hid (fun W1 W2 W3 W4 W5 => hS.out.set hlt (v := fR .mul .f32 (fR .mul .f32 1082130432 (fR .quo .f32 p q W1) W2) (fR .sub .f32 1065353216 (fR .quo .f32 p q W3) W4) W5)
        (fRo (fRo rfl (E W1) W2) (fRo rfl (E W3) W4) W5) (fR_lt _ _ _ _ _))
      clear E
      go_wp2_with fail
      go_roundw
      case rel => exact ⟨k + 1, _, by go_num, by omega, U.out _ _, V.out _ _ _ _ _, (below_drewN hB.out _).setCell (Nat.le_refl _) _⟩
      case measure => simp [intOf]; omega
    · obtain rfl : k = n := by omega
      go_wp2_with fail
      go_ret2
      exact ⟨ts, rfl, hrow, hS.out, hB.out⟩
end Go.Proofs.YtndnfhhdflmfcaaGreat
