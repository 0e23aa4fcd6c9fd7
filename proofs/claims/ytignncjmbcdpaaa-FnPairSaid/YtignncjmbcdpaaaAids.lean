/-
laws.at, laws.power, laws.same.
-/
import Derived.Test.YtignncjmbcdpaaaFirstDiff
import Derived.Test.YtignncjmbcdpaaaExact
namespace Go.Proofs.Ytignncjmbcdpaaa
open Go Go.RowKit Ieee

/-- What laws.at returns. -/
def atL (bs : List Int) (i : Nat) : Int := if i < bs.length then bs.getD i 0 else ((i * 37 + bs.length * 11 : Nat) : Int) % 256
theorem atL_bound {bs : List Int} (hb : ∀ i, i < bs.length → 0 ≤ bs.getD i 0 ∧ bs.getD i 0 ≤ 255) (i : Nat) : 0 ≤ atL bs i ∧ atL bs i ≤ 255 := by
  unfold atL
  split
  · exact hb i ‹_›
  · omega

set_option maxHeartbeats 400000 in
theorem at_any (A : Option Addr) (c : Nat) (bs : List Int) (i : Nat) (w : World) (hr : Rd w A (bs.map (.int .u8))) (hm : bs.length ≤ 1048576) (hi : i ≤ 1000) (hb : ∀ i, i < bs.length → 0 ≤ bs.getD i 0 ∧ bs.getD i 0 ≤ 255) :
    Calls Try.prog 16 #[.slice A bs.length c, .int .i64 i] w fun e w' => e = .returned (.int .i64 (atL bs i)) ∧ w = w' := by
  by_cases h : i < bs.length
  · obtain ⟨b, off, rfl, hb1, hc⟩ := hr (by simp; omega)
    have e1 := hc i (.int .u8 (bs.getD i 0)) (by simp [List.getD, List.getElem?_eq_getElem h])
    have hv := hb i h
    have He : Hid (atL bs i = bs.getD i 0) := if_pos h
    clear hc hr hb
    generalize bs.getD i 0 = x at *
    go_enter Try.func16, Try.ntmps16
    go_wp2
    go_ret
    exact ⟨by rw [He.out]; go_num, rfl⟩
  · have He : Hid (atL bs i = ((i * 37 + bs.length * 11 : Nat) : Int) % 256) := if_neg h
    have h2 : bs.length ≤ i := by omega
    clear hb hr
    go_enter Try.func16, Try.ntmps16
    go_wp2
    go_ret
    exact ⟨by rw [He.out]; go_num, rfl⟩

theorem two_fin : fin .f64 4611686018427387904 ∧ fv .f64 4611686018427387904 = 2 := by
  have h : FloatKind.f64.format.read 4611686018427387904 = .number false 4503599627370496 (-51) := by decide +kernel
  obtain ⟨h1, h2⟩ := fin_of_read h
  refine ⟨h1, ?_⟩
  rw [h2, dval_num]
  unfold mval pw
  simp only [Bool.false_eq_true, if_false]
  grind
theorem one_fin : fin .f64 4607182418800017408 ∧ fv .f64 4607182418800017408 = 1 := by
  obtain ⟨h1, h2⟩ := fin_of_read (k := .f64) one_read
  refine ⟨h1, ?_⟩
  show fv .f64 one64 = 1
  rw [h2, dval_num]
  unfold mval pw
  simp only [Bool.false_eq_true, if_false]
  grind
theorem half_step {r : Nat} {e : Int} (hr : fin .f64 r) (hv : fv .f64 r = pw e) (h1 : -900 ≤ e) (h2 : e ≤ 900) (w : World) :
    fin .f64 (fR .quo .f64 r 4611686018427387904 w) ∧ fv .f64 (fR .quo .f64 r 4611686018427387904 w) = pw (e - 1) := by
  obtain ⟨t1, t2⟩ := two_fin
  have hp : pw e / 2 = pw (e - 1) := by
    have := pw_succ (e - 1)
    rw [show e - 1 + 1 = e by omega] at this
    rw [this]; grind
  have hpos := pw_pos e
  have hle : pw e ≤ pw 1000 := pw_mono (by omega)
  have hd := div_spec hr t1 (by rw [t2]; grind) (by rw [t2, hv, hp, ab_of_nonneg (Rat.le_of_lt (pw_pos _)), ← hp]; show _ ≤ pw 1000; grind)
  rw [t2, hv, hp] at hd
  have hx := hd.few (few_pw (by have : FloatKind.f64.format.leastPlace = -1074 := by decide +kernel
                                omega)) (by rw [ab_of_nonneg (Rat.le_of_lt (pw_pos _))]; exact pw_mono (show e - 1 ≤ 1000 by omega))
  have hn := nrm_fin_eq (nrm_fR .quo .f64 r 4611686018427387904 w) hd.1
  rw [hn]
  exact ⟨hd.1, hx⟩

set_option maxHeartbeats 400000 in
theorem power_neg (n : Int) (w : World) (h0 : n < 0) (h1 : -500 ≤ n) : Calls Try.prog 19 #[.int .i64 n] w fun e w' => ∃ r m, e = .returned (.float .f64 r) ∧ fin .f64 r ∧ fv .f64 r = pw n ∧ w.drewN m = w' := by
  go_enter Try.func19, Try.ntmps19
  go_wp2_with fail
  go_loopw [0, 3] (fun m x wr => m = .int .i64 n ∧ x = .float .f64 4607182418800017408 ∧ wr = w) (fun _ _ _ => 0)
  case atStart => exact ⟨rfl, rfl, rfl⟩
  case round =>
    obtain ⟨rfl, rfl, rfl⟩ := hrel
    have hn : decide (0 < n) = false := by simp; omega
    go_wp2_with fail
    go_loopw [0, 3] (fun m x w2 => ∃ (j : Int) (r k : Nat), m = .int .i64 j ∧ n ≤ j ∧ j ≤ 0 ∧ x = .float .f64 r ∧ fin .f64 r ∧ fv .f64 r = pw (n - j) ∧ w2 = wr.drewN k) (fun m _ _ => (-intOf m).toNat)
    case atStart => exact ⟨n, _, 0, rfl, by omega, by omega, rfl, one_fin.1, by rw [one_fin.2]; simp [pw], rfl⟩
    case round =>
      obtain ⟨j, r, k, rfl, h2, h3, rfl, hr, hv, rfl⟩ := hrel
      have Hst := Lib.hid (fun w => half_step hr hv (by omega) (by omega) w)
      have Hr := Lib.hid (And.intro hr hv)
      clear hr hv
      by_cases hj : j < 0
      · go_wp2
        go_roundw
        case rel => exact ⟨j + 1, _, _, by go_num, by omega, by omega, rfl, (Hst.out _).1, by rw [(Hst.out _).2]; congr 1; omega, rfl⟩
        case measure => simp [intOf]; omega
      · obtain rfl : j = 0 := by omega
        go_wp2
        go_ret
        exact ⟨r, rfl, Hr.out.1, Hr.out.2.trans (by congr 1; omega), k, rfl⟩

set_option maxHeartbeats 100000 in
theorem same_aid (A B : Option Addr) (c d : Nat) (xs ys : List Nat) (w : World) (Hr : Rd w A (f32s xs)) (Hs : Rd w B (f32s ys)) (hm : xs.length ≤ 1048576) (hl : ys.length ≤ 1048576)
    (Wx : Hid (∀ i, i < xs.length → wfk .f32 (xs.getD i 0))) (Wy : Hid (∀ i, i < ys.length → wfk .f32 (ys.getD i 0)))  (H : Hid (FirstDiff xs ys (-1))) :
    Calls Try.prog 18 #[.slice A xs.length c, .slice B ys.length d] w fun e w' => ∃ n, e = .returned (.bool true) ∧ w.drewN n = w' := by
  go_enter Try.func18, Try.ntmps18
  go_wp2_with fail
  refine (spec_firstDiff A B c d xs ys _ Hr Hs hm hl Wx.out Wy.out).mono ?_
  intro e w' h
  obtain ⟨r, n, rfl, hfd, rfl⟩ := h
  have hr := hfd.unique H.out
  clear hfd
  subst hr
  go_wp2_with fail
  go_ret
  exact ⟨_, rfl, rfl⟩
theorem same_true (A B : Option Addr) (c d : Nat) (xs ys : List Nat) (w : World) (hr : Rd w A (f32s xs)) (hs : Rd w B (f32s ys)) (hm : xs.length ≤ 1048576) (hl : ys.length ≤ 1048576)
    (wx : ∀ i, i < xs.length → wfk .f32 (xs.getD i 0)) (wy : ∀ i, i < ys.length → wfk .f32 (ys.getD i 0)) (hlen : xs.length = ys.length) (ha : ∀ i, i < xs.length → sameB .f32 (xs.getD i 0) (ys.getD i 0) = true) :
    Calls Try.prog 18 #[.slice A xs.length c, .slice B ys.length d] w fun e w' => ∃ n, e = .returned (.bool true) ∧ w.drewN n = w' :=
  same_aid A B c d xs ys w hr hs hm hl wx wy (Or.inr ⟨rfl, fun j hj => ⟨by omega, by omega, ha j (by omega)⟩⟩)
theorem rd_one (w : World) (T : TypeId) (b n : Nat) (h : n = w.heap.size) : Rd (w.alloc (.cells #[.float .f32 b] T)) (some ⟨n, 0, none⟩) (f32s [b]) := by
  subst h; exact MadeRow.rd (T := T) ⟨#[.float .f32 b], rfl, rfl⟩
theorem same_one (A B : Option Addr) (c d x : Nat) (w : World) (hr : Rd w A (f32s [x])) (hs : Rd w B (f32s [x])) (hw : wfk .f32 x) :
    Calls Try.prog 18 #[.slice A 1 c, .slice B 1 d] w fun e w' => ∃ n, e = .returned (.bool true) ∧ w.drewN n = w' := by
  have h1 : ∀ i, i < [x].length → wfk .f32 ([x].getD i 0) := fun i hi => by
    have : i = 0 := by simpa using hi
    subst this; exact hw
  exact same_true A B c d [x] [x] w hr hs (by simp) (by simp) h1 h1 rfl (fun i _ => by simp [sameB])
theorem Rd.alloc {w : World} {A : Option Addr} {xs : List Value} (h : Rd w A xs) (o : Obj) : Rd (w.alloc o) A xs := h.below ((Below.refl w.heap.size w).alloc (Nat.le_refl _) o)
theorem rd_cell {w : World} {b off : Nat} {xs : List Nat} {k : Nat} (h : Rd w (some ⟨b, off, none⟩) (f32s xs)) (hk : k < xs.length) : w.cell? ⟨b, off + k, none⟩ = some (.float .f32 (xs.getD k 0)) := by
  obtain ⟨b', off', hA, _, hc⟩ := h (by simp; omega)
  cases hA
  exact hc k _ (f32s_at hk)
end Go.Proofs.Ytignncjmbcdpaaa
