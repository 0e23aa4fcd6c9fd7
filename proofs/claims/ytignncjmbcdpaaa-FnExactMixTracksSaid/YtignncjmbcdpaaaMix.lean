/-
MixTracks of both packages.
-/
import Derived.Test.YtignncjmbcdpaaaRows32
import Derived.Deep.CutRange
namespace Go.Proofs.Ytignncjmbcdpaaa
open Go Go.RowKit Ieee

/-- The sum of the first rows at a place. -/
def sumAt (rs : List Row) : Nat → Nat → Nat
  | 0, _ => 0
  | k + 1, j => fo .add .f32 (sumAt rs k j) ((rowAt rs k).2.2.getD j 0)
theorem nrm_sumAt (rs : List Row) (k j : Nat) : nrm .f32 (sumAt rs k j) = sumAt rs k j := by
  cases k with
  | zero => exact (nrm_of_num (by decide +kernel) : nrm .f32 0 = 0)
  | succ k => exact nrm_fo _ _ _ _
def rowLen (rs : List Row) (i : Nat) : Nat := (rowAt rs i).2.2.length
/-- The row k added to the first m of the sums. -/
def Part (rs : List Row) (k L m : Nat) (ts : List Nat) : Prop :=
  ts.length = L ∧ ∀ j, j < L → nrm .f32 (ts.getD j 0) = (if j < m then sumAt rs (k + 1) j else sumAt rs k j) ∧ wfk .f32 (ts.getD j 0)
theorem getD_set {ts : List Nat} {m v j : Nat} (hm : m < ts.length) : (ts.set m v).getD j 0 = if j = m then v else ts.getD j 0 := by
  simp only [List.getD, List.getElem?_set]
  by_cases h : m = j
  · subst h; simp [hm]
  · rw [if_neg h, if_neg (fun e => h e.symm)]
theorem Part.set {rs : List Row} {k L m : Nat} {ts : List Nat} (h : Part rs k L m ts) (hm : m < L) {a x : Nat} (ha : nrm .f32 a = nrm .f32 (ts.getD m 0)) (hx : (rowAt rs k).2.2.getD m 0 = x) (w : World) :
    Part rs k L (m + 1) (ts.set m (fR .add .f32 a x w)) := by
  obtain ⟨h1, h2⟩ := h
  refine ⟨by simpa using h1, fun j hj => ?_⟩
  rw [getD_set (by omega)]
  by_cases e : j = m
  · subst e
    rw [if_pos rfl, if_pos (by omega)]
    refine ⟨?_, fR_lt _ _ _ _ _⟩
    have h3 := (h2 j hj).1
    rw [if_neg (by omega)] at h3
    rw [nrm_fR]
    show _ = fo .add .f32 (sumAt rs k j) ((rowAt rs k).2.2.getD j 0)
    rw [hx]
    exact fo_congr (by rw [ha, h3, nrm_sumAt]) rfl
  · rw [if_neg e]
    by_cases e' : j < m
    · rw [if_pos (by omega)]; have := h2 j hj; rwa [if_pos e'] at this
    · rw [if_neg (by omega)]; have := h2 j hj; rwa [if_neg e'] at this
theorem Part.next {rs : List Row} {k L : Nat} {ts : List Nat} (h : Part rs k L L ts) : Part rs (k + 1) L 0 ts :=
  ⟨h.1, fun j hj => by have := h.2 j hj; rw [if_pos hj] at this; rwa [if_neg (by omega)]⟩
theorem Part.zero (rs : List Row) (L : Nat) : Part rs 0 L 0 (List.replicate L 0) :=
  ⟨by simp, fun j hj => by
    rw [if_neg (by omega)]
    have e : (List.replicate L 0).getD j 0 = 0 := by simp [List.getD, hj]
    rw [e]
    exact ⟨nrm_of_num (by decide +kernel), by rw [wfk_32]; omega⟩⟩
theorem rowIs_rd {w : World} {g L : Nat} {ts : List Nat} (h : w.rowIs g 25 L (fun j => .float .f32 (ts.getD j 0))) (hl : ts.length = L) : Rd w (some ⟨g, 0, none⟩) (f32s ts) := fun _ =>
  ⟨g, 0, rfl, h.lt, fun k u hu => by
    have hk : k < ts.length := by
      rcases Nat.lt_or_ge k ts.length with h1 | h1
      · exact h1
      · rw [List.getElem?_eq_none (by simpa using h1)] at hu; cases hu
    rw [f32s_at hk] at hu
    rw [Nat.zero_add, h.cell (by omega)]; exact hu⟩
theorem rowIs_upd {w : World} {g L m v : Nat} {ts : List Nat} (h : w.rowIs g 25 L (fun j => .float .f32 (ts.getD j 0))) (hl : ts.length = L) (hm : m < L) :
    (w.setCell ⟨g, m, none⟩ (.float .f32 v)).rowIs g 25 L (fun j => .float .f32 ((ts.set m v).getD j 0)) :=
  (h.set m (.float .f32 v)).congr fun i hi => by
    show (if i = m then _ else _) = _
    rw [getD_set (by omega)]
    by_cases e : i = m
    · rw [if_pos e, if_pos e]
    · rw [if_neg e, if_neg e]

/-- What MixTracks returns. -/
def MixRes (c r : Nat) (rs : List Row) (ok : Bool) (ys : List Nat) : Prop :=
  ((∀ i, i < rs.length → rowLen rs i = rowLen rs 0) ∧ ok = limOk c r ∧ ∃ ss, Part rs rs.length (if rs.length = 0 then 0 else rowLen rs 0) 0 ss ∧ (if limOk c r = true then limited ss c r ys ss.length else ys = [])) ∨
  ((∃ i, i < rs.length ∧ rowLen rs i ≠ rowLen rs 0) ∧ ok = false ∧ ys = [])
def MixPost (c r : Nat) (rs : List Row) (w : World) (e : Ending) (w' : World) : Prop :=
  ∃ (A' : Option Addr) (c' : Nat) (ys : List Nat) (ok : Bool), e = .returned (.tuple #[.slice A' ys.length c', .bool ok]) ∧ Own w' w.heap.size w'.heap.size A' c' ys ∧ MixRes c r rs ok ys ∧ Below w.heap.size w w'
/-- The sums after so many rows. -/
structure Summed (w W : World) (rs : List Row) (k : Nat) (v : Value) (L : Nat) : Prop where
  below : Below w.heap.size w W
  row : ∃ g ss, v = .slice (some ⟨g, 0, none⟩) L L ∧ w.heap.size ≤ g ∧ W.rowIs g 25 L (fun j => .float .f32 (ss.getD j 0)) ∧ Part rs k L 0 ss

theorem owns_low {w : World} {lo lo' n : Nat} {e : TypeId} {v : Value} {xs : List Value} (h : w.ownsRow lo e 1 v n xs) (hl : lo' ≤ lo) : w.ownsRow lo' e 1 v n xs := by
  obtain ⟨h1, h2⟩ := h
  refine ⟨h1, ?_⟩
  rcases h2 with h2 | ⟨g, cap, cur, e1, e2, e3⟩
  · exact .inl h2
  · exact .inr ⟨g, cap, cur, e1, by omega, e3⟩
theorem mix_bad (c r : Nat) {rs : List Row} {k : Nat} {w W : World} (hk : k < rs.length) (hne : rowLen rs k ≠ rowLen rs 0) (hb : Below w.heap.size w W) : MixPost c r rs w (.returned (.tuple #[.slice none 0 0, .bool false])) W :=
  ⟨none, 0, [], false, rfl, ⟨⟨rfl, .inl ⟨rfl, rfl⟩⟩, fun k hk => by cases hk⟩, .inr ⟨⟨k, hk, hne⟩, rfl, rfl⟩, hb⟩
theorem mix_good {c r : Nat} {rs : List Row} {w W W' : World} {ss : List Nat} {e : Ending} (hsame : ∀ i, i < rs.length → rowLen rs i = rowLen rs 0) (hL : (if rs.length = 0 then 0 else rowLen rs 0) = ss.length) (hP : Part rs rs.length ss.length 0 ss) (hb : Below w.heap.size w W)
    (h : LimitPost c r ss W e W') : MixPost c r rs w e W' := by
  obtain ⟨A', c', ys, he, ho, hy, hb2⟩ := h
  exact ⟨A', c', ys, _, he, Own.of (owns_low ho hb.size) rfl, .inl ⟨hsame, rfl, ss, by rw [hL]; exact hP, hy⟩, hb.trans (hb2.mono hb.size)⟩

set_option maxRecDepth 100000 in
set_option maxHeartbeats 600000 in
theorem specMix_any (A : Option Addr) (cp c r : Nat) (rs : List Row) (w : World) (hcw : wfk .f32 c) (hrw : wfk .f32 r) (hr : RdSS w A rs) (hn : rs.length ≤ 1048576) (hl : ∀ i, i < rs.length → rowLen rs i ≤ 1048576)
    (hwf : ∀ i, i < rs.length → ∀ j, j < (rowAt rs i).2.2.length → wfk .f32 ((rowAt rs i).2.2.getD j 0)) :
    Calls Try.prog 39 #[.slice A rs.length cp, .float .f32 c, .float .f32 r] w (MixPost c r rs w) := by
  go_enter Try.func39, Try.ntmps39
  have HL := Lib.hid hl
  have HW := Lib.hid hwf
  have S0 : Hid (Summed w (w.alloc (.cells #[] 25)) rs 0 (.slice (some ⟨w.heap.size, 0, none⟩) 0 0) 0) :=
    ⟨(Below.refl w.heap.size w).alloc (Nat.le_refl _) _, w.heap.size, [], rfl, Nat.le_refl _, ⟨#[], heap_alloc_new w _, rfl, fun i hi => absurd hi (Nat.not_lt_zero _)⟩, rfl, fun j hj => absurd hj (Nat.not_lt_zero _)⟩
  clear hl hwf
  go_wp2_with fail
  generalize w.alloc (.cells #[] 25) = W0 at *
  go_loopw [8, 16] (fun v i wr => ∃ k : Nat, i = .int .i64 (k : Int) ∧ k ≤ rs.length ∧ Hid (Summed w wr rs k v (if k = 0 then 0 else rowLen rs 0)) ∧ Hid (∀ i, i < k → rowLen rs i = rowLen rs 0)) (fun _ i _ => rs.length - (intOf i).toNat)
  case atStart => exact ⟨0, rfl, by omega, S0, fun i hi => absurd hi (Nat.not_lt_zero _)⟩
  case round =>
    clear S0
    obtain ⟨k, rfl, hk, hS, hsame⟩ := hrel
    by_cases hlt : k < rs.length
    · obtain ⟨b, off, rfl, hb, hc⟩ := (hr.below hS.out.below).1 (by simp; omega)
      have e1 := hc k _ (rowV_at hlt)
      have hrd := Lib.hid (hr.2 k hlt)
      have hlen : Hid ((rowAt rs k).2.2.length ≤ 1048576) := HL.out k hlt
      have hlk : Hid (rowLen rs k = (rowAt rs k).2.2.length) := rfl
      obtain ⟨A', c', l, hrk⟩ : ∃ A' c' l, rowAt rs k = (A', c', l) := ⟨_, _, _, rfl⟩
      have HRK := Lib.hid hrk
      rw [hrk] at e1 hrd hlen hlk
      unfold rowV at e1
      simp only at e1 hrd hlen hlk
      have hmk := fun W => run_make_row' (P := Try.prog) 23 25 (.float .f32 0) 4 Try.underlying23 f32_info rfl .i64 .i64 l.length (by have := hlen.out; omega) (by have := hlen.out; omega) W
      clear hc hrk
      go_upto_if 22 with fail
      go_cut [8] from 23 to 48 (fun v wx => Summed w wx rs k v (rowLen rs 0))
      case first =>
        by_cases h0 : k = 0
        · subst h0
          have HB := Lib.hid hS.out.below
          go_wp2_with fail
          go_meet
          rw [hlk.out]
          exact ⟨HB.out.alloc HB.out.size _, wr.heap.size, List.replicate l.length 0, rfl, HB.out.size, (World.rowIs_made wr (.float .f32 0) l.length 25).congr fun i hi => by simp [List.getD, hi], Part.zero _ _⟩
        · have HS := hS.out
          rw [if_neg h0] at HS
          go_wp2_with fail
          go_meet
          exact HS
      case rest =>
        obtain ⟨hb, g, ss, rfl, hg, hrow, hP⟩ := hcut
        have HP := Lib.hid hP
        have HBc := Lib.hid hb
        clear hP hb hS hmk
        by_cases hd : l.length = rowLen rs 0
        · have hl2 := hlen.out
          rw [← hd] at hrow HP
          rw [← hd]
          go_wp2_with fail
          go_loopw [33] (fun i wx => ∃ (j : Nat) (ts : List Nat), i = .int .i64 (j : Int) ∧ j ≤ l.length ∧ wx.rowIs g 25 l.length (fun j => .float .f32 (ts.getD j 0)) ∧ Hid (Part rs k l.length j ts) ∧ Hid (Below w.heap.size w wx)) (fun i _ => l.length - (intOf i).toNat)
          case atStart => exact ⟨0, ss, rfl, by omega, hrow, HP, HBc⟩
          case round =>
            clear hrow HP HBc
            obtain ⟨j, ts, rfl, hj, hrow, hP, hB⟩ := hrel
            by_cases hjl : j < l.length
            · obtain ⟨b2, off2, rfl, hb2, hc2⟩ := (hrd.out.below hB.out) (by simp; omega)
              have e2 := hc2 j _ (f32s_at hjl)
              have e3 := hrow.cell hjl
              have e4 := hrow.frozen j
              obtain ⟨x, hx⟩ : ∃ x, l.getD j 0 = x := ⟨_, rfl⟩
              obtain ⟨t, ht⟩ : ∃ t, ts.getD j 0 = t := ⟨_, rfl⟩
              rw [hx] at e2
              rw [ht] at e3
              have Hx : Hid ((rowAt rs k).2.2.getD j 0 = x) := by show (rowAt rs k).2.2.getD j 0 = x; rw [HRK.out]; exact hx
              have Hup := Lib.hid (fun v => rowIs_upd (v := v) hrow hP.out.1 hjl)
              have Hpt := Lib.hid (fun W => hP.out.set hjl (a := t) (by rw [ht]) Hx.out W)
              clear hx ht hc2 hrow
              go_wp2_with fail
              go_roundw
              case rel => exact ⟨j + 1, _, by go_num, by omega, Hup.out _, Hpt.out _, (below_drewN hB.out _).setCell hg _⟩
              case measure => simp [intOf]; omega
            · obtain rfl : j = l.length := by omega
              go_wp2_with fail
              go_roundw
              case rel => exact ⟨k + 1, by go_num, by omega, (by
                rw [if_neg (by omega)]
                exact ⟨hB.out, g, ts, by rw [← hd], hg, by rw [← hd]; exact hrow, by rw [← hd]; exact hP.out.next⟩), fun i hi => (by
                rcases Nat.lt_or_ge i k with h | h
                · exact hsame.out i h
                · obtain rfl : i = k := by omega
                  rw [hlk.out, hd])⟩
              case measure => simp [intOf]; omega
        · go_wp2_with fail
          go_ret2
          exact mix_bad c r hlt (by rw [hlk.out]; exact hd) HBc.out
    · obtain rfl : k = rs.length := by omega
      have hLd : (if rs.length = 0 then 0 else rowLen rs 0) ≤ 1048576 := by
        split
        · omega
        · exact HL.out 0 (by omega)
      generalize hLdef : (if rs.length = 0 then 0 else rowLen rs 0) = L at *
      obtain ⟨hb, g, ss, rfl, hg, hrow, hP⟩ := hS.out
      obtain rfl : ss.length = L := hP.1
      have Hrd := Lib.hid (rowIs_rd hrow rfl)
      have HLd := Lib.hid hLdef
      have HP := Lib.hid hP
      have HB := Lib.hid hb
      clear hS hLdef hP hb hrow
      go_wp2_with fail
      refine (specLimit_any _ _ c r ss _ hcw hrw Hrd.out hLd (fun i hi => (HP.out.2 i hi).2)).mono ?_
      rintro e W' hlp
      have hm := Lib.hid (mix_good hsame.out HLd.out HP.out HB.out hlp)
      unfold LimitPost at hlp
      obtain ⟨A2, c2, ys, rfl, _⟩ := hlp
      go_wp2_with fail
      go_ret2
      exact hm.out
set_option maxRecDepth 100000 in
set_option maxHeartbeats 600000 in
theorem implMix_any (A : Option Addr) (cp c r : Nat) (rs : List Row) (w : World) (hcw : wfk .f32 c) (hrw : wfk .f32 r) (hr : RdSS w A rs) (hn : rs.length ≤ 1048576) (hl : ∀ i, i < rs.length → rowLen rs i ≤ 1048576)
    (hwf : ∀ i, i < rs.length → ∀ j, j < (rowAt rs i).2.2.length → wfk .f32 ((rowAt rs i).2.2.getD j 0)) :
    Calls Try.prog 41 #[.slice A rs.length cp, .float .f32 c, .float .f32 r] w (MixPost c r rs w) := by
  go_enter Try.func41, Try.ntmps41
  have HL := Lib.hid hl
  have HW := Lib.hid hwf
  have S0 : Hid (Summed w (w.alloc (.cells #[] 25)) rs 0 (.slice (some ⟨w.heap.size, 0, none⟩) 0 0) 0) :=
    ⟨(Below.refl w.heap.size w).alloc (Nat.le_refl _) _, w.heap.size, [], rfl, Nat.le_refl _, ⟨#[], heap_alloc_new w _, rfl, fun i hi => absurd hi (Nat.not_lt_zero _)⟩, rfl, fun j hj => absurd hj (Nat.not_lt_zero _)⟩
  clear hl hwf
  go_wp2_with fail
  generalize w.alloc (.cells #[] 25) = W0 at *
  go_loopw [8, 16] (fun v i wr => ∃ k : Nat, i = .int .i64 (k : Int) ∧ k ≤ rs.length ∧ Hid (Summed w wr rs k v (if k = 0 then 0 else rowLen rs 0)) ∧ Hid (∀ i, i < k → rowLen rs i = rowLen rs 0)) (fun _ i _ => rs.length - (intOf i).toNat)
  case atStart => exact ⟨0, rfl, by omega, S0, fun i hi => absurd hi (Nat.not_lt_zero _)⟩
  case round =>
    clear S0
    obtain ⟨k, rfl, hk, hS, hsame⟩ := hrel
    by_cases hlt : k < rs.length
    · obtain ⟨b, off, rfl, hb, hc⟩ := (hr.below hS.out.below).1 (by simp; omega)
      have e1 := hc k _ (rowV_at hlt)
      have hrd := Lib.hid (hr.2 k hlt)
      have hlen : Hid ((rowAt rs k).2.2.length ≤ 1048576) := HL.out k hlt
      have hlk : Hid (rowLen rs k = (rowAt rs k).2.2.length) := rfl
      obtain ⟨A', c', l, hrk⟩ : ∃ A' c' l, rowAt rs k = (A', c', l) := ⟨_, _, _, rfl⟩
      have HRK := Lib.hid hrk
      rw [hrk] at e1 hrd hlen hlk
      unfold rowV at e1
      simp only at e1 hrd hlen hlk
      have hmk := fun W => run_make_row' (P := Try.prog) 23 25 (.float .f32 0) 4 Try.underlying23 f32_info rfl .i64 .i64 l.length (by have := hlen.out; omega) (by have := hlen.out; omega) W
      have e0 : wr.cell? ⟨b, off, none⟩ = some (rowV (rowAt rs 0)) := hc 0 _ (rowV_at (by omega))
      unfold rowV at e0
      have hl0 : Hid (rowLen rs 0 = (rowAt rs 0).2.2.length) := rfl
      generalize (rowAt rs 0).2.2.length = n0 at *
      generalize (rowAt rs 0).1 = A0 at *
      generalize (rowAt rs 0).2.1 = c0 at *
      clear hc hrk
      by_cases hd0 : l.length = n0
      case neg =>
        go_wp2_with fail
        go_ret2
        exact mix_bad c r hlt (by rw [hlk.out, hl0.out]; exact hd0) hS.out.below
      subst hd0
      have hd : l.length = rowLen rs 0 := hl0.out.symm
      have HD := Lib.hid hd
      clear hd
      go_upto_if 29 with fail
      go_cut [8] from 30 to 48 (fun v wx => Summed w wx rs k v (rowLen rs 0))
      case first =>
        by_cases h0 : k = 0
        · subst h0
          have HB := Lib.hid hS.out.below
          go_wp2_with fail
          go_meet
          rw [hlk.out]
          exact ⟨HB.out.alloc HB.out.size _, wr.heap.size, List.replicate l.length 0, rfl, HB.out.size, (World.rowIs_made wr (.float .f32 0) l.length 25).congr fun i hi => by simp [List.getD, hi], Part.zero _ _⟩
        · have HS := hS.out
          rw [if_neg h0] at HS
          go_wp2_with fail
          go_meet
          exact HS
      case rest =>
        obtain ⟨hb, g, ss, rfl, hg, hrow, hP⟩ := hcut
        have HP := Lib.hid hP
        have HBc := Lib.hid hb
        clear hP hb hS hmk
        have hl2 := hlen.out
        have hd := HD.out
        rw [← hd] at hrow HP
        rw [← HD.out]
        clear hd
        go_wp2_with fail
        go_loopw [35] (fun i wx => ∃ (j : Nat) (ts : List Nat), i = .int .i64 (j : Int) ∧ j ≤ l.length ∧ wx.rowIs g 25 l.length (fun j => .float .f32 (ts.getD j 0)) ∧ Hid (Part rs k l.length j ts) ∧ Hid (Below w.heap.size w wx)) (fun i _ => l.length - (intOf i).toNat)
        case atStart => exact ⟨0, ss, rfl, by omega, hrow, HP, HBc⟩
        case round =>
          clear hrow HP HBc
          obtain ⟨j, ts, rfl, hj, hrow, hP, hB⟩ := hrel
          by_cases hjl : j < l.length
          · obtain ⟨b2, off2, rfl, hb2, hc2⟩ := (hrd.out.below hB.out) (by simp; omega)
            have e2 := hc2 j _ (f32s_at hjl)
            have e3 := hrow.cell hjl
            have e4 := hrow.frozen j
            obtain ⟨x, hx⟩ : ∃ x, l.getD j 0 = x := ⟨_, rfl⟩
            obtain ⟨t, ht⟩ : ∃ t, ts.getD j 0 = t := ⟨_, rfl⟩
            rw [hx] at e2
            rw [ht] at e3
            have Hx : Hid ((rowAt rs k).2.2.getD j 0 = x) := by show (rowAt rs k).2.2.getD j 0 = x; rw [HRK.out]; exact hx
            have Hup := Lib.hid (fun v => rowIs_upd (v := v) hrow hP.out.1 hjl)
            have Hpt := Lib.hid (fun W => hP.out.set hjl (a := t) (by rw [ht]) Hx.out W)
            clear hx ht hc2 hrow
            go_wp2_with fail
            go_roundw
            case rel => exact ⟨j + 1, _, by go_num, by omega, Hup.out _, Hpt.out _, (below_drewN hB.out _).setCell hg _⟩
            case measure => simp [intOf]; omega
          · obtain rfl : j = l.length := by omega
            go_wp2_with fail
            go_roundw
            case rel => exact ⟨k + 1, by go_num, by omega, (by
              rw [if_neg (by omega)]
              exact ⟨hB.out, g, ts, by rw [← HD.out], hg, by rw [← HD.out]; exact hrow, by rw [← HD.out]; exact hP.out.next⟩), fun i hi => (by
              rcases Nat.lt_or_ge i k with h | h
              · exact hsame.out i h
              · obtain rfl : i = k := by omega
                rw [hlk.out, HD.out])⟩
            case measure => simp [intOf]; omega
    · obtain rfl : k = rs.length := by omega
      have hLd : (if rs.length = 0 then 0 else rowLen rs 0) ≤ 1048576 := by
        split
        · omega
        · exact HL.out 0 (by omega)
      generalize hLdef : (if rs.length = 0 then 0 else rowLen rs 0) = L at *
      obtain ⟨hb, g, ss, rfl, hg, hrow, hP⟩ := hS.out
      obtain rfl : ss.length = L := hP.1
      have Hrd := Lib.hid (rowIs_rd hrow rfl)
      have HLd := Lib.hid hLdef
      have HP := Lib.hid hP
      have HB := Lib.hid hb
      clear hS hLdef hP hb hrow
      go_wp2_with fail
      refine (implLimit_any _ _ c r ss _ hcw hrw Hrd.out hLd (fun i hi => (HP.out.2 i hi).2)).mono ?_
      rintro e W' hlp
      have hm := Lib.hid (mix_good hsame.out HLd.out HP.out HB.out hlp)
      unfold LimitPost at hlp
      obtain ⟨A2, c2, ys, rfl, _⟩ := hlp
      go_wp2_with fail
      go_ret2
      exact hm.out
end Go.Proofs.Ytignncjmbcdpaaa
