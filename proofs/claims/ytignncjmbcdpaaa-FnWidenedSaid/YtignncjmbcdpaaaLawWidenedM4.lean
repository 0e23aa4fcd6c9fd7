/-
Part 4 of 5 of the proof of the law FnWidened: it returns true for all codes. No condition.
-/
import Derived.Test.YtignncjmbcdpaaaLawWidenedM3
import Derived.Deep.RegionHeld
import Derived.Deep.CutBlock
import Derived.Deep.DeepCutAuto

/-
impl.AreWide at valid wide modes.
-/
namespace Go.Proofs.Ytignncjmbcdpaaa
open Go Go.RowKit Ieee

/-- What is asked of a wide mode. -/
structure WideOk (a b c d : Nat) : Prop where
  wa : wfk .f64 a
  wb : wfk .f64 b
  wc : wfk .f64 c
  wd : wfk .f64 d
  fa : fin .f64 a
  fb : fin .f64 b
  fc : fin .f64 c
  fd : fin .f64 d
  sq : fle .f64 (fo .add .f64 (fo .mul .f64 a a) (fo .mul .f64 b b)) 4607182418800017408 = true
  gain : fle .f64 (absB c) 4652218415073722368 = true ∧ fle .f64 (absB d) 4652218415073722368 = true
theorem ModeOk.wide {a b c d : Nat} (h : ModeOk a b c d) : WideOk (wid a) (wid b) (wid c) (wid d) := ⟨wid_lt _, wid_lt _, wid_lt _, wid_lt _, h.fa, h.fb, h.fc, h.fd, h.sq, h.gain⟩

set_option maxHeartbeats 400000 in
theorem isWideD_ok (a b c d : Nat) (w : World) (h : WideOk a b c d) : Calls Try.prog 142 #[.complex .f64 a b, .complex .f64 c d] w fun e w' => ∃ n, e = .returned (.bool true) ∧ w.drewN n = w' := by
  have H := Lib.hid h
  have T := Lib.hid (fun w1 w2 w3 => (by rw [← h.sq]; refine fle_congr ?_ rfl; exact fRo (fRo rfl rfl _) (fRo rfl rfl _) _ : fle .f64 (fR .add .f64 (fR .mul .f64 a a w1) (fR .mul .f64 b b w2) w3) 4607182418800017408 = true))
  have g1 := gain_no h.fc h.wc h.gain.1
  have g2 := gain_no h.fd h.wd h.gain.2
  clear h
  go_enter Try.func142, Try.ntmps142
  go_wp2_with fail
  refine (finiteDouble_any _ _ _ H.out.wa H.out.wb).mono ?_
  rintro e w' ⟨rfl, rfl⟩
  rw [finB_of H.out.fa, finB_of H.out.fb]
  go_wp2_with fail
  refine (finiteDouble_any _ _ _ H.out.wc H.out.wd).mono ?_
  rintro e w' ⟨rfl, rfl⟩
  rw [finB_of H.out.fc, finB_of H.out.fd]
  go_wp2_with fail
  refine (mathAbs_any _ _ H.out.wc).mono ?_
  rintro e w' ⟨rfl, rfl⟩
  go_wp2_with fail
  refine (mathAbs_any _ _ H.out.wd).mono ?_
  rintro e w' ⟨rfl, rfl⟩
  go_wp2_with fail
  go_ret
  exact ⟨_, ret_bool (T.out _ _ _), rfl⟩

def WidesOk (ds : List DW) : Prop := ∀ m ∈ ds, WideOk m.1 m.2.1 m.2.2.1 m.2.2.2
theorem WidesOk.at_ {ds : List DW} (h : WidesOk ds) {i : Nat} (hi : i < ds.length) : WideOk (ds.getD i (0, 0, 0, 0)).1 (ds.getD i (0, 0, 0, 0)).2.1 (ds.getD i (0, 0, 0, 0)).2.2.1 (ds.getD i (0, 0, 0, 0)).2.2.2 := by
  have : ds.getD i (0, 0, 0, 0) ∈ ds := by
    simp only [List.getD, List.getElem?_eq_getElem hi, Option.getD_some]
    exact List.getElem_mem hi
  exact h _ this
theorem ModesOk.wide {ms : List MW} (h : ModesOk ms) : WidesOk (ms.map widM) := fun m hm => by
  obtain ⟨x, hx, rfl⟩ := List.mem_map.1 hm
  exact (h x hx).wide

set_option maxRecDepth 100000 in
set_option maxHeartbeats 400000 in
theorem notWide_any (a b c d : Nat) (w : World) (h : WideOk a b c d) : Calls Try.prog 152 #[.agg #[.complex .f64 a b, .complex .f64 c d]] w fun e w' => e = .returned (.bool false) ∧ Below w.heap.size w w' := by
  have HB : Hid (Below w.heap.size w (w.alloc (.cells #[.complex .f64 a b, .complex .f64 c d] 131))) := (Below.refl w.heap.size w).alloc (Nat.le_refl _) _
  have hm : (w.alloc (.cells #[.complex .f64 a b, .complex .f64 c d] 131)).heap[w.heap.size]? = some (.cells #[.complex .f64 a b, .complex .f64 c d] 131 (0, 0)) := heap_alloc_new w _
  have c0 := cell_of_row _ w.heap.size 0 _ _ (0, 0) hm
  have c1 := cell_of_row _ w.heap.size 1 _ _ (0, 0) hm
  simp only [List.getElem?_toArray, List.getElem?_cons_zero, List.getElem?_cons_succ] at c0 c1
  clear hm
  go_enter Try.func152, Try.ntmps152
  go_wp2_with fail
  refine (isWideD_ok a b c d _ h).mono ?_
  rintro e w' ⟨n, rfl, rfl⟩
  go_wp2_with fail
  go_ret
  exact ⟨rfl, below_drewN HB.out _⟩

set_option maxRecDepth 100000 in
set_option maxHeartbeats 400000 in
theorem indexWide_any (A : Option Addr) (c lo hi : Nat) (ms : List DW) (w : World) (h : OwnD w lo hi A c ms) (hh : hi ≤ w.heap.size) (hok : WidesOk ms) (hl : ms.length ≤ 16) :
    Calls Try.prog 162 #[.slice A ms.length c, .func (.func 152) #[] #[]] w fun e w' => e = .returned (.int .i64 (-1)) ∧ Below w.heap.size w w' := by
  have H := Lib.hid h
  have HK := Lib.hid hok
  clear h hok
  go_enter Try.func162, Try.ntmps162
  go_wp2_with fail
  go_loopw [8] (fun i wr => ∃ k : Nat, i = .int .i64 (k : Int) ∧ k ≤ ms.length ∧ Hid (Below w.heap.size w wr)) (fun i _ => ms.length - (intOf i).toNat)
  case atStart => exact ⟨0, rfl, by omega, Below.refl _ _⟩
  case round =>
    obtain ⟨k, rfl, hk, hb⟩ := hrel
    by_cases hlt : k < ms.length
    · obtain ⟨b, rfl, _, hbl, hlc, _, hcell⟩ := (H.out.below hb.out hh).cells (by omega)
      obtain ⟨e1, e2⟩ := hcell k hlt
      have HM := Lib.hid (HK.out.at_ hlt)
      clear hcell
      generalize ms.getD k (0, 0, 0, 0) = m at *
      obtain ⟨a, b', c', d⟩ := m
      simp only at e1 e2
      go_wp2_with fail
      refine (notWide_any a b' c' d _ HM.out).mono ?_
      rintro e w' ⟨rfl, hb2⟩
      have HB : Hid (Below w.heap.size w w') := hb.out.trans (hb2.mono hb.out.size)
      clear hb2 e1 e2
      go_wp2_with fail
      go_roundw
      case rel => exact ⟨k + 1, by go_num, by omega, HB⟩
      case measure => simp [intOf]; omega
    · go_wp2_with fail
      go_ret
      exact ⟨rfl, hb.out⟩

set_option maxRecDepth 100000 in
set_option maxHeartbeats 400000 in
theorem containsWide_any (A : Option Addr) (c lo hi : Nat) (ms : List DW) (w : World) (h : OwnD w lo hi A c ms) (hh : hi ≤ w.heap.size) (hok : WidesOk ms) (hl : ms.length ≤ 16) :
    Calls Try.prog 151 #[.slice A ms.length c, .func (.func 152) #[] #[]] w fun e w' => e = .returned (.bool false) ∧ Below w.heap.size w w' := by
  have H := Lib.hid h
  have HK := Lib.hid hok
  clear h hok
  go_enter Try.func151, Try.ntmps151
  go_wp2_with fail
  refine (indexWide_any A c lo hi ms _ H.out hh HK.out hl).mono ?_
  rintro e w' ⟨rfl, hb⟩
  have HB := Lib.hid hb
  clear hb
  go_wp2_with fail
  go_ret
  exact ⟨rfl, HB.out⟩

set_option maxRecDepth 100000 in
set_option maxHeartbeats 400000 in
theorem areWide_any (A : Option Addr) (c lo hi : Nat) (ms : List DW) (w : World) (h : OwnD w lo hi A c ms) (hh : hi ≤ w.heap.size) (hok : WidesOk ms) (hl : ms.length ≤ 16) :
    Calls Try.prog 110 #[.slice A ms.length c] w fun e w' => e = .returned (.bool true) ∧ Below w.heap.size w w' := by
  have H := Lib.hid h
  have HK := Lib.hid hok
  clear h hok
  go_enter Try.func110, Try.ntmps110
  go_wp2_with fail
  refine (containsWide_any A c lo hi ms _ H.out hh HK.out hl).mono ?_
  rintro e w' ⟨rfl, hb⟩
  have HB := Lib.hid hb
  clear hb
  go_wp2_with fail
  go_ret
  exact ⟨rfl, HB.out⟩
end Go.Proofs.Ytignncjmbcdpaaa

/-
impl.WidenBody at a valid body; impl.RingWide at valid wide modes.
-/
namespace Go.Proofs.Ytignncjmbcdpaaa
open Go Go.RowKit Ieee

theorem OwnD.low {w : World} {lo lo' hi : Nat} {A : Option Addr} {c : Nat} {ms : List DW} (h : OwnD w lo hi A c ms) (hl : lo' ≤ lo) : OwnD w lo' hi A c ms := by
  obtain ⟨⟨h1, h2⟩, h3⟩ := h
  refine ⟨⟨h1, ?_⟩, h3⟩
  rcases h2 with h2 | ⟨g, cap, cur, e1, e2, e3⟩
  · exact .inl h2
  · exact .inr ⟨g, cap, cur, e1, Nat.le_trans hl e2, e3⟩
set_option maxRecDepth 100000 in
set_option maxHeartbeats 400000 in
theorem widenBody_any (A : Option Addr) (c lo hi : Nat) (ms : List MW) (w : World) (h : OwnM w lo hi A c ms) (hh : hi ≤ w.heap.size) (hok : ModesOk ms) (hl : ms.length ≤ 16) :
    Calls Try.prog 63 #[.agg #[.slice A ms.length c]] w fun e w' => ∃ (A' : Option Addr) (c' : Nat), e = .returned (.tuple #[.slice A' ms.length c', .bool true]) ∧ OwnD w' w.heap.size w'.heap.size A' c' (ms.map widM) ∧ Below w.heap.size w w' := by
  have HB : Hid (Below w.heap.size w (w.alloc (.cells #[.slice A ms.length c] 69))) := (Below.refl w.heap.size w).alloc (Nat.le_refl _) _
  have H : Hid (OwnM (w.alloc (.cells #[.slice A ms.length c] 69)) lo hi A c ms) := h.below HB.out hh
  have HP : Hid ((w.alloc (.cells #[.slice A ms.length c] 69)).heap[w.heap.size]? = some (.cells #[.slice A ms.length c] 69 (0, 0))) := heap_alloc_new w _
  have hsz : w.heap.size < (w.alloc (.cells #[.slice A ms.length c] 69)).heap.size := by simp
  have HK := Lib.hid hok
  have c0 := cell_of_row _ w.heap.size 0 _ _ (0, 0) HP.out
  clear h hok
  go_enter Try.func63, Try.ntmps63
  go_wp2_with fail
  generalize w.alloc (.cells #[.slice A ms.length c] 69) = W at *
  refine (isBody_any A c lo hi ms _ H.out (by omega) HK.out hl).mono ?_
  rintro e W1 ⟨rfl, hb1⟩
  have hs1 := hb1.size
  have HP1 := Lib.hid ((hb1.block _ hsz).trans HP.out)
  have H1 := Lib.hid (H.out.below hb1 (by omega))
  have HB1 : Hid (Below w.heap.size w W1) := HB.out.trans (hb1.mono (by omega))
  clear c0 H HP HB hb1
  have c1 := cell_of_row _ w.heap.size 0 _ _ (0, 0) HP1.out
  go_wp2_with fail
  refine (widened_any A c lo hi ms W1 H1.out (by omega) HK.out hl).mono ?_
  rintro e W2 ⟨A2, c2, rfl, ho2, hb2⟩
  have HO2 := Lib.hid ho2
  have HB2 : Hid (Below w.heap.size w W2) := HB1.out.trans (hb2.mono (by omega))
  clear ho2 hb2 c1
  go_wp2_with fail
  go_ret2
  exact ⟨A2, c2, rfl, HO2.out.low (by omega), HB2.out⟩

/-- An input of float64 at an index; 0 behind the end. -/
def inD (xs : List Nat) (i : Nat) : Nat := if i < xs.length then xs.getD i 0 else 0
theorem f64s_at2 {ys : List Nat} {k : Nat} (h : k < ys.length) : (f64s ys)[k]? = some (.float .f64 (ys.getD k 0)) := by
  simp [f64s, List.getD, List.getElem?_eq_getElem h]
set_option maxHeartbeats 400000 in
theorem elementD_any (A : Option Addr) (c : Nat) (xs : List Nat) (i : Nat) (w : World) (hr : Rd w A (f64s xs)) (hm : xs.length ≤ 1048576) (hi : i ≤ 2000) :
    Calls Try.prog 115 #[.slice A xs.length c, .int .i64 i] w fun e w' => e = .returned (.float .f64 (inD xs i)) ∧ w = w' := by
  by_cases h : i < xs.length
  · obtain ⟨b, off, rfl, hb1, hc⟩ := hr (by simp [f64s]; omega)
    have e1 := hc i _ (f64s_at2 h)
    have He : Hid (inD xs i = xs.getD i 0) := if_pos h
    clear hc hr
    generalize xs.getD i 0 = x at *
    go_enter Try.func115, Try.ntmps115
    go_wp2
    go_ret
    exact ⟨by rw [He.out]; rfl, rfl⟩
  · have He : Hid (inD xs i = 0) := if_neg h
    clear hr
    go_enter Try.func115, Try.ntmps115
    go_wp2
    go_ret
    exact ⟨by rw [He.out]; rfl, rfl⟩
set_option maxRecDepth 100000 in
set_option maxHeartbeats 400000 in
theorem inputD_any (B : Option Addr) (d pb : Nat) (xs : List Nat) (i : Nat) (w : World) (hc : w.cell? ⟨pb, 0, none⟩ = some (.slice B xs.length d)) (hr : Rd w B (f64s xs)) (hm : xs.length ≤ 1048576) (hi : i ≤ 2000) :
    Calls Try.prog 114 #[.int .i64 i, .pointer (some ⟨pb, 0, none⟩)] w fun e w' => ∃ x m, e = .returned (.float .f64 x) ∧ nrm .f64 x = nrm .f64 (inD xs i) ∧ w.drewN m = w' := by
  have T := Lib.hid (elementD_any B d xs i w hr hm hi)
  obtain ⟨y, hy⟩ : ∃ y, inD xs i = y := ⟨_, rfl⟩
  rw [hy] at T ⊢
  clear hr hy
  go_enter Try.func114, Try.ntmps114
  go_wp2_with fail
  refine T.out.mono ?_
  rintro e w' ⟨rfl, rfl⟩
  go_wp2_with fail
  go_ret
  exact ⟨_, 0, rfl, rfl, World.drewN_zero w⟩

set_option maxRecDepth 100000 in
set_option maxHeartbeats 800000 in
theorem ringWide_any (A B : Option Addr) (c d lo hi : Nat) (ds : List DW) (xs : List Nat) (n : Nat) (w : World) (h : OwnD w lo hi A c ds) (hh : hi ≤ w.heap.size) (hok : WidesOk ds) (hl : ds.length ≤ 16)
    (hr : Rd w B (f64s xs)) (hm : xs.length ≤ 1048576) (hn : n ≤ 2000) :
    Calls Try.prog 65 #[.slice A ds.length c, .slice B xs.length d, .int .i64 n] w fun e w' => ∃ (A' : Option Addr) (c' : Nat) (ys : List Nat), e = .returned (.tuple #[.slice A' ys.length c', .bool true]) ∧
      w'.ownsRow w.heap.size 30 1 (.slice A' ys.length c') ys.length (f64s ys) ∧ RungD ds (inD xs) ys n ∧ Below w.heap.size w w' := by
  have HB : Hid (Below w.heap.size w (w.alloc (.cells #[.slice B xs.length d] 87))) := (Below.refl w.heap.size w).alloc (Nat.le_refl _) _
  have H : Hid (OwnD (w.alloc (.cells #[.slice B xs.length d] 87)) lo hi A c ds) := h.below HB.out hh
  have HR : Hid (Rd (w.alloc (.cells #[.slice B xs.length d] 87)) B (f64s xs)) := hr.below HB.out
  have HI : Hid ((w.alloc (.cells #[.slice B xs.length d] 87)).heap[w.heap.size]? = some (.cells #[.slice B xs.length d] 87 (0, 0))) := heap_alloc_new w _
  have hsz : w.heap.size < (w.alloc (.cells #[.slice B xs.length d] 87)).heap.size := by simp
  have hin : (decide ((0 : Int) ≤ (n : Int)) && decide ((n : Int) ≤ 2000)) = true := by simp; omega
  have HK := Lib.hid hok
  clear h hr hok
  go_enter Try.func65, Try.ntmps65
  go_wp2_with fail
  generalize w.alloc (.cells #[.slice B xs.length d] 87) = W at *
  refine (areWide_any A c lo hi ds _ H.out (by omega) HK.out hl).mono ?_
  rintro e W1 ⟨rfl, hb1⟩
  have hs1 := hb1.size
  have HI1 := Lib.hid ((hb1.block _ hsz).trans HI.out)
  have H1 := Lib.hid (H.out.below hb1 (by omega))
  have HR1 := Lib.hid (HR.out.below hb1)
  have HB1 : Hid (Below w.heap.size w W1) := HB.out.trans (hb1.mono (by omega))
  clear H HR HI HB hb1
  go_wp2_with fail
  refine (count_any n _).mono ?_
  rintro e w' ⟨rfl, rfl⟩
  rw [hin]
  go_wp2_with fail
  refine (ringW_any A c lo hi ds w.heap.size (inD xs) n W1 H1.out (by omega) hl hn (fun i W3 hi hb3 => inputD_any B d w.heap.size xs i W3 (cell_of_row W3 w.heap.size 0 _ _ (0, 0) ((hb3.block _ (by omega)).trans HI1.out)) (HR1.out.below hb3) hm (by omega))).mono ?_
  rintro e W4 ⟨A4, c4, ys, rfl, ho4, hr4, hb4⟩
  have HO4 := Lib.hid (owns_low (lo' := w.heap.size) ho4 (by omega))
  have HR4 := Lib.hid hr4
  have HB4 : Hid (Below w.heap.size w W4) := HB1.out.trans (hb4.mono (by omega))
  clear ho4 hr4 hb4
  go_wp2_with fail
  go_ret2
  exact ⟨A4, c4, ys, rfl, HO4.out, HR4.out, HB4.out⟩
end Go.Proofs.Ytignncjmbcdpaaa

/-
laws.sameModes of rows that hold the same modes; spec.MakeSameWide of lists of the same numbers.
-/
namespace Go.Proofs.Ytignncjmbcdpaaa
open Go Go.RowKit Ieee

set_option maxHeartbeats 400000 in
theorem sameC_any (a b : Nat) (w : World) (ha : wfk .f64 a) (hb : wfk .f64 b) : Calls Try.prog 119 #[.complex .f64 a b, .complex .f64 a b] w fun e w' => e = .returned (.bool true) ∧ w = w' := by
  have T1 : Hid (∀ W, Calls Try.prog 120 #[.float .f64 a, .float .f64 a] W fun e w' => e = .returned (.bool true) ∧ W = w') := fun W => (l8Same_any a a W ha ha).mono fun e w' ⟨h1, h2⟩ => ⟨h1.trans (by simp [sameB]), h2⟩
  have T2 : Hid (∀ W, Calls Try.prog 120 #[.float .f64 b, .float .f64 b] W fun e w' => e = .returned (.bool true) ∧ W = w') := fun W => (l8Same_any b b W hb hb).mono fun e w' ⟨h1, h2⟩ => ⟨h1.trans (by simp [sameB]), h2⟩
  clear ha hb
  go_enter Try.func119, Try.ntmps119
  go_wp2_with fail
  refine (T1.out _).mono ?_
  rintro e w' ⟨rfl, rfl⟩
  go_wp2_with fail
  refine (T2.out _).mono ?_
  rintro e w' ⟨rfl, rfl⟩
  go_wp2_with fail
  go_ret
  exact ⟨rfl, rfl⟩

set_option maxRecDepth 100000 in
set_option maxHeartbeats 1000000 in
theorem sameModes_any (A B : Option Addr) (c d lo hi lo' hi' : Nat) (ms : List MW) (w : World) (h : OwnM w lo hi A c ms) (h' : OwnM w lo' hi' B d ms) (hok : ModesOk ms) (hl : ms.length ≤ 16) :
    Calls Try.prog 69 #[.slice A ms.length c, .slice B ms.length d] w fun e w' => ∃ n, e = .returned (.bool true) ∧ w.drewN n = w' := by
  have H1 := Lib.hid h
  have H2 := Lib.hid h'
  have HK := Lib.hid hok
  clear h h' hok
  go_enter Try.func69, Try.ntmps69
  go_wp2_with fail
  go_loopw [13] (fun i wr => ∃ k n : Nat, i = .int .i64 (k : Int) ∧ k ≤ ms.length ∧ wr = w.drewN n) (fun i _ => ms.length - (intOf i).toNat)
  case atStart => exact ⟨0, 0, rfl, by omega, rfl⟩
  case round =>
    obtain ⟨k, n, rfl, hk, rfl⟩ := hrel
    by_cases hlt : k < ms.length
    · obtain ⟨b, rfl, hb1, hb2, hlc, hmx, hcell⟩ := H1.out.cells (by omega)
      obtain ⟨b', rfl, hb1', hb2', hlc', hmx', hcell'⟩ := H2.out.cells (by omega)
      have e12 := hcell k hlt
      have e34 := hcell' k hlt
      have hmk := HK.out.at_ hlt
      clear hcell hcell'
      obtain ⟨m, hm⟩ : ∃ m, ms.getD k (0, 0, 0, 0) = m := ⟨_, rfl⟩
      rw [hm] at e12 e34 hmk
      clear hm
      obtain ⟨a, b0, c0, d0⟩ := m
      obtain ⟨e1, e2⟩ := e12
      obtain ⟨e3, e4⟩ := e34
      simp only at e1 e2 e3 e4 hmk
      obtain ⟨f1, g1⟩ := widFin hmk.fa
      obtain ⟨f2, g2⟩ := widFin hmk.fb
      obtain ⟨f3, g3⟩ := widFin hmk.fc
      obtain ⟨f4, g4⟩ := widFin hmk.fd
      have T1 := Lib.hid (fun W => sameC_any (wid a) (wid b0) W (wid_lt _) (wid_lt _))
      have T2 := Lib.hid (fun W => sameC_any (wid c0) (wid d0) W (wid_lt _) (wid_lt _))
      clear hmk
      obtain ⟨A', hA'⟩ : ∃ x, wid a = x := ⟨_, rfl⟩
      obtain ⟨B', hB'⟩ : ∃ x, wid b0 = x := ⟨_, rfl⟩
      obtain ⟨C', hC'⟩ : ∃ x, wid c0 = x := ⟨_, rfl⟩
      obtain ⟨D', hD'⟩ : ∃ x, wid d0 = x := ⟨_, rfl⟩
      rw [hA'] at f1 T1
      rw [hB'] at f2 T1
      rw [hC'] at f3 T2
      rw [hD'] at f4 T2
      clear hA' hB' hC' hD'
      go_wp2_with fail
      refine wp_region_rx (by kernel_rfl) (by kernel_rfl) ?_; apply Exists.intro
      repeat (first | (apply wpR_val; intro K hK; go_simp; refine ⟨rfl, hK _ ?_⟩; clear hK K) | (apply wpR_skip; intro K hK; go_simp; refine hK _ ?_; clear hK K))
      apply wpR_val (v := .bool true); intro K hK; go_simp; refine ⟨fun m => rcall_same (T1.out _), hK _ ?_⟩; clear hK K
      repeat (first | (apply wpR_val; intro K hK; go_simp; refine ⟨rfl, hK _ ?_⟩; clear hK K) | (apply wpR_skip; intro K hK; go_simp; refine hK _ ?_; clear hK K))
      apply wpR_val (v := .bool true); intro K hK; go_simp; refine ⟨fun m => rcall_same (T2.out _), hK _ ?_⟩; clear hK K
      repeat (first | (apply wpR_val; intro K hK; go_simp; refine ⟨rfl, hK _ ?_⟩; clear hK K) | (apply wpR_skip; intro K hK; go_simp; refine hK _ ?_; clear hK K))
      apply wpR_nil (Rs := []); rintro _ ⟨nq, rfl⟩
      go_wp2_with fail
      go_roundw
      case rel => exact ⟨k + 1, _, by go_num, by omega, rfl⟩
      case measure => simp [intOf]; omega
    · go_wp2_with fail
      go_ret
      exact ⟨_, rfl, rfl⟩

theorem f64s_at3 {ys : List Nat} {k : Nat} (h : k < ys.length) : (f64s ys)[k]? = some (.float .f64 (ys.getD k 0)) := by
  simp [f64s, List.getD, List.getElem?_eq_getElem h]
set_option maxRecDepth 100000 in
set_option maxHeartbeats 1000000 in
theorem sameWide_any (A B : Option Addr) (c d : Nat) (xs ys : List Nat) (w : World) (hr : Rd w A (f64s xs)) (hs : Rd w B (f64s ys)) (hl : ys.length = xs.length) (hm : xs.length ≤ 1048576)
    (hxy : ∀ k, k < xs.length → nrm .f64 (xs.getD k 0) = nrm .f64 (ys.getD k 0) ∧ wfk .f64 (xs.getD k 0) ∧ wfk .f64 (ys.getD k 0)) :
    Calls Try.prog 70 #[.slice A xs.length c, .slice B xs.length d] w fun e w' => ∃ n, e = .returned (.bool true) ∧ w.drewN n = w' := by
  have HX := Lib.hid hxy
  have H1 := Lib.hid hr
  have H2 := Lib.hid hs
  have HL := Lib.hid hl
  clear hxy hr hs hl
  go_enter Try.func70, Try.ntmps70
  go_wp2_with fail
  go_loopw [13] (fun i wr => ∃ k n : Nat, i = .int .i64 (k : Int) ∧ k ≤ xs.length ∧ wr = w.drewN n) (fun i _ => xs.length - (intOf i).toNat)
  case atStart => exact ⟨0, 0, rfl, by omega, rfl⟩
  case round =>
    obtain ⟨k, n, rfl, hk, rfl⟩ := hrel
    by_cases hlt : k < xs.length
    · obtain ⟨b, off, rfl, hb, hc⟩ := H1.out (by simp [f64s]; omega)
      obtain ⟨b', off', rfl, hb', hc'⟩ := H2.out (by simp [f64s]; have := HL.out; omega)
      have e1 := hc k _ (f64s_at3 hlt)
      have e2 := hc' k _ (f64s_at3 (by have := HL.out; omega))
      obtain ⟨h1, h2, h3⟩ := HX.out k hlt
      have T1 : Hid (∀ W, Calls Try.prog 120 #[.float .f64 (xs.getD k 0), .float .f64 (ys.getD k 0)] W fun e w' => e = .returned (.bool true) ∧ W = w') := fun W => (l8Same_any _ _ W h2 h3).mono fun e w' ⟨q1, q2⟩ => ⟨q1.trans (by simp only [sameB, h1, decide_true]), q2⟩
      clear hc hc' h1 h2 h3
      generalize xs.getD k 0 = x at *
      generalize ys.getD k 0 = y at *
      go_wp2_with fail
      refine wp_region_rx (by kernel_rfl) (by kernel_rfl) ?_; apply Exists.intro
      repeat (first | (apply wpR_val; intro K hK; go_simp; refine ⟨rfl, hK _ ?_⟩; clear hK K) | (apply wpR_skip; intro K hK; go_simp; refine hK _ ?_; clear hK K))
      apply wpR_val (v := .bool true); intro K hK; go_simp; refine ⟨fun m => rcall_same (T1.out _), hK _ ?_⟩; clear hK K
      repeat (first | (apply wpR_val; intro K hK; go_simp; refine ⟨rfl, hK _ ?_⟩; clear hK K) | (apply wpR_skip; intro K hK; go_simp; refine hK _ ?_; clear hK K))
      apply wpR_nil (Rs := []); rintro _ ⟨nq, rfl⟩
      go_wp2_with fail
      go_roundw
      case rel => exact ⟨k + 1, _, by go_num, by omega, rfl⟩
      case measure => simp [intOf]; omega
    · go_wp2_with fail
      go_ret
      exact ⟨_, rfl, rfl⟩
end Go.Proofs.Ytignncjmbcdpaaa

/-
A region that draws its order, ends in a store, and loads what that store writes: 'S', the condition under which a load may be taken first, is not asked behind the last operation (number 'k'), which waits for the loads.
(After the library's Derived/OrdersHeld.lean: there S is asked behind every operation.)
-/
namespace Go.Proofs.Ytignncjmbcdpaaa
open Go Go.RowKit

section
variable {P : Program} {ops : Array Oper} {Q : Exit → Act → World → Prop} {md : Region.Mode} {S : World → Prop} {k : Nat}

/-- Whatever order is picked from here on; behind each operation but number 'k' S holds. -/
def wpAnyX (P : Program) (md : Region.Mode) (ops : Array Oper) (Q : Exit → Act → World → Prop) (S : World → Prop) (k : Nat) : Nat → Array Bool → Act → World → Prop
  | 0, listed, a, w => Region.ready md ops listed = [] ∧ Q .normal a w
  | fuel + 1, listed, a, w =>
    (Region.ready md ops listed = [] → Q .normal a w) ∧
    ∀ i ∈ Region.ready md ops listed, wpOp P ops Q i (fun a' w' => (i = k ∨ S w') ∧ wpAnyX P md ops Q S k fuel (listed.setIfInBounds i true) a' w') a w

theorem wpAny_of_x : ∀ (fuel : Nat) (listed : Array Bool) (a : Act) (w : World), wpAnyX P md ops Q S k fuel listed a w → wpAny P md ops Q fuel listed a w
  | 0, _, _, _, h => h
  | fuel + 1, _, _, _, h => ⟨h.1, fun i hi => wpOp_mono (fun a' w' h' => wpAny_of_x fuel _ a' w' h'.2) (h.2 i hi)⟩

/-- The operations 'D' wait for 'i', each for another one of them; the last one is among them; none has come up. -/
def waitsB (md : Region.Mode) (ops : Array Oper) (D : List Nat) (i k : Nat) (listed : Array Bool) : Bool :=
  D.contains k && (i != k) && D.all (fun j => !(listed.getD j true)) && D.all (fun j => j == i || match ops[j]? with | some o => o.after.any (fun e => Region.binds md e && D.contains e.on) | none => true)
theorem waitsB_spec {D : List Nat} {i : Nat} {listed : Array Bool} (h : waitsB md ops D i k listed = true) :
    k ∈ D ∧ i ≠ k ∧ (∀ j ∈ D, listed.getD j true = false) ∧ (∀ j ∈ D, j ≠ i → ∀ o, ops[j]? = some o → ∃ e ∈ o.after, Region.binds md e = true ∧ e.on ∈ D) := by
  unfold waitsB at h
  rw [Bool.and_eq_true, Bool.and_eq_true, Bool.and_eq_true] at h
  obtain ⟨⟨⟨h1, h2⟩, h3⟩, h4⟩ := h
  refine ⟨List.contains_iff_mem.1 h1, by simpa using h2, fun j hj => ?_, fun j hj hne o ho => ?_⟩
  · have := List.all_eq_true.1 h3 j hj
    simpa using this
  · have := List.all_eq_true.1 h4 j hj
    rw [ho] at this
    simp only [Bool.or_eq_true, beq_iff_eq] at this
    rcases this with h | h
    · exact absurd h hne
    · rw [Array.any_eq_true'] at h
      obtain ⟨e, he, hb⟩ := h
      rw [Bool.and_eq_true] at hb
      exact ⟨e, he, hb.1, List.contains_iff_mem.1 hb.2⟩

theorem wpAnyX_first {i : Nat} {oi : Oper} {v : Value} {D : List Nat} (hi : ops[i]? = some oi) (hsel : ∀ (j : Nat) (o : Oper) cs b, ops[j]? = some o → o.op ≠ .select cs b)
    (hQ : ∀ c a w, Q (.panic c) (a.put oi.dst v) w → Q (.panic c) a w) (hkD : k ∈ D) (hD : ∀ j ∈ D, j ≠ i → ∀ o, ops[j]? = some o → ∃ e ∈ o.after, Region.binds md e = true ∧ e.on ∈ D) :
    ∀ (fuel : Nat) (listed : Array Bool) (a : Act) (w : World),
      (∀ j oj, ops[j]? = some oj → j ≠ i → listed.getD j true = false → (∀ e ∈ oj.after, Region.binds md e = true → e.on ≠ i) → oi.apart ops oj = true) →
      (∀ j ∈ D, listed.getD j true = false) →
      i ∈ Region.ready md ops listed → YieldsIf P ops S oi v a → S w →
      wpAnyX P md ops Q S k fuel (listed.setIfInBounds i true) (a.put oi.dst v) w → wpAnyX P md ops Q S k (fuel + 1) listed a w := by
  intro fuel
  induction fuel with
  | zero =>
    intro listed a w _ _ hr hy hS H
    refine ⟨fun h => (by rw [h] at hr; cases hr), fun j hj => ?_⟩
    by_cases hji : j = i
    · subst hji; exact hy.wpOp hi hS ⟨.inr hS, H⟩
    · have := ready_mono hj hji
      rw [H.1] at this
      cases this
  | succ fuel ih =>
    intro listed a w hfree hun hr hy hS H
    refine ⟨fun h => (by rw [h] at hr; cases hr), fun j hj => ?_⟩
    by_cases hji : j = i
    · subst hji; exact hy.wpOp hi hS ⟨.inr hS, H⟩
    · have h1 := H.2 j (ready_mono hj hji)
      obtain ⟨hjun, oj, hoj, hall⟩ := mem_ready.1 hj
      have hun' : ∀ e : Nat, listed[e]? = some true → listed.getD e true = false → False := fun e h1 h0 => by
        rcases Nat.lt_or_ge e listed.size with h' | h'
        · simp [h'] at h0 h1; rw [h0] at h1; cases h1
        · simp [Array.getElem?_eq_none h'] at h1
      have hnot : ∀ e ∈ oj.after, Region.binds md e = true → e.on ≠ i := fun e he hb heq => by
        have h1 := hall e he hb
        have h0 := (mem_ready.1 hr).1
        rw [heq] at h1
        rcases Nat.lt_or_ge i listed.size with h' | h'
        · simp [h'] at h0 h1; rw [h0] at h1; cases h1
        · simp [Array.getElem?_eq_none h'] at h1
      have hjD : j ∉ D := fun hm => by
        obtain ⟨e, he, hb, hon⟩ := hD j hm hji oj hoj
        have h1 := hall e he hb
        have h0 := hun _ hon
        rcases Nat.lt_or_ge e.on listed.size with h' | h'
        · simp [h'] at h0 h1; rw [h0] at h1; cases h1
        · simp [Array.getElem?_eq_none h'] at h1
      have hjk : j ≠ k := fun e => hjD (e ▸ hkD)
      have h2 := wpOp_putIf hoj (hfree j oj hoj hji hjun hnot) (fun cs b => hsel i oi cs b hi) (fun cs b => hsel j oj cs b hoj) hQ hy h1
      have hfree' : ∀ k ok, ops[k]? = some ok → k ≠ i → (listed.setIfInBounds j true).getD k true = false →
          (∀ e ∈ ok.after, Region.binds md e = true → e.on ≠ i) → oi.apart ops ok = true := fun k ok hk hki hun hno => by
        refine hfree k ok hk hki ?_ hno
        by_cases hjk : j = k
        · subst hjk; exact hjun
        · rw [getD_set_ne true hjk] at hun; exact hun
      have hunj : ∀ d ∈ D, (listed.setIfInBounds j true).getD d true = false := fun d hd => by
        have hne : j ≠ d := fun e => hjD (e ▸ hd)
        rw [getD_set_ne true hne]; exact hun d hd
      refine wpOp_mono (fun a' w' h3 => ?_) h2
      have hS' : S w' := h3.2.1.resolve_left hjk
      refine ⟨.inr hS', ih (listed.setIfInBounds j true) a' w' hfree' hunj (ready_mono hr (Ne.symm hji)) h3.1 hS' ?_⟩
      rw [Array.setIfInBounds_comm _ _ hji]
      exact h3.2.2

/-- Take number 'i' first. -/
theorem wpAnyX_take (D : List Nat) {i : Nat} {oi : Oper} {v : Value} {fuel : Nat} {listed : Array Bool} {a : Act} {w : World} (hi : ops[i]? = some oi)
    (hs : Region.noSelect ops = true) (hf : Region.free md ops listed i = true) (hr : (Region.ready md ops listed).contains i = true) (hw : waitsB md ops D i k listed = true)
    (hQ : ∀ c a w, Q (.panic c) (a.put oi.dst v) w → Q (.panic c) a w) (hy : YieldsIf P ops S oi v a) (hS : S w)
    (h : wpAnyX P md ops Q S k fuel (listed.setIfInBounds i true) (a.put oi.dst v) w) : wpAnyX P md ops Q S k (fuel + 1) listed a w := by
  obtain ⟨h1, _, h3, h4⟩ := waitsB_spec hw
  exact wpAnyX_first hi (Region.noSelect_spec hs) hQ h1 h4 fuel listed a w (Region.free_spec hi hf) h3 (by simpa using hr) hy hS h

/-- Number 'i' alone may come up, and is not the last one. -/
theorem wpAnyX_ready {i : Nat} {o : Oper} {fuel : Nat} {listed : Array Bool} {a : Act} {w : World} (hr : Region.ready md ops listed = [i]) (ho : ops[i]? = some o)
    (h : ∀ K' : Act → World → Prop, Shut (∀ a w, S w → (S w → wpAnyX P md ops Q S k fuel (listed.setIfInBounds i true) a w) → K' a w) → if Region.wanted o (yielded ops a.tmps) = true then Oper.wp P o a w K' Q else K' (a.put o.dst undef) w) :
    wpAnyX P md ops Q S k (fuel + 1) listed a w :=
  ⟨fun h0 => (by rw [hr] at h0; cases h0), fun j hj => by
    rw [hr] at hj
    obtain rfl : j = i := by simpa using hj
    exact wpOp_step ho (fun K' hK => h K' (fun a w hS hW => hK a w ⟨.inr hS, hW hS⟩))⟩
/-- The last one. -/
theorem wpAnyX_last {o : Oper} {fuel : Nat} {listed : Array Bool} {a : Act} {w : World} (hr : Region.ready md ops listed = [k]) (ho : ops[k]? = some o)
    (h : ∀ K' : Act → World → Prop, Shut (∀ a w, wpAnyX P md ops Q S k fuel (listed.setIfInBounds k true) a w → K' a w) → if Region.wanted o (yielded ops a.tmps) = true then Oper.wp P o a w K' Q else K' (a.put o.dst undef) w) :
    wpAnyX P md ops Q S k (fuel + 1) listed a w :=
  ⟨fun h0 => (by rw [hr] at h0; cases h0), fun j hj => by
    rw [hr] at hj
    obtain rfl : j = k := by simpa using hj
    exact wpOp_step ho (fun K' hK => h K' (fun a w hW => hK a w ⟨.inl rfl, hW⟩))⟩
theorem wpAnyX_done {listed : Array Bool} {a : Act} {w : World} (hr : Region.ready md ops listed = []) (h : Q .normal a w) : ∀ fuel, wpAnyX P md ops Q S k fuel listed a w
  | 0 => ⟨hr, h⟩
  | _ + 1 => ⟨fun _ => h, by rw [hr]; simp⟩
/-- The beginning. -/
theorem wp_region_last (S : World → Prop) (k : Nat) {id : Nat} {a : Act} {w : World} (hm : P.follows .mixedOrders = true) (hS : S w.drew)
    (h : S w.drew → wpAnyX P .any ops Q S k ops.size (Array.replicate ops.size false) a w.drew) : (Code.region id ops true).wp P Q a w :=
  wp_region_any hm (wpAny_of_x _ _ _ _ (h hS))
end
end Go.Proofs.Ytignncjmbcdpaaa

/-
Operations at equal values give equal values (zeros may differ in sign). (Plain arithmetic.)
-/
namespace Go.Proofs.Ytignncjmbcdpaaa
open Go Ieee

theorem one32 : fin .f32 1065353216 ∧ fv .f32 1065353216 = 1 := by
  have h : FloatKind.f32.format.read 1065353216 = .number false 8388608 (-23) := by decide +kernel
  obtain ⟨h1, h2⟩ := fin_of_read h
  refine ⟨h1, ?_⟩
  rw [h2, dval_num]
  have e : mval 8388608 (-23) = 1 := by unfold mval pw; grind
  rw [e]; simp
/-- Words with the same value, both numbers. -/
structure Eqv (k : FloatKind) (a b : Nat) : Prop where
  fa : fin k a
  fb : fin k b
  wa : wfk k a
  wb : wfk k b
  v : fv k a = fv k b

/-- A value other than 0 has one word. -/
theorem word_eq {k : FloatKind} {a b : Nat} (ha : fin k a) (hb : fin k b) (wa : wfk k a) (wb : wfk k b) (h : fv k a = fv k b) (h0 : fv k a ≠ 0) : a = b := by
  obtain ⟨s, m, e, ha⟩ := ha
  obtain ⟨t, n, f, hb⟩ := hb
  have ea := write_read k.format (eb_ge k) wa (by rw [ha]; rfl)
  have eb := write_read k.format (eb_ge k) wb (by rw [hb]; rfl)
  rw [ha] at ea
  rw [hb] at eb
  unfold fv at h h0
  rw [ha, dval_num] at h h0
  rw [hb, dval_num] at h
  have pm := mval_nonneg m e
  have pn := mval_nonneg n f
  have hm : mval m e ≠ 0 := by intro hz; apply h0; rw [hz]; cases s <;> simp
  have hst : s = t ∧ mval m e = mval n f := by
    cases s <;> cases t <;> simp at h ⊢
    · exact h
    · exfalso; grind
    · exfalso; grind
    · grind
  obtain ⟨rfl, hv⟩ := hst
  have key : ∀ (m n : Nat) (e f : Int), e ≤ f → mval m e = mval n f → k.format.write (.number s m e) = k.format.write (.number s n f) := by
    intro m n e f hef hv
    obtain ⟨j, rfl⟩ : ∃ j : Nat, f = e + j := ⟨(f - e).toNat, by omega⟩
    rw [← mval_scale'] at hv
    have h1 := le_of_mval (by rw [hv]; exact Rat.le_refl : mval m e ≤ mval (n * 2 ^ j) e)
    have h2 := le_of_mval (by rw [hv]; exact Rat.le_refl : mval (n * 2 ^ j) e ≤ mval m e)
    obtain rfl : m = n * 2 ^ j := Nat.le_antisymm h1 h2
    have := nearest_scale k.format s n (e + j) j
    rw [show e + (j : Int) - j = e by omega] at this
    exact this
  rw [← ea, ← eb]
  rcases Int.le_total e f with hef | hef
  · exact key m n e f hef hv
  · exact (key n m f e hef hv.symm).symm

theorem Eqv.refl {k : FloatKind} {a : Nat} (f : fin k a) (w : wfk k a) : Eqv k a a := ⟨f, f, w, w, rfl⟩
theorem Eqv.cases {k : FloatKind} {a b : Nat} (h : Eqv k a b) : a = b ∨ (fv k a = 0 ∧ fv k b = 0) := by
  by_cases h0 : fv k a = 0
  · exact .inr ⟨h0, by rw [← h.v]; exact h0⟩
  · exact .inl (word_eq h.fa h.fb h.wa h.wb h.v h0)
theorem top_pos (k : FloatKind) : (0 : Rat) ≤ top k := by cases k <;> exact Rat.le_of_lt (pw_pos _)
theorem round_zero {k : FloatKind} {v : Rat} {r : Nat} (h : RoundOf k v r) (h0 : v = 0) : fv k r = 0 := by
  have := h.exact (zero_fin k).1 (by rw [(zero_fin k).2, h0])
  rw [this, h0]
theorem Eqv.mul {k : FloatKind} {a a' b b' : Nat} (h : Eqv k a a') (g : Eqv k b b') (t : ab (fv k a * fv k b) ≤ top k) : Eqv k (fo .mul k a b) (fo .mul k a' b') := by
  have r := mul_spec h.fa g.fa t
  have t' : ab (fv k a' * fv k b') ≤ top k := by rw [← h.v, ← g.v]; exact t
  have r' := mul_spec h.fb g.fb t'
  refine ⟨r.1, r'.1, fo_lt _ _ _ _, fo_lt _ _ _ _, ?_⟩
  rcases h.cases with rfl | ⟨z, z'⟩
  · rcases g.cases with rfl | ⟨y, y'⟩
    · rfl
    · rw [round_zero r (by rw [y, Rat.mul_zero]), round_zero r' (by rw [y', Rat.mul_zero])]
  · rw [round_zero r (by rw [z, Rat.zero_mul]), round_zero r' (by rw [z', Rat.zero_mul])]
theorem Eqv.add {k : FloatKind} {a a' b b' : Nat} (h : Eqv k a a') (g : Eqv k b b') (t : ab (fv k a + fv k b) ≤ top k) : Eqv k (fo .add k a b) (fo .add k a' b') := by
  have r := add_spec h.fa g.fa t
  have t' : ab (fv k a' + fv k b') ≤ top k := by rw [← h.v, ← g.v]; exact t
  have r' := add_spec h.fb g.fb t'
  refine ⟨r.1, r'.1, fo_lt _ _ _ _, fo_lt _ _ _ _, ?_⟩
  rcases h.cases with rfl | ⟨z, z'⟩
  · rcases g.cases with rfl | ⟨y, y'⟩
    · rfl
    · rw [r.exact h.fa (by rw [y]; grind), r'.exact h.fb (by rw [y']; grind), y, y']
  · rw [r.exact g.fa (by rw [z]; grind), r'.exact g.fb (by rw [z']; grind), z, z', g.v]
theorem Eqv.sub {k : FloatKind} {a a' b b' : Nat} (h : Eqv k a a') (g : Eqv k b b') (t : ab (fv k a - fv k b) ≤ top k) : Eqv k (fo .sub k a b) (fo .sub k a' b') := by
  have r := sub_spec h.fa g.fa t
  have t' : ab (fv k a' - fv k b') ≤ top k := by rw [← h.v, ← g.v]; exact t
  have r' := sub_spec h.fb g.fb t'
  refine ⟨r.1, r'.1, fo_lt _ _ _ _, fo_lt _ _ _ _, ?_⟩
  rcases h.cases with rfl | ⟨z, z'⟩
  · rcases g.cases with rfl | ⟨y, y'⟩
    · rfl
    · rw [r.exact h.fa (by rw [y]; grind), r'.exact h.fb (by rw [y']; grind), y, y']
  · obtain ⟨n1, n2⟩ := neg_fin g.fa
    obtain ⟨n3, n4⟩ := neg_fin g.fb
    rw [r.exact n1 (by rw [n2, z]; grind), r'.exact n3 (by rw [n4, z']; grind), z, z', g.v]
theorem Eqv.wid {a b : Nat} (h : Eqv .f32 a b) : Eqv .f64 (wid a) (wid b) := by
  obtain ⟨a1, a2⟩ := wid_fin h.fa
  obtain ⟨b1, b2⟩ := wid_fin h.fb
  exact ⟨a1, b1, wid_lt a, wid_lt b, by rw [a2, b2, h.v]⟩
theorem nar_wf {x : Nat} (hx : fin .f64 x) (h : ab (fv .f64 x) ≤ top .f32) (w : wfk .f64 x) (W : World) : wfk .f32 (nar x) := by
  rw [← (nar_ok hx h).1 W]
  exact cR_lt w W
theorem Eqv.nar {x y : Nat} (h : Eqv .f64 x y) (t : ab (fv .f64 x) ≤ top .f32) (W : World) : Eqv .f32 (nar x) (nar y) := by
  have t' : ab (fv .f64 y) ≤ top .f32 := by rw [← h.v]; exact t
  have r := (nar_ok h.fa t).2
  have r' := (nar_ok h.fb t').2
  refine ⟨r.1, r'.1, nar_wf h.fa t h.wa W, nar_wf h.fb t' h.wb W, ?_⟩
  rcases h.cases with rfl | ⟨z, z'⟩
  · rfl
  · rw [round_zero r z, round_zero r' z']
end Go.Proofs.Ytignncjmbcdpaaa

/-
Small inputs: no step overflows. (Plain arithmetic.)
-/
namespace Go.Proofs.Ytignncjmbcdpaaa
open Go Go.RowKit Ieee

def pw3 (i : Nat) : Rat := 2 ^ 14 * ((3 ^ i : Nat) : Rat)
theorem pw3_succ (i : Nat) : pw3 i * 3 = pw3 (i + 1) := by
  unfold pw3
  rw [Nat.pow_succ, Rat.natCast_mul]
  have : ((3 : Nat) : Rat) = 3 := by simp
  rw [this]; grind
theorem pw3_lo (i : Nat) : 2 ^ 14 ≤ pw3 i := by
  have h : 1 ≤ 3 ^ i := Nat.one_le_pow _ _ (by decide)
  have := Rat.natCast_le_natCast.2 h
  have e : ((1 : Nat) : Rat) = 1 := by simp
  rw [e] at this
  unfold pw3; grind
theorem pw3_hi (i : Nat) (h : i ≤ 61) : pw3 i ≤ 2 ^ 112 := by
  have h1 : 3 ^ i ≤ 3 ^ 61 := Nat.pow_le_pow_right (by decide) h
  have h2 : 3 ^ 61 ≤ 2 ^ 97 := by decide
  have h3 := Rat.natCast_le_natCast.2 (Nat.le_trans h1 h2)
  have e : ((2 ^ 97 : Nat) : Rat) = 2 ^ 97 := by simp; grind
  rw [e] at h3
  unfold pw3; grind
theorem zero_ok {L : Rat} (hL : 0 ≤ L) : StOk L (0, 0) := by
  obtain ⟨z1, z2⟩ := zero_fin .f32
  exact ⟨z1, z1, by rw [wfk_32]; omega, by rw [wfk_32]; omega, by rw [z2, ab_of_nonneg Rat.le_refl]; exact hL, by rw [z2, ab_of_nonneg Rat.le_refl]; exact hL⟩
/-- Inputs that are finite and at most 8. -/
def Low (xs : List Nat) : Prop := ∀ i, i < xs.length → fin .f32 (xs.getD i 0) ∧ ab (fv .f32 (xs.getD i 0)) ≤ 8
theorem Low.at_ {xs : List Nat} (h : Low xs) (i : Nat) : fin .f32 (inAt xs i) ∧ ab (fv .f32 (inAt xs i)) ≤ 8 := by
  unfold inAt
  split
  · exact h i ‹_›
  · obtain ⟨z1, z2⟩ := zero_fin .f32
    exact ⟨z1, by rw [z2, ab_of_nonneg Rat.le_refl]; grind⟩
theorem states_ok {ms : List MW} {xs : List Nat} (hm : ModesOk ms) (hx : Low xs) (i : Nat) (hi : i ≤ 61) : ∀ k, k < ms.length → StOk (pw3 i) (sAt (stAt ms xs i) k) := by
  induction i with
  | zero =>
    intro k hk
    have e : sAt (stAt ms xs 0) k = (0, 0) := by simp [stAt, sAt, List.getD, hk]
    rw [e]
    exact zero_ok (by have := pw3_lo 0; grind)
  | succ i ih =>
    intro k hk
    have h := ih (by omega) k hk
    have e : sAt (stAt ms xs (i + 1)) k = stepW (mAt ms k) (sAt (stAt ms xs i) k) (inAt xs i) := nextS_at (by rw [stAt_len]; exact hk)
    rw [e, ← pw3_succ]
    obtain ⟨x1, x2⟩ := hx.at_ i
    exact (step_ok (hm.at_ hk) h x1 x2 (pw3_lo i) (pw3_hi i (by omega))).1
theorem calm_of {ms : List MW} {xs : List Nat} (hm : ModesOk ms) (hx : Low xs) (n : Nat) (hn : n ≤ 61) : Calm ms xs n := fun i hi k hk => by
  obtain ⟨x1, x2⟩ := hx.at_ i
  exact (step_ok (hm.at_ hk) (states_ok hm hx i (by omega) k hk) x1 x2 (pw3_lo i) (pw3_hi i (by omega))).2
/-- What a body rings does not depend on how long it rings. -/
theorem rung_prefix {ms : List MW} {xs ys zs : List Nat} {n k : Nat} (hy : Rung ms xs ys n) (hz : Rung ms xs zs k) (hk : k ≤ n) : ∀ i, i < k → sameB .f32 (zs.getD i 0) (ys.getD i 0) = true := fun i hi => by
  unfold sameB
  rw [(hy.2 i (by omega)).1, (hz.2 i hi).1]
  simp
end Go.Proofs.Ytignncjmbcdpaaa

/-
A late input rings late, in equal numbers. (Plain arithmetic.)
-/
namespace Go.Proofs.Ytignncjmbcdpaaa
open Go Ieee

def EqvS (s t : Nat × Nat) : Prop := Eqv .f32 s.1 t.1 ∧ Eqv .f32 s.2 t.2
theorem prod_top {x y L : Rat} (hx : ab x ≤ L) (hy : ab y ≤ 1 + 1 / 2 ^ 40) (hL : 1 ≤ L) (hL2 : L ≤ 2 ^ 112) : ab (x * y) ≤ top .f64 := by
  have ht := top210
  rw [ab_mul]
  have h1 := Rat.mul_le_mul_of_nonneg_left hy (ab_nonneg x)
  grind
theorem sub_top {x y L : Rat} (hx : ab x ≤ L * (1 + 1 / 2 ^ 30)) (hy : ab y ≤ L * (1 + 1 / 2 ^ 30)) (hL : 1 ≤ L) (hL2 : L ≤ 2 ^ 112) : ab (x - y) ≤ top .f64 ∧ ab (x + y) ≤ top .f64 := by
  have ht := top210
  obtain ⟨x1, x2⟩ := le_ab x
  obtain ⟨y1, y2⟩ := le_ab y
  exact ⟨ab_le (by grind) (by grind), ab_le (by grind) (by grind)⟩
theorem times_eqv {a b c d a' b' : Nat} {L : Rat} (W : World) (ha : Eqv .f32 a a') (hb : Eqv .f32 b b') (fc : fin .f32 c) (fd : fin .f32 d) (wc : wfk .f32 c) (wd : wfk .f32 d) (la : ab (fv .f32 a) ≤ L) (lb : ab (fv .f32 b) ≤ L) (hL : 1 ≤ L) (hL2 : L ≤ 2 ^ 112)
    (hc : ab (fv .f32 c) ≤ 1 + 1 / 2 ^ 40) (hd : ab (fv .f32 d) ≤ 1 + 1 / 2 ^ 40) : Eqv .f32 (sRe a b c d) (sRe a' b' c d) ∧ Eqv .f32 (sIm a b c d) (sIm a' b' c d) := by
  obtain ⟨M, _, _, _, _⟩ := wide_mild ha.fa hb.fa fc fd la lb hL hL2 hc hd
  have A := ha.wid
  have B := hb.wid
  have C := (Eqv.refl fc wc).wid
  have D := (Eqv.refl fd wd).wid
  have la' : ab (fv .f64 (wid a)) ≤ L := by rw [(wid_fin ha.fa).2]; exact la
  have lb' : ab (fv .f64 (wid b)) ≤ L := by rw [(wid_fin hb.fa).2]; exact lb
  have hc' : ab (fv .f64 (wid c)) ≤ 1 + 1 / 2 ^ 40 := by rw [(wid_fin fc).2]; exact hc
  have hd' : ab (fv .f64 (wid d)) ≤ 1 + 1 / 2 ^ 40 := by rw [(wid_fin fd).2]; exact hd
  have P1 := A.mul C (prod_top la' hc' hL hL2)
  have P2 := B.mul D (prod_top lb' hd' hL hL2)
  have P3 := A.mul D (prod_top la' hd' hL hL2)
  have P4 := B.mul C (prod_top lb' hc' hL hL2)
  have e1 := (part_mul A.fa C.fa la' hL hL2 hc').2
  have e2 := (part_mul B.fa D.fa lb' hL hL2 hd').2
  have e3 := (part_mul A.fa D.fa la' hL hL2 hd').2
  have e4 := (part_mul B.fa C.fa lb' hL hL2 hc').2
  exact ⟨(P1.sub P2 (sub_top e1 e2 hL hL2).1).nar M.tr W, (P3.add P4 (sub_top e3 e4 hL hL2).2).nar M.ti W⟩
theorem pole_le {m : MW} (hm : ModeOk m.1 m.2.1 m.2.2.1 m.2.2.2) : ab (fv .f32 m.1) ≤ 1 + 1 / 2 ^ 40 ∧ ab (fv .f32 m.2.1) ≤ 1 + 1 / 2 ^ 40 := by
  have hsq := hm.square
  have q1 := sq_nonneg (fv .f32 m.1)
  have q2 := sq_nonneg (fv .f32 m.2.1)
  exact ⟨ab_le_of_sq (by grind) (by grind), ab_le_of_sq (by grind) (by grind)⟩
theorem add_top {s g : Nat} {L : Rat} (hs : ab (fv .f32 s) ≤ L * (9 / 4)) (hg : ab (fv .f32 g) ≤ 8193) (hL : 2 ^ 14 ≤ L) (hL2 : L ≤ 2 ^ 112) : ab (fv .f32 s + fv .f32 g) ≤ top .f32 := by
  have ht2 := top32
  have g1 := ab_add (fv .f32 s) (fv .f32 g)
  grind
theorem gain_part {g x : Nat} (fg : fin .f32 g) (fx : fin .f32 x) (hg : ab (fv .f32 g) ≤ 1024) (hx : ab (fv .f32 x) ≤ 8) : ab (fv .f32 (fo .mul .f32 g x)) ≤ 8193 := by
  obtain ⟨u1, u2, _⟩ := consts32
  have ht2 := top32
  have n1 := ab_nonneg (fv .f32 g)
  have h1 := Rat.mul_le_mul_of_nonneg_left hx n1
  have h2 : ab (fv .f32 g * fv .f32 x) ≤ 8192 := by rw [ab_mul]; grind
  have hm := mul_spec fg fx (by grind)
  have e := hm.2.1
  rw [u1] at e
  have t := ab_tri (fv .f32 (fo .mul .f32 g x)) (fv .f32 g * fv .f32 x)
  grind
theorem step_eqv {m : MW} {s t : Nat × Nat} {x : Nat} {L : Rat} (W : World) (hm : ModeOk m.1 m.2.1 m.2.2.1 m.2.2.2) (hs : StOk L s) (h : EqvS s t) (fx : fin .f32 x) (hx : ab (fv .f32 x) ≤ 8) (hL : 2 ^ 14 ≤ L) (hL2 : L ≤ 2 ^ 112) :
    EqvS (stepW m s x) (stepW m t x) := by
  obtain ⟨p1, p2⟩ := pole_le hm
  obtain ⟨_, n1, n2, c1, c2⟩ := wide_mild hs.f1 hs.f2 (fin_of_wid hm.fa) (fin_of_wid hm.fb) hs.b1 hs.b2 (by grind) hL2 p1 p2
  have S := (step_ok hm hs fx hx hL hL2).2
  obtain ⟨e1, e2⟩ := times_eqv W h.1 h.2 (fin_of_wid hm.fa) (fin_of_wid hm.fb) hm.wa hm.wb hs.b1 hs.b2 (by grind) hL2 p1 p2
  have g1 := gain_part (fin_of_wid hm.fc) fx (gain_le hm.fc hm.gain.1) hx
  have g2 := gain_part (fin_of_wid hm.fd) fx (gain_le hm.fd hm.gain.2) hx
  exact ⟨e1.add (Eqv.refl S.g1 (fo_lt _ _ _ _)) (add_top c1 g1 hL hL2), e2.add (Eqv.refl S.g2 (fo_lt _ _ _ _)) (add_top c2 g2 hL hL2)⟩

/-- A state of zeros stays so without an input. -/
theorem rest_eqv {m : MW} (W : World) (hm : ModeOk m.1 m.2.1 m.2.2.1 m.2.2.2) : EqvS (stepW m (0, 0) 0) (0, 0) := by
  obtain ⟨z1, z2⟩ := zero_fin .f32
  have z3 : ab (fv .f32 0) ≤ 8 := by rw [z2, ab_of_nonneg Rat.le_refl]; grind
  have hs : StOk (2 ^ 14) (0, 0) := zero_ok (by grind)
  obtain ⟨hs', S⟩ := step_ok hm hs z1 z3 (Rat.le_refl) (by grind)
  obtain ⟨p1, p2⟩ := pole_le hm
  obtain ⟨w1, w2⟩ := wid_fin z1
  rw [z2] at w2
  have fa := hm.fa
  have fb := hm.fb
  have zt : ab (0 : Rat) ≤ top .f64 := by rw [ab_of_nonneg Rat.le_refl]; exact top_pos _
  have zt2 : ab (0 : Rat) ≤ top .f32 := by rw [ab_of_nonneg Rat.le_refl]; exact top_pos _
  have mz : ∀ {c : Nat}, fin .f64 c → fin .f64 (fo .mul .f64 (wid 0) c) ∧ fv .f64 (fo .mul .f64 (wid 0) c) = 0 := fun {c} hc => by
    have e : fv .f64 (wid 0) * fv .f64 c = 0 := by rw [w2, Rat.zero_mul]
    have r := mul_spec w1 hc (by rw [e]; exact zt)
    exact ⟨r.1, round_zero r e⟩
  have re : fv .f64 (mulRe (wid 0) (wid 0) (wid m.1) (wid m.2.1)) = 0 := by
    have e : fv .f64 (fo .mul .f64 (wid 0) (wid m.1)) - fv .f64 (fo .mul .f64 (wid 0) (wid m.2.1)) = 0 := by rw [(mz fa).2, (mz fb).2]; grind
    exact round_zero (sub_spec (mz fa).1 (mz fb).1 (by rw [e]; exact zt)) e
  have im : fv .f64 (mulIm (wid 0) (wid 0) (wid m.1) (wid m.2.1)) = 0 := by
    have e : fv .f64 (fo .mul .f64 (wid 0) (wid m.2.1)) + fv .f64 (fo .mul .f64 (wid 0) (wid m.1)) = 0 := by rw [(mz fa).2, (mz fb).2]; grind
    exact round_zero (add_spec (mz fb).1 (mz fa).1 (by rw [e]; exact zt)) e
  have M := S.mild
  have R1 := (nar_ok M.fr M.tr).2
  have R2 := (nar_ok M.fi M.ti).2
  have v1 := round_zero R1 re
  have v2 := round_zero R2 im
  have g : ∀ {c : Nat}, fin .f32 c → fv .f32 (fo .mul .f32 c 0) = 0 := fun {c} hc => by
    have e : fv .f32 c * fv .f32 0 = 0 := by rw [z2, Rat.mul_zero]
    exact round_zero (mul_spec hc z1 (by rw [e]; exact zt2)) e
  have k1 : fv .f32 (stepW m (0, 0) 0).1 = 0 := by
    have e : fv .f32 (sRe 0 0 m.1 m.2.1) + fv .f32 (fo .mul .f32 m.2.2.1 0) = 0 := by
      rw [show fv .f32 (sRe 0 0 m.1 m.2.1) = 0 from v1, g (fin_of_wid hm.fc)]; grind
    exact round_zero (add_spec R1.1 S.g1 (by rw [e]; exact zt2)) e
  have k2 : fv .f32 (stepW m (0, 0) 0).2 = 0 := by
    have e : fv .f32 (sIm 0 0 m.1 m.2.1) + fv .f32 (fo .mul .f32 m.2.2.2 0) = 0 := by
      rw [show fv .f32 (sIm 0 0 m.1 m.2.1) = 0 from v2, g (fin_of_wid hm.fd)]; grind
    exact round_zero (add_spec R2.1 S.g2 (by rw [e]; exact zt2)) e
  exact ⟨⟨S.n1, z1, hs'.w1, by rw [wfk_32]; omega, by rw [k1, z2]⟩, ⟨S.n2, z1, hs'.w2, by rw [wfk_32]; omega, by rw [k2, z2]⟩⟩

theorem low_late {xs : List Nat} (h : Low xs) : Low (0 :: xs) := fun i hi => by
  cases i with
  | zero =>
    obtain ⟨z1, z2⟩ := zero_fin .f32
    exact ⟨z1, by show ab (fv .f32 0) ≤ 8; rw [z2, ab_of_nonneg Rat.le_refl]; grind⟩
  | succ i =>
    simp at hi
    have := h i hi
    simpa using this
theorem inAt_late (xs : List Nat) (i : Nat) : inAt (0 :: xs) (i + 1) = inAt xs i := by
  unfold inAt
  simp
theorem inAt_late0 (xs : List Nat) : inAt (0 :: xs) 0 = 0 := by unfold inAt; simp
theorem late_states {ms : List MW} {xs : List Nat} (W : World) (hm : ModesOk ms) (hx : Low xs) (i : Nat) (hi : i ≤ 60) : ∀ k, k < ms.length → EqvS (sAt (stAt ms (0 :: xs) (i + 1)) k) (sAt (stAt ms xs i) k) := by
  induction i with
  | zero =>
    intro k hk
    have e0 : sAt (stAt ms (0 :: xs) 0) k = (0, 0) := by simp [stAt, sAt, List.getD, hk]
    have e1 : sAt (stAt ms xs 0) k = (0, 0) := by simp [stAt, sAt, List.getD, hk]
    have e : sAt (stAt ms (0 :: xs) (0 + 1)) k = stepW (mAt ms k) (sAt (stAt ms (0 :: xs) 0) k) (inAt (0 :: xs) 0) := nextS_at (by rw [stAt_len]; exact hk)
    rw [e, e0, e1, inAt_late0]
    exact rest_eqv W (hm.at_ hk)
  | succ i ih =>
    intro k hk
    have h := ih (by omega) k hk
    have e : sAt (stAt ms (0 :: xs) (i + 1 + 1)) k = stepW (mAt ms k) (sAt (stAt ms (0 :: xs) (i + 1)) k) (inAt (0 :: xs) (i + 1)) := nextS_at (by rw [stAt_len]; exact hk)
    have e' : sAt (stAt ms xs (i + 1)) k = stepW (mAt ms k) (sAt (stAt ms xs i) k) (inAt xs i) := nextS_at (by rw [stAt_len]; exact hk)
    rw [e, e', inAt_late]
    obtain ⟨x1, x2⟩ := hx.at_ i
    exact step_eqv W (hm.at_ hk) (states_ok hm (low_late hx) (i + 1) (by omega) k hk) h x1 x2 (pw3_lo _) (pw3_hi _ (by omega))
theorem out_eqv {ms : List MW} {ss ts : List (Nat × Nat)} {x : Nat} (h : ∀ k, k < ms.length → EqvS (stepW (mAt ms k) (sAt ss k) x) (stepW (mAt ms k) (sAt ts k) x) ∧ ab (fv .f32 (stepW (mAt ms k) (sAt ss k) x).1) ≤ 2 ^ 114) (k : Nat) (hk : k ≤ ms.length) (h5 : k ≤ 5) :
    Eqv .f32 (outAt ms ss x k) (outAt ms ts x k) ∧ ab (fv .f32 (outAt ms ss x k)) ≤ (k : Rat) * 2 ^ 115 := by
  induction k with
  | zero =>
    obtain ⟨z1, z2⟩ := zero_fin .f32
    refine ⟨Eqv.refl z1 (by show (0 : Nat) < 4294967296; omega), ?_⟩
    show ab (fv .f32 0) ≤ _
    rw [z2, ab_of_nonneg Rat.le_refl]; simp
  | succ k ih =>
    obtain ⟨e, b⟩ := ih (by omega) (by omega)
    obtain ⟨hs, hb⟩ := h k (by omega)
    have hk5 : (k : Rat) ≤ 5 := by
      have := Rat.natCast_le_natCast.2 (show k ≤ 5 by omega)
      simpa using this
    have hk0 : (0 : Rat) ≤ (k : Rat) := Rat.natCast_nonneg
    have ht2 := top32
    obtain ⟨u1, u2, u3⟩ := consts32
    have t1 := ab_add (fv .f32 (outAt ms ss x k)) (fv .f32 (stepW (mAt ms k) (sAt ss k) x).1)
    have t2 : ab (fv .f32 (outAt ms ss x k) + fv .f32 (stepW (mAt ms k) (sAt ss k) x).1) ≤ top .f32 := by grind
    refine ⟨e.add hs.1 t2, ?_⟩
    have r := (add_spec e.fa hs.1.fa t2).2.1
    rw [u1] at r
    have t3 := ab_tri (fv .f32 (fo .add .f32 (outAt ms ss x k) (stepW (mAt ms k) (sAt ss k) x).1)) (fv .f32 (outAt ms ss x k) + fv .f32 (stepW (mAt ms k) (sAt ss k) x).1)
    have ec : ((k + 1 : Nat) : Rat) = (k : Rat) + 1 := by simp
    rw [ec]
    show ab (fv .f32 (fo .add .f32 (outAt ms ss x k) (stepW (mAt ms k) (sAt ss k) x).1)) ≤ _
    grind
/-- **A LATE INPUT RINGS LATE.** -/
theorem late_out {ms : List MW} {xs ys zs : List Nat} {n : Nat} (W : World) (hm : ModesOk ms) (h5 : ms.length ≤ 5) (hx : Low xs) (hn : n ≤ 60) (hy : Rung ms xs ys n) (hz : Rung ms (0 :: xs) zs (n + 1)) : ∀ i, i < n → feq .f32 (zs.getD (i + 1) 0) (ys.getD i 0) = true := fun i hi => by
  obtain ⟨x1, x2⟩ := hx.at_ i
  have hst := late_states W hm hx i (by omega)
  have key := out_eqv (ms := ms) (ss := stAt ms (0 :: xs) (i + 1)) (ts := stAt ms xs i) (x := inAt xs i) (fun k hk => by
    have s0 := states_ok hm (low_late hx) (i + 1) (by omega) k hk
    refine ⟨step_eqv W (hm.at_ hk) s0 (hst k hk) x1 x2 (pw3_lo _) (pw3_hi _ (by omega)), ?_⟩
    have b := (step_ok (hm.at_ hk) s0 x1 x2 (pw3_lo _) (pw3_hi _ (by omega))).1.b1
    have := pw3_hi (i + 1) (by omega)
    have b' : ab (fv .f32 (stepW (mAt ms k) (sAt (stAt ms (0 :: xs) (i + 1)) k) (inAt xs i)).1) ≤ pw3 (i + 1) * 3 := b
    grind) ms.length (Nat.le_refl _) h5
  have e1 := (hz.2 (i + 1) (by omega)).1
  have e2 := (hy.2 i hi).1
  rw [inAt_late] at e1
  have f1 := nrm_fin_eq e1 key.1.fa
  have f2 := nrm_fin_eq e2 key.1.fb
  rw [f1, f2]
  exact (feq_iff key.1.fa key.1.fb).2 key.1.v
end Go.Proofs.Ytignncjmbcdpaaa

/-
impl.forced: a shape times a force.
-/
namespace Go.Proofs.Ytignncjmbcdpaaa
open Go Go.RowKit Ieee

/-- The samples, each multiplied by a force. -/
def ForcedL (xs : List Nat) (f : Nat) (ys : List Nat) (k : Nat) : Prop := ys.length = k ∧ ∀ i, i < k → nrm .f32 (ys.getD i 0) = fo .mul .f32 (xs.getD i 0) f ∧ wfk .f32 (ys.getD i 0)
theorem forced_snoc {xs ys : List Nat} {f k s : Nat} (h : ForcedL xs f ys k) (hs : nrm .f32 s = fo .mul .f32 (xs.getD k 0) f) (hw : wfk .f32 s) : ForcedL xs f (ys ++ [s]) (k + 1) := by
  obtain ⟨hl, h⟩ := h
  refine ⟨by simp [hl], fun i hi => ?_⟩
  rcases Nat.lt_or_ge i k with h1 | h1
  · have e : (ys ++ [s]).getD i 0 = ys.getD i 0 := by
      simp only [List.getD]; rw [List.getElem?_append_left (by omega)]
    rw [e]; exact h i h1
  · obtain rfl : i = k := by omega
    have e : (ys ++ [s]).getD i 0 = s := by
      simp only [List.getD]; rw [List.getElem?_append_right (by omega), hl]; simp
    rw [e]; exact ⟨hs, hw⟩

set_option maxRecDepth 100000 in
set_option maxHeartbeats 600000 in
theorem forced_any (A : Option Addr) (cp f : Nat) (xs : List Nat) (w : World) (hrd : Rd w A (f32s xs)) (hm : xs.length ≤ 1048576) :
    Calls Try.prog 101 #[.slice A xs.length cp, .float .f32 f] w fun e w' => ∃ (A' : Option Addr) (c' : Nat) (ys : List Nat), e = .returned (.slice A' ys.length c') ∧ w'.ownsRow w.heap.size 25 1 (.slice A' ys.length c') ys.length (f32s ys) ∧ ForcedL xs f ys xs.length ∧ Below w.heap.size w w' := by
  have hown0 := owns_empty w 25
  have hb0 : Below w.heap.size w (w.alloc (.cells #[] 25)) := (Below.refl w.heap.size w).alloc (Nat.le_refl _) _
  go_enter Try.func101, Try.ntmps101
  go_wp2_with fail
  generalize w.alloc (.cells #[] 25) = W0 at *
  go_loopw [5, 11] (fun v i wr => ∃ (k : Nat) (ys : List Nat), i = .int .i64 (k : Int) ∧ k ≤ xs.length ∧ Hid (ForcedL xs f ys k) ∧ wr.ownsRow w.heap.size 25 1 v k (f32s ys) ∧ Below w.heap.size w wr) (fun _ i _ => xs.length - (intOf i).toNat)
  case atStart => exact ⟨0, [], rfl, by omega, ⟨rfl, fun i hi => absurd hi (Nat.not_lt_zero _)⟩, hown0, hb0⟩
  case round =>
    clear hown0 hb0
    obtain ⟨k, ys, rfl, hk, HF, hown, hb⟩ := hrel
    by_cases hlt : k < xs.length
    · obtain ⟨b, off, rfl, hbk, hcell⟩ := (hrd.below hb) (by simp; omega)
      have e1 := hcell k _ (f32s_at hlt)
      obtain ⟨x, hx⟩ : ∃ x, xs.getD k 0 = x := ⟨_, rfl⟩
      rw [hx] at e1
      have Hx := Lib.hid hx
      have hsz := hb.size
      have HS := Lib.hid (fun W => forced_snoc HF.out (s := fR .mul .f32 x f W) (by rw [Hx.out]; exact nrm_fR _ _ _ _ _) (fR_lt _ _ _ _ _))
      have hown2 : (wr.drewN (fN .mul .f32 x f)).ownsRow w.heap.size 25 1 u5 k (f32s ys) := hown
      have hb2 := below_drewN hb (fN .mul .f32 x f)
      clear hcell hx
      go_wp2_with (at_builtin; refine wpList_app1 rfl (.tmp 15) (.tmp 19) 23 rfl w.heap.size 25 (.float .f32 0) 4 Try.underlying23 f32_info rfl u5 k (f32s ys) _ rfl rfl rfl hown2 hsz (by omega) (by omega) ?_; intro v' w' hown' hbel')
      go_roundw
      case rel => exact ⟨k + 1, ys ++ [_], by go_num, by omega, HS.out _, by simpa [f32s] using hown', hb2.trans hbel'⟩
      case measure => simp [intOf]; omega
    · obtain rfl : k = xs.length := by omega
      go_wp2_with fail
      go_ret
      obtain ⟨A', cap, hv, hl', hrd2⟩ := own_rd hown
      subst hv
      have e := HF.out.1
      exact ⟨A', cap, ys, by rw [e]; rfl, by rw [e]; exact hown, HF.out, hb⟩
/-- One times a number is the number, to the bit. -/
theorem mul_one {x : Nat} (hx : fin .f32 x) (hw : wfk .f32 x) : fo .mul .f32 x 1065353216 = x := by
  have ho : FloatKind.f32.format.read 1065353216 = .number false 8388608 (-23) := by decide +kernel
  obtain ⟨s, m, e, hr⟩ := hx
  have h1 : fo .mul .f32 x 1065353216 = FloatKind.f32.format.write (.number (s ^^ false) (m * 8388608) (e + -23)) := fo_some (by
    show ((FloatKind.f32.format.read x).product (FloatKind.f32.format.read 1065353216)).map FloatKind.f32.format.write = _
    rw [hr, ho]; rfl)
  rw [h1]
  have h2 := nearest_scale FloatKind.f32.format s m e 23
  have h3 := write_read FloatKind.f32.format (by decide) hw (by rw [hr]; rfl)
  rw [hr] at h3
  show FloatKind.f32.format.nearest (s ^^ false) (m * 8388608) (e + -23) = x
  rw [Bool.xor_false]
  exact h2.trans h3
end Go.Proofs.Ytignncjmbcdpaaa

/-
Damped modes are valid. (Plain arithmetic.)
-/
namespace Go.Proofs.Ytignncjmbcdpaaa
open Go Ieee

/-- A mode whose pole is scaled. -/
def dampM (f : Nat) (m : MW) : MW := (fo .mul .f32 m.1 f, fo .mul .f32 m.2.1 f, m.2.2.1, m.2.2.2)
/-- A factor that is 1, or at most 255/256. -/
structure FacOk (f : Nat) : Prop where
  ff : fin .f32 f
  wf : wfk .f32 f
  lo : 0 ≤ fv .f32 f
  hi : f = 1065353216 ∨ fv .f32 f ≤ 255 / 256
theorem FacOk.le {f : Nat} (h : FacOk f) : fv .f32 f ≤ 1 := by
  rcases h.hi with e | e
  · rw [e, one32.2]; exact Rat.le_refl
  · grind
theorem dampM_one {m : MW} (hm : ModeOk m.1 m.2.1 m.2.2.1 m.2.2.2) : dampM 1065353216 m = m := by
  unfold dampM
  rw [mul_one (fin_of_wid hm.fa) hm.wa, mul_one (fin_of_wid hm.fb) hm.wb]
theorem damp_part {a f : Nat} (fa : fin .f32 a) (la : ab (fv .f32 a) ≤ 1 + 1 / 2 ^ 40) (hf : fin .f32 f) (h0 : 0 ≤ fv .f32 f) (h1 : fv .f32 f ≤ 255 / 256) :
    fin .f32 (fo .mul .f32 a f) ∧ fv .f32 (fo .mul .f32 a f) * fv .f32 (fo .mul .f32 a f) ≤ fv .f32 a * fv .f32 a * (511 / 512) + 1 / 2 ^ 100 ∧ ab (fv .f32 (fo .mul .f32 a f)) ≤ 2 := by
  obtain ⟨u1, u2, _⟩ := consts32
  have ht2 := top32
  have n1 := ab_nonneg (fv .f32 a)
  have hf' : ab (fv .f32 f) ≤ 255 / 256 := by rw [ab_of_nonneg h0]; exact h1
  have p := Rat.mul_le_mul_of_nonneg_left hf' n1
  have hp : ab (fv .f32 a * fv .f32 f) ≤ ab (fv .f32 a) * (255 / 256) := by rw [ab_mul]; exact p
  have hm := mul_spec fa hf (by grind)
  have e := hm.2.1
  rw [u1] at e
  have t := ab_tri (fv .f32 (fo .mul .f32 a f)) (fv .f32 a * fv .f32 f)
  have hr : ab (fv .f32 (fo .mul .f32 a f)) ≤ ab (fv .f32 a) * (255 / 256 + 1 / 2 ^ 20) + 1 / 2 ^ 149 := by grind
  have sq := sq_le_of_ab hr
  have ea := ab_sq (fv .f32 a)
  refine ⟨hm.1, ?_, by grind⟩
  have n2 := Rat.mul_le_mul_of_nonneg_left la n1
  have n3 := sq_nonneg (ab (fv .f32 a))
  rw [ea] at n3
  generalize ab (fv .f32 a) = A at *
  grind
theorem damp_sum {r s : Nat} {V : Rat} (fr : fin .f32 r) (fs : fin .f32 s) (h : fv .f32 r * fv .f32 r + fv .f32 s * fv .f32 s ≤ V) (hV : V ≤ 1 - 1 / 2 ^ 20) :
    fle .f64 (fo .add .f64 (fo .mul .f64 (wid r) (wid r)) (fo .mul .f64 (wid s) (wid s))) 4607182418800017408 = true := by
  obtain ⟨a1, a2⟩ := wid_fin fr
  obtain ⟨b1, b2⟩ := wid_fin fs
  obtain ⟨k1, k2, k3⟩ := consts64
  have q1 := sq_nonneg (fv .f32 r)
  have q2 := sq_nonneg (fv .f32 s)
  have t1 : ab (fv .f64 (wid r) * fv .f64 (wid r)) = fv .f32 r * fv .f32 r := by rw [a2, ab_of_nonneg q1]
  have t2 : ab (fv .f64 (wid s) * fv .f64 (wid s)) = fv .f32 s * fv .f32 s := by rw [b2, ab_of_nonneg q2]
  have m1 := mul_spec a1 a1 (by rw [t1]; grind)
  have m2 := mul_spec b1 b1 (by rw [t2]; grind)
  have e1 := m1.2.1
  have e2 := m2.2.1
  rw [t1, k1] at e1
  rw [t2, k1] at e2
  rw [a2] at e1
  rw [b2] at e2
  have l1 := le_ab (fv .f64 (fo .mul .f64 (wid r) (wid r)) - fv .f32 r * fv .f32 r)
  have l2 := le_ab (fv .f64 (fo .mul .f64 (wid s) (wid s)) - fv .f32 s * fv .f32 s)
  have bd : ab (fv .f64 (fo .mul .f64 (wid r) (wid r)) + fv .f64 (fo .mul .f64 (wid s) (wid s))) ≤ 1 - 1 / 2 ^ 22 := ab_le (by grind) (by grind)
  have ad := add_spec m1.1 m2.1 (by grind)
  have e3 := ad.2.1
  rw [k1] at e3
  have l3 := le_ab (fv .f64 (fo .add .f64 (fo .mul .f64 (wid r) (wid r)) (fo .mul .f64 (wid s) (wid s))) - (fv .f64 (fo .mul .f64 (wid r) (wid r)) + fv .f64 (fo .mul .f64 (wid s) (wid s))))
  have l4 := le_ab (fv .f64 (fo .mul .f64 (wid r) (wid r)) + fv .f64 (fo .mul .f64 (wid s) (wid s)))
  refine (fle_iff ad.1 one_val.1).2 ?_
  rw [one_val.2]
  grind
theorem damp_ok {f : Nat} {m : MW} (hm : ModeOk m.1 m.2.1 m.2.2.1 m.2.2.2) (hf : FacOk f) : ModeOk (dampM f m).1 (dampM f m).2.1 (dampM f m).2.2.1 (dampM f m).2.2.2 := by
  rcases hf.hi with rfl | h1
  · rw [dampM_one hm]; exact hm
  obtain ⟨p1, p2⟩ := pole_le hm
  have hsq := hm.square
  obtain ⟨f1, s1, _⟩ := damp_part (fin_of_wid hm.fa) p1 hf.ff hf.lo h1
  obtain ⟨f2, s2, _⟩ := damp_part (fin_of_wid hm.fb) p2 hf.ff hf.lo h1
  have hs : fv .f32 (fo .mul .f32 m.1 f) * fv .f32 (fo .mul .f32 m.1 f) + fv .f32 (fo .mul .f32 m.2.1 f) * fv .f32 (fo .mul .f32 m.2.1 f) ≤ 1 - 1 / 2 ^ 20 := by grind
  exact ⟨fo_lt _ _ _ _, fo_lt _ _ _ _, hm.wc, hm.wd, (wid_fin f1).1, (wid_fin f2).1, hm.fc, hm.fd, damp_sum f1 f2 hs Rat.le_refl, hm.gain⟩
theorem damps_ok {f : Nat} {ms : List MW} (hm : ModesOk ms) (hf : FacOk f) : ModesOk (ms.map (dampM f)) := fun m h => by
  obtain ⟨m', h1, rfl⟩ := List.mem_map.1 h
  exact damp_ok (hm m' h1) hf
theorem damps_one {ms : List MW} (hm : ModesOk ms) : ms.map (dampM 1065353216) = ms := by
  have : ms.map (dampM 1065353216) = ms.map id := List.map_congr_left fun m h => dampM_one (hm m h)
  rw [this, List.map_id]

/-- A byte by 255. -/
def fac (q : Int) : Nat := fo .quo .f32 (floatOfInt .f32 q) 1132396544
def facOk (f : Nat) : Bool := (match FloatKind.f32.format.read f with | .number _ _ _ => true | _ => false) && fge .f32 f 0 && (f == 1065353216 || fle .f32 f 1065287680)
theorem facs : (List.range 256).all (fun (q : Nat) => facOk (fac (q : Int))) = true := by decide +kernel
theorem fac_ok {q : Int} (h0 : 0 ≤ q) (h1 : q ≤ 255) : FacOk (fac q) := by
  obtain ⟨n, rfl⟩ : ∃ n : Nat, q = n := ⟨q.toNat, by omega⟩
  have h := List.all_eq_true.1 facs n (List.mem_range.2 (by omega))
  unfold facOk at h
  simp only [Bool.and_eq_true, Bool.or_eq_true, beq_iff_eq] at h
  obtain ⟨⟨h2, h3⟩, h4⟩ := h
  have ff : fin .f32 (fac (n : Int)) := by
    split at h2
    · exact ⟨_, _, _, ‹_›⟩
    · cases h2
  have hr : FloatKind.f32.format.read 1065287680 = .number false 16711680 (-24) := by decide +kernel
  obtain ⟨c1, c2⟩ := fin_of_read hr
  refine ⟨ff, fo_lt _ _ _ _, ?_, ?_⟩
  · have := (fge_iff ff (zero_fin .f32).1).1 h3
    rwa [(zero_fin .f32).2] at this
  · rcases h4 with h4 | h4
    · exact .inl h4
    · have := (fle_iff ff c1).1 h4
      rw [c2, dval_num] at this
      have e : mval 16711680 (-24) = 255 / 256 := by unfold mval pw; grind
      rw [e] at this
      exact .inr (by simpa using this)
end Go.Proofs.Ytignncjmbcdpaaa

/-
impl.DampBody at a valid body and a factor from 0 to 1.
-/
namespace Go.Proofs.Ytignncjmbcdpaaa
open Go Go.RowKit Ieee

/-- The first k modes are damped. -/
def Damped (f : Nat) (ms : List MW) (k : Nat) (L : List MW) : Prop := L.length = ms.length ∧ ∀ i, i < ms.length → mAt L i = if i < k then dampM f (mAt ms i) else mAt ms i
theorem Damped.zero (f : Nat) (ms : List MW) : Damped f ms 0 ms := ⟨rfl, fun i _ => by rw [if_neg (by omega)]⟩
theorem mAt_set {L : List MW} {k i : Nat} {m : MW} (hk : k < L.length) : mAt (L.set k m) i = if i = k then m else mAt L i := by
  unfold mAt
  simp only [List.getD, List.getElem?_set]
  by_cases e : i = k
  · subst e; simp [hk]
  · rw [if_neg (fun h => e h.symm), if_neg e]
theorem Damped.set {f : Nat} {ms L : List MW} {k : Nat} (h : Damped f ms k L) (hk : k < ms.length) : Damped f ms (k + 1) (L.set k (dampM f (mAt ms k))) := by
  refine ⟨by simpa using h.1, fun i hi => ?_⟩
  rw [mAt_set (by rw [h.1]; exact hk)]
  by_cases e : i = k
  · subst e; rw [if_pos rfl, if_pos (by omega)]
  · rw [if_neg e, h.2 i hi]
    by_cases e' : i < k
    · rw [if_pos e', if_pos (by omega)]
    · rw [if_neg e', if_neg (by omega)]
theorem Damped.done {f : Nat} {ms L : List MW} (h : Damped f ms ms.length L) : L = ms.map (dampM f) := by
  refine List.ext_getElem (by simpa using h.1) fun i h1 h2 => ?_
  have hi : i < ms.length := by rw [← h.1]; exact h1
  have := h.2 i hi
  rw [if_pos hi] at this
  simpa [mAt, List.getD, List.getElem?_eq_getElem h1, List.getElem?_eq_getElem hi] using this
theorem flatM_set (L : List MW) (k p q : Nat) (hk : k < L.length) : flatM (L.set k (p, q, (mAt L k).2.2)) = (flatM L).set (k * 2) (.complex .f32 p q) := by
  induction L generalizing k with
  | nil => simp at hk
  | cons m L ih =>
    cases k with
    | zero => simp [flatM, modeV, mAt]
    | succ k =>
      have := ih k (by simpa using hk)
      have e : (k + 1) * 2 = k * 2 + 1 + 1 := by omega
      rw [e]
      simp only [flatM, modeV, List.set_cons_succ, List.flatMap_cons, List.cons_append, List.nil_append] at this ⊢
      have em : mAt (m :: L) (k + 1) = mAt L k := by simp [mAt, List.getD]
      rw [em, this]
/-- A pole is stored in a row of modes. -/
theorem OwnM.setPole {w : World} {lo hi b c k p q : Nat} {L : List MW} (h : OwnM w lo hi (some ⟨b, 0, none⟩) c L) (hk : k < L.length) :
    OwnM (w.setCell ⟨b, k * 2, none⟩ (.complex .f32 p q)) lo hi (some ⟨b, 0, none⟩) c (L.set k (p, q, (mAt L k).2.2)) := by
  obtain ⟨⟨h1, h2⟩, h3⟩ := h
  rcases h2 with ⟨h2, _⟩ | ⟨g, cap, cur, e1, e2, e3, e4, e5, e6, e7⟩
  · cases h2
  injection e1 with q1 q2 q3
  injection q1 with q1
  injection q1 with q1
  subst q1 q3
  have hl : (L.set k (p, q, (mAt L k).2.2)).length = L.length := by simp
  refine ⟨⟨by rw [flatM_len], .inr ⟨b, c, cur.setIfInBounds (k * 2) (.complex .f32 p q), by rw [hl], e2, ?_, by rw [hl]; exact e4, e5, by simpa using e6, ?_⟩⟩, fun j hj => h3 j (by simpa [Value.ownBlock] using hj)⟩
  · simp [World.setCell, Array.getElem?_modify, e3]
  · rw [hl, flatM_set L k p q hk, ← e7]
    apply List.ext_getElem?
    intro i
    simp only [List.getElem?_take, List.getElem?_set, Array.toList_setIfInBounds, List.length_take]
    have hsz : cur.toList.length = c * 2 := by simpa using e6
    by_cases hi : i < L.length * 2
    · simp only [hi, if_true]
      by_cases e : k * 2 = i
      · subst e
        rw [if_pos rfl, if_pos rfl, if_pos (by omega), if_pos (by omega)]
      · rw [if_neg e, if_neg e]
    · simp only [hi, if_false]
      rw [if_neg (by omega)]
theorem OwnM.frozen {w : World} {lo hi b c : Nat} {L : List MW} (h : OwnM w lo hi (some ⟨b, 0, none⟩) c L) (k : Nat) : w.frozen? ⟨b, k, none⟩ = false := by
  obtain ⟨⟨h1, h2⟩, h3⟩ := h
  rcases h2 with ⟨h2, _⟩ | ⟨g, cap, cur, e1, e2, e3, e4, e5, e6, e7⟩
  · cases h2
  injection e1 with q1 q2 q3
  injection q1 with q1
  injection q1 with q1
  subst q1
  unfold World.frozen?; simp only [e3]; simp

/-- The words of a damped pole are numbers. -/
theorem damp_fin {f : Nat} {m : MW} (hm : ModeOk m.1 m.2.1 m.2.2.1 m.2.2.2) (hf : FacOk f) : fin .f32 (fo .mul .f32 m.1 f) ∧ fin .f32 (fo .mul .f32 m.2.1 f) := by
  have := damp_ok hm hf
  exact ⟨fin_of_wid this.fa, fin_of_wid this.fb⟩
end Go.Proofs.Ytignncjmbcdpaaa

/-
impl.DampBody: the walk.
-/
namespace Go.Proofs.Ytignncjmbcdpaaa
open Go Go.RowKit Ieee

theorem OwnM.keepOut {w : World} {lo hi g : Nat} {v : Value} {A : Option Addr} {c : Nat} {L : List MW} (h : OwnM w lo hi A c L) (hg : g < lo) : OwnM (w.setCell ⟨g, 0, none⟩ v) lo hi A c L := by
  refine h.keep fun j hj _ => Below.heap_setCell _ _ _ _ (by show j ≠ g; omega)
theorem OwnM.low {w : World} {lo lo' hi hi' : Nat} {A : Option Addr} {c : Nat} {L : List MW} (h : OwnM w lo hi A c L) (h1 : lo' ≤ lo) (h2 : hi ≤ hi') : OwnM w lo' hi' A c L :=
  ⟨⟨h.1.1, by
    rcases h.1.2 with q | ⟨g, cap, cur, e1, e2, e3⟩
    · exact .inl q
    · exact .inr ⟨g, cap, cur, e1, by omega, e3⟩⟩, fun k hk => by have := h.2 k hk; omega⟩

set_option maxRecDepth 100000 in
set_option maxHeartbeats 800000 in
theorem dampBody_any (A : Option Addr) (c lo hi f : Nat) (ms : List MW) (w : World) (h : OwnM w lo hi A c ms) (hh : hi ≤ w.heap.size) (hok : ModesOk ms) (hl : ms.length ≤ 16) (hf : FacOk f) :
    Calls Try.prog 59 #[.agg #[.slice A ms.length c], .float .f32 f] w fun e w' => ∃ (A' : Option Addr) (c' : Nat), e = .returned (.tuple #[.agg #[.slice A' ms.length c'], .bool true]) ∧ OwnM w' w.heap.size w'.heap.size A' c' (ms.map (dampM f)) ∧ Below w.heap.size w w' := by
  have hf0 : fge .f32 f 0 = true := (fge_iff hf.ff (zero_fin .f32).1).2 (by rw [(zero_fin .f32).2]; exact hf.lo)
  have hf1 : fle .f32 f 1065353216 = true := (fle_iff hf.ff one32.1).2 (by rw [one32.2]; exact hf.le)
  have HF := Lib.hid hf
  have HK := Lib.hid hok
  have HB : Hid (Below w.heap.size w ((w.alloc (.cells #[.slice A ms.length c] 69)).alloc (.cells #[.slice none 0 0] 69))) := ((Below.refl w.heap.size w).alloc (Nat.le_refl _) _).alloc (by simp) _
  have H : Hid (OwnM ((w.alloc (.cells #[.slice A ms.length c] 69)).alloc (.cells #[.slice none 0 0] 69)) lo hi A c ms) := h.below HB.out hh
  have HP : Hid (((w.alloc (.cells #[.slice A ms.length c] 69)).alloc (.cells #[.slice none 0 0] 69)).heap[w.heap.size]? = some (.cells #[.slice A ms.length c] 69 (0, 0))) :=
    (Below.heap_alloc _ _ _ (by simp)).trans (heap_alloc_new w _)
  have HR : Hid (((w.alloc (.cells #[.slice A ms.length c] 69)).alloc (.cells #[.slice none 0 0] 69)).heap[w.heap.size + 1]? = some (.cells #[.slice none 0 0] 69 (0, 0))) := by
    show _ = _
    have := heap_alloc_new (w.alloc (.cells #[.slice A ms.length c] 69)) (.cells #[.slice none 0 0] 69)
    simpa using this
  have hsz : w.heap.size + 1 < ((w.alloc (.cells #[.slice A ms.length c] 69)).alloc (.cells #[.slice none 0 0] 69)).heap.size := by simp
  have c0 := cell_of_row _ w.heap.size 0 _ _ (0, 0) HP.out
  clear h hok hf
  go_enter Try.func59, Try.ntmps59
  go_wp2_with fail
  generalize (w.alloc (.cells #[.slice A ms.length c] 69)).alloc (.cells #[.slice none 0 0] 69) = W1 at *
  refine (isBody_any A c lo hi ms _ H.out (by omega) HK.out hl).mono ?_
  rintro e W2 ⟨rfl, hb2⟩
  have hs2 : w.heap.size + 1 < W2.heap.size := Nat.lt_of_lt_of_le hsz hb2.size
  have H2 : Hid (OwnM W2 lo hi A c ms) := H.out.below hb2 (by omega)
  have HP2 := Lib.hid ((hb2.block _ (by omega)).trans HP.out)
  have HR2 := Lib.hid ((hb2.block _ hsz).trans HR.out)
  have HB2 : Hid (Below w.heap.size w W2) := HB.out.trans (hb2.mono (by omega))
  clear c0 hb2 H HP HR HB hsz
  have c2 := cell_of_row _ w.heap.size 0 _ _ (0, 0) HP2.out
  go_wp2_with fail
  refine (copyBody_any A c lo hi ms W2 H2.out (by omega) hl).mono ?_
  rintro e W3 ⟨A', c', rfl, ho, hb3⟩
  have hs3 : W2.heap.size ≤ W3.heap.size := hb3.size
  have HR3 : Hid ((W3.alloc (.cells #[.slice A' ms.length c'] 69)).heap[w.heap.size + 1]? = some (.cells #[.slice none 0 0] 69 (0, 0))) := (Below.heap_alloc _ _ _ (by omega)).trans ((hb3.block _ hs2).trans HR2.out)
  have HB3 : Hid (Below w.heap.size w (W3.alloc (.cells #[.slice A' ms.length c'] 69))) := (HB2.out.trans (hb3.mono (by omega))).alloc (by omega) _
  have HO3 : Hid (OwnM (W3.alloc (.cells #[.slice A' ms.length c'] 69)) W2.heap.size W3.heap.size A' c' ms) := ho.below ((Below.refl W3.heap.size W3).alloc (Nat.le_refl _) _) (Nat.le_refl _)
  have HC3 : Hid ((W3.alloc (.cells #[.slice A' ms.length c'] 69)).heap[W3.heap.size]? = some (.cells #[.slice A' ms.length c'] 69 (0, 0))) := heap_alloc_new W3 _
  have co := cell_of_row _ W3.heap.size 0 _ _ (0, 0) HC3.out
  clear c2 ho hb3 H2 HP2 HR2 HB2
  go_wp2_with fail
  generalize W3.alloc (.cells #[.slice A' ms.length c'] 69) = Wa at *
  generalize W3.heap.size = o at *
  go_loopw [26] (fun i wr => ∃ (k : Nat) (L : List MW), i = .int .i64 (k : Int) ∧ k ≤ ms.length ∧ Hid (Damped f ms k L) ∧ Hid (OwnM wr W2.heap.size o A' c' L) ∧ Hid (Below w.heap.size w wr) ∧
    Hid (wr.heap[o]? = some (.cells #[.slice A' ms.length c'] 69 (0, 0))) ∧ Hid (wr.heap[w.heap.size + 1]? = some (.cells #[.slice none 0 0] 69 (0, 0)))) (fun i _ => ms.length - (intOf i).toNat)
  case atStart => exact ⟨0, ms, rfl, by omega, Damped.zero f ms, HO3.out, HB3.out, HC3.out, HR3.out⟩
  case round =>
    clear co HO3 HB3 HC3 HR3
    obtain ⟨k, L, rfl, hk, HD, HO, HB, HC, HR⟩ := hrel
    have co := cell_of_row _ o 0 _ _ (0, 0) HC.out
    by_cases hlt : k < ms.length
    · have hLl : k < L.length := by rw [HD.out.1]; exact hlt
      obtain ⟨b, rfl, hb1, hb2, hlc, hmx, hcell⟩ := HO.out.cells (by omega)
      have hm : mAt L k = mAt ms k := by have := HD.out.2 k hlt; rwa [if_neg (by omega)] at this
      have e1 : wr.cell? ⟨b, k * 2, none⟩ = some (.complex .f32 (mAt ms k).1 (mAt ms k).2.1) := by rw [← hm]; exact (hcell k hLl).1
      have f0 := HO.out.frozen (k * 2)
      have hbo : b < o := HO.out.2 b rfl
      have T := Lib.hid (fun W => implScaleS_any (mAt ms k).1 (mAt ms k).2.1 f W (damp_fin (HK.out.at_ hlt) HF.out).1 (damp_fin (HK.out.at_ hlt) HF.out).2)
      have HD2 := Lib.hid (HD.out.set hlt)
      have HO2 : Hid (∀ n, OwnM ((wr.drewN n).setCell ⟨b, k * 2, none⟩ (.complex .f32 (fo .mul .f32 (mAt ms k).1 f) (fo .mul .f32 (mAt ms k).2.1 f))) W2.heap.size o (some ⟨b, 0, none⟩) c' (L.set k (dampM f (mAt ms k)))) := fun n => by
        have h0 : OwnM (wr.drewN n) W2.heap.size o (some ⟨b, 0, none⟩) c' L := HO.out
        have := h0.setPole (p := fo .mul .f32 (mAt ms k).1 f) (q := fo .mul .f32 (mAt ms k).2.1 f) hLl
        rw [hm] at this
        exact this
      have HBs : Hid (∀ n V, Below w.heap.size w ((wr.drewN n).setCell ⟨b, k * 2, none⟩ V)) := fun n V => (below_drewN HB.out n).setCell (by show w.heap.size ≤ b; omega) V
      clear hcell hm
      generalize (mAt ms k).1 = p at *
      generalize (mAt ms k).2.1 = q at *
      have hlen : L.length = ms.length := HD.out.1
      go_wp2_with fail
      go_region_with (first
        | (go_at_call 107
           refine (T.out _).mono ?_
           rintro e w' ⟨rfl, nq, rfl⟩))
      all_goals
       go_wp2_with fail
       go_roundw
       case rel =>
        refine ⟨k + 1, _, by go_num, by omega, HD2.out, HO2.out _, HBs.out _ _, ?_, ?_⟩
        · exact (Below.heap_setCell _ _ _ _ (by show o ≠ b; omega)).trans HC.out
        · exact (Below.heap_setCell _ _ _ _ (by show w.heap.size + 1 ≠ b; omega)).trans HR.out
       case measure => simp [intOf]; omega
    · have hkn : ms.length = k := by omega
      subst hkn
      have hL := HD.out.done
      subst hL
      have r0 := cell_of_row wr (w.heap.size + 1) 0 _ _ (0, 0) HR.out
      have r1 : wr.frozen? ⟨w.heap.size + 1, 0, none⟩ = false := by unfold World.frozen?; simp only [HR.out]; simp
      have HRes : Hid (∀ v, (wr.setCell ⟨w.heap.size + 1, 0, none⟩ v).heap[w.heap.size + 1]? = some (.cells #[v] 69 (0, 0))) := fun v => by
        simp [World.setCell, Array.getElem?_modify, HR.out]
      have hso : o < wr.heap.size := lt_of_some HC.out
      go_wp2_with fail
      refine bodyPost_ret (results_cell_tmp_row rfl _ _ (w.heap.size + 1) 69 #[.slice A' ms.length c'] (0, 0) _ rfl (HRes.out _) Try.underlying69 rfl (by kernel_rfl)) rfl ?_
      exact ⟨A', c', rfl, (HO.out.keepOut (by omega)).low (by omega) (by simp; omega), HB.out.setCell (by show w.heap.size ≤ w.heap.size + 1; omega) _⟩
end Go.Proofs.Ytignncjmbcdpaaa

/-
impl.checked at a valid body.
-/
namespace Go.Proofs.Ytignncjmbcdpaaa
open Go Go.RowKit Ieee

set_option maxRecDepth 100000 in
set_option maxHeartbeats 600000 in
theorem checked_any (A : Option Addr) (c lo hi : Nat) (ms : List MW) (w : World) (h : OwnM w lo hi A c ms) (hh : hi ≤ w.heap.size) (hok : ModesOk ms) (hl : ms.length ≤ 16) :
    Calls Try.prog 112 #[.agg #[.slice A ms.length c]] w fun e w' => ∃ (A' : Option Addr) (c' : Nat), e = .returned (.tuple #[.agg #[.slice A' ms.length c'], .bool true]) ∧ OwnM w' w.heap.size w'.heap.size A' c' ms ∧ Below w.heap.size w w' := by
  have HK := Lib.hid hok
  have HB : Hid (Below w.heap.size w ((w.alloc (.cells #[.slice A ms.length c] 69)).alloc (.cells #[.slice none 0 0] 69))) := ((Below.refl w.heap.size w).alloc (Nat.le_refl _) _).alloc (by simp) _
  have H : Hid (OwnM ((w.alloc (.cells #[.slice A ms.length c] 69)).alloc (.cells #[.slice none 0 0] 69)) lo hi A c ms) := h.below HB.out hh
  have HP : Hid (((w.alloc (.cells #[.slice A ms.length c] 69)).alloc (.cells #[.slice none 0 0] 69)).heap[w.heap.size]? = some (.cells #[.slice A ms.length c] 69 (0, 0))) :=
    (Below.heap_alloc _ _ _ (by simp)).trans (heap_alloc_new w _)
  have HR : Hid (((w.alloc (.cells #[.slice A ms.length c] 69)).alloc (.cells #[.slice none 0 0] 69)).heap[w.heap.size + 1]? = some (.cells #[.slice none 0 0] 69 (0, 0))) := by
    show _ = _
    have := heap_alloc_new (w.alloc (.cells #[.slice A ms.length c] 69)) (.cells #[.slice none 0 0] 69)
    simpa using this
  have hsz : w.heap.size + 1 < ((w.alloc (.cells #[.slice A ms.length c] 69)).alloc (.cells #[.slice none 0 0] 69)).heap.size := by simp
  have c0 := cell_of_row _ w.heap.size 0 _ _ (0, 0) HP.out
  clear h hok
  go_enter Try.func112, Try.ntmps112
  go_wp2_with fail
  generalize (w.alloc (.cells #[.slice A ms.length c] 69)).alloc (.cells #[.slice none 0 0] 69) = W1 at *
  refine (isBody_any A c lo hi ms _ H.out (by omega) HK.out hl).mono ?_
  rintro e W2 ⟨rfl, hb2⟩
  have hs2 : w.heap.size + 1 < W2.heap.size := Nat.lt_of_lt_of_le hsz hb2.size
  have H2 : Hid (OwnM W2 lo hi A c ms) := H.out.below hb2 (by omega)
  have HP2 := Lib.hid ((hb2.block _ (by omega)).trans HP.out)
  have HR2 := Lib.hid ((hb2.block _ hsz).trans HR.out)
  have HB2 : Hid (Below w.heap.size w W2) := HB.out.trans (hb2.mono (by omega))
  clear c0 hb2 H HP HR HB hsz
  have c2 := cell_of_row _ w.heap.size 0 _ _ (0, 0) HP2.out
  go_wp2_with fail
  refine (copyBody_any A c lo hi ms W2 H2.out (by omega) hl).mono ?_
  rintro e W3 ⟨A', c', rfl, ho, hb3⟩
  have hs3 : W2.heap.size ≤ W3.heap.size := hb3.size
  have HR3 : Hid (W3.heap[w.heap.size + 1]? = some (.cells #[.slice none 0 0] 69 (0, 0))) := (hb3.block _ hs2).trans HR2.out
  have HB3 : Hid (Below w.heap.size w W3) := HB2.out.trans (hb3.mono (by omega))
  have HO3 := Lib.hid ho
  clear c2 ho hb3 H2 HP2 HR2 HB2
  have r0 := cell_of_row W3 (w.heap.size + 1) 0 _ _ (0, 0) HR3.out
  have r1 : W3.frozen? ⟨w.heap.size + 1, 0, none⟩ = false := by unfold World.frozen?; simp only [HR3.out]; simp
  have HRes : Hid (∀ v, (W3.setCell ⟨w.heap.size + 1, 0, none⟩ v).heap[w.heap.size + 1]? = some (.cells #[v] 69 (0, 0))) := fun v => by
    simp [World.setCell, Array.getElem?_modify, HR3.out]
  go_wp2_with fail
  refine bodyPost_ret (results_cell_tmp_row rfl _ _ (w.heap.size + 1) 69 #[.slice A' ms.length c'] (0, 0) _ rfl (HRes.out _) Try.underlying69 rfl (by kernel_rfl)) rfl ?_
  exact ⟨A', c', rfl, (HO3.out.keepOut (by omega)).low (by omega) (by simp), HB3.out.setCell (by show w.heap.size ≤ w.heap.size + 1; omega) _⟩
end Go.Proofs.Ytignncjmbcdpaaa

/-
Balls of complex numbers, without square roots. (Plain arithmetic.)
-/
namespace Go.Proofs.Ytignncjmbcdpaaa
open Go Ieee

/-- In the ball of radius R. -/
def B2 (x y R : Rat) : Prop := 0 ≤ R ∧ x * x + y * y ≤ R * R
theorem B2.parts {x y R : Rat} (h : B2 x y R) : ab x ≤ R ∧ ab y ≤ R := by
  have q1 := sq_nonneg x
  have q2 := sq_nonneg y
  have := h.2
  exact ⟨ab_le_of_sq h.1 (by grind), ab_le_of_sq h.1 (by grind)⟩
theorem mul_mono {a b c d : Rat} (h1 : a ≤ b) (h2 : c ≤ d) (h3 : 0 ≤ a) (h4 : 0 ≤ d) : a * c ≤ b * d := by
  have x1 := Rat.mul_le_mul_of_nonneg_left h2 h3
  have x2 := Rat.mul_le_mul_of_nonneg_right h1 h4
  exact Rat.le_trans x1 x2
theorem cauchy {a b c d R S : Rat} (h : B2 a b R) (g : B2 c d S) : ab (a * c + b * d) ≤ R * S := by
  refine ab_le_of_sq (Rat.mul_nonneg h.1 g.1) ?_
  have q := sq_nonneg (a * d - b * c)
  have q1 := sq_nonneg a
  have q2 := sq_nonneg b
  have m := mul_mono h.2 g.2 (by grind) (Rat.mul_nonneg g.1 g.1)
  grind
theorem B2.add {a b c d R S : Rat} (h : B2 a b R) (g : B2 c d S) : B2 (a + c) (b + d) (R + S) := by
  have m := (le_ab (a * c + b * d)).1
  have m2 := cauchy h g
  have h1 := h.1
  have h2 := h.2
  have g1 := g.1
  have g2 := g.2
  exact ⟨by grind, by grind⟩
theorem B2.neg {a b R : Rat} (h : B2 a b R) : B2 (-a) (-b) R := ⟨h.1, by have := h.2; grind⟩
theorem B2.le {a b R S : Rat} (h : B2 a b R) (hs : R ≤ S) : B2 a b S := by
  have h1 := h.1
  have m := mul_mono hs hs h1 (by grind)
  exact ⟨by grind, by have := h.2; grind⟩
theorem B2.mul {a b c d R ρ : Rat} (h : B2 a b R) (g : B2 c d ρ) : B2 (a * c - b * d) (a * d + b * c) (R * ρ) := by
  have q1 := sq_nonneg a
  have q2 := sq_nonneg b
  have m := mul_mono h.2 g.2 (by grind) (Rat.mul_nonneg g.1 g.1)
  exact ⟨Rat.mul_nonneg h.1 g.1, by grind⟩
theorem B2.box {x y e : Rat} (hx : ab x ≤ e) (hy : ab y ≤ e) : B2 x y (e * (3 / 2)) := by
  have n := ab_nonneg x
  have a1 := sq_le_of_ab hx
  have a2 := sq_le_of_ab hy
  have q := sq_nonneg e
  exact ⟨by grind, by grind⟩
theorem B2.l1 (c d : Rat) : B2 c d (ab c + ab d) := by
  have n1 := ab_nonneg c
  have n2 := ab_nonneg d
  have s1 := ab_sq c
  have s2 := ab_sq d
  have m := Rat.mul_nonneg n1 n2
  exact ⟨by grind, by grind⟩
theorem B2.scale {c d S : Rat} (h : B2 c d S) (x : Rat) : B2 (c * x) (d * x) (S * ab x) := by
  have n := ab_nonneg x
  have s := ab_sq x
  have q := sq_nonneg x
  have m := Rat.mul_le_mul_of_nonneg_right h.2 q
  have m1 := Rat.mul_nonneg h.1 n
  refine ⟨m1, ?_⟩
  have e : S * ab x * (S * ab x) = S * S * (x * x) := by rw [← s]; grind
  rw [e]
  grind
theorem B2.zero : B2 0 0 0 := ⟨Rat.le_refl, by grind⟩
/-- The parts' products. -/
theorem B2.prods {a b c d R ρ : Rat} (h : B2 a b R) (g : B2 c d ρ) : ab (a * c) + ab (b * d) ≤ R * ρ ∧ ab (a * d) + ab (b * c) ≤ R * ρ := by
  have k1 : B2 (ab a) (ab b) R := ⟨h.1, by rw [ab_sq, ab_sq]; exact h.2⟩
  have k2 : B2 (ab c) (ab d) ρ := ⟨g.1, by rw [ab_sq, ab_sq]; exact g.2⟩
  have k3 : B2 (ab d) (ab c) ρ := ⟨g.1, by rw [ab_sq, ab_sq]; have := g.2; grind⟩
  have c1 := cauchy k1 k2
  have c2 := cauchy k1 k3
  have l1 := (le_ab (ab a * ab c + ab b * ab d)).1
  have l2 := (le_ab (ab a * ab d + ab b * ab c)).1
  rw [ab_mul, ab_mul, ab_mul, ab_mul]
  exact ⟨by grind, by grind⟩
/-- The pole's radius. -/
def rho : Rat := 1 + 1 / 2 ^ 40
theorem B2.pole {c d : Rat} (h : c * c + d * d ≤ 1 + 1 / 2 ^ 40) : B2 c d rho := ⟨by unfold rho; grind, by unfold rho; grind⟩
end Go.Proofs.Ytignncjmbcdpaaa

/-
One step of a mode: the errors in single and in double precision. (Plain arithmetic.)
-/
namespace Go.Proofs.Ytignncjmbcdpaaa
open Go Ieee

/-- Two products, their sum, narrowed. -/
theorem err_nar {p q s r P Q S : Rat} (hp : ab (p - P) ≤ ab P / 2 ^ 53 + 1 / 2 ^ 200) (hq : ab (q - Q) ≤ ab Q / 2 ^ 53 + 1 / 2 ^ 200) (hs : ab (s - (p + q)) ≤ ab (p + q) / 2 ^ 53 + 1 / 2 ^ 200)
    (hr : ab (r - s) ≤ ab s / 2 ^ 24 + 1 / 2 ^ 149) (hS : ab P + ab Q ≤ S) : ab (r - (P + Q)) ≤ S / 2 ^ 24 + S / 2 ^ 40 + 1 / 2 ^ 147 := by
  have t1 := ab_tri p P
  have t2 := ab_tri q Q
  have t3 := ab_add p q
  have t4 := ab_tri s (p + q)
  have t5 := ab_add (r - s) (s - (p + q))
  have t6 := ab_add (r - (p + q)) ((p - P) + (q - Q))
  have t7 := ab_add (p - P) (q - Q)
  have e1 : r - s + (s - (p + q)) = r - (p + q) := by grind
  have e2 : r - (p + q) + ((p - P) + (q - Q)) = r - (P + Q) := by grind
  rw [e1] at t5
  rw [e2] at t6
  have n1 := ab_nonneg P
  have n2 := ab_nonneg Q
  clear e1 e2
  generalize ab (p - P) = x1 at *
  generalize ab (q - Q) = x2 at *
  generalize ab (s - (p + q)) = x3 at *
  generalize ab (r - s) = x4 at *
  generalize ab (r - (p + q)) = x5 at *
  generalize ab (p - P + (q - Q)) = x6 at *
  generalize ab (r - (P + Q)) = x7 at *
  generalize ab (p + q) = x8 at *
  generalize ab p = x9 at *
  generalize ab q = x10 at *
  generalize ab s = x11 at *
  generalize ab P = x12 at *
  generalize ab Q = x13 at *
  grind
/-- Two products and their sum. -/
theorem err_dbl {p q s P Q S : Rat} (hp : ab (p - P) ≤ ab P / 2 ^ 53 + 1 / 2 ^ 200) (hq : ab (q - Q) ≤ ab Q / 2 ^ 53 + 1 / 2 ^ 200) (hs : ab (s - (p + q)) ≤ ab (p + q) / 2 ^ 53 + 1 / 2 ^ 200)
    (hS : ab P + ab Q ≤ S) : ab (s - (P + Q)) ≤ S / 2 ^ 51 + 1 / 2 ^ 197 := by
  have t1 := ab_tri p P
  have t2 := ab_tri q Q
  have t3 := ab_add p q
  have t6 := ab_add (s - (p + q)) ((p - P) + (q - Q))
  have t7 := ab_add (p - P) (q - Q)
  have e2 : s - (p + q) + ((p - P) + (q - Q)) = s - (P + Q) := by grind
  rw [e2] at t6
  have n1 := ab_nonneg P
  have n2 := ab_nonneg Q
  clear e2
  generalize ab (p - P) = x1 at *
  generalize ab (q - Q) = x2 at *
  generalize ab (s - (p + q)) = x3 at *
  generalize ab (p - P + (q - Q)) = x6 at *
  generalize ab (s - (P + Q)) = x7 at *
  generalize ab (p + q) = x8 at *
  generalize ab p = x9 at *
  generalize ab q = x10 at *
  generalize ab P = x12 at *
  generalize ab Q = x13 at *
  grind
/-- A part and a gain's part times an input, added. -/
theorem err_add {r g z V G S W μ τ : Rat} (hμ : 0 ≤ μ) (hμ1 : μ ≤ 1 / 2 ^ 24) (hτ : 0 ≤ τ) (hr : ab (r - V) ≤ S * μ + S / 2 ^ 16 * μ + τ * 4) (hV : ab V ≤ S) (hg : ab (g - G) ≤ μ * ab G + τ) (hG : ab G ≤ W) (hz : ab (z - (r + g)) ≤ μ * ab (r + g) + τ) (hS : 0 ≤ S) (hτ1 : τ ≤ 1) :
    ab (z - (V + G)) ≤ (S + W) * μ * 3 + τ * 8 := by
  have t1 := ab_tri r V
  have t2 := ab_tri g G
  have t3 := ab_add r g
  have t4 := ab_add (z - (r + g)) ((r - V) + (g - G))
  have t5 := ab_add (r - V) (g - G)
  have e : z - (r + g) + ((r - V) + (g - G)) = z - (V + G) := by grind
  rw [e] at t4
  clear e
  have n1 := ab_nonneg V
  have n2 := ab_nonneg G
  have n3 := ab_nonneg (r + g)
  generalize ab (r - V) = x1 at *
  generalize ab (g - G) = x2 at *
  generalize ab (z - (r + g)) = x3 at *
  generalize ab (r - V + (g - G)) = x4 at *
  generalize ab (z - (V + G)) = x5 at *
  generalize ab (r + g) = x6 at *
  generalize ab r = x7 at *
  generalize ab g = x8 at *
  generalize ab V = x9 at *
  generalize ab G = x10 at *
  have hW : 0 ≤ W := by grind
  have m1 := Rat.mul_nonneg hμ hS
  have m2 := Rat.mul_nonneg hμ hW
  have m3 : x6 ≤ S + W + (S * μ + S / 2 ^ 16 * μ + τ * 4) + (μ * x10 + τ) := by grind
  have m4 : μ * x10 ≤ μ * W := Rat.mul_le_mul_of_nonneg_left hG hμ
  have m5 := Rat.mul_le_mul_of_nonneg_left m3 hμ
  have m6 : μ * (μ * S) ≤ μ * S / 2 ^ 24 := by
    have := Rat.mul_le_mul_of_nonneg_right hμ1 m1
    grind
  have m7 : μ * (μ * W) ≤ μ * W / 2 ^ 24 := by
    have := Rat.mul_le_mul_of_nonneg_right hμ1 m2
    grind
  have m8 : μ * τ ≤ τ / 2 ^ 24 := by
    have := Rat.mul_le_mul_of_nonneg_right hμ1 hτ
    grind
  have m9 : μ * (μ * x10) ≤ μ * (μ * W) := Rat.mul_le_mul_of_nonneg_left m4 hμ
  grind
end Go.Proofs.Ytignncjmbcdpaaa

/-
One step of a mode against the exact one. (Plain arithmetic.)
-/
namespace Go.Proofs.Ytignncjmbcdpaaa
open Go Ieee

theorem ModeOk.ball {m : MW} (hm : ModeOk m.1 m.2.1 m.2.2.1 m.2.2.2) : B2 (fv .f32 m.1) (fv .f32 m.2.1) rho := B2.pole hm.square
/-- The size of a mode's gain. -/
def gam (m : MW) : Rat := ab (fv .f32 m.2.2.1) + ab (fv .f32 m.2.2.2)
theorem gam_nonneg (m : MW) : 0 ≤ gam m := by
  have := ab_nonneg (fv .f32 m.2.2.1)
  have := ab_nonneg (fv .f32 m.2.2.2)
  unfold gam; grind
/-- The exact step. -/
def exRe (m : MW) (A B x : Rat) : Rat := A * fv .f32 m.1 - B * fv .f32 m.2.1 + fv .f32 m.2.2.1 * x
def exIm (m : MW) (A B x : Rat) : Rat := A * fv .f32 m.2.1 + B * fv .f32 m.1 + fv .f32 m.2.2.2 * x
theorem ex_ball {m : MW} (hm : ModeOk m.1 m.2.1 m.2.2.1 m.2.2.2) {A B R x : Rat} (h : B2 A B R) : B2 (exRe m A B x) (exIm m A B x) (R * rho + gam m * ab x) :=
  (h.mul hm.ball).add ((B2.l1 _ _).scale x)

theorem gain_err {g x : Nat} (fg : fin .f32 g) (fx : fin .f32 x) (hg : ab (fv .f32 g) ≤ 1024) (hx : ab (fv .f32 x) ≤ 128) :
    fin .f32 (fo .mul .f32 g x) ∧ ab (fv .f32 (fo .mul .f32 g x) - fv .f32 g * fv .f32 x) ≤ 1 / 2 ^ 24 * ab (fv .f32 g * fv .f32 x) + 1 / 2 ^ 149 ∧ ab (fv .f32 (fo .mul .f32 g x)) ≤ 2 ^ 18 := by
  obtain ⟨u1, u2, _⟩ := consts32
  have ht2 := top32
  have h1 := Rat.mul_le_mul_of_nonneg_left hx (ab_nonneg (fv .f32 g))
  have h2 : ab (fv .f32 g * fv .f32 x) ≤ 2 ^ 17 := by rw [ab_mul]; grind
  have hm := mul_spec fg fx (by grind)
  have e := hm.2.1
  rw [u1] at e
  have t := ab_tri (fv .f32 (fo .mul .f32 g x)) (fv .f32 g * fv .f32 x)
  exact ⟨hm.1, by grind, by grind⟩
theorem prod64 {a c : Nat} {L : Rat} (fa : fin .f64 a) (fc : fin .f64 c) (h : ab (fv .f64 a * fv .f64 c) ≤ L) (hL : L ≤ 2 ^ 150) :
    fin .f64 (fo .mul .f64 a c) ∧ ab (fv .f64 (fo .mul .f64 a c) - fv .f64 a * fv .f64 c) ≤ ab (fv .f64 a * fv .f64 c) / 2 ^ 53 + 1 / 2 ^ 200 ∧ ab (fv .f64 (fo .mul .f64 a c)) ≤ L * 2 + 1 := by
  obtain ⟨k1, k2, k3⟩ := consts64
  have hm := mul_spec fa fc (by grind)
  have e := hm.2.1
  rw [k1] at e
  have t := ab_tri (fv .f64 (fo .mul .f64 a c)) (fv .f64 a * fv .f64 c)
  have n := ab_nonneg (fv .f64 a * fv .f64 c)
  exact ⟨hm.1, by grind, by grind⟩
/-- One part in double precision: two products and their sum. -/
theorem sum64 {p q : Nat} {L : Rat} (fp : fin .f64 p) (fq : fin .f64 q) (hp : ab (fv .f64 p) ≤ L) (hq : ab (fv .f64 q) ≤ L) (hL : L ≤ 2 ^ 160) :
    fin .f64 (fo .sub .f64 p q) ∧ fin .f64 (fo .add .f64 p q) ∧ ab (fv .f64 (fo .sub .f64 p q) - (fv .f64 p + -fv .f64 q)) ≤ ab (fv .f64 p + -fv .f64 q) / 2 ^ 53 + 1 / 2 ^ 200 ∧
      ab (fv .f64 (fo .add .f64 p q) - (fv .f64 p + fv .f64 q)) ≤ ab (fv .f64 p + fv .f64 q) / 2 ^ 53 + 1 / 2 ^ 200 := by
  obtain ⟨k1, k2, k3⟩ := consts64
  obtain ⟨p1, p2⟩ := le_ab (fv .f64 p)
  obtain ⟨q1, q2⟩ := le_ab (fv .f64 q)
  have b1 : ab (fv .f64 p - fv .f64 q) ≤ L * 2 := ab_le (by grind) (by grind)
  have b2 : ab (fv .f64 p + fv .f64 q) ≤ L * 2 := ab_le (by grind) (by grind)
  have s1 := sub_spec fp fq (by grind)
  have s2 := add_spec fp fq (by grind)
  have e1 := s1.2.1
  have e2 := s2.2.1
  rw [k1] at e1 e2
  have e : fv .f64 p + -fv .f64 q = fv .f64 p - fv .f64 q := by grind
  rw [e]
  exact ⟨s1.1, s2.1, by grind, by grind⟩
/-- A product of complex numbers in double precision. -/
theorem times64 {a b c d : Nat} {R : Rat} (fa : fin .f64 a) (fb : fin .f64 b) (fc : fin .f64 c) (fd : fin .f64 d) (h : B2 (fv .f64 a) (fv .f64 b) R) (g : B2 (fv .f64 c) (fv .f64 d) rho) (hR : R ≤ 2 ^ 100) :
    fin .f64 (mulRe a b c d) ∧ fin .f64 (mulIm a b c d) ∧ ab (fv .f64 (mulRe a b c d) - (fv .f64 a * fv .f64 c + -(fv .f64 b * fv .f64 d))) ≤ R * rho / 2 ^ 51 + 1 / 2 ^ 197 ∧
      ab (fv .f64 (mulIm a b c d) - (fv .f64 a * fv .f64 d + fv .f64 b * fv .f64 c)) ≤ R * rho / 2 ^ 51 + 1 / 2 ^ 197 := by
  obtain ⟨S1, S2⟩ := h.prods g
  have hr : R * rho ≤ 2 ^ 101 := by
    have := h.1
    unfold rho; grind
  have n1 := ab_nonneg (fv .f64 a * fv .f64 c)
  have n2 := ab_nonneg (fv .f64 b * fv .f64 d)
  have n3 := ab_nonneg (fv .f64 a * fv .f64 d)
  have n4 := ab_nonneg (fv .f64 b * fv .f64 c)
  obtain ⟨f1, e1, b1⟩ := prod64 fa fc (L := 2 ^ 101) (by grind) (by grind)
  obtain ⟨f2, e2, b2⟩ := prod64 fb fd (L := 2 ^ 101) (by grind) (by grind)
  obtain ⟨f3, e3, b3⟩ := prod64 fa fd (L := 2 ^ 101) (by grind) (by grind)
  obtain ⟨f4, e4, b4⟩ := prod64 fb fc (L := 2 ^ 101) (by grind) (by grind)
  obtain ⟨g1, _, x1, _⟩ := sum64 f1 f2 (L := 2 ^ 110) (by grind) (by grind) (by grind)
  obtain ⟨_, g2, _, x2⟩ := sum64 f3 f4 (L := 2 ^ 110) (by grind) (by grind) (by grind)
  have e2' : ab (-fv .f64 (fo .mul .f64 b d) - -(fv .f64 b * fv .f64 d)) ≤ ab (-(fv .f64 b * fv .f64 d)) / 2 ^ 53 + 1 / 2 ^ 200 := by
    rw [ab_neg, show -fv .f64 (fo .mul .f64 b d) - -(fv .f64 b * fv .f64 d) = -(fv .f64 (fo .mul .f64 b d) - fv .f64 b * fv .f64 d) by grind, ab_neg]; exact e2
  exact ⟨g1, g2, err_dbl e1 e2' x1 (by rw [ab_neg]; exact S1), err_dbl e3 e4 x2 S2⟩
end Go.Proofs.Ytignncjmbcdpaaa

/-
impl.RingDouble at a valid body.
-/
namespace Go.Proofs.Ytignncjmbcdpaaa
open Go Go.RowKit Ieee

set_option maxRecDepth 100000 in
set_option maxHeartbeats 400000 in
theorem input_any (B : Option Addr) (d pb : Nat) (xs : List Nat) (i : Nat) (w : World) (hc : w.cell? ⟨pb, 0, none⟩ = some (.slice B xs.length d)) (hr : Rd w B (f32s xs)) (hm : xs.length ≤ 1048576) (hi : i ≤ 2000) :
    Calls Try.prog 116 #[.int .i64 i, .pointer (some ⟨pb, 0, none⟩)] w fun e w' => ∃ x m, e = .returned (.float .f64 x) ∧ nrm .f64 x = nrm .f64 (wid (inAt xs i)) ∧ w.drewN m = w' := by
  have T := Lib.hid (element_any B d xs i w hr hm hi)
  obtain ⟨y, hy⟩ : ∃ y, inAt xs i = y := ⟨_, rfl⟩
  rw [hy] at T ⊢
  clear hr hy
  go_enter Try.func116, Try.ntmps116
  go_wp2_with fail
  refine T.out.mono ?_
  rintro e w' ⟨rfl, rfl⟩
  go_wp2_with fail
  go_ret
  exact ⟨_, _, rfl, by rw [nrm_wid, nrm_cv (by decide)], rfl⟩

/-- The inputs of a body in double precision. -/
def inW (xs : List Nat) (i : Nat) : Nat := wid (inAt xs i)
set_option maxRecDepth 100000 in
set_option maxHeartbeats 800000 in
theorem ringDouble_any (A B : Option Addr) (c d lo hi : Nat) (ms : List MW) (xs : List Nat) (n : Nat) (w : World) (h : OwnM w lo hi A c ms) (hh : hi ≤ w.heap.size) (hok : ModesOk ms) (hl : ms.length ≤ 16)
    (hr : Rd w B (f32s xs)) (hm : xs.length ≤ 1048576) (hn : n ≤ 2000) :
    Calls Try.prog 66 #[.agg #[.slice A ms.length c], .slice B xs.length d, .int .i64 n] w fun e w' => ∃ (A' : Option Addr) (c' : Nat) (ys : List Nat), e = .returned (.tuple #[.slice A' ys.length c', .bool true]) ∧
      w'.ownsRow w.heap.size 30 1 (.slice A' ys.length c') ys.length (f64s ys) ∧ RungD (ms.map widM) (inW xs) ys n ∧ Below w.heap.size w w' := by
  have HB : Hid (Below w.heap.size w ((w.alloc (.cells #[.slice A ms.length c] 69)).alloc (.cells #[.slice B xs.length d] 23))) := ((Below.refl w.heap.size w).alloc (Nat.le_refl _) _).alloc (by simp) _
  have H : Hid (OwnM ((w.alloc (.cells #[.slice A ms.length c] 69)).alloc (.cells #[.slice B xs.length d] 23)) lo hi A c ms) := h.below HB.out hh
  have HR : Hid (Rd ((w.alloc (.cells #[.slice A ms.length c] 69)).alloc (.cells #[.slice B xs.length d] 23)) B (f32s xs)) := hr.below HB.out
  have HP : Hid (((w.alloc (.cells #[.slice A ms.length c] 69)).alloc (.cells #[.slice B xs.length d] 23)).heap[w.heap.size]? = some (.cells #[.slice A ms.length c] 69 (0, 0))) :=
    (Below.heap_alloc _ _ _ (by simp)).trans (heap_alloc_new w _)
  have HI : Hid (((w.alloc (.cells #[.slice A ms.length c] 69)).alloc (.cells #[.slice B xs.length d] 23)).heap[w.heap.size + 1]? = some (.cells #[.slice B xs.length d] 23 (0, 0))) := by
    show _ = _
    have := heap_alloc_new (w.alloc (.cells #[.slice A ms.length c] 69)) (.cells #[.slice B xs.length d] 23)
    simpa using this
  have hsz : w.heap.size + 1 < ((w.alloc (.cells #[.slice A ms.length c] 69)).alloc (.cells #[.slice B xs.length d] 23)).heap.size := by simp
  have hin : (decide ((0 : Int) ≤ (n : Int)) && decide ((n : Int) ≤ 2000)) = true := by simp; omega
  have HK := Lib.hid hok
  have c0 := cell_of_row _ w.heap.size 0 _ _ (0, 0) HP.out
  clear h hr hok
  go_enter Try.func66, Try.ntmps66
  go_wp2_with fail
  generalize (w.alloc (.cells #[.slice A ms.length c] 69)).alloc (.cells #[.slice B xs.length d] 23) = W at *
  refine (isBody_any A c lo hi ms _ H.out (by omega) HK.out hl).mono ?_
  rintro e W1 ⟨rfl, hb1⟩
  have hs1 := hb1.size
  have HP1 := Lib.hid ((hb1.block _ (by omega)).trans HP.out)
  have HI1 := Lib.hid ((hb1.block _ (by omega)).trans HI.out)
  have H1 := Lib.hid (H.out.below hb1 (by omega))
  have HR1 := Lib.hid (HR.out.below hb1)
  have HB1 : Hid (Below w.heap.size w W1) := HB.out.trans (hb1.mono (by omega))
  clear c0 H HR HP HI HB hb1
  have c1 := cell_of_row _ w.heap.size 0 _ _ (0, 0) HP1.out
  go_wp2_with fail
  refine (count_any n _).mono ?_
  rintro e w' ⟨rfl, rfl⟩
  rw [hin]
  go_wp2_with fail
  refine (widened_any A c lo hi ms W1 H1.out (by omega) HK.out hl).mono ?_
  rintro e W2 ⟨A2, c2, he, ho2, hb2⟩
  obtain ⟨ds, hds⟩ : ∃ ds, ms.map widM = ds := ⟨_, rfl⟩
  have hdl : ms.length = ds.length := by rw [← hds]; simp
  rw [hds] at ho2
  rw [hdl] at he
  have HDS := Lib.hid hds
  subst he
  have HO2 := Lib.hid ho2
  have HR2 := Lib.hid (HR1.out.below hb2)
  have hs2 := hb2.size
  have HI2 := Lib.hid ((hb2.block _ (by omega)).trans HI1.out)
  have HB2 : Hid (Below w.heap.size w W2) := HB1.out.trans (hb2.mono (by omega))
  have hdl16 : ds.length ≤ 16 := by omega
  clear ho2 hb2 c1 HP1 HI1 H1 HR1 HB1 hds
  go_wp2_with fail
  refine (ring_any A2 c2 _ _ ds (w.heap.size + 1) (inW xs) n W2 HO2.out (Nat.le_refl _) hdl16 hn (fun i W3 hi hb3 => input_any B d (w.heap.size + 1) xs i W3 (cell_of_row W3 (w.heap.size + 1) 0 _ _ (0, 0) ((hb3.block _ (by omega)).trans HI2.out)) (HR2.out.below hb3) hm (by omega))).mono ?_
  rintro e W4 ⟨A4, c4, ys, rfl, ho4, hr4, hb4⟩
  have HO4 := Lib.hid (owns_low (lo' := w.heap.size) ho4 (by omega))
  have HR4 := Lib.hid hr4
  have HB4 : Hid (Below w.heap.size w W4) := HB2.out.trans (hb4.mono (by omega))
  clear ho4 hr4 hb4
  go_wp2_with fail
  go_ret2
  exact ⟨A4, c4, ys, rfl, HO4.out, by rw [HDS.out]; exact HR4.out, HB4.out⟩
end Go.Proofs.Ytignncjmbcdpaaa

/-
One step of a mode in single and in double precision. (Plain arithmetic.)
-/
namespace Go.Proofs.Ytignncjmbcdpaaa
open Go Ieee

theorem nar_err {s r : Nat} {V S : Rat} (fs : fin .f64 s) (he : ab (fv .f64 s - V) ≤ S / 2 ^ 51 + 1 / 2 ^ 197) (hV : ab V ≤ S) (hS : S ≤ 2 ^ 102) (hr : r = nar s) :
    ab (fv .f64 s) ≤ top .f32 ∧ fin .f32 r ∧ ab (fv .f32 r - V) ≤ S * (1 / 2 ^ 24) + S / 2 ^ 16 * (1 / 2 ^ 24) + 1 / 2 ^ 149 * 4 ∧ ab (fv .f32 r) ≤ 2 ^ 104 := by
  obtain ⟨u1, u2, _⟩ := consts32
  have ht2 := top32
  have t := ab_tri (fv .f64 s) V
  have n := ab_nonneg V
  have hb : ab (fv .f64 s) ≤ S + S / 2 ^ 51 + 1 / 2 ^ 197 := by grind
  have htop : ab (fv .f64 s) ≤ top .f32 := by grind
  have h := (nar_ok fs htop).2
  have e := h.2.1
  rw [u1] at e
  have t2 := ab_add (fv .f32 (nar s) - fv .f64 s) (fv .f64 s - V)
  rw [show fv .f32 (nar s) - fv .f64 s + (fv .f64 s - V) = fv .f32 (nar s) - V by grind] at t2
  have t3 := ab_tri (fv .f32 (nar s)) V
  subst hr
  exact ⟨htop, h.1, by grind, by grind⟩
theorem add_err {r g : Nat} {V G S W : Rat} (fr : fin .f32 r) (fg : fin .f32 g) (hr : ab (fv .f32 r - V) ≤ S * (1 / 2 ^ 24) + S / 2 ^ 16 * (1 / 2 ^ 24) + 1 / 2 ^ 149 * 4) (hV : ab V ≤ S) (br : ab (fv .f32 r) ≤ 2 ^ 104)
    (hg : ab (fv .f32 g - G) ≤ 1 / 2 ^ 24 * ab G + 1 / 2 ^ 149) (hG : ab G ≤ W) (bg : ab (fv .f32 g) ≤ 2 ^ 18) :
    fin .f32 (fo .add .f32 r g) ∧ ab (fv .f32 (fo .add .f32 r g) - (V + G)) ≤ (S + W) / 2 ^ 22 + 1 / 2 ^ 146 := by
  obtain ⟨u1, u2, _⟩ := consts32
  have ht2 := top32
  have t := ab_add (fv .f32 r) (fv .f32 g)
  have h := add_spec fr fg (by grind)
  have e := h.2.1
  rw [u1] at e
  have nV := ab_nonneg V
  have nG := ab_nonneg G
  have k := err_add (μ := 1 / 2 ^ 24) (τ := 1 / 2 ^ 149) (by grind) (by grind) (by grind) hr hV hg hG (z := fv .f32 (fo .add .f32 r g)) (by grind) (by grind) (by grind)
  exact ⟨h.1, by grind⟩
theorem s32_step {m : MW} {s : Nat × Nat} {x : Nat} {R : Rat} (hm : ModeOk m.1 m.2.1 m.2.2.1 m.2.2.2) (f1 : fin .f32 s.1) (f2 : fin .f32 s.2) (w1 : wfk .f32 s.1) (w2 : wfk .f32 s.2)
    (hB : B2 (fv .f32 s.1) (fv .f32 s.2) R) (hR : R ≤ 2 ^ 100) (fx : fin .f32 x) (hx : ab (fv .f32 x) ≤ 128) :
    StepOk m s x ∧ ab (fv .f32 (stepW m s x).1 - exRe m (fv .f32 s.1) (fv .f32 s.2) (fv .f32 x)) ≤ (R * rho + gam m * ab (fv .f32 x)) / 2 ^ 22 + 1 / 2 ^ 146 ∧
      ab (fv .f32 (stepW m s x).2 - exIm m (fv .f32 s.1) (fv .f32 s.2) (fv .f32 x)) ≤ (R * rho + gam m * ab (fv .f32 x)) / 2 ^ 22 + 1 / 2 ^ 146 := by
  obtain ⟨a1, a2⟩ := wid_fin f1
  obtain ⟨b1, b2⟩ := wid_fin f2
  have c2 := (wid_fin (fin_of_wid hm.fa)).2
  have d2 := (wid_fin (fin_of_wid hm.fb)).2
  have hP := hm.ball
  obtain ⟨S1, S2⟩ := hB.prods hP
  obtain ⟨t1, t2, t3, t4⟩ := times64 a1 b1 hm.fa hm.fb (by rw [a2, b2]; exact hB) (by rw [c2, d2]; exact hP) hR
  rw [a2, b2, c2, d2] at t3 t4
  have hS : R * rho ≤ 2 ^ 102 := by
    have := hB.1
    unfold rho; grind
  have v1 := ab_add (fv .f32 s.1 * fv .f32 m.1) (-(fv .f32 s.2 * fv .f32 m.2.1))
  rw [ab_neg] at v1
  have v2 := ab_add (fv .f32 s.1 * fv .f32 m.2.1) (fv .f32 s.2 * fv .f32 m.1)
  obtain ⟨p1, p2, p3, p4⟩ := nar_err t1 t3 (by grind) hS (rfl : sRe s.1 s.2 m.1 m.2.1 = _)
  obtain ⟨q1, q2, q3, q4⟩ := nar_err t2 t4 (by grind) hS (rfl : sIm s.1 s.2 m.1 m.2.1 = _)
  obtain ⟨g1, g2, g3⟩ := gain_err (fin_of_wid hm.fc) fx (gain_le hm.fc hm.gain.1) hx
  obtain ⟨h1, h2, h3⟩ := gain_err (fin_of_wid hm.fd) fx (gain_le hm.fd hm.gain.2) hx
  have n1 := ab_nonneg (fv .f32 m.2.2.1)
  have n2 := ab_nonneg (fv .f32 m.2.2.2)
  have n3 := ab_nonneg (fv .f32 x)
  have W1 : ab (fv .f32 m.2.2.1 * fv .f32 x) ≤ gam m * ab (fv .f32 x) := by
    rw [ab_mul]; exact Rat.mul_le_mul_of_nonneg_right (by unfold gam; grind) n3
  have W2 : ab (fv .f32 m.2.2.2 * fv .f32 x) ≤ gam m * ab (fv .f32 x) := by
    rw [ab_mul]; exact Rat.mul_le_mul_of_nonneg_right (by unfold gam; grind) n3
  obtain ⟨z1, z2⟩ := add_err p2 g1 p3 (by grind) p4 g2 W1 g3
  obtain ⟨y1, y2⟩ := add_err q2 h1 q3 (by grind) q4 h2 W2 h3
  refine ⟨⟨⟨t1, t2, p1, q1⟩, w1, w2, g1, h1, z1, y1⟩, ?_, ?_⟩
  · have e : exRe m (fv .f32 s.1) (fv .f32 s.2) (fv .f32 x) = fv .f32 s.1 * fv .f32 m.1 + -(fv .f32 s.2 * fv .f32 m.2.1) + fv .f32 m.2.2.1 * fv .f32 x := by unfold exRe; grind
    rw [e]; exact z2
  · exact y2
theorem gain64 {g x : Nat} (fg : fin .f64 g) (fx : fin .f64 x) (hg : ab (fv .f64 g) ≤ 1024) (hx : ab (fv .f64 x) ≤ 128) :
    fin .f64 (fo .mul .f64 g x) ∧ ab (fv .f64 (fo .mul .f64 g x) - fv .f64 g * fv .f64 x) ≤ 1 / 2 ^ 51 * ab (fv .f64 g * fv .f64 x) + 1 / 2 ^ 199 ∧ ab (fv .f64 (fo .mul .f64 g x)) ≤ 2 ^ 18 := by
  obtain ⟨k1, k2, k3⟩ := consts64
  have h1 := Rat.mul_le_mul_of_nonneg_left hx (ab_nonneg (fv .f64 g))
  have h2 : ab (fv .f64 g * fv .f64 x) ≤ 2 ^ 17 := by rw [ab_mul]; grind
  have hm := mul_spec fg fx (by grind)
  have e := hm.2.1
  rw [k1] at e
  have n := ab_nonneg (fv .f64 g * fv .f64 x)
  have t := ab_tri (fv .f64 (fo .mul .f64 g x)) (fv .f64 g * fv .f64 x)
  exact ⟨hm.1, by grind, by grind⟩
theorem add64_err {r g : Nat} {V G S W : Rat} (fr : fin .f64 r) (fg : fin .f64 g) (hr : ab (fv .f64 r - V) ≤ S / 2 ^ 51 + 1 / 2 ^ 197) (hV : ab V ≤ S) (hS : S ≤ 2 ^ 102)
    (hg : ab (fv .f64 g - G) ≤ 1 / 2 ^ 51 * ab G + 1 / 2 ^ 199) (hG : ab G ≤ W) (bg : ab (fv .f64 g) ≤ 2 ^ 18) :
    fin .f64 (fo .add .f64 r g) ∧ ab (fv .f64 (fo .add .f64 r g) - (V + G)) ≤ (S + W) / 2 ^ 49 + 1 / 2 ^ 196 := by
  obtain ⟨k1, k2, k3⟩ := consts64
  have nV := ab_nonneg V
  have nG := ab_nonneg G
  have t0 := ab_tri (fv .f64 r) V
  have t := ab_add (fv .f64 r) (fv .f64 g)
  have n := ab_nonneg (fv .f64 r + fv .f64 g)
  have h := add_spec fr fg (by grind)
  have e := h.2.1
  rw [k1] at e
  have k := err_add (μ := 1 / 2 ^ 51) (τ := 1 / 2 ^ 199) (S := S) (by grind) (by grind) (by grind) (r := fv .f64 r) (V := V) (by grind) hV hg hG (z := fv .f64 (fo .add .f64 r g)) (by grind) (by grind) (by grind)
  exact ⟨h.1, by grind⟩
theorem s64_step {m : MW} {s : CW} {x : Nat} {R : Rat} (hm : ModeOk m.1 m.2.1 m.2.2.1 m.2.2.2) (f1 : fin .f64 s.1) (f2 : fin .f64 s.2)
    (hB : B2 (fv .f64 s.1) (fv .f64 s.2) R) (hR : R ≤ 2 ^ 100) (fx : fin .f32 x) (hx : ab (fv .f32 x) ≤ 128) :
    fin .f64 (stepD (widM m) s (wid x)).1 ∧ fin .f64 (stepD (widM m) s (wid x)).2 ∧
      ab (fv .f64 (stepD (widM m) s (wid x)).1 - exRe m (fv .f64 s.1) (fv .f64 s.2) (fv .f32 x)) ≤ (R * rho + gam m * ab (fv .f32 x)) / 2 ^ 49 + 1 / 2 ^ 196 ∧
      ab (fv .f64 (stepD (widM m) s (wid x)).2 - exIm m (fv .f64 s.1) (fv .f64 s.2) (fv .f32 x)) ≤ (R * rho + gam m * ab (fv .f32 x)) / 2 ^ 49 + 1 / 2 ^ 196 := by
  have c2 := (wid_fin (fin_of_wid hm.fa)).2
  have d2 := (wid_fin (fin_of_wid hm.fb)).2
  have gc := (wid_fin (fin_of_wid hm.fc)).2
  have gd := (wid_fin (fin_of_wid hm.fd)).2
  obtain ⟨x1, x2⟩ := wid_fin fx
  have hP := hm.ball
  obtain ⟨S1, S2⟩ := hB.prods hP
  obtain ⟨t1, t2, t3, t4⟩ := times64 f1 f2 hm.fa hm.fb hB (by rw [c2, d2]; exact hP) hR
  rw [c2, d2] at t3 t4
  have hS : R * rho ≤ 2 ^ 102 := by
    have := hB.1
    unfold rho; grind
  have v1 := ab_add (fv .f64 s.1 * fv .f32 m.1) (-(fv .f64 s.2 * fv .f32 m.2.1))
  rw [ab_neg] at v1
  have v2 := ab_add (fv .f64 s.1 * fv .f32 m.2.1) (fv .f64 s.2 * fv .f32 m.1)
  obtain ⟨g1, g2, g3⟩ := gain64 hm.fc x1 (by rw [gc]; exact gain_le hm.fc hm.gain.1) (by rw [x2]; exact hx)
  obtain ⟨h1, h2, h3⟩ := gain64 hm.fd x1 (by rw [gd]; exact gain_le hm.fd hm.gain.2) (by rw [x2]; exact hx)
  rw [gc, x2] at g2
  rw [gd, x2] at h2
  have n1 := ab_nonneg (fv .f32 m.2.2.1)
  have n2 := ab_nonneg (fv .f32 m.2.2.2)
  have n3 := ab_nonneg (fv .f32 x)
  have W1 : ab (fv .f32 m.2.2.1 * fv .f32 x) ≤ gam m * ab (fv .f32 x) := by
    rw [ab_mul]; exact Rat.mul_le_mul_of_nonneg_right (by unfold gam; grind) n3
  have W2 : ab (fv .f32 m.2.2.2 * fv .f32 x) ≤ gam m * ab (fv .f32 x) := by
    rw [ab_mul]; exact Rat.mul_le_mul_of_nonneg_right (by unfold gam; grind) n3
  obtain ⟨z1, z2⟩ := add64_err t1 g1 t3 (by grind) hS g2 W1 g3
  obtain ⟨y1, y2⟩ := add64_err t2 h1 t4 (by grind) hS h2 W2 h3
  refine ⟨z1, y1, ?_, y2⟩
  have e : exRe m (fv .f64 s.1) (fv .f64 s.2) (fv .f32 x) = fv .f64 s.1 * fv .f32 m.1 + -(fv .f64 s.2 * fv .f32 m.2.1) + fv .f32 m.2.2.1 * fv .f32 x := by unfold exRe; grind
  rw [e]; exact z2
end Go.Proofs.Ytignncjmbcdpaaa

/-
The states in single precision stay near those in double precision. (Plain arithmetic.)
-/
namespace Go.Proofs.Ytignncjmbcdpaaa
open Go Ieee

/-- After t steps, where the gain times what came in is U. -/
structure Near (s : Nat × Nat) (S : CW) (t U : Rat) : Prop where
  f1 : fin .f32 s.1
  f2 : fin .f32 s.2
  w1 : wfk .f32 s.1
  w2 : wfk .f32 s.2
  F1 : fin .f64 S.1
  F2 : fin .f64 S.2
  b1 : B2 (fv .f32 s.1) (fv .f32 s.2) (U + t * U / 2 ^ 20 + t / 2 ^ 130)
  b2 : B2 (fv .f64 S.1) (fv .f64 S.2) (U + t * U / 2 ^ 20 + t / 2 ^ 130)
  b3 : B2 (fv .f32 s.1 - fv .f64 S.1) (fv .f32 s.2 - fv .f64 S.2) (t * U * (9 / 8) / 2 ^ 21 + t / 2 ^ 120)
theorem near_zero : Near (0, 0) (0, 0) 0 0 := by
  obtain ⟨z1, z2⟩ := zero_fin .f32
  obtain ⟨y1, y2⟩ := zero_fin .f64
  have e : (0 : Rat) + 0 * 0 / 2 ^ 20 + 0 / 2 ^ 130 = 0 := by grind
  have e' : (0 : Rat) * 0 * (9 / 8) / 2 ^ 21 + 0 / 2 ^ 120 = 0 := by grind
  refine ⟨z1, z1, by show (0 : Nat) < 4294967296; omega, by show (0 : Nat) < 4294967296; omega, y1, y1, ?_, ?_, ?_⟩
  · show B2 (fv .f32 0) (fv .f32 0) _
    rw [e, z2]; exact B2.zero
  · show B2 (fv .f64 0) (fv .f64 0) _
    rw [e, y2]; exact B2.zero
  · show B2 (fv .f32 0 - fv .f64 0) (fv .f32 0 - fv .f64 0) _
    rw [e', z2, y2]
    have : (0 : Rat) - 0 = 0 := by grind
    rw [this]; exact B2.zero
theorem ball_of {x y a b R e : Rat} (h : B2 a b R) (hx : ab (x - a) ≤ e) (hy : ab (y - b) ≤ e) : B2 x y (R + e * (3 / 2)) := by
  have := h.add (B2.box hx hy)
  rw [show a + (x - a) = x by grind, show b + (y - b) = y by grind] at this
  exact this
theorem near_step {m : MW} {s : Nat × Nat} {S : CW} {x : Nat} {t U : Rat} (hm : ModeOk m.1 m.2.1 m.2.2.1 m.2.2.2) (h : Near s S t U) (fx : fin .f32 x) (hx : ab (fv .f32 x) ≤ 128) (ht : 0 ≤ t) (ht2 : t ≤ 300) (hU : 0 ≤ U) (hU2 : U ≤ 2 ^ 60) :
    StepOk m s x ∧ Near (stepW m s x) (stepD (widM m) S (wid x)) (t + 1) (U + gam m * ab (fv .f32 x)) := by
  obtain ⟨W, hW⟩ : ∃ W, gam m * ab (fv .f32 x) = W := ⟨_, rfl⟩
  have hW0 : 0 ≤ W := by rw [← hW]; exact Rat.mul_nonneg (gam_nonneg m) (ab_nonneg _)
  have tU0 := Rat.mul_nonneg ht hU
  have tW0 := Rat.mul_nonneg ht hW0
  have tU1 : t * U ≤ 300 * U := Rat.mul_le_mul_of_nonneg_right ht2 hU
  have tW1 : t * W ≤ 300 * W := Rat.mul_le_mul_of_nonneg_right ht2 hW0
  obtain ⟨R, hR⟩ : ∃ R, U + t * U / 2 ^ 20 + t / 2 ^ 130 = R := ⟨_, rfl⟩
  obtain ⟨E, hE⟩ : ∃ E, t * U * (9 / 8) / 2 ^ 21 + t / 2 ^ 120 = E := ⟨_, rfl⟩
  have b1 := h.b1
  have b2 := h.b2
  have b3 := h.b3
  rw [hR] at b1 b2
  rw [hE] at b3
  have hRb : R ≤ 2 ^ 100 := by grind
  obtain ⟨so, e1, e2⟩ := s32_step hm h.f1 h.f2 h.w1 h.w2 b1 hRb fx hx
  obtain ⟨G1, G2, e3, e4⟩ := s64_step hm h.F1 h.F2 b2 hRb fx hx
  have x1 := ex_ball (x := fv .f32 x) hm b1
  have x2 := ex_ball (x := fv .f32 x) hm b2
  rw [hW] at e1 e2 e3 e4 x1 x2
  have r0 : R * rho = R + R / 2 ^ 40 := by unfold rho; grind
  rw [r0] at e1 e2 e3 e4 x1 x2
  have y1 := ball_of x1 e1 e2
  have y2 := ball_of x2 e3 e4
  have d := b3.mul hm.ball
  have r1 : E * rho = E + E / 2 ^ 40 := by unfold rho; grind
  rw [r1] at d
  have d1 : B2 (exRe m (fv .f32 s.1) (fv .f32 s.2) (fv .f32 x) - exRe m (fv .f64 S.1) (fv .f64 S.2) (fv .f32 x)) (exIm m (fv .f32 s.1) (fv .f32 s.2) (fv .f32 x) - exIm m (fv .f64 S.1) (fv .f64 S.2) (fv .f32 x)) (E + E / 2 ^ 40) := by
    have q1 : exRe m (fv .f32 s.1) (fv .f32 s.2) (fv .f32 x) - exRe m (fv .f64 S.1) (fv .f64 S.2) (fv .f32 x) = (fv .f32 s.1 - fv .f64 S.1) * fv .f32 m.1 - (fv .f32 s.2 - fv .f64 S.2) * fv .f32 m.2.1 := by unfold exRe; grind
    have q2 : exIm m (fv .f32 s.1) (fv .f32 s.2) (fv .f32 x) - exIm m (fv .f64 S.1) (fv .f64 S.2) (fv .f32 x) = (fv .f32 s.1 - fv .f64 S.1) * fv .f32 m.2.1 + (fv .f32 s.2 - fv .f64 S.2) * fv .f32 m.1 := by unfold exIm; grind
    rw [q1, q2]; exact d
  have d2 := d1.add ((B2.box e1 e2).add (B2.box e3 e4).neg)
  have hN : Near (stepW m s x) (stepD (widM m) S (wid x)) (t + 1) (U + W) := by
    refine ⟨so.n1, so.n2, fo_lt _ _ _ _, fo_lt _ _ _ _, G1, G2, y1.le ?_, y2.le ?_, ?_⟩
    · rw [← hR]; grind
    · rw [← hR]; grind
    · have e5 : ∀ a b c d : Rat, a - c + ((b - a) + -(d - c)) = b - d := fun a b c d => by grind
      rw [e5, e5] at d2
      refine d2.le ?_
      rw [← hR, ← hE]
      grind
  rw [hW]
  exact ⟨so, hN⟩
end Go.Proofs.Ytignncjmbcdpaaa

/-
The outputs in single precision stay near those in double precision. (Plain arithmetic.)
-/
namespace Go.Proofs.Ytignncjmbcdpaaa
open Go Ieee

/-- Inputs that are finite and at most 128. -/
def LowX (xs : List Nat) : Prop := ∀ i, i < xs.length → fin .f32 (xs.getD i 0) ∧ ab (fv .f32 (xs.getD i 0)) ≤ 128
theorem LowX.at_ {xs : List Nat} (h : LowX xs) (i : Nat) : fin .f32 (inAt xs i) ∧ ab (fv .f32 (inAt xs i)) ≤ 128 := by
  unfold inAt
  split
  · exact h i ‹_›
  · obtain ⟨z1, z2⟩ := zero_fin .f32
    exact ⟨z1, by rw [z2, ab_of_nonneg Rat.le_refl]; grind⟩
/-- The sum of the sizes of the first i inputs. -/
def sumIn (xs : List Nat) : Nat → Rat
  | 0 => 0
  | i + 1 => sumIn xs i + ab (fv .f32 (inAt xs i))
theorem sumIn_nonneg (xs : List Nat) (i : Nat) : 0 ≤ sumIn xs i := by
  induction i with
  | zero => exact Rat.le_refl
  | succ i ih =>
    have := ab_nonneg (fv .f32 (inAt xs i))
    show 0 ≤ sumIn xs i + _
    grind
theorem sumIn_mono (xs : List Nat) {i j : Nat} (h : i ≤ j) : sumIn xs i ≤ sumIn xs j := by
  induction j with
  | zero =>
    obtain rfl : i = 0 := by omega
    exact Rat.le_refl
  | succ j ih =>
    rcases Nat.lt_or_ge j i with h1 | h1
    · obtain rfl : i = j + 1 := by omega
      exact Rat.le_refl
    · have := ab_nonneg (fv .f32 (inAt xs j))
      have h2 := ih h1
      show _ ≤ sumIn xs j + _
      grind
theorem sumIn_le {xs : List Nat} (h : LowX xs) (i : Nat) : sumIn xs i ≤ (i : Rat) * 128 := by
  induction i with
  | zero => show (0 : Rat) ≤ _; simp
  | succ i ih =>
    have := (h.at_ i).2
    have e : ((i + 1 : Nat) : Rat) = (i : Rat) + 1 := by simp
    rw [e]
    show sumIn xs i + _ ≤ _
    grind
theorem gam_le {m : MW} (hm : ModeOk m.1 m.2.1 m.2.2.1 m.2.2.2) : gam m ≤ 2048 := by
  have h1 := gain_le hm.fc hm.gain.1
  have h2 := gain_le hm.fd hm.gain.2
  unfold gam; grind
theorem dAt_map {ms : List MW} {k : Nat} (hk : k < ms.length) : dAt (ms.map widM) k = widM (mAt ms k) := by
  simp [dAt, mAt, List.getD, hk]
theorem near_all {ms : List MW} {xs : List Nat} (hm : ModesOk ms) (hx : LowX xs) (i : Nat) (hi : i ≤ 300) : ∀ k, k < ms.length → Near (sAt (stAt ms xs i) k) (sAt (stD (ms.map widM) (inW xs) i) k) (i : Rat) (gam (mAt ms k) * sumIn xs i) := by
  induction i with
  | zero =>
    intro k hk
    have e0 : sAt (stAt ms xs 0) k = (0, 0) := by simp [stAt, sAt, List.getD, hk]
    have e1 : sAt (stD (ms.map widM) (inW xs) 0) k = (0, 0) := by simp [stD, sAt, List.getD, hk]
    have e2 : gam (mAt ms k) * sumIn xs 0 = 0 := by show _ * (0 : Rat) = 0; grind
    have e3 : ((0 : Nat) : Rat) = 0 := by simp
    rw [e0, e1, e2, e3]
    exact near_zero
  | succ i ih =>
    intro k hk
    have h := ih (by omega) k hk
    have e : sAt (stAt ms xs (i + 1)) k = stepW (mAt ms k) (sAt (stAt ms xs i) k) (inAt xs i) := nextS_at (by rw [stAt_len]; exact hk)
    have e1 : sAt (stD (ms.map widM) (inW xs) (i + 1)) k = stepD (widM (mAt ms k)) (sAt (stD (ms.map widM) (inW xs) i) k) (wid (inAt xs i)) := by
      have := nextD_at (ms := ms.map widM) (x := inW xs i) (i := k) (ss := stD (ms.map widM) (inW xs) i) (by rw [stD_len]; simpa using hk)
      rw [dAt_map hk] at this
      exact this
    have e2 : gam (mAt ms k) * sumIn xs (i + 1) = gam (mAt ms k) * sumIn xs i + gam (mAt ms k) * ab (fv .f32 (inAt xs i)) := by
      show _ * (sumIn xs i + _) = _
      grind
    have e3 : ((i + 1 : Nat) : Rat) = (i : Rat) + 1 := by simp
    rw [e, e1, e2, e3]
    obtain ⟨x1, x2⟩ := hx.at_ i
    have g1 := gam_nonneg (mAt ms k)
    have g2 : gam (mAt ms k) ≤ 2048 := gam_le (hm.at_ hk)
    have s1 := sumIn_nonneg xs i
    have s2 := sumIn_le hx i
    have i1 : (i : Rat) ≤ 300 := by
      have := Rat.natCast_le_natCast.2 (show i ≤ 300 by omega)
      simpa using this
    have i0 : (0 : Rat) ≤ (i : Rat) := Rat.natCast_nonneg
    have u1 := mul_mono g2 (show sumIn xs i ≤ 38400 by grind) g1 (by grind)
    exact (near_step (hm.at_ hk) h x1 x2 i0 i1 (Rat.mul_nonneg g1 s1) (by grind)).2
theorem calm_x {ms : List MW} {xs : List Nat} (hm : ModesOk ms) (hx : LowX xs) (n : Nat) (hn : n ≤ 300) : Calm ms xs n := fun i hi k hk => by
  have h := near_all hm hx i (by omega) k hk
  obtain ⟨x1, x2⟩ := hx.at_ i
  have g1 := gam_nonneg (mAt ms k)
  have g2 : gam (mAt ms k) ≤ 2048 := gam_le (hm.at_ hk)
  have s1 := sumIn_nonneg xs i
  have s2 := sumIn_le hx i
  have i1 : (i : Rat) ≤ 300 := by
    have := Rat.natCast_le_natCast.2 (show i ≤ 300 by omega)
    simpa using this
  have i0 : (0 : Rat) ≤ (i : Rat) := Rat.natCast_nonneg
  have u1 := mul_mono g2 (show sumIn xs i ≤ 38400 by grind) g1 (by grind)
  exact (near_step (hm.at_ hk) h x1 x2 i0 i1 (Rat.mul_nonneg g1 s1) (by grind)).1
/-- The sum of the sizes of the first k gains. -/
def gsum (ms : List MW) : Nat → Rat
  | 0 => 0
  | k + 1 => gsum ms k + gam (mAt ms k)
theorem gsum_nonneg (ms : List MW) (k : Nat) : 0 ≤ gsum ms k := by
  induction k with
  | zero => exact Rat.le_refl
  | succ k ih =>
    have := gam_nonneg (mAt ms k)
    show 0 ≤ gsum ms k + _
    grind
/-- Sums of k outputs after t steps. -/
structure NearO (o O : Nat) (k t V : Rat) : Prop where
  f : fin .f32 o
  w : wfk .f32 o
  F : fin .f64 O
  W : wfk .f64 O
  b1 : ab (fv .f32 o) ≤ V + V / 2 ^ 10 + k * V / 2 ^ 20 + k / 2 ^ 110
  b2 : ab (fv .f64 O) ≤ V + V / 2 ^ 10 + k * V / 2 ^ 20 + k / 2 ^ 110
  b3 : ab (fv .f32 o - fv .f64 O) ≤ t * V * (9 / 8) / 2 ^ 21 + k * V / 2 ^ 22 + k / 2 ^ 110
theorem tiny64 {x y T E : Rat} (h : x ≤ 1 / 2 ^ 53 * y + E) (hy : y ≤ T * 2 + 1 / 2 ^ 100) (hE : E ≤ 1 / 2 ^ 200) (hT : 0 ≤ T) : x ≤ T / 2 ^ 50 + 1 / 2 ^ 130 := by grind
theorem tiny32 {x y T E : Rat} (h : x ≤ 1 / 16777216 * y + E) (hy : y ≤ T * 2 + 1 / 2 ^ 100) (hE : E ≤ 1 / 2 ^ 149) (hT : 0 ≤ T) : x ≤ T / 2 ^ 23 + 1 / 2 ^ 120 := by grind
theorem out_final {t V U k : Rat} (ht2 : t ≤ 300) (hV : 0 ≤ V) (hU : 0 ≤ U) (kU0 : 0 ≤ k * U) :
    (V + U) / 2 ^ 23 + 1 / 2 ^ 120 + (t * V * (9 / 8) / 2 ^ 21 + k * V / 2 ^ 22 + k / 2 ^ 110 + (t * U * (9 / 8) / 2 ^ 21 + t / 2 ^ 120)) + ((V + U) / 2 ^ 50 + 1 / 2 ^ 130) ≤
      t * (V + U) * (9 / 8) / 2 ^ 21 + (k + 1) * (V + U) / 2 ^ 22 + (k + 1) / 2 ^ 110 := by grind
theorem chain4 {z a b c d e f g h i R : Rat} (d3 : z ≤ a + e) (d1 : a ≤ b + c) (d2 : c ≤ d + f) (e3 : b ≤ g) (e4 : e ≤ h) (b3 : d ≤ i) (s3 : f ≤ R) {T : Rat} (hf : g + (i + R) + h ≤ T) : z ≤ T := by grind
theorem nearO_step {o O : Nat} {s : Nat × Nat} {S : CW} {k t V U : Rat} (h : NearO o O k t V) (g : Near s S t U) (hk : 0 ≤ k) (hk2 : k ≤ 16) (ht : 0 ≤ t) (ht2 : t ≤ 300) (hV : 0 ≤ V) (hV2 : V ≤ 2 ^ 60) (hU : 0 ≤ U) (hU2 : U ≤ 2 ^ 60) :
    NearO (fo .add .f32 o s.1) (fo .add .f64 O S.1) (k + 1) t (V + U) := by
  have kV0 := Rat.mul_nonneg hk hV
  have kU0 := Rat.mul_nonneg hk hU
  have tU0 := Rat.mul_nonneg ht hU
  have kV1 : k * V ≤ 16 * V := Rat.mul_le_mul_of_nonneg_right hk2 hV
  have tU1 : t * U ≤ 300 * U := Rat.mul_le_mul_of_nonneg_right ht2 hU
  have s1 := g.b1.parts.1
  have s2 := g.b2.parts.1
  have s3 := g.b3.parts.1
  have b1 := h.b1
  have b2 := h.b2
  have b3 := h.b3
  obtain ⟨u1, u2, _⟩ := consts32
  obtain ⟨k1, k2, k3⟩ := consts64
  have ht3 := top32
  have t1 := ab_add (fv .f32 o) (fv .f32 s.1)
  have t2 := ab_add (fv .f64 O) (fv .f64 S.1)
  have a1 := add_spec h.f g.f1 (by grind)
  have a2 := add_spec h.F g.F1 (by grind)
  have e1 := a1.2.1
  have e2 := a2.2.1
  rw [u1] at e1
  rw [k1] at e2
  have r1 := ab_tri (fv .f32 (fo .add .f32 o s.1)) (fv .f32 o + fv .f32 s.1)
  have r2 := ab_tri (fv .f64 (fo .add .f64 O S.1)) (fv .f64 O + fv .f64 S.1)
  refine ⟨a1.1, fo_lt _ _ _ _, a2.1, fo_lt _ _ _ _, by grind, by grind, ?_⟩
  have d1 := ab_add (fv .f32 (fo .add .f32 o s.1) - (fv .f32 o + fv .f32 s.1)) ((fv .f32 o - fv .f64 O) + (fv .f32 s.1 - fv .f64 S.1))
  have d2 := ab_add (fv .f32 o - fv .f64 O) (fv .f32 s.1 - fv .f64 S.1)
  have d3 := ab_add (fv .f32 (fo .add .f32 o s.1) - (fv .f32 o + fv .f32 s.1) + ((fv .f32 o - fv .f64 O) + (fv .f32 s.1 - fv .f64 S.1))) (-(fv .f64 (fo .add .f64 O S.1) - (fv .f64 O + fv .f64 S.1)))
  rw [ab_neg] at d3
  rw [show fv .f32 (fo .add .f32 o s.1) - (fv .f32 o + fv .f32 s.1) + ((fv .f32 o - fv .f64 O) + (fv .f32 s.1 - fv .f64 S.1)) + -(fv .f64 (fo .add .f64 O S.1) - (fv .f64 O + fv .f64 S.1)) = fv .f32 (fo .add .f32 o s.1) - fv .f64 (fo .add .f64 O S.1) by grind] at d3
  have q1 : ab (fv .f32 o + fv .f32 s.1) ≤ (V + U) * 2 + 1 / 2 ^ 100 := by clear d1 d2 d3 e1 e2 r1 r2; grind
  have q2 : ab (fv .f64 O + fv .f64 S.1) ≤ (V + U) * 2 + 1 / 2 ^ 100 := by clear d1 d2 d3 e1 e2 r1 r2; grind
  have e3 := tiny32 e1 q1 u2 (by grind)
  have e4 := tiny64 e2 q2 k2 (by grind)
  have hf := out_final (k := k) ht2 hV hU kU0
  clear a1 a2 u1 u2 k1 k2 k3 ht3 t1 t2 e1 e2 r1 r2 q1 q2 s1 s2 b1 b2
  exact chain4 d3 d1 d2 e3 e4 b3 s3 hf
end Go.Proofs.Ytignncjmbcdpaaa

/-
impl.NarrowNumber at the widened words of a valid mode gives the words back.
-/
namespace Go.Proofs.Ytignncjmbcdpaaa
open Go Go.RowKit Ieee

theorem nar_wid {b : Nat} (h : wfk .f32 b) (hf : fin .f32 b) : nar (wid b) = b := by
  unfold nar
  rw [narrow_wid h (fin_num hf)]
  rfl
theorem narrowWid_any (a b : Nat) (w : World) (wa : wfk .f32 a) (wb : wfk .f32 b) (fa : fin .f64 (wid a)) (fb : fin .f64 (wid b)) (ta : ab (fv .f64 (wid a)) ≤ top .f32) (tb : ab (fv .f64 (wid b)) ≤ top .f32) :
    Calls Try.prog 111 #[.complex .f64 (wid a) (wid b)] w fun e w' => ∃ n, e = .returned (.complex .f32 a b) ∧ w.drewN n = w' := by
  have h := implNarrow_any (wid a) (wid b) w fa fb ta tb
  rw [nar_wid wa (fin_of_wid fa), nar_wid wb (fin_of_wid fb)] at h
  exact h
end Go.Proofs.Ytignncjmbcdpaaa

/-
Narrowing a number that is not greater than 1 turns it by 2^-25 at most. (Plain arithmetic: no program stands here.)
-/
namespace Go.Proofs.Ytignncjmbcdpaaa
open Go Ieee

theorem nOne32 : fin .f32 1065353216 ∧ fv .f32 1065353216 = 1 := by
  have h : FloatKind.f32.format.read 1065353216 = .number false 8388608 (-23) := by decide +kernel
  refine ⟨⟨_, _, _, h⟩, ?_⟩
  unfold fv
  rw [h, dval_num]
  unfold mval pw
  simp only [Bool.false_eq_true, if_false]
  grind
theorem half_small {mag : Nat} {place : Int} (h0 : mag ≠ 0) (h : mval mag place < 1) : half FloatKind.f32.format mag place ≤ pw (-25) := by
  have h1 : mval (2 ^ mag.log2) place ≤ mval mag place := mval_le (Nat.log2_self_le h0)
  have h2 : mval (2 ^ mag.log2) place = pw (place + mag.log2) := by
    unfold mval; rw [← pw_nat, ← pw_add]; congr 1; omega
  have h3 : place + mag.log2 ≤ -1 := by
    rcases Int.lt_or_le (-1) (place + mag.log2) with hlt | hle
    · exfalso
      have := pw_mono (show (0 : Int) ≤ place + mag.log2 by omega)
      rw [pw_zero] at this
      grind
    · exact hle
  have h4 : lastOf FloatKind.f32.format mag place ≤ -24 := by
    unfold lastOf
    have e1 : (FloatKind.f32.format.fractionBits : Int) = 23 := by decide +kernel
    have e2 : FloatKind.f32.format.leastPlace = -149 := by decide +kernel
    rw [e1, e2]; omega
  have h5 := pw_mono h4
  have h6 : pw (-24) = 2 * pw (-25) := by rw [show (-24 : Int) = -25 + 1 by decide, pw_succ]
  unfold half
  grind
/-- What narrowing gives is near. -/
theorem narrow_half {b : Nat} (hb : fin .f64 b) (h : ab (fv .f64 b) ≤ 1) : ∃ r, floatToFloatBits .f64 b .f32 = some r ∧ fin .f32 r ∧ ab (fv .f64 b - fv .f32 r) ≤ pw (-25) ∧ ab (fv .f32 r) ≤ 1 := by
  have ht : (1 : Rat) ≤ top .f32 := by have := pw_mono (show (0 : Int) ≤ 120 by omega); rwa [pw_zero] at this
  obtain ⟨r, hr, hR⟩ := narrow_spec hb (by grind)
  have hp := pw_pos (-25)
  obtain ⟨o1, o2⟩ := nOne32
  obtain ⟨n1, n2⟩ := neg_fin o1
  rw [o2] at n2
  have hfin : ab (fv .f32 r) ≤ 1 := by
    have k1 := (hR.2.2 _ o1).2 (by have := (le_ab (fv .f64 b)).1; grind)
    have k2 := (hR.2.2 _ n1).1 (by have := (le_ab (fv .f64 b)).2; grind)
    exact ab_le (by grind) (by grind)
  refine ⟨r, hr, hR.1, ?_, hfin⟩
  rcases rat_lt_or_le (ab (fv .f64 b)) 1 with hlt | hge
  · obtain ⟨s, m, e, hb⟩ := hb
    have hv : fv .f64 b = dval (.number s m e) := by unfold fv; rw [hb]
    rw [hv] at hlt hR ⊢
    rw [dval_ab] at hlt
    by_cases h0 : m = 0
    · subst h0
      have hd : dval (.number s 0 e) = 0 := by cases s <;> simp [dval, mval_zero]
      have hz := zero_fin .f32
      have := hR.exact hz.1 (by rw [hz.2, hd])
      rw [this]
      have e0 : dval (.number s 0 e) - dval (.number s 0 e) = 0 := by grind
      rw [e0, ab_of_nonneg Rat.le_refl]
      grind
    · have hB : Bears FloatKind.f32.format 0 := by unfold Bears; decide +kernel
      obtain ⟨m', e', hr', h1, h2, h3⟩ := nearest_spec FloatKind.f32.format s m e 0 h0 hB (by rw [pw_zero]; grind)
      have hrr : r = FloatKind.f32.format.nearest s m e := by
        have hd : FloatKind.f64.decode b = .number s m e := hb
        unfold floatToFloatBits at hr
        rw [if_neg (by decide), hd] at hr
        simp only at hr
        split at hr
        · cases hr
        · injection hr with hr; exact hr.symm
      have hh := half_small h0 hlt
      have hfr : fv .f32 r = dval (.number s m' e') := by unfold fv; rw [hrr]; rw [hr']
      rw [hfr]
      cases s
      · simp only [dval]; exact ab_le (by grind) (by grind)
      · simp only [dval]; exact ab_le (by grind) (by grind)
  · have h1 : ab (fv .f64 b) = 1 := by grind
    have hc : fv .f64 b = 1 ∨ fv .f64 b = -1 := by unfold ab at h1; grind
    have e0 : fv .f32 r = fv .f64 b := by
      rcases hc with hc | hc
      · rw [hR.exact o1 (by rw [o2, hc])]
      · rw [hR.exact n1 (by rw [n2, hc])]
    rw [e0]
    have : fv .f64 b - fv .f64 b = 0 := by grind
    rw [this, ab_of_nonneg Rat.le_refl]
    grind
end Go.Proofs.Ytignncjmbcdpaaa

/-
The parts of the pole of a valid wide mode are not greater than 1. (Plain arithmetic: no program stands here.)
-/
namespace Go.Proofs.Ytignncjmbcdpaaa
open Go Ieee

theorem wOne64 : fin .f64 4607182418800017408 ∧ fv .f64 4607182418800017408 = 1 := by
  have h : FloatKind.f64.format.read 4607182418800017408 = .number false 4503599627370496 (-52) := by decide +kernel
  refine ⟨⟨_, _, _, h⟩, ?_⟩
  unfold fv
  rw [h, dval_num]
  unfold mval pw
  simp only [Bool.false_eq_true, if_false]
  grind
theorem wNext64 : fin .f64 4607182418800017409 ∧ fv .f64 4607182418800017409 = 1 + pw (-52) := by
  have h : FloatKind.f64.format.read 4607182418800017409 = .number false 4503599627370497 (-52) := by decide +kernel
  refine ⟨⟨_, _, _, h⟩, ?_⟩
  unfold fv
  rw [h, dval_num]
  unfold mval pw
  simp only [Bool.false_eq_true, if_false]
  grind
/-- Between 1 and the next number there is none. -/
theorem wGap {m : Nat} {e : Int} (hm : m < 2 * FloatKind.f64.format.binade) (h : 1 < mval m e) : 1 + pw (-52) ≤ mval m e := by
  have hb : 2 * FloatKind.f64.format.binade = 2 ^ 53 := by decide +kernel
  rw [hb] at hm
  by_cases he : e < -52
  · exfalso
    have h1 : mval m e ≤ mval (2 ^ 53) e := mval_le (Nat.le_of_lt hm)
    have h2 : mval (2 ^ 53) e = pw (e + 53) := by
      have := mval_scale' 1 53 e
      rw [Nat.one_mul] at this
      rw [this]; unfold mval; grind
    have h3 : pw (e + 53) ≤ pw 0 := pw_mono (by omega)
    rw [pw_zero] at h3
    grind
  · obtain ⟨k, rfl⟩ : ∃ k : Nat, e = -52 + k := ⟨(e + 52).toNat, by omega⟩
    rw [← mval_scale'] at h ⊢
    generalize m * 2 ^ k = n at *
    have e1 : mval (2 ^ 52) (-52) = 1 := by unfold mval pw; grind
    have h1 : 2 ^ 52 < n := by
      rcases Nat.lt_or_ge (2 ^ 52) n with h2 | h2
      · exact h2
      · have := mval_le (e := -52) h2
        grind
    have h2 : mval (2 ^ 52 + 1) (-52) ≤ mval n (-52) := mval_le h1
    have h3 : mval (2 ^ 52 + 1) (-52) = 1 + pw (-52) := by unfold mval pw; grind
    grind

/-- An infinity, or a number not less than a bound. -/
def Ge (y : Rat) (r : Nat) : Prop := FloatKind.f64.format.read r = .infinity false ∨ (fin .f64 r ∧ y ≤ fv .f64 r)
theorem Ge.le {x y : Rat} {r : Nat} (h : Ge y r) (hx : x ≤ y) : Ge x r := by
  rcases h with h | ⟨h1, h2⟩
  · exact .inl h
  · exact .inr ⟨h1, by grind⟩
theorem wGeWrite {m : Nat} {e q : Int} (h0 : m ≠ 0) (hv : pw q ≤ mval m e) (hq : -1000 < q) : Ge (pw q) (FloatKind.f64.format.write (.number false m e)) := by
  show Ge _ (FloatKind.f64.format.nearest false m e)
  have e1 : FloatKind.f64.format.leastPlace + (FloatKind.f64.format.fractionBits : Int) = -1022 := by decide +kernel
  rcases nearest_big FloatKind.f64.format false m e q h0 hv (by rw [e1]; omega) with h3 | ⟨m2, e2, hr, hv⟩
  · left
    rw [h3]; exact inf_read
  · right
    refine ⟨⟨_, _, _, hr⟩, ?_⟩
    have e : fv .f64 (FloatKind.f64.format.nearest false m e) = mval m2 e2 := by unfold fv; rw [hr, dval_num]; rfl
    rw [e]; exact hv
theorem wTopGe : pw 20 ≤ top .f64 := pw_mono (show (20 : Int) ≤ 1000 by omega)
/-- A square. -/
theorem wGeSq {a : Nat} (ha : fin .f64 a) : Ge 0 (fo .mul .f64 a a) ∧ (1 < ab (fv .f64 a) → Ge (1 + pw (-52)) (fo .mul .f64 a a)) := by
  have p20 : pw 20 = 2 ^ 20 := by unfold pw; grind
  have p52 := pw_pos (-52)
  have p52' : pw (-52) ≤ 1 := by have := pw_mono (show (-52 : Int) ≤ 0 by omega); rwa [pw_zero] at this
  have h20 := wTopGe
  have q20 : 1 + pw (-52) ≤ pw 20 := by rw [p20]; grind
  have q0 : 0 ≤ pw 20 := by grind
  rcases rat_lt_or_le (pw 20) (ab (fv .f64 a * fv .f64 a)) with hb | hb
  · have hp20 := pw_pos 20
    obtain ⟨s, m, i, hr⟩ := ha
    have h2 := product_val s s m m i i
    have hs : (s ^^ s) = false := by cases s <;> rfl
    rw [hs] at h2
    have e : fo .mul .f64 a a = FloatKind.f64.format.write (.number false (m * m) (i + i)) := fo_some (by
      show ((FloatKind.f64.format.read a).product (FloatKind.f64.format.read a)).map FloatKind.f64.format.write = _
      rw [hr, ← hs]; rfl)
    have hv : fv .f64 a = dval (.number s m i) := by unfold fv; rw [hr]
    rw [hv, ← h2, dval_ab] at hb
    have h0 : m * m ≠ 0 := by
      intro h0
      rw [h0, mval_zero] at hb
      grind
    have := wGeWrite h0 (Rat.le_of_lt hb) (by omega)
    rw [e]
    exact ⟨this.le q0, fun _ => this.le q20⟩
  · have hR := mul_spec ha ha (by grind)
    have hnn : 0 ≤ fv .f64 a * fv .f64 a := by
      rcases Rat.le_total (a := 0) (b := fv .f64 a) with h | h
      · exact Rat.mul_nonneg h h
      · have := Rat.mul_nonneg (a := -fv .f64 a) (b := -fv .f64 a) (by grind) (by grind)
        grind
    have hz := zero_fin .f64
    refine ⟨.inr ⟨hR.1, ?_⟩, fun h1 => .inr ⟨hR.1, ?_⟩⟩
    · have := (hR.2.2 _ hz.1).1 (by rw [hz.2]; exact hnn)
      rwa [hz.2] at this
    · obtain ⟨n1, n2⟩ := wNext64
      have hg : 1 + pw (-52) ≤ ab (fv .f64 a) := by
        obtain ⟨s, m, i, hr⟩ := ha
        obtain ⟨b1, b2, b3, _⟩ := read_bounds FloatKind.f64.format (by decide +kernel) hr
        have hv : fv .f64 a = dval (.number s m i) := by unfold fv; rw [hr]
        rw [hv, dval_ab] at h1 ⊢
        exact wGap b2 h1
      have hsq : ab (fv .f64 a) * ab (fv .f64 a) = fv .f64 a * fv .f64 a := by
        rw [← ab_mul, ab_of_nonneg hnn]
      have hg2 : 1 + pw (-52) ≤ fv .f64 a * fv .f64 a := by
        rw [← hsq]
        have := Rat.mul_le_mul_of_nonneg_left hg (ab_nonneg (fv .f64 a))
        have hpp := Rat.mul_nonneg (ab_nonneg (fv .f64 a)) (Rat.le_of_lt p52)
        rw [Rat.mul_add, Rat.mul_one] at this
        grind
      have := (hR.2.2 _ n1).1 (by rw [n2]; exact hg2)
      rwa [n2] at this
theorem wInfNo (b : Nat) (h : FloatKind.f64.format.read b = .infinity false) : fle .f64 b 4607182418800017408 = false := by
  obtain ⟨⟨s, m, e, h1⟩, _⟩ := wOne64
  unfold fle Format.order
  rw [h, h1]; rfl
theorem wGeNo {b : Nat} {y : Rat} (h : Ge y b) (hy : 1 < y) : fle .f64 b 4607182418800017408 = false := by
  obtain ⟨o1, o2⟩ := wOne64
  rcases h with h | ⟨h1, h2⟩
  · exact wInfNo b h
  · cases hf : fle .f64 b 4607182418800017408
    · rfl
    · have := (fle_iff h1 o1).1 hf
      rw [o2] at this
      grind
/-- A sum of what is not less than 0. -/
theorem wGeSum {a b : Nat} {x z y : Rat} (ha : Ge x a) (hb : Ge z b) (hx : 0 ≤ x) (hz : 0 ≤ z) (hxz : y ≤ x + z) (hy : ∃ c, fin .f64 c ∧ fv .f64 c = y) (hy2 : y ≤ 2) : Ge y (fo .add .f64 a b) := by
  have p20 : pw 20 = 2 ^ 20 := by unfold pw; grind
  have q0 := pw_pos 20
  have q2 : y ≤ pw 20 := by rw [p20]; grind
  clear p20
  have h20 := wTopGe
  rcases ha with ha | ⟨ha, va⟩
  · left
    have : floatBits .add .f64 a b = some (FloatKind.f64.format.write (.infinity false)) := by
      show ((FloatKind.f64.format.read a).sum (FloatKind.f64.format.read b)).map FloatKind.f64.format.write = _
      rw [ha]
      rcases hb with hb | ⟨⟨s, m, e, hb⟩, _⟩ <;> rw [hb] <;> rfl
    rw [fo_some this]
    exact inf_read
  · rcases hb with hb | ⟨hb, vb⟩
    · left
      have : floatBits .add .f64 a b = some (FloatKind.f64.format.write (.infinity false)) := by
        show ((FloatKind.f64.format.read a).sum (FloatKind.f64.format.read b)).map FloatKind.f64.format.write = _
        obtain ⟨s, m, e, ha⟩ := ha
        rw [ha, hb]; rfl
      rw [fo_some this]
      exact inf_read
    · have hnn : 0 ≤ fv .f64 a + fv .f64 b := by grind
      rcases rat_lt_or_le (pw 20) (fv .f64 a + fv .f64 b) with hbig | hbig
      · obtain ⟨s, m, i, hra⟩ := ha
        obtain ⟨t, n, j, hrb⟩ := hb
        obtain ⟨s', m', e', h1, h2⟩ := sum_val s t m n i j
        have e1 : fv .f64 a = dval (.number s m i) := by unfold fv; rw [hra]
        have e2 : fv .f64 b = dval (.number t n j) := by unfold fv; rw [hrb]
        rw [e1, e2, ← h2] at hbig
        have hs : s' = false := by
          cases s'
          · rfl
          · exfalso
            rw [dval_num] at hbig
            have := mval_nonneg m' e'
            simp only [if_true] at hbig
            grind
        subst hs
        rw [dval_num] at hbig
        simp only [Bool.false_eq_true, if_false] at hbig
        have h0 : m' ≠ 0 := by rintro rfl; rw [mval_zero] at hbig; grind
        have : fo .add .f64 a b = FloatKind.f64.format.write (.number false m' e') := fo_some (by
          show ((FloatKind.f64.format.read a).sum (FloatKind.f64.format.read b)).map FloatKind.f64.format.write = _
          rw [hra, hrb, h1]; rfl)
        rw [this]
        exact (wGeWrite h0 (Rat.le_of_lt hbig) (by omega)).le (by grind)
      · have hR := add_spec ha hb (by rw [ab_of_nonneg hnn]; grind)
        obtain ⟨c, hc, hcv⟩ := hy
        right
        refine ⟨hR.1, ?_⟩
        have := (hR.2.2 _ hc).1 (by rw [hcv]; grind)
        rwa [hcv] at this
/-- **THE PARTS OF A POLE.** -/
theorem pole_parts {a b : Nat} (fa : fin .f64 a) (fb : fin .f64 b) (h : fle .f64 (fo .add .f64 (fo .mul .f64 a a) (fo .mul .f64 b b)) 4607182418800017408 = true) : ab (fv .f64 a) ≤ 1 ∧ ab (fv .f64 b) ≤ 1 := by
  have p52 := pw_pos (-52)
  have p52' : pw (-52) ≤ 1 := by have := pw_mono (show (-52 : Int) ≤ 0 by omega); rwa [pw_zero] at this
  have hn : ∃ c, fin .f64 c ∧ fv .f64 c = 1 + pw (-52) := ⟨_, wNext64.1, wNext64.2⟩
  constructor
  · rcases rat_lt_or_le 1 (ab (fv .f64 a)) with h1 | h1
    · exfalso
      have := wGeSum ((wGeSq fa).2 h1) (wGeSq fb).1 (by grind) (by grind) (Rat.le_refl) (by obtain ⟨c, h1, h2⟩ := hn; exact ⟨c, h1, by grind⟩) (by grind)
      rw [wGeNo this (by grind)] at h
      cases h
    · exact h1
  · rcases rat_lt_or_le 1 (ab (fv .f64 b)) with h1 | h1
    · exfalso
      have := wGeSum (wGeSq fa).1 ((wGeSq fb).2 h1) (by grind) (by grind) (Rat.le_refl) (by obtain ⟨c, h1, h2⟩ := hn; exact ⟨c, h1, by grind⟩) (by grind)
      rw [wGeNo this (by grind)] at h
      cases h
    · exact h1
end Go.Proofs.Ytignncjmbcdpaaa

/-
How far narrowing moves a pole. (Plain arithmetic: no program stands here.)
-/
namespace Go.Proofs.Ytignncjmbcdpaaa
open Go Ieee

theorem p25_word : fin .f64 4494592428115755008 ∧ fv .f64 4494592428115755008 = pw (-25) := by
  have h : FloatKind.f64.format.read 4494592428115755008 = .number false 4503599627370496 (-77) := by decide +kernel
  refine ⟨⟨_, _, _, h⟩, ?_⟩
  unfold fv
  rw [h, dval_num]
  unfold mval pw
  simp only [Bool.false_eq_true, if_false]
  grind
theorem p24_word : fin .f64 4499096027743125504 ∧ fv .f64 4499096027743125504 = pw (-24) := by
  have h : FloatKind.f64.format.read 4499096027743125504 = .number false 4503599627370496 (-76) := by decide +kernel
  refine ⟨⟨_, _, _, h⟩, ?_⟩
  unfold fv
  rw [h, dval_num]
  unfold mval pw
  simp only [Bool.false_eq_true, if_false]
  grind
theorem nar_half {b : Nat} (hb : fin .f64 b) (h : ab (fv .f64 b) ≤ 1) : fin .f32 (nar b) ∧ ab (fv .f64 b - fv .f32 (nar b)) ≤ pw (-25) ∧ ab (fv .f32 (nar b)) ≤ 1 := by
  obtain ⟨r, h1, h2, h3, h4⟩ := narrow_half hb h
  have e : nar b = r := by unfold nar; rw [h1]; rfl
  rw [e]; exact ⟨h2, h3, h4⟩
/-- A difference. -/
theorem err_part {b : Nat} (hb : fin .f64 b) (h : ab (fv .f64 b) ≤ 1) : fin .f64 (fo .sub .f64 b (wid (nar b))) ∧ ab (fv .f64 (fo .sub .f64 b (wid (nar b)))) ≤ pw (-25) := by
  obtain ⟨h1, h2, h3⟩ := nar_half hb h
  obtain ⟨w1, w2⟩ := wid_fin h1
  obtain ⟨c1, c2⟩ := p25_word
  obtain ⟨n1, n2⟩ := neg_fin c1
  rw [c2] at n2
  have hp : pw (-25) ≤ top .f64 := pw_mono (show (-25 : Int) ≤ 1000 by omega)
  have hR := sub_spec hb w1 (by rw [w2]; grind)
  rw [w2] at hR
  have l := le_ab (fv .f64 b - fv .f32 (nar b))
  refine ⟨hR.1, ab_le ?_ ?_⟩
  · have := (hR.2.2 _ c1).2 (by rw [c2]; grind)
    rwa [c2] at this
  · have := (hR.2.2 _ n1).1 (by rw [n2]; grind)
    rw [n2] at this
    grind
/-- The error at a pole, as a word. -/
def errW (a b : Nat) : Nat := fo .add .f64 (abs64 (fo .sub .f64 a (wid (nar a)))) (abs64 (fo .sub .f64 b (wid (nar b))))
theorem err_val {a b : Nat} (fa : fin .f64 a) (fb : fin .f64 b) (ha : ab (fv .f64 a) ≤ 1) (hb : ab (fv .f64 b) ≤ 1) : fin .f64 (errW a b) ∧ 0 ≤ fv .f64 (errW a b) ∧ fv .f64 (errW a b) ≤ pw (-24) := by
  obtain ⟨a1, a2⟩ := err_part fa ha
  obtain ⟨b1, b2⟩ := err_part fb hb
  obtain ⟨x1, x2⟩ := abs64_fin a1
  obtain ⟨y1, y2⟩ := abs64_fin b1
  unfold errW
  have n1 := ab_nonneg (fv .f64 (fo .sub .f64 a (wid (nar a))))
  have n2 := ab_nonneg (fv .f64 (fo .sub .f64 b (wid (nar b))))
  obtain ⟨c1, c2⟩ := p24_word
  have e24 : pw (-24) = 2 * pw (-25) := by rw [show (-24 : Int) = -25 + 1 by decide, pw_succ]
  have hp : pw (-24) ≤ top .f64 := pw_mono (show (-24 : Int) ≤ 1000 by omega)
  have hR := add_spec x1 y1 (by rw [x2, y2, ab_of_nonneg (by grind)]; grind)
  have hz := zero_fin .f64
  refine ⟨hR.1, ?_, ?_⟩
  · have := (hR.2.2 _ hz.1).1 (by rw [hz.2, x2, y2]; grind)
    rwa [hz.2] at this
  · have := (hR.2.2 _ c1).2 (by rw [c2, x2, y2]; grind)
    rwa [c2] at this
theorem err_none {a b : Nat} (fa : fin .f64 a) (fb : fin .f64 b) (ha : fv .f32 (nar a) = fv .f64 a) (hb : fv .f32 (nar b) = fv .f64 b) (na : fin .f32 (nar a)) (nb : fin .f32 (nar b)) : fin .f64 (errW a b) ∧ fv .f64 (errW a b) = 0 := by
  obtain ⟨w1, w2⟩ := wid_fin na
  obtain ⟨v1, v2⟩ := wid_fin nb
  have ht : (0 : Rat) ≤ top .f64 := Rat.le_of_lt (pw_pos 1000)
  have hz := zero_fin .f64
  have e1 : fv .f64 a - fv .f64 (wid (nar a)) = 0 := by rw [w2, ha]; grind
  have e2 : fv .f64 b - fv .f64 (wid (nar b)) = 0 := by rw [v2, hb]; grind
  have hA := sub_spec fa w1 (by rw [e1, ab_of_nonneg Rat.le_refl]; exact ht)
  have hB := sub_spec fb v1 (by rw [e2, ab_of_nonneg Rat.le_refl]; exact ht)
  rw [e1] at hA
  rw [e2] at hB
  have zA := hA.exact hz.1 hz.2
  have zB := hB.exact hz.1 hz.2
  obtain ⟨x1, x2⟩ := abs64_fin hA.1
  obtain ⟨y1, y2⟩ := abs64_fin hB.1
  rw [zA, ab_of_nonneg Rat.le_refl] at x2
  rw [zB, ab_of_nonneg Rat.le_refl] at y2
  have e3 : (0 : Rat) + 0 = 0 := by grind
  have hR := add_spec x1 y1 (by rw [x2, y2, e3, ab_of_nonneg Rat.le_refl]; exact ht)
  rw [x2, y2, e3] at hR
  exact ⟨hR.1, hR.exact hz.1 hz.2⟩

/-- The greater of two words. -/
def mxW (x y : Nat) : Nat := match FloatKind.f64.format.order x y with
  | some .lt => y
  | some .gt => x
  | _ => if (FloatKind.f64.decode x).neg then y else x
theorem mxW_val {x y : Nat} (hx : fin .f64 x) (hy : fin .f64 y) : FloatKind.f64.format.order x y ≠ none ∧ fin .f64 (mxW x y) ∧ (∀ P : Rat → Prop, P (fv .f64 x) → P (fv .f64 y) → P (fv .f64 (mxW x y))) ∧ (wfk .f64 x → wfk .f64 y → wfk .f64 (mxW x y)) := by
  obtain ⟨o, ho, _⟩ := order_fin hx hy
  have hc : mxW x y = x ∨ mxW x y = y := by
    unfold mxW
    split
    · right; rfl
    · left; rfl
    · split
      · right; rfl
      · left; rfl
  refine ⟨by rw [ho]; simp, ?_, ?_, ?_⟩
  · rcases hc with h | h <;> rw [h] <;> assumption
  · intro P h1 h2
    rcases hc with h | h <;> rw [h] <;> assumption
  · intro h1 h2
    rcases hc with h | h <;> rw [h] <;> assumption
theorem run_mxW {P : Program} (w : World) (ts : Array TypeId) (t : TypeId) (x y : Nat) (h : FloatKind.f64.format.order x y ≠ none) : (Builtin.max_ ts t #[.float .f64 x, .float .f64 y]).run P w = .ok (.float .f64 (mxW x y)) w := by
  unfold mxW
  cases ho : FloatKind.f64.format.order x y with
  | none => exact absurd ho h
  | some o => cases o <;> simp [Builtin.max_, Builtin.max2, ho]
end Go.Proofs.Ytignncjmbcdpaaa

/-
impl.NarrowModes at the widened modes of a valid body.
-/
namespace Go.Proofs.Ytignncjmbcdpaaa
open Go Go.RowKit Ieee

theorem k1024 : fin .f64 4652218415073722368 ∧ fv .f64 4652218415073722368 = 1024 := by
  have h : FloatKind.f64.format.read 4652218415073722368 = .number false 4503599627370496 (-42) := by decide +kernel
  refine ⟨⟨_, _, _, h⟩, ?_⟩
  unfold fv
  rw [h, dval_num]
  unfold mval pw
  simp only [Bool.false_eq_true, if_false]
  grind
theorem wide_tops {a b c d : Nat} (h : WideOk a b c d) : ab (fv .f64 a) ≤ 1 ∧ ab (fv .f64 b) ≤ 1 ∧ ab (fv .f64 a) ≤ top .f32 ∧ ab (fv .f64 b) ≤ top .f32 ∧ ab (fv .f64 c) ≤ top .f32 ∧ ab (fv .f64 d) ≤ top .f32 := by
  obtain ⟨p1, p2⟩ := pole_parts h.fa h.fb h.sq
  obtain ⟨k1, k2⟩ := k1024
  have t0 : (1 : Rat) ≤ top .f32 := by have := pw_mono (show (0 : Int) ≤ 120 by omega); rwa [pw_zero] at this
  have t1 : (1024 : Rat) ≤ top .f32 := by
    have h1 : pw 10 ≤ top .f32 := pw_mono (show (10 : Int) ≤ 120 by omega)
    have h2 : pw 10 = 1024 := by unfold pw; grind
    grind
  obtain ⟨c1, c2⟩ := absB_fin h.fc
  obtain ⟨d1, d2⟩ := absB_fin h.fd
  have g1 := (fle_iff c1 k1).1 h.gain.1
  have g2 := (fle_iff d1 k1).1 h.gain.2
  rw [c2, k2] at g1
  rw [d2, k2] at g2
  exact ⟨p1, p2, by grind, by grind, by grind, by grind⟩

/-- The state of the loop: the result's block, the body's block, the row behind both. -/
structure NSt (w wr : World) (bb : Nat) (v : Value) (k : Nat) (L : List MW) : Prop where
  hb : w.heap.size < bb
  bel : Below w.heap.size w wr
  r : wr.heap[w.heap.size]? = some (.cells #[.slice none 0 0] 69 (0, 0))
  b : wr.heap[bb]? = some (.cells #[v] 69 (0, 0))
  own : wr.ownsRow (bb + 1) 52 2 v k (flatM L)
theorem NSt.cells {w wr : World} {bb : Nat} {v : Value} {k : Nat} {L : List MW} (h : NSt w wr bb v k L) : wr.cell? ⟨bb, 0, none⟩ = some v ∧ wr.frozen? ⟨bb, 0, none⟩ = false ∧ wr.cell? ⟨w.heap.size, 0, none⟩ = some (.slice none 0 0) ∧ wr.frozen? ⟨w.heap.size, 0, none⟩ = false :=
  ⟨cell_of_row wr _ 0 _ _ (0, 0) h.b, by unfold World.frozen?; simp only [h.b]; simp, cell_of_row wr _ 0 _ _ (0, 0) h.r, by unfold World.frozen?; simp only [h.r]; simp⟩
theorem NSt.size {w wr : World} {bb : Nat} {v : Value} {k : Nat} {L : List MW} (h : NSt w wr bb v k L) : bb + 1 ≤ wr.heap.size := lt_of_some h.b
theorem NSt.drewN {w wr : World} {bb : Nat} {v : Value} {k : Nat} {L : List MW} (h : NSt w wr bb v k L) (n : Nat) : NSt w (wr.drewN n) bb v k L := ⟨h.hb, below_drewN h.bel n, h.r, h.b, h.own⟩
theorem NSt.alloc {w wr : World} {bb : Nat} {v : Value} {k : Nat} {L : List MW} (h : NSt w wr bb v k L) (o : Obj) : NSt w (wr.alloc o) bb v k L :=
  ⟨h.hb, h.bel.alloc h.bel.size o, (Below.heap_alloc wr o _ (lt_of_some h.r)).trans h.r, (Below.heap_alloc wr o _ (lt_of_some h.b)).trans h.b, h.own.alloc o⟩
/-- .. and the mode in hand lies in a block of its own. -/
structure NMid (w wr : World) (bb : Nat) (v : Value) (k : Nat) (L : List MW) (mb : Nat) (x y : Value) : Prop extends NSt w wr bb v k L where
  lo : bb + 1 ≤ mb
  m : wr.heap[mb]? = some (.cells #[x, y] 131 (0, 0))
  ne : ∀ q, v.ownBlock = some q → q < mb
theorem NMid.drewN {w wr : World} {bb : Nat} {v : Value} {k mb : Nat} {L : List MW} {x y : Value} (h : NMid w wr bb v k L mb x y) (n : Nat) : NMid w (wr.drewN n) bb v k L mb x y := ⟨h.toNSt.drewN n, h.lo, h.m, h.ne⟩
theorem wm_cells {W : World} {M : Nat} {x y : Value} (h : W.heap[M]? = some (.cells #[x, y] 131 (0, 0))) : W.cell? ⟨M, 0, none⟩ = some x ∧ W.cell? ⟨M, 1, none⟩ = some y :=
  ⟨cell_of_row W M 0 _ _ (0, 0) h, cell_of_row W M 1 _ _ (0, 0) h⟩
theorem NMid.held {w wr : World} {bb : Nat} {v : Value} {k mb : Nat} {L : List MW} {x y : Value} (h : NMid w wr bb v k L mb x y) : wr.cell? ⟨mb, 0, none⟩ = some x ∧ wr.cell? ⟨mb, 1, none⟩ = some y ∧ wr.cell? ⟨bb, 0, none⟩ = some v :=
  ⟨(wm_cells h.m).1, (wm_cells h.m).2, h.toNSt.cells.1⟩
theorem NMid.mode_alloc {w wr : World} {bb : Nat} {v : Value} {k mb : Nat} {L : List MW} {x y : Value} (h : NMid w wr bb v k L mb x y) (o : Obj) : (wr.alloc o).cell? ⟨mb, 0, none⟩ = some x ∧ (wr.alloc o).cell? ⟨mb, 1, none⟩ = some y ∧ (wr.alloc o).cell? ⟨bb, 0, none⟩ = some v := by
  have h' : NMid w (wr.alloc o) bb v k L mb x y := ⟨h.toNSt.alloc o, h.lo, (Below.heap_alloc wr o _ (lt_of_some h.m)).trans h.m, h.ne⟩
  exact h'.held
/-- What remains of the state behind an append onto the row. -/
structure NPre (w w4 : World) (bb : Nat) (v : Value) : Prop where
  hb : w.heap.size < bb
  bel : Below w.heap.size w w4
  r : w4.heap[w.heap.size]? = some (.cells #[.slice none 0 0] 69 (0, 0))
  b : w4.heap[bb]? = some (.cells #[v] 69 (0, 0))
theorem NMid.grown {w wr : World} {bb : Nat} {v : Value} {k mb : Nat} {L : List MW} {x y : Value} (h : NMid w wr bb v k L mb x y) {o : Obj} {w4 : World} (hg : (wr.alloc o).grownBy w4 v.ownBlock) :
    NPre w w4 bb v ∧ w4.frozen? ⟨bb, 0, none⟩ = false ∧ w4.cell? ⟨mb, 0, none⟩ = some x ∧ w4.cell? ⟨mb, 1, none⟩ = some y ∧ w4.cell? ⟨bb, 0, none⟩ = some v := by
  have h' : NMid w (wr.alloc o) bb v k L mb x y := ⟨h.toNSt.alloc o, h.lo, (Below.heap_alloc wr o _ (lt_of_some h.m)).trans h.m, h.ne⟩
  have hlt := lt_of_some h'.m
  have hne : some mb ≠ v.ownBlock := fun e => by have := h.ne _ e.symm; omega
  have hbb := h.hb
  have hlo : ∀ q, v.ownBlock = some q → bb + 1 ≤ q := fun q hq => (h.own.lt q hq).1
  have hr := (hg.block w.heap.size (lt_of_some h'.r) (fun e => by have := hlo _ e.symm; omega)).trans h'.r
  have hb := (hg.block bb (lt_of_some h'.b) (fun e => by have := hlo _ e.symm; omega)).trans h'.b
  have hm := (hg.block mb hlt hne).trans h'.m
  have hbel : Below w.heap.size w w4 := h'.bel.grown hg h'.bel.size (fun q hq => by have := hlo q hq; omega)
  refine ⟨⟨hbb, hbel, hr, hb⟩, ?_, (wm_cells hm).1, (wm_cells hm).2, cell_of_row w4 _ 0 _ _ (0, 0) hb⟩
  unfold World.frozen?; simp only [hb]; simp
theorem NSt.app {w w4 : World} {bb : Nat} {v v' : Value} {k : Nat} {L : List MW} (h : NPre w w4 bb v) (hown : w4.ownsRow (bb + 1) 52 2 v' k (flatM L)) : NSt w (w4.setCell ⟨bb, 0, none⟩ v') bb v' k L := by
  have kk : ∀ j, j ≠ bb → (w4.setCell ⟨bb, 0, none⟩ v').heap[j]? = w4.heap[j]? := fun j hj => Below.heap_setCell _ _ _ _ hj
  have hb := h.b
  have hbb := h.hb
  refine ⟨hbb, h.bel.setCell (by show w.heap.size ≤ bb; omega) _, (kk _ (by omega)).trans h.r, ?_, ?_⟩
  · simp [World.setCell, Array.getElem?_modify, hb]
  · obtain ⟨h1, h2⟩ := hown
    refine ⟨h1, ?_⟩
    rcases h2 with h2 | ⟨G, cap, cur, e1, e2, e3, e4⟩
    · exact .inl h2
    · exact .inr ⟨G, cap, cur, e1, e2, (kk G (by omega)).trans e3, e4⟩

set_option maxRecDepth 100000 in
set_option maxHeartbeats 1000000 in
theorem narrowModes_any (A : Option Addr) (c lo hi : Nat) (ms : List MW) (w : World) (h : OwnD w lo hi A c (ms.map widM)) (hh : hi ≤ w.heap.size) (hok : ModesOk ms) (hl : ms.length ≤ 16) :
    Calls Try.prog 64 #[.slice A ms.length c] w fun e w' => ∃ (A' : Option Addr) (c' : Nat), e = .returned (.tuple #[.agg #[.slice A' ms.length c'], .bool true]) ∧ OwnM w' w.heap.size w'.heap.size A' c' ms ∧ Below w.heap.size w w' := by
  have hlen : (ms.map widM).length = ms.length := by simp
  have HLEN := Lib.hid hlen
  have HK := Lib.hid hok
  have HR0 : Hid ((w.alloc (.cells #[.slice none 0 0] 69)).heap[w.heap.size]? = some (.cells #[.slice none 0 0] 69 (0, 0))) := heap_alloc_new w _
  have HB0 : Hid (Below w.heap.size w (w.alloc (.cells #[.slice none 0 0] 69))) := (Below.refl w.heap.size w).alloc (Nat.le_refl _) _
  have H0 : Hid (OwnD (w.alloc (.cells #[.slice none 0 0] 69)) lo hi A c (ms.map widM)) := h.below HB0.out hh
  have hsz0 : (w.alloc (.cells #[.slice none 0 0] 69)).heap.size = w.heap.size + 1 := by simp
  have HW := Lib.hid h
  clear h hok hlen
  go_enter Try.func64, Try.ntmps64
  go_wp2_with fail
  generalize w.alloc (.cells #[.slice none 0 0] 69) = W0 at *
  have hc0 := areWide_any A c lo hi (ms.map widM) W0 H0.out (by omega) HK.out.wide (by rw [HLEN.out]; exact hl)
  rw [HLEN.out] at hc0
  refine hc0.mono ?_
  clear hc0
  rintro e W1 ⟨rfl, hb1⟩
  have hsz1 : w.heap.size + 1 ≤ W1.heap.size := by have := hb1.size; omega
  have HR1 := Lib.hid ((hb1.block w.heap.size (by omega)).trans HR0.out)
  have HB1 : Hid (Below w.heap.size w W1) := HB0.out.trans (hb1.mono (by omega))
  have H1 : Hid (OwnD W1 lo hi A c (ms.map widM)) := H0.out.below hb1 (by omega)
  have HS1 : Hid (NSt w (W1.alloc (.cells #[.slice none 0 0] 69)) W1.heap.size (.slice none 0 0) 0 []) := ⟨by omega, HB1.out.alloc HB1.out.size _, (Below.heap_alloc W1 _ _ (by omega)).trans HR1.out, heap_alloc_new W1 _, ⟨rfl, .inl ⟨rfl, rfl⟩⟩⟩
  have hloh : hi ≤ W1.heap.size := by omega
  clear hb1 HR0 HB0 H0 HR1 HB1 H1 hsz0
  go_wp2_with fail
  generalize hbb : W1.heap.size = bb at *
  generalize W1.alloc (.cells #[.slice none 0 0] 69) = W2 at *
  go_loopw [14] (fun i wr => ∃ (k : Nat) (v : Value) (L : List MW), i = .int .i64 (k : Int) ∧ k ≤ ms.length ∧ Hid (L = ms.take k) ∧ Hid (NSt w wr bb v k L)) (fun i _ => ms.length - (intOf i).toNat)
  case atStart => exact ⟨0, _, [], rfl, by omega, rfl, HS1.out⟩
  case round =>
    clear HS1
    obtain ⟨k, v, L, rfl, hk, HL, HS⟩ := hrel
    have HO := Lib.hid (HW.out.below HS.out.bel hh)
    by_cases hlt : k < ms.length
    · obtain ⟨b, rfl, hb1, hb2, hlc, hmx, hcell⟩ := HO.out.cells (by rw [HLEN.out]; omega)
      obtain ⟨e1, e2⟩ := hcell k (by rw [HLEN.out]; exact hlt)
      have hbk := HO.out.2 b rfl
      have hmk := HK.out.at_ hlt
      have hda : (ms.map widM).getD k (0, 0, 0, 0) = widM (mAt ms k) := by
        simp [mAt, List.getD, List.getElem?_eq_getElem hlt]
      rw [hda] at e1 e2
      have HLx : Hid (L ++ [mAt ms k] = ms.take (k + 1)) := by
        show L ++ [mAt ms k] = ms.take (k + 1)
        rw [HL.out, List.take_add_one, List.getElem?_eq_getElem hlt]
        simp [mAt, List.getD, List.getElem?_eq_getElem hlt]
      have hmod : Hid (modeV (mAt ms k) = [.complex .f32 (mAt ms k).1 (mAt ms k).2.1, .complex .f32 (mAt ms k).2.2.1 (mAt ms k).2.2.2]) := rfl
      have e1' : wr.cell? ⟨b, k * 2, none⟩ = some (.complex .f64 (wid (mAt ms k).1) (wid (mAt ms k).2.1)) := e1
      have e2' : wr.cell? ⟨b, k * 2 + 1, none⟩ = some (.complex .f64 (wid (mAt ms k).2.2.1) (wid (mAt ms k).2.2.2)) := e2
      have hmk' : ModeOk (mAt ms k).1 (mAt ms k).2.1 (mAt ms k).2.2.1 (mAt ms k).2.2.2 := hmk
      obtain ⟨_, _, t1, t2, t3, t4⟩ := wide_tops hmk'.wide
      have T1 := Lib.hid (fun W => narrowWid_any (mAt ms k).1 (mAt ms k).2.1 W hmk'.wa hmk'.wb hmk'.fa hmk'.fb t1 t2)
      have T2 := Lib.hid (fun W => narrowWid_any (mAt ms k).2.2.1 (mAt ms k).2.2.2 W hmk'.wc hmk'.wd hmk'.fc hmk'.fd t3 t4)
      clear e1 e2 hcell hmk hmk' hda t1 t2 t3 t4
      obtain ⟨a, ha⟩ : ∃ a, (mAt ms k).1 = a := ⟨_, rfl⟩
      obtain ⟨b0, hb⟩ : ∃ b, (mAt ms k).2.1 = b := ⟨_, rfl⟩
      obtain ⟨c0, hc⟩ : ∃ c, (mAt ms k).2.2.1 = c := ⟨_, rfl⟩
      obtain ⟨d, hd⟩ : ∃ d, (mAt ms k).2.2.2 = d := ⟨_, rfl⟩
      rw [ha, hb] at e1' T1
      rw [hc, hd] at e2' T2
      rw [ha, hb, hc, hd] at hmod
      clear ha hb hc hd
      obtain ⟨A', hA'⟩ : ∃ a', wid a = a' := ⟨_, rfl⟩
      obtain ⟨B', hB'⟩ : ∃ b', wid b0 = b' := ⟨_, rfl⟩
      obtain ⟨C', hC'⟩ : ∃ c', wid c0 = c' := ⟨_, rfl⟩
      obtain ⟨D', hD'⟩ : ∃ d', wid d = d' := ⟨_, rfl⟩
      rw [hA', hB'] at e1' T1
      rw [hC', hD'] at e2' T2
      clear hA' hB' hC' hD'
      have N1 : Hid (NMid w (wr.alloc (.cells #[.complex .f64 A' B', .complex .f64 C' D'] 131)) bb v k L wr.heap.size (.complex .f64 A' B') (.complex .f64 C' D')) :=
        ⟨HS.out.alloc _, HS.out.size, heap_alloc_new wr _, fun q hq => (HS.out.own.lt q hq).2⟩
      go_wp2_with fail
      generalize hmb : wr.heap.size = mb at *
      generalize wr.alloc (.cells #[.complex .f64 A' B', .complex .f64 C' D'] 131) = Wa at *
      have hS : Wa.drew.cell? ⟨mb, 0, none⟩ = some (.complex .f64 A' B') ∧ Wa.drew.cell? ⟨mb, 1, none⟩ = some (.complex .f64 C' D') ∧ Wa.drew.cell? ⟨bb, 0, none⟩ = some v := N1.out.held
      have N1' : Hid (NMid w Wa.drew bb v k L mb (.complex .f64 A' B') (.complex .f64 C' D')) := N1.out.drewN 1
      clear N1 HO e1' e2'
      refine wp_region_last (fun w' => w'.cell? ⟨mb, 0, none⟩ = some (.complex .f64 A' B') ∧ w'.cell? ⟨mb, 1, none⟩ = some (.complex .f64 C' D') ∧ w'.cell? ⟨bb, 0, none⟩ = some v) 12 (by kernel_rfl) hS (fun hHeld => ?_)
      generalize Wa.drew = Wb at *
      refine wpAnyX_take [0, 1, 10, 12] (i := 0) (oi := _) (v := ?_) rfl (by kernel_rfl) (by kernel_rfl) (by kernel_rfl) (by kernel_rfl) (fun _ _ _ h => h) (Or.inl ⟨by rfl, ?_⟩) (by assumption) ?_
      rotate_left
      · (intro w hSw; (try dsimp only at hSw); go_simp; try (with_reducible rfl))
      (try simp only [Act.put, List.setIfInBounds_toArray, List.set_cons_zero, List.set_cons_succ])
      refine wpAnyX_take [1, 10, 12] (i := 1) (oi := _) (v := ?_) rfl (by kernel_rfl) (by kernel_rfl) (by kernel_rfl) (by kernel_rfl) (fun _ _ _ h => h) (Or.inl ⟨by rfl, ?_⟩) (by assumption) ?_
      rotate_left
      · (intro w hSw; (try dsimp only at hSw); go_simp; try (with_reducible rfl))
      (try simp only [Act.put, List.setIfInBounds_toArray, List.set_cons_zero, List.set_cons_succ])
      refine wpAnyX_take [2, 3, 4, 8, 9, 10, 12] (i := 2) (oi := _) (v := ?_) rfl (by kernel_rfl) (by kernel_rfl) (by kernel_rfl) (by kernel_rfl) (fun _ _ _ h => h) (Or.inl ⟨by rfl, ?_⟩) (by assumption) ?_
      rotate_left
      · (intro w hSw; (try dsimp only at hSw); go_simp; try (with_reducible rfl))
      (try simp only [Act.put, List.setIfInBounds_toArray, List.set_cons_zero, List.set_cons_succ])
      refine wpAnyX_take [3, 4, 8, 9, 10, 12] (i := 3) (oi := _) (v := ?_) rfl (by kernel_rfl) (by kernel_rfl) (by kernel_rfl) (by kernel_rfl) (fun _ _ _ h => h) (Or.inl ⟨by rfl, ?_⟩) (by assumption) ?_
      rotate_left
      · (intro w hSw; (try dsimp only at hSw); go_simp; try (with_reducible rfl))
      (try simp only [Act.put, List.setIfInBounds_toArray, List.set_cons_zero, List.set_cons_succ])
      refine wpAnyX_take [5, 6, 7, 8, 9, 10, 12] (i := 5) (oi := _) (v := ?_) rfl (by kernel_rfl) (by kernel_rfl) (by kernel_rfl) (by kernel_rfl) (fun _ _ _ h => h) (Or.inl ⟨by rfl, ?_⟩) (by assumption) ?_
      rotate_left
      · (intro w hSw; (try dsimp only at hSw); go_simp; try (with_reducible rfl))
      (try simp only [Act.put, List.setIfInBounds_toArray, List.set_cons_zero, List.set_cons_succ])
      refine wpAnyX_take [6, 7, 8, 9, 10, 12] (i := 6) (oi := _) (v := ?_) rfl (by kernel_rfl) (by kernel_rfl) (by kernel_rfl) (by kernel_rfl) (fun _ _ _ h => h) (Or.inl ⟨by rfl, ?_⟩) (by assumption) ?_
      rotate_left
      · (intro w hSw; (try dsimp only at hSw); go_simp; try (with_reducible rfl))
      (try simp only [Act.put, List.setIfInBounds_toArray, List.set_cons_zero, List.set_cons_succ])
      refine wpAnyX_ready (i := 4) (o := _) (by kernel_rfl) rfl (fun K hK => ?_)
      go_simp
      refine (T1.out _).mono ?_
      rintro e w' ⟨m1, rfl, rfl⟩
      go_wp2_with fail
      refine hK.out _ _ ?_ (fun hHelda => ?_)
      · exact hHeld
      clear hK K
      (try simp only [Act.put, List.setIfInBounds_toArray, List.set_cons_zero, List.set_cons_succ])
      refine wpAnyX_ready (i := 7) (o := _) (by kernel_rfl) rfl (fun K hK => ?_)
      go_simp
      refine (T2.out _).mono ?_
      rintro e w' ⟨m2, rfl, rfl⟩
      go_wp2_with fail
      refine hK.out _ _ ?_ (fun hHeldb => ?_)
      · exact hHeld
      clear hK K
      (try simp only [Act.put, List.setIfInBounds_toArray, List.set_cons_zero, List.set_cons_succ])
      refine wpAnyX_take [8, 9, 10, 12] (i := 8) (oi := _) (v := ?_) rfl (by kernel_rfl) (by kernel_rfl) (by kernel_rfl) (by kernel_rfl) (fun _ _ _ h => h) (Or.inl ⟨by rfl, ?_⟩) (by assumption) ?_
      rotate_left
      · (intro w hSw; (try dsimp only at hSw); go_simp; try (with_reducible rfl))
      (try simp only [Act.put, List.setIfInBounds_toArray, List.set_cons_zero, List.set_cons_succ])
      have N2 := Lib.hid (N1'.out.drewN (m1 + m2))
      have HAl := Lib.hid (N2.out.mode_alloc (.cells #[.complex .f32 a b0, .complex .f32 c0 d] 52))
      have hszb : bb + 1 ≤ Wb.heap.size := N2.out.toNSt.size
      clear N1' hHeld hHelda hHeldb
      refine wpAnyX_ready (i := 9) (o := _) (by kernel_rfl) rfl (fun K hK => ?_)
      go_simp
      refine hK.out _ _ ?_ (fun hHeldc => ?_)
      · exact HAl.out
      clear hK K
      (try simp only [Act.put, List.setIfInBounds_toArray, List.set_cons_zero, List.set_cons_succ])
      obtain ⟨i0, hi0, hz0, hz1, hz2'⟩ := info_parts mode_info
      refine wpAnyX_ready (i := 10) (o := _) (by kernel_rfl) rfl (fun K hK => ?_)
      refine step_append_lies _ (by rfl) (.tmp 19) (.tmp 27) 67 (by rfl) (bb + 1) 52 i0 _ 2 16 Try.underlying67 hi0 hz0 hz1 hz2' rfl (by omega) v k (flatM L) (by rfl) (N2.out.own.alloc _) ⟨Wb.heap.size, 0, none⟩ 1 1 [.complex .f32 a b0, .complex .f32 c0 d] (by rfl) (by rfl) (World.news_of_block (cs := #[.complex .f32 a b0, .complex .f32 c0 d]) (t := 52) (fr := (0, 0)) (heap_alloc_new (Wb.drewN (m1 + m2)) _)) (by simp [Value.oneCell']) (by omega) (by simp only [maxLen]; omega) (by omega) (by simp; omega) (Wb.heap.size + 1) (by simp) ?_
      intro gg cap w4 hown4 hgrow hat hlt4
      have B4 := Lib.hid (N2.out.grown hgrow)
      have O4 := Lib.hid hown4
      clear hown4 hgrow hat HAl
      refine hK.out _ _ ?_ (fun hHeldd => ?_)
      · exact B4.out.2.2
      clear hK K
      (try simp only [Act.put, List.setIfInBounds_toArray, List.set_cons_zero, List.set_cons_succ])
      have cB := B4.out.2.2.2.2
      have fB := B4.out.2.1
      refine wpAnyX_take [11, 12] (i := 11) (oi := _) (v := ?_) rfl (by kernel_rfl) (by kernel_rfl) (by kernel_rfl) (by kernel_rfl) (fun _ _ _ h => h) (Or.inl ⟨by rfl, ?_⟩) (by assumption) ?_
      rotate_left
      · (intro w hSw; (try dsimp only at hSw); go_simp; try (with_reducible rfl))
      (try simp only [Act.put, List.setIfInBounds_toArray, List.set_cons_zero, List.set_cons_succ])
      refine wpAnyX_last (o := _) (by kernel_rfl) rfl (fun K hK => ?_)
      go_simp
      refine hK.out _ _ ?_
      clear hK K
      (try simp only [Act.put, List.setIfInBounds_toArray, List.set_cons_zero, List.set_cons_succ])
      refine wpAnyX_done (by kernel_rfl) ?_ _
      go_wp2_with fail
      go_roundw
      case rel => exact ⟨k + 1, _, L ++ [mAt ms k], by go_num, by omega, HLx.out, NSt.app B4.out.1 (by rw [← flatM_snoc, hmod.out]; exact O4.out)⟩
      case measure => simp [intOf]; omega
    · have hkn : ms.length = k := by omega
      subst hkn
      obtain rfl : L = ms := by rw [HL.out, List.take_length]
      obtain ⟨A1, c1, rfl, HO1⟩ : ∃ A' c', v = .slice A' L.length c' ∧ Hid (OwnM wr (bb + 1) wr.heap.size A' c' L) := by
        have hown := HS.out.own
        rcases hown.2 with ⟨hv, h0⟩ | ⟨G, cap', cur', hv, _⟩
        · refine ⟨none, 0, by rw [hv, h0], ?_⟩
          subst hv
          refine OwnM.of ?_
          rw [h0]
          rw [h0] at hown
          exact hown
        · subst hv
          exact ⟨_, _, rfl, OwnM.of hown⟩
      have hsz := HS.out.size
      have HR := Lib.hid HS.out.r
      have HB := Lib.hid HS.out.bel
      have hbb' := HS.out.hb
      have cB := HS.out.cells.1
      clear HS HO
      go_wp2_with fail
      refine (checked_any A1 c1 (bb + 1) wr.heap.size L wr HO1.out (Nat.le_refl _) HK.out hl).mono ?_
      rintro e W3 ⟨A2, c2, rfl, ho, hb3⟩
      have HR3 := Lib.hid ((hb3.block w.heap.size (by omega)).trans HR.out)
      have HB3 : Hid (Below w.heap.size w W3) := HB.out.trans (hb3.mono (by omega))
      have HO3 := Lib.hid ho
      have hs3 := hb3.size
      clear ho hb3 cB HR HB HO1
      have r0 := cell_of_row W3 w.heap.size 0 _ _ (0, 0) HR3.out
      have r1 : W3.frozen? ⟨w.heap.size, 0, none⟩ = false := by unfold World.frozen?; simp only [HR3.out]; simp
      have HRes : Hid (∀ v, (W3.setCell ⟨w.heap.size, 0, none⟩ v).heap[w.heap.size]? = some (.cells #[v] 69 (0, 0))) := fun v => by
        simp [World.setCell, Array.getElem?_modify, HR3.out]
      go_wp2_with fail
      refine bodyPost_ret (results_cell_tmp_row rfl _ _ w.heap.size 69 #[.slice A2 L.length c2] (0, 0) _ rfl (HRes.out _) Try.underlying69 rfl (by kernel_rfl)) rfl ?_
      exact ⟨A2, c2, rfl, (HO3.out.keepOut (by omega)).low (by omega) (by simp), HB3.out.setCell (by show w.heap.size ≤ w.heap.size; omega) _⟩
end Go.Proofs.Ytignncjmbcdpaaa

/-
spec.l6Draw: wide modes, valid or not.
-/
namespace Go.Proofs.Ytignncjmbcdpaaa
open Go Go.RowKit Ieee

set_option maxHeartbeats 400000 in
theorem specScaleD_any (a b x : Nat) (w : World) : Calls Try.prog 153 #[.complex .f64 a b, .float .f64 x] w fun e w' => ∃ p q n, e = .returned (.complex .f64 p q) ∧ wfk .f64 p ∧ wfk .f64 q ∧ w.drewN n = w' := by
  go_enter Try.func153, Try.ntmps153
  go_wp2_with fail
  go_ret
  exact ⟨_, _, _, rfl, fR_lt _ _ _ _ _, fR_lt _ _ _ _ _, rfl⟩

def WfD (m : DW) : Prop := wfk .f64 m.1 ∧ wfk .f64 m.2.1 ∧ wfk .f64 m.2.2.1 ∧ wfk .f64 m.2.2.2
/-- The state of spec.l6Draw: the row lies behind what stood at the start. -/
structure DSt (w wr : World) (g : Nat) (v : Value) (ds : List DW) : Prop where
  cur : Cur wr g
  gr : w.grownBy wr (some g)
  hg : g < w.heap.size
  own : wr.ownsRow w.heap.size 131 2 v ds.length (flatD ds)
  wf : ∀ m ∈ ds, WfD m
/-- .. and a mode lies in block 'M'. -/
structure DMid (w wr : World) (g : Nat) (v : Value) (ds : List DW) (M : Nat) : Prop extends DSt w wr g v ds where
  hM : w.heap.size ≤ M
  ne : ∀ q, v.ownBlock = some q → q < M
  m : ∃ a b c d, WfD (a, b, c, d) ∧ wr.heap[M]? = some (.cells #[.complex .f64 a b, .complex .f64 c d] 131 (0, 0))
theorem DSt.keep {w wr wr' : World} {g : Nat} {v : Value} {ds : List DW} (h : DSt w wr g v ds) (hc : Cur wr' g) (hg : w.grownBy wr' (some g)) (hk : ∀ q, v.ownBlock = some q → wr'.heap[q]? = wr.heap[q]?) : DSt w wr' g v ds := by
  refine ⟨hc, hg, h.hg, ?_, h.wf⟩
  obtain ⟨h1, h2⟩ := h.own
  refine ⟨h1, ?_⟩
  rcases h2 with h2 | ⟨G, cap, cur, e1, e2, e3, e4⟩
  · exact .inl h2
  · exact .inr ⟨G, cap, cur, e1, e2, (hk G (by rw [e1]; rfl)).trans e3, e4⟩
theorem DSt.step {w wr wr' : World} {g : Nat} {v : Value} {ds : List DW} (h : DSt w wr g v ds) (s : CurStep wr wr' g) : DSt w wr' g v ds :=
  h.keep s.1 (grown_trans h.gr s.2) fun q hq => s.2.block q (h.own.lt q hq).2 (by intro e; injection e with e; have := (h.own.lt q hq).1; have := h.hg; omega)
theorem DSt.drewN {w wr : World} {g : Nat} {v : Value} {ds : List DW} (h : DSt w wr g v ds) (n : Nat) : DSt w (wr.drewN n) g v ds := h.keep h.cur (grown_drewN h.gr n) fun _ _ => rfl
theorem DSt.alloc {w wr : World} {g : Nat} {v : Value} {ds : List DW} (h : DSt w wr g v ds) (o : Obj) : DSt w (wr.alloc o) g v ds :=
  h.keep (h.cur.alloc o) (grown_trans h.gr ⟨rfl, rfl, rfl, by simp, fun i hi _ => Below.heap_alloc wr o i hi⟩) fun q hq => Below.heap_alloc wr o q (h.own.lt q hq).2
theorem DMid.kept {w wr wr' : World} {g M : Nat} {v : Value} {ds : List DW} (h : DMid w wr g v ds M) (s : CurStep wr wr' g) : wr'.heap[M]? = wr.heap[M]? := by
  obtain ⟨a, b, c, d, hw, hm⟩ := h.m
  exact s.2.block M (lt_of_some hm) (by intro e; injection e with e; have := h.hM; have := h.hg; omega)
theorem DMid.step {w wr wr' : World} {g M : Nat} {v : Value} {ds : List DW} (h : DMid w wr g v ds M) (s : CurStep wr wr' g) : DMid w wr' g v ds M := by
  have k := h.kept s
  obtain ⟨a, b, c, d, hw, hm⟩ := h.m
  exact ⟨h.toDSt.step s, h.hM, h.ne, a, b, c, d, hw, k.trans hm⟩
theorem DMid.drewN {w wr : World} {g M : Nat} {v : Value} {ds : List DW} (h : DMid w wr g v ds M) (n : Nat) : DMid w (wr.drewN n) g v ds M := ⟨h.toDSt.drewN n, h.hM, h.ne, h.m⟩
theorem DMid.same {w W W' : World} {g M : Nat} {v : Value} {ds : List DW} (h : DMid w W g v ds M) (hh : W'.heap = W.heap) (ho : W'.os = W.os) (ht : W'.tape = W.tape) (hu : W'.output = W.output) : DMid w W' g v ds M := by
  obtain ⟨A, n, c, bs, x, y, hb, hl', hm, hrd, h1, h2⟩ := h.cur
  exact ⟨h.toDSt.keep ⟨A, n, c, bs, x, y, by rw [hh]; exact hb, hl', hm, hrd.keep (fun j _ => by rw [hh]), h1, h2⟩
    ⟨ho.trans h.gr.os, ht.trans h.gr.tape, hu.trans h.gr.output, by rw [hh]; exact h.gr.size, fun i hi hn => by rw [hh]; exact h.gr.block i hi hn⟩ (fun q _ => by rw [hh]), h.hM, h.ne, by rw [hh]; exact h.m⟩
theorem DMid.frozen {w wr : World} {g M : Nat} {v : Value} {ds : List DW} (h : DMid w wr g v ds M) (o : Nat) : wr.frozen? ⟨M, o, none⟩ = false := by
  obtain ⟨a, b, c, d, hw, hm⟩ := h.m
  unfold World.frozen?; simp only [hm]; simp
theorem DMid.set0 {w wr : World} {g M : Nat} {v : Value} {ds : List DW} (h : DMid w wr g v ds M) {x y : Nat} (hx : wfk .f64 x) (hy : wfk .f64 y) : DMid w (wr.setCell ⟨M, 0, none⟩ (.complex .f64 x y)) g v ds M := by
  obtain ⟨a, b, c, d, hw, hm⟩ := h.m
  have hg := h.hg
  have hM := h.hM
  refine ⟨h.toDSt.keep (cur_set h.cur _ _ _ (by omega) (by omega)) (grown_set' h.gr hM) fun q hq => Below.heap_setCell _ _ _ _ (by have := h.ne q hq; show q ≠ M; omega), hM, h.ne, x, y, c, d, ⟨hx, hy, hw.2.2⟩, ?_⟩
  simp [World.setCell, Array.getElem?_modify, hm]
theorem DMid.set1 {w wr : World} {g M : Nat} {v : Value} {ds : List DW} (h : DMid w wr g v ds M) {x y : Nat} (hx : wfk .f64 x) (hy : wfk .f64 y) : DMid w (wr.setCell ⟨M, 1, none⟩ (.complex .f64 x y)) g v ds M := by
  obtain ⟨a, b, c, d, hw, hm⟩ := h.m
  have hg := h.hg
  have hM := h.hM
  refine ⟨h.toDSt.keep (cur_set h.cur _ _ _ (by omega) (by omega)) (grown_set' h.gr hM) fun q hq => Below.heap_setCell _ _ _ _ (by have := h.ne q hq; show q ≠ M; omega), hM, h.ne, a, b, x, y, ⟨hw.1, hw.2.1, hx, hy⟩, ?_⟩
  simp [World.setCell, Array.getElem?_modify, hm]
theorem DSt.app {w wr w' : World} {g : Nat} {v v' : Value} {ds : List DW} {m : DW} (h : DSt w wr g v ds) (hm : WfD m) (hown : w'.ownsRow w.heap.size 131 2 v' (ds.length + 1) (flatD ds ++ modeD m)) (hb : Below w.heap.size wr w') : DSt w w' g v' (ds ++ [m]) := by
  refine ⟨h.cur.below hb h.hg, ⟨hb.os.trans h.gr.os, hb.tape.trans h.gr.tape, hb.output.trans h.gr.output, Nat.le_trans h.gr.size hb.size, fun i hi hn => (hb.block i hi).trans (h.gr.block i hi hn)⟩, h.hg, ?_, ?_⟩
  · rw [← flatD_snoc, List.length_append]; exact hown
  · intro x hx
    rcases List.mem_append.1 hx with hx | hx
    · exact h.wf x hx
    · simp at hx; subst hx; exact hm
/-- What spec.l6Draw returns. -/
def DrawPost (w : World) (g : Nat) (e : Ending) (w' : World) : Prop :=
  ∃ (A : Option Addr) (c : Nat) (ds : List DW), e = .returned (.slice A ds.length c) ∧ w'.ownsRow w.heap.size 131 2 (.slice A ds.length c) ds.length (flatD ds) ∧ (∀ m ∈ ds, WfD m) ∧ ds.length ≤ 17 ∧ CurStep w w' g
theorem DSt.post {w wr : World} {g : Nat} {v : Value} {ds : List DW} (h : DSt w wr g v ds) (hl : ds.length ≤ 17) : DrawPost w g (.returned v) wr := by
  have hown := h.own
  rcases hown.2 with ⟨hv, h0⟩ | ⟨G, cap', cur', hv, _⟩
  · subst hv
    refine ⟨none, 0, ds, by rw [h0], ?_, h.wf, hl, h.cur, h.gr⟩
    rw [h0]; rw [h0] at hown; exact hown
  · subst hv
    exact ⟨_, _, ds, rfl, hown, h.wf, hl, h.cur, h.gr⟩

theorem run_make17 (W : World) : (Instr.makeSlice 83 (.int .i64 17) (.int .i64 17)).run Try.prog W = .ok (.slice (some ⟨W.heap.size, 0, none⟩) 17 17) (W.alloc (.cells (madeCells #[.complex .f64 0 0, .complex .f64 0 0] (2 * 17)) 131)) := by
  obtain ⟨i0, hi0, hz0, hz1, hz2'⟩ := info_parts wide_info
  have hm := run_makeSlice W 83 131 i0 (.agg #[.complex .f64 0 0, .complex .f64 0 0]) Try.underlying83 hi0 hz0 .i64 .i64 17 17 (by omega) (by omega) (by rw [hz1]; decide) (by rw [hz2']; decide) (by omega)
  rw [hz1] at hm
  exact hm
theorem made17 {w wr : World} {g : Nat} {v : Value} {ds : List DW} (h : DSt w wr g v ds) : DrawPost w g (.returned (.slice (some ⟨wr.heap.size, 0, none⟩) 17 17)) (wr.alloc (.cells (madeCells #[.complex .f64 0 0, .complex .f64 0 0] (2 * 17)) 131)) := by
  refine ⟨some ⟨wr.heap.size, 0, none⟩, 17, List.replicate 17 (0, 0, 0, 0), rfl, ⟨by simp [flatD, modeD], .inr ⟨wr.heap.size, 17, _, rfl, h.gr.size, heap_alloc_new wr _, by simp, by simp [maxLen], by simp [size_madeCells], ?_⟩⟩, ?_, by simp, (h.alloc _).cur, (h.alloc _).gr⟩
  · kernel_rfl
  · intro m hm
    obtain ⟨_, rfl⟩ := List.mem_replicate.1 hm
    have h0 : wfk .f64 0 := by rw [wfk_64]; omega
    exact ⟨h0, h0, h0, h0⟩

section
attribute [local go_sem] alloc_drewN setCell_drewN
set_option maxRecDepth 100000 in
set_option maxHeartbeats 2000000 in
theorem l6Draw_any (g : Nat) (w : World) (h : Cur w g) : Calls Try.prog 117 #[.pointer (some ⟨g, 0, none⟩)] w (DrawPost w g) := by
  have hg := h.lt
  have S0 : Hid (DSt w (w.alloc (.cells #[] 131)) g (.slice (some ⟨w.heap.size, 0, none⟩) 0 0) []) := by
    refine ⟨h.alloc _, ⟨rfl, rfl, rfl, by simp, fun i hi _ => Below.heap_alloc w _ i hi⟩, hg, ⟨by simp [flatD], .inr ⟨w.heap.size, 0, #[], rfl, Nat.le_refl _, heap_alloc_new w _, Nat.le_refl _, by simp [maxLen], by simp, by simp [flatD]⟩⟩, fun m hm => by cases hm⟩
  clear h
  go_enter Try.func117, Try.ntmps117
  go_wp2_with fail
  generalize w.alloc (.cells #[] 131) = W0 at *
  refine (below_any g 5 _ S0.out.cur (by omega) (by omega)).mono ?_
  rintro e W1 ⟨k0, rfl, ⟨hk0, hk1⟩, s1⟩
  have S1 := Lib.hid (S0.out.step s1)
  clear S0 s1
  go_wp2_with fail
  go_loopw [3, 4] (fun v kk wr => ∃ (j : Int) (ds : List DW), kk = .int .i64 j ∧ 0 ≤ j ∧ j + ds.length ≤ 4 ∧ Hid (DSt w wr g v ds)) (fun _ kk _ => (intOf kk).toNat)
  case atStart => exact ⟨k0, [], rfl, hk0, by simp; omega, S1⟩
  case round =>
    clear S1
    obtain ⟨j, ds, rfl, hj0, hjm, hS⟩ := hrel
    obtain ⟨v, hv⟩ : ∃ v, u3 = v := ⟨_, rfl⟩
    subst hv
    by_cases hp : 0 < j
    · go_wp2_with fail
      refine (turn_any g _ hS.out.cur).mono ?_
      rintro e W2 ⟨a, b, rfl, wa, wb, s2⟩
      have S2 := Lib.hid (hS.out.step s2)
      clear hS s2
      go_wp2_with fail
      refine (some_any g _ (S2.out.drewN _).cur).mono ?_
      rintro e W3 ⟨y, rfl, wy, s3⟩
      have S3 := Lib.hid ((S2.out.drewN _).step s3)
      clear S2 s3
      go_wp2_with fail
      refine (some_any g _ (S3.out.drewN _).cur).mono ?_
      rintro e W4 ⟨z, rfl, wz, s4⟩
      have S4 := Lib.hid ((S3.out.drewN _).step s4)
      clear S3 s4
      have HS0 : Hid (∀ a b c d, WfD (a, b, c, d) → DMid w (W4.alloc (.cells #[.complex .f64 a b, .complex .f64 c d] 131)) g u3 ds W4.heap.size) := fun a b c d hw =>
        ⟨S4.out.alloc _, S4.out.gr.size, fun q hq => (S4.out.own.lt q hq).2, a, b, c, d, hw, heap_alloc_new W4 _⟩
      have HSz := Lib.hid S4.out.gr.size
      clear S4
      go_wp2_with fail
      have M0 := Lib.hid ((HS0.out (cR .f32 a .f64 W2) (cR .f32 b .f64 (W2.drewN (cN .f32 a .f64))) (fR .quo .f64 y 4652218415073722368 W3) (fR .quo .f64 z 4652218415073722368 W4) ⟨cR_lt wa W2, cR_lt wb (W2.drewN (cN .f32 a .f64)), fR_lt .quo .f64 y 4652218415073722368 W3, fR_lt .quo .f64 z 4652218415073722368 W4⟩).drewN (fN .quo .f64 z 4652218415073722368))
      clear HS0
      generalize (W4.alloc (.cells #[.complex .f64 (cR .f32 a .f64 W2) (cR .f32 b .f64 (W2.drewN (cN .f32 a .f64))), .complex .f64 (fR .quo .f64 y 4652218415073722368 W3) (fR .quo .f64 z 4652218415073722368 W4)] 131)).drewN (fN .quo .f64 z 4652218415073722368) = W5 at *
      generalize W4.heap.size = M at *
      clear wa wb wy wz
      refine (below_any g 4 _ M0.out.cur (by omega) (by omega)).mono ?_
      rintro e W6 ⟨x, rfl, hx, s6⟩
      have M6 := Lib.hid (M0.out.step s6)
      clear M0 s6
      go_upto_block 2 with fail
      go_cut [] (fun wx => Hid (DMid w wx g u3 ds M))
      case first =>
        by_cases x0 : x = 0
        · subst x0
          go_wp2_with fail
          obtain ⟨a, b, c, d, hwf, hm⟩ := M6.out.m
          have hS : W6.drew.cell? ⟨M, 0, none⟩ = some (.complex .f64 a b) := (wm_cells hm).1
          have HM1 := Lib.hid (M6.out.drewN 1)
          clear hm hwf
          refine wp_region_last (fun w' => w'.cell? ⟨M, 0, none⟩ = some (.complex .f64 a b)) 8 (by kernel_rfl) hS (fun hHeld => ?_)
          have HM1' : Hid (DMid w W6.drew g u3 ds M) := HM1
          clear HM1 M6
          generalize W6.drew = Wb at *
          refine wpAnyX_take [0, 1, 6, 8] (i := 0) (oi := _) (v := ?_) rfl (by kernel_rfl) (by kernel_rfl) (by kernel_rfl) (by kernel_rfl) (fun _ _ _ h => h) (Or.inl ⟨by rfl, ?_⟩) (by assumption) ?_
          rotate_left
          · (intro w hSw; (try dsimp only at hSw); go_simp; try (with_reducible rfl))
          (try simp only [Act.put, List.setIfInBounds_toArray, List.set_cons_zero, List.set_cons_succ])
          refine wpAnyX_take [1, 6, 8] (i := 1) (oi := _) (v := ?_) rfl (by kernel_rfl) (by kernel_rfl) (by kernel_rfl) (by kernel_rfl) (fun _ _ _ h => h) (Or.inl ⟨by rfl, ?_⟩) (by assumption) ?_
          rotate_left
          · (intro w hSw; (try dsimp only at hSw); go_simp; try (with_reducible rfl))
          (try simp only [Act.put, List.setIfInBounds_toArray, List.set_cons_zero, List.set_cons_succ])
          refine wpAnyX_take [2, 3, 4, 5, 6, 8] (i := 2) (oi := _) (v := ?_) rfl (by kernel_rfl) (by kernel_rfl) (by kernel_rfl) (by kernel_rfl) (fun _ _ _ h => h) (Or.inl ⟨by rfl, ?_⟩) (by assumption) ?_
          rotate_left
          · (intro w hSw; (try dsimp only at hSw); go_simp; try (with_reducible rfl))
          (try simp only [Act.put, List.setIfInBounds_toArray, List.set_cons_zero, List.set_cons_succ])
          refine wpAnyX_ready (i := 3) (o := _) (by kernel_rfl) rfl (fun K hK => ?_)
          go_simp
          refine (below_any g 1000 _ HM1'.out.cur (by omega) (by omega)).mono ?_
          rintro e w2 ⟨x, rfl, hx, s2⟩
          have HM2 := Lib.hid (HM1'.out.step s2)
          have hS2 : w2.cell? ⟨M, 0, none⟩ = some (.complex .f64 a b) := (World.cell?_of_block (HM1'.out.kept s2)).trans hHeld
          clear HM1' hHeld s2
          go_wp2_with fail
          refine hK.out _ _ ?_ (fun hHelda => ?_)
          · exact hS2
          clear hK K
          (try simp only [Act.put, List.setIfInBounds_toArray, List.set_cons_zero, List.set_cons_succ])
          refine wpAnyX_take [4, 5, 6, 8] (i := 4) (oi := _) (v := ?_) rfl (by kernel_rfl) (by kernel_rfl) (by kernel_rfl) (by kernel_rfl) (fun _ _ _ h => h) (Or.inl ⟨by rfl, ?_⟩) (by assumption) ?_
          rotate_left
          · (intro w hSw; (try dsimp only at hSw); go_simp; try (with_reducible rfl))
          (try simp only [Act.put, List.setIfInBounds_toArray, List.set_cons_zero, List.set_cons_succ])
          refine wpAnyX_ready (i := 5) (o := _) (by kernel_rfl) rfl (fun K hK => ?_)
          go_simp
          refine hK.out _ _ ?_ (fun hHeldb => ?_)
          · exact hS2
          clear hK K
          (try simp only [Act.put, List.setIfInBounds_toArray, List.set_cons_zero, List.set_cons_succ])
          refine wpAnyX_ready (i := 6) (o := _) (by kernel_rfl) rfl (fun K hK => ?_)
          go_simp
          refine (specScaleD_any a b _ _).mono ?_
          rintro e w' ⟨p, q, n, rfl, wp, wq, rfl⟩
          go_wp2_with fail
          refine hK.out _ _ ?_ (fun hHeldc => ?_)
          · exact hS2
          clear hK K
          (try simp only [Act.put, List.setIfInBounds_toArray, List.set_cons_zero, List.set_cons_succ])
          refine wpAnyX_take [7, 8] (i := 7) (oi := _) (v := ?_) rfl (by kernel_rfl) (by kernel_rfl) (by kernel_rfl) (by kernel_rfl) (fun _ _ _ h => h) (Or.inl ⟨by rfl, ?_⟩) (by assumption) ?_
          rotate_left
          · (intro w hSw; (try dsimp only at hSw); go_simp; try (with_reducible rfl))
          (try simp only [Act.put, List.setIfInBounds_toArray, List.set_cons_zero, List.set_cons_succ])
          have HF := Lib.hid (fun o => HM2.out.frozen o)
          have HP := Lib.hid (HM2.out.set0 wp wq)
          have fz : w2.frozen? ⟨M, 0, none⟩ = false := HF.out 0
          refine wpAnyX_last (o := _) (by kernel_rfl) rfl (fun K hK => ?_)
          go_simp
          refine hK.out _ _ ?_
          clear hK K
          (try simp only [Act.put, List.setIfInBounds_toArray, List.set_cons_zero, List.set_cons_succ])
          refine wpAnyX_done (by kernel_rfl) ?_ _
          go_wp2_with fail
          go_meet
          exact HP.out.same rfl rfl rfl rfl
        · by_cases x1 : x = 1
          · subst x1
            go_wp2_with fail
            refine (below_any g 1000001 _ M6.out.cur (by omega) (by omega)).mono ?_
            rintro e w2 ⟨y1, rfl, hy1, s2⟩
            have M7 := Lib.hid (M6.out.step s2)
            clear M6 s2
            go_wp2_with fail
            refine (below_any g 1000001 _ (M7.out.drewN _).cur (by omega) (by omega)).mono ?_
            rintro e w3 ⟨y2, rfl, hy2, s3⟩
            have M8 := Lib.hid ((M7.out.drewN _).step s3)
            clear M7 s3
            have hc : w3.frozen? ⟨M, 0, none⟩ = false := M8.out.frozen 0
            have HP := Lib.hid (fun x y (wx : wfk .f64 x) (wy : wfk .f64 y) => M8.out.set0 wx wy)
            obtain ⟨_, _, _, _, _, hm⟩ := M8.out.m
            have hc0 := (wm_cells hm).1
            clear M8 hm
            go_wp2_with fail
            go_meet
            exact (HP.out _ _ (fR_lt _ _ _ _ _) (fR_lt _ _ _ _ _)).same rfl rfl rfl rfl
          · have q0 : (x == 0) = false := by simp; omega
            have q1 : (x == 1) = false := by simp; omega
            go_wp2_with fail
            go_meet
            exact M6.out
      case rest =>
        have M7 := Lib.hid hcut.out
        clear hcut M6
        go_wp2_with fail
        refine (once_any g 25 _ M7.out.cur (by omega) (by omega)).mono ?_
        rintro e W7 ⟨t1, rfl, s7⟩
        have M8 := Lib.hid (M7.out.step s7)
        clear M7 s7
        go_upto_if 49 with fail
        go_cut [] (fun wx => Hid (DMid w wx g u3 ds M))
        case first =>
          cases t1
          · go_wp2_with fail
            go_meet
            exact M8.out
          · go_wp2_with fail
            refine (double_any g _ M8.out.cur).mono ?_
            rintro e w3 ⟨p, q, rfl, wp, wq, s3⟩
            have M9 := Lib.hid (M8.out.step s3)
            clear M8 s3
            have hc : w3.frozen? ⟨M, 0, none⟩ = false := M9.out.frozen 0
            obtain ⟨_, _, _, _, _, hm⟩ := M9.out.m
            have hc0 := (wm_cells hm).1
            clear hm
            go_wp2_with fail
            go_meet
            exact M9.out.set0 wp wq
        case rest =>
          have M9 := Lib.hid hcut.out
          clear hcut M8
          go_wp2_with fail
          refine (once_any g 25 _ M9.out.cur (by omega) (by omega)).mono ?_
          rintro e W9 ⟨t2, rfl, s9⟩
          have M10 := Lib.hid (M9.out.step s9)
          clear M9 s9
          go_upto_if 54 with fail
          go_cut [] (fun wx => Hid (DMid w wx g u3 ds M))
          case first =>
            cases t2
            · go_wp2_with fail
              go_meet
              exact M10.out
            · go_wp2_with fail
              refine (double_any g _ M10.out.cur).mono ?_
              rintro e w3 ⟨p, q, rfl, wp, wq, s3⟩
              have M11 := Lib.hid (M10.out.step s3)
              clear M10 s3
              have hc : w3.frozen? ⟨M, 1, none⟩ = false := M11.out.frozen 1
              obtain ⟨_, _, _, _, _, hm⟩ := M11.out.m
              have hc0 := (wm_cells hm).2
              clear hm
              go_wp2_with fail
              go_meet
              exact M11.out.set1 wp wq
          case rest =>
            have M11 := Lib.hid hcut.out
            clear hcut M10
            obtain ⟨a1, b1, c1, d1, hwf, hm⟩ := M11.out.m
            have HWF := Lib.hid hwf
            obtain ⟨hc0, hc1⟩ := wm_cells hm
            have hsz := M11.out.gr.size
            clear hwf hm
            go_wp2_with (at_builtin; refine wpList_app2 rfl (.tmp 58) (.tmp 60) 83 rfl w.heap.size 131 (.agg #[.complex .f64 0 0, .complex .f64 0 0]) 32 Try.underlying83 wide_info rfl u3 ds.length (flatD ds) _ _ rfl rfl rfl rfl M11.out.own hsz (by omega) (by omega) ?_; intro v' w' hown' hbel')
            go_roundw
            case rel => exact ⟨j - 1, ds ++ [(a1, b1, c1, d1)], by go_num, by omega, by simp; omega, DSt.app M11.out.toDSt HWF.out hown' hbel'⟩
            case measure => simp [intOf]; omega
    · have hmk := fun W => run_make17 W
      go_wp2_with fail
      refine (once_any g 40 _ hS.out.cur (by omega) (by omega)).mono ?_
      rintro e W2 ⟨t, rfl, s2⟩
      have S2 := Lib.hid (hS.out.step s2)
      clear hS s2
      cases t
      · go_wp2_with fail
        go_ret
        exact S2.out.post (by omega)
      · go_wp2_with fail
        go_ret
        exact made17 S2.out
end
end Go.Proofs.Ytignncjmbcdpaaa

/-
spec.AreWide, spec.MakeWide: wide modes that are valid.
-/
namespace Go.Proofs.Ytignncjmbcdpaaa
open Go Go.RowKit Ieee

theorem finW_of {a b : Nat} (h : (feq .f64 (fo .sub .f64 a a) 0 && feq .f64 (fo .sub .f64 b b) 0) = true) : fin .f64 a ∧ fin .f64 b := by
  rw [Bool.and_eq_true] at h
  exact ⟨fin_of_sub h.1, fin_of_sub h.2⟩

set_option maxRecDepth 100000 in
set_option maxHeartbeats 1000000 in
theorem specWide_any (A : Option Addr) (c lo hi : Nat) (ds : List DW) (w : World) (h : OwnD w lo hi A c ds) (hh : hi ≤ w.heap.size) (hwf : ∀ m ∈ ds, WfD m) (hl : ds.length ≤ 17) :
    Calls Try.prog 118 #[.slice A ds.length c] w fun e w' => ∃ t, e = .returned (.bool t) ∧ (t = true → WidesOk ds ∧ ds.length ≤ 16) ∧ Below w.heap.size w w' := by
  have HW := Lib.hid h
  have HF : Hid (∀ k, k < ds.length → WfD (dAt ds k)) := fun k hk => by
    have : dAt ds k ∈ ds := by
      simp only [dAt, List.getD, List.getElem?_eq_getElem hk, Option.getD_some]
      exact List.getElem_mem hk
    exact hwf _ this
  clear h hwf
  go_enter Try.func118, Try.ntmps118
  go_wp2_with fail
  go_loopw [7] (fun i wr => ∃ (k : Nat), i = .int .i64 (k : Int) ∧ k ≤ ds.length ∧ Hid (∀ i, i < k → WideOk (dAt ds i).1 (dAt ds i).2.1 (dAt ds i).2.2.1 (dAt ds i).2.2.2) ∧ Hid (Below w.heap.size w wr)) (fun i _ => ds.length - (intOf i).toNat)
  case atStart => exact ⟨0, rfl, by omega, fun i hi => absurd hi (Nat.not_lt_zero _), Below.refl _ _⟩
  case round =>
    obtain ⟨k, rfl, hk, hok, hbel⟩ := hrel
    by_cases hlt : k < ds.length
    · obtain ⟨b, rfl, hb1, hb2, hlc, hmx, hcell⟩ := (HW.out.below hbel.out hh).cells (by omega)
      obtain ⟨e1, e2⟩ := hcell k hlt
      have e1' : wr.cell? ⟨b, k * 2, none⟩ = some (.complex .f64 (dAt ds k).1 (dAt ds k).2.1) := e1
      have e2' : wr.cell? ⟨b, k * 2 + 1, none⟩ = some (.complex .f64 (dAt ds k).2.2.1 (dAt ds k).2.2.2) := e2
      have HS : Hid (WideOk (dAt ds k).1 (dAt ds k).2.1 (dAt ds k).2.2.1 (dAt ds k).2.2.2 → ∀ i, i < k + 1 → WideOk (dAt ds i).1 (dAt ds i).2.1 (dAt ds i).2.2.1 (dAt ds i).2.2.2) := fun h i hi => by
        rcases Nat.lt_or_ge i k with h1 | h1
        · exact hok.out i h1
        · obtain rfl : i = k := by omega
          exact h
      have HFk := Lib.hid (HF.out k hlt)
      clear e1 e2 hcell hok
      obtain ⟨m, hm⟩ : ∃ m, dAt ds k = m := ⟨_, rfl⟩
      rw [hm] at e1' e2' HS HFk
      clear hm
      obtain ⟨a, b0, c0, d⟩ := m
      have e1' : wr.cell? ⟨b, k * 2, none⟩ = some (.complex .f64 a b0) := e1'
      have e2' : wr.cell? ⟨b, k * 2 + 1, none⟩ = some (.complex .f64 c0 d) := e2'
      have HS : Hid (WideOk a b0 c0 d → ∀ i, i < k + 1 → WideOk (dAt ds i).1 (dAt ds i).2.1 (dAt ds i).2.2.1 (dAt ds i).2.2.2) := HS
      have HB : Hid (Below w.heap.size w (wr.alloc (.cells #[.complex .f64 a b0, .complex .f64 c0 d] 131))) := hbel.out.alloc hbel.out.size _
      obtain ⟨c1, c2⟩ := wm_cells (heap_alloc_new wr (.cells #[.complex .f64 a b0, .complex .f64 c0 d] 131))
      go_wp2_with fail
      generalize wr.alloc (.cells #[.complex .f64 a b0, .complex .f64 c0 d] 131) = Wa at *
      clear e1' e2' hbel
      refine (specFinite_any a b0 _).mono ?_
      rintro e w' ⟨n1, rfl, rfl⟩
      cases t1 : (feq .f64 (fo .sub .f64 a a) 0 && feq .f64 (fo .sub .f64 b0 b0) 0)
      · go_wp2_with fail
        go_ret
        exact ⟨_, rfl, (fun h => by cases h), below_drewN HB.out _⟩
      have F1 := Lib.hid (finW_of t1)
      clear t1
      go_wp2_with fail
      refine (specFinite_any c0 d _).mono ?_
      rintro e w' ⟨n2, rfl, rfl⟩
      cases t2 : (feq .f64 (fo .sub .f64 c0 c0) 0 && feq .f64 (fo .sub .f64 d d) 0)
      · go_wp2_with fail
        go_ret
        exact ⟨_, rfl, (fun h => by cases h), below_drewN HB.out _⟩
      have F2 := Lib.hid (finW_of t2)
      clear t2
      go_wp2_with fail
      refine (l2Square_any _ _ _).mono ?_
      rintro e w' ⟨r, n3, rfl, hr, rfl⟩
      have Hr := Lib.hid hr
      clear hr
      cases t3 : fle .f64 r 4607182418800017408
      · go_wp2_with fail
        go_ret
        exact ⟨_, rfl, (fun h => by cases h), below_drewN HB.out _⟩
      go_wp2_with fail
      refine (l2Gain_any _ _ _).mono ?_
      rintro e w' ⟨rfl, rfl⟩
      cases t4 : (fle .f64 (absB c0) 4652218415073722368 && fle .f64 (absB d) 4652218415073722368)
      · go_wp2_with fail
        go_ret
        exact ⟨_, rfl, (fun h => by cases h), below_drewN HB.out _⟩
      have F4 := Lib.hid t4
      have F3 := Lib.hid t3
      clear t4 t3
      go_wp2_with fail
      go_roundw
      case rel =>
        refine ⟨k + 1, by go_num, by omega, HS.out ⟨HFk.out.1, HFk.out.2.1, HFk.out.2.2.1, HFk.out.2.2.2, F1.out.1, F1.out.2, F2.out.1, F2.out.2, ?_, ?_⟩, below_drewN HB.out _⟩
        · rw [← F3.out]; exact fle_congr (by rw [Hr.out]) rfl
        · have := F4.out; rw [Bool.and_eq_true] at this; exact this
      case measure => simp [intOf]; omega
    · have hkn : ds.length = k := by omega
      subst hkn
      have HO : Hid (WidesOk ds) := fun m hm => by
        obtain ⟨i, hi, rfl⟩ := List.getElem_of_mem hm
        have := hok.out i hi
        have e : dAt ds i = ds[i] := by simp [dAt, List.getD, List.getElem?_eq_getElem hi]
        rw [e] at this; exact this
      by_cases h16 : ds.length ≤ 16
      · go_wp2_with fail
        go_ret
        exact ⟨_, rfl, fun _ => ⟨HO.out, h16⟩, hbel.out⟩
      · go_wp2_with fail
        go_ret
        refine ⟨_, rfl, fun h => ?_, hbel.out⟩
        simp at h; omega

def WidePost (w : World) (e : Ending) (w' : World) : Prop :=
  ∃ (A' : Option Addr) (c : Nat) (ds : List DW), e = .returned (.slice A' ds.length c) ∧ OwnD w' w.heap.size w'.heap.size A' c ds ∧ WidesOk ds ∧ ds.length ≤ 16 ∧ Below w.heap.size w w'
set_option maxRecDepth 100000 in
set_option maxHeartbeats 400000 in
theorem makeWide_any (A : Option Addr) (cp : Nat) (bs : List Int) (w : World) (hr : Rd w A (bs.map (.int .u8))) (hm : bs.length ≤ 1048576) :
    Calls Try.prog 68 #[.slice A bs.length cp] w (WidePost w) := by
  go_enter Try.func68, Try.ntmps68
  go_wp2_with fail
  refine (new_any A cp bs _ hr hm).mono ?_
  rintro e w1 ⟨g, rfl, hg, hcur, hb1⟩
  have HB1 := Lib.hid hb1
  clear hb1
  go_wp2_with fail
  refine (l6Draw_any g _ hcur).mono ?_
  intro e w2 hp
  unfold DrawPost at hp
  obtain ⟨A', c', ds, rfl, ho, hwf, hl, hs⟩ := hp
  have hlo : w.heap.size ≤ w1.heap.size := HB1.out.size
  have HB2 : Hid (Below w.heap.size w w2) := HB1.out.trans (below_of_step hs (by omega) HB1.out.size)
  have HO : Hid (OwnD w2 w1.heap.size w2.heap.size A' c' ds) := OwnD.of ho
  have HWF := Lib.hid hwf
  clear ho hwf hs hcur
  go_wp2_with fail
  refine (specWide_any A' c' _ _ ds w2 HO.out (Nat.le_refl _) HWF.out hl).mono ?_
  rintro e w3 ⟨t, rfl, hok, hb3⟩
  have hs3 := hb3.size
  have HB3 : Hid (Below w.heap.size w w3) := HB2.out.trans (hb3.mono HB2.out.size)
  have HO3 : Hid (OwnD w3 w1.heap.size w2.heap.size A' c' ds) := HO.out.below hb3 (Nat.le_refl _)
  have HOK := Lib.hid hok
  clear hok hb3
  cases t
  · go_wp2_with fail
    go_ret
    refine ⟨none, 0, [], rfl, ⟨⟨rfl, .inl ⟨rfl, rfl⟩⟩, fun k hk => (by cases hk)⟩, fun m hm => (by cases hm), (by simp), HB3.out⟩
  · go_wp2_with fail
    go_ret
    obtain ⟨k1, k2⟩ := HOK.out trivial
    refine ⟨A', c', ds, rfl, ⟨(HO3.out.low (by omega)).1, fun k hk => ?_⟩, k1, k2, HB3.out⟩
    have := HO3.out.2 k hk
    omega
end Go.Proofs.Ytignncjmbcdpaaa

/-
spec.MakeInput: samples, whatever they are.
-/
namespace Go.Proofs.Ytignncjmbcdpaaa
open Go Go.RowKit Ieee

/-- The state of spec.l2Input. -/
structure ISt (w wr : World) (g : Nat) (v : Value) (xs : List Nat) : Prop where
  cur : Cur wr g
  gr : w.grownBy wr (some g)
  hg : g < w.heap.size
  own : wr.ownsRow w.heap.size 25 1 v xs.length (f32s xs)
  wf : ∀ x ∈ xs, wfk .f32 x
theorem ISt.keep {w wr wr' : World} {g : Nat} {v : Value} {xs : List Nat} (h : ISt w wr g v xs) (hc : Cur wr' g) (hg : w.grownBy wr' (some g)) (hk : ∀ q, v.ownBlock = some q → wr'.heap[q]? = wr.heap[q]?) : ISt w wr' g v xs := by
  refine ⟨hc, hg, h.hg, ?_, h.wf⟩
  obtain ⟨h1, h2⟩ := h.own
  refine ⟨h1, ?_⟩
  rcases h2 with h2 | ⟨G, cap, cur, e1, e2, e3, e4⟩
  · exact .inl h2
  · exact .inr ⟨G, cap, cur, e1, e2, (hk G (by rw [e1]; rfl)).trans e3, e4⟩
theorem ISt.step {w wr wr' : World} {g : Nat} {v : Value} {xs : List Nat} (h : ISt w wr g v xs) (s : CurStep wr wr' g) : ISt w wr' g v xs :=
  h.keep s.1 (grown_trans h.gr s.2) fun q hq => s.2.block q (h.own.lt q hq).2 (by intro e; injection e with e; have := (h.own.lt q hq).1; have := h.hg; omega)
theorem ISt.drewN {w wr : World} {g : Nat} {v : Value} {xs : List Nat} (h : ISt w wr g v xs) (n : Nat) : ISt w (wr.drewN n) g v xs := h.keep h.cur (grown_drewN h.gr n) fun _ _ => rfl
theorem ISt.app {w wr w' : World} {g : Nat} {v v' : Value} {xs : List Nat} {x : Nat} (h : ISt w wr g v xs) (hx : wfk .f32 x) (hown : w'.ownsRow w.heap.size 25 1 v' (xs.length + 1) (f32s xs ++ [.float .f32 x])) (hb : Below w.heap.size wr w') : ISt w w' g v' (xs ++ [x]) := by
  refine ⟨h.cur.below hb h.hg, ⟨hb.os.trans h.gr.os, hb.tape.trans h.gr.tape, hb.output.trans h.gr.output, Nat.le_trans h.gr.size hb.size, fun i hi hn => (hb.block i hi).trans (h.gr.block i hi hn)⟩, h.hg, ?_, ?_⟩
  · simpa [f32s] using hown
  · intro y hy
    rcases List.mem_append.1 hy with hy | hy
    · exact h.wf y hy
    · simp at hy; subst hy; exact hx
/-- What spec.l2Input returns. -/
def InputPost (w : World) (g : Nat) (e : Ending) (w' : World) : Prop :=
  ∃ (A : Option Addr) (c : Nat) (xs : List Nat), e = .returned (.slice A xs.length c) ∧ Rd w' A (f32s xs) ∧ (∀ x ∈ xs, wfk .f32 x) ∧ xs.length ≤ 8 ∧ CurStep w w' g
theorem ISt.post {w wr : World} {g : Nat} {v : Value} {xs : List Nat} (h : ISt w wr g v xs) (hl : xs.length ≤ 8) : InputPost w g (.returned v) wr := by
  obtain ⟨A', cap, hv, _, hrd⟩ := own_rd h.own
  subst hv
  exact ⟨A', cap, xs, rfl, hrd, h.wf, hl, h.cur, h.gr⟩

section
attribute [local go_sem] alloc_drewN setCell_drewN
set_option maxRecDepth 100000 in
set_option maxHeartbeats 1000000 in
theorem l2Input_any (g : Nat) (w : World) (h : Cur w g) : Calls Try.prog 108 #[.pointer (some ⟨g, 0, none⟩)] w (InputPost w g) := by
  have hg := h.lt
  have S0 : Hid (ISt w (w.alloc (.cells #[] 25)) g (.slice (some ⟨w.heap.size, 0, none⟩) 0 0) []) :=
    ⟨h.alloc _, ⟨rfl, rfl, rfl, by simp, fun i hi _ => Below.heap_alloc w _ i hi⟩, hg, owns_empty w 25, fun m hm => by cases hm⟩
  clear h
  go_enter Try.func108, Try.ntmps108
  go_wp2_with fail
  generalize w.alloc (.cells #[] 25) = W0 at *
  refine (below_any g 9 _ S0.out.cur (by omega) (by omega)).mono ?_
  rintro e W1 ⟨k0, rfl, ⟨hk0, hk1⟩, s1⟩
  have S1 := Lib.hid (S0.out.step s1)
  clear S0 s1
  go_wp2_with fail
  go_loopw [3, 4] (fun v kk wr => ∃ (j : Int) (xs : List Nat), kk = .int .i64 j ∧ 0 ≤ j ∧ j + xs.length ≤ 8 ∧ Hid (ISt w wr g v xs)) (fun _ kk _ => (intOf kk).toNat)
  case atStart => exact ⟨k0, [], rfl, hk0, by simp; omega, S1⟩
  case round =>
    clear S1
    obtain ⟨j, xs, rfl, hj0, hjm, hS⟩ := hrel
    by_cases hp : 0 < j
    · go_wp2_with fail
      refine (some_any g _ hS.out.cur).mono ?_
      rintro e W2 ⟨x, rfl, wx, s2⟩
      have S2 := Lib.hid ((hS.out.step s2).drewN (cN .f64 x .f32))
      have HX := Lib.hid (cR_lt wx W2 : wfk .f32 (cR .f64 x .f32 W2))
      clear hS s2
      go_wp2_with fail
      generalize W2.drewN (cN .f64 x .f32) = W3 at *
      generalize cR .f64 x .f32 W2 = y at *
      clear wx
      refine (once_any g 30 _ S2.out.cur (by omega) (by omega)).mono ?_
      rintro e W4 ⟨t, rfl, s4⟩
      have S4 := Lib.hid (S2.out.step s4)
      clear S2 s4
      cases t
      · have hsz := S4.out.gr.size
        go_wp2_with (at_builtin; refine wpList_app1 rfl (.tmp 21) (.tmp 23) 23 rfl w.heap.size 25 (.float .f32 0) 4 Try.underlying23 f32_info rfl u3 xs.length (f32s xs) _ rfl rfl rfl S4.out.own hsz (by omega) (by omega) ?_; intro v' w' hown' hbel')
        go_roundw
        case rel => exact ⟨j - 1, xs ++ [y], by go_num, by omega, by simp; omega, S4.out.app HX.out hown' hbel'⟩
        case measure => simp [intOf]; omega
      · go_wp2_with fail
        refine (any_any g _ S4.out.cur).mono ?_
        rintro e W5 ⟨z, rfl, wz, s5⟩
        have S5 := Lib.hid ((S4.out.step s5).drewN (cN .f64 z .f32))
        have HZ := Lib.hid (cR_lt wz W5 : wfk .f32 (cR .f64 z .f32 W5))
        have hsz := S5.out.gr.size
        clear S4 s5
        go_wp2_with (at_builtin; refine wpList_app1 rfl (.tmp 21) (.tmp 23) 23 rfl w.heap.size 25 (.float .f32 0) 4 Try.underlying23 f32_info rfl u3 xs.length (f32s xs) _ rfl rfl rfl S5.out.own hsz (by omega) (by omega) ?_; intro v' w' hown' hbel')
        go_roundw
        case rel => exact ⟨j - 1, xs ++ [_], by go_num, by omega, by simp; omega, S5.out.app HZ.out hown' hbel'⟩
        case measure => simp [intOf]; omega
    · go_wp2_with fail
      go_ret
      exact hS.out.post (by omega)
end

def MakeInputPost (w : World) (e : Ending) (w' : World) : Prop :=
  ∃ (A : Option Addr) (c : Nat) (xs : List Nat), e = .returned (.slice A xs.length c) ∧ Rd w' A (f32s xs) ∧ (∀ x ∈ xs, wfk .f32 x) ∧ xs.length ≤ 8 ∧ Below w.heap.size w w'
set_option maxRecDepth 100000 in
set_option maxHeartbeats 400000 in
theorem makeInput_any (A : Option Addr) (cp : Nat) (bs : List Int) (w : World) (hr : Rd w A (bs.map (.int .u8))) (hm : bs.length ≤ 1048576) :
    Calls Try.prog 62 #[.slice A bs.length cp] w (MakeInputPost w) := by
  go_enter Try.func62, Try.ntmps62
  go_wp2_with fail
  refine (new_any A cp bs _ hr hm).mono ?_
  rintro e w1 ⟨g, rfl, hg, hcur, hb1⟩
  have HB1 := Lib.hid hb1
  clear hb1
  go_wp2_with fail
  refine (l2Input_any g _ hcur).mono ?_
  intro e w2 hp
  unfold InputPost at hp
  obtain ⟨A', c', xs, rfl, hrd, hwf, hl, hs⟩ := hp
  have HB2 : Hid (Below w.heap.size w w2) := HB1.out.trans (below_of_step hs (by omega) HB1.out.size)
  have HX := Lib.hid (And.intro hrd hwf)
  clear hrd hwf hs hcur
  go_wp2_with fail
  go_ret
  exact ⟨A', c', xs, rfl, HX.out.1, HX.out.2, hl, HB2.out⟩
end Go.Proofs.Ytignncjmbcdpaaa
