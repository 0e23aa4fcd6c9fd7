/-
Part 4 of 4 of the proof of the law FnReciprocal: it returns true for all codes. No condition.
-/
import Derived.Test.YtndnfhhdflmfcaaLawReciprocalM3
import Derived.Lib.AppendZerosOnto
import Derived.Deep.RegionHeld

/-
slices.Grow of nothing; slices.Concat of two slices, of modes and of numbers.
-/
namespace Go.Proofs.Ytndnfhhdflmfcaa
open Go Go.RowKit Ieee

theorem int_under : Try.prog.underlying 3 = some (.int .i64) := by kernel_rfl

/-- Growing nothing by n: an empty row of the call's own. -/
theorem grown_own {w : World} {e : TypeId} {size G : Nat} {cs : Array Value} (hG : G ≤ maxLen) (hs : cs.size = G * size) :
    (w.drew.alloc (.cells cs e)).ownsRow w.heap.size e size (.slice (some ⟨w.heap.size, 0, none⟩) 0 G) 0 [] ∧ Below w.heap.size w (w.drew.alloc (.cells cs e)) := by
  have hb : (w.drew.alloc (.cells cs e)).heap[w.heap.size]? = some (.cells cs e (0, 0)) := heap_alloc_new w.drew _
  refine ⟨⟨by simp, .inr ⟨w.heap.size, G, cs, rfl, Nat.le_refl _, hb, Nat.zero_le _, hG, hs, by simp⟩⟩, ?_⟩
  exact (below_drewN (Below.refl w.heap.size w) 1).alloc (Nat.le_refl _) _

/-- 'append(nil, make([]E, n)...)'. -/
theorem wpList_growNil {P : Program} {w : World} {ops : Array Oper} {rest : List Oper} {o : Oper} {a : Act} {Q : Exit → Act → World → Prop} (hgd : o.guard = none) (s x : Operand) (t tn : TypeId)
    (ho : o.op = .call { callee := .builtin .append, args := #[s, x], argTypes := #[t, tn] })
    (e : TypeId) (z : Value) (size bytes n : Nat) (ht : P.underlying t = some (.slice e)) (htn : P.underlying tn = some (.int .i64)) (hinfo : (P.info? e).map (fun i => (i.zero, i.size, i.bytes)) = some (some z, size, bytes)) (hzs : z.cells.size = size) (hs0 : 0 < size)
    (hs : a.eval s = .slice none 0 0) (hx : a.eval x = .int .i64 (n : Int)) (h0 : 0 < n) (hn : n ≤ 1048576) (hby : bytes ≤ 1024)
    (h : ∀ G w', n ≤ G → G ≤ maxLen → w'.ownsRow w.heap.size e size (.slice (some ⟨w.heap.size, 0, none⟩) 0 G) 0 [] → Below w.heap.size w w' → wpList P ops Q rest (a.put o.dst (.slice (some ⟨w.heap.size, 0, none⟩) n G)) w') : wpList P ops Q (o :: rest) a w := by
  obtain ⟨i0, hi0, hzz⟩ := Option.map_eq_some_iff.1 hinfo
  simp only [Prod.mk.injEq] at hzz
  obtain ⟨hz0, hz1, hz2⟩ := hzz
  have hmul := Nat.mul_le_mul hn hby
  have hcap := grownCap_ge w (0 + n) 0 e
  have hcap2 := grownCap_le_maxLen w (0 + n) 0 e (by simp only [maxLen]; omega)
  have hrz := Lib.run_append_grow_zeros (P := P) w t tn o.type e i0 z .i64 .i64 ht htn hi0 hz0 none 0 0 [] (run_firstCells_none w.drew i0.size 0 0 0) n h0 (by omega) (by omega) (by omega) (by rw [hz2]; omega) (growslice_fits (by omega) (by rw [hz2, Nat.zero_add]; omega))
  have hsz : (([] : List Value).toArray ++ Builtin.zeroCells z.cells n ++ Builtin.zeroCells z.cells (grownCap w (0 + n) 0 e - (0 + n))).size = grownCap w (0 + n) 0 e * size := by
    have e1 : grownCap w (0 + n) 0 e = n + (grownCap w (0 + n) 0 e - (0 + n)) := by omega
    simp only [Array.size_append, List.size_toArray, size_zeroCells, hzs, List.length_nil]
    rw [Nat.zero_add, ← Nat.add_mul, ← e1]
  obtain ⟨o1, o2⟩ := grown_own (w := w) (e := e) hcap2 hsz
  refine wpList_plain hgd fun K hK => ?_
  unfold Oper.wp execOp
  simp only [ho, resolve, invoke, builtin, Sem.run_bind, Sem.run_pure, Result.andThen_ok, List.map_toArray, List.map_cons, List.map_nil, hs, hx, hrz]
  rw [Nat.zero_add] at *
  exact hK _ _ (h _ _ hcap hcap2 o1 o2)

set_option maxRecDepth 100000 in
set_option maxHeartbeats 800000 in
theorem growF_any (n : Nat) (w : World) (hn : n ≤ 64) :
    Calls Try.prog 64 #[.slice none 0 0, .int .i64 n] w fun e w' => ∃ v, e = .returned v ∧ w'.ownsRow w.heap.size 31 1 v 0 [] ∧ Below w.heap.size w w' := by
  by_cases h0 : n = 0
  · subst h0
    go_enter Try.func64, Try.ntmps64
    go_wp2_with fail
    go_ret
    exact ⟨_, rfl, ⟨rfl, .inl ⟨rfl, rfl⟩⟩, Below.refl _ _⟩
  · go_enter Try.func64, Try.ntmps64
    go_wp2_with (at_builtin; refine wpList_growNil rfl (.tmp 20) (.tmp 21) 28 3 rfl 31 (.float .f32 0) 1 4 n Try.underlying28 int_under f32_info rfl (by omega) rfl rfl (by omega) (by omega) (by omega) ?_; intro G w' hG hG2 ho hb)
    go_ret
    exact ⟨_, rfl, ho, hb⟩

set_option maxRecDepth 100000 in
set_option maxHeartbeats 800000 in
theorem growM_any (n : Nat) (w : World) (hn : n ≤ 64) :
    Calls Try.prog 63 #[.slice none 0 0, .int .i64 n] w fun e w' => ∃ v, e = .returned v ∧ w'.ownsRow w.heap.size 74 2 v 0 [] ∧ Below w.heap.size w w' := by
  by_cases h0 : n = 0
  · subst h0
    go_enter Try.func63, Try.ntmps63
    go_wp2_with fail
    go_ret
    exact ⟨_, rfl, ⟨rfl, .inl ⟨rfl, rfl⟩⟩, Below.refl _ _⟩
  · go_enter Try.func63, Try.ntmps63
    go_wp2_with (at_builtin; refine wpList_growNil rfl (.tmp 20) (.tmp 21) 23 3 rfl 74 (.agg #[.complex .f32 0 0, .complex .f32 0 0]) 2 16 n Try.underlying23 int_under mode_info rfl (by omega) rfl rfl (by omega) (by omega) (by omega) ?_; intro G w' hG hG2 ho hb)
    go_ret
    exact ⟨_, rfl, ho, hb⟩

/-- Append of modes that lie at an address, or of none. -/
theorem wpList_appOM {P : Program} {w : World} {ops : Array Oper} {rest : List Oper} {o : Oper} {a : Act} {Q : Exit → Act → World → Prop} (hgd : o.guard = none) (s x : Operand) (t : TypeId)
    (ho : o.op = .call { callee := .builtin .append, args := #[s, x], argTypes := #[t, t] })
    (B : Nat) (e : TypeId) (z : Value) (bytes : Nat) (ht : P.underlying t = some (.slice e)) (hinfo : (P.info? e).map (fun i => (i.zero, i.size, i.bytes)) = some (some z, 2, bytes)) (hzs : z.cells.size = 2)
    (v : Value) (n : Nat) (xs : List Value) (A : Option Addr) (m c : Nat) (news : List Value) (hs : a.eval s = v) (hx : a.eval x = .slice A m c) (hu : ∀ u ∈ news, u.oneCell' = true) (hown : w.ownsRow B e 2 v n xs) (hB : B ≤ w.heap.size)
    (hr : (A = none ∧ m = 0) ∨ ∃ b, A = some ⟨b, 0, none⟩ ∧ ∀ j u, news[j]? = some u → w.cell? ⟨b, j, none⟩ = some u) (hm : news.length = m * 2) (h63 : n + m ≤ 1048576) (hby : bytes ≤ 1024)
    (h : ∀ v' w', w'.ownsRow B e 2 v' (n + m) (xs ++ news) → Below B w w' → wpList P ops Q rest (a.put o.dst v') w') : wpList P ops Q (o :: rest) a w := by
  rcases hr with ⟨rfl, rfl⟩ | ⟨b, rfl, hr⟩
  · have hn : news = [] := List.eq_nil_of_length_eq_zero (by omega)
    subst hn
    obtain ⟨i, hi, _⟩ := Option.map_eq_some_iff.1 hinfo
    refine wpList_plain hgd fun K hK => ?_
    have hrun := run_append_none (P := P) w t o.type e i ht hi hown c
    unfold Oper.wp execOp
    simp only [ho, resolve, invoke, builtin, Sem.run_bind, Sem.run_pure, Result.andThen_ok, List.map_toArray, List.map_cons, List.map_nil, hs, hx, hrun]
    exact hK _ _ (h v w (by simpa using hown) (Below.refl _ _))
  · exact wpList_appM hgd s x t ho B e z bytes ht hinfo hzs v n xs b m c news hs hx hu hown hB hr hm h63 hby h
theorem OwnM.place {w : World} {lo hi c : Nat} {A : Option Addr} {ms : List MW} (h : OwnM w lo hi A c ms) : (A = none ∧ ms.length = 0) ∨ ∃ b, A = some ⟨b, 0, none⟩ ∧ ∀ j u, (flatM ms)[j]? = some u → w.cell? ⟨b, j, none⟩ = some u := by
  rcases h.1.2 with ⟨q, h0⟩ | ⟨g, cap, cur, q, _⟩
  · injection q with q1 _ _
    exact .inl ⟨q1, h0⟩
  · injection q with q1 _ _
    subst q1
    exact .inr ⟨g, rfl, h.flat⟩
/-- The slices of a list of two. -/
structure Two (w : World) (g : Nat) (v1 v2 : Value) : Prop where
  c0 : w.cell? ⟨g, 0, none⟩ = some v1
  c1 : w.cell? ⟨g, 1, none⟩ = some v2

set_option maxRecDepth 100000 in
set_option maxHeartbeats 1600000 in
theorem concatM_any (g : Nat) (T : TypeId) (A1 A2 : Option Addr) (c1 c2 lo1 hi1 lo2 hi2 : Nat) (ms vs : List MW) (w : World) (hg : w.heap[g]? = some (.cells #[.slice A1 ms.length c1, .slice A2 vs.length c2] T (0, 0))) (h1 : OwnM w lo1 hi1 A1 c1 ms) (h2 : OwnM w lo2 hi2 A2 c2 vs) (hh1 : hi1 ≤ w.heap.size) (hh2 : hi2 ≤ w.heap.size) (hl1 : ms.length ≤ 16) (hl2 : vs.length ≤ 16) :
    Calls Try.prog 39 #[.slice (some ⟨g, 0, none⟩) 2 2] w fun e w' => ∃ (A : Option Addr) (c : Nat), e = .returned (.slice A (ms ++ vs).length c) ∧ OwnM w' w.heap.size w'.heap.size A c (ms ++ vs) ∧ Below w.heap.size w w' := by
  have HG := Lib.hid hg
  have H1 := Lib.hid h1
  have H2 := Lib.hid h2
  obtain ⟨r0, r1, _, _⟩ := r_cells hg
  clear hg h1 h2
  have hgl := lt_of_some HG.out
  go_enter Try.func39, Try.ntmps39
  go_wp2_with fail
  go_loopw [3, 5, 11] (fun sz _ i wr => ∃ k : Nat, i = .int .i64 (k : Int) ∧ k ≤ 2 ∧ sz = .int .i64 ((if k = 0 then 0 else if k = 1 then ms.length else ms.length + vs.length : Nat) : Int) ∧ w = wr) (fun _ _ i _ => 2 - (intOf i).toNat)
  case atStart => exact ⟨0, rfl, by omega, rfl, rfl⟩
  case round =>
    obtain ⟨k, rfl, hk, rfl, rfl⟩ := hrel
    have hk3 : k = 0 ∨ k = 1 ∨ k = 2 := by omega
    rcases hk3 with rfl | rfl | rfl
    · go_wp2_with fail
      go_roundw
      case rel => exact ⟨1, by go_num, by omega, by simp, trivial⟩
      case measure => simp [intOf]
    · go_wp2_with fail
      go_roundw
      case rel => exact ⟨2, by go_num, by omega, by simp, trivial⟩
      case measure => simp [intOf]
    · go_wp2_with fail
      have hcon := growM_any (ms.length + vs.length) w (by omega)
      rw [Int.natCast_add] at hcon
      refine hcon.mono ?_
      clear hcon
      rintro e W1 ⟨v0, rfl, ho, hb⟩
      have HO := Lib.hid ho
      have HB := Lib.hid hb
      clear ho hb r0 r1
      go_wp2_with fail
      go_loopw [6, 8, 27] (fun v _ i wr => ∃ k : Nat, i = .int .i64 (k : Int) ∧ k ≤ 2 ∧ Hid (wr.ownsRow w.heap.size 74 2 v (if k = 0 then 0 else if k = 1 then ms.length else ms.length + vs.length) (if k = 0 then [] else if k = 1 then flatM ms else flatM ms ++ flatM vs)) ∧ Hid (Below w.heap.size w wr)) (fun _ _ i _ => 2 - (intOf i).toNat)
      case atStart => exact ⟨0, rfl, by omega, HO.out, HB.out⟩
      case round =>
        clear HO HB
        obtain ⟨k, rfl, hk, HO, HB⟩ := hrel
        obtain ⟨r0, r1, _, _⟩ := r_cells ((HB.out.block g hgl).trans HG.out)
        have hk3 : k = 0 ∨ k = 1 ∨ k = 2 := by omega
        have hbs := HB.out.size
        rcases hk3 with rfl | rfl | rfl
        · have P1 := (H1.out.below HB.out hh1).place
          have HP1 := Lib.hid P1
          have ho : wr.ownsRow w.heap.size 74 2 u6 0 [] := HO.out
          have HOw := Lib.hid ho
          clear P1 ho
          go_wp2_with (at_builtin; refine wpList_appOM rfl (.tmp 31) (.tmp 32) 23 rfl w.heap.size 74 (.agg #[.complex .f32 0 0, .complex .f32 0 0]) 16 Try.underlying23 mode_info rfl u6 0 [] A1 ms.length c1 (flatM ms) rfl rfl (flatM_one ms) HOw.out hbs HP1.out (flatM_len ms) (by omega) (by omega) ?_; intro v' w' hown' hbel')
          go_roundw
          case rel => exact ⟨1, by go_num, by omega, by change World.ownsRow _ _ _ _ _ _ _; simpa using hown', HB.out.trans hbel'⟩
          case measure => simp [intOf]
        · have P1 := (H2.out.below HB.out hh2).place
          have HP1 := Lib.hid P1
          have ho : wr.ownsRow w.heap.size 74 2 u6 ms.length (flatM ms) := HO.out
          have HOw := Lib.hid ho
          clear P1 ho
          go_wp2_with (at_builtin; refine wpList_appOM rfl (.tmp 31) (.tmp 32) 23 rfl w.heap.size 74 (.agg #[.complex .f32 0 0, .complex .f32 0 0]) 16 Try.underlying23 mode_info rfl u6 ms.length (flatM ms) A2 vs.length c2 (flatM vs) rfl rfl (flatM_one vs) HOw.out hbs HP1.out (flatM_len vs) (by omega) (by omega) ?_; intro v' w' hown' hbel')
          go_roundw
          case rel => exact ⟨2, by go_num, by omega, by change World.ownsRow _ _ _ _ _ _ _; simpa using hown', HB.out.trans hbel'⟩
          case measure => simp [intOf]
        · have ho : wr.ownsRow w.heap.size 74 2 u6 (ms.length + vs.length) (flatM ms ++ flatM vs) := HO.out
          have hv : ∃ A c, u6 = .slice A (ms.length + vs.length) c := by
            rcases ho.2 with ⟨rfl, h0⟩ | ⟨G, cap', cur', rfl, _⟩
            · exact ⟨none, 0, by rw [h0]⟩
            · exact ⟨_, _, rfl⟩
          obtain ⟨A, c, rfl⟩ := hv
          have hf : flatM ms ++ flatM vs = flatM (ms ++ vs) := by simp [flatM]
          rw [hf] at ho
          have hlen : ms.length + vs.length = (ms ++ vs).length := by simp
          rw [hlen] at ho
          have HOw := Lib.hid ho
          clear ho
          go_wp2_with fail
          go_ret
          exact ⟨A, c, by rw [← hlen]; rfl, OwnM.of HOw.out, HB.out⟩

theorem f32s_one (xs : List Nat) : ∀ u ∈ f32s xs, u.oneCell' = true := fun u hu => by
  simp [f32s] at hu; obtain ⟨_, _, rfl⟩ := hu; rfl
theorem f32s_len (xs : List Nat) : (f32s xs).length = xs.length := by simp [f32s]

set_option maxRecDepth 100000 in
set_option maxHeartbeats 1600000 in
theorem concatF_any (g : Nat) (T : TypeId) (A1 A2 : Option Addr) (c1 c2 : Nat) (xs ys : List Nat) (w : World) (hg : w.heap[g]? = some (.cells #[.slice A1 xs.length c1, .slice A2 ys.length c2] T (0, 0))) (h1 : Rd w A1 (f32s xs)) (h2 : Rd w A2 (f32s ys)) (hl1 : xs.length ≤ 16) (hl2 : ys.length ≤ 16) :
    Calls Try.prog 40 #[.slice (some ⟨g, 0, none⟩) 2 2] w fun e w' => ∃ (A : Option Addr) (c : Nat), e = .returned (.slice A (xs ++ ys).length c) ∧ w'.ownsRow w.heap.size 31 1 (.slice A (xs ++ ys).length c) (xs ++ ys).length (f32s (xs ++ ys)) ∧ Below w.heap.size w w' := by
  have HG := Lib.hid hg
  have H1 := Lib.hid h1
  have H2 := Lib.hid h2
  obtain ⟨r0, r1, _, _⟩ := r_cells hg
  clear hg h1 h2
  have hgl := lt_of_some HG.out
  go_enter Try.func40, Try.ntmps40
  go_wp2_with fail
  go_loopw [3, 5, 11] (fun sz _ i wr => ∃ k : Nat, i = .int .i64 (k : Int) ∧ k ≤ 2 ∧ sz = .int .i64 ((if k = 0 then 0 else if k = 1 then xs.length else xs.length + ys.length : Nat) : Int) ∧ w = wr) (fun _ _ i _ => 2 - (intOf i).toNat)
  case atStart => exact ⟨0, rfl, by omega, rfl, rfl⟩
  case round =>
    obtain ⟨k, rfl, hk, rfl, rfl⟩ := hrel
    have hk3 : k = 0 ∨ k = 1 ∨ k = 2 := by omega
    rcases hk3 with rfl | rfl | rfl
    · go_wp2_with fail
      go_roundw
      case rel => exact ⟨1, by go_num, by omega, by simp, trivial⟩
      case measure => simp [intOf]
    · go_wp2_with fail
      go_roundw
      case rel => exact ⟨2, by go_num, by omega, by simp, trivial⟩
      case measure => simp [intOf]
    · go_wp2_with fail
      have hcon := growF_any (xs.length + ys.length) w (by omega)
      rw [Int.natCast_add] at hcon
      refine hcon.mono ?_
      clear hcon
      rintro e W1 ⟨v0, rfl, ho, hb⟩
      have HO := Lib.hid ho
      have HB := Lib.hid hb
      clear ho hb r0 r1
      go_wp2_with fail
      go_loopw [6, 8, 27] (fun v _ i wr => ∃ k : Nat, i = .int .i64 (k : Int) ∧ k ≤ 2 ∧ Hid (wr.ownsRow w.heap.size 31 1 v (if k = 0 then 0 else if k = 1 then xs.length else xs.length + ys.length) (if k = 0 then [] else if k = 1 then f32s xs else f32s xs ++ f32s ys)) ∧ Hid (Below w.heap.size w wr)) (fun _ _ i _ => 2 - (intOf i).toNat)
      case atStart => exact ⟨0, rfl, by omega, HO.out, HB.out⟩
      case round =>
        clear HO HB
        obtain ⟨k, rfl, hk, HO, HB⟩ := hrel
        obtain ⟨r0, r1, _, _⟩ := r_cells ((HB.out.block g hgl).trans HG.out)
        have hk3 : k = 0 ∨ k = 1 ∨ k = 2 := by omega
        have hbs := HB.out.size
        rcases hk3 with rfl | rfl | rfl
        · have P1 := H1.out.below HB.out
          have HP1 := Lib.hid P1
          have ho : wr.ownsRow w.heap.size 31 1 u6 0 [] := HO.out
          have HOw := Lib.hid ho
          clear P1 ho
          go_wp2_with (at_builtin; refine wpList_appRd rfl (.tmp 31) (.tmp 32) 28 rfl w.heap.size 31 (.float .f32 0) 4 Try.underlying28 f32_info rfl u6 0 [] A1 xs.length c1 (f32s xs) rfl rfl (f32s_one xs) HOw.out hbs HP1.out (f32s_len xs) (by omega) (by omega) ?_; intro v' w' hown' hbel')
          go_roundw
          case rel => exact ⟨1, by go_num, by omega, by change World.ownsRow _ _ _ _ _ _ _; simpa using hown', HB.out.trans hbel'⟩
          case measure => simp [intOf]
        · have P1 := H2.out.below HB.out
          have HP1 := Lib.hid P1
          have ho : wr.ownsRow w.heap.size 31 1 u6 xs.length (f32s xs) := HO.out
          have HOw := Lib.hid ho
          clear P1 ho
          go_wp2_with (at_builtin; refine wpList_appRd rfl (.tmp 31) (.tmp 32) 28 rfl w.heap.size 31 (.float .f32 0) 4 Try.underlying28 f32_info rfl u6 xs.length (f32s xs) A2 ys.length c2 (f32s ys) rfl rfl (f32s_one ys) HOw.out hbs HP1.out (f32s_len ys) (by omega) (by omega) ?_; intro v' w' hown' hbel')
          go_roundw
          case rel => exact ⟨2, by go_num, by omega, by change World.ownsRow _ _ _ _ _ _ _; simpa using hown', HB.out.trans hbel'⟩
          case measure => simp [intOf]
        · have ho : wr.ownsRow w.heap.size 31 1 u6 (xs.length + ys.length) (f32s xs ++ f32s ys) := HO.out
          have hv : ∃ A c, u6 = .slice A (xs.length + ys.length) c := by
            rcases ho.2 with ⟨rfl, h0⟩ | ⟨G, cap', cur', rfl, _⟩
            · exact ⟨none, 0, by rw [h0]⟩
            · exact ⟨_, _, rfl⟩
          obtain ⟨A, c, rfl⟩ := hv
          have hf : f32s xs ++ f32s ys = f32s (xs ++ ys) := by simp [f32s]
          rw [hf] at ho
          have hlen : xs.length + ys.length = (xs ++ ys).length := by simp
          rw [hlen] at ho
          have HOw := Lib.hid ho
          clear ho
          go_wp2_with fail
          go_ret
          exact ⟨A, c, by rw [← hlen]; rfl, HOw.out, HB.out⟩
end Go.Proofs.Ytndnfhhdflmfcaa

/-
A region that draws its order, ends in a store, and loads what that store writes: 'S', the condition under which a load may be taken first, is not asked behind the last operation (number 'k'), which waits for the loads.
(After the library's Derived/OrdersHeld.lean: there S is asked behind every operation.)
-/
namespace Go.Proofs.Ytndnfhhdflmfcaa
open Go Go.RowKit

section
variable {P : Program} {ops : Array Oper} {Q : Exit → Act → World → Prop} {md : Region.Mode} {S : World → Prop} {k : Nat}

/-- Whatever order is picked from here on; behind each operation but number 'k' S holds. -/
def wpAnyX (P : Program) (md : Region.Mode) (ops : Array Oper) (Q : Exit → Act → World → Prop) (S : World → Prop) (k : Nat) : Nat → Array Bool → Act → World → Prop
  | 0, listed, a, w => Region.ready md ops listed = [] ∧ Q .normal a w
  | fuel + 1, listed, a, w =>
    (Region.ready md ops listed = [] → Q .normal a w) ∧
    ∀ i ∈ Region.ready md ops listed, wpOp P ops Q i (fun a' w' => (i = k ∨ S w') ∧ wpAnyX P md ops Q S k fuel (listed.setIfInBounds i true) a' w') a w

theorem wpAny_of_x : ∀ (fuel : Nat) (listed : Array Bool) (a : Act) (w : World), wpAnyX P md ops Q S k fuel listed a w → wpAny P md ops Q fuel listed a w
  | 0, _, _, _, h => h
  | fuel + 1, _, _, _, h => ⟨h.1, fun i hi => wpOp_mono (fun a' w' h' => wpAny_of_x fuel _ a' w' h'.2) (h.2 i hi)⟩

/-- The operations 'D' wait for 'i', each for another one of them; the last one is among them; none has come up. -/
def waitsB (md : Region.Mode) (ops : Array Oper) (D : List Nat) (i k : Nat) (listed : Array Bool) : Bool :=
  D.contains k && (i != k) && D.all (fun j => !(listed.getD j true)) && D.all (fun j => j == i || match ops[j]? with | some o => o.after.any (fun e => Region.binds md e && D.contains e.on) | none => true)
theorem waitsB_spec {D : List Nat} {i : Nat} {listed : Array Bool} (h : waitsB md ops D i k listed = true) :
    k ∈ D ∧ i ≠ k ∧ (∀ j ∈ D, listed.getD j true = false) ∧ (∀ j ∈ D, j ≠ i → ∀ o, ops[j]? = some o → ∃ e ∈ o.after, Region.binds md e = true ∧ e.on ∈ D) := by
  unfold waitsB at h
  rw [Bool.and_eq_true, Bool.and_eq_true, Bool.and_eq_true] at h
  obtain ⟨⟨⟨h1, h2⟩, h3⟩, h4⟩ := h
  refine ⟨List.contains_iff_mem.1 h1, by simpa using h2, fun j hj => ?_, fun j hj hne o ho => ?_⟩
  · have := List.all_eq_true.1 h3 j hj
    simpa using this
  · have := List.all_eq_true.1 h4 j hj
    rw [ho] at this
    simp only [Bool.or_eq_true, beq_iff_eq] at this
    rcases this with h | h
    · exact absurd h hne
    · rw [Array.any_eq_true'] at h
      obtain ⟨e, he, hb⟩ := h
      rw [Bool.and_eq_true] at hb
      exact ⟨e, he, hb.1, List.contains_iff_mem.1 hb.2⟩

theorem wpAnyX_first {i : Nat} {oi : Oper} {v : Value} {D : List Nat} (hi : ops[i]? = some oi) (hsel : ∀ (j : Nat) (o : Oper) cs b, ops[j]? = some o → o.op ≠ .select cs b)
    (hQ : ∀ c a w, Q (.panic c) (a.put oi.dst v) w → Q (.panic c) a w) (hkD : k ∈ D) (hD : ∀ j ∈ D, j ≠ i → ∀ o, ops[j]? = some o → ∃ e ∈ o.after, Region.binds md e = true ∧ e.on ∈ D) :
    ∀ (fuel : Nat) (listed : Array Bool) (a : Act) (w : World),
      (∀ j oj, ops[j]? = some oj → j ≠ i → listed.getD j true = false → (∀ e ∈ oj.after, Region.binds md e = true → e.on ≠ i) → oi.apart ops oj = true) →
      (∀ j ∈ D, listed.getD j true = false) →
      i ∈ Region.ready md ops listed → YieldsIf P ops S oi v a → S w →
      wpAnyX P md ops Q S k fuel (listed.setIfInBounds i true) (a.put oi.dst v) w → wpAnyX P md ops Q S k (fuel + 1) listed a w := by
  intro fuel
  induction fuel with
  | zero =>
    intro listed a w _ _ hr hy hS H
    refine ⟨fun h => (by rw [h] at hr; cases hr), fun j hj => ?_⟩
    by_cases hji : j = i
    · subst hji; exact hy.wpOp hi hS ⟨.inr hS, H⟩
    · have := ready_mono hj hji
      rw [H.1] at this
      cases this
  | succ fuel ih =>
    intro listed a w hfree hun hr hy hS H
    refine ⟨fun h => (by rw [h] at hr; cases hr), fun j hj => ?_⟩
    by_cases hji : j = i
    · subst hji; exact hy.wpOp hi hS ⟨.inr hS, H⟩
    · have h1 := H.2 j (ready_mono hj hji)
      obtain ⟨hjun, oj, hoj, hall⟩ := mem_ready.1 hj
      have hun' : ∀ e : Nat, listed[e]? = some true → listed.getD e true = false → False := fun e h1 h0 => by
        rcases Nat.lt_or_ge e listed.size with h' | h'
        · simp [h'] at h0 h1; rw [h0] at h1; cases h1
        · simp [Array.getElem?_eq_none h'] at h1
      have hnot : ∀ e ∈ oj.after, Region.binds md e = true → e.on ≠ i := fun e he hb heq => by
        have h1 := hall e he hb
        have h0 := (mem_ready.1 hr).1
        rw [heq] at h1
        rcases Nat.lt_or_ge i listed.size with h' | h'
        · simp [h'] at h0 h1; rw [h0] at h1; cases h1
        · simp [Array.getElem?_eq_none h'] at h1
      have hjD : j ∉ D := fun hm => by
        obtain ⟨e, he, hb, hon⟩ := hD j hm hji oj hoj
        have h1 := hall e he hb
        have h0 := hun _ hon
        rcases Nat.lt_or_ge e.on listed.size with h' | h'
        · simp [h'] at h0 h1; rw [h0] at h1; cases h1
        · simp [Array.getElem?_eq_none h'] at h1
      have hjk : j ≠ k := fun e => hjD (e ▸ hkD)
      have h2 := wpOp_putIf hoj (hfree j oj hoj hji hjun hnot) (fun cs b => hsel i oi cs b hi) (fun cs b => hsel j oj cs b hoj) hQ hy h1
      have hfree' : ∀ k ok, ops[k]? = some ok → k ≠ i → (listed.setIfInBounds j true).getD k true = false →
          (∀ e ∈ ok.after, Region.binds md e = true → e.on ≠ i) → oi.apart ops ok = true := fun k ok hk hki hun hno => by
        refine hfree k ok hk hki ?_ hno
        by_cases hjk : j = k
        · subst hjk; exact hjun
        · rw [getD_set_ne true hjk] at hun; exact hun
      have hunj : ∀ d ∈ D, (listed.setIfInBounds j true).getD d true = false := fun d hd => by
        have hne : j ≠ d := fun e => hjD (e ▸ hd)
        rw [getD_set_ne true hne]; exact hun d hd
      refine wpOp_mono (fun a' w' h3 => ?_) h2
      have hS' : S w' := h3.2.1.resolve_left hjk
      refine ⟨.inr hS', ih (listed.setIfInBounds j true) a' w' hfree' hunj (ready_mono hr (Ne.symm hji)) h3.1 hS' ?_⟩
      rw [Array.setIfInBounds_comm _ _ hji]
      exact h3.2.2

/-- Take number 'i' first. -/
theorem wpAnyX_take (D : List Nat) {i : Nat} {oi : Oper} {v : Value} {fuel : Nat} {listed : Array Bool} {a : Act} {w : World} (hi : ops[i]? = some oi)
    (hs : Region.noSelect ops = true) (hf : Region.free md ops listed i = true) (hr : (Region.ready md ops listed).contains i = true) (hw : waitsB md ops D i k listed = true)
    (hQ : ∀ c a w, Q (.panic c) (a.put oi.dst v) w → Q (.panic c) a w) (hy : YieldsIf P ops S oi v a) (hS : S w)
    (h : wpAnyX P md ops Q S k fuel (listed.setIfInBounds i true) (a.put oi.dst v) w) : wpAnyX P md ops Q S k (fuel + 1) listed a w := by
  obtain ⟨h1, _, h3, h4⟩ := waitsB_spec hw
  exact wpAnyX_first hi (Region.noSelect_spec hs) hQ h1 h4 fuel listed a w (Region.free_spec hi hf) h3 (by simpa using hr) hy hS h

/-- Number 'i' alone may come up, and is not the last one. -/
theorem wpAnyX_ready {i : Nat} {o : Oper} {fuel : Nat} {listed : Array Bool} {a : Act} {w : World} (hr : Region.ready md ops listed = [i]) (ho : ops[i]? = some o)
    (h : ∀ K' : Act → World → Prop, Shut (∀ a w, S w → (S w → wpAnyX P md ops Q S k fuel (listed.setIfInBounds i true) a w) → K' a w) → if Region.wanted o (yielded ops a.tmps) = true then Oper.wp P o a w K' Q else K' (a.put o.dst undef) w) :
    wpAnyX P md ops Q S k (fuel + 1) listed a w :=
  ⟨fun h0 => (by rw [hr] at h0; cases h0), fun j hj => by
    rw [hr] at hj
    obtain rfl : j = i := by simpa using hj
    exact wpOp_step ho (fun K' hK => h K' (fun a w hS hW => hK a w ⟨.inr hS, hW hS⟩))⟩
/-- The last one. -/
theorem wpAnyX_last {o : Oper} {fuel : Nat} {listed : Array Bool} {a : Act} {w : World} (hr : Region.ready md ops listed = [k]) (ho : ops[k]? = some o)
    (h : ∀ K' : Act → World → Prop, Shut (∀ a w, wpAnyX P md ops Q S k fuel (listed.setIfInBounds k true) a w → K' a w) → if Region.wanted o (yielded ops a.tmps) = true then Oper.wp P o a w K' Q else K' (a.put o.dst undef) w) :
    wpAnyX P md ops Q S k (fuel + 1) listed a w :=
  ⟨fun h0 => (by rw [hr] at h0; cases h0), fun j hj => by
    rw [hr] at hj
    obtain rfl : j = k := by simpa using hj
    exact wpOp_step ho (fun K' hK => h K' (fun a w hW => hK a w ⟨.inl rfl, hW⟩))⟩
theorem wpAnyX_done {listed : Array Bool} {a : Act} {w : World} (hr : Region.ready md ops listed = []) (h : Q .normal a w) : ∀ fuel, wpAnyX P md ops Q S k fuel listed a w
  | 0 => ⟨hr, h⟩
  | _ + 1 => ⟨fun _ => h, by rw [hr]; simp⟩
/-- The beginning. -/
theorem wp_region_last (S : World → Prop) (k : Nat) {id : Nat} {a : Act} {w : World} (hm : P.follows .mixedOrders = true) (hS : S w.drew)
    (h : S w.drew → wpAnyX P .any ops Q S k ops.size (Array.replicate ops.size false) a w.drew) : (Code.region id ops true).wp P Q a w :=
  wp_region_any hm (wpAny_of_x _ _ _ _ (h hS))
end
end Go.Proofs.Ytndnfhhdflmfcaa

/-
impl.ShareModes: what stays, and the rows of the joined room.
-/
namespace Go.Proofs.Ytndnfhhdflmfcaa
open Go Go.RowKit Ieee

/-- A row behind a shut door. -/
def shut (xs : List Nat) : List Nat := xs.map fun x => fo .mul .f32 x 0
theorem shut_len (xs : List Nat) : (shut xs).length = xs.length := by simp [shut]
theorem shut_at {xs : List Nat} {k : Nat} (h : k < xs.length) : (shut xs).getD k 0 = fo .mul .f32 (xs.getD k 0) 0 := by
  simp [shut, List.getD, List.getElem?_eq_getElem h]
theorem wt_zero : Wt 0 := ⟨(zero_fin .f32).1, by rw [wfk_32]; omega, by rw [(zero_fin .f32).2, ab_of_nonneg Rat.le_refl]; grind⟩
theorem shut_wt {xs : List Nat} (h : ∀ k, k < xs.length → Wt (xs.getD k 0)) : ∀ k, k < (shut xs).length → Wt ((shut xs).getD k 0) := fun k hk => by
  rw [shut_len] at hk
  rw [shut_at hk]
  exact (h k hk).mul wt_zero
theorem forced_shut {xs ys : List Nat} (h : ForcedL xs 0 ys xs.length) (hx : ∀ k, k < xs.length → Wt (xs.getD k 0)) : ys = shut xs := by
  refine List.ext_getElem (by rw [shut_len]; exact h.1) fun i h1 h2 => ?_
  rw [shut_len] at h2
  have e := (h.2 i h2).1
  have e2 := nrm_fin_eq e ((hx i h2).mul wt_zero).f
  have e3 := shut_at h2
  simpa [List.getD, List.getElem?_eq_getElem h1, List.getElem?_eq_getElem h2, List.getElem?_eq_getElem (show i < (shut xs).length by rw [shut_len]; exact h2)] using e2.trans e3.symm
/-- The rows of the joined room. -/
def jrow (rs qs : List Row) (i : Nat) : List Nat := if i < rs.length then (rowAt rs i).2.2 ++ shut (rowAt qs 0).2.2 else shut (rowAt rs 0).2.2 ++ (rowAt qs (i - rs.length)).2.2
def Joined (rs qs ts : List Row) : Prop := ∀ i, i < ts.length → (rowAt ts i).2.2 = jrow rs qs i
theorem Joined.snoc {rs qs ts : List Row} {r : Row} (h : Joined rs qs ts) (hr : r.2.2 = jrow rs qs ts.length) : Joined rs qs (ts ++ [r]) := fun i hi => by
  rcases Nat.lt_or_ge i ts.length with h1 | h1
  · rw [rowAt_snoc h1]; exact h i h1
  · have hn : i = ts.length := by simp at hi; omega
    subst hn
    rw [rowAt_last]; exact hr
theorem wts_app {xs ys : List Nat} (hx : ∀ k, k < xs.length → Wt (xs.getD k 0)) (hy : ∀ k, k < ys.length → Wt (ys.getD k 0)) : ∀ k, k < (xs ++ ys).length → Wt ((xs ++ ys).getD k 0) := fun k hk => by
  rcases Nat.lt_or_ge k xs.length with h1 | h1
  · have e : (xs ++ ys).getD k 0 = xs.getD k 0 := by simp only [List.getD]; rw [List.getElem?_append_left h1]
    rw [e]; exact hx k h1
  · have e : (xs ++ ys).getD k 0 = ys.getD (k - xs.length) 0 := by simp only [List.getD]; rw [List.getElem?_append_right h1]
    rw [e]; exact hy _ (by simp at hk; omega)
theorem sh_wts {ms : List MW} {rs : List Row} (h : Shaped ms rs) {i : Nat} (hi : i < rs.length) : ∀ k, k < (rowAt rs i).2.2.length → Wt ((rowAt rs i).2.2.getD k 0) := fun k hk => (h i hi).2 k (by rw [← (h i hi).1]; exact hk)
theorem jrow_ok {ms vs : List MW} {rs qs : List Row} (h1 : Shaped ms rs) (h2 : Shaped vs qs) (hr : 0 < rs.length) (hq : 0 < qs.length) {i : Nat} (hi : i < rs.length + qs.length) : (jrow rs qs i).length = (ms ++ vs).length ∧ ∀ k, k < (jrow rs qs i).length → Wt ((jrow rs qs i).getD k 0) := by
  unfold jrow
  split
  · refine ⟨?_, wts_app (sh_wts h1 ‹_›) (shut_wt (sh_wts h2 hq))⟩
    rw [List.length_append, List.length_append, shut_len, (h1 i ‹_›).1, (h2 0 hq).1]
  · refine ⟨?_, wts_app (shut_wt (sh_wts h1 hr)) (sh_wts h2 (by omega))⟩
    rw [List.length_append, List.length_append, shut_len, (h1 0 hr).1, (h2 _ (by omega)).1]
theorem joined_ok {ms vs : List MW} {rs qs ts : List Row} (h1 : Shaped ms rs) (h2 : Shaped vs qs) (hr : 0 < rs.length) (hq : 0 < qs.length) (h : Joined rs qs ts) (hl : ts.length ≤ rs.length + qs.length) : Shaped (ms ++ vs) ts := fun i hi => by
  rw [h i hi]
  obtain ⟨a, b⟩ := jrow_ok h1 h2 hr hq (i := i) (by omega)
  exact ⟨a, fun k hk => b k (by rw [a]; exact hk)⟩

/-- What stays in ShareModes: both rooms with their boxes, the result's cell. -/
structure SCx (w W : World) (lo1 hi1 : Nat) (A1 : Option Addr) (c1 : Nat) (ms : List MW) (B1 : Option Addr) (d1 : Nat) (rs : List Row) (lo2 hi2 : Nat) (A2 : Option Addr) (c2 : Nat) (vs : List MW) (B2 : Option Addr) (d2 : Nat) (qs : List Row) : Prop where
  ra : RoomIn W lo1 hi1 A1 c1 ms B1 rs
  rb : RoomIn W lo2 hi2 A2 c2 vs B2 qs
  pa : W.heap[w.heap.size]? = some (.cells #[.slice A1 ms.length c1, .slice B1 rs.length d1] 26 (0, 0))
  pb : W.heap[w.heap.size + 1]? = some (.cells #[.slice A2 vs.length c2, .slice B2 qs.length d2] 26 (0, 0))
  pr : W.heap[w.heap.size + 2]? = some (.cells #[.slice none 0 0, .slice none 0 0] 26 (0, 0))
  bel : Below w.heap.size w W
section
variable {w W W' : World} {lo1 hi1 lo2 hi2 c1 d1 c2 d2 : Nat} {A1 B1 A2 B2 : Option Addr} {ms vs : List MW} {rs qs : List Row}
theorem SCx.below (h : SCx w W lo1 hi1 A1 c1 ms B1 d1 rs lo2 hi2 A2 c2 vs B2 d2 qs) (hb : Below W.heap.size W W') : SCx w W' lo1 hi1 A1 c1 ms B1 d1 rs lo2 hi2 A2 c2 vs B2 d2 qs :=
  ⟨h.ra.below hb, h.rb.below hb, (hb.block _ (lt_of_some h.pa)).trans h.pa, (hb.block _ (lt_of_some h.pb)).trans h.pb, (hb.block _ (lt_of_some h.pr)).trans h.pr, h.bel.trans (hb.mono h.bel.size)⟩
theorem SCx.cells (h : SCx w W lo1 hi1 A1 c1 ms B1 d1 rs lo2 hi2 A2 c2 vs B2 d2 qs) : W.cell? ⟨w.heap.size, 0, none⟩ = some (.slice A1 ms.length c1) ∧ W.cell? ⟨w.heap.size, 1, none⟩ = some (.slice B1 rs.length d1) ∧ W.cell? ⟨w.heap.size + 1, 0, none⟩ = some (.slice A2 vs.length c2) ∧ W.cell? ⟨w.heap.size + 1, 1, none⟩ = some (.slice B2 qs.length d2) :=
  ⟨(r_cells h.pa).1, (r_cells h.pa).2.1, (r_cells h.pb).1, (r_cells h.pb).2.1⟩
end
theorem SCx.start (w : World) {lo1 hi1 lo2 hi2 c1 d1 c2 d2 : Nat} {A1 B1 A2 B2 : Option Addr} {ms vs : List MW} {rs qs : List Row} (h1 : RoomIn w lo1 hi1 A1 c1 ms B1 rs) (h2 : RoomIn w lo2 hi2 A2 c2 vs B2 qs) :
    SCx w (((w.alloc (.cells #[.slice A1 ms.length c1, .slice B1 rs.length d1] 26)).alloc (.cells #[.slice A2 vs.length c2, .slice B2 qs.length d2] 26)).alloc (.cells #[.slice none 0 0, .slice none 0 0] 26)) lo1 hi1 A1 c1 ms B1 d1 rs lo2 hi2 A2 c2 vs B2 d2 qs := by
  have k1 := heap_alloc_new w (.cells #[.slice A1 ms.length c1, .slice B1 rs.length d1] 26)
  have b1 : Below w.heap.size w (w.alloc (.cells #[.slice A1 ms.length c1, .slice B1 rs.length d1] 26)) := (Below.refl w.heap.size w).alloc (Nat.le_refl _) _
  have s1 : (w.alloc (.cells #[.slice A1 ms.length c1, .slice B1 rs.length d1] 26)).heap.size = w.heap.size + 1 := by simp
  generalize w.alloc (.cells #[.slice A1 ms.length c1, .slice B1 rs.length d1] 26) = W1 at *
  have k2 := heap_alloc_new W1 (.cells #[.slice A2 vs.length c2, .slice B2 qs.length d2] 26)
  have b2 : Below W1.heap.size W1 (W1.alloc (.cells #[.slice A2 vs.length c2, .slice B2 qs.length d2] 26)) := (Below.refl W1.heap.size W1).alloc (Nat.le_refl _) _
  have s2 : (W1.alloc (.cells #[.slice A2 vs.length c2, .slice B2 qs.length d2] 26)).heap.size = W1.heap.size + 1 := by simp
  generalize W1.alloc (.cells #[.slice A2 vs.length c2, .slice B2 qs.length d2] 26) = W2 at *
  have k3 := heap_alloc_new W2 (.cells #[.slice none 0 0, .slice none 0 0] 26)
  have b3 : Below W2.heap.size W2 (W2.alloc (.cells #[.slice none 0 0, .slice none 0 0] 26)) := (Below.refl W2.heap.size W2).alloc (Nat.le_refl _) _
  have s3 : (W2.alloc (.cells #[.slice none 0 0, .slice none 0 0] 26)).heap.size = W2.heap.size + 1 := by simp
  generalize W2.alloc (.cells #[.slice none 0 0, .slice none 0 0] 26) = W3 at *
  have b : Below w.heap.size w W3 := (b1.trans (b2.mono (by omega))).trans (b3.mono (by omega))
  rw [s1] at k2
  rw [s2, s1] at k3
  exact ⟨h1.below b, h2.below b, ((b3.block _ (by omega)).trans (b2.block _ (by omega))).trans k1, (b3.block _ (by omega)).trans k2, k3, b⟩

/-- The state of the loops: the joined room lies in block o, its modes below, its rows behind. -/
structure SSt (Wc wr : World) (o L : Nat) (A : Option Addr) (c : Nat) (M : List MW) (v : Value) (ts : List Row) : Prop where
  bel : Below Wc.heap.size Wc wr
  own : OwnM wr Wc.heap.size o A c M
  oc : Wc.heap.size ≤ o
  oL : o < L
  Ls : L ≤ wr.heap.size
  b : wr.heap[o]? = some (.cells #[.slice A M.length c, v] 26 (0, 0))
  rows : RowsOwn wr (o + 1) L v ts
section
variable {Wc wr wr' : World} {o L c : Nat} {A : Option Addr} {M : List MW} {v : Value} {ts : List Row}
theorem SSt.below {B : Nat} (h : SSt Wc wr o L A c M v ts) (hb : Below B wr wr') (hB : L ≤ B) : SSt Wc wr' o L A c M v ts := by
  have oc := h.oc
  have oL := h.oL
  exact ⟨h.bel.trans (hb.mono (by omega)), h.own.keep fun j _ hj => hb.block j (by omega), oc, oL, Nat.le_trans h.Ls hb.size, (hb.block o (by omega)).trans h.b, h.rows.keep fun j _ hj => hb.block j (by omega)⟩
theorem SSt.next (h : SSt Wc wr o L A c M v ts) (hb : Below wr.heap.size wr wr') : SSt Wc wr' o L A c M v ts := h.below hb h.Ls
theorem SSt.cell (h : SSt Wc wr o L A c M v ts) : wr.cell? ⟨o, 1, none⟩ = some v := (r_cells h.b).2.1
/-- A row appended: what holds ahead of the store. -/
theorem SSt.grown {w4 : World} {ob : Obj} (h : SSt Wc wr o L A c M v ts) (hg : (wr.alloc ob).grownBy w4 v.ownBlock) :
    Below Wc.heap.size Wc w4 ∧ w4.heap[o]? = some (.cells #[.slice A M.length c, v] 26 (0, 0)) := by
  have oc := h.oc
  have oL := h.oL
  have Ls := h.Ls
  have G : wr.grownBy w4 v.ownBlock := grown_trans (b := wr.alloc ob) ⟨rfl, rfl, rfl, by simp, fun i hi _ => Below.heap_alloc wr ob i hi⟩ hg
  have far : ∀ j, j ≤ o → some j ≠ v.ownBlock := fun j hj e => by have := (h.rows.own.lt j e.symm).1; omega
  exact ⟨⟨G.os.trans h.bel.os, G.tape.trans h.bel.tape, G.output.trans h.bel.output, Nat.le_trans h.bel.size G.size, fun j hj => (G.block j (by omega) (far j (by omega))).trans (h.bel.block j hj)⟩, (G.block o (by omega) (far o (Nat.le_refl _))).trans h.b⟩
/-- .. and stored. -/
theorem SSt.app {lo1 g' cap : Nat} {r : Row} {ob : Obj} (h : SSt Wc wr o L A c M v ts) (hl : L ≤ lo1) (hr : wr.ownsRow lo1 31 1 (rowV r) r.2.2.length (f32s r.2.2))
    (hown : wr'.ownsRow (o + 1) 28 1 (.slice (some ⟨g', 0, none⟩) (ts.length + 1) cap) (ts.length + 1) (ts.map rowV ++ [rowV r])) (hg : (wr.alloc ob).grownBy wr' v.ownBlock) (hor : v.ownBlock = some g' ∨ g' = wr.heap.size + 1) (hlt : g' < wr'.heap.size) :
    SSt Wc (wr'.setCell ⟨o, 1, none⟩ (.slice (some ⟨g', 0, none⟩) (ts.length + 1) cap)) o (wr'.setCell ⟨o, 1, none⟩ (.slice (some ⟨g', 0, none⟩) (ts.length + 1) cap)).heap.size A c M (.slice (some ⟨g', 0, none⟩) (ts.length + 1) cap) (ts ++ [r]) := by
  have oc := h.oc
  have oL := h.oL
  have Ls := h.Ls
  obtain ⟨hb, hb1⟩ := h.grown hg
  have G : wr.grownBy wr' v.ownBlock := grown_trans (b := wr.alloc ob) ⟨rfl, rfl, rfl, by simp, fun i hi _ => Below.heap_alloc wr ob i hi⟩ hg
  have hs := G.size
  have far : ∀ j, j ≤ o → some j ≠ v.ownBlock := fun j hj e => by have := (h.rows.own.lt j e.symm).1; omega
  have k : ∀ j, j ≠ o → (wr'.setCell ⟨o, 1, none⟩ (.slice (some ⟨g', 0, none⟩) (ts.length + 1) cap)).heap[j]? = wr'.heap[j]? := fun j hj => Below.heap_setCell _ _ _ _ hj
  have R := RowsOwn.app (w := wr) (w' := wr') (lo := o + 1) (lo1 := lo1) (hi := L) h.rows (by omega) hl hr hown G (hor.imp id fun e => by omega) hlt Ls
  refine ⟨hb.setCell oc _, h.own.keep fun j j1 j2 => (k j (by omega)).trans (G.block j (by omega) (far j (by omega))), oc, by simp; omega, Nat.le_refl _, ?_, (R.keep fun j j1 j2 => k j (by omega)).raise (by simp)⟩
  simp [World.setCell, Array.getElem?_modify, hb1]
end
end Go.Proofs.Ytndnfhhdflmfcaa

/-
impl.ShareModes: the walk.
-/
namespace Go.Proofs.Ytndnfhhdflmfcaa
open Go Go.RowKit Ieee

/-- What ShareModes returns for rooms with places. -/
def SharePost (ms vs : List MW) (rs qs : List Row) (w : World) (e : Ending) (w' : World) : Prop :=
  ∃ (A : Option Addr) (c : Nat) (B : Option Addr) (d : Nat) (ts : List Row), e = .returned (.tuple #[.agg #[.slice A (ms ++ vs).length c, .slice B ts.length d], .bool true]) ∧ RoomIn w' w.heap.size w'.heap.size A c (ms ++ vs) B ts ∧ ts.length = rs.length + qs.length ∧ Joined rs qs ts ∧ Below w.heap.size w w'

theorem own_rd1 {w : World} {base n c : Nat} {e : TypeId} {A : Option Addr} {xs : List Value} (h : w.ownsRow base e 1 (.slice A n c) n xs) : Rd w A xs := by
  obtain ⟨_, _, q, _, rd⟩ := own_rd h
  injection q with q1 _ q2
  subst q1 q2
  exact rd
theorem RoomIn.rowCell {w : World} {lo hi c b off i : Nat} {A : Option Addr} {ms : List MW} {rs : List Row} (h : RoomIn w lo hi A c ms (some ⟨b, off, none⟩) rs) (hi' : i < rs.length) : w.cell? ⟨b, off + i, none⟩ = some (rowV (rowAt rs i)) := by
  obtain ⟨b', off', e, _, hc⟩ := h.rows.1 (by simp; omega)
  injection e with e
  injection e with q1 q2
  subst q1 q2
  exact hc i _ (rowV_at hi')

set_option maxRecDepth 100000 in
set_option maxHeartbeats 3200000 in
theorem shareModes_any (lo1 hi1 : Nat) (A1 : Option Addr) (c1 : Nat) (ms : List MW) (B1 : Option Addr) (d1 : Nat) (rs : List Row) (lo2 hi2 : Nat) (A2 : Option Addr) (c2 : Nat) (vs : List MW) (B2 : Option Addr) (d2 : Nat) (qs : List Row) (w : World) (h1 : RoomIn w lo1 hi1 A1 c1 ms B1 rs) (h2 : RoomIn w lo2 hi2 A2 c2 vs B2 qs) (k1 : RoomOk ms rs 4 4) (k2 : RoomOk vs qs 4 4) (hr0 : 0 < rs.length) (hq0 : 0 < qs.length) :
    Calls Try.prog 15 #[.agg #[.slice A1 ms.length c1, .slice B1 rs.length d1], .agg #[.slice A2 vs.length c2, .slice B2 qs.length d2], .float .f32 0] w (SharePost ms vs rs qs w) := by
  have hlm := k1.lm
  have hln := k1.ln
  have hlv := k2.lm
  have hlq := k2.ln
  have K1 : Hid (RoomOk ms rs 16 16) := ⟨k1.ok, by omega, by omega, k1.sh⟩
  have K2 : Hid (RoomOk vs qs 16 16) := ⟨k2.ok, by omega, by omega, k2.sh⟩
  have S1 := Lib.hid (SCx.start w (d1 := d1) (d2 := d2) h1 h2)
  obtain ⟨a0, a1, b0, b1⟩ := S1.out.cells
  have hrn : ((rs.length : Int) == 0) = false := by simp; intro e; rw [e] at hr0; exact absurd hr0 (Nat.lt_irrefl _)
  have hqn : ((qs.length : Int) == 0) = false := by simp; intro e; rw [e] at hq0; exact absurd hq0 (Nat.lt_irrefl _)
  clear h1 h2 k1 k2
  go_enter Try.func15, Try.ntmps15
  go_wp2_with fail
  generalize ((w.alloc (.cells #[.slice A1 ms.length c1, .slice B1 rs.length d1] 26)).alloc (.cells #[.slice A2 vs.length c2, .slice B2 qs.length d2] 26)).alloc (.cells #[.slice none 0 0, .slice none 0 0] 26) = W1 at *
  refine (isRoom_any A1 c1 lo1 hi1 ms B1 d1 rs W1 S1.out.ra K1.out).mono ?_
  rintro r W2 ⟨rfl, hb⟩
  have S2 := Lib.hid (S1.out.below hb)
  clear a0 a1 b0 b1 hb S1
  obtain ⟨a0, a1, b0, b1⟩ := S2.out.cells
  go_wp2_with fail
  refine (isRoom_any A2 c2 lo2 hi2 vs B2 d2 qs W2 S2.out.rb K2.out).mono ?_
  rintro r W3 ⟨rfl, hb⟩
  have S3 := Lib.hid (S2.out.below hb)
  clear a0 a1 b0 b1 hb S2
  obtain ⟨a0, a1, b0, b1⟩ := S3.out.cells
  go_wp2_with fail
  have hb4 : Below W3.heap.size W3 (W3.alloc (.cells #[.slice A1 ms.length c1, .slice A2 vs.length c2] 23)) := (Below.refl W3.heap.size W3).alloc (Nat.le_refl _) _
  have S4 := Lib.hid (S3.out.below hb4)
  have hg4 := heap_alloc_new W3 (.cells #[.slice A1 ms.length c1, .slice A2 vs.length c2] 23)
  have HG4 := Lib.hid hg4
  clear hg4 hb4 a0 a1 b0 b1
  generalize W3.alloc (.cells #[.slice A1 ms.length c1, .slice A2 vs.length c2] 23) = W4 at *
  generalize W3.heap.size = g4 at *
  refine (concatM_any g4 _ A1 A2 c1 c2 lo1 hi1 lo2 hi2 ms vs W4 HG4.out S4.out.ra.own S4.out.rb.own S4.out.ra.hh S4.out.rb.hh (by omega) (by omega)).mono ?_
  rintro r W5 ⟨A, c, rfl, ho, hb⟩
  obtain ⟨M, hM⟩ : ∃ M, ms ++ vs = M := ⟨_, rfl⟩
  rw [hM] at ho
  rw [hM]
  have HM := Lib.hid hM
  clear hM S3 HG4
  have hb5 : Below W5.heap.size W5 (W5.alloc (.cells #[.slice A M.length c, .slice none 0 0] 26)) := (Below.refl W5.heap.size W5).alloc (Nat.le_refl _) _
  have hz5 := hb.size
  have T0 : Hid (SSt W4 (W5.alloc (.cells #[.slice A M.length c, .slice none 0 0] 26)) W5.heap.size (W5.heap.size + 1) A c M (.slice none 0 0) []) :=
    ⟨hb.trans (hb5.mono hz5), ho.below hb5 (Nat.le_refl _), hz5, by omega, by simp, heap_alloc_new W5 _, RowsOwn.nil _ _ _⟩
  clear ho hb hb5
  have S5 := Lib.hid (S4.out.below T0.out.bel)
  obtain ⟨a0, a1, b0, b1⟩ := S5.out.cells
  go_wp2_with fail
  generalize W5.alloc (.cells #[.slice A M.length c, .slice none 0 0] 26) = W6 at *
  generalize W5.heap.size = o at *
  clear S5 a0 a1 b0 b1
  go_loopw [10, 44] (fun _ i wr => ∃ (k : Nat) (v : Value) (ts : List Row) (L : Nat), i = .int .i64 (k : Int) ∧ k ≤ rs.length ∧ ts.length = k ∧ Hid (Joined rs qs ts) ∧ Hid (SSt W4 wr o L A c M v ts)) (fun _ i _ => rs.length - (intOf i).toNat)
  case atStart => exact ⟨0, _, [], _, rfl, by omega, rfl, fun i hi => absurd hi (Nat.not_lt_zero _), T0.out⟩
  case round =>
    clear T0
    obtain ⟨k, v, ts, L, rfl, hk, htl, HJ, HT⟩ := hrel
    have HS := Lib.hid (S4.out.below HT.out.bel)
    by_cases hlt : k < rs.length
    · obtain ⟨a0, a1, b0, b1⟩ := HS.out.cells
      obtain ⟨ba, oa, rfl, -, -⟩ := HS.out.ra.rows.1 (by simp; omega)
      obtain ⟨bq, oq, rfl, -, -⟩ := HS.out.rb.rows.1 (by simp; omega)
      have e1 := HS.out.ra.rowCell hlt
      have hRk := HS.out.ra.rows.2 k hlt
      have hR0 := HS.out.rb.rows.2 0 hq0
      have HW0 := Lib.hid (sh_wts K2.out.sh hq0)
      have HLk := Lib.hid (K1.out.sh k hlt).1
      have HL0 := Lib.hid (K2.out.sh 0 hq0).1
      have HD : Hid (∀ W' : World, Below W4.heap.size W4 W' → W'.cell? ⟨w.heap.size + 1, 1, none⟩ = some (.slice (some ⟨bq, oq, none⟩) qs.length d2) ∧ W'.cell? ⟨bq, oq, none⟩ = some (rowV (rowAt qs 0))) := fun W' hb => by
        have S' := S4.out.below hb
        exact ⟨S'.cells.2.2.2, S'.rb.rowCell hq0⟩
      have HJ1 : Hid (jrow rs qs ts.length = (rowAt rs k).2.2 ++ shut (rowAt qs 0).2.2) := by
        show jrow rs qs ts.length = _
        unfold jrow
        rw [htl]
        rw [if_pos hlt]
      have HTL := Lib.hid htl
      have hts : ts.length ≤ 8 := by omega
      clear htl
      unfold rowV at e1 HD
      generalize rowAt rs k = rk at *
      generalize rowAt qs 0 = r0 at *
      obtain ⟨Ak, ck, xk⟩ := rk
      obtain ⟨A0, c0, z0⟩ := r0
      simp only at e1 hRk hR0
      have T1 : Hid (SSt W4 wr.drew o L A c M v ts) := HT.out.next (below_drewN (Below.refl wr.heap.size wr) 1)
      have HRk : Hid (Rd wr.drew Ak (f32s xk)) := hRk
      have HR0 : Hid (Rd wr.drew A0 (f32s z0)) := hR0
      have hxk : xk.length ≤ 4 := by have := HLk.out; simp only at this; omega
      have hz0 : z0.length ≤ 4 := by have := HL0.out; simp only at this; omega
      obtain ⟨Z, hZ⟩ : ∃ Z, shut z0 = Z := ⟨_, rfl⟩
      have hZl : Z.length ≤ 4 := by rw [← hZ, shut_len]; exact hz0
      obtain ⟨J, hJ⟩ : ∃ J, xk ++ Z = J := ⟨_, rfl⟩
      have hJ1 := HJ1.out
      simp only at hJ1
      rw [hZ, hJ] at hJ1
      have HJn := Lib.hid hJ1
      have HZ := Lib.hid hZ
      have HJe := Lib.hid hJ
      clear hJ1 HJ1 hRk hR0 hZ hJ
      go_wp2_with fail
      clear e1 a0 a1 b0 b1 HS HT
      refine wp_region_last (fun w' => w'.cell? ⟨o, 1, none⟩ = some v ∧ w'.cell? ⟨w.heap.size + 1, 1, none⟩ = some (.slice (some ⟨bq, oq, none⟩) qs.length d2) ∧ w'.cell? ⟨bq, oq, none⟩ = some (.slice A0 z0.length c0)) 14 (by kernel_rfl) ⟨T1.out.cell, HD.out _ T1.out.bel⟩ (fun hHeld => ?_)
      generalize wr.drew = Wb at *
      refine wpAnyX_take [0, 1, 12, 14] (i := 0) (oi := _) (v := ?_) rfl (by kernel_rfl) (by kernel_rfl) (by kernel_rfl) (by kernel_rfl) (fun _ _ _ h => h) (Or.inl ⟨by rfl, ?_⟩) (by assumption) ?_
      rotate_left
      · (intro w hSw; (try dsimp only at hSw); go_simp; try (with_reducible rfl))
      (try simp only [Act.put, List.setIfInBounds_toArray])
      refine wpAnyX_take [1, 12, 14] (i := 1) (oi := _) (v := ?_) rfl (by kernel_rfl) (by kernel_rfl) (by kernel_rfl) (by kernel_rfl) (fun _ _ _ h => h) (Or.inl ⟨by rfl, ?_⟩) (by assumption) ?_
      rotate_left
      · (intro w hSw; (try dsimp only at hSw); go_simp; try (with_reducible rfl))
      (try simp only [Act.put])
      refine wpAnyX_take [2, 9, 10, 11, 12, 14] (i := 2) (oi := _) (v := ?_) rfl (by kernel_rfl) (by kernel_rfl) (by kernel_rfl) (by kernel_rfl) (fun _ _ _ h => h) (Or.inl ⟨by rfl, ?_⟩) (by assumption) ?_
      rotate_left
      · (intro w hSw; (try dsimp only at hSw); go_simp; try (with_reducible rfl))
      (try simp only [Act.put])
      refine wpAnyX_take [3, 4, 5, 6, 8, 9, 10, 11, 12, 14] (i := 3) (oi := _) (v := ?_) rfl (by kernel_rfl) (by kernel_rfl) (by kernel_rfl) (by kernel_rfl) (fun _ _ _ h => h) (Or.inl ⟨by rfl, ?_⟩) (by assumption) ?_
      rotate_left
      · (intro w hSw; (try dsimp only at hSw); go_simp; try (with_reducible rfl))
      (try simp only [Act.put])
      refine wpAnyX_take [4, 5, 6, 8, 9, 10, 11, 12, 14] (i := 4) (oi := _) (v := ?_) rfl (by kernel_rfl) (by kernel_rfl) (by kernel_rfl) (by kernel_rfl) (fun _ _ _ h => h) (Or.inl ⟨by rfl, ?_⟩) (by assumption) ?_
      rotate_left
      · (intro w hSw; (try dsimp only at hSw); go_simp; try (with_reducible rfl))
      (try simp only [Act.put])
      refine wpAnyX_take [5, 6, 8, 9, 10, 11, 12, 14] (i := 5) (oi := _) (v := ?_) rfl (by kernel_rfl) (by kernel_rfl) (by kernel_rfl) (by kernel_rfl) (fun _ _ _ h => h) (Or.inl ⟨by rfl, ?_⟩) (by assumption) ?_
      rotate_left
      · (intro w hSw; (try dsimp only at hSw); go_simp; try (with_reducible rfl))
      (try simp only [Act.put])
      refine wpAnyX_take [6, 8, 9, 10, 11, 12, 14] (i := 6) (oi := _) (v := ?_) rfl (by kernel_rfl) (by kernel_rfl) (by kernel_rfl) (by kernel_rfl) (fun _ _ _ h => h) (Or.inl ⟨by rfl, ?_⟩) (by assumption) ?_
      rotate_left
      · (intro w hSw; (try dsimp only at hSw); go_simp; try (with_reducible rfl))
      (try simp only [Act.put])
      refine wpAnyX_take [7, 8, 9, 10, 11, 12, 14] (i := 7) (oi := _) (v := ?_) rfl (by kernel_rfl) (by kernel_rfl) (by kernel_rfl) (by kernel_rfl) (fun _ _ _ h => h) (Or.inl ⟨by rfl, ?_⟩) (by assumption) ?_
      rotate_left
      · (intro w hSw; (try dsimp only at hSw); go_simp; try (with_reducible rfl))
      (try simp only [Act.put])
      refine wpAnyX_ready (i := 8) (o := _) (by kernel_rfl) rfl (fun K hK => ?_)
      go_simp
      refine (forced_any A0 c0 0 z0 Wb HR0.out (by omega)).mono ?_
      rintro e W7 ⟨Af, cf, Z2, rfl, hof, hff, hbf⟩
      have hfs := forced_shut hff HW0.out
      rw [HZ.out] at hfs
      replace hfs := hfs.symm
      subst hfs
      have T7 := Lib.hid (T1.out.next hbf)
      have OF7 := Lib.hid hof
      have HR7 := Lib.hid (HRk.out.below hbf)
      have hbz := hbf.size
      have hLb := T1.out.Ls
      clear hof hff hbf
      go_wp2_with fail
      refine hK.out _ _ ?_ (fun hHelda => ?_)
      · exact ⟨T7.out.cell, HD.out _ T7.out.bel⟩
      clear hK K
      (try simp only [Act.put, List.setIfInBounds_toArray, List.set_cons_zero, List.set_cons_succ])
      clear hHeld
      have hb8 : Below W7.heap.size W7 (W7.alloc (.cells #[.slice Ak xk.length ck, .slice Af Z.length cf] 28)) := (Below.refl W7.heap.size W7).alloc (Nat.le_refl _) _
      have T8 := Lib.hid (T7.out.next hb8)
      refine wpAnyX_ready (i := 9) (o := _) (by kernel_rfl) rfl (fun K hK => ?_)
      go_simp
      refine hK.out _ _ ?_ (fun hHeldb => ?_)
      · exact ⟨T8.out.cell, HD.out _ T8.out.bel⟩
      clear hK K
      (try simp only [Act.put, List.setIfInBounds_toArray, List.set_cons_zero, List.set_cons_succ])
      clear hHelda
      have HR8 := Lib.hid (HR7.out.below hb8)
      have OF8 : Hid ((W7.alloc (.cells #[.slice Ak xk.length ck, .slice Af Z.length cf] 28)).ownsRow Wb.heap.size 31 1 (.slice Af Z.length cf) Z.length (f32s Z)) := OF7.out.alloc _
      have HG8 := Lib.hid (heap_alloc_new W7 (.cells #[.slice Ak xk.length ck, .slice Af Z.length cf] 28))
      have hsz8 := hb8.size
      clear hb8 T7 HR7 OF7
      refine wpAnyX_ready (i := 10) (o := _) (by kernel_rfl) rfl (fun K hK => ?_)
      go_simp
      generalize W7.alloc (.cells #[.slice Ak xk.length ck, .slice Af Z.length cf] 28) = W8 at *
      refine (concatF_any W7.heap.size _ Ak Af ck cf xk Z W8 HG8.out HR8.out (own_rd1 OF8.out) (by omega) (by omega)).mono ?_
      rw [HJe.out]
      rintro e W9 ⟨Ac, cc, rfl, ho9, hb9⟩
      have T9 := Lib.hid (T8.out.next hb9)
      have O9 := Lib.hid ho9
      have hsz9 := hb9.size
      clear ho9 hb9
      go_wp2_with fail
      refine hK.out _ _ ?_ (fun hHeldc => ?_)
      · exact ⟨T9.out.cell, HD.out _ T9.out.bel⟩
      clear hK K
      (try simp only [Act.put, List.setIfInBounds_toArray, List.set_cons_zero, List.set_cons_succ])
      clear hHeldb
      have T10 : Hid (SSt W4 (W9.alloc (.cells #[.slice Ac J.length cc] 28)) o L A c M v ts) := T9.out.next ((Below.refl W9.heap.size W9).alloc (Nat.le_refl _) _)
      refine wpAnyX_ready (i := 11) (o := _) (by kernel_rfl) rfl (fun K hK => ?_)
      go_simp
      refine hK.out _ _ ?_ (fun hHeldd => ?_)
      · exact ⟨T10.out.cell, HD.out _ T10.out.bel⟩
      clear hK K
      (try simp only [Act.put, List.setIfInBounds_toArray, List.set_cons_zero, List.set_cons_succ])
      clear hHeldc
      obtain ⟨i0, hi0, hz0', hz1, hz2⟩ := info_parts row_info2
      have hoL := T9.out.oL
      have hLs9 := T9.out.Ls
      refine wpAnyX_ready (i := 12) (o := _) (by kernel_rfl) rfl (fun K hK => ?_)
      refine step_append_lies _ (by rfl) (.tmp 49) (.tmp 59) 24 (by rfl) (o + 1) 28 i0 _ 1 24 Try.underlying24 hi0 hz0' hz1 hz2 rfl (by omega) v ts.length (ts.map rowV) (by rfl) (T9.out.rows.own.alloc _) ⟨W9.heap.size, 0, none⟩ 1 1 [.slice Ac J.length cc] (by rfl) (by rfl) (World.news_of_block (cs := #[.slice Ac J.length cc]) (t := 28) (fr := (0, 0)) (heap_alloc_new W9 _)) (by simp [Value.oneCell']) (by omega) (by simp only [maxLen]; omega) (by omega) (by simp; omega) (W9.heap.size + 1) (by simp) ?_
      intro gg cap w4 hown4 hgrow hat hlt4
      have B4 := Lib.hid (T9.out.grown hgrow)
      have A4 := Lib.hid (T9.out.app (lo1 := W8.heap.size) (r := (Ac, cc, J)) (by omega) O9.out hown4 hgrow hat hlt4)
      obtain ⟨_, cB, _, fB⟩ := r_cells B4.out.2
      clear hown4 hgrow hat T10 T9 T8
      refine hK.out _ _ ?_ (fun hHelde => ?_)
      · exact ⟨cB, HD.out _ B4.out.1⟩
      clear hK K
      (try simp only [Act.put, List.setIfInBounds_toArray])
      clear hHeldd
      refine wpAnyX_take [13, 14] (i := 13) (oi := _) (v := ?_) rfl (by kernel_rfl) (by kernel_rfl) (by kernel_rfl) (by kernel_rfl) (fun _ _ _ h => h) (Or.inl ⟨by rfl, ?_⟩) (by assumption) ?_
      rotate_left
      · (intro w hSw; (try dsimp only at hSw); go_simp; try (with_reducible rfl))
      (try simp only [Act.put])
      refine wpAnyX_last (o := _) (by kernel_rfl) rfl (fun K hK => ?_)
      go_simp
      refine hK.out _ _ ?_
      clear hK K
      (try simp only [Act.put, List.setIfInBounds_toArray, List.set_cons_zero, List.set_cons_succ])
      refine wpAnyX_done (by kernel_rfl) ?_ _
      go_wp2_with fail
      go_roundw
      case rel => exact ⟨k + 1, _, ts ++ [(Ac, cc, J)], _, by go_num, by omega, by have := HTL.out; simp; omega, HJ.out.snoc HJn.out.symm, A4.out⟩
      case measure => simp [intOf]; omega
    · obtain rfl : k = rs.length := by omega
      have HJ0 := Lib.hid HJ.out
      have HT0 := Lib.hid HT.out
      obtain ⟨a0, a1, b0, b1⟩ := HS.out.cells
      go_wp2_with fail
      clear HJ HT HS a0 a1 b0 b1
      go_loopw [12, 66] (fun _ i wr => ∃ (k : Nat) (v : Value) (ts : List Row) (L : Nat), i = .int .i64 (k : Int) ∧ k ≤ qs.length ∧ ts.length = rs.length + k ∧ Hid (Joined rs qs ts) ∧ Hid (SSt W4 wr o L A c M v ts)) (fun _ i _ => qs.length - (intOf i).toNat)
      case atStart => exact ⟨0, _, ts, _, rfl, by omega, by omega, HJ0.out, HT0.out⟩
      case round =>
        clear HJ0 HT0 htl
        clear v ts L
        obtain ⟨k, v, ts, L, rfl, hk, htl, HJ, HT⟩ := hrel
        have HS := Lib.hid (S4.out.below HT.out.bel)
        by_cases hlt : k < qs.length
        · obtain ⟨a0, a1, b0, b1⟩ := HS.out.cells
          obtain ⟨ba, oa, rfl, -, -⟩ := HS.out.ra.rows.1 (by simp; omega)
          obtain ⟨bq, oq, rfl, -, -⟩ := HS.out.rb.rows.1 (by simp; omega)
          have e1 := HS.out.rb.rowCell hlt
          have hRk := HS.out.rb.rows.2 k hlt
          have hR0 := HS.out.ra.rows.2 0 hr0
          have HW0 := Lib.hid (sh_wts K1.out.sh hr0)
          have HLk := Lib.hid (K2.out.sh k hlt).1
          have HL0 := Lib.hid (K1.out.sh 0 hr0).1
          have HD : Hid (∀ W' : World, Below W4.heap.size W4 W' → W'.cell? ⟨w.heap.size, 1, none⟩ = some (.slice (some ⟨ba, oa, none⟩) rs.length d1) ∧ W'.cell? ⟨ba, oa, none⟩ = some (rowV (rowAt rs 0))) := fun W' hb => by
            have S' := S4.out.below hb
            exact ⟨S'.cells.2.1, S'.ra.rowCell hr0⟩
          have HJ1 : Hid (jrow rs qs ts.length = shut (rowAt rs 0).2.2 ++ (rowAt qs k).2.2) := by
            show jrow rs qs ts.length = _
            unfold jrow
            rw [htl]
            rw [if_neg (by omega), Nat.add_sub_cancel_left]
          have HTL := Lib.hid htl
          have hts : ts.length ≤ 8 := by omega
          clear htl
          unfold rowV at e1 HD
          generalize rowAt qs k = rk at *
          generalize rowAt rs 0 = r0 at *
          obtain ⟨Ak, ck, xk⟩ := rk
          obtain ⟨A0, c0, z0⟩ := r0
          simp only at e1 hRk hR0
          have T1 : Hid (SSt W4 wr.drew o L A c M v ts) := HT.out.next (below_drewN (Below.refl wr.heap.size wr) 1)
          have HRk : Hid (Rd wr.drew Ak (f32s xk)) := hRk
          have HR0 : Hid (Rd wr.drew A0 (f32s z0)) := hR0
          have hxk : xk.length ≤ 4 := by have := HLk.out; simp only at this; omega
          have hz0 : z0.length ≤ 4 := by have := HL0.out; simp only at this; omega
          obtain ⟨Z, hZ⟩ : ∃ Z, shut z0 = Z := ⟨_, rfl⟩
          have hZl : Z.length ≤ 4 := by rw [← hZ, shut_len]; exact hz0
          obtain ⟨J, hJ⟩ : ∃ J, Z ++ xk = J := ⟨_, rfl⟩
          have hJ1 := HJ1.out
          simp only at hJ1
          rw [hZ, hJ] at hJ1
          have HJn := Lib.hid hJ1
          have HZ := Lib.hid hZ
          have HJe := Lib.hid hJ
          clear hJ1 HJ1 hRk hR0 hZ hJ
          go_wp2_with fail
          clear e1 a0 a1 b0 b1 HS HT
          refine wp_region_last (fun w' => w'.cell? ⟨o, 1, none⟩ = some v ∧ w'.cell? ⟨w.heap.size, 1, none⟩ = some (.slice (some ⟨ba, oa, none⟩) rs.length d1) ∧ w'.cell? ⟨ba, oa, none⟩ = some (.slice A0 z0.length c0)) 14 (by kernel_rfl) ⟨T1.out.cell, HD.out _ T1.out.bel⟩ (fun hHeld => ?_)
          generalize wr.drew = Wb at *
          refine wpAnyX_take [0, 1, 12, 14] (i := 0) (oi := _) (v := ?_) rfl (by kernel_rfl) (by kernel_rfl) (by kernel_rfl) (by kernel_rfl) (fun _ _ _ h => h) (Or.inl ⟨by rfl, ?_⟩) (by assumption) ?_
          rotate_left
          · (intro w hSw; (try dsimp only at hSw); go_simp; try (with_reducible rfl))
          (try simp only [Act.put, List.setIfInBounds_toArray])
          refine wpAnyX_take [1, 12, 14] (i := 1) (oi := _) (v := ?_) rfl (by kernel_rfl) (by kernel_rfl) (by kernel_rfl) (by kernel_rfl) (fun _ _ _ h => h) (Or.inl ⟨by rfl, ?_⟩) (by assumption) ?_
          rotate_left
          · (intro w hSw; (try dsimp only at hSw); go_simp; try (with_reducible rfl))
          (try simp only [Act.put])
          refine wpAnyX_take [2, 3, 4, 5, 7, 9, 10, 11, 12, 14] (i := 2) (oi := _) (v := ?_) rfl (by kernel_rfl) (by kernel_rfl) (by kernel_rfl) (by kernel_rfl) (fun _ _ _ h => h) (Or.inl ⟨by rfl, ?_⟩) (by assumption) ?_
          rotate_left
          · (intro w hSw; (try dsimp only at hSw); go_simp; try (with_reducible rfl))
          (try simp only [Act.put])
          refine wpAnyX_take [3, 4, 5, 7, 9, 10, 11, 12, 14] (i := 3) (oi := _) (v := ?_) rfl (by kernel_rfl) (by kernel_rfl) (by kernel_rfl) (by kernel_rfl) (fun _ _ _ h => h) (Or.inl ⟨by rfl, ?_⟩) (by assumption) ?_
          rotate_left
          · (intro w hSw; (try dsimp only at hSw); go_simp; try (with_reducible rfl))
          (try simp only [Act.put])
          refine wpAnyX_take [4, 5, 7, 9, 10, 11, 12, 14] (i := 4) (oi := _) (v := ?_) rfl (by kernel_rfl) (by kernel_rfl) (by kernel_rfl) (by kernel_rfl) (fun _ _ _ h => h) (Or.inl ⟨by rfl, ?_⟩) (by assumption) ?_
          rotate_left
          · (intro w hSw; (try dsimp only at hSw); go_simp; try (with_reducible rfl))
          (try simp only [Act.put])
          refine wpAnyX_take [5, 7, 9, 10, 11, 12, 14] (i := 5) (oi := _) (v := ?_) rfl (by kernel_rfl) (by kernel_rfl) (by kernel_rfl) (by kernel_rfl) (fun _ _ _ h => h) (Or.inl ⟨by rfl, ?_⟩) (by assumption) ?_
          rotate_left
          · (intro w hSw; (try dsimp only at hSw); go_simp; try (with_reducible rfl))
          (try simp only [Act.put])
          refine wpAnyX_take [6, 7, 9, 10, 11, 12, 14] (i := 6) (oi := _) (v := ?_) rfl (by kernel_rfl) (by kernel_rfl) (by kernel_rfl) (by kernel_rfl) (fun _ _ _ h => h) (Or.inl ⟨by rfl, ?_⟩) (by assumption) ?_
          rotate_left
          · (intro w hSw; (try dsimp only at hSw); go_simp; try (with_reducible rfl))
          (try simp only [Act.put])
          refine wpAnyX_take [8, 9, 10, 11, 12, 14] (i := 8) (oi := _) (v := ?_) rfl (by kernel_rfl) (by kernel_rfl) (by kernel_rfl) (by kernel_rfl) (fun _ _ _ h => h) (Or.inl ⟨by rfl, ?_⟩) (by assumption) ?_
          rotate_left
          · (intro w hSw; (try dsimp only at hSw); go_simp; try (with_reducible rfl))
          (try simp only [Act.put])
          refine wpAnyX_ready (i := 7) (o := _) (by kernel_rfl) rfl (fun K hK => ?_)
          go_simp
          refine (forced_any A0 c0 0 z0 Wb HR0.out (by omega)).mono ?_
          rintro e W7 ⟨Af, cf, Z2, rfl, hof, hff, hbf⟩
          have hfs := forced_shut hff HW0.out
          rw [HZ.out] at hfs
          replace hfs := hfs.symm
          subst hfs
          have T7 := Lib.hid (T1.out.next hbf)
          have OF7 := Lib.hid hof
          have HR7 := Lib.hid (HRk.out.below hbf)
          have hbz := hbf.size
          have hLb := T1.out.Ls
          clear hof hff hbf
          go_wp2_with fail
          refine hK.out _ _ ?_ (fun hHelda => ?_)
          · exact ⟨T7.out.cell, HD.out _ T7.out.bel⟩
          clear hK K
          (try simp only [Act.put, List.setIfInBounds_toArray, List.set_cons_zero, List.set_cons_succ])
          clear hHeld
          have hb8 : Below W7.heap.size W7 (W7.alloc (.cells #[.slice Af Z.length cf, .slice Ak xk.length ck] 28)) := (Below.refl W7.heap.size W7).alloc (Nat.le_refl _) _
          have T8 := Lib.hid (T7.out.next hb8)
          refine wpAnyX_ready (i := 9) (o := _) (by kernel_rfl) rfl (fun K hK => ?_)
          go_simp
          refine hK.out _ _ ?_ (fun hHeldb => ?_)
          · exact ⟨T8.out.cell, HD.out _ T8.out.bel⟩
          clear hK K
          (try simp only [Act.put, List.setIfInBounds_toArray, List.set_cons_zero, List.set_cons_succ])
          clear hHelda
          have HR8 := Lib.hid (HR7.out.below hb8)
          have OF8 : Hid ((W7.alloc (.cells #[.slice Af Z.length cf, .slice Ak xk.length ck] 28)).ownsRow Wb.heap.size 31 1 (.slice Af Z.length cf) Z.length (f32s Z)) := OF7.out.alloc _
          have HG8 := Lib.hid (heap_alloc_new W7 (.cells #[.slice Af Z.length cf, .slice Ak xk.length ck] 28))
          have hsz8 := hb8.size
          clear hb8 T7 HR7 OF7
          refine wpAnyX_ready (i := 10) (o := _) (by kernel_rfl) rfl (fun K hK => ?_)
          go_simp
          generalize W7.alloc (.cells #[.slice Af Z.length cf, .slice Ak xk.length ck] 28) = W8 at *
          refine (concatF_any W7.heap.size _ Af Ak cf ck Z xk W8 HG8.out (own_rd1 OF8.out) HR8.out (by omega) (by omega)).mono ?_
          rw [HJe.out]
          rintro e W9 ⟨Ac, cc, rfl, ho9, hb9⟩
          have T9 := Lib.hid (T8.out.next hb9)
          have O9 := Lib.hid ho9
          have hsz9 := hb9.size
          clear ho9 hb9
          go_wp2_with fail
          refine hK.out _ _ ?_ (fun hHeldc => ?_)
          · exact ⟨T9.out.cell, HD.out _ T9.out.bel⟩
          clear hK K
          (try simp only [Act.put, List.setIfInBounds_toArray, List.set_cons_zero, List.set_cons_succ])
          clear hHeldb
          have T10 : Hid (SSt W4 (W9.alloc (.cells #[.slice Ac J.length cc] 28)) o L A c M v ts) := T9.out.next ((Below.refl W9.heap.size W9).alloc (Nat.le_refl _) _)
          refine wpAnyX_ready (i := 11) (o := _) (by kernel_rfl) rfl (fun K hK => ?_)
          go_simp
          refine hK.out _ _ ?_ (fun hHeldd => ?_)
          · exact ⟨T10.out.cell, HD.out _ T10.out.bel⟩
          clear hK K
          (try simp only [Act.put, List.setIfInBounds_toArray, List.set_cons_zero, List.set_cons_succ])
          clear hHeldc
          obtain ⟨i0, hi0, hz0', hz1, hz2⟩ := info_parts row_info2
          have hoL := T9.out.oL
          have hLs9 := T9.out.Ls
          refine wpAnyX_ready (i := 12) (o := _) (by kernel_rfl) rfl (fun K hK => ?_)
          refine step_append_lies _ (by rfl) (.tmp 71) (.tmp 81) 24 (by rfl) (o + 1) 28 i0 _ 1 24 Try.underlying24 hi0 hz0' hz1 hz2 rfl (by omega) v ts.length (ts.map rowV) (by rfl) (T9.out.rows.own.alloc _) ⟨W9.heap.size, 0, none⟩ 1 1 [.slice Ac J.length cc] (by rfl) (by rfl) (World.news_of_block (cs := #[.slice Ac J.length cc]) (t := 28) (fr := (0, 0)) (heap_alloc_new W9 _)) (by simp [Value.oneCell']) (by omega) (by simp only [maxLen]; omega) (by omega) (by simp; omega) (W9.heap.size + 1) (by simp) ?_
          intro gg cap w4 hown4 hgrow hat hlt4
          have B4 := Lib.hid (T9.out.grown hgrow)
          have A4 := Lib.hid (T9.out.app (lo1 := W8.heap.size) (r := (Ac, cc, J)) (by omega) O9.out hown4 hgrow hat hlt4)
          obtain ⟨_, cB, _, fB⟩ := r_cells B4.out.2
          clear hown4 hgrow hat T10 T9 T8
          refine hK.out _ _ ?_ (fun hHelde => ?_)
          · exact ⟨cB, HD.out _ B4.out.1⟩
          clear hK K
          (try simp only [Act.put, List.setIfInBounds_toArray])
          clear hHeldd
          refine wpAnyX_take [13, 14] (i := 13) (oi := _) (v := ?_) rfl (by kernel_rfl) (by kernel_rfl) (by kernel_rfl) (by kernel_rfl) (fun _ _ _ h => h) (Or.inl ⟨by rfl, ?_⟩) (by assumption) ?_
          rotate_left
          · (intro w hSw; (try dsimp only at hSw); go_simp; try (with_reducible rfl))
          (try simp only [Act.put])
          refine wpAnyX_last (o := _) (by kernel_rfl) rfl (fun K hK => ?_)
          go_simp
          refine hK.out _ _ ?_
          clear hK K
          (try simp only [Act.put, List.setIfInBounds_toArray, List.set_cons_zero, List.set_cons_succ])
          refine wpAnyX_done (by kernel_rfl) ?_ _
          go_wp2_with fail
          go_roundw
          case rel => exact ⟨k + 1, _, ts ++ [(Ac, cc, J)], _, by go_num, by omega, by have := HTL.out; simp; omega, HJ.out.snoc HJn.out.symm, A4.out⟩
          case measure => simp [intOf]; omega
        · obtain rfl : k = qs.length := by omega
          obtain ⟨B', d, rfl, hss, _⟩ := HT.out.rows.form
          have hM := HM.out
          subst hM
          have hok : RoomOk (ms ++ vs) ts 16 16 := ⟨fun m hm => (List.mem_append.1 hm).elim (K1.out.ok m) (K2.out.ok m), by simp; omega, by omega, joined_ok K1.out.sh K2.out.sh hr0 hq0 HJ.out (by omega)⟩
          have hcon := isRoom_any A c W4.heap.size o (ms ++ vs) B' d ts wr ⟨HT.out.own, by have := HT.out.oL; have := HT.out.Ls; omega, hss⟩ hok
          have HCon := Lib.hid hcon
          obtain ⟨o0, o1, _, _⟩ := r_cells HT.out.b
          have HTL := Lib.hid htl
          obtain ⟨N, hN⟩ : ∃ N, (ms ++ vs).length = N := ⟨_, rfl⟩
          have HN := Lib.hid hN
          rw [hN] at o0 HCon
          rw [hN]
          clear hcon hok hss htl hN
          go_wp2_with fail
          refine HCon.out.mono ?_
          rintro r W7 ⟨rfl, hb⟩
          have T7 := Lib.hid (HT.out.next hb)
          have S7 := Lib.hid (S4.out.below T7.out.bel)
          obtain ⟨p0, p1, _, _⟩ := r_cells T7.out.b
          rw [HN.out] at p0
          obtain ⟨r0, r1, r2, r3⟩ := r_cells S7.out.pr
          have HRes : Hid (∀ x y : Value, ((W7.setCell ⟨w.heap.size + 1 + 1, 0, none⟩ x).setCell ⟨w.heap.size + 1 + 1, 1, none⟩ y).heap[w.heap.size + 1 + 1]? = some (.cells #[x, y] 26 (0, 0))) := fun x y => by
            have e : W7.heap[w.heap.size + 1 + 1]? = some (.cells #[.slice none 0 0, .slice none 0 0] 26 (0, 0)) := S7.out.pr
            simp [World.setCell, Array.getElem?_modify, e]
          clear hb o0 o1 HT HS HCon
          go_wp2_with fail
          refine bodyPost_ret (results_cell_tmp_row rfl _ _ (w.heap.size + 1 + 1) 26 #[.slice A N c, .slice B' ts.length d] (0, 0) _ rfl (HRes.out _ _) Try.underlying26 rfl (by kernel_rfl)) rfl ?_
          have hw4 : w.heap.size + 2 < W4.heap.size := lt_of_some S4.out.pr
          have k : ∀ x y : Value, ∀ j, W4.heap.size ≤ j → ((W7.setCell ⟨w.heap.size + 1 + 1, 0, none⟩ x).setCell ⟨w.heap.size + 1 + 1, 1, none⟩ y).heap[j]? = W7.heap[j]? := fun x y j hj =>
            (Below.heap_setCell _ _ _ _ (by show j ≠ w.heap.size + 1 + 1; omega)).trans (Below.heap_setCell _ _ _ _ (by show j ≠ w.heap.size + 1 + 1; omega))
          have oc := T7.out.oc
          have oL := T7.out.oL
          have Ls := T7.out.Ls
          have R := T7.out.rows.keep (w' := (W7.setCell ⟨w.heap.size + 1 + 1, 0, none⟩ (.slice A N c)).setCell ⟨w.heap.size + 1 + 1, 1, none⟩ (.slice B' ts.length d)) fun j h1 _ => k _ _ j (by omega)
          obtain ⟨B2, d2', q, hss, _⟩ := R.form
          injection q with q1 _ _
          subst q1
          refine ⟨A, c, B', d, ts, by rw [HN.out]; rfl, ⟨(T7.out.own.keep fun j h1 _ => k _ _ j h1).low (by omega) (by simp; omega), Nat.le_refl _, hss⟩, HTL.out, HJ.out, (S7.out.bel.setCell ?_ _).setCell ?_ _⟩
          · show w.heap.size ≤ w.heap.size + 1 + 1; omega
          · show w.heap.size ≤ w.heap.size + 1 + 1; omega
end Go.Proofs.Ytndnfhhdflmfcaa

/-
impl.ShareModes where a room has no place; impl.RingRoom of the empty room.
-/
namespace Go.Proofs.Ytndnfhhdflmfcaa
open Go Go.RowKit Ieee

theorem room_nil (w : World) : RoomIn w 0 0 none 0 [] none [] :=
  ⟨⟨⟨rfl, .inl ⟨rfl, rfl⟩⟩, fun k h => by cases h⟩, Nat.zero_le _, ⟨fun h => absurd h (Nat.not_lt_zero _), fun i hi => absurd hi (Nat.not_lt_zero _)⟩⟩
theorem roomOk_nil : RoomOk [] [] 16 16 := ⟨fun m hm => (by cases hm), Nat.zero_le _, Nat.zero_le _, fun i hi => absurd hi (Nat.not_lt_zero _)⟩
set_option maxRecDepth 100000 in
set_option maxHeartbeats 400000 in
theorem isPlace_none (V : Value) (p : Nat) (w : World) :
    Calls Try.prog 32 #[.agg #[V, .slice none 0 0], .int .i64 p] w fun e w' => e = .returned (.bool false) ∧ Below w.heap.size w w' := by
  have HB : Hid (Below w.heap.size w (w.alloc (.cells #[V, .slice none 0 0] 26))) := (Below.refl w.heap.size w).alloc (Nat.le_refl _) _
  have HX : Hid ((w.alloc (.cells #[V, .slice none 0 0] 26)).heap[w.heap.size]? = some (.cells #[V, .slice none 0 0] 26 (0, 0))) := heap_alloc_new w _
  obtain ⟨_, r1, _, _⟩ := r_cells HX.out
  go_enter Try.func32, Try.ntmps32
  go_wp2_with fail
  go_ret
  exact ⟨by simp, HB.out⟩

set_option maxRecDepth 100000 in
set_option maxHeartbeats 800000 in
theorem roomBody_none (s e : Nat) (w : World) :
    Calls Try.prog 28 #[.agg #[.slice none 0 0, .slice none 0 0], .int .i64 s, .int .i64 e] w fun r w' => r = .returned (.tuple #[.agg #[.slice none 0 0], .bool false]) ∧ Below w.heap.size w w' := by
  have S1 := Lib.hid (RCx.start w (d := 0) (room_nil w))
  obtain ⟨r0, r1⟩ := S1.out.cells
  go_enter Try.func28, Try.ntmps28
  simp only [List.length_nil] at *
  go_wp2_with fail
  generalize (w.alloc (.cells #[.slice none 0 0, .slice none 0 0] 26)).alloc (.cells #[.slice none 0 0] 62) = W1 at *
  refine (isRoom_any none 0 0 0 [] none 0 [] W1 S1.out.room roomOk_nil).mono ?_
  rintro r W2 ⟨rfl, hb⟩
  have S2 := Lib.hid (S1.out.below hb)
  clear r0 r1 hb S1
  obtain ⟨r0, r1⟩ := S2.out.cells
  simp only [List.length_nil] at *
  go_wp2_with fail
  refine (isPlace_none _ s W2).mono ?_
  rintro r W3 ⟨rfl, hb⟩
  have S3 := Lib.hid (S2.out.below hb)
  have hsz := S3.out.bel.size
  clear r0 r1 hb S2
  have q0 : W3.cell? ⟨w.heap.size + 1, 0, none⟩ = some (.slice none 0 0) := cell_of_row W3 _ 0 _ _ (0, 0) S3.out.q
  have q1 : W3.frozen? ⟨w.heap.size + 1, 0, none⟩ = false := by unfold World.frozen?; simp only [S3.out.q]; simp
  have HRes : Hid (∀ v, (W3.setCell ⟨w.heap.size + 1, 0, none⟩ v).heap[w.heap.size + 1]? = some (.cells #[v] 62 (0, 0))) := fun v => by
    simp [World.setCell, Array.getElem?_modify, S3.out.q]
  go_wp2_with fail
  refine bodyPost_ret (results_cell_tmp_row rfl _ _ (w.heap.size + 1) 62 #[.slice none 0 0] (0, 0) _ rfl (HRes.out _) Try.underlying62 rfl (by kernel_rfl)) rfl ?_
  exact ⟨rfl, S3.out.bel.setCell (by show w.heap.size ≤ w.heap.size + 1; omega) _⟩

set_option maxRecDepth 100000 in
set_option maxHeartbeats 800000 in
theorem ringRoom_none (s e : Nat) (C : Value) (n : Int) (w : World) :
    Calls Try.prog 12 #[.agg #[.slice none 0 0, .slice none 0 0], .int .i64 s, .int .i64 e, C, .int .i64 n] w fun r w' => r = .returned (.tuple #[.slice none 0 0, .bool false]) ∧ Below w.heap.size w w' := by
  have hb1 : Below w.heap.size w (w.alloc (.cells #[.slice none 0 0, .slice none 0 0] 26)) := (Below.refl w.heap.size w).alloc (Nat.le_refl _) _
  have HB1 := Lib.hid hb1
  obtain ⟨r0, r1, _, _⟩ := r_cells (heap_alloc_new w (.cells #[.slice none 0 0, .slice none 0 0] 26))
  clear hb1
  go_enter Try.func12, Try.ntmps12
  go_wp2_with fail
  generalize w.alloc (.cells #[.slice none 0 0, .slice none 0 0] 26) = W1 at *
  refine (roomBody_none s e W1).mono ?_
  rintro r W2 ⟨rfl, hb⟩
  have HB2 := Lib.hid ((HB1.out.trans (hb.mono HB1.out.size)).alloc (Nat.le_trans HB1.out.size hb.size) (.cells #[.slice none 0 0] 62))
  clear r0 r1 hb
  go_wp2_with fail
  go_ret2
  exact ⟨rfl, HB2.out⟩

set_option maxRecDepth 100000 in
set_option maxHeartbeats 1600000 in
theorem shareModes_none (lo1 hi1 : Nat) (A1 : Option Addr) (c1 : Nat) (ms : List MW) (B1 : Option Addr) (d1 : Nat) (rs : List Row) (lo2 hi2 : Nat) (A2 : Option Addr) (c2 : Nat) (vs : List MW) (B2 : Option Addr) (d2 : Nat) (w : World) (h1 : RoomIn w lo1 hi1 A1 c1 ms B1 rs) (h2 : RoomIn w lo2 hi2 A2 c2 vs B2 []) (k1 : RoomOk ms rs 4 4) (k2 : RoomOk vs [] 4 4) (hr0 : 0 < rs.length) :
    Calls Try.prog 15 #[.agg #[.slice A1 ms.length c1, .slice B1 rs.length d1], .agg #[.slice A2 vs.length c2, .slice B2 0 d2], .float .f32 0] w fun r w' => r = .returned (.tuple #[.agg #[.slice none 0 0, .slice none 0 0], .bool false]) ∧ Below w.heap.size w w' := by
  have hlm := k1.lm
  have hln := k1.ln
  have hlv := k2.lm
  have K1 : Hid (RoomOk ms rs 16 16) := ⟨k1.ok, by omega, by omega, k1.sh⟩
  have K2 : Hid (RoomOk vs [] 16 16) := ⟨k2.ok, by omega, by simp, k2.sh⟩
  have S1 := Lib.hid (SCx.start w (d1 := d1) (d2 := d2) h1 h2)
  have hrn : ((rs.length : Int) == 0) = false := by simp; intro e; rw [e] at hr0; exact absurd hr0 (Nat.lt_irrefl _)
  obtain ⟨a0, a1, b0, b1⟩ := S1.out.cells
  clear h1 h2 k1 k2
  go_enter Try.func15, Try.ntmps15
  simp only [List.length_nil] at b1 S1
  go_wp2_with fail
  generalize ((w.alloc (.cells #[.slice A1 ms.length c1, .slice B1 rs.length d1] 26)).alloc (.cells #[.slice A2 vs.length c2, .slice B2 0 d2] 26)).alloc (.cells #[.slice none 0 0, .slice none 0 0] 26) = W1 at *
  refine (isRoom_any A1 c1 lo1 hi1 ms B1 d1 rs W1 S1.out.ra K1.out).mono ?_
  rintro r W2 ⟨rfl, hb⟩
  have S2 := Lib.hid (S1.out.below hb)
  clear a0 a1 b0 b1 hb S1
  obtain ⟨a0, a1, b0, b1⟩ := S2.out.cells
  simp only [List.length_nil] at b1
  go_wp2_with fail
  refine (isRoom_any A2 c2 lo2 hi2 vs B2 d2 [] W2 S2.out.rb K2.out).mono ?_
  rintro r W3 ⟨rfl, hb⟩
  have S3 := Lib.hid (S2.out.below hb)
  clear a0 a1 b0 b1 hb S2
  obtain ⟨a0, a1, b0, b1⟩ := S3.out.cells
  simp only [List.length_nil] at b1
  obtain ⟨r0, r1, r2, r3⟩ := r_cells S3.out.pr
  have HRes : Hid (∀ x y : Value, ((W3.setCell ⟨w.heap.size + 1 + 1, 0, none⟩ x).setCell ⟨w.heap.size + 1 + 1, 1, none⟩ y).heap[w.heap.size + 1 + 1]? = some (.cells #[x, y] 26 (0, 0))) := fun x y => by
    have e : W3.heap[w.heap.size + 1 + 1]? = some (.cells #[.slice none 0 0, .slice none 0 0] 26 (0, 0)) := S3.out.pr
    simp [World.setCell, Array.getElem?_modify, e]
  go_wp2_with fail
  refine bodyPost_ret (results_cell_tmp_row rfl _ _ (w.heap.size + 1 + 1) 26 #[.slice none 0 0, .slice none 0 0] (0, 0) _ rfl (HRes.out _ _) Try.underlying26 rfl (by kernel_rfl)) rfl ?_
  refine ⟨rfl, (S3.out.bel.setCell ?_ _).setCell ?_ _⟩
  · show w.heap.size ≤ w.heap.size + 1 + 1; omega
  · show w.heap.size ≤ w.heap.size + 1 + 1; omega
end Go.Proofs.Ytndnfhhdflmfcaa

/-
Rooms: the product of weights commutes; a weight of 1; modes without a gain add nothing. (Plain arithmetic.)
-/
namespace Go.Proofs.Ytndnfhhdflmfcaa
open Go Ieee

theorem place_comm {ms : List MW} {rs : List Row} {s e : Nat} (h : Shaped ms rs) (hs : s < rs.length) (he : e < rs.length) : roomM ms (placeW rs e s) = roomM ms (placeW rs s e) :=
  roomM_congr fun k hk => mul_comm_fin ((h e he).2 k hk).f ((h s hs).2 k hk).f
theorem place_one {ms : List MW} {rs : List Row} {s t : Nat} (h : Shaped ms rs) (hs : s < rs.length) (h1 : ∀ k, k < ms.length → rW rs t k = 1065353216) : roomM ms (placeW rs s t) = roomM ms (rW rs s) :=
  roomM_congr fun k hk => by
    show fo .mul .f32 (rW rs s k) (rW rs t k) = rW rs s k
    rw [h1 k hk]
    exact mul_one ((h s hs).2 k hk).f ((h s hs).2 k hk).w
theorem Eqv.trans {k : FloatKind} {a b c : Nat} (h : Eqv k a b) (g : Eqv k b c) : Eqv k a c := ⟨h.fa, g.fb, h.wa, g.wb, h.v.trans g.v⟩
theorem mul_zero_val {c x : Nat} (hc : fin .f32 c) (hx : fin .f32 x) (h : fv .f32 c = 0 ∨ fv .f32 x = 0) : fv .f32 (fo .mul .f32 c x) = 0 := by
  have e : fv .f32 c * fv .f32 x = 0 := by rcases h with h | h <;> rw [h] <;> grind
  have zt2 : ab (0 : Rat) ≤ top .f32 := by rw [ab_of_nonneg Rat.le_refl]; exact top_pos _
  exact round_zero (mul_spec hc hx (by rw [e]; exact zt2)) e
/-- A mode without a gain stays at rest. -/
theorem rest_gain {m : MW} {x : Nat} (hm : ModeOk m.1 m.2.1 m.2.2.1 m.2.2.2) (g1 : fv .f32 m.2.2.1 = 0) (g2 : fv .f32 m.2.2.2 = 0) (fx : fin .f32 x) (hx : ab (fv .f32 x) ≤ 8) : EqvS (stepW m (0, 0) x) (0, 0) := by
  obtain ⟨z1, z2⟩ := zero_fin .f32
  have hs : StOk (2 ^ 14) (0, 0) := zero_ok (by grind)
  obtain ⟨hs', S⟩ := step_ok hm hs fx hx (Rat.le_refl) (by grind)
  obtain ⟨w1, w2⟩ := wid_fin z1
  rw [z2] at w2
  have fa := hm.fa
  have fb := hm.fb
  have zt : ab (0 : Rat) ≤ top .f64 := by rw [ab_of_nonneg Rat.le_refl]; exact top_pos _
  have zt2 : ab (0 : Rat) ≤ top .f32 := by rw [ab_of_nonneg Rat.le_refl]; exact top_pos _
  have mz : ∀ {c : Nat}, fin .f64 c → fin .f64 (fo .mul .f64 (wid 0) c) ∧ fv .f64 (fo .mul .f64 (wid 0) c) = 0 := fun {c} hc => by
    have e : fv .f64 (wid 0) * fv .f64 c = 0 := by rw [w2, Rat.zero_mul]
    have r := mul_spec w1 hc (by rw [e]; exact zt)
    exact ⟨r.1, round_zero r e⟩
  have re : fv .f64 (mulRe (wid 0) (wid 0) (wid m.1) (wid m.2.1)) = 0 := by
    have e : fv .f64 (fo .mul .f64 (wid 0) (wid m.1)) - fv .f64 (fo .mul .f64 (wid 0) (wid m.2.1)) = 0 := by rw [(mz fa).2, (mz fb).2]; grind
    exact round_zero (sub_spec (mz fa).1 (mz fb).1 (by rw [e]; exact zt)) e
  have im : fv .f64 (mulIm (wid 0) (wid 0) (wid m.1) (wid m.2.1)) = 0 := by
    have e : fv .f64 (fo .mul .f64 (wid 0) (wid m.2.1)) + fv .f64 (fo .mul .f64 (wid 0) (wid m.1)) = 0 := by rw [(mz fa).2, (mz fb).2]; grind
    exact round_zero (add_spec (mz fb).1 (mz fa).1 (by rw [e]; exact zt)) e
  have M := S.mild
  have R1 := (nar_ok M.fr M.tr).2
  have R2 := (nar_ok M.fi M.ti).2
  have v1 := round_zero R1 re
  have v2 := round_zero R2 im
  have k1 : fv .f32 (stepW m (0, 0) x).1 = 0 := by
    have e : fv .f32 (sRe 0 0 m.1 m.2.1) + fv .f32 (fo .mul .f32 m.2.2.1 x) = 0 := by
      rw [show fv .f32 (sRe 0 0 m.1 m.2.1) = 0 from v1, mul_zero_val (fin_of_wid hm.fc) fx (.inl g1)]; grind
    exact round_zero (add_spec R1.1 S.g1 (by rw [e]; exact zt2)) e
  have k2 : fv .f32 (stepW m (0, 0) x).2 = 0 := by
    have e : fv .f32 (sIm 0 0 m.1 m.2.1) + fv .f32 (fo .mul .f32 m.2.2.2 x) = 0 := by
      rw [show fv .f32 (sIm 0 0 m.1 m.2.1) = 0 from v2, mul_zero_val (fin_of_wid hm.fd) fx (.inl g2)]; grind
    exact round_zero (add_spec R2.1 S.g2 (by rw [e]; exact zt2)) e
  exact ⟨⟨S.n1, z1, hs'.w1, by rw [wfk_32]; omega, by rw [k1, z2]⟩, ⟨S.n2, z1, hs'.w2, by rw [wfk_32]; omega, by rw [k2, z2]⟩⟩
theorem outAt_congr {P Q : List MW} {ss ts : List (Nat × Nat)} {x : Nat} (k : Nat) (h : ∀ j, j < k → stepW (mAt Q j) (sAt ss j) x = stepW (mAt P j) (sAt ts j) x) : outAt Q ss x k = outAt P ts x k := by
  induction k with
  | zero => rfl
  | succ k ih =>
    show fo .add .f32 (outAt Q ss x k) (stepW (mAt Q k) (sAt ss k) x).1 = fo .add .f32 (outAt P ts x k) (stepW (mAt P k) (sAt ts k) x).1
    rw [ih fun j hj => h j (by omega), h k (by omega)]
section
variable {P Q : List MW} {xs : List Nat}
theorem head_states (ha : P.length ≤ Q.length) (hm : ∀ k, k < P.length → mAt Q k = mAt P k) (i : Nat) : ∀ k, k < P.length → sAt (stAt Q xs i) k = sAt (stAt P xs i) k := by
  induction i with
  | zero =>
    intro k hk
    have h2 : k < Q.length := by omega
    simp [stAt, sAt, List.getD, hk, h2]
  | succ i ih =>
    intro k hk
    have e : sAt (stAt Q xs (i + 1)) k = stepW (mAt Q k) (sAt (stAt Q xs i) k) (inAt xs i) := nextS_at (by rw [stAt_len]; omega)
    have e' : sAt (stAt P xs (i + 1)) k = stepW (mAt P k) (sAt (stAt P xs i) k) (inAt xs i) := nextS_at (by rw [stAt_len]; exact hk)
    rw [e, e', ih k hk, hm k hk]
theorem tail_states (W : World) (hQ : ModesOk Q) (hx : Low xs) (hz : ∀ k, P.length ≤ k → k < Q.length → fv .f32 (mAt Q k).2.2.1 = 0 ∧ fv .f32 (mAt Q k).2.2.2 = 0) (i : Nat) (hi : i ≤ 61) : ∀ k, P.length ≤ k → k < Q.length → EqvS (sAt (stAt Q xs i) k) (0, 0) := by
  induction i with
  | zero =>
    intro k _ hk
    have e : sAt (stAt Q xs 0) k = (0, 0) := by simp [stAt, sAt, List.getD, hk]
    rw [e]
    obtain ⟨z1, _⟩ := zero_fin .f32
    exact ⟨Eqv.refl z1 (by rw [wfk_32]; omega), Eqv.refl z1 (by rw [wfk_32]; omega)⟩
  | succ i ih =>
    intro k h1 hk
    have h := ih (by omega) k h1 hk
    have e : sAt (stAt Q xs (i + 1)) k = stepW (mAt Q k) (sAt (stAt Q xs i) k) (inAt xs i) := nextS_at (by rw [stAt_len]; exact hk)
    obtain ⟨x1, x2⟩ := hx.at_ i
    rw [e]
    have a := step_eqv W (hQ.at_ hk) (states_ok hQ hx i (by omega) k hk) h x1 x2 (pw3_lo i) (pw3_hi i (by omega))
    obtain ⟨g1, g2⟩ := hz k h1 hk
    have b := rest_gain (hQ.at_ hk) g1 g2 x1 x2
    exact ⟨a.1.trans b.1, a.2.trans b.2⟩
/-- **MODES WITHOUT A GAIN ADD NOTHING.** -/
theorem tail_out (W : World) (hP : ModesOk P) (hQ : ModesOk Q) (hx : Low xs) (h5 : P.length ≤ 5) (ha : P.length ≤ Q.length) (hm : ∀ k, k < P.length → mAt Q k = mAt P k)
    (hz : ∀ k, P.length ≤ k → k < Q.length → fv .f32 (mAt Q k).2.2.1 = 0 ∧ fv .f32 (mAt Q k).2.2.2 = 0) {ys zs : List Nat} {n : Nat} (hn : n ≤ 60) (hy : Rung P xs ys n) (hzs : Rung Q xs zs n) : ∀ i, i < n → feq .f32 (zs.getD i 0) (ys.getD i 0) = true := fun i hi => by
  obtain ⟨x1, x2⟩ := hx.at_ i
  have key := out_eqv (ms := P) (ss := stAt P xs i) (ts := stAt P xs i) (x := inAt xs i) (fun k hk => by
    have s0 := states_ok hP hx i (by omega) k hk
    obtain ⟨S, T⟩ := step_ok (hP.at_ hk) s0 x1 x2 (pw3_lo _) (pw3_hi _ (by omega))
    refine ⟨⟨Eqv.refl T.n1 S.w1, Eqv.refl T.n2 S.w2⟩, ?_⟩
    have := pw3_hi i (by omega)
    have b' : ab (fv .f32 (stepW (mAt P k) (sAt (stAt P xs i) k) (inAt xs i)).1) ≤ pw3 i * 3 := S.b1
    grind) P.length (Nat.le_refl _) h5
  have hb : ab (fv .f32 (outAt P (stAt P xs i) (inAt xs i) P.length)) ≤ 2 ^ 118 := by
    have h1 : (P.length : Rat) ≤ 5 := by
      have := Rat.natCast_le_natCast.2 h5
      simpa using this
    have := key.2
    grind
  have head : outAt Q (stAt Q xs i) (inAt xs i) P.length = outAt P (stAt P xs i) (inAt xs i) P.length := outAt_congr _ fun j hj => by rw [hm j hj, head_states ha hm i j hj]
  have tail : ∀ d, P.length + d ≤ Q.length → Eqv .f32 (outAt Q (stAt Q xs i) (inAt xs i) (P.length + d)) (outAt P (stAt P xs i) (inAt xs i) P.length) := by
    intro d
    induction d with
    | zero => intro _; rw [Nat.add_zero, head]; exact Eqv.refl key.1.fa key.1.wa
    | succ d ih =>
      intro hd
      have h := ih (by omega)
      have hk : P.length + d < Q.length := by omega
      have st := tail_states W hQ hx hz (i + 1) (by omega) (P.length + d) (by omega) hk
      have e : sAt (stAt Q xs (i + 1)) (P.length + d) = stepW (mAt Q (P.length + d)) (sAt (stAt Q xs i) (P.length + d)) (inAt xs i) := nextS_at (by rw [stAt_len]; exact hk)
      rw [e] at st
      have ht2 := top32
      have zv : fv .f32 (stepW (mAt Q (P.length + d)) (sAt (stAt Q xs i) (P.length + d)) (inAt xs i)).1 = 0 := by rw [st.1.v]; exact (zero_fin .f32).2
      have sum : fv .f32 (outAt Q (stAt Q xs i) (inAt xs i) (P.length + d)) + fv .f32 (stepW (mAt Q (P.length + d)) (sAt (stAt Q xs i) (P.length + d)) (inAt xs i)).1 = fv .f32 (outAt Q (stAt Q xs i) (inAt xs i) (P.length + d)) := by rw [zv]; grind
      have r := add_spec h.fa st.1.fa (by rw [sum, h.v]; grind)
      have v := r.exact h.fa sum.symm
      exact ⟨r.1, h.fb, fo_lt _ _ _ _, h.wb, by rw [← h.v, ← sum]; exact v⟩
  have fin' := tail (Q.length - P.length) (by omega)
  rw [show P.length + (Q.length - P.length) = Q.length by omega] at fin'
  have e1 := (hzs.2 i hi).1
  have e2 := (hy.2 i hi).1
  have f1 := nrm_fin_eq e1 fin'.fa
  have f2 := nrm_fin_eq e2 fin'.fb
  rw [f1, f2]
  exact (feq_iff fin'.fa fin'.fb).2 fin'.v
end
theorem mAt_left {ms vs : List MW} {k : Nat} (h : k < ms.length) : mAt (ms ++ vs) k = mAt ms k := by
  show (ms ++ vs).getD k _ = ms.getD k _
  simp only [List.getD]; rw [List.getElem?_append_left h]
theorem getD_left {xs ys : List Nat} {k : Nat} (h : k < xs.length) : (xs ++ ys).getD k 0 = xs.getD k 0 := by
  simp only [List.getD]; rw [List.getElem?_append_left h]
theorem getD_right {xs ys : List Nat} {k : Nat} (h : xs.length ≤ k) : (xs ++ ys).getD k 0 = ys.getD (k - xs.length) 0 := by
  simp only [List.getD]; rw [List.getElem?_append_right h]
/-- A room behind a shut door rings as it did. -/
theorem join_out {ms vs : List MW} {rs qs ts : List Row} {s e : Nat} {xs ys zs : List Nat} {n : Nat} (W : World) (k1 : RoomOk ms rs 4 4) (k2 : RoomOk vs qs 4 4) (hq : 0 < qs.length) (hj : Joined rs qs ts) (hl : ts.length = rs.length + qs.length) (hs : s < rs.length) (he : e < rs.length) (hx : Low xs) (hn : n ≤ 60)
    (hy : Rung (roomM ms (placeW rs s e)) xs ys n) (hz : Rung (roomM (ms ++ vs) (placeW ts s e)) xs zs n) : ∀ i, i < n → feq .f32 (zs.getD i 0) (ys.getD i 0) = true := by
  have hm := k1.lm
  have sT : Shaped (ms ++ vs) ts := joined_ok k1.sh k2.sh (by omega) hq hj (by omega)
  have okT : ModesOk (ms ++ vs) := fun m hm => (List.mem_append.1 hm).elim (k1.ok m) (k2.ok m)
  have row : ∀ i, i < rs.length → (rowAt ts i).2.2 = (rowAt rs i).2.2 ++ shut (rowAt qs 0).2.2 := fun i hi => by
    rw [hj i (by omega)]; unfold jrow; rw [if_pos hi]
  have hd : ∀ i k, i < rs.length → k < ms.length → rW ts i k = rW rs i k := fun i k hi hk => by
    unfold rW
    rw [row i hi, getD_left (by rw [(k1.sh i hi).1]; exact hk)]
  have tl : ∀ i k, i < rs.length → ms.length ≤ k → k < (ms ++ vs).length → fv .f32 (rW ts i k) = 0 := fun i k hi h1 h2 => by
    have hlen := (k1.sh i hi).1
    have hq0 := (k2.sh 0 hq).1
    rw [List.length_append] at h2
    unfold rW
    rw [row i hi, getD_right (by omega), shut_at (by omega)]
    exact mul_zero_val ((k2.sh 0 hq).2 _ (by omega)).f (zero_fin .f32).1 (.inr (zero_fin .f32).2)
  have okP : ModesOk (roomM ms (placeW rs s e)) := roomM_ok k1.ok fun k hk => place_wt k1.sh hs he hk
  have okQ : ModesOk (roomM (ms ++ vs) (placeW ts s e)) := roomM_ok okT fun k hk => place_wt sT (by omega) (by omega) hk
  refine tail_out W okP okQ hx (by rw [roomM_len]; omega) (by rw [roomM_len, roomM_len, List.length_append]; omega) (fun k hk => ?_) (fun k h1 h2 => ?_) hn hy hz
  · rw [roomM_len] at hk
    rw [roomM_at (by rw [List.length_append]; omega), roomM_at hk, mAt_left hk]
    unfold placeW
    rw [hd s k hs hk, hd e k he hk]
  · rw [roomM_len] at h1 h2
    rw [roomM_at h2]
    have hmk := okT.at_ h2
    have w1 := ((sT s (by omega)).2 k h2).f
    have w2 := ((sT e (by omega)).2 k h2).f
    have wz : fv .f32 (placeW ts s e k) = 0 := mul_zero_val w1 w2 (.inl (tl s k hs h1 h2))
    have wf := (place_wt sT (s := s) (e := e) (by omega) (by omega) h2).f
    exact ⟨mul_zero_val (fin_of_wid hmk.fc) wf (.inr wz), mul_zero_val (fin_of_wid hmk.fd) wf (.inr wz)⟩
end Go.Proofs.Ytndnfhhdflmfcaa

/-
laws.equal at equal numbers.
-/
namespace Go.Proofs.Ytndnfhhdflmfcaa
open Go Go.RowKit

set_option maxRecDepth 100000 in
set_option maxHeartbeats 400000 in
theorem equal_true (A B : Option Addr) (c d n : Nat) (xs ys : List Nat) (w : World) (hr : Rd w A (f32s xs)) (hs : Rd w B (f32s ys)) (hx : xs.length = n) (hy : ys.length = n) (hm : n ≤ 1048576) (ha : ∀ i, i < n → feq .f32 (xs.getD i 0) (ys.getD i 0) = true) :
    Calls Try.prog 16 #[.slice A n c, .slice B n d] w fun e w' => e = .returned (.bool true) ∧ ∃ m, w.drewN m = w' := by
  have hb0 : ((n : Int) == (n : Int)) = true := beq_self_eq_true _
  have Ha := Lib.hid ha
  have Hr := Lib.hid hr
  have Hs := Lib.hid hs
  clear hr hs ha
  go_enter Try.func16, Try.ntmps16
  go_wp2_with fail
  go_loopw [13] (fun i wr => ∃ k : Nat, i = .int .i64 k ∧ k ≤ n ∧ ∃ m, wr = w.drewN m) (fun i _ => n - (intOf i).toNat)
  case atStart => exact ⟨0, rfl, by omega, 0, (World.drewN_zero w).symm⟩
  case round =>
    obtain ⟨k, rfl, hk, m, rfl⟩ := hrel
    by_cases hlt : k < n
    · obtain ⟨b, off, rfl, hbk, hc⟩ := Hr.out (by simp; omega)
      obtain ⟨b2, off2, rfl, hbk2, hc2⟩ := Hs.out (by simp; omega)
      have e1 := hc k _ (f32s_at (by omega))
      have e2 := hc2 k _ (f32s_at (by omega))
      have e3 := Ha.out k hlt
      clear hc hc2
      obtain ⟨x, hx'⟩ : ∃ x, xs.getD k 0 = x := ⟨_, rfl⟩
      obtain ⟨y, hy'⟩ : ∃ y, ys.getD k 0 = y := ⟨_, rfl⟩
      rw [hx'] at e1 e3
      rw [hy'] at e2 e3
      clear hx' hy'
      go_wp2_with fail
      refine wp_region_rx (by kernel_rfl) (by kernel_rfl) ?_; apply Exists.intro
      repeat (first | (apply wpR_val; intro K hK; go_simp; refine ⟨rfl, hK _ ?_⟩; clear hK K) | (apply wpR_skip; intro K hK; go_simp; refine hK _ ?_; clear hK K))
      apply wpR_nil (Rs := []); rintro _ ⟨nq, rfl⟩
      go_wp2_with fail
      go_roundw
      case rel => exact ⟨k + 1, by go_num, by omega, _, rfl⟩
      case measure => simp [intOf]; omega
    · have hkn : n = k := by omega
      subst hkn
      go_wp2_with fail
      go_ret
      exact ⟨rfl, m, rfl⟩
end Go.Proofs.Ytndnfhhdflmfcaa

/-
laws.fresh.
-/
namespace Go.Proofs.Ytndnfhhdflmfcaa
open Go Go.RowKit Ieee

theorem u8_info : (Try.prog.info? 5).map (fun i => (i.zero, i.size, i.bytes)) = some (some (.int .u8 0), 1, 1) := by kernel_rfl
theorem owns_one (w : World) (e : TypeId) (v : Value) : (w.alloc (.cells #[v] e)).ownsRow w.heap.size e 1 (.slice (some ⟨w.heap.size, 0, none⟩) 1 1) 1 [v] :=
  ⟨rfl, .inr ⟨w.heap.size, 1, #[v], rfl, Nat.le_refl _, heap_alloc_new w _, Nat.le_refl _, by simp [maxLen], rfl, rfl⟩⟩

set_option maxRecDepth 100000 in
set_option maxHeartbeats 600000 in
theorem fresh_any (A : Option Addr) (cp : Nat) (bs : List Int) (salt : Int) (w : World) (hr : Rd w A (bs.map (.int .u8))) (hm : bs.length ≤ 1048576) (hb : ∀ i, i < bs.length → 0 ≤ bs.getD i 0 ∧ bs.getD i 0 ≤ 255) (hs : salt = 3 ∨ salt = 5 ∨ salt = 7) :
    Calls Try.prog 10 #[.slice A bs.length cp, .int .i64 salt] w fun e w' => ∃ (A' : Option Addr) (c' : Nat) (ys : List Int), e = .returned (.slice A' ys.length c') ∧ Rd w' A' (ys.map (.int .u8)) ∧ ys.length ≤ 601 ∧ Below w.heap.size w w' := by
  rcases hs with rfl | rfl | rfl
  all_goals
    go_enter Try.func10, Try.ntmps10
    go_wp2_with fail
    go_loopw [5, 6] (fun v i wr => ∃ (k : Nat) (ys : List Int), i = .int .i64 (k : Int) ∧ k ≤ bs.length ∧ k ≤ 600 ∧ wr.ownsRow w.heap.size 5 1 v (k + 1) (ys.map (.int .u8)) ∧ Below w.heap.size w wr) (fun _ i _ => bs.length - (intOf i).toNat)
    case atStart => exact ⟨0, [_], rfl, by omega, by omega, owns_one w _ _, (Below.refl w.heap.size w).alloc (Nat.le_refl _) _⟩
    case round =>
      obtain ⟨k, ys, rfl, hk, hk6, hown, hbel⟩ := hrel
      by_cases hlt : k < bs.length
      · by_cases h6 : k < 600
        · obtain ⟨b, off, rfl, hbk, hc⟩ := (hr.below hbel) (by simp; omega)
          have e1 := hc k (.int .u8 (bs.getD k 0)) (by simp [List.getD, List.getElem?_eq_getElem hlt])
          have hx := hb k hlt
          have hsz := hbel.size
          generalize bs.getD k 0 = x at *
          clear hc
          go_wp2_with (at_builtin; refine wpList_app1 rfl (.tmp 20) (.tmp 34) 22 rfl w.heap.size 5 (.int .u8 0) 1 Try.underlying22 u8_info rfl u5 (k + 1) (ys.map (.int .u8)) _ rfl rfl rfl hown hsz (by omega) (by omega) ?_; intro v' w' hown' hbel')
          go_roundw
          case rel => exact ⟨k + 1, ys ++ [_], by go_num, by omega, by omega, by rw [List.map_append]; exact hown', hbel.trans hbel'⟩
          case measure => simp [intOf]; omega
        · go_wp2_with fail
          go_ret
          obtain ⟨A', cap, hv, hl, hrd⟩ := own_rd hown
          have hl' : ys.length = k + 1 := by simpa using hl
          exact ⟨A', cap, ys, by rw [hl', ← hv]; rfl, hrd, by omega, hbel⟩
      · go_wp2_with fail
        go_ret
        obtain ⟨A', cap, hv, hl, hrd⟩ := own_rd hown
        have hl' : ys.length = k + 1 := by simpa using hl
        exact ⟨A', cap, ys, by rw [hl', ← hv]; rfl, hrd, by omega, hbel⟩
end Go.Proofs.Ytndnfhhdflmfcaa

/-
'Room{.., append(append([][]T{}, rows...), row)}' in a region that draws its order: three new blocks and two appends, in whatever order.
-/
namespace Go.Proofs.Ytndnfhhdflmfcaa
open Go Go.RowKit

theorem wp_name {P : Program} {c : Code} {Q : Exit → Act → World → Prop} {a : Act} {w : World} (h : ∀ a0 Q0, a0 = a → Q0 = Q → Code.wp P c Q0 a0 w) : Code.wp P c Q a w := h a Q rfl rfl

/-- What has been made: the empty row (v), all rows appended (u), the block of the one row (b), the block of the result (r); each if it has been. -/
structure ASt (V W : World) (O : Value) (xs : List Value) (n : Nat) (v u : Option Value) (b r : Option Nat) : Prop where
  bel : Below V.heap.size V W
  ov : ∀ x, v = some x → W.ownsRow V.heap.size 28 1 x 0 []
  ou : ∀ x, u = some x → W.ownsRow V.heap.size 28 1 x n xs
  ob : ∀ g, b = some g → V.heap.size ≤ g ∧ W.heap[g]? = some (.cells #[O] 28 (0, 0)) ∧ (∀ x, v = some x → x.ownBlock ≠ some g) ∧ (∀ x, u = some x → x.ownBlock ≠ some g)
  or : ∀ g, r = some g → V.heap.size ≤ g ∧ W.heap[g]? = some (.cells #[.slice none 0 0, .slice none 0 0] 26 (0, 0)) ∧ (∀ x, v = some x → x.ownBlock ≠ some g) ∧ (∀ x, u = some x → x.ownBlock ≠ some g)
section
variable {V W W' : World} {O : Value} {xs : List Value} {n : Nat} {v u : Option Value} {b r : Option Nat}
theorem ASt.start (V : World) (O : Value) (xs : List Value) (n : Nat) : ASt V V O xs n none none none none :=
  ⟨Below.refl _ _, fun x h => (by cases h), fun x h => (by cases h), fun g h => (by cases h), fun g h => (by cases h)⟩
theorem ASt.alloc (h : ASt V W O xs n v u b r) (o : Obj) : ASt V (W.alloc o) O xs n v u b r :=
  ⟨h.bel.alloc h.bel.size o, fun x e => (h.ov x e).alloc o, fun x e => (h.ou x e).alloc o, fun g e => ⟨(h.ob g e).1, (Below.heap_alloc W o g (lt_of_some (h.ob g e).2.1)).trans (h.ob g e).2.1, (h.ob g e).2.2⟩,
    fun g e => ⟨(h.or g e).1, (Below.heap_alloc W o g (lt_of_some (h.or g e).2.1)).trans (h.or g e).2.1, (h.or g e).2.2⟩⟩
theorem ASt.op2 (h : ASt V W O xs n none none b r) : ASt V (W.alloc (.cells #[] 28)) O xs n (some (.slice (some ⟨W.heap.size, 0, none⟩) 0 0)) none b r := by
  have k := h.alloc (.cells #[] 28)
  refine ⟨k.bel, fun x e => ?_, fun x e => (by cases e), fun g e => ⟨(k.ob g e).1, (k.ob g e).2.1, fun x q => ?_, fun x q => (by cases q)⟩, fun g e => ⟨(k.or g e).1, (k.or g e).2.1, fun x q => ?_, fun x q => (by cases q)⟩⟩
  · injection e with e
    subst e
    exact ⟨rfl, .inr ⟨W.heap.size, 0, #[], rfl, h.bel.size, heap_alloc_new W _, Nat.le_refl _, by simp, rfl, rfl⟩⟩
  · injection q with q
    subst q
    intro e2
    injection e2 with e2
    have e3 : W.heap.size = g := e2
    have := lt_of_some (h.ob g e).2.1
    omega
  · injection q with q
    subst q
    intro e2
    injection e2 with e2
    have e3 : W.heap.size = g := e2
    have := lt_of_some (h.or g e).2.1
    omega
theorem ASt.op7 (h : ASt V W O xs n v u none r) : ASt V (W.alloc (.cells #[O] 28)) O xs n v u (some W.heap.size) r := by
  have k := h.alloc (.cells #[O] 28)
  refine ⟨k.bel, k.ov, k.ou, fun g e => ?_, k.or⟩
  injection e with e
  subst e
  exact ⟨h.bel.size, heap_alloc_new W _, fun x q e2 => by have := ((h.ov x q).lt _ e2).2; omega, fun x q e2 => by have := ((h.ou x q).lt _ e2).2; omega⟩
theorem ASt.op10 (h : ASt V W O xs n v u b none) : ASt V (W.alloc (.cells #[.slice none 0 0, .slice none 0 0] 26)) O xs n v u b (some W.heap.size) := by
  have k := h.alloc (.cells #[.slice none 0 0, .slice none 0 0] 26)
  refine ⟨k.bel, k.ov, k.ou, k.ob, fun g e => ?_⟩
  injection e with e
  subst e
  exact ⟨h.bel.size, heap_alloc_new W _, fun x q e2 => by have := ((h.ov x q).lt _ e2).2; omega, fun x q e2 => by have := ((h.ou x q).lt _ e2).2; omega⟩
/-- The rows are appended onto the empty row. -/
theorem ASt.op5 {x : Value} {g cap : Nat} (h : ASt V W O xs n (some x) none b r) (hown : W'.ownsRow V.heap.size 28 1 (.slice (some ⟨g, 0, none⟩) n cap) n xs) (hg : W.grownBy W' x.ownBlock) (hat : x.ownBlock = some g ∨ g = W.heap.size) :
    ASt V W' O xs n none (some (.slice (some ⟨g, 0, none⟩) n cap)) b r := by
  have ho := h.ov x rfl
  have far : ∀ k, V.heap.size ≤ k → k < W.heap.size → x.ownBlock ≠ some k → W'.heap[k]? = W.heap[k]? := fun k _ hk hne => hg.block k hk (fun e => hne e.symm)
  have key : ∀ k, k < W.heap.size → x.ownBlock ≠ some k → (Value.slice (some ⟨g, 0, none⟩) n cap).ownBlock ≠ some k := fun k hk hne e => by
    injection e with e
    have e3 : g = k := e
    rcases hat with hat | hat
    · exact hne (by rw [hat, e3])
    · omega
  refine ⟨⟨hg.os.trans h.bel.os, hg.tape.trans h.bel.tape, hg.output.trans h.bel.output, Nat.le_trans h.bel.size hg.size, fun k hk => ?_⟩, fun y e => (by cases e), fun y e => ?_, fun k e => ?_, fun k e => ?_⟩
  · exact (hg.block k (by have := h.bel.size; omega) (fun e => by have := (ho.lt k e.symm).1; omega)).trans (h.bel.block k hk)
  · injection e with e
    subst e
    exact hown
  · obtain ⟨b1, b2, b3, _⟩ := h.ob k e
    have hk := lt_of_some b2
    exact ⟨b1, (far k b1 hk (b3 x rfl)).trans b2, fun y q => (by cases q), fun y q => by injection q with q; subst q; exact key k hk (b3 x rfl)⟩
  · obtain ⟨b1, b2, b3, _⟩ := h.or k e
    have hk := lt_of_some b2
    exact ⟨b1, (far k b1 hk (b3 x rfl)).trans b2, fun y q => (by cases q), fun y q => by injection q with q; subst q; exact key k hk (b3 x rfl)⟩
end
/-- .. and the one row behind them. -/
structure BSt2 (V W : World) (O : Value) (xs : List Value) (A : Option Addr) (n c : Nat) (r : Option Nat) : Prop where
  bel : Below V.heap.size V W
  rd : Rd W A (xs ++ [O])
  own : W.ownsRow V.heap.size 28 1 (.slice A n c) n (xs ++ [O])
  or : ∀ g, r = some g → V.heap.size ≤ g ∧ W.heap[g]? = some (.cells #[.slice none 0 0, .slice none 0 0] 26 (0, 0)) ∧ (Value.slice A n c).ownBlock ≠ some g
section
variable {V W W' : World} {O : Value} {xs : List Value} {n : Nat} {b r : Option Nat}
theorem ASt.op8 {x : Value} {g m cap : Nat} (h : ASt V W O xs n none (some x) b r) (hown : W'.ownsRow V.heap.size 28 1 (.slice (some ⟨g, 0, none⟩) m cap) m (xs ++ [O])) (hg : W.grownBy W' x.ownBlock) (hat : x.ownBlock = some g ∨ g = W.heap.size) :
    BSt2 V W' O xs (some ⟨g, 0, none⟩) m cap r := by
  have ho := h.ou x rfl
  refine ⟨⟨hg.os.trans h.bel.os, hg.tape.trans h.bel.tape, hg.output.trans h.bel.output, Nat.le_trans h.bel.size hg.size, fun k hk => ?_⟩, ?_, hown, fun k e => ?_⟩
  · exact (hg.block k (by have := h.bel.size; omega) (fun e => by have := (ho.lt k e.symm).1; omega)).trans (h.bel.block k hk)
  · obtain ⟨_, _, q, _, rd⟩ := own_rd hown
    injection q with q1 _ _
    rw [q1]; exact rd
  · obtain ⟨b1, b2, _, b3⟩ := h.or k e
    have hk := lt_of_some b2
    refine ⟨b1, (hg.block k hk (fun e => b3 x rfl e.symm)).trans b2, fun e2 => ?_⟩
    injection e2 with e2
    have e3 : g = k := e2
    rcases hat with hat | hat
    · exact b3 x rfl (by rw [hat, e3])
    · omega
theorem BSt2.op10 {A : Option Addr} {n c : Nat} (h : BSt2 V W O xs A n c none) : BSt2 V (W.alloc (.cells #[.slice none 0 0, .slice none 0 0] 26)) O xs A n c (some W.heap.size) := by
  have hb := Below.alloc (Below.refl W.heap.size W) (Nat.le_refl _) (.cells #[.slice none 0 0, .slice none 0 0] 26)
  refine ⟨h.bel.trans (hb.mono h.bel.size), h.rd.below hb, h.own.alloc _, fun g e => ?_⟩
  injection e with e
  subst e
  exact ⟨h.bel.size, heap_alloc_new W _, fun e2 => by have := (h.own.lt _ e2).2; omega⟩
/-- The room is stored: what holds at the end. -/
def TwoDone (V W : World) (O : Value) (xs : List Value) (m : Value) (A : Option Addr) (n c g : Nat) : Prop := Below V.heap.size V W ∧ Rd W A (xs ++ [O]) ∧ W.heap[g]? = some (.cells #[m, .slice A n c] 26 (0, 0)) ∧ ((∃ a, A = some ⟨a, 0, none⟩ ∧ n ≤ c ∧ c ≤ maxLen) ∨ n = 0)
theorem BSt2.done {A : Option Addr} {n c g : Nat} (h : BSt2 V W O xs A n c (some g)) (m : Value) : TwoDone V ((W.setCell ⟨g, 0, none⟩ m).setCell ⟨g, 1, none⟩ (.slice A n c)) O xs m A n c g := by
  obtain ⟨g1, g2, g3⟩ := h.or g rfl
  refine ⟨(h.bel.setCell g1 _).setCell g1 _, ?_, ?_, ?_⟩
  · have o : ((W.setCell ⟨g, 0, none⟩ m).setCell ⟨g, 1, none⟩ (.slice A n c)).ownsRow V.heap.size 28 1 (.slice A n c) n (xs ++ [O]) := owns_stay h.own fun k e =>
      (Below.heap_setCell _ _ _ _ (by show k ≠ g; intro q; exact g3 (by rw [e, q]))).trans (Below.heap_setCell _ _ _ _ (by show k ≠ g; intro q; exact g3 (by rw [e, q])))
    obtain ⟨_, _, q, _, rd⟩ := own_rd o
    injection q with q1 _ _
    rw [← q1] at rd; exact rd
  · simp [World.setCell, Array.getElem?_modify, g2]
  · rcases h.own.2 with ⟨_, h0⟩ | ⟨k, cap, cur, q, _, _, h1, h2, _⟩
    · exact .inr h0
    · injection q with q1 q2 q3
      exact .inl ⟨k, q1, by omega, by omega⟩
end
end Go.Proofs.Ytndnfhhdflmfcaa

/-
The law FnReciprocal returns true for all codes. No condition.
-/
namespace Go.Proofs.Ytndnfhhdflmfcaa.lawReciprocal
open Go Go.RowKit Go.ChangeShapes Go.WideShapes

theorem two : fin .f32 1073741824 ∧ fv .f32 1073741824 = 2 := by
  have h : FloatKind.f32.format.read 1073741824 = .number false 8388608 (-22) := by decide +kernel
  obtain ⟨h1, h2⟩ := fin_of_read h
  refine ⟨h1, ?_⟩
  rw [h2, dval_num]
  have e : mval 8388608 (-22) = 2 := by unfold mval pw; grind
  rw [e]; simp
theorem low_small2 {xs : List Nat} (h : ∀ x ∈ xs, SmallAt 1073741824 x) : Low xs := fun i hi => by
  have := small_spec two.1 (X := 2) (by rw [two.2, ab_of_nonneg (by grind)]; exact Rat.le_refl) (by grind) (h (xs.getD i 0) (by simp [List.getD, List.getElem?_eq_getElem hi]))
  exact ⟨this.1, Rat.le_trans this.2 (by grind)⟩
theorem kp_room {W : World} {lo hi c : Nat} {A B : Option Addr} {ms : List MW} {rs : List Row} (h : RoomIn W lo hi A c ms B rs) : Kp W.heap.size (fun W => RoomIn W lo hi A c ms B rs) W := ⟨Nat.le_refl _, fun _ hb => h.below hb⟩
theorem same_rungs {ms : List MW} {xs : List Nat} (A B : Option Addr) (c d : Nat) (ys zs : List Nat) (n : Nat) (w : World) (h1 : Rd w A (f32s ys)) (h2 : Rd w B (f32s zs)) (hn : n ≤ 59) (hy : Rung ms xs ys n) (hz : Rung ms xs zs n) :
    Calls Try.prog 13 #[.slice A n c, .slice B n d] w fun e w' => ∃ m, e = .returned (.bool true) ∧ w.drewN m = w' := by
  have h := same_true A B c d ys zs w h1 h2 (by rw [hy.1]; omega) (by rw [hz.1]; omega) (fun i hi => (hy.2 i (by rw [hy.1] at hi; exact hi)).2) (fun i hi => (hz.2 i (by rw [hz.1] at hi; exact hi)).2) (by rw [hy.1, hz.1])
    (fun i hi => rung_prefix hz hy (Nat.le_refl _) i (by rw [hy.1] at hi; exact hi))
  rw [hy.1, hz.1] at h
  exact h
theorem Kp.imp_left {L : Nat} {P Q : World → Prop} {W : World} (h : Kp L (fun W => P W ∧ Q W) W) : Kp L P W := h.imp fun _ h => h.1
theorem int_info : (Try.prog.info? 3).map (fun i => (i.zero, i.size, i.bytes)) = some (some (.int .i64 0), 1, 8) := by kernel_rfl
theorem rep_list (n : Nat) (a : Int) : ∃ es : List Int, es.length = n ∧ (∀ i, i < es.length → es.getD i 0 = a) ∧ List.replicate n a = es :=
  ⟨List.replicate n a, by simp, fun i hi => by simp at hi; simp [List.getD, hi], rfl⟩
theorem room_up {ms : List MW} {rs : List Row} (h : RoomOk ms rs 4 4) : RoomOk ms rs 16 16 := ⟨h.ok, by have := h.lm; omega, by have := h.ln; omega, h.sh⟩

set_option maxRecDepth 100000 in
set_option maxHeartbeats 4000000 in
theorem walk_some (A : Option Addr) (c : Nat) (bs : List Int) (w : World) (hr : Rd w A (bs.map (.int .u8))) (hm : bs.length ≤ 1048576) (hb : ∀ i, i < bs.length → 0 ≤ bs.getD i 0 ∧ bs.getD i 0 ≤ 255) :
    Calls Try.prog 3 #[.slice A bs.length c] w fun e w' => e = .returned (.bool true) ∧ Below w.heap.size w w' := by
  have hlen0 : ¬ (1048576 : Int) < (bs.length : Int) := by omega
  have hq1 := atL_bound hb 1
  have hq2 := atL_bound hb 2
  have Hb := Lib.hid hb
  have H1 := Lib.hid (fun w h => at_any A c bs 1 w h hm (by omega) hb)
  have H2 := Lib.hid (fun w h => at_any A c bs 2 w h hm (by omega) hb)
  clear hb
  generalize atL bs 1 = q1 at *
  generalize atL bs 2 = q2 at *
  have Hr := Lib.hid hr
  clear hr
  go_enter Try.func3, Try.ntmps3
  go_wp2_with fail
  refine (makeRoom_any A c bs _ Hr.out hm).mono ?_
  rintro e W1 ⟨⟨A', c', ms, B', d', rs, rfl, ⟨hown, hrows⟩, hok⟩, hb1⟩
  obtain ⟨B2, d2, q, hss, -⟩ := hrows.form
  injection q with q1' _ q2'
  subst q1' q2'
  have HK := Lib.hid hok
  have hV := Below.alloc (Below.refl W1.heap.size W1) (Nat.le_refl _) (.cells #[.slice A' ms.length c', .slice B' rs.length d'] 26)
  have K1 := Lib.hid ((kp_room ((RoomIn.mk hown (Nat.le_refl _) hss).below hV)).and ((kp_new W1 (.cells #[.slice A' ms.length c', .slice B' rs.length d'] 26)).and ((kp_below hb1 hb1.size).alloc (.cells #[.slice A' ms.length c', .slice B' rs.length d'] 26))))
  have hlm := hok.lm
  have hln := hok.ln
  clear hown hrows hss hok hb1 hV
  unfold roomV
  go_wp2_with fail
  generalize hV1 : W1.alloc (.cells #[.slice A' ms.length c', .slice B' rs.length d'] 26) = V1 at *
  have hz1 : W1.heap.size < V1.heap.size := by rw [← hV1]; simp
  clear hV1
  generalize W1.heap.size = gb at *
  refine (fresh_any A c bs 3 _ (Hr.out.below K1.out.here.2.2) hm Hb.out (.inl rfl)).mono ?_
  rintro e W2 ⟨A2, c2, ys0, rfl, hrd2, hlen2, hb2⟩
  have K2 := Lib.hid (K1.out.next hb2)
  have R2 := Lib.hid hrd2
  have hz2 : gb < W2.heap.size := Nat.lt_of_lt_of_le hz1 hb2.size
  clear K1 hb2 hrd2
  go_wp2_with fail
  refine (makeSmall_any A2 c2 ys0 1073741824 _ R2.out (by omega)).mono ?_
  rintro e W3 ⟨A3, c3, xs, rfl, hrd3, hlen3, hall, hb3⟩
  have K3 := Lib.hid ((K2.out.next hb3).and (kp_rd hrd3))
  have L := Lib.hid (low_small2 hall)
  have hz3 : gb < W3.heap.size := Nat.lt_of_lt_of_le hz2 hb3.size
  clear K2 R2 hb3 hrd3 hall
  obtain ⟨k0, k1, _, _⟩ := r_cells K3.out.here.1.2.1
  rcases Nat.eq_zero_or_pos rs.length with h0 | hr0
  · have hrn : ((rs.length : Int) == 0) = true := by rw [h0]; rfl
    go_wp2_with fail
    go_ret
    exact ⟨rfl, K3.out.here.1.2.2⟩
  have hrn : ((rs.length : Int) == 0) = false := by simp; intro e; rw [e] at hr0; exact absurd hr0 (Nat.lt_irrefl _)
  have hnz : ¬ (rs.length : Int) = 0 := by omega
  have hmod1 : 0 ≤ q1 % (rs.length : Int) ∧ q1 % (rs.length : Int) < (rs.length : Int) := ⟨Int.emod_nonneg _ hnz, Int.emod_lt_of_pos _ (by omega)⟩
  have hmod2 : 0 ≤ q2 % (rs.length : Int) ∧ q2 % (rs.length : Int) < (rs.length : Int) := ⟨Int.emod_nonneg _ hnz, Int.emod_lt_of_pos _ (by omega)⟩
  obtain ⟨s, hs, hs1⟩ : ∃ s : Nat, q1 % (rs.length : Int) = (s : Int) ∧ s < rs.length := ⟨(q1 % (rs.length : Int)).toNat, by omega, by omega⟩
  obtain ⟨e, he, he1⟩ : ∃ e : Nat, q2 % (rs.length : Int) = (e : Int) ∧ e < rs.length := ⟨(q2 % (rs.length : Int)).toNat, by omega, by omega⟩
  have ht1 : q1.tmod (rs.length : Int) = (s : Int) := by rw [Int.tmod_eq_emod_of_nonneg hq1.1]; exact hs
  have ht2 : q2.tmod (rs.length : Int) = (e : Int) := by rw [Int.tmod_eq_emod_of_nonneg hq2.1]; exact he
  have hne : ¬ rs = [] := fun h => by rw [h] at hr0; exact absurd hr0 (Nat.lt_irrefl _)
  clear hmod1 hmod2 hs he
  have T1 := Lib.hid (fun m => H1.out (W3.drewN m) (Hr.out.below (K3.out.drewN m).here.1.2.2))
  go_wp2_with fail
  refine wp_region_rx (by kernel_rfl) (by kernel_rfl) ?_; apply Exists.intro
  repeat (first | (apply wpR_val; intro K hK; go_simp; refine ⟨rfl, hK _ ?_⟩; clear hK K) | (apply wpR_skip; intro K hK; go_simp; refine hK _ ?_; clear hK K))
  apply wpR_val (v := .int .i64 q1); intro K hK; go_simp; refine ⟨fun m => rcall_same0 (T1.out _), hK _ ?_⟩; clear hK K
  repeat (first | (apply wpR_val; intro K hK; go_simp; refine ⟨rfl, hK _ ?_⟩; clear hK K) | (apply wpR_skip; intro K hK; go_simp; refine hK _ ?_; clear hK K))
  apply wpR_nil (Rs := []); rintro _ ⟨nq, rfl⟩
  have K4 := Lib.hid (K3.out.drewN nq)
  have hz4 : gb < (W3.drewN nq).heap.size := hz3
  clear K3 T1 k0 k1 hz3
  generalize W3.drewN nq = W4 at *
  obtain ⟨k0, k1, _, _⟩ := r_cells K4.out.here.1.2.1
  have T2 := Lib.hid (fun m => H2.out (W4.drewN m) (Hr.out.below (K4.out.drewN m).here.1.2.2))
  go_wp2_with fail
  refine wp_region_rx (by kernel_rfl) (by kernel_rfl) ?_; apply Exists.intro
  repeat (first | (apply wpR_val; intro K hK; go_simp; refine ⟨rfl, hK _ ?_⟩; clear hK K) | (apply wpR_skip; intro K hK; go_simp; refine hK _ ?_; clear hK K))
  apply wpR_val (v := .int .i64 q2); intro K hK; go_simp; refine ⟨fun m => rcall_same0 (T2.out _), hK _ ?_⟩; clear hK K
  repeat (first | (apply wpR_val; intro K hK; go_simp; refine ⟨rfl, hK _ ?_⟩; clear hK K) | (apply wpR_skip; intro K hK; go_simp; refine hK _ ?_; clear hK K))
  apply wpR_nil (Rs := []); rintro _ ⟨nq, rfl⟩
  have K5 := Lib.hid (K4.out.drewN nq)
  have hz5 : gb < (W4.drewN nq).heap.size := hz4
  clear K4 T2 k0 k1 hz4
  generalize W4.drewN nq = W5 at *
  obtain ⟨k0, k1, _, _⟩ := r_cells K5.out.here.1.2.1
  go_wp2_with fail
  refine (ringRoom_any A' c' _ gb ms B' d' rs s e A3 c3 xs 25 W5 K5.out.here.1.1 (room_up HK.out) hs1 he1 K5.out.here.2 (by omega) L.out (by omega)).mono ?_
  rintro r W6 ⟨A6, c6, ys1, hr, ho6, hr6, hb6⟩
  rw [hr6.1] at hr ho6
  subst hr
  have K6 := Lib.hid ((K5.out.next hb6).and (kp_rd (own_rd1 ho6)))
  have HX := Lib.hid hr6
  clear K5 ho6 hr6 hb6 k0 k1
  obtain ⟨k0, k1, _, _⟩ := r_cells K6.out.here.1.1.2.1
  go_wp2_with fail
  refine (ringRoom_any A' c' _ gb ms B' d' rs e s A3 c3 xs 25 W6 K6.out.here.1.1.1 (room_up HK.out) he1 hs1 K6.out.here.1.2 (by omega) L.out (by omega)).mono ?_
  rintro r W7 ⟨A7, c7, ys2, hr, ho7, hr7, hb7⟩
  rw [hr7.1] at hr ho7
  subst hr
  rw [place_comm HK.out.sh hs1 he1] at hr7
  have K7 := Lib.hid ((K6.out.next hb7).and (kp_rd (own_rd1 ho7)))
  have T7 := Lib.hid (fun W h1 h2 => same_rungs A6 A7 c6 c7 ys1 ys2 25 W h1 h2 (by omega) HX.out hr7)
  clear K6 ho7 hr7 hb7 k0 k1
  go_wp2_with fail
  refine (T7.out _ K7.out.here.1.2 K7.out.here.2).mono ?_
  rintro r w' ⟨n8, rfl, rfl⟩
  have K8 := Lib.hid (Kp.imp_left (K7.out.drewN n8))
  clear K7 T7
  generalize W7.drewN n8 = W8 at *
  obtain ⟨k0, k1, _, _⟩ := r_cells K8.out.here.1.1.2.1
  have own0 : Hid ((W8.alloc (.cells #[] 31)).ownsRow W8.heap.size 31 1 (.slice (some ⟨W8.heap.size, 0, none⟩) 0 0) 0 (f32s (List.replicate 0 1065353216))) := owns_empty W8 31
  have B0 : Hid (Below W8.heap.size W8 (W8.alloc (.cells #[] 31))) := (Below.refl W8.heap.size W8).alloc (Nat.le_refl _) _
  clear k0 k1
  obtain ⟨k0, k1, _, _⟩ := r_cells (K8.out.alloc (.cells #[] 31)).here.1.1.2.1
  go_wp2_with fail
  generalize W8.alloc (.cells #[] 31) = W9 at *
  go_loopw [11, 78] (fun v i wr => ∃ k : Nat, i = .int .i64 (k : Int) ∧ k ≤ ms.length ∧ Hid (wr.ownsRow W8.heap.size 31 1 v k (f32s (List.replicate k 1065353216))) ∧ Hid (Below W8.heap.size W8 wr)) (fun _ i _ => ms.length - (intOf i).toNat)
  case atStart => exact ⟨0, rfl, by omega, own0.out, B0.out⟩
  case round =>
    clear own0 B0 k0 k1
    obtain ⟨k, rfl, hk, ho, hb⟩ := hrel
    by_cases hlt : k < ms.length
    · have hbs := hb.out.size
      have hO := ho.out
      go_wp2_with (at_builtin; refine wpList_app1 rfl (.tmp 80) (.tmp 81) 28 rfl W8.heap.size 31 (.float .f32 0) 4 Try.underlying28 f32_info rfl u11 k (f32s (List.replicate k 1065353216)) _ rfl rfl rfl hO hbs (by omega) (by omega) ?_; intro v' w' hown' hbel')
      go_roundw
      case rel => exact ⟨k + 1, by go_num, by omega, by change World.ownsRow _ _ _ _ _ _ _; rw [List.replicate_succ']; simpa [f32s] using hown', hb.out.trans hbel'⟩
      case measure => simp [intOf]; omega
    · obtain rfl : k = ms.length := by omega
      obtain ⟨AO, cO, hv, _, hrdO⟩ := own_rd ho.out
      subst hv
      have K9 := Lib.hid ((K8.out.next hb.out).and (kp_rd hrdO))
      clear ho hrdO
      obtain ⟨k0, k1, _, _⟩ := r_cells K9.out.here.1.1.1.2.1
      go_wp2_with fail
      -- REGION 18
      refine wp_name fun a0 Q0 ha0 hQ0 => ?_
      obtain ⟨bB, oB, hBB, -, -⟩ := K9.out.here.1.1.1.1.rows.1 (by simp; omega)
      subst hBB
      have REST : ∀ (x86 x89 : Value) (g91 : Nat) (B9 : Option Addr) (c9 g10 : Nat) (W' : World), TwoDone wr.drew W' (.slice AO ms.length cO) (rs.map rowV) (.slice A' ms.length c') B9 (rs.length + 1) c9 g10 →
          Q0 .normal (((((((((((a0.put (some 84) (.pointer (some ⟨gb, 0, none⟩))).put (some 85) (.slice A' ms.length c')).put (some 86) x86).put (some 87) (.pointer (some ⟨gb, 1, none⟩))).put (some 88) (.slice (some ⟨bB, oB, none⟩) rs.length d')).put (some 89) x89).put (some 90) (.slice AO ms.length cO)).put (some 91) (.slice (some ⟨g91, 0, none⟩) 1 1)).put (some 92) (.slice B9 (rs.length + 1) c9)).put (some 93) (.agg #[.slice A' ms.length c', .slice B9 (rs.length + 1) c9])).put (some 12) (.pointer (some ⟨g10, 0, none⟩))) W' := by
        intro x86 x89 g91 B9 c9 g10 W' hT
        subst ha0 hQ0
        (try simp only [Act.put, List.setIfInBounds_toArray, List.set_cons_zero, List.set_cons_succ])
        obtain ⟨tb, trd, tg, _⟩ := hT
        have K10 := Lib.hid ((K9.out.drewN 1).next tb)
        obtain ⟨ones, hones⟩ : ∃ ones, List.replicate ms.length 1065353216 = ones := ⟨_, rfl⟩
        have hol : ones.length = ms.length := by rw [← hones]; simp
        have ho1 : ∀ k, k < ms.length → ones.getD k 0 = 1065353216 := fun k hk => by rw [← hones]; simp [List.getD, hk]
        obtain ⟨us, hus⟩ : ∃ us : List Row, rs ++ [(AO, cO, ones)] = us := ⟨_, rfl⟩
        have hul : us.length = rs.length + 1 := by rw [← hus]; simp
        have hlow : ∀ i, i < rs.length → rowAt us i = rowAt rs i := fun i hi => by rw [← hus]; exact rowAt_snoc hi
        have hlast : rowAt us rs.length = (AO, cO, ones) := by rw [← hus]; exact rowAt_last
        have KU := Lib.hid (show Kp W'.heap.size (fun W => (RoomIn W w.heap.size gb A' c' ms B9 us) ∧ W.heap[g10]? = some (.cells #[.slice A' ms.length c', .slice B9 us.length c9] 26 (0, 0)) ∧ Below w.heap.size w W) W' from by
          refine ⟨Nat.le_refl _, fun W hb => ?_⟩
          have k := (K10.out.next hb).here
          have hR : RdSS W B9 us := by
            refine ⟨?_, fun i hi => ?_⟩
            · have e : us.map rowV = rs.map rowV ++ [.slice AO ms.length cO] := by rw [← hus, List.map_append, ← hol]; rfl
              rw [e]
              exact trd.below hb
            · rcases Nat.lt_or_ge i rs.length with h | h
              · rw [hlow i h]; exact k.1.1.1.1.rows.2 i h
              · obtain rfl : i = rs.length := by omega
                rw [hlast]
                have := k.2
                rw [hones] at this
                exact this
          exact ⟨⟨k.1.1.1.1.own, k.1.1.1.1.hh, hR⟩, by rw [hul]; exact (hb.block _ (lt_of_some tg)).trans tg, k.1.1.1.2.2⟩)
        have HOU : Hid (RoomOk ms us 16 16) := ⟨HK.out.ok, by omega, by omega, fun i hi => by
          rcases Nat.lt_or_ge i rs.length with h | h
          · rw [hlow i h]; exact HK.out.sh i h
          · obtain rfl : i = rs.length := by omega
            rw [hlast]
            exact ⟨hol, fun k hk => by show Wt (ones.getD k 0); rw [ho1 k hk]; exact wt_one⟩⟩
        have HOne : Hid (∀ k, k < ms.length → rW us rs.length k = 1065353216) := fun k hk => by
          unfold rW; rw [hlast]; exact ho1 k hk
        have HUL := Lib.hid hul
        have K11 := Lib.hid ((Kp.imp K10.out (Q := fun W => (RoomIn W w.heap.size gb A' c' ms (some ⟨bB, oB, none⟩) rs ∧ W.heap[gb]? = some (.cells #[.slice A' ms.length c', .slice (some ⟨bB, oB, none⟩) rs.length d'] 26 (0, 0)) ∧ Below w.heap.size w W) ∧ Rd W A3 (f32s xs) ∧ Rd W A6 (f32s ys1)) fun W h => ⟨h.1.1.1, h.1.1.2, h.1.2⟩).and KU.out)
        clear tb trd hones hol ho1 hus hul hlow hlast K10 KU K9 K8 k0 k1
        obtain ⟨k0, k1, _, _⟩ := r_cells K11.out.here.1.1.2.1
        have own0 : Hid ((W'.alloc (.cells #[] 3)).ownsRow W'.heap.size 3 1 (.slice (some ⟨W'.heap.size, 0, none⟩) 0 0) 0 ((List.replicate 0 (rs.length : Int)).map (.int .i64))) := owns_empty W' 3
        have B0 : Hid (Below W'.heap.size W' (W'.alloc (.cells #[] 3))) := (Below.refl W'.heap.size W').alloc (Nat.le_refl _) _
        go_wp2_with fail
        generalize W'.alloc (.cells #[] 3) = Wi at *
        go_loopw [14, 15] (fun v i wr => ∃ k : Nat, i = .int .i64 (k : Int) ∧ k ≤ 25 ∧ Hid (wr.ownsRow W'.heap.size 3 1 v k ((List.replicate k (rs.length : Int)).map (.int .i64))) ∧ Hid (Below W'.heap.size W' wr)) (fun _ i _ => 25 - (intOf i).toNat)
        case atStart => exact ⟨0, rfl, by omega, own0.out, B0.out⟩
        case round =>
          clear own0 B0 k0 k1
          obtain ⟨k, rfl, hk, ho, hb⟩ := hrel
          by_cases hlt : k < 25
          · have hbs := hb.out.size
            have hO := ho.out
            go_wp2_with (at_builtin; refine wpList_app1 rfl (.tmp 102) (.tmp 104) 36 rfl W'.heap.size 3 (.int .i64 0) 8 Try.underlying36 int_info rfl u14 k ((List.replicate k (rs.length : Int)).map (.int .i64)) _ rfl rfl rfl hO hbs (by omega) (by omega) ?_; intro v' w' hown' hbel')
            go_roundw
            case rel => exact ⟨k + 1, by go_num, by omega, by change World.ownsRow _ _ _ _ _ _ _; rw [List.replicate_succ']; simpa using hown', hb.out.trans hbel'⟩
            case measure => simp [intOf]; omega
          · obtain rfl : k = 25 := by omega
            obtain ⟨AE, cE, hv, _, hrdE⟩ := own_rd ho.out
            subst hv
            obtain ⟨es, hel, hea, hee⟩ := rep_list 25 (rs.length : Int)
            rw [hee] at hrdE
            clear hee
            have K12 := Lib.hid ((K11.out.next hb.out).and (kp_rd hrdE))
            clear ho hrdE hb K11
            obtain ⟨k0, k1, _, _⟩ := r_cells K12.out.here.1.2.2.1
            go_wp2_with fail
            have hul := HUL.out
            have hcon := listenAlong_any A' c' _ gb ms B9 c9 us s rs.length AE cE es A3 c3 xs 25 _ K12.out.here.1.2.1 HOU.out (by omega) (by omega) K12.out.here.2 hea hel HOne.out K12.out.here.1.1.2.1 (by omega) L.out (by omega)
            rw [hel] at hcon
            clear hul
            refine hcon.mono ?_
            clear hcon
            rintro r W13 ⟨A13, c13, ys3, hr, ho13, hr13, hb13⟩
            rw [hr13.1] at hr ho13
            subst hr
            have K13 := Lib.hid ((K12.out.next hb13).and (kp_rd (own_rd1 ho13)))
            have H13 := Lib.hid hr13
            clear K12 ho13 hr13 hb13 k0 k1
            obtain ⟨k0, k1, _, _⟩ := r_cells K13.out.here.1.1.2.2.1
            go_wp2_with fail
            refine (ringRoom_any A' c' _ gb ms B9 c9 us s rs.length A3 c3 xs 25 _ K13.out.here.1.1.2.1 HOU.out (by have := HUL.out; omega) (by have := HUL.out; omega) K13.out.here.1.1.1.2.1 (by omega) L.out (by omega)).mono ?_
            rintro r W14 ⟨A14, c14, ys4, hr, ho14, hr14, hb14⟩
            rw [hr14.1] at hr ho14
            subst hr
            rw [place_one HOU.out.sh (by have := HUL.out; omega) HOne.out] at hr14
            have T14 := Lib.hid (fun W h1 h2 => same_rungs A13 A14 c13 c14 ys3 ys4 25 W h1 h2 (by omega) H13.out hr14)
            have K14 := Lib.hid ((K13.out.next hb14).and (kp_rd (own_rd1 ho14)))
            clear K13 ho14 hr14 hb14 k0 k1
            go_wp2_with fail
            refine (T14.out _ K14.out.here.1.2 K14.out.here.2).mono ?_
            rintro r w' ⟨n14, rfl, rfl⟩
            have K15 := Lib.hid ((K14.out.drewN n14).imp fun W h => h.1.1.1.1)
            clear K14 T14 H13
            generalize W14.drewN n14 = W15 at *
            go_wp2_with fail
            refine (fresh_any A c bs 5 _ (Hr.out.below K15.out.here.1.2.2) hm Hb.out (.inr (.inl rfl))).mono ?_
            rintro r W16 ⟨A16, c16, ys5, rfl, hrd16, hlen16, hb16⟩
            have K16 := Lib.hid (K15.out.next hb16)
            have R16 := Lib.hid hrd16
            clear K15 hb16 hrd16
            go_wp2_with fail
            refine (makeRoom_any A16 c16 ys5 _ R16.out (by omega)).mono ?_
            rintro r W17 ⟨⟨Av, cv, vs, Bv, dv, qs, rfl, ⟨hown, hrows⟩, hokv⟩, hb17⟩
            obtain ⟨B2, d2, q, hss, -⟩ := hrows.form
            injection q with q1' _ q2'
            subst q1' q2'
            have HKv := Lib.hid hokv
            have hV := Below.alloc (Below.refl W17.heap.size W17) (Nat.le_refl _) (.cells #[.slice Av vs.length cv, .slice Bv qs.length dv] 26)
            have K17 := Lib.hid (((K16.out.next hb17).alloc (.cells #[.slice Av vs.length cv, .slice Bv qs.length dv] 26)).and ((kp_room ((RoomIn.mk hown (Nat.le_refl _) hss).below hV)).and (kp_new W17 (.cells #[.slice Av vs.length cv, .slice Bv qs.length dv] 26))))
            have hlv := hokv.lm
            have hlq := hokv.ln
            clear hown hrows hss hokv hb17 hV K16 R16
            unfold roomV
            obtain ⟨k0, k1, _, _⟩ := r_cells K17.out.here.1.1.2.1
            obtain ⟨k2, k3, _, _⟩ := r_cells K17.out.here.2.2
            go_wp2_with fail
            have hwg : W17.heap.size < (W17.alloc (.cells #[.slice Av vs.length cv, .slice Bv qs.length dv] 26)).heap.size := by simp
            clear k0 k1 k2 k3
            generalize W17.alloc (.cells #[.slice Av vs.length cv, .slice Bv qs.length dv] 26) = W18 at *
            rcases Nat.eq_zero_or_pos qs.length with hq0 | hq0
            · obtain rfl : qs = [] := List.eq_nil_of_length_eq_zero hq0
              refine (shareModes_none _ gb A' c' ms _ d' rs _ _ Av cv vs Bv dv W18 K17.out.here.1.1.1 K17.out.here.2.1 HK.out HKv.out hr0).mono ?_
              rintro r W19 ⟨rfl, hb19⟩
              have K19 := Lib.hid ((K17.out.next hb19).alloc (.cells #[.slice none 0 0, .slice none 0 0] 26))
              obtain ⟨k4, k5, _, _⟩ := r_cells (heap_alloc_new W19 (.cells #[.slice none 0 0, .slice none 0 0] 26))
              clear K17 hb19
              simp only [List.length_nil] at K19
              go_wp2_with fail
              generalize W19.alloc (.cells #[.slice none 0 0, .slice none 0 0] 26) = W20 at *
              refine (ringRoom_none s e (.slice A3 xs.length c3) 25 W20).mono ?_
              rintro r W21 ⟨rfl, hb21⟩
              have K21 := Lib.hid (K19.out.next hb21)
              obtain ⟨k2, k3, _, _⟩ := r_cells K21.out.here.2.2
              clear K19 hb21 k4 k5
              go_wp2_with fail
              go_ret
              exact ⟨rfl, K21.out.here.1.1.2.2⟩
            · have hqn : ((qs.length : Int) == 0) = false := by simp; intro e; rw [e] at hq0; exact absurd hq0 (Nat.lt_irrefl _)
              refine (shareModes_any _ gb A' c' ms _ d' rs _ _ Av cv vs Bv dv qs W18 K17.out.here.1.1.1 K17.out.here.2.1 HK.out HKv.out hr0 hq0).mono ?_
              intro r W19 hp
              unfold SharePost at hp
              obtain ⟨A19, c19, B19, d19, ts, rfl, hroom, htl, hj, hb19⟩ := hp
              have okT : ModesOk (ms ++ vs) := fun m hm => (List.mem_append.1 hm).elim (HK.out.ok m) (HKv.out.ok m)
              have HT : Hid (RoomOk (ms ++ vs) ts 16 16) := ⟨okT, by simp; omega, by omega, joined_ok HK.out.sh HKv.out.sh hr0 hq0 hj (by omega)⟩
              have HJ := Lib.hid hj
              have HTL := Lib.hid htl
              obtain ⟨M, hM⟩ : ∃ M, ms ++ vs = M := ⟨_, rfl⟩
              rw [hM] at hroom HT
              rw [hM]
              have HM := Lib.hid hM
              have hV19 := Below.alloc (Below.refl W19.heap.size W19) (Nat.le_refl _) (.cells #[.slice A19 M.length c19, .slice B19 ts.length d19] 26)
              have K19 := Lib.hid (((K17.out.next hb19).alloc (.cells #[.slice A19 M.length c19, .slice B19 ts.length d19] 26)).and (kp_room (hroom.below hV19)))
              obtain ⟨k4, k5, _, _⟩ := r_cells (heap_alloc_new W19 (.cells #[.slice A19 M.length c19, .slice B19 ts.length d19] 26))
              clear K17 hb19 hV19 hroom htl hj hM okT
              go_wp2_with fail
              generalize W19.alloc (.cells #[.slice A19 M.length c19, .slice B19 ts.length d19] 26) = W20 at *
              refine (ringRoom_any A19 c19 _ _ M B19 d19 ts s e A3 c3 xs 25 W20 K19.out.here.2 HT.out (by have := HTL.out; omega) (by have := HTL.out; omega) K19.out.here.1.1.2.1 (by omega) L.out (by omega)).mono ?_
              rintro r W21 ⟨A21, c21, zs, hr, ho21, hr21, hb21⟩
              rw [hr21.1] at hr ho21
              subst hr
              have K21 := Lib.hid ((K19.out.next hb21).and (kp_rd (own_rd1 ho21)))
              have heq : ∀ i, i < 25 → feq .f32 (zs.getD i 0) (ys1.getD i 0) = true := join_out W21 HK.out HKv.out hq0 HJ.out HTL.out hs1 he1 L.out (by omega) HX.out (by rw [HM.out]; exact hr21)
              have TE := Lib.hid (fun W h1 h2 => equal_true A21 A6 c21 c6 25 zs ys1 W h1 h2 hr21.1 HX.out.1 (by omega) heq)
              obtain ⟨k2, k3, _, _⟩ := r_cells K21.out.here.1.1.2.2
              clear K19 ho21 hr21 hb21 k4 k5 heq
              go_wp2_with fail
              refine (TE.out _ K21.out.here.2 K21.out.here.1.1.1.2.2).mono ?_
              rintro r w' ⟨rfl, n21, rfl⟩
              go_wp2_with fail
              go_ret
              exact ⟨rfl, below_drewN K21.out.here.1.1.1.1.2.2 _⟩
      subst ha0 hQ0
      (try simp only [Act.put, List.setIfInBounds_toArray, List.set_cons_zero, List.set_cons_succ] at REST)
      have KD := Lib.hid (K9.out.drewN 1)
      have HD : Hid (∀ W : World, Below wr.drew.heap.size wr.drew W → W.cell? ⟨gb, 0, none⟩ = some (.slice A' ms.length c') ∧ W.cell? ⟨gb, 1, none⟩ = some (.slice (some ⟨bB, oB, none⟩) rs.length d')) := fun W hb => by
        obtain ⟨q0, q1, _, _⟩ := r_cells (KD.out.next hb).here.1.1.1.2.1
        exact ⟨q0, q1⟩
      have HN : Hid (∀ W : World, Below wr.drew.heap.size wr.drew W → ∀ j u, (rs.map rowV)[j]? = some u → W.cell? ((⟨bB, oB, none⟩ : Addr).add j) = some u) := fun W hb j u hu => by
        have R := (KD.out.next hb).here.1.1.1.1
        have hj : j < rs.length := by
          rcases Nat.lt_or_ge j rs.length with h | h
          · exact h
          · rw [List.getElem?_eq_none (by simpa using h)] at hu; cases hu
        rw [rowV_at hj] at hu
        injection hu with hu
        rw [← hu, ← R.rowCell hj]
        congr 1
        unfold Addr.add
        by_cases h0 : j = 0 <;> simp [h0]
      have HU : Hid (∀ u ∈ rs.map rowV, u.oneCell' = true) := fun u hu => by
        obtain ⟨r, _, rfl⟩ := List.mem_map.1 hu
        rfl
      have HA0 := Lib.hid (ASt.start wr.drew (.slice AO ms.length cO) (rs.map rowV) rs.length)
      obtain ⟨i0, hi0, hz0', hz1, hz2⟩ := info_parts row_info2
      clear k0 k1 K9 K8 KD
      refine wp_region_held_drew (S := fun w' => w'.cell? ⟨gb, 0, none⟩ = some (.slice A' ms.length c') ∧ w'.cell? ⟨gb, 1, none⟩ = some (.slice (some ⟨bB, oB, none⟩) rs.length d')) (by kernel_rfl) (HD.out _ (Below.refl _ _)) (fun hHeld => ?_)
      generalize wr.drew = V at *
      refine wpAnyH_take (i := 0) (oi := _) (v := ?_) rfl (by kernel_rfl) (by kernel_rfl) (by kernel_rfl) (fun _ _ _ h => h) (Or.inl ⟨by rfl, ?_⟩) (by assumption) ?_
      rotate_left
      · (intro w hSw; (try dsimp only at hSw); go_simp; try (with_reducible rfl))
      (try simp only [Act.put, List.setIfInBounds_toArray])
      refine wpAnyH_take (i := 1) (oi := _) (v := ?_) rfl (by kernel_rfl) (by kernel_rfl) (by kernel_rfl) (fun _ _ _ h => h) (Or.inl ⟨by rfl, ?_⟩) (by assumption) ?_
      rotate_left
      · (intro w hSw; (try dsimp only at hSw); go_simp; try (with_reducible rfl))
      (try simp only [Act.put])
      refine wpAnyH_take (i := 3) (oi := _) (v := ?_) rfl (by kernel_rfl) (by kernel_rfl) (by kernel_rfl) (fun _ _ _ h => h) (Or.inl ⟨by rfl, ?_⟩) (by assumption) ?_
      rotate_left
      · (intro w hSw; (try dsimp only at hSw); go_simp; try (with_reducible rfl))
      (try simp only [Act.put])
      refine wpAnyH_take (i := 4) (oi := _) (v := ?_) rfl (by kernel_rfl) (by kernel_rfl) (by kernel_rfl) (fun _ _ _ h => h) (Or.inl ⟨by rfl, ?_⟩) (by assumption) ?_
      rotate_left
      · (intro w hSw; (try dsimp only at hSw); go_simp; try (with_reducible rfl))
      (try simp only [Act.put])
      refine wpAnyH_take (i := 6) (oi := _) (v := ?_) rfl (by kernel_rfl) (by kernel_rfl) (by kernel_rfl) (fun _ _ _ h => h) (Or.inl ⟨by rfl, ?_⟩) (by assumption) ?_
      rotate_left
      · (intro w hSw; (try dsimp only at hSw); go_simp; try (with_reducible rfl))
      (try simp only [Act.put])
      clear hHeld
      refine wpAnyH_ready (rs := [2, 7, 10]) (by kernel_rfl) (by simp) ?_
      refine AllReadyH.cons (o := _) rfl (fun K hK => ?_) (AllReadyH.cons (o := _) rfl (fun K hK => ?_) (AllReadyH.cons (o := _) rfl (fun K hK => ?_) AllReadyH.nil))
      · have HA1 := Lib.hid HA0.out.op2
        go_simp
        refine hK.out _ _ ?_ (fun _ => ?_)
        · exact HD.out _ HA1.out.bel
        clear hK K
        (try simp only [Act.put, List.setIfInBounds_toArray, List.set_cons_zero, List.set_cons_succ])
        generalize V.alloc (.cells #[] 28) = V1 at *
        refine wpAnyH_ready (rs := [5, 7, 10]) (by kernel_rfl) (by simp) ?_
        refine AllReadyH.cons (o := _) rfl (fun K hK => ?_) (AllReadyH.cons (o := _) rfl (fun K hK => ?_) (AllReadyH.cons (o := _) rfl (fun K hK => ?_) AllReadyH.nil))
        · refine step_append_lies _ (by rfl) (.tmp 86) (.tmp 88) 24 (by rfl) V.heap.size 28 i0 _ 1 24 Try.underlying24 hi0 hz0' hz1 hz2 rfl (by omega) _ 0 [] (by rfl) (HA1.out.ov _ rfl) ⟨bB, oB, none⟩ rs.length d' (rs.map rowV) (by rfl) (by simp) (HN.out _ HA1.out.bel) HU.out hr0 (by simp only [maxLen]; omega) (by omega) HA1.out.bel.size V1.heap.size rfl ?_
          intro gg cap w4 hown4 hgrow hat hlt4
          simp only [Nat.zero_add, List.nil_append] at hown4 ⊢
          have HA2 := Lib.hid (HA1.out.op5 hown4 hgrow hat)
          clear hown4 hgrow hat
          refine hK.out _ _ ?_ (fun _ => ?_)
          · exact HD.out _ HA2.out.bel
          clear hK K
          (try simp only [Act.put, List.setIfInBounds_toArray])
          generalize w4 = V2 at *
          refine wpAnyH_ready (rs := [7, 10]) (by kernel_rfl) (by simp) ?_
          refine AllReadyH.cons (o := _) rfl (fun K hK => ?_) (AllReadyH.cons (o := _) rfl (fun K hK => ?_) AllReadyH.nil)
          · have HA3 := Lib.hid HA2.out.op7
            go_simp
            refine hK.out _ _ ?_ (fun _ => ?_)
            · exact HD.out _ HA3.out.bel
            clear hK K
            (try simp only [Act.put, List.setIfInBounds_toArray, List.set_cons_zero, List.set_cons_succ])
            generalize V2.alloc (.cells #[.slice AO ms.length cO] 28) = V3 at *
            refine wpAnyH_ready (rs := [8, 10]) (by kernel_rfl) (by simp) ?_
            refine AllReadyH.cons (o := _) rfl (fun K hK => ?_) (AllReadyH.cons (o := _) rfl (fun K hK => ?_) AllReadyH.nil)
            · refine step_append_lies _ (by rfl) (.tmp 89) (.tmp 91) 24 (by rfl) V.heap.size 28 i0 _ 1 24 Try.underlying24 hi0 hz0' hz1 hz2 rfl (by omega) _ rs.length (rs.map rowV) (by rfl) (HA3.out.ou _ rfl) ⟨_, 0, none⟩ 1 1 [(.slice AO ms.length cO)] (by rfl) (by simp) (World.news_of_block (HA3.out.ob _ rfl).2.1) (by simp [Value.oneCell']) (by omega) (by simp only [maxLen]; omega) (by omega) HA3.out.bel.size V3.heap.size rfl ?_
              intro gg cap w4 hown4 hgrow hat hlt4
              have HA4 := Lib.hid (HA3.out.op8 hown4 hgrow hat)
              clear hown4 hgrow hat
              refine hK.out _ _ ?_ (fun hHc => ?_)
              · exact HD.out _ HA4.out.bel
              clear hK K
              (try simp only [Act.put, List.setIfInBounds_toArray])
              refine wpAnyH_take (i := 9) (oi := _) (v := ?_) rfl (by kernel_rfl) (by kernel_rfl) (by kernel_rfl) (fun _ _ _ h => h) (Or.inl ⟨by rfl, ?_⟩) (by assumption) ?_
              rotate_left
              · (intro w hSw; (try dsimp only at hSw); go_simp; try (with_reducible rfl))
              (try simp only [Act.put])
              generalize w4 = V4 at *
              refine wpAnyH_ready (rs := [10]) (by kernel_rfl) (by simp) ?_
              refine AllReadyH.cons (o := _) rfl (fun K hK => ?_) AllReadyH.nil
              have HA5 := Lib.hid HA4.out.op10
              go_simp
              refine hK.out _ _ ?_ (fun _ => ?_)
              · exact HD.out _ HA5.out.bel
              clear hK K
              (try simp only [Act.put, List.setIfInBounds_toArray, List.set_cons_zero, List.set_cons_succ])
              generalize V4.alloc (.cells #[.slice none 0 0, .slice none 0 0] 26) = V5 at *
              obtain ⟨f0, f1, f2, f3⟩ := r_cells (HA5.out.or _ rfl).2.1
              refine wpAnyH_ready (rs := [11]) (by kernel_rfl) (by simp) ?_
              refine AllReadyH.cons (o := _) rfl (fun K hK => ?_) AllReadyH.nil
              go_simp
              refine hK.out _ _ ?_ (fun _ => ?_)
              · exact HD.out _ (HA5.out.done _).1
              clear hK K
              (try simp only [Act.put, List.setIfInBounds_toArray, List.set_cons_zero, List.set_cons_succ])
              refine wpAnyH_done (by kernel_rfl) ?_ _
              exact REST _ _ _ _ _ _ _ (HA5.out.done _)
            · have HA6 := Lib.hid HA3.out.op10
              go_simp
              refine hK.out _ _ ?_ (fun _ => ?_)
              · exact HD.out _ HA6.out.bel
              clear hK K
              (try simp only [Act.put, List.setIfInBounds_toArray, List.set_cons_zero, List.set_cons_succ])
              generalize V3.alloc (.cells #[.slice none 0 0, .slice none 0 0] 26) = V6 at *
              refine wpAnyH_ready (rs := [8]) (by kernel_rfl) (by simp) ?_
              refine AllReadyH.cons (o := _) rfl (fun K hK => ?_) AllReadyH.nil
              refine step_append_lies _ (by rfl) (.tmp 89) (.tmp 91) 24 (by rfl) V.heap.size 28 i0 _ 1 24 Try.underlying24 hi0 hz0' hz1 hz2 rfl (by omega) _ rs.length (rs.map rowV) (by rfl) (HA6.out.ou _ rfl) ⟨_, 0, none⟩ 1 1 [(.slice AO ms.length cO)] (by rfl) (by simp) (World.news_of_block (HA6.out.ob _ rfl).2.1) (by simp [Value.oneCell']) (by omega) (by simp only [maxLen]; omega) (by omega) HA6.out.bel.size V6.heap.size rfl ?_
              intro gg cap w4 hown4 hgrow hat hlt4
              have HA7 := Lib.hid (HA6.out.op8 hown4 hgrow hat)
              clear hown4 hgrow hat
              refine hK.out _ _ ?_ (fun hHc => ?_)
              · exact HD.out _ HA7.out.bel
              clear hK K
              (try simp only [Act.put, List.setIfInBounds_toArray])
              refine wpAnyH_take (i := 9) (oi := _) (v := ?_) rfl (by kernel_rfl) (by kernel_rfl) (by kernel_rfl) (fun _ _ _ h => h) (Or.inl ⟨by rfl, ?_⟩) (by assumption) ?_
              rotate_left
              · (intro w hSw; (try dsimp only at hSw); go_simp; try (with_reducible rfl))
              (try simp only [Act.put])
              generalize w4 = V7 at *
              obtain ⟨f0, f1, f2, f3⟩ := r_cells (HA7.out.or _ rfl).2.1
              refine wpAnyH_ready (rs := [11]) (by kernel_rfl) (by simp) ?_
              refine AllReadyH.cons (o := _) rfl (fun K hK => ?_) AllReadyH.nil
              go_simp
              refine hK.out _ _ ?_ (fun _ => ?_)
              · exact HD.out _ (HA7.out.done _).1
              clear hK K
              (try simp only [Act.put, List.setIfInBounds_toArray, List.set_cons_zero, List.set_cons_succ])
              refine wpAnyH_done (by kernel_rfl) ?_ _
              exact REST _ _ _ _ _ _ _ (HA7.out.done _)
          · have HA8 := Lib.hid HA2.out.op10
            go_simp
            refine hK.out _ _ ?_ (fun _ => ?_)
            · exact HD.out _ HA8.out.bel
            clear hK K
            (try simp only [Act.put, List.setIfInBounds_toArray, List.set_cons_zero, List.set_cons_succ])
            generalize V2.alloc (.cells #[.slice none 0 0, .slice none 0 0] 26) = V8 at *
            refine wpAnyH_ready (rs := [7]) (by kernel_rfl) (by simp) ?_
            refine AllReadyH.cons (o := _) rfl (fun K hK => ?_) AllReadyH.nil
            have HA9 := Lib.hid HA8.out.op7
            go_simp
            refine hK.out _ _ ?_ (fun _ => ?_)
            · exact HD.out _ HA9.out.bel
            clear hK K
            (try simp only [Act.put, List.setIfInBounds_toArray, List.set_cons_zero, List.set_cons_succ])
            generalize V8.alloc (.cells #[.slice AO ms.length cO] 28) = V9 at *
            refine wpAnyH_ready (rs := [8]) (by kernel_rfl) (by simp) ?_
            refine AllReadyH.cons (o := _) rfl (fun K hK => ?_) AllReadyH.nil
            refine step_append_lies _ (by rfl) (.tmp 89) (.tmp 91) 24 (by rfl) V.heap.size 28 i0 _ 1 24 Try.underlying24 hi0 hz0' hz1 hz2 rfl (by omega) _ rs.length (rs.map rowV) (by rfl) (HA9.out.ou _ rfl) ⟨_, 0, none⟩ 1 1 [(.slice AO ms.length cO)] (by rfl) (by simp) (World.news_of_block (HA9.out.ob _ rfl).2.1) (by simp [Value.oneCell']) (by omega) (by simp only [maxLen]; omega) (by omega) HA9.out.bel.size V9.heap.size rfl ?_
            intro gg cap w4 hown4 hgrow hat hlt4
            have HA10 := Lib.hid (HA9.out.op8 hown4 hgrow hat)
            clear hown4 hgrow hat
            refine hK.out _ _ ?_ (fun hHc => ?_)
            · exact HD.out _ HA10.out.bel
            clear hK K
            (try simp only [Act.put, List.setIfInBounds_toArray])
            refine wpAnyH_take (i := 9) (oi := _) (v := ?_) rfl (by kernel_rfl) (by kernel_rfl) (by kernel_rfl) (fun _ _ _ h => h) (Or.inl ⟨by rfl, ?_⟩) (by assumption) ?_
            rotate_left
            · (intro w hSw; (try dsimp only at hSw); go_simp; try (with_reducible rfl))
            (try simp only [Act.put])
            generalize w4 = V10 at *
            obtain ⟨f0, f1, f2, f3⟩ := r_cells (HA10.out.or _ rfl).2.1
            refine wpAnyH_ready (rs := [11]) (by kernel_rfl) (by simp) ?_
            refine AllReadyH.cons (o := _) rfl (fun K hK => ?_) AllReadyH.nil
            go_simp
            refine hK.out _ _ ?_ (fun _ => ?_)
            · exact HD.out _ (HA10.out.done _).1
            clear hK K
            (try simp only [Act.put, List.setIfInBounds_toArray, List.set_cons_zero, List.set_cons_succ])
            refine wpAnyH_done (by kernel_rfl) ?_ _
            exact REST _ _ _ _ _ _ _ (HA10.out.done _)
        · have HA11 := Lib.hid HA1.out.op7
          go_simp
          refine hK.out _ _ ?_ (fun _ => ?_)
          · exact HD.out _ HA11.out.bel
          clear hK K
          (try simp only [Act.put, List.setIfInBounds_toArray, List.set_cons_zero, List.set_cons_succ])
          generalize V1.alloc (.cells #[.slice AO ms.length cO] 28) = V11 at *
          refine wpAnyH_ready (rs := [5, 10]) (by kernel_rfl) (by simp) ?_
          refine AllReadyH.cons (o := _) rfl (fun K hK => ?_) (AllReadyH.cons (o := _) rfl (fun K hK => ?_) AllReadyH.nil)
          · refine step_append_lies _ (by rfl) (.tmp 86) (.tmp 88) 24 (by rfl) V.heap.size 28 i0 _ 1 24 Try.underlying24 hi0 hz0' hz1 hz2 rfl (by omega) _ 0 [] (by rfl) (HA11.out.ov _ rfl) ⟨bB, oB, none⟩ rs.length d' (rs.map rowV) (by rfl) (by simp) (HN.out _ HA11.out.bel) HU.out hr0 (by simp only [maxLen]; omega) (by omega) HA11.out.bel.size V11.heap.size rfl ?_
            intro gg cap w4 hown4 hgrow hat hlt4
            simp only [Nat.zero_add, List.nil_append] at hown4 ⊢
            have HA12 := Lib.hid (HA11.out.op5 hown4 hgrow hat)
            clear hown4 hgrow hat
            refine hK.out _ _ ?_ (fun _ => ?_)
            · exact HD.out _ HA12.out.bel
            clear hK K
            (try simp only [Act.put, List.setIfInBounds_toArray])
            generalize w4 = V12 at *
            refine wpAnyH_ready (rs := [8, 10]) (by kernel_rfl) (by simp) ?_
            refine AllReadyH.cons (o := _) rfl (fun K hK => ?_) (AllReadyH.cons (o := _) rfl (fun K hK => ?_) AllReadyH.nil)
            · refine step_append_lies _ (by rfl) (.tmp 89) (.tmp 91) 24 (by rfl) V.heap.size 28 i0 _ 1 24 Try.underlying24 hi0 hz0' hz1 hz2 rfl (by omega) _ rs.length (rs.map rowV) (by rfl) (HA12.out.ou _ rfl) ⟨_, 0, none⟩ 1 1 [(.slice AO ms.length cO)] (by rfl) (by simp) (World.news_of_block (HA12.out.ob _ rfl).2.1) (by simp [Value.oneCell']) (by omega) (by simp only [maxLen]; omega) (by omega) HA12.out.bel.size V12.heap.size rfl ?_
              intro gg cap w4 hown4 hgrow hat hlt4
              have HA13 := Lib.hid (HA12.out.op8 hown4 hgrow hat)
              clear hown4 hgrow hat
              refine hK.out _ _ ?_ (fun hHc => ?_)
              · exact HD.out _ HA13.out.bel
              clear hK K
              (try simp only [Act.put])
              refine wpAnyH_take (i := 9) (oi := _) (v := ?_) rfl (by kernel_rfl) (by kernel_rfl) (by kernel_rfl) (fun _ _ _ h => h) (Or.inl ⟨by rfl, ?_⟩) (by assumption) ?_
              rotate_left
              · (intro w hSw; (try dsimp only at hSw); go_simp; try (with_reducible rfl))
              (try simp only [Act.put])
              generalize w4 = V13 at *
              refine wpAnyH_ready (rs := [10]) (by kernel_rfl) (by simp) ?_
              refine AllReadyH.cons (o := _) rfl (fun K hK => ?_) AllReadyH.nil
              have HA14 := Lib.hid HA13.out.op10
              go_simp
              refine hK.out _ _ ?_ (fun _ => ?_)
              · exact HD.out _ HA14.out.bel
              clear hK K
              (try simp only [Act.put, List.setIfInBounds_toArray, List.set_cons_zero, List.set_cons_succ])
              generalize V13.alloc (.cells #[.slice none 0 0, .slice none 0 0] 26) = V14 at *
              obtain ⟨f0, f1, f2, f3⟩ := r_cells (HA14.out.or _ rfl).2.1
              refine wpAnyH_ready (rs := [11]) (by kernel_rfl) (by simp) ?_
              refine AllReadyH.cons (o := _) rfl (fun K hK => ?_) AllReadyH.nil
              go_simp
              refine hK.out _ _ ?_ (fun _ => ?_)
              · exact HD.out _ (HA14.out.done _).1
              clear hK K
              (try simp only [Act.put, List.setIfInBounds_toArray, List.set_cons_zero, List.set_cons_succ])
              refine wpAnyH_done (by kernel_rfl) ?_ _
              exact REST _ _ _ _ _ _ _ (HA14.out.done _)
            · have HA15 := Lib.hid HA12.out.op10
              go_simp
              refine hK.out _ _ ?_ (fun _ => ?_)
              · exact HD.out _ HA15.out.bel
              clear hK K
              (try simp only [Act.put, List.setIfInBounds_toArray, List.set_cons_zero, List.set_cons_succ])
              generalize V12.alloc (.cells #[.slice none 0 0, .slice none 0 0] 26) = V15 at *
              refine wpAnyH_ready (rs := [8]) (by kernel_rfl) (by simp) ?_
              refine AllReadyH.cons (o := _) rfl (fun K hK => ?_) AllReadyH.nil
              refine step_append_lies _ (by rfl) (.tmp 89) (.tmp 91) 24 (by rfl) V.heap.size 28 i0 _ 1 24 Try.underlying24 hi0 hz0' hz1 hz2 rfl (by omega) _ rs.length (rs.map rowV) (by rfl) (HA15.out.ou _ rfl) ⟨_, 0, none⟩ 1 1 [(.slice AO ms.length cO)] (by rfl) (by simp) (World.news_of_block (HA15.out.ob _ rfl).2.1) (by simp [Value.oneCell']) (by omega) (by simp only [maxLen]; omega) (by omega) HA15.out.bel.size V15.heap.size rfl ?_
              intro gg cap w4 hown4 hgrow hat hlt4
              have HA16 := Lib.hid (HA15.out.op8 hown4 hgrow hat)
              clear hown4 hgrow hat
              refine hK.out _ _ ?_ (fun hHc => ?_)
              · exact HD.out _ HA16.out.bel
              clear hK K
              (try simp only [Act.put, List.setIfInBounds_toArray])
              refine wpAnyH_take (i := 9) (oi := _) (v := ?_) rfl (by kernel_rfl) (by kernel_rfl) (by kernel_rfl) (fun _ _ _ h => h) (Or.inl ⟨by rfl, ?_⟩) (by assumption) ?_
              rotate_left
              · (intro w hSw; (try dsimp only at hSw); go_simp; try (with_reducible rfl))
              (try simp only [Act.put])
              generalize w4 = V16 at *
              obtain ⟨f0, f1, f2, f3⟩ := r_cells (HA16.out.or _ rfl).2.1
              refine wpAnyH_ready (rs := [11]) (by kernel_rfl) (by simp) ?_
              refine AllReadyH.cons (o := _) rfl (fun K hK => ?_) AllReadyH.nil
              go_simp
              refine hK.out _ _ ?_ (fun _ => ?_)
              · exact HD.out _ (HA16.out.done _).1
              clear hK K
              (try simp only [Act.put, List.setIfInBounds_toArray, List.set_cons_zero, List.set_cons_succ])
              refine wpAnyH_done (by kernel_rfl) ?_ _
              exact REST _ _ _ _ _ _ _ (HA16.out.done _)
          · have HA17 := Lib.hid HA11.out.op10
            go_simp
            refine hK.out _ _ ?_ (fun _ => ?_)
            · exact HD.out _ HA17.out.bel
            clear hK K
            (try simp only [Act.put, List.setIfInBounds_toArray, List.set_cons_zero, List.set_cons_succ])
            generalize V11.alloc (.cells #[.slice none 0 0, .slice none 0 0] 26) = V17 at *
            refine wpAnyH_ready (rs := [5]) (by kernel_rfl) (by simp) ?_
            refine AllReadyH.cons (o := _) rfl (fun K hK => ?_) AllReadyH.nil
            refine step_append_lies _ (by rfl) (.tmp 86) (.tmp 88) 24 (by rfl) V.heap.size 28 i0 _ 1 24 Try.underlying24 hi0 hz0' hz1 hz2 rfl (by omega) _ 0 [] (by rfl) (HA17.out.ov _ rfl) ⟨bB, oB, none⟩ rs.length d' (rs.map rowV) (by rfl) (by simp) (HN.out _ HA17.out.bel) HU.out hr0 (by simp only [maxLen]; omega) (by omega) HA17.out.bel.size V17.heap.size rfl ?_
            intro gg cap w4 hown4 hgrow hat hlt4
            simp only [Nat.zero_add, List.nil_append] at hown4 ⊢
            have HA18 := Lib.hid (HA17.out.op5 hown4 hgrow hat)
            clear hown4 hgrow hat
            refine hK.out _ _ ?_ (fun _ => ?_)
            · exact HD.out _ HA18.out.bel
            clear hK K
            (try simp only [Act.put, List.setIfInBounds_toArray])
            generalize w4 = V18 at *
            refine wpAnyH_ready (rs := [8]) (by kernel_rfl) (by simp) ?_
            refine AllReadyH.cons (o := _) rfl (fun K hK => ?_) AllReadyH.nil
            refine step_append_lies _ (by rfl) (.tmp 89) (.tmp 91) 24 (by rfl) V.heap.size 28 i0 _ 1 24 Try.underlying24 hi0 hz0' hz1 hz2 rfl (by omega) _ rs.length (rs.map rowV) (by rfl) (HA18.out.ou _ rfl) ⟨_, 0, none⟩ 1 1 [(.slice AO ms.length cO)] (by rfl) (by simp) (World.news_of_block (HA18.out.ob _ rfl).2.1) (by simp [Value.oneCell']) (by omega) (by simp only [maxLen]; omega) (by omega) HA18.out.bel.size V18.heap.size rfl ?_
            intro gg cap w4 hown4 hgrow hat hlt4
            have HA19 := Lib.hid (HA18.out.op8 hown4 hgrow hat)
            clear hown4 hgrow hat
            refine hK.out _ _ ?_ (fun hHc => ?_)
            · exact HD.out _ HA19.out.bel
            clear hK K
            (try simp only [Act.put])
            refine wpAnyH_take (i := 9) (oi := _) (v := ?_) rfl (by kernel_rfl) (by kernel_rfl) (by kernel_rfl) (fun _ _ _ h => h) (Or.inl ⟨by rfl, ?_⟩) (by assumption) ?_
            rotate_left
            · (intro w hSw; (try dsimp only at hSw); go_simp; try (with_reducible rfl))
            (try simp only [Act.put])
            generalize w4 = V19 at *
            obtain ⟨f0, f1, f2, f3⟩ := r_cells (HA19.out.or _ rfl).2.1
            refine wpAnyH_ready (rs := [11]) (by kernel_rfl) (by simp) ?_
            refine AllReadyH.cons (o := _) rfl (fun K hK => ?_) AllReadyH.nil
            go_simp
            refine hK.out _ _ ?_ (fun _ => ?_)
            · exact HD.out _ (HA19.out.done _).1
            clear hK K
            (try simp only [Act.put, List.setIfInBounds_toArray, List.set_cons_zero, List.set_cons_succ])
            refine wpAnyH_done (by kernel_rfl) ?_ _
            exact REST _ _ _ _ _ _ _ (HA19.out.done _)
        · have HA20 := Lib.hid HA1.out.op10
          go_simp
          refine hK.out _ _ ?_ (fun _ => ?_)
          · exact HD.out _ HA20.out.bel
          clear hK K
          (try simp only [Act.put, List.setIfInBounds_toArray, List.set_cons_zero, List.set_cons_succ])
          generalize V1.alloc (.cells #[.slice none 0 0, .slice none 0 0] 26) = V20 at *
          refine wpAnyH_ready (rs := [5, 7]) (by kernel_rfl) (by simp) ?_
          refine AllReadyH.cons (o := _) rfl (fun K hK => ?_) (AllReadyH.cons (o := _) rfl (fun K hK => ?_) AllReadyH.nil)
          · refine step_append_lies _ (by rfl) (.tmp 86) (.tmp 88) 24 (by rfl) V.heap.size 28 i0 _ 1 24 Try.underlying24 hi0 hz0' hz1 hz2 rfl (by omega) _ 0 [] (by rfl) (HA20.out.ov _ rfl) ⟨bB, oB, none⟩ rs.length d' (rs.map rowV) (by rfl) (by simp) (HN.out _ HA20.out.bel) HU.out hr0 (by simp only [maxLen]; omega) (by omega) HA20.out.bel.size V20.heap.size rfl ?_
            intro gg cap w4 hown4 hgrow hat hlt4
            simp only [Nat.zero_add, List.nil_append] at hown4 ⊢
            have HA21 := Lib.hid (HA20.out.op5 hown4 hgrow hat)
            clear hown4 hgrow hat
            refine hK.out _ _ ?_ (fun _ => ?_)
            · exact HD.out _ HA21.out.bel
            clear hK K
            (try simp only [Act.put, List.setIfInBounds_toArray])
            generalize w4 = V21 at *
            refine wpAnyH_ready (rs := [7]) (by kernel_rfl) (by simp) ?_
            refine AllReadyH.cons (o := _) rfl (fun K hK => ?_) AllReadyH.nil
            have HA22 := Lib.hid HA21.out.op7
            go_simp
            refine hK.out _ _ ?_ (fun _ => ?_)
            · exact HD.out _ HA22.out.bel
            clear hK K
            (try simp only [Act.put, List.setIfInBounds_toArray, List.set_cons_zero, List.set_cons_succ])
            generalize V21.alloc (.cells #[.slice AO ms.length cO] 28) = V22 at *
            refine wpAnyH_ready (rs := [8]) (by kernel_rfl) (by simp) ?_
            refine AllReadyH.cons (o := _) rfl (fun K hK => ?_) AllReadyH.nil
            refine step_append_lies _ (by rfl) (.tmp 89) (.tmp 91) 24 (by rfl) V.heap.size 28 i0 _ 1 24 Try.underlying24 hi0 hz0' hz1 hz2 rfl (by omega) _ rs.length (rs.map rowV) (by rfl) (HA22.out.ou _ rfl) ⟨_, 0, none⟩ 1 1 [(.slice AO ms.length cO)] (by rfl) (by simp) (World.news_of_block (HA22.out.ob _ rfl).2.1) (by simp [Value.oneCell']) (by omega) (by simp only [maxLen]; omega) (by omega) HA22.out.bel.size V22.heap.size rfl ?_
            intro gg cap w4 hown4 hgrow hat hlt4
            have HA23 := Lib.hid (HA22.out.op8 hown4 hgrow hat)
            clear hown4 hgrow hat
            refine hK.out _ _ ?_ (fun hHc => ?_)
            · exact HD.out _ HA23.out.bel
            clear hK K
            (try simp only [Act.put, List.setIfInBounds_toArray])
            refine wpAnyH_take (i := 9) (oi := _) (v := ?_) rfl (by kernel_rfl) (by kernel_rfl) (by kernel_rfl) (fun _ _ _ h => h) (Or.inl ⟨by rfl, ?_⟩) (by assumption) ?_
            rotate_left
            · (intro w hSw; (try dsimp only at hSw); go_simp; try (with_reducible rfl))
            (try simp only [Act.put])
            generalize w4 = V23 at *
            obtain ⟨f0, f1, f2, f3⟩ := r_cells (HA23.out.or _ rfl).2.1
            refine wpAnyH_ready (rs := [11]) (by kernel_rfl) (by simp) ?_
            refine AllReadyH.cons (o := _) rfl (fun K hK => ?_) AllReadyH.nil
            go_simp
            refine hK.out _ _ ?_ (fun _ => ?_)
            · exact HD.out _ (HA23.out.done _).1
            clear hK K
            (try simp only [Act.put, List.setIfInBounds_toArray, List.set_cons_zero, List.set_cons_succ])
            refine wpAnyH_done (by kernel_rfl) ?_ _
            exact REST _ _ _ _ _ _ _ (HA23.out.done _)
          · have HA24 := Lib.hid HA20.out.op7
            go_simp
            refine hK.out _ _ ?_ (fun _ => ?_)
            · exact HD.out _ HA24.out.bel
            clear hK K
            (try simp only [Act.put, List.setIfInBounds_toArray, List.set_cons_zero, List.set_cons_succ])
            generalize V20.alloc (.cells #[.slice AO ms.length cO] 28) = V24 at *
            refine wpAnyH_ready (rs := [5]) (by kernel_rfl) (by simp) ?_
            refine AllReadyH.cons (o := _) rfl (fun K hK => ?_) AllReadyH.nil
            refine step_append_lies _ (by rfl) (.tmp 86) (.tmp 88) 24 (by rfl) V.heap.size 28 i0 _ 1 24 Try.underlying24 hi0 hz0' hz1 hz2 rfl (by omega) _ 0 [] (by rfl) (HA24.out.ov _ rfl) ⟨bB, oB, none⟩ rs.length d' (rs.map rowV) (by rfl) (by simp) (HN.out _ HA24.out.bel) HU.out hr0 (by simp only [maxLen]; omega) (by omega) HA24.out.bel.size V24.heap.size rfl ?_
            intro gg cap w4 hown4 hgrow hat hlt4
            simp only [Nat.zero_add, List.nil_append] at hown4 ⊢
            have HA25 := Lib.hid (HA24.out.op5 hown4 hgrow hat)
            clear hown4 hgrow hat
            refine hK.out _ _ ?_ (fun _ => ?_)
            · exact HD.out _ HA25.out.bel
            clear hK K
            (try simp only [Act.put, List.setIfInBounds_toArray])
            generalize w4 = V25 at *
            refine wpAnyH_ready (rs := [8]) (by kernel_rfl) (by simp) ?_
            refine AllReadyH.cons (o := _) rfl (fun K hK => ?_) AllReadyH.nil
            refine step_append_lies _ (by rfl) (.tmp 89) (.tmp 91) 24 (by rfl) V.heap.size 28 i0 _ 1 24 Try.underlying24 hi0 hz0' hz1 hz2 rfl (by omega) _ rs.length (rs.map rowV) (by rfl) (HA25.out.ou _ rfl) ⟨_, 0, none⟩ 1 1 [(.slice AO ms.length cO)] (by rfl) (by simp) (World.news_of_block (HA25.out.ob _ rfl).2.1) (by simp [Value.oneCell']) (by omega) (by simp only [maxLen]; omega) (by omega) HA25.out.bel.size V25.heap.size rfl ?_
            intro gg cap w4 hown4 hgrow hat hlt4
            have HA26 := Lib.hid (HA25.out.op8 hown4 hgrow hat)
            clear hown4 hgrow hat
            refine hK.out _ _ ?_ (fun hHc => ?_)
            · exact HD.out _ HA26.out.bel
            clear hK K
            (try simp only [Act.put])
            refine wpAnyH_take (i := 9) (oi := _) (v := ?_) rfl (by kernel_rfl) (by kernel_rfl) (by kernel_rfl) (fun _ _ _ h => h) (Or.inl ⟨by rfl, ?_⟩) (by assumption) ?_
            rotate_left
            · (intro w hSw; (try dsimp only at hSw); go_simp; try (with_reducible rfl))
            (try simp only [Act.put])
            generalize w4 = V26 at *
            obtain ⟨f0, f1, f2, f3⟩ := r_cells (HA26.out.or _ rfl).2.1
            refine wpAnyH_ready (rs := [11]) (by kernel_rfl) (by simp) ?_
            refine AllReadyH.cons (o := _) rfl (fun K hK => ?_) AllReadyH.nil
            go_simp
            refine hK.out _ _ ?_ (fun _ => ?_)
            · exact HD.out _ (HA26.out.done _).1
            clear hK K
            (try simp only [Act.put, List.setIfInBounds_toArray, List.set_cons_zero, List.set_cons_succ])
            refine wpAnyH_done (by kernel_rfl) ?_ _
            exact REST _ _ _ _ _ _ _ (HA26.out.done _)
      · have HA27 := Lib.hid HA0.out.op7
        go_simp
        refine hK.out _ _ ?_ (fun _ => ?_)
        · exact HD.out _ HA27.out.bel
        clear hK K
        (try simp only [Act.put, List.setIfInBounds_toArray, List.set_cons_zero, List.set_cons_succ])
        generalize V.alloc (.cells #[.slice AO ms.length cO] 28) = V27 at *
        refine wpAnyH_ready (rs := [2, 10]) (by kernel_rfl) (by simp) ?_
        refine AllReadyH.cons (o := _) rfl (fun K hK => ?_) (AllReadyH.cons (o := _) rfl (fun K hK => ?_) AllReadyH.nil)
        · have HA28 := Lib.hid HA27.out.op2
          go_simp
          refine hK.out _ _ ?_ (fun _ => ?_)
          · exact HD.out _ HA28.out.bel
          clear hK K
          (try simp only [Act.put, List.setIfInBounds_toArray, List.set_cons_zero, List.set_cons_succ])
          generalize V27.alloc (.cells #[] 28) = V28 at *
          refine wpAnyH_ready (rs := [5, 10]) (by kernel_rfl) (by simp) ?_
          refine AllReadyH.cons (o := _) rfl (fun K hK => ?_) (AllReadyH.cons (o := _) rfl (fun K hK => ?_) AllReadyH.nil)
          · refine step_append_lies _ (by rfl) (.tmp 86) (.tmp 88) 24 (by rfl) V.heap.size 28 i0 _ 1 24 Try.underlying24 hi0 hz0' hz1 hz2 rfl (by omega) _ 0 [] (by rfl) (HA28.out.ov _ rfl) ⟨bB, oB, none⟩ rs.length d' (rs.map rowV) (by rfl) (by simp) (HN.out _ HA28.out.bel) HU.out hr0 (by simp only [maxLen]; omega) (by omega) HA28.out.bel.size V28.heap.size rfl ?_
            intro gg cap w4 hown4 hgrow hat hlt4
            simp only [Nat.zero_add, List.nil_append] at hown4 ⊢
            have HA29 := Lib.hid (HA28.out.op5 hown4 hgrow hat)
            clear hown4 hgrow hat
            refine hK.out _ _ ?_ (fun _ => ?_)
            · exact HD.out _ HA29.out.bel
            clear hK K
            (try simp only [Act.put, List.setIfInBounds_toArray])
            generalize w4 = V29 at *
            refine wpAnyH_ready (rs := [8, 10]) (by kernel_rfl) (by simp) ?_
            refine AllReadyH.cons (o := _) rfl (fun K hK => ?_) (AllReadyH.cons (o := _) rfl (fun K hK => ?_) AllReadyH.nil)
            · refine step_append_lies _ (by rfl) (.tmp 89) (.tmp 91) 24 (by rfl) V.heap.size 28 i0 _ 1 24 Try.underlying24 hi0 hz0' hz1 hz2 rfl (by omega) _ rs.length (rs.map rowV) (by rfl) (HA29.out.ou _ rfl) ⟨_, 0, none⟩ 1 1 [(.slice AO ms.length cO)] (by rfl) (by simp) (World.news_of_block (HA29.out.ob _ rfl).2.1) (by simp [Value.oneCell']) (by omega) (by simp only [maxLen]; omega) (by omega) HA29.out.bel.size V29.heap.size rfl ?_
              intro gg cap w4 hown4 hgrow hat hlt4
              have HA30 := Lib.hid (HA29.out.op8 hown4 hgrow hat)
              clear hown4 hgrow hat
              refine hK.out _ _ ?_ (fun hHc => ?_)
              · exact HD.out _ HA30.out.bel
              clear hK K
              (try simp only [Act.put])
              refine wpAnyH_take (i := 9) (oi := _) (v := ?_) rfl (by kernel_rfl) (by kernel_rfl) (by kernel_rfl) (fun _ _ _ h => h) (Or.inl ⟨by rfl, ?_⟩) (by assumption) ?_
              rotate_left
              · (intro w hSw; (try dsimp only at hSw); go_simp; try (with_reducible rfl))
              (try simp only [Act.put])
              generalize w4 = V30 at *
              refine wpAnyH_ready (rs := [10]) (by kernel_rfl) (by simp) ?_
              refine AllReadyH.cons (o := _) rfl (fun K hK => ?_) AllReadyH.nil
              have HA31 := Lib.hid HA30.out.op10
              go_simp
              refine hK.out _ _ ?_ (fun _ => ?_)
              · exact HD.out _ HA31.out.bel
              clear hK K
              (try simp only [Act.put, List.setIfInBounds_toArray, List.set_cons_zero, List.set_cons_succ])
              generalize V30.alloc (.cells #[.slice none 0 0, .slice none 0 0] 26) = V31 at *
              obtain ⟨f0, f1, f2, f3⟩ := r_cells (HA31.out.or _ rfl).2.1
              refine wpAnyH_ready (rs := [11]) (by kernel_rfl) (by simp) ?_
              refine AllReadyH.cons (o := _) rfl (fun K hK => ?_) AllReadyH.nil
              go_simp
              refine hK.out _ _ ?_ (fun _ => ?_)
              · exact HD.out _ (HA31.out.done _).1
              clear hK K
              (try simp only [Act.put, List.setIfInBounds_toArray, List.set_cons_zero, List.set_cons_succ])
              refine wpAnyH_done (by kernel_rfl) ?_ _
              exact REST _ _ _ _ _ _ _ (HA31.out.done _)
            · have HA32 := Lib.hid HA29.out.op10
              go_simp
              refine hK.out _ _ ?_ (fun _ => ?_)
              · exact HD.out _ HA32.out.bel
              clear hK K
              (try simp only [Act.put, List.setIfInBounds_toArray, List.set_cons_zero, List.set_cons_succ])
              generalize V29.alloc (.cells #[.slice none 0 0, .slice none 0 0] 26) = V32 at *
              refine wpAnyH_ready (rs := [8]) (by kernel_rfl) (by simp) ?_
              refine AllReadyH.cons (o := _) rfl (fun K hK => ?_) AllReadyH.nil
              refine step_append_lies _ (by rfl) (.tmp 89) (.tmp 91) 24 (by rfl) V.heap.size 28 i0 _ 1 24 Try.underlying24 hi0 hz0' hz1 hz2 rfl (by omega) _ rs.length (rs.map rowV) (by rfl) (HA32.out.ou _ rfl) ⟨_, 0, none⟩ 1 1 [(.slice AO ms.length cO)] (by rfl) (by simp) (World.news_of_block (HA32.out.ob _ rfl).2.1) (by simp [Value.oneCell']) (by omega) (by simp only [maxLen]; omega) (by omega) HA32.out.bel.size V32.heap.size rfl ?_
              intro gg cap w4 hown4 hgrow hat hlt4
              have HA33 := Lib.hid (HA32.out.op8 hown4 hgrow hat)
              clear hown4 hgrow hat
              refine hK.out _ _ ?_ (fun hHc => ?_)
              · exact HD.out _ HA33.out.bel
              clear hK K
              (try simp only [Act.put, List.setIfInBounds_toArray])
              refine wpAnyH_take (i := 9) (oi := _) (v := ?_) rfl (by kernel_rfl) (by kernel_rfl) (by kernel_rfl) (fun _ _ _ h => h) (Or.inl ⟨by rfl, ?_⟩) (by assumption) ?_
              rotate_left
              · (intro w hSw; (try dsimp only at hSw); go_simp; try (with_reducible rfl))
              (try simp only [Act.put])
              generalize w4 = V33 at *
              obtain ⟨f0, f1, f2, f3⟩ := r_cells (HA33.out.or _ rfl).2.1
              refine wpAnyH_ready (rs := [11]) (by kernel_rfl) (by simp) ?_
              refine AllReadyH.cons (o := _) rfl (fun K hK => ?_) AllReadyH.nil
              go_simp
              refine hK.out _ _ ?_ (fun _ => ?_)
              · exact HD.out _ (HA33.out.done _).1
              clear hK K
              (try simp only [Act.put, List.setIfInBounds_toArray, List.set_cons_zero, List.set_cons_succ])
              refine wpAnyH_done (by kernel_rfl) ?_ _
              exact REST _ _ _ _ _ _ _ (HA33.out.done _)
          · have HA34 := Lib.hid HA28.out.op10
            go_simp
            refine hK.out _ _ ?_ (fun _ => ?_)
            · exact HD.out _ HA34.out.bel
            clear hK K
            (try simp only [Act.put, List.setIfInBounds_toArray, List.set_cons_zero, List.set_cons_succ])
            generalize V28.alloc (.cells #[.slice none 0 0, .slice none 0 0] 26) = V34 at *
            refine wpAnyH_ready (rs := [5]) (by kernel_rfl) (by simp) ?_
            refine AllReadyH.cons (o := _) rfl (fun K hK => ?_) AllReadyH.nil
            refine step_append_lies _ (by rfl) (.tmp 86) (.tmp 88) 24 (by rfl) V.heap.size 28 i0 _ 1 24 Try.underlying24 hi0 hz0' hz1 hz2 rfl (by omega) _ 0 [] (by rfl) (HA34.out.ov _ rfl) ⟨bB, oB, none⟩ rs.length d' (rs.map rowV) (by rfl) (by simp) (HN.out _ HA34.out.bel) HU.out hr0 (by simp only [maxLen]; omega) (by omega) HA34.out.bel.size V34.heap.size rfl ?_
            intro gg cap w4 hown4 hgrow hat hlt4
            simp only [Nat.zero_add, List.nil_append] at hown4 ⊢
            have HA35 := Lib.hid (HA34.out.op5 hown4 hgrow hat)
            clear hown4 hgrow hat
            refine hK.out _ _ ?_ (fun _ => ?_)
            · exact HD.out _ HA35.out.bel
            clear hK K
            (try simp only [Act.put, List.setIfInBounds_toArray])
            generalize w4 = V35 at *
            refine wpAnyH_ready (rs := [8]) (by kernel_rfl) (by simp) ?_
            refine AllReadyH.cons (o := _) rfl (fun K hK => ?_) AllReadyH.nil
            refine step_append_lies _ (by rfl) (.tmp 89) (.tmp 91) 24 (by rfl) V.heap.size 28 i0 _ 1 24 Try.underlying24 hi0 hz0' hz1 hz2 rfl (by omega) _ rs.length (rs.map rowV) (by rfl) (HA35.out.ou _ rfl) ⟨_, 0, none⟩ 1 1 [(.slice AO ms.length cO)] (by rfl) (by simp) (World.news_of_block (HA35.out.ob _ rfl).2.1) (by simp [Value.oneCell']) (by omega) (by simp only [maxLen]; omega) (by omega) HA35.out.bel.size V35.heap.size rfl ?_
            intro gg cap w4 hown4 hgrow hat hlt4
            have HA36 := Lib.hid (HA35.out.op8 hown4 hgrow hat)
            clear hown4 hgrow hat
            refine hK.out _ _ ?_ (fun hHc => ?_)
            · exact HD.out _ HA36.out.bel
            clear hK K
            (try simp only [Act.put])
            refine wpAnyH_take (i := 9) (oi := _) (v := ?_) rfl (by kernel_rfl) (by kernel_rfl) (by kernel_rfl) (fun _ _ _ h => h) (Or.inl ⟨by rfl, ?_⟩) (by assumption) ?_
            rotate_left
            · (intro w hSw; (try dsimp only at hSw); go_simp; try (with_reducible rfl))
            (try simp only [Act.put])
            generalize w4 = V36 at *
            obtain ⟨f0, f1, f2, f3⟩ := r_cells (HA36.out.or _ rfl).2.1
            refine wpAnyH_ready (rs := [11]) (by kernel_rfl) (by simp) ?_
            refine AllReadyH.cons (o := _) rfl (fun K hK => ?_) AllReadyH.nil
            go_simp
            refine hK.out _ _ ?_ (fun _ => ?_)
            · exact HD.out _ (HA36.out.done _).1
            clear hK K
            (try simp only [Act.put, List.setIfInBounds_toArray, List.set_cons_zero, List.set_cons_succ])
            refine wpAnyH_done (by kernel_rfl) ?_ _
            exact REST _ _ _ _ _ _ _ (HA36.out.done _)
        · have HA37 := Lib.hid HA27.out.op10
          go_simp
          refine hK.out _ _ ?_ (fun _ => ?_)
          · exact HD.out _ HA37.out.bel
          clear hK K
          (try simp only [Act.put, List.setIfInBounds_toArray, List.set_cons_zero, List.set_cons_succ])
          generalize V27.alloc (.cells #[.slice none 0 0, .slice none 0 0] 26) = V37 at *
          refine wpAnyH_ready (rs := [2]) (by kernel_rfl) (by simp) ?_
          refine AllReadyH.cons (o := _) rfl (fun K hK => ?_) AllReadyH.nil
          have HA38 := Lib.hid HA37.out.op2
          go_simp
          refine hK.out _ _ ?_ (fun _ => ?_)
          · exact HD.out _ HA38.out.bel
          clear hK K
          (try simp only [Act.put, List.setIfInBounds_toArray, List.set_cons_zero, List.set_cons_succ])
          generalize V37.alloc (.cells #[] 28) = V38 at *
          refine wpAnyH_ready (rs := [5]) (by kernel_rfl) (by simp) ?_
          refine AllReadyH.cons (o := _) rfl (fun K hK => ?_) AllReadyH.nil
          refine step_append_lies _ (by rfl) (.tmp 86) (.tmp 88) 24 (by rfl) V.heap.size 28 i0 _ 1 24 Try.underlying24 hi0 hz0' hz1 hz2 rfl (by omega) _ 0 [] (by rfl) (HA38.out.ov _ rfl) ⟨bB, oB, none⟩ rs.length d' (rs.map rowV) (by rfl) (by simp) (HN.out _ HA38.out.bel) HU.out hr0 (by simp only [maxLen]; omega) (by omega) HA38.out.bel.size V38.heap.size rfl ?_
          intro gg cap w4 hown4 hgrow hat hlt4
          simp only [Nat.zero_add, List.nil_append] at hown4 ⊢
          have HA39 := Lib.hid (HA38.out.op5 hown4 hgrow hat)
          clear hown4 hgrow hat
          refine hK.out _ _ ?_ (fun _ => ?_)
          · exact HD.out _ HA39.out.bel
          clear hK K
          (try simp only [Act.put, List.setIfInBounds_toArray])
          generalize w4 = V39 at *
          refine wpAnyH_ready (rs := [8]) (by kernel_rfl) (by simp) ?_
          refine AllReadyH.cons (o := _) rfl (fun K hK => ?_) AllReadyH.nil
          refine step_append_lies _ (by rfl) (.tmp 89) (.tmp 91) 24 (by rfl) V.heap.size 28 i0 _ 1 24 Try.underlying24 hi0 hz0' hz1 hz2 rfl (by omega) _ rs.length (rs.map rowV) (by rfl) (HA39.out.ou _ rfl) ⟨_, 0, none⟩ 1 1 [(.slice AO ms.length cO)] (by rfl) (by simp) (World.news_of_block (HA39.out.ob _ rfl).2.1) (by simp [Value.oneCell']) (by omega) (by simp only [maxLen]; omega) (by omega) HA39.out.bel.size V39.heap.size rfl ?_
          intro gg cap w4 hown4 hgrow hat hlt4
          have HA40 := Lib.hid (HA39.out.op8 hown4 hgrow hat)
          clear hown4 hgrow hat
          refine hK.out _ _ ?_ (fun hHc => ?_)
          · exact HD.out _ HA40.out.bel
          clear hK K
          (try simp only [Act.put])
          refine wpAnyH_take (i := 9) (oi := _) (v := ?_) rfl (by kernel_rfl) (by kernel_rfl) (by kernel_rfl) (fun _ _ _ h => h) (Or.inl ⟨by rfl, ?_⟩) (by assumption) ?_
          rotate_left
          · (intro w hSw; (try dsimp only at hSw); go_simp; try (with_reducible rfl))
          (try simp only [Act.put])
          generalize w4 = V40 at *
          obtain ⟨f0, f1, f2, f3⟩ := r_cells (HA40.out.or _ rfl).2.1
          refine wpAnyH_ready (rs := [11]) (by kernel_rfl) (by simp) ?_
          refine AllReadyH.cons (o := _) rfl (fun K hK => ?_) AllReadyH.nil
          go_simp
          refine hK.out _ _ ?_ (fun _ => ?_)
          · exact HD.out _ (HA40.out.done _).1
          clear hK K
          (try simp only [Act.put, List.setIfInBounds_toArray, List.set_cons_zero, List.set_cons_succ])
          refine wpAnyH_done (by kernel_rfl) ?_ _
          exact REST _ _ _ _ _ _ _ (HA40.out.done _)
      · have HA41 := Lib.hid HA0.out.op10
        go_simp
        refine hK.out _ _ ?_ (fun _ => ?_)
        · exact HD.out _ HA41.out.bel
        clear hK K
        (try simp only [Act.put, List.setIfInBounds_toArray, List.set_cons_zero, List.set_cons_succ])
        generalize V.alloc (.cells #[.slice none 0 0, .slice none 0 0] 26) = V41 at *
        refine wpAnyH_ready (rs := [2, 7]) (by kernel_rfl) (by simp) ?_
        refine AllReadyH.cons (o := _) rfl (fun K hK => ?_) (AllReadyH.cons (o := _) rfl (fun K hK => ?_) AllReadyH.nil)
        · have HA42 := Lib.hid HA41.out.op2
          go_simp
          refine hK.out _ _ ?_ (fun _ => ?_)
          · exact HD.out _ HA42.out.bel
          clear hK K
          (try simp only [Act.put, List.setIfInBounds_toArray, List.set_cons_zero, List.set_cons_succ])
          generalize V41.alloc (.cells #[] 28) = V42 at *
          refine wpAnyH_ready (rs := [5, 7]) (by kernel_rfl) (by simp) ?_
          refine AllReadyH.cons (o := _) rfl (fun K hK => ?_) (AllReadyH.cons (o := _) rfl (fun K hK => ?_) AllReadyH.nil)
          · refine step_append_lies _ (by rfl) (.tmp 86) (.tmp 88) 24 (by rfl) V.heap.size 28 i0 _ 1 24 Try.underlying24 hi0 hz0' hz1 hz2 rfl (by omega) _ 0 [] (by rfl) (HA42.out.ov _ rfl) ⟨bB, oB, none⟩ rs.length d' (rs.map rowV) (by rfl) (by simp) (HN.out _ HA42.out.bel) HU.out hr0 (by simp only [maxLen]; omega) (by omega) HA42.out.bel.size V42.heap.size rfl ?_
            intro gg cap w4 hown4 hgrow hat hlt4
            simp only [Nat.zero_add, List.nil_append] at hown4 ⊢
            have HA43 := Lib.hid (HA42.out.op5 hown4 hgrow hat)
            clear hown4 hgrow hat
            refine hK.out _ _ ?_ (fun _ => ?_)
            · exact HD.out _ HA43.out.bel
            clear hK K
            (try simp only [Act.put, List.setIfInBounds_toArray])
            generalize w4 = V43 at *
            refine wpAnyH_ready (rs := [7]) (by kernel_rfl) (by simp) ?_
            refine AllReadyH.cons (o := _) rfl (fun K hK => ?_) AllReadyH.nil
            have HA44 := Lib.hid HA43.out.op7
            go_simp
            refine hK.out _ _ ?_ (fun _ => ?_)
            · exact HD.out _ HA44.out.bel
            clear hK K
            (try simp only [Act.put, List.setIfInBounds_toArray, List.set_cons_zero, List.set_cons_succ])
            generalize V43.alloc (.cells #[.slice AO ms.length cO] 28) = V44 at *
            refine wpAnyH_ready (rs := [8]) (by kernel_rfl) (by simp) ?_
            refine AllReadyH.cons (o := _) rfl (fun K hK => ?_) AllReadyH.nil
            refine step_append_lies _ (by rfl) (.tmp 89) (.tmp 91) 24 (by rfl) V.heap.size 28 i0 _ 1 24 Try.underlying24 hi0 hz0' hz1 hz2 rfl (by omega) _ rs.length (rs.map rowV) (by rfl) (HA44.out.ou _ rfl) ⟨_, 0, none⟩ 1 1 [(.slice AO ms.length cO)] (by rfl) (by simp) (World.news_of_block (HA44.out.ob _ rfl).2.1) (by simp [Value.oneCell']) (by omega) (by simp only [maxLen]; omega) (by omega) HA44.out.bel.size V44.heap.size rfl ?_
            intro gg cap w4 hown4 hgrow hat hlt4
            have HA45 := Lib.hid (HA44.out.op8 hown4 hgrow hat)
            clear hown4 hgrow hat
            refine hK.out _ _ ?_ (fun hHc => ?_)
            · exact HD.out _ HA45.out.bel
            clear hK K
            (try simp only [Act.put, List.setIfInBounds_toArray])
            refine wpAnyH_take (i := 9) (oi := _) (v := ?_) rfl (by kernel_rfl) (by kernel_rfl) (by kernel_rfl) (fun _ _ _ h => h) (Or.inl ⟨by rfl, ?_⟩) (by assumption) ?_
            rotate_left
            · (intro w hSw; (try dsimp only at hSw); go_simp; try (with_reducible rfl))
            (try simp only [Act.put])
            generalize w4 = V45 at *
            obtain ⟨f0, f1, f2, f3⟩ := r_cells (HA45.out.or _ rfl).2.1
            refine wpAnyH_ready (rs := [11]) (by kernel_rfl) (by simp) ?_
            refine AllReadyH.cons (o := _) rfl (fun K hK => ?_) AllReadyH.nil
            go_simp
            refine hK.out _ _ ?_ (fun _ => ?_)
            · exact HD.out _ (HA45.out.done _).1
            clear hK K
            (try simp only [Act.put, List.setIfInBounds_toArray, List.set_cons_zero, List.set_cons_succ])
            refine wpAnyH_done (by kernel_rfl) ?_ _
            exact REST _ _ _ _ _ _ _ (HA45.out.done _)
          · have HA46 := Lib.hid HA42.out.op7
            go_simp
            refine hK.out _ _ ?_ (fun _ => ?_)
            · exact HD.out _ HA46.out.bel
            clear hK K
            (try simp only [Act.put, List.setIfInBounds_toArray, List.set_cons_zero, List.set_cons_succ])
            generalize V42.alloc (.cells #[.slice AO ms.length cO] 28) = V46 at *
            refine wpAnyH_ready (rs := [5]) (by kernel_rfl) (by simp) ?_
            refine AllReadyH.cons (o := _) rfl (fun K hK => ?_) AllReadyH.nil
            refine step_append_lies _ (by rfl) (.tmp 86) (.tmp 88) 24 (by rfl) V.heap.size 28 i0 _ 1 24 Try.underlying24 hi0 hz0' hz1 hz2 rfl (by omega) _ 0 [] (by rfl) (HA46.out.ov _ rfl) ⟨bB, oB, none⟩ rs.length d' (rs.map rowV) (by rfl) (by simp) (HN.out _ HA46.out.bel) HU.out hr0 (by simp only [maxLen]; omega) (by omega) HA46.out.bel.size V46.heap.size rfl ?_
            intro gg cap w4 hown4 hgrow hat hlt4
            simp only [Nat.zero_add, List.nil_append] at hown4 ⊢
            have HA47 := Lib.hid (HA46.out.op5 hown4 hgrow hat)
            clear hown4 hgrow hat
            refine hK.out _ _ ?_ (fun _ => ?_)
            · exact HD.out _ HA47.out.bel
            clear hK K
            (try simp only [Act.put, List.setIfInBounds_toArray])
            generalize w4 = V47 at *
            refine wpAnyH_ready (rs := [8]) (by kernel_rfl) (by simp) ?_
            refine AllReadyH.cons (o := _) rfl (fun K hK => ?_) AllReadyH.nil
            refine step_append_lies _ (by rfl) (.tmp 89) (.tmp 91) 24 (by rfl) V.heap.size 28 i0 _ 1 24 Try.underlying24 hi0 hz0' hz1 hz2 rfl (by omega) _ rs.length (rs.map rowV) (by rfl) (HA47.out.ou _ rfl) ⟨_, 0, none⟩ 1 1 [(.slice AO ms.length cO)] (by rfl) (by simp) (World.news_of_block (HA47.out.ob _ rfl).2.1) (by simp [Value.oneCell']) (by omega) (by simp only [maxLen]; omega) (by omega) HA47.out.bel.size V47.heap.size rfl ?_
            intro gg cap w4 hown4 hgrow hat hlt4
            have HA48 := Lib.hid (HA47.out.op8 hown4 hgrow hat)
            clear hown4 hgrow hat
            refine hK.out _ _ ?_ (fun hHc => ?_)
            · exact HD.out _ HA48.out.bel
            clear hK K
            (try simp only [Act.put])
            refine wpAnyH_take (i := 9) (oi := _) (v := ?_) rfl (by kernel_rfl) (by kernel_rfl) (by kernel_rfl) (fun _ _ _ h => h) (Or.inl ⟨by rfl, ?_⟩) (by assumption) ?_
            rotate_left
            · (intro w hSw; (try dsimp only at hSw); go_simp; try (with_reducible rfl))
            (try simp only [Act.put])
            generalize w4 = V48 at *
            obtain ⟨f0, f1, f2, f3⟩ := r_cells (HA48.out.or _ rfl).2.1
            refine wpAnyH_ready (rs := [11]) (by kernel_rfl) (by simp) ?_
            refine AllReadyH.cons (o := _) rfl (fun K hK => ?_) AllReadyH.nil
            go_simp
            refine hK.out _ _ ?_ (fun _ => ?_)
            · exact HD.out _ (HA48.out.done _).1
            clear hK K
            (try simp only [Act.put, List.setIfInBounds_toArray, List.set_cons_zero, List.set_cons_succ])
            refine wpAnyH_done (by kernel_rfl) ?_ _
            exact REST _ _ _ _ _ _ _ (HA48.out.done _)
        · have HA49 := Lib.hid HA41.out.op7
          go_simp
          refine hK.out _ _ ?_ (fun _ => ?_)
          · exact HD.out _ HA49.out.bel
          clear hK K
          (try simp only [Act.put, List.setIfInBounds_toArray, List.set_cons_zero, List.set_cons_succ])
          generalize V41.alloc (.cells #[.slice AO ms.length cO] 28) = V49 at *
          refine wpAnyH_ready (rs := [2]) (by kernel_rfl) (by simp) ?_
          refine AllReadyH.cons (o := _) rfl (fun K hK => ?_) AllReadyH.nil
          have HA50 := Lib.hid HA49.out.op2
          go_simp
          refine hK.out _ _ ?_ (fun _ => ?_)
          · exact HD.out _ HA50.out.bel
          clear hK K
          (try simp only [Act.put, List.setIfInBounds_toArray, List.set_cons_zero, List.set_cons_succ])
          generalize V49.alloc (.cells #[] 28) = V50 at *
          refine wpAnyH_ready (rs := [5]) (by kernel_rfl) (by simp) ?_
          refine AllReadyH.cons (o := _) rfl (fun K hK => ?_) AllReadyH.nil
          refine step_append_lies _ (by rfl) (.tmp 86) (.tmp 88) 24 (by rfl) V.heap.size 28 i0 _ 1 24 Try.underlying24 hi0 hz0' hz1 hz2 rfl (by omega) _ 0 [] (by rfl) (HA50.out.ov _ rfl) ⟨bB, oB, none⟩ rs.length d' (rs.map rowV) (by rfl) (by simp) (HN.out _ HA50.out.bel) HU.out hr0 (by simp only [maxLen]; omega) (by omega) HA50.out.bel.size V50.heap.size rfl ?_
          intro gg cap w4 hown4 hgrow hat hlt4
          simp only [Nat.zero_add, List.nil_append] at hown4 ⊢
          have HA51 := Lib.hid (HA50.out.op5 hown4 hgrow hat)
          clear hown4 hgrow hat
          refine hK.out _ _ ?_ (fun _ => ?_)
          · exact HD.out _ HA51.out.bel
          clear hK K
          (try simp only [Act.put, List.setIfInBounds_toArray])
          generalize w4 = V51 at *
          refine wpAnyH_ready (rs := [8]) (by kernel_rfl) (by simp) ?_
          refine AllReadyH.cons (o := _) rfl (fun K hK => ?_) AllReadyH.nil
          refine step_append_lies _ (by rfl) (.tmp 89) (.tmp 91) 24 (by rfl) V.heap.size 28 i0 _ 1 24 Try.underlying24 hi0 hz0' hz1 hz2 rfl (by omega) _ rs.length (rs.map rowV) (by rfl) (HA51.out.ou _ rfl) ⟨_, 0, none⟩ 1 1 [(.slice AO ms.length cO)] (by rfl) (by simp) (World.news_of_block (HA51.out.ob _ rfl).2.1) (by simp [Value.oneCell']) (by omega) (by simp only [maxLen]; omega) (by omega) HA51.out.bel.size V51.heap.size rfl ?_
          intro gg cap w4 hown4 hgrow hat hlt4
          have HA52 := Lib.hid (HA51.out.op8 hown4 hgrow hat)
          clear hown4 hgrow hat
          refine hK.out _ _ ?_ (fun hHc => ?_)
          · exact HD.out _ HA52.out.bel
          clear hK K
          (try simp only [Act.put])
          refine wpAnyH_take (i := 9) (oi := _) (v := ?_) rfl (by kernel_rfl) (by kernel_rfl) (by kernel_rfl) (fun _ _ _ h => h) (Or.inl ⟨by rfl, ?_⟩) (by assumption) ?_
          rotate_left
          · (intro w hSw; (try dsimp only at hSw); go_simp; try (with_reducible rfl))
          (try simp only [Act.put])
          generalize w4 = V52 at *
          obtain ⟨f0, f1, f2, f3⟩ := r_cells (HA52.out.or _ rfl).2.1
          refine wpAnyH_ready (rs := [11]) (by kernel_rfl) (by simp) ?_
          refine AllReadyH.cons (o := _) rfl (fun K hK => ?_) AllReadyH.nil
          go_simp
          refine hK.out _ _ ?_ (fun _ => ?_)
          · exact HD.out _ (HA52.out.done _).1
          clear hK K
          (try simp only [Act.put, List.setIfInBounds_toArray, List.set_cons_zero, List.set_cons_succ])
          refine wpAnyH_done (by kernel_rfl) ?_ _
          exact REST _ _ _ _ _ _ _ (HA52.out.done _)
      -- END OF REGION 18

set_option maxRecDepth 100000 in
theorem walk (A : Option Addr) (c : Nat) (bs : List Int) (w : World) (_ : bs.length ≤ maxLen) (hr : Rd w A (bs.map (.int .u8))) (hb : ∀ i, i < bs.length → 0 ≤ bs.getD i 0 ∧ bs.getD i 0 ≤ 255) :
    Calls Try.prog 3 #[.slice A bs.length c] w fun e w' => e = .returned (.bool true) ∧ Below w.heap.size w w' := by
  by_cases hm : bs.length ≤ 1048576
  · exact walk_some A c bs w hr hm hb
  · clear hb
    go_enter Try.func3, Try.ntmps3
    go_wp2
    go_ret
    exact ⟨rfl, Below.refl _ _⟩
set_option maxRecDepth 100000 in
theorem lifted (os : Os) (started : os.Started) (H : Type) (enc : TypeId × Value → H) :
    ReturnsInHanded {} Try.checked os 3 .any (Rows.fnReciprocalSpec.pre6 enc Try.prog Try.f3 Rows.fnReciprocalRow.domain false) (Rows.fnReciprocalSpec.post enc Try.prog Try.f3 false true false false) := by
  refine returnsInHanded_of_change (C := Try.checked) own started (by kernel_rfl) Try.func3
    (ChangeSpec.witness6 (enc := enc) (C := Try.checked) false ⟨#[], #[.slice none 0 0], []⟩ 8 (by kernel_rfl) (by kernel_rfl) (by kernel_rfl) (by kernel_rfl)) ?_
  intro W base args ds gs before hval0 hW hcnd _
  have hval : ∀ (j : Nat) t v, Try.f3.params[j]? = some t → args[j]? = some v → Value.okWide Try.prog W .any base t v := hval0
  have hW' := hW
  obtain ⟨p, q, hA0, hV, rfl, hfz, hnd⟩ := hW
  have hA : DataW.TrodAll enc Try.prog W 0 (fun _ => true) true Try.f3.params.toList args.toList ds p := hA0
  rw [Try.params3] at hA hval
  obtain ⟨v0, vs0, d0, ds0, p0, q0, hargs, rfl, rfl, h0, r0⟩ := trodAll_cons hA
  obtain ⟨rfl, rfl, rfl⟩ := trodAll_nil r0
  obtain rfl : args = #[v0] := by cases args; simp_all
  obtain ⟨rfl, rfl⟩ := trodVars_none hV
  obtain ⟨a0, len0, cap0, rfl⟩ := okWide_slice Try.underlying22 (hval 0 22 v0 rfl rfl)
  have lt0 : ∀ x ∈ p0, x.block < W.heap.size := by obtain ⟨m, hm⟩ := h0; exact DataW.trod_lt m _ _ _ hm
  obtain ⟨bs0, rfl, mx0, rd0, wf0⟩ := open_bytes rfl Try.underlying22 Try.underlying5 (by kernel_rfl) h0
  clear hA0 hval0
  refine (walk a0 cap0 bs0 W mx0 rd0 wf0).mono fun e W' ⟨he, bel⟩ => ?_
  subst he
  exact ⟨_, rfl, _, _, _, [], _, [], hW', trodAll_mk1 (shut_bool Try.underlying4 _), (trodAll_cons_mk (Below.trod laidOut (by kernel_rfl) (of_decide_eq_true (by kernel_rfl)) h0 bel lt0) trodAll_mk0), rfl, bel.frame _, fun h => by cases h⟩

theorem proved : Rows.FnReciprocalSaid :=
  OpenClaim.holds_of_wide 3 Try.f3 rfl rfl rfl rfl rfl rfl rfl ⟨rfl, rfl, rfl, rfl, rfl⟩ rfl rfl rfl rfl rfl (by kernel_rfl) Try.func3 (by kernel_rfl)
    (of_decide_eq_true (by kernel_rfl)) (by unfold Func.isWrapper; first | (rw [if_pos (by decide +kernel)]; kernel_rfl) | (rw [if_neg (by decide +kernel)]; exact ⟨rfl, rfl⟩))
    (fun os started H enc _ => lifted os started H enc)
#print axioms proved
end Go.Proofs.Ytndnfhhdflmfcaa.lawReciprocal
