/-
Part 8 of 8 of the proof of the law FnCut: it returns true for all codes. No condition.
-/
import Derived.Test.YtndnfhhdflmfcaaGreatLawCutM7
import Derived.Deep.AppendLies

/-
'append' onto an empty slice without room: whatever lies at its address.
-/
namespace Go.Proofs.YtndnfhhdflmfcaaGreat
open Go Go.RowKit

theorem loadCells_zero {P : Program} (w : World) (a : Addr) : (loadCells a 0).run P w = .ok #[] w := by
  simp [loadCells, loadCellsFrom]
theorem run_append_empty {P : Program} (w : World) (t ty e : TypeId) (i : TypeInfo) (bytes : Nat) (ht : P.underlying t = some (.slice e)) (hi : P.info? e = some i) (hby : i.bytes = bytes) (a ad : Addr) (m c : Nat) (hm : 0 < m) (h63 : m ≤ maxLen) (hb : m * bytes ≤ 140737488355328) :
    (Builtin.append_ #[t, t] ty #[.slice (some a) 0 0, .slice (some ad) m c]).run P w = (Builtin.append_ #[t, t] ty #[.slice none 0 0, .slice (some ad) m c]).run P w := by
  have h1 : m ≠ 0 := by omega
  have h2 : ¬ (9223372036854775807 < (m : Int)) := by simp only [maxLen] at h63; omega
  have h3 : ¬ (281474976710656 < m * bytes) := by omega
  have hc : Builtin.nextslicecap m 0 = m := by simp [Builtin.nextslicecap, hm]
  simp [Builtin.append_, run_underlying ht, sizeOf, typeInfo, hi, Builtin.lenOf, Builtin.firstCells, h1, h2, h3, hc, hby, loadCells_zero]
/-- At the list of a plain region's operations. -/
theorem wpList_append_empty {P : Program} {w : World} {ops : Array Oper} {rest : List Oper} {o : Oper} {a : Act} {Q : Exit → Act → World → Prop} (hgd : o.guard = none) (s x : Operand) (t : TypeId)
    (ho : o.op = .call { callee := .builtin .append, args := #[s, x], argTypes := #[t, t] })
    (e : TypeId) (i : TypeInfo) (z : Value) (size bytes : Nat) (ht : P.underlying t = some (.slice e)) (hi : P.info? e = some i) (hz : i.zero = some z)
    (hsize : i.size = size) (hby : i.bytes = bytes) (hzs : z.cells.size = size) (hsz : 0 < size) (b : Addr) (hs : a.eval s = .slice (some b) 0 0)
    (ad : Addr) (m c : Nat) (news : List Value) (hx : a.eval x = .slice (some ad) m c) (hl : news.length = m * size) (hnews : ∀ j u, news[j]? = some u → w.cell? (ad.add j) = some u) (h1 : ∀ u ∈ news, u.oneCell' = true)
    (hm : 0 < m) (h63 : m ≤ maxLen) (hbytes : m * bytes ≤ 140737488355328)
    (h : ∀ cap w', w'.ownsRow w.heap.size e size (.slice (some ⟨w.heap.size, 0, none⟩) m cap) m news → Below w.heap.size w w' → wpList P ops Q rest (a.put o.dst (.slice (some ⟨w.heap.size, 0, none⟩) m cap)) w') : wpList P ops Q (o :: rest) a w := by
  refine wpList_plain hgd fun K hK => ?_
  obtain ⟨g, cap, w', hr, h2, h3, h4, h5⟩ := run_append_lies (P := P) w t o.type w.heap.size e i z size bytes ht hi hz hsize hby hzs hsz (.slice none 0 0) 0 [] ⟨by simp, .inl ⟨rfl, rfl⟩⟩ ad m c news hl hnews h1 hm (by omega) (by rw [Nat.zero_add]; exact hbytes) (Nat.le_refl _) w.heap.size rfl
  have hg : g = w.heap.size := by
    rcases h4 with q | q
    · cases q
    · exact q
  subst hg
  rw [Nat.zero_add] at hr h2
  rw [List.nil_append] at h2
  unfold Oper.wp execOp
  simp only [ho, resolve, invoke, builtin, Sem.run_bind, Sem.run_pure, Result.andThen_ok, List.map_toArray, List.map_cons, List.map_nil, hs, hx, run_append_empty w t o.type e i bytes ht hi hby b ad m c hm h63 hbytes, hr]
  exact hK _ _ (h cap w' h2 ⟨h3.os, h3.tape, h3.output, h3.size, fun k hk => h3.block k hk (by intro q; cases q)⟩)
end Go.Proofs.YtndnfhhdflmfcaaGreat

/-
The law FnCut returns true for all codes. No condition.
-/
namespace Go.Proofs.YtndnfhhdflmfcaaGreat.lawCut
open Go Go.RowKit Go.ChangeShapes Go.WideShapes Ieee

theorem wf0 : wfk .f32 0 := by rw [wfk_32]; decide
theorem wpList_guard {P : Program} {w : World} {ops : Array Oper} {rest : List Oper} {o : Oper} {a : Act} {Q : Exit → Act → World → Prop} (h1 : Region.wanted o (yielded ops a.tmps) = true) (h : wpList P ops Q ({ o with guard := none } :: rest) a w) : wpList P ops Q (o :: rest) a w := by
  unfold wpList at h ⊢
  rw [if_pos h1]
  rw [if_pos (by simp [Region.wanted])] at h
  exact h
set_option maxRecDepth 100000 in
set_option maxHeartbeats 6400000 in
theorem walk (A : Option Addr) (cp : Nat) (bs : List Int) (w : World) (mx : bs.length ≤ maxLen) (hrd : Rd w A (bs.map (.int .u8))) (hwf : ∀ i, i < bs.length → 0 ≤ bs.getD i 0 ∧ bs.getD i 0 ≤ 255) :
    Calls Tryz.prog 3 #[.slice A bs.length cp] w fun e w' => e = .returned (.bool true) ∧ Below w.heap.size w w' := by
  unfold maxLen at mx
  by_cases hm : 1048576 < bs.length
  · go_enter Tryz.func3, Tryz.ntmps3
    go_wp2
    go_ret
    exact ⟨rfl, Below.refl _ _⟩
  have hq1 := atL_bound hwf 1
  have hq2 := atL_bound hwf 2
  have HAt1 := Lib.hid (fun W h => at_any A cp bs 1 W h (by omega) (by omega) hwf)
  have HAt2 := Lib.hid (fun W h => at_any A cp bs 2 W h (by omega) (by omega) hwf)
  generalize atL bs 1 = p1 at *
  generalize atL bs 2 = p2 at *
  have Hr := Lib.hid hrd
  clear hrd hwf
  go_enter Tryz.func3, Tryz.ntmps3
  go_wp2_with fail
  refine (makeScore_any A cp bs 40 w Hr.out (by omega) (by omega)).mono ?_
  intro rr W1 hp
  obtain ⟨⟨s, B, cb, bds, E, ce, evs, rfl, hin, hok⟩, hb1⟩ := hp
  have HP : Hid (ScPlay s bds evs) := hok.play (by omega)
  obtain ⟨L, hL, hL1⟩ : ∃ L : Nat, s.1 = (L : Int) ∧ L ≤ 40 := ⟨s.1.toNat, by have := hok.sh.l0; omega, by have := hok.sh.l1; omega⟩
  have HAT : Hid (AtAll L s bds evs) := HP.out.at (by omega)
  obtain ⟨len, vo, c, r⟩ := s
  simp only at hL
  subst hL
  obtain ⟨a, ha1, ha2⟩ : ∃ a : Nat, p1.tmod ((L : Int) + 1) = (a : Int) ∧ a ≤ L := by
    rw [Int.tmod_eq_emod_of_nonneg hq1.1]
    have h1 := Int.emod_nonneg p1 (show (L : Int) + 1 ≠ 0 by omega)
    have h2 := Int.emod_lt_of_pos p1 (show 0 < (L : Int) + 1 by omega)
    exact ⟨(p1 % ((L : Int) + 1)).toNat, by omega, by omega⟩
  obtain ⟨b, hb1', hb2'⟩ : ∃ b : Nat, p2.tmod ((L : Int) - a + 1) = (b : Int) ∧ a + b ≤ L := by
    rw [Int.tmod_eq_emod_of_nonneg hq2.1]
    have h1 := Int.emod_nonneg p2 (show (L : Int) - a + 1 ≠ 0 by omega)
    have h2 := Int.emod_lt_of_pos p2 (show 0 < (L : Int) - a + 1 by omega)
    exact ⟨(p2 % ((L : Int) - a + 1)).toNat, by omega, by omega⟩
  have b2 : Below W1.heap.size W1 (W1.alloc (.cells #[.int .i64 (L : Int), .int .i64 vo, .float .f32 c, .float .f32 r, .slice B bds.length cb, .slice E evs.length ce] 27)) := (Below.refl W1.heap.size W1).alloc (Nat.le_refl _) _
  have X2 := Lib.hid (heap_alloc_new W1 (.cells #[.int .i64 (L : Int), .int .i64 vo, .float .f32 c, .float .f32 r, .slice B bds.length cb, .slice E evs.length ce] 27))
  have S2 := Lib.hid (hin.below b2)
  have B2 := Lib.hid (hb1.trans (b2.mono hb1.size))
  have R2 := Lib.hid ((Hr.out.below hb1).below b2)
  clear hin hok hb1 b2 Hr
  unfold scV
  go_wp2_with fail
  generalize W1.alloc (.cells #[.int .i64 (L : Int), .int .i64 vo, .float .f32 c, .float .f32 r, .slice B bds.length cb, .slice E evs.length ce] 27) = W2 at *
  generalize W1.heap.size = g1 at *
  refine (openStream_any ((L : Int), vo, c, r) B cb bds E ce _ _ evs W2 S2.out HP.out.ask).mono ?_
  intro rr W3 hp
  unfold OpenP at hp
  obtain ⟨B0, cb0, bs0, E0, ce0, rfl, hsc, hmo, hb3⟩ := hp
  have HM0 := Lib.hid hmo
  have b4 : Below W3.heap.size W3 (W3.alloc (.cells #[.int .i64 (L : Int), .int .i64 vo, .float .f32 c, .float .f32 r, .slice B0 bs0.length cb0, .slice E0 evs.length ce0, .int .i64 0, .int .i64 0, .slice none 0 0, .float .f32 0] 31)) := (Below.refl W3.heap.size W3).alloc (Nat.le_refl _) _
  have b24 := hb3.trans (b4.mono hb3.size)
  have X4 := Lib.hid ((b24.block _ (lt_of_some X2.out)).trans X2.out)
  have T4 := Lib.hid (heap_alloc_new W3 (.cells #[.int .i64 (L : Int), .int .i64 vo, .float .f32 c, .float .f32 r, .slice B0 bs0.length cb0, .slice E0 evs.length ce0, .int .i64 0, .int .i64 0, .slice none 0 0, .float .f32 0] 31))
  have S4 := Lib.hid (hsc.below b4)
  have B4 := Lib.hid (B2.out.trans (b24.mono B2.out.size))
  have R4 := Lib.hid (R2.out.below b24)
  have HP0 : Hid (ScPlay ((L : Int), vo, c, r) bs0 evs) := Lib.hid ⟨HP.out.sh, HP.out.bods.modes hmo, by
    have := HP.out.evs
    rw [modesB_len hmo]; exact this⟩
  clear hsc hmo hb3 b4 b24 X2 S2 B2 R2 HP HAT HM0
  have HAT : Hid (AtAll L ((L : Int), vo, c, r) bs0 evs) := HP0.out.at (by omega)
  go_wp2_with fail
  generalize W3.alloc (.cells #[.int .i64 (L : Int), .int .i64 vo, .float .f32 c, .float .f32 r, .slice B0 bs0.length cb0, .slice E0 evs.length ce0, .int .i64 0, .int .i64 0, .slice none 0 0, .float .f32 0] 31) = W4 at *
  generalize W3.heap.size = g2 at *
  have CA : ∀ w', Below W4.heap.size W4 w' → w'.cell? ⟨g1, 0, none⟩ = some (.int .i64 (L : Int)) := fun w' hb => (sc_cells ((hb.block _ (lt_of_some X4.out)).trans X4.out)).1
  have hz1 : ¬ (L : Int) + 1 = 0 := by omega
  have hw1 : IntKind.i64.wrap ((L : Int) + 1) = (L : Int) + 1 := IntWalk.i64_in _ (by omega)
  refine wp_region_b _ (Below.refl _ _) (by kernel_rfl) (by kernel_rfl) ?_; apply Exists.intro
  repeat (first | (apply wpB_val; (· go_simp); (· intro wB hwB; go_simp; rfl); (try simp only [Act.put, List.setIfInBounds_toArray, List.set_cons_zero, List.set_cons_succ])) | (apply wpB_skip; (· go_simp); (try simp only [Act.put, List.setIfInBounds_toArray, List.set_cons_zero, List.set_cons_succ])))
  apply wpB_val; (· go_simp); intro wB hwB; go_simp
  · exact bcall_same hwB (HAt1.out wB (R4.out.below hwB))
  (try simp only [Act.put, List.setIfInBounds_toArray, List.set_cons_zero, List.set_cons_succ])
  repeat (first | (apply wpB_val; (· go_simp); (· intro wB hwB; go_simp; rfl); (try simp only [Act.put, List.setIfInBounds_toArray, List.set_cons_zero, List.set_cons_succ])) | (apply wpB_skip; (· go_simp); (try simp only [Act.put, List.setIfInBounds_toArray, List.set_cons_zero, List.set_cons_succ])))
  apply wpR_nil (Rs := []); intro wE hwE
  have T5 := Lib.hid ((hwE.block _ (lt_of_some T4.out)).trans T4.out)
  have X5 := Lib.hid ((hwE.block _ (lt_of_some X4.out)).trans X4.out)
  have S5 := Lib.hid (S4.out.below hwE)
  have R5 := Lib.hid (R4.out.below hwE)
  have B5 := Lib.hid (B4.out.trans (hwE.mono B4.out.size))
  clear CA hwE T4 S4 X4 R4 B4 hz1 hw1
  have hla : 0 ≤ (L : Int) - a := by omega
  have hz1 : ¬ (L : Int) - a + 1 = 0 := by omega
  have hw1 : IntKind.i64.wrap ((L : Int) - a) = (L : Int) - a := IntWalk.i64_in _ (by omega)
  have hw2 : IntKind.i64.wrap ((L : Int) - a + 1) = (L : Int) - a + 1 := IntWalk.i64_in _ (by omega)
  go_wp2_with fail
  generalize wE = V5 at *
  have CA : ∀ w', Below V5.heap.size V5 w' → w'.cell? ⟨g1, 0, none⟩ = some (.int .i64 (L : Int)) := fun w' hb => (sc_cells ((hb.block _ (lt_of_some X5.out)).trans X5.out)).1
  refine wp_region_b _ (Below.refl _ _) (by kernel_rfl) (by kernel_rfl) ?_; apply Exists.intro
  repeat (first | (apply wpB_val; (· go_simp); (· intro wB hwB; go_simp; rfl); (try simp only [Act.put, List.setIfInBounds_toArray, List.set_cons_zero, List.set_cons_succ])) | (apply wpB_skip; (· go_simp); (try simp only [Act.put, List.setIfInBounds_toArray, List.set_cons_zero, List.set_cons_succ])))
  apply wpB_val; (· go_simp); intro wB hwB; go_simp
  · exact bcall_same hwB (HAt2.out wB (R5.out.below hwB))
  (try simp only [Act.put, List.setIfInBounds_toArray, List.set_cons_zero, List.set_cons_succ])
  repeat (first | (apply wpB_val; (· go_simp); (· intro wB hwB; go_simp; rfl); (try simp only [Act.put, List.setIfInBounds_toArray, List.set_cons_zero, List.set_cons_succ])) | (apply wpB_skip; (· go_simp); (try simp only [Act.put, List.setIfInBounds_toArray, List.set_cons_zero, List.set_cons_succ])))
  apply wpR_nil (Rs := []); intro wE hwE
  have T06 := Lib.hid ((hwE.block _ (lt_of_some T5.out)).trans T5.out)
  have S06 := Lib.hid (S5.out.below hwE)
  have B6 := Lib.hid (B5.out.trans (hwE.mono B5.out.size))
  clear CA hwE T5 S5 X5 R5 B5 hz1 hw1 hw2 HAt1 HAt2 hla ha1 hb1'
  generalize wE = V6 at *
  obtain ⟨c0, c1, c2, c3, c4, c5, c6, c7, c8, c9⟩ := st_cells T06.out
  go_wp2_with fail
  clear c0 c1 c2 c3 c4 c5 c6 c7 c8 c9
  obtain ⟨m2, hm2⟩ : ∃ m2 : Nat, a + b = m2 := ⟨_, rfl⟩
  have hmI : (a : Int) + (b : Int) = (m2 : Int) := by omega
  have HM2 := Lib.hid hm2
  clear hm2
  have HS0 : Hid (StmOk ((L : Int), vo, c, r) bs0 evs 0 0 [] 0) := Lib.hid ⟨HP0.out, by show ((0 : Nat) : Int) ≤ (L : Int); omega, rfl, rfl, by show nrm .f32 0 = 0; decide +kernel, wf0⟩
  have hcon := advance_any ((L : Int), vo, c, r) B0 cb0 bs0 E0 ce0 _ _ evs 0 0 none 0 0 0 a [] V6 S06.out ⟨fun h => by simp [flatQ] at h, fun q hq => by cases hq⟩ rfl HS0.out (HP0.out.at (by omega)) (by show ((0 + a : Nat) : Int) ≤ (L : Int); omega)
  refine hcon.mono ?_
  clear hcon
  intro rr V7 hp
  unfold AdvP at hp
  simp only [Nat.zero_add] at hp
  obtain ⟨B1, cb1, bs1, E1, ce1, N1, vc1, qs1, dn1, en1, A1, ca1, ys1, rfl, hsc, hmo, hqs, hso, hrd, hy, hb⟩ := hp
  have hba : Below V7.heap.size V7 (V7.alloc (.cells #[.int .i64 (L : Int), .int .i64 vo, .float .f32 c, .float .f32 r, .slice B1 bs1.length cb1, .slice E1 evs.length ce1, .int .i64 (a : Nat), .int .i64 dn1, .slice N1 qs1.length vc1, .float .f32 en1] 31)) := (Below.refl _ _).alloc (Nat.le_refl _) _
  have hbb := hb.trans (hba.mono hb.size)
  have T18 := Lib.hid (heap_alloc_new V7 (.cells #[.int .i64 (L : Int), .int .i64 vo, .float .f32 c, .float .f32 r, .slice B1 bs1.length cb1, .slice E1 evs.length ce1, .int .i64 (a : Nat), .int .i64 dn1, .slice N1 qs1.length vc1, .float .f32 en1] 31))
  have S18 := Lib.hid (hsc.below hba)
  have Q18 := Lib.hid (hqs.new hba)
  have D18 := Lib.hid (hrd.below hba)
  have O1 := Lib.hid hso
  have Y1 := Lib.hid hy
  have M1 := Lib.hid hmo
  have B8 := Lib.hid (B6.out.trans (hbb.mono B6.out.size))
  have T08 := Lib.hid ((hbb.block _ (lt_of_some T06.out)).trans T06.out)
  have S08 := Lib.hid (S06.out.below hbb)
  clear hsc hmo hqs hso hrd hy hb hba hbb B6 T06 S06
  obtain ⟨c0, c1, c2, c3, c4, c5, c6, c7, c8, c9⟩ := st_cells T18.out
  go_wp2_with fail
  clear c0 c1 c2 c3 c4 c5 c6 c7 c8 c9
  generalize (V7.alloc (.cells #[.int .i64 (L : Int), .int .i64 vo, .float .f32 c, .float .f32 r, .slice B1 bs1.length cb1, .slice E1 evs.length ce1, .int .i64 (a : Nat), .int .i64 dn1, .slice N1 qs1.length vc1, .float .f32 en1] 31)) = V8 at *
  generalize V7.heap.size = g3 at *
  have hcon := advance_any ((L : Int), vo, c, r) B1 cb1 bs1 E1 ce1 _ _ evs a dn1 N1 qs1.length vc1 en1 b qs1 V8 S18.out Q18.out rfl O1.out (O1.out.sc.at (by omega)) (by show ((a + b : Nat) : Int) ≤ (L : Int); omega)
  refine hcon.mono ?_
  clear hcon
  intro rr V9 hp
  unfold AdvP at hp
  rw [HM2.out] at hp
  obtain ⟨B2, cb2, bs2, E2, ce2, N2, vc2, qs2, dn2, en2, A2, ca2, ys2, rfl, hsc, hmo, hqs, hso, hrd, hy, hb⟩ := hp
  have hba : Below V9.heap.size V9 (V9.alloc (.cells #[.int .i64 (L : Int), .int .i64 vo, .float .f32 c, .float .f32 r, .slice B2 bs2.length cb2, .slice E2 evs.length ce2, .int .i64 (m2 : Nat), .int .i64 dn2, .slice N2 qs2.length vc2, .float .f32 en2] 31)) := (Below.refl _ _).alloc (Nat.le_refl _) _
  have hbb := hb.trans (hba.mono hb.size)
  have T210 := Lib.hid (heap_alloc_new V9 (.cells #[.int .i64 (L : Int), .int .i64 vo, .float .f32 c, .float .f32 r, .slice B2 bs2.length cb2, .slice E2 evs.length ce2, .int .i64 (m2 : Nat), .int .i64 dn2, .slice N2 qs2.length vc2, .float .f32 en2] 31))
  have S210 := Lib.hid (hsc.below hba)
  have Q210 := Lib.hid (hqs.new hba)
  have D210 := Lib.hid (hrd.below hba)
  have O2 := Lib.hid hso
  have Y2 := Lib.hid hy
  have M2 := Lib.hid hmo
  have B10 := Lib.hid (B8.out.trans (hbb.mono B8.out.size))
  have T010 := Lib.hid ((hbb.block _ (lt_of_some T08.out)).trans T08.out)
  have T110 := Lib.hid ((hbb.block _ (lt_of_some T18.out)).trans T18.out)
  have S010 := Lib.hid (S08.out.below hbb)
  have S110 := Lib.hid (S18.out.below hbb)
  have Q110 := Lib.hid (Q18.out.new hbb)
  have D110 := Lib.hid (D18.out.below hbb)
  clear hsc hmo hqs hso hrd hy hb hba hbb B8 T08 T18 S08 S18 Q18 D18
  obtain ⟨c0, c1, c2, c3, c4, c5, c6, c7, c8, c9⟩ := st_cells T010.out
  go_wp2_with fail
  clear c0 c1 c2 c3 c4 c5 c6 c7 c8 c9
  generalize (V9.alloc (.cells #[.int .i64 (L : Int), .int .i64 vo, .float .f32 c, .float .f32 r, .slice B2 bs2.length cb2, .slice E2 evs.length ce2, .int .i64 (m2 : Nat), .int .i64 dn2, .slice N2 qs2.length vc2, .float .f32 en2] 31)) = V10 at *
  generalize V9.heap.size = g4 at *
  have hcon := advance_any ((L : Int), vo, c, r) B0 cb0 bs0 E0 ce0 _ _ evs 0 0 none 0 0 0 m2 [] V10 S010.out ⟨fun h => by simp [flatQ] at h, fun q hq => by cases hq⟩ rfl HS0.out (HP0.out.at (by omega)) (by show ((0 + m2 : Nat) : Int) ≤ (L : Int); omega)
  refine hcon.mono ?_
  clear hcon
  intro rr V11 hp
  unfold AdvP at hp
  simp only [Nat.zero_add] at hp
  obtain ⟨B3, cb3, bs3, E3, ce3, N3, vc3, qs3, dn3, en3, A3, ca3, ys3, rfl, hsc, hmo, hqs, hso, hrd, hy, hb⟩ := hp
  have hMM : modesB bs3 = modesB bs2 := hmo.trans (M1.out.symm.trans M2.out.symm)
  have hdn : dn3 = dn2 := by
    have h1 := hso.d
    have h2 := O2.out.d
    rw [bmOf_modes hMM] at h1
    exact h1.trans h2.symm
  have hvs : qs2.map Vq.v = qs3.map Vq.v := by
    have h1 := hso.vs
    have h2 := O2.out.vs
    rw [bmOf_modes hMM] at h1
    exact h2.trans h1.symm
  have HVS := Lib.hid hvs
  have hql : qs3.length = qs2.length := by
    have := congrArg List.length hvs
    simpa using this.symm
  have hen : sameB .f32 en2 en3 = true := by
    simp only [sameB, decide_eq_true_eq]
    rw [O2.out.env.1, hso.env.1, bmOf_modes hMM]
  have HEN := Lib.hid hen
  have HMM := Lib.hid hMM
  have HQL := Lib.hid hql
  subst hdn
  rw [hql]
  clear hMM hvs hql hen
  have hba : Below V11.heap.size V11 (V11.alloc (.cells #[.int .i64 (L : Int), .int .i64 vo, .float .f32 c, .float .f32 r, .slice B3 bs3.length cb3, .slice E3 evs.length ce3, .int .i64 (m2 : Nat), .int .i64 dn3, .slice N3 qs2.length vc3, .float .f32 en3] 31)) := (Below.refl _ _).alloc (Nat.le_refl _) _
  have hbb := hb.trans (hba.mono hb.size)
  have T312 := Lib.hid (heap_alloc_new V11 (.cells #[.int .i64 (L : Int), .int .i64 vo, .float .f32 c, .float .f32 r, .slice B3 bs3.length cb3, .slice E3 evs.length ce3, .int .i64 (m2 : Nat), .int .i64 dn3, .slice N3 qs2.length vc3, .float .f32 en3] 31))
  have S312 := Lib.hid (hsc.below hba)
  have Q312 := Lib.hid (hqs.new hba)
  have D312 := Lib.hid (hrd.below hba)
  have O3 := Lib.hid hso
  have Y3 := Lib.hid hy
  have M3 := Lib.hid hmo
  have B12 := Lib.hid (B10.out.trans (hbb.mono B10.out.size))
  have T012 := Lib.hid ((hbb.block _ (lt_of_some T010.out)).trans T010.out)
  have T112 := Lib.hid ((hbb.block _ (lt_of_some T110.out)).trans T110.out)
  have T212 := Lib.hid ((hbb.block _ (lt_of_some T210.out)).trans T210.out)
  have S012 := Lib.hid (S010.out.below hbb)
  have S112 := Lib.hid (S110.out.below hbb)
  have Q112 := Lib.hid (Q110.out.new hbb)
  have D112 := Lib.hid (D110.out.below hbb)
  have S212 := Lib.hid (S210.out.below hbb)
  have Q212 := Lib.hid (Q210.out.new hbb)
  have D212 := Lib.hid (D210.out.below hbb)
  clear hsc hmo hqs hso hrd hy hb hba hbb B10 T010 T110 T210 S010 S110 Q110 D110 S210 Q210 D210
  obtain ⟨c0, c1, c2, c3, c4, c5, c6, c7, c8, c9⟩ := st_cells T112.out
  go_wp2_with fail
  clear c0 c1 c2 c3 c4 c5 c6 c7 c8 c9
  generalize (V11.alloc (.cells #[.int .i64 (L : Int), .int .i64 vo, .float .f32 c, .float .f32 r, .slice B3 bs3.length cb3, .slice E3 evs.length ce3, .int .i64 (m2 : Nat), .int .i64 dn3, .slice N3 qs2.length vc3, .float .f32 en3] 31)) = V12 at *
  generalize V11.heap.size = g5 at *
  refine (isStream_any ((L : Int), vo, c, r) B1 cb1 bs1 E1 ce1 _ _ evs a dn1 N1 qs1.length vc1 en1 qs1 V12 S112.out Q112.out rfl O1.out (O1.out.sc.at (by omega))).mono ?_
  rintro rr V13 ⟨rfl, hb⟩
  have T113 := Lib.hid ((hb.block _ (lt_of_some T112.out)).trans T112.out)
  have T213 := Lib.hid ((hb.block _ (lt_of_some T212.out)).trans T212.out)
  have T313 := Lib.hid ((hb.block _ (lt_of_some T312.out)).trans T312.out)
  have S213 := Lib.hid (S212.out.below hb)
  have S313 := Lib.hid (S312.out.below hb)
  have Q213 := Lib.hid (Q212.out.new hb)
  have Q313 := Lib.hid (Q312.out.new hb)
  have D113 := Lib.hid (D112.out.below hb)
  have D213 := Lib.hid (D212.out.below hb)
  have D313 := Lib.hid (D312.out.below hb)
  have B13 := Lib.hid (B12.out.trans (hb.mono B12.out.size))
  clear hb T112 T212 T312 S212 S312 Q212 Q312 D112 D212 D312 B12
  obtain ⟨c0, c1, c2, c3, c4, c5, c6, c7, c8, c9⟩ := st_cells T213.out
  obtain ⟨d0, d1, d2, d3, d4, d5, d6, d7, d8, d9⟩ := st_cells T313.out
  go_wp2_with fail
  clear c0 c1 c2 c3 c4 c5 c6 c7 c8 c9 d0 d1 d2 d3 d4 d5 d6 d7 d8 d9
  have HWf : Hid (∀ q ∈ qs2, VcWf q.v) := Lib.hid (fun q hq => by
    have hv : q.v ∈ (plAt (bmOf bs2) vo (sortedE evs) m2).2.vs := by
      have := O2.out.vs
      simp only at this
      rw [← this]
      exact List.mem_map_of_mem hq
    obtain ⟨t, _, ha⟩ := (O2.out.sc.at (n := m2) (by have := HM2.out; omega)) m2 (Nat.le_refl _)
    exact vcWf_of (ha.ok.vs _ hv) (plAt_wf _ _ _ _ _ hv))
  have HQn : Hid (qs2.length ≤ 1048576) := Lib.hid (by
    obtain ⟨t, _, ha⟩ := (O2.out.sc.at (n := m2) (by have := HM2.out; omega)) m2 (Nat.le_refl _)
    have h1 := ha.ok.len
    have h2 := O2.out.vs
    simp only at h1 h2
    rw [← h2, List.length_map] at h1
    have h3 := O2.out.sc.sh.v1
    simp only at h3
    omega)
  refine (makeSame_any ((L : Int), vo, c, r) B2 B3 cb2 cb3 bs2 bs3 E2 E3 ce2 ce3 _ _ _ _ _ _ _ _ evs m2 dn3 N2 N3 qs2.length vc2 vc3 en2 en3 qs2 qs3 V13 S213.out S313.out HMM.out.symm O2.out.sc.ask O3.out.sc.ask Q213.out Q313.out rfl HQL.out HVS.out HWf.out HQn.out HEN.out ⟨O2.out.env.2, O3.out.env.2⟩).mono ?_
  rintro rr V14 ⟨rfl, hb⟩
  have T114 := Lib.hid ((hb.block _ (lt_of_some T113.out)).trans T113.out)
  have T214 := Lib.hid ((hb.block _ (lt_of_some T213.out)).trans T213.out)
  have T314 := Lib.hid ((hb.block _ (lt_of_some T313.out)).trans T313.out)
  have S214 := Lib.hid (S213.out.below hb)
  have S314 := Lib.hid (S313.out.below hb)
  have Q214 := Lib.hid (Q213.out.new hb)
  have Q314 := Lib.hid (Q313.out.new hb)
  have D114 := Lib.hid (D113.out.below hb)
  have D214 := Lib.hid (D213.out.below hb)
  have D314 := Lib.hid (D313.out.below hb)
  have B14 := Lib.hid (B13.out.trans (hb.mono B13.out.size))
  clear hb T113 T213 T313 S213 S313 Q213 Q313 D113 D213 D313 B13
  obtain ⟨d0, d1, d2, d3, d4, d5, d6, d7, d8, d9⟩ := st_cells T314.out
  have hown0 := owns_empty V14 23
  have hb0 : Below V14.heap.size V14 (V14.alloc (.cells #[] 23)) := (Below.refl _ _).alloc (Nat.le_refl _) _
  have HD1 := Lib.hid (D114.out.below hb0)
  have HD2 := Lib.hid (D214.out.below hb0)
  have HD3 := Lib.hid (D314.out.below hb0)
  have HB0 := Lib.hid (B14.out.trans (hb0.mono B14.out.size))
  have HO0 := Lib.hid hown0
  have HB00 := Lib.hid hb0
  have hya := Y1.out.1
  have hyb := Y2.out.1
  have HLa : Hid ((f32s ys1).length = a) := Lib.hid (by simpa [f32s] using hya)
  have HLb : Hid ((f32s ys2).length = b) := Lib.hid (by simpa [f32s] using hyb)
  clear hya hyb hown0 hb0
  go_wp2_with (first | (at_builtin; refine wpList_guard (by go_simp) ?_; refine wpList_appRd rfl (.tmp 89) (.tmp 90) 35 rfl V14.heap.size 23 (.float .f32 0) 4 Tryz.underlying35 f32_info rfl (.slice (some ⟨V14.heap.size, 0, none⟩) 0 0) 0 [] A1 a ca1 (f32s ys1) rfl rfl (fs_one ys1) HO0.out HB00.out.size HD1.out HLa.out (by omega) (by omega) ?_; intro v15 W15 hown15 hb15) | (at_builtin; refine wpList_guard (by go_simp) ?_; refine wpList_appRd rfl (.tmp 91) (.tmp 92) 35 rfl V14.heap.size 23 (.float .f32 0) 4 Tryz.underlying35 f32_info rfl v15 a (f32s ys1) A2 b ca2 (f32s ys2) rfl rfl (fs_one ys2) (by simpa using hown15) (HB00.out.trans hb15).size (D214.out.below (HB00.out.trans hb15)) HLb.out (by omega) (by omega) ?_; intro v16 W16 hown16 hb16; obtain ⟨A16, c16, rfl, _, hrd16⟩ := own_rd hown16))
  have hsame : Calls Tryz.prog 10 #[.slice A16 (a + b) c16, .slice A3 m2 ca3] W16 fun e w' => ∃ n, e = .returned (.bool true) ∧ W16.drewN n = w' := by
    have hr3 := D314.out.below ((HB00.out.trans hb15).trans hb16)
    have e12 : f32s ys1 ++ f32s ys2 = f32s (ys1 ++ ys2) := by simp [f32s]
    rw [e12] at hrd16
    have l1 := Y1.out.1
    have l2 := Y2.out.1
    have l3 := Y3.out.1
    have hm := HM2.out
    have hlo : ∀ i, i < a → (ys1 ++ ys2).getD i 0 = ys1.getD i 0 := fun i hi => by
      simp only [List.getD]
      rw [List.getElem?_append_left (by omega)]
    have hhi : ∀ i, ¬ i < a → (ys1 ++ ys2).getD i 0 = ys2.getD (i - a) 0 := fun i hi => by
      simp only [List.getD]
      rw [List.getElem?_append_right (by omega), l1]
    have hs := same_true A16 A3 c16 ca3 (ys1 ++ ys2) ys3 W16 hrd16 hr3 (by simp; omega) (by omega)
      (fun i hi => by
        have hi' : i < a + b := by simpa [l1, l2] using hi
        by_cases h : i < a
        · rw [hlo i h]; exact (Y1.out.2 i h).2
        · rw [hhi i h]; exact (Y2.out.2 (i - a) (by omega)).2)
      (fun i hi => (Y3.out.2 i (by omega)).2) (by simp; omega)
      (fun i hi => by
        have hi' : i < a + b := by simpa [l1, l2] using hi
        simp only [sameB, decide_eq_true_eq]
        rw [(Y3.out.2 i (by omega)).1]
        by_cases h : i < a
        · rw [hlo i h]; exact (Y1.out.2 i h).1
        · rw [hhi i h, (Y2.out.2 (i - a) (by omega)).1, bmOf_modes M1.out, show a + (i - a) = i by omega])
    rw [show (ys1 ++ ys2).length = a + b by simp; omega, l3] at hs
    exact hs
  have HBf := Lib.hid (B14.out.trans (((HB00.out.trans hb15).trans hb16).mono B14.out.size))
  refine hsame.mono ?_
  clear hsame hrd16 hb15 hb16 hown15 hown16
  rintro rr w' ⟨n, rfl, rfl⟩
  go_wp2_with fail
  go_ret
  exact ⟨rfl, below_drewN HBf.out n⟩

set_option maxRecDepth 100000 in
theorem lifted (os : Os) (started : os.Started) (H : Type) (enc : TypeId × Value → H) :
    ReturnsInHanded {} Tryz.checked os 3 .any (Rows.fnCutSpec.pre6 enc Tryz.prog Tryz.f3 Rows.fnCutRow.domain false) (Rows.fnCutSpec.post enc Tryz.prog Tryz.f3 false true false false) := by
  refine returnsInHanded_of_change (C := Tryz.checked) own started (by kernel_rfl) Tryz.func3
    (ChangeSpec.witness6 (enc := enc) (C := Tryz.checked) false ⟨#[], #[.slice none 0 0], []⟩ 8 (by kernel_rfl) (by kernel_rfl) (by kernel_rfl) (by kernel_rfl)) ?_
  intro W base args ds gs before hval0 hW hcnd _
  have hval : ∀ (j : Nat) t v, Tryz.f3.params[j]? = some t → args[j]? = some v → Value.okWide Tryz.prog W .any base t v := hval0
  have hW' := hW
  obtain ⟨p, q, hA0, hV, rfl, hfz, hnd⟩ := hW
  have hA : DataW.TrodAll enc Tryz.prog W 0 (fun _ => true) true Tryz.f3.params.toList args.toList ds p := hA0
  rw [Tryz.params3] at hA hval
  obtain ⟨v0, vs0, d0, ds0, p0, q0, hargs, rfl, rfl, h0, r0⟩ := trodAll_cons hA
  obtain ⟨rfl, rfl, rfl⟩ := trodAll_nil r0
  obtain rfl : args = #[v0] := by cases args; simp_all
  obtain ⟨rfl, rfl⟩ := trodVars_none hV
  obtain ⟨a0, len0, cap0, rfl⟩ := okWide_slice Tryz.underlying22 (hval 0 22 v0 rfl rfl)
  have lt0 : ∀ x ∈ p0, x.block < W.heap.size := by obtain ⟨m, hm⟩ := h0; exact DataW.trod_lt m _ _ _ hm
  obtain ⟨bs0, rfl, mx0, rd0, wf0⟩ := open_bytes rfl Tryz.underlying22 Tryz.underlying5 (by kernel_rfl) h0
  clear hA0 hval0
  refine (walk a0 cap0 bs0 W mx0 rd0 wf0).mono fun e W' ⟨he, bel⟩ => ?_
  subst he
  exact ⟨_, rfl, _, _, _, [], _, [], hW', trodAll_mk1 (shut_bool Tryz.underlying4 _), (trodAll_cons_mk (Below.trod laidOut (by kernel_rfl) (of_decide_eq_true (by kernel_rfl)) h0 bel lt0) trodAll_mk0), rfl, bel.frame _, fun h => by cases h⟩

theorem proved : Rows.FnCutSaid :=
  OpenClaim.holds_of_wide 3 Tryz.f3 rfl rfl rfl rfl rfl rfl rfl ⟨rfl, rfl, rfl, rfl, rfl⟩ rfl rfl rfl rfl rfl (by kernel_rfl) Tryz.func3 (by kernel_rfl)
    (of_decide_eq_true (by kernel_rfl)) (by unfold Func.isWrapper; first | (rw [if_pos (by decide +kernel)]; kernel_rfl) | (rw [if_neg (by decide +kernel)]; exact ⟨rfl, rfl⟩))
    (fun os started H enc _ => lifted os started H enc)
#print axioms proved
end Go.Proofs.YtndnfhhdflmfcaaGreat.lawCut
