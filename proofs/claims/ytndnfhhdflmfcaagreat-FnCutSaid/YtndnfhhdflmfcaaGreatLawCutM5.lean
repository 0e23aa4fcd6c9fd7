/-
Part 5 of 8 of the proof of the law FnCut: it returns true for all codes. No condition.
-/
import Derived.Test.YtndnfhhdflmfcaaGreatLawCutM4
import Derived.Deep.Cut
import Derived.Deep.CutBlock
import Derived.Deep.DeepCutAuto

/-
impl.player.happen: a strike.
-/
namespace Go.Proofs.YtndnfhhdflmfcaaGreat
open Go Go.RowKit Ieee

/-- The boxes of happen's parameters. -/
structure HIn (w : World) (P pb eb : Nat) (e : Ev) : Prop where
  bp : w.heap[pb]? = some (.cells #[.pointer (some ⟨P, 0, none⟩)] 47 (0, 0))
  be : w.heap[eb]? = some (.cells #[.int .i64 e.1, .int .i64 e.2.1, .int .i64 e.2.2.1, .int .i64 e.2.2.2.1, .int .i64 e.2.2.2.2.1, .float .f32 e.2.2.2.2.2] 71 (0, 0))
section
variable {w w' : World} {P pb eb : Nat} {e : Ev}
theorem HIn.new (h : HIn w P pb eb e) (hb : Below w.heap.size w w') : HIn w' P pb eb e := ⟨(hb.block _ (lt_of_some h.bp)).trans h.bp, (hb.block _ (lt_of_some h.be)).trans h.be⟩
theorem HIn.drewN (h : HIn w P pb eb e) (n : Nat) : HIn (w.drewN n) P pb eb e := ⟨h.bp, h.be⟩
theorem HIn.alloc (h : HIn w P pb eb e) (o : Obj) : HIn (w.alloc o) P pb eb e := h.new ((Below.refl w.heap.size w).alloc (Nat.le_refl _) o)
theorem HIn.grown {r : Option Nat} (h : HIn w P pb eb e) (hg : w.grownBy w' r) (hr : ∀ k, r = some k → ∃ cs t f, w.heap[k]? = some (.cells cs t f) ∧ 47 ≠ t ∧ 71 ≠ t) : HIn w' P pb eb e := by
  refine ⟨(hg.block _ (lt_of_some h.bp) (fun q => ?_)).trans h.bp, (hg.block _ (lt_of_some h.be) (fun q => ?_)).trans h.be⟩
  · obtain ⟨cs, t, f, h1, h2, _⟩ := hr _ q.symm
    exact ty_ne h.bp h1 h2 rfl
  · obtain ⟨cs, t, f, h1, _, h2⟩ := hr _ q.symm
    exact ty_ne h.be h1 h2 rfl
theorem HIn.setP (h : HIn w P pb eb e) {cs : Array Value} {f : Nat × Nat} (hP : w.heap[P]? = some (.cells cs 53 f)) (i : Nat) (v : Value) : HIn (w.setCell ⟨P, i, none⟩ v) P pb eb e :=
  h.grown (grown_set _ _) fun k q => by
    injection q with q
    subst q
    exact ⟨cs, _, f, hP, by decide, by decide⟩
end
def bmOf (bs : List Bd) (i : Int) : List MW := (bodAt bs i.toNat).2.2
/-- What happen does. -/
def HapP (w0 : World) (P : Nat) (c : Pc) (done now : Nat) (ms : List Vm) (begun : Int) (e : Ev) (r : Ending) (w' : World) : Prop :=
  r = .returned (.tuple #[]) ∧ ∃ vV' vT' ms' b', PlIn w0 w' w0.heap.size P c done now vV' vT' ms' b' ∧ (⟨ms'.map Vm.v, b'⟩ : Pl) = (⟨ms.map Vm.v, begun⟩ : Pl).happen (bmOf c.bs) c.s.2.1 e
theorem keepF_zero (L : List Vm) : keepF (fun i => i == 0) 0 L = L.drop 1 := by
  cases L with
  | nil => rfl
  | cons m L =>
    have key : ∀ (L : List Vm) (i : Nat), 0 < i → keepF (fun i => i == 0) i L = L := by
      intro L
      induction L with
      | nil => intro i _; rfl
      | cons x L ih =>
        intro i hi
        simp only [keepF]
        rw [if_neg (by simp; omega), ih (i + 1) (by omega)]
    simp only [keepF]
    rw [key L 1 (by omega)]
    simp
set_option maxHeartbeats 400000 in
theorem isFirst_any (i : Nat) (W : World) (hi : i ≤ 100) : Calls Tryz.prog 112 #[.int .i64 i] W fun e w' => e = .returned (.bool (i == 0)) ∧ ∃ n, W.drewN n = w' := by
  by_cases h : i = 0
  · subst h
    go_enter Tryz.func112, Tryz.ntmps112
    go_wp2_with fail
    go_ret
    exact ⟨rfl, 0, rfl⟩
  · have h1 : ((i : Int) == 0) = false := by simp; omega
    have h2 : (i == 0) = false := by simp; omega
    have H2 := Lib.hid h2
    clear h2
    go_enter Tryz.func112, Tryz.ntmps112
    go_wp2_with fail
    go_ret
    exact ⟨by rw [H2.out]; rfl, 0, rfl⟩

/-- A new voice. -/
theorem new_voice {W : World} {base lo hi g n1 : Nat} {MB IA : Option Addr} {mcb ic kn n f : Nat} {mds : List MW} {ys : List Nat} {e : Ev} {begun : Int} {F : Nat → Value} {fb : Nat → Prop} (h1 : OwnM W lo hi MB mcb mds) (h2 : base ≤ lo) (h3 : W.rowIs g 85 mds.length F) (h4 : base ≤ g ∧ hi ≤ g ∧ (∀ i, F i = .complex .f32 0 0))
    (h5 : W.ownsRow n1 23 1 (.slice IA ys.length ic) ys.length (f32s ys)) (h6 : base ≤ n1) (h7 : ys = forcedW kn n f) (h8 : 0 < n ∧ kn = e.2.2.2.1.toNat ∧ n = e.2.2.2.2.1.toNat ∧ f = e.2.2.2.2.2) (h9 : ∀ b, fb b → b < n1) : VmIn W base fb ⟨Vp.new mds e begun, MB, mcb, g, IA, ic⟩ := by
  obtain ⟨h4, h4', h4''⟩ := h4
  obtain ⟨h8, rfl, rfl, rfl⟩ := h8
  subst h7
  have hl := forcedW_len e.2.2.2.1.toNat e.2.2.2.2.1.toNat e.2.2.2.2.2
  refine ⟨owns_lower h1.1 h2, fun k q => Nat.lt_of_lt_of_le (h1.2 k q) h4', h3.congr fun i hi' => ?_, h4, RdT.of h5 h6 h9, ?_⟩
  · have hi'' : i < mds.length := hi'
    rw [h4'']
    simp [Vp.new, sAt, List.getD, hi'', sV]
  · rcases h5.2 with ⟨_, q⟩ | ⟨G, cap, cur, q, _, _, q4, q5, _⟩
    · rw [hl] at q; omega
    · injection q with _ _ q3
      show (forcedW _ _ _).length ≤ ic ∧ ic ≤ maxLen
      subst q3
      exact ⟨q4, q5⟩
/-- What the walk of a strike carries. -/
structure SIn (w0 w : World) (P pb eb : Nat) (c : Pc) (done now : Nat) (ms : List Vm) (begun : Int) (e : Ev) (vV vT : Value) : Prop where
  pl : PlIn w0 w w0.heap.size P c done now vV vT ms begun
  hi : HIn w P pb eb e
theorem SIn.new {w0 w w' : World} {P pb eb : Nat} {c : Pc} {done now : Nat} {ms : List Vm} {begun : Int} {e : Ev} {vV vT : Value} (h : SIn w0 w P pb eb c done now ms begun e vV vT) (hb : Below w.heap.size w w') : SIn w0 w' P pb eb c done now ms begun e vV vT := ⟨h.pl.new hb, h.hi.new hb⟩

set_option maxRecDepth 100000 in
set_option maxHeartbeats 6400000 in
theorem strike_any {w0 w : World} {P done now t : Nat} {c : Pc} {vV vT : Value} {ms : List Vm} {begun L : Int} {lo : Nat} (e : Ev) (h : PlIn w0 w w0.heap.size P c done now vV vT ms begun) (hbods : BodsIn w0 lo w0.heap.size c.B c.bs) (hbo : BodsOk c.bs 4 3) (he : EvOk L c.bs.length e) (hk : e.2.1 = 1)
    (hv1 : 1 ≤ c.s.2.1) (hv2 : c.s.2.1 ≤ 8) (hms : (ms.length : Int) ≤ c.s.2.1) (hb0 : 0 ≤ begun) (hb1 : begun ≤ 100) :
    Calls Tryz.prog 97 #[.pointer (some ⟨P, 0, none⟩), .agg #[.int .i64 e.1, .int .i64 e.2.1, .int .i64 e.2.2.1, .int .i64 e.2.2.2.1, .int .i64 e.2.2.2.2.1, .float .f32 e.2.2.2.2.2]] w (HapP w0 P c done now ms begun e) := by
  obtain ⟨at', kd, bo, sh, co, fo'⟩ := e
  simp only at hk
  subst hk
  have hW := Lib.hid (SIn.mk (h.alloc (.cells #[.pointer (some ⟨P, 0, none⟩)] 47) |>.alloc (.cells #[.int .i64 at', .int .i64 1, .int .i64 bo, .int .i64 sh, .int .i64 co, .float .f32 fo'] 71))
    (pb := w.heap.size) (eb := w.heap.size + 1) (e := (at', 1, bo, sh, co, fo')) ⟨(Below.heap_alloc _ _ _ (by simp)).trans (heap_alloc_new w _), by
      have := heap_alloc_new (w.alloc (.cells #[.pointer (some ⟨P, 0, none⟩)] 47)) (.cells #[.int .i64 at', .int .i64 1, .int .i64 bo, .int .i64 sh, .int .i64 co, .float .f32 fo'] 71)
      rwa [show (w.alloc (.cells #[.pointer (some ⟨P, 0, none⟩)] 47)).heap.size = w.heap.size + 1 by simp] at this⟩)
  have HB := Lib.hid hbods
  have HBo := Lib.hid hbo
  have HE := Lib.hid he
  clear h hbods hbo he
  go_enter Tryz.func97, Tryz.ntmps97
  go_wp2_with fail
  generalize (w.alloc (.cells #[.pointer (some ⟨P, 0, none⟩)] 47)).alloc (.cells #[.int .i64 at', .int .i64 1, .int .i64 bo, .int .i64 sh, .int .i64 co, .float .f32 fo'] 71) = W at *
  generalize w.heap.size + 1 = eb at *
  generalize w.heap.size = pb at *
  obtain ⟨VA, vc, rfl⟩ := owns_form hW.out.pl.vrow
  have c0 := cell_of_row W pb 0 _ _ (0, 0) hW.out.hi.bp
  have cP := pl_cells hW.out.pl.box
  have c9 := cP.2.2.2.2.2.2.2.2.2.1
  have c1 := cP.2.1
  clear cP
  go_quiet (fail)
  have hW1 := Lib.hid (hW.out.new (below_drewN (Below.refl _ _) nq))
  clear c0 c1 c9 hW
  go_upto_if 24 with fail
  go_cut [] from 14 (fun wx => ∃ vV' vT' ms', Hid (SIn w0 wx P pb eb c done now ms' begun (at', 1, bo, sh, co, fo') vV' vT') ∧ Hid (ms' = if c.s.2.1 ≤ (ms.length : Int) then ms.drop 1 else ms))
  case first =>
    have c0 := cell_of_row _ pb 0 _ _ (0, 0) hW1.out.hi.bp
    by_cases hfull : c.s.2.1 ≤ (ms.length : Int)
    · have hd : decide (c.s.2.1 ≤ (ms.length : Int)) = true := by simpa using hfull
      have HF : Hid ((if c.s.2.1 ≤ (ms.length : Int) then ms.drop 1 else ms) = ms.drop 1) := Lib.hid (if_pos hfull)
      go_wp2_with fail
      refine (remove1_any (fun i => i == 0) _ hW1.out.pl (by omega) (fun i hi W' _ => isFirst_any i W' (by omega))).mono ?_
      rintro r W2 ⟨rfl, vV', vT', hp, hg⟩
      rw [keepF_zero] at hp
      have HS : Hid (SIn w0 W2 P pb eb c done now (ms.drop 1) begun (at', 1, bo, sh, co, fo') vV' vT') := ⟨hp, hW1.out.hi.grown hg fun k q => by
        injection q with q
        subst q
        exact ⟨_, _, _, hW1.out.pl.box, by decide, by decide⟩⟩
      clear hp hg c0
      go_wp2_with fail
      go_meet
      case rel => exact ⟨_, _, _, HS, Lib.hid HF.out.symm⟩
    · have hd : decide (c.s.2.1 ≤ (ms.length : Int)) = false := by simpa using hfull
      have HF : Hid ((if c.s.2.1 ≤ (ms.length : Int) then ms.drop 1 else ms) = ms) := Lib.hid (if_neg hfull)
      go_wp2_with fail
      go_meet
      case rel => exact ⟨_, _, ms, hW1, Lib.hid HF.out.symm⟩
  case rest =>
    clear hW1
    obtain ⟨vV2, vT2, ms', HS, HM⟩ := hcut
    have hml : ms'.length ≤ 8 := by
      rw [HM.out]
      split
      · simp; omega
      · omega
    have hsh : (0 ≤ sh ∧ sh < 3) ∧ 1 ≤ co ∧ co ≤ 9 := by
      rcases HE.out.kind with ⟨_, h⟩ | ⟨h, _⟩ | ⟨h, _⟩
      · exact h
      · exact absurd h (by simp)
      · exact absurd h (by simp)
    obtain ⟨kn, rfl⟩ : ∃ k : Nat, sh = k := ⟨sh.toNat, by omega⟩
    obtain ⟨n, rfl⟩ : ∃ k : Nat, co = k := ⟨co.toNat, by omega⟩
    have e3 := cell_of_row _ eb 3 _ _ (0, 0) HS.out.hi.be
    have e4 := cell_of_row _ eb 4 _ _ (0, 0) HS.out.hi.be
    go_wp2_with fail
    refine (shape_any kn n _ (by omega) (by omega)).mono ?_
    rintro r W3 ⟨ts, rfl, hrow, hts, hb3⟩
    have HS3 := Lib.hid (HS.out.new hb3)
    obtain rfl := hts.1
    have HTS := Lib.hid hts
    have HRow : Hid (Rd W3 (some ⟨wc.heap.size, 0, none⟩) (f32s ts)) := Lib.hid (rowIs_rd hrow rfl)
    clear hrow hts hb3 HS e3 e4
    go_wp2_with fail
    have hbo0 : 0 ≤ bo := HE.out.b0
    have hbo1 : bo < (c.bs.length : Int) := HE.out.b1
    obtain ⟨bi, rfl⟩ : ∃ k : Nat, bo = k := ⟨bo.toNat, by omega⟩
    have hbi : bi < c.bs.length := by omega
    have hbl := HBo.out.1
    have HBW := Lib.hid (HB.out.below HS3.out.pl.bel)
    obtain ⟨bb, off, hBA, hbb, hbc⟩ := HBW.out.rd (by simp; omega)
    have hb6 := hbc bi (bodV (bodAt c.bs bi)) (by simp [bodAt, List.getD, List.getElem?_eq_getElem hbi])
    have HOM := Lib.hid (HBW.out.row bi hbi)
    have HMS := Lib.hid (HBo.out.2 bi hbi)
    have HBM : Hid (bmOf c.bs (bi : Int) = (bodAt c.bs bi).2.2) := rfl
    unfold bodV at hb6
    generalize bodAt c.bs bi = bd at *
    obtain ⟨MA, mc, mds⟩ := bd
    have hml4 : mds.length ≤ 4 := HMS.out.2
    have p4 := (pl_cells HS3.out.pl.box).2.2.2.2.1
    rw [hBA] at p4
    have HH : Hid (c.s.2.1 = c.s.2.1) := rfl
    have j1 : (bi : Int) < (c.bs.length : Int) := by omega
    have HC : Hid (∀ W', Below W3.heap.size W3 W' → W'.cell? ⟨pb, 0, none⟩ = some (.pointer (some ⟨P, 0, none⟩)) ∧ W'.cell? ⟨P, 4, none⟩ = some (.slice (some ⟨bb, off, none⟩) c.bs.length c.cb) ∧ W'.cell? ⟨eb, 2, none⟩ = some (.int .i64 bi) ∧ W'.cell? ⟨bb, off + bi, none⟩ = some (.slice MA mds.length mc)) := fun W' hb =>
      ⟨cell_of_row _ pb 0 _ _ (0, 0) (HS3.out.new hb).hi.bp, (World.cell?_of_block (hb.block _ (lt_of_some HS3.out.pl.box))).trans p4, cell_of_row _ eb 2 _ _ (0, 0) (HS3.out.new hb).hi.be, (World.cell?_of_block (hb.block _ hbb)).trans hb6⟩
    clear hbc hb6 p4 hbo0 hbo1
    refine wp_region_held_drew (S := fun w' => w'.cell? ⟨pb, 0, none⟩ = some (.pointer (some ⟨P, 0, none⟩)) ∧ w'.cell? ⟨P, 4, none⟩ = some (.slice (some ⟨bb, off, none⟩) c.bs.length c.cb) ∧ w'.cell? ⟨eb, 2, none⟩ = some (.int .i64 bi) ∧ w'.cell? ⟨bb, off + bi, none⟩ = some (.slice MA mds.length mc)) (by kernel_rfl) (HC.out W3 (Below.refl _ _)) (fun hHeld => ?_)
    refine wpAnyH_take (i := 0) (oi := _) (v := ?_) rfl (by kernel_rfl) (by kernel_rfl) (by kernel_rfl) (fun _ _ _ h => h) (Or.inl ⟨by rfl, ?_⟩) (by assumption) ?_
    rotate_left
    · (intro w hSw; (try dsimp only at hSw); go_simp; try (with_reducible rfl))
    (try simp only [Act.put, List.setIfInBounds_toArray, List.set_cons_zero, List.set_cons_succ, List.getElem_toArray, List.getElem_cons_succ, List.getElem_cons_zero])
    refine wpAnyH_take (i := 1) (oi := _) (v := ?_) rfl (by kernel_rfl) (by kernel_rfl) (by kernel_rfl) (fun _ _ _ h => h) (Or.inl ⟨by rfl, ?_⟩) (by assumption) ?_
    rotate_left
    · (intro w hSw; (try dsimp only at hSw); go_simp; try (with_reducible rfl))
    (try simp only [Act.put, List.setIfInBounds_toArray, List.set_cons_zero, List.set_cons_succ, List.getElem_toArray, List.getElem_cons_succ, List.getElem_cons_zero])
    refine wpAnyH_take (i := 2) (oi := _) (v := ?_) rfl (by kernel_rfl) (by kernel_rfl) (by kernel_rfl) (fun _ _ _ h => h) (Or.inl ⟨by rfl, ?_⟩) (by assumption) ?_
    rotate_left
    · (intro w hSw; (try dsimp only at hSw); go_simp; try (with_reducible rfl))
    (try simp only [Act.put, List.setIfInBounds_toArray, List.set_cons_zero, List.set_cons_succ, List.getElem_toArray, List.getElem_cons_succ, List.getElem_cons_zero])
    refine wpAnyH_take (i := 3) (oi := _) (v := ?_) rfl (by kernel_rfl) (by kernel_rfl) (by kernel_rfl) (fun _ _ _ h => h) (Or.inl ⟨by rfl, ?_⟩) (by assumption) ?_
    rotate_left
    · (intro w hSw; (try dsimp only at hSw); go_simp; try (with_reducible rfl))
    (try simp only [Act.put, List.setIfInBounds_toArray, List.set_cons_zero, List.set_cons_succ, List.getElem_toArray, List.getElem_cons_succ, List.getElem_cons_zero])
    refine wpAnyH_take (i := 4) (oi := _) (v := ?_) rfl (by kernel_rfl) (by kernel_rfl) (by kernel_rfl) (fun _ _ _ h => h) (Or.inl ⟨by rfl, ?_⟩) (by assumption) ?_
    rotate_left
    · (intro w hSw; (try dsimp only at hSw); go_simp; try (with_reducible rfl))
    (try simp only [Act.put, List.setIfInBounds_toArray, List.set_cons_zero, List.set_cons_succ, List.getElem_toArray, List.getElem_cons_succ, List.getElem_cons_zero])
    refine wpAnyH_take (i := 5) (oi := _) (v := ?_) rfl (by kernel_rfl) (by kernel_rfl) (by kernel_rfl) (fun _ _ _ h => h) (Or.inl ⟨by rfl, ?_⟩) (by assumption) ?_
    rotate_left
    · (intro w hSw; (try dsimp only at hSw); go_simp; try (with_reducible rfl))
    (try simp only [Act.put, List.setIfInBounds_toArray, List.set_cons_zero, List.set_cons_succ, List.getElem_toArray, List.getElem_cons_succ, List.getElem_cons_zero])
    refine wpAnyH_take (i := 6) (oi := _) (v := ?_) rfl (by kernel_rfl) (by kernel_rfl) (by kernel_rfl) (fun _ _ _ h => h) (Or.inl ⟨by rfl, ?_⟩) (by assumption) ?_
    rotate_left
    · (intro w hSw; (try dsimp only at hSw); go_simp; try (with_reducible rfl))
    (try simp only [Act.put, List.setIfInBounds_toArray, List.set_cons_zero, List.set_cons_succ, List.getElem_toArray, List.getElem_cons_succ, List.getElem_cons_zero])
    refine wpAnyH_take (i := 7) (oi := _) (v := ?_) rfl (by kernel_rfl) (by kernel_rfl) (by kernel_rfl) (fun _ _ _ h => h) (Or.inl ⟨by rfl, ?_⟩) (by assumption) ?_
    rotate_left
    · (intro w hSw; (try dsimp only at hSw); go_simp; try (with_reducible rfl))
    (try simp only [Act.put, List.setIfInBounds_toArray, List.set_cons_zero, List.set_cons_succ, List.getElem_toArray, List.getElem_cons_succ, List.getElem_cons_zero])
    refine wpAnyH_take (i := 8) (oi := _) (v := ?_) rfl (by kernel_rfl) (by kernel_rfl) (by kernel_rfl) (fun _ _ _ h => h) (Or.inl ⟨by rfl, ?_⟩) (by assumption) ?_
    rotate_left
    · (intro w hSw; (try dsimp only at hSw); go_simp; try (with_reducible rfl))
    (try simp only [Act.put, List.setIfInBounds_toArray, List.set_cons_zero, List.set_cons_succ, List.getElem_toArray, List.getElem_cons_succ, List.getElem_cons_zero])
    refine wpAnyH_take (i := 9) (oi := _) (v := ?_) rfl (by kernel_rfl) (by kernel_rfl) (by kernel_rfl) (fun _ _ _ h => h) (Or.inl ⟨by rfl, ?_⟩) (by assumption) ?_
    rotate_left
    · (intro w hSw; (try dsimp only at hSw); go_simp; try (with_reducible rfl))
    (try simp only [Act.put, List.setIfInBounds_toArray, List.set_cons_zero, List.set_cons_succ, List.getElem_toArray, List.getElem_cons_succ, List.getElem_cons_zero])
    refine wpAnyH_ready (rs := [10]) (by kernel_rfl) (by simp) ?_
    refine AllReadyH.cons (o := _) rfl (fun K hK => ?_) AllReadyH.nil
    go_simp
    refine (clone_any MA mc _ _ mds (W3.drewN 1) HOM.out (by omega)).mono ?_
    intro r W4 hp
    unfold CloneP at hp
    obtain ⟨MB, mcb, rfl, hoB, hbB⟩ := hp
    have HB4 := Lib.hid (below_of_drew hbB)
    have HO4 := Lib.hid hoB
    clear hoB hbB
    go_wp2_with fail
    refine hK.out _ _ ?_ (fun hHeldN => ?_)
    · exact HC.out W4 HB4.out
    clear hHeld hK K
    have hHeld := hHeldN
    clear hHeldN
    (try simp only [Act.put, List.setIfInBounds_toArray, List.set_cons_zero, List.set_cons_succ, List.getElem_toArray, List.getElem_cons_succ, List.getElem_cons_zero])
    refine wpAnyH_take (i := 11) (oi := _) (v := ?_) rfl (by kernel_rfl) (by kernel_rfl) (by kernel_rfl) (fun _ _ _ h => h) (Or.inl ⟨by rfl, ?_⟩) (by assumption) ?_
    rotate_left
    · (intro w hSw; (try dsimp only at hSw); go_simp; try (with_reducible rfl))
    (try simp only [Act.put, List.setIfInBounds_toArray, List.set_cons_zero, List.set_cons_succ, List.getElem_toArray, List.getElem_cons_succ, List.getElem_cons_zero])
    refine wpAnyH_done (by kernel_rfl) ?_ _
    (try simp only [List.getElem_toArray, List.getElem_cons_succ, List.getElem_cons_zero, Act.put, List.setIfInBounds_toArray, List.set_cons_zero, List.set_cons_succ])
    have HS4 := Lib.hid (HS3.out.new HB4.out)
    have HRow4 := Lib.hid (HRow.out.below HB4.out)
    have HAP : Hid (∀ a ∈ ms', (∀ k, a.mod.ownBlock = some k → k < W3.heap.size) ∧ a.S < W3.heap.size) := Lib.hid (fun a ha => ⟨fun k q => ((HS3.out.pl.vo a ha).mod.lt k q).2, (HS3.out.pl.vo a ha).sts.lt⟩)
    have hz34 : W3.heap.size ≤ W4.heap.size := HB4.out.size
    have hz03 : w0.heap.size ≤ W3.heap.size := HS3.out.pl.bel.size
    clear HC HBW hBA hbb HRow HOM HS3
    go_wp2_with fail
    obtain ⟨VA2, vc2, rfl⟩ := owns_form HS4.out.pl.vrow
    have hmk := fun W => run_make_row' (P := Tryz.prog) 57 85 (.complex .f32 0 0) 8 Tryz.underlying57 c64_info rfl .i64 .i64 mds.length (by omega) (by omega) W
    have HC : Hid (∀ W' cs, HIn W' P pb eb (at', 1, bi, kn, ts.length, fo') → W'.heap[P]? = some (.cells (plC c done now (.slice VA2 ms'.length vc2) cs begun) 53 (0, 0)) → W'.cell? ⟨pb, 0, none⟩ = some (.pointer (some ⟨P, 0, none⟩)) ∧ W'.cell? ⟨P, 9, none⟩ = some (.slice VA2 ms'.length vc2) ∧ W'.cell? ⟨eb, 2, none⟩ = some (.int .i64 bi) ∧ W'.cell? ⟨eb, 5, none⟩ = some (.float .f32 fo')) := Lib.hid (fun W' cs hb hx =>
      ⟨cell_of_row _ pb 0 _ _ (0, 0) hb.bp, (pl_cells hx).2.2.2.2.2.2.2.2.2.1, cell_of_row _ eb 2 _ _ (0, 0) hb.be, cell_of_row _ eb 5 _ _ (0, 0) hb.be⟩)
    have HS5 : Hid (SIn w0 W4.drew P pb eb c done now ms' begun (at', 1, bi, kn, ts.length, fo') (.slice VA2 ms'.length vc2) vT2) := HS4.out.new (below_drewN (Below.refl _ _) 1)
    have HO5 : Hid (OwnM W4.drew (W3.drewN 1).heap.size W4.drew.heap.size MB mcb mds) := HO4
    have HRow5 : Hid (Rd W4.drew (some ⟨wc.heap.size, 0, none⟩) (f32s ts)) := HRow4
    have hz5 : W3.heap.size ≤ W4.drew.heap.size := hz34
    have HMB : Hid (∀ k, (Value.slice MB mds.length mcb).ownBlock = some k → W3.heap.size ≤ k) := Lib.hid (fun k q => (HO4.out.1.lt k q).1)
    refine wp_region_last (fun w' => w'.cell? ⟨pb, 0, none⟩ = some (.pointer (some ⟨P, 0, none⟩)) ∧ w'.cell? ⟨P, 9, none⟩ = some (.slice VA2 ms'.length vc2) ∧ w'.cell? ⟨eb, 2, none⟩ = some (.int .i64 bi) ∧ w'.cell? ⟨eb, 5, none⟩ = some (.float .f32 fo')) 20 (by kernel_rfl) (HC.out _ _ HS5.out.hi HS5.out.pl.box) (fun hHeld => ?_)
    clear HS4 HO4 HRow4 hz34
    generalize W4.drew = W5 at *
    refine wpAnyX_take [0, 18, 19, 20] (i := 0) (oi := _) (v := ?_) rfl (by kernel_rfl) (by kernel_rfl) (by kernel_rfl) (by kernel_rfl) (fun _ _ _ h => h) (Or.inl ⟨by rfl, ?_⟩) (by assumption) ?_
    rotate_left
    · (intro w hSw; (try dsimp only at hSw); go_simp; try (with_reducible rfl))
    (try simp only [Act.put, List.setIfInBounds_toArray, List.set_cons_zero, List.set_cons_succ, List.getElem_toArray, List.getElem_cons_succ, List.getElem_cons_zero])
    refine wpAnyX_take [1, 2, 3, 4, 17, 20] (i := 1) (oi := _) (v := ?_) rfl (by kernel_rfl) (by kernel_rfl) (by kernel_rfl) (by kernel_rfl) (fun _ _ _ h => h) (Or.inl ⟨by rfl, ?_⟩) (by assumption) ?_
    rotate_left
    · (intro w hSw; (try dsimp only at hSw); go_simp; try (with_reducible rfl))
    (try simp only [Act.put, List.setIfInBounds_toArray, List.set_cons_zero, List.set_cons_succ, List.getElem_toArray, List.getElem_cons_succ, List.getElem_cons_zero])
    refine wpAnyX_take [2, 3, 4, 17, 20] (i := 2) (oi := _) (v := ?_) rfl (by kernel_rfl) (by kernel_rfl) (by kernel_rfl) (by kernel_rfl) (fun _ _ _ h => h) (Or.inl ⟨by rfl, ?_⟩) (by assumption) ?_
    rotate_left
    · (intro w hSw; (try dsimp only at hSw); go_simp; try (with_reducible rfl))
    (try simp only [Act.put, List.setIfInBounds_toArray, List.set_cons_zero, List.set_cons_succ, List.getElem_toArray, List.getElem_cons_succ, List.getElem_cons_zero])
    refine wpAnyX_take [3, 4, 17, 20] (i := 3) (oi := _) (v := ?_) rfl (by kernel_rfl) (by kernel_rfl) (by kernel_rfl) (by kernel_rfl) (fun _ _ _ h => h) (Or.inl ⟨by rfl, ?_⟩) (by assumption) ?_
    rotate_left
    · (intro w hSw; (try dsimp only at hSw); go_simp; try (with_reducible rfl))
    (try simp only [Act.put, List.setIfInBounds_toArray, List.set_cons_zero, List.set_cons_succ, List.getElem_toArray, List.getElem_cons_succ, List.getElem_cons_zero])
    refine wpAnyX_take [4, 17, 20] (i := 4) (oi := _) (v := ?_) rfl (by kernel_rfl) (by kernel_rfl) (by kernel_rfl) (by kernel_rfl) (fun _ _ _ h => h) (Or.inl ⟨by rfl, ?_⟩) (by assumption) ?_
    rotate_left
    · (intro w hSw; (try dsimp only at hSw); go_simp; try (with_reducible rfl))
    (try simp only [Act.put, List.setIfInBounds_toArray, List.set_cons_zero, List.set_cons_succ, List.getElem_toArray, List.getElem_cons_succ, List.getElem_cons_zero])
    refine wpAnyX_take [5, 6, 15, 16, 17, 20] (i := 5) (oi := _) (v := ?_) rfl (by kernel_rfl) (by kernel_rfl) (by kernel_rfl) (by kernel_rfl) (fun _ _ _ h => h) (Or.inl ⟨by rfl, ?_⟩) (by assumption) ?_
    rotate_left
    · (intro w hSw; (try dsimp only at hSw); go_simp; try (with_reducible rfl))
    (try simp only [Act.put, List.setIfInBounds_toArray, List.set_cons_zero, List.set_cons_succ, List.getElem_toArray, List.getElem_cons_succ, List.getElem_cons_zero])
    refine wpAnyX_take [6, 15, 16, 17, 20] (i := 6) (oi := _) (v := ?_) rfl (by kernel_rfl) (by kernel_rfl) (by kernel_rfl) (by kernel_rfl) (fun _ _ _ h => h) (Or.inl ⟨by rfl, ?_⟩) (by assumption) ?_
    rotate_left
    · (intro w hSw; (try dsimp only at hSw); go_simp; try (with_reducible rfl))
    (try simp only [Act.put, List.setIfInBounds_toArray, List.set_cons_zero, List.set_cons_succ, List.getElem_toArray, List.getElem_cons_succ, List.getElem_cons_zero])
    refine wpAnyX_take [7, 15, 16, 17, 20] (i := 7) (oi := _) (v := ?_) rfl (by kernel_rfl) (by kernel_rfl) (by kernel_rfl) (by kernel_rfl) (fun _ _ _ h => h) (Or.inl ⟨by rfl, ?_⟩) (by assumption) ?_
    rotate_left
    · (intro w hSw; (try dsimp only at hSw); go_simp; try (with_reducible rfl))
    (try simp only [Act.put, List.setIfInBounds_toArray, List.set_cons_zero, List.set_cons_succ, List.getElem_toArray, List.getElem_cons_succ, List.getElem_cons_zero])
    refine wpAnyX_take [8, 9, 10, 15, 16, 17, 20] (i := 8) (oi := _) (v := ?_) rfl (by kernel_rfl) (by kernel_rfl) (by kernel_rfl) (by kernel_rfl) (fun _ _ _ h => h) (Or.inl ⟨by rfl, ?_⟩) (by assumption) ?_
    rotate_left
    · (intro w hSw; (try dsimp only at hSw); go_simp; try (with_reducible rfl))
    (try simp only [Act.put, List.setIfInBounds_toArray, List.set_cons_zero, List.set_cons_succ, List.getElem_toArray, List.getElem_cons_succ, List.getElem_cons_zero])
    refine wpAnyX_take [9, 10, 15, 16, 17, 20] (i := 9) (oi := _) (v := ?_) rfl (by kernel_rfl) (by kernel_rfl) (by kernel_rfl) (by kernel_rfl) (fun _ _ _ h => h) (Or.inl ⟨by rfl, ?_⟩) (by assumption) ?_
    rotate_left
    · (intro w hSw; (try dsimp only at hSw); go_simp; try (with_reducible rfl))
    (try simp only [Act.put, List.setIfInBounds_toArray, List.set_cons_zero, List.set_cons_succ, List.getElem_toArray, List.getElem_cons_succ, List.getElem_cons_zero])
    refine wpAnyX_take [11, 14, 15, 16, 17, 20] (i := 11) (oi := _) (v := ?_) rfl (by kernel_rfl) (by kernel_rfl) (by kernel_rfl) (by kernel_rfl) (fun _ _ _ h => h) (Or.inl ⟨by rfl, ?_⟩) (by assumption) ?_
    rotate_left
    · (intro w hSw; (try dsimp only at hSw); go_simp; try (with_reducible rfl))
    (try simp only [Act.put, List.setIfInBounds_toArray, List.set_cons_zero, List.set_cons_succ, List.getElem_toArray, List.getElem_cons_succ, List.getElem_cons_zero])
    refine wpAnyX_take [12, 13, 14, 15, 16, 17, 20] (i := 12) (oi := _) (v := ?_) rfl (by kernel_rfl) (by kernel_rfl) (by kernel_rfl) (by kernel_rfl) (fun _ _ _ h => h) (Or.inl ⟨by rfl, ?_⟩) (by assumption) ?_
    rotate_left
    · (intro w hSw; (try dsimp only at hSw); go_simp; try (with_reducible rfl))
    (try simp only [Act.put, List.setIfInBounds_toArray, List.set_cons_zero, List.set_cons_succ, List.getElem_toArray, List.getElem_cons_succ, List.getElem_cons_zero])
    refine wpAnyX_take [13, 14, 15, 16, 17, 20] (i := 13) (oi := _) (v := ?_) rfl (by kernel_rfl) (by kernel_rfl) (by kernel_rfl) (by kernel_rfl) (fun _ _ _ h => h) (Or.inl ⟨by rfl, ?_⟩) (by assumption) ?_
    rotate_left
    · (intro w hSw; (try dsimp only at hSw); go_simp; try (with_reducible rfl))
    (try simp only [Act.put, List.setIfInBounds_toArray, List.set_cons_zero, List.set_cons_succ, List.getElem_toArray, List.getElem_cons_succ, List.getElem_cons_zero])
    refine wpAnyX_ready2 (i := 10) (j := 14) (by kernel_rfl) rfl rfl (fun K hK => ?_) (fun K hK => ?_)
    · go_simp
      have R5 := World.rowIs_made W5 (.complex .f32 0 0) mds.length 85
      have b5 : Below W5.heap.size W5 (W5.alloc (.cells (madeCells #[.complex .f32 0 0] mds.length) 85)) := (Below.refl W5.heap.size W5).alloc (Nat.le_refl _) _
      have HS6 := Lib.hid (HS5.out.new b5)
      have HRow6 := Lib.hid (HRow5.out.below b5)
      have HO6 := Lib.hid (HO5.out.below b5 (Nat.le_refl _))
      have HR6 := Lib.hid R5
      have hz6 := b5.size
      clear R5 b5 HS5 HRow5 HO5
      refine hK.out _ _ ?_ (fun hHeldN => ?_)
      · exact HC.out _ _ HS6.out.hi HS6.out.pl.box
      clear hHeld hK K
      have hHeld := hHeldN
      clear hHeldN
      (try simp only [Act.put, List.setIfInBounds_toArray, List.set_cons_zero, List.set_cons_succ, List.getElem_toArray, List.getElem_cons_succ, List.getElem_cons_zero])
      generalize W5.alloc (.cells (madeCells #[.complex .f32 0 0] mds.length) 85) = W6 at *
      refine wpAnyX_ready (i := 14) (o := _) (by kernel_rfl) rfl (fun K hK => ?_)
      go_simp
      refine (forced_any (some ⟨wc.heap.size, 0, none⟩) ts.length fo' ts W6 HRow6.out (by omega)).mono ?_
      rintro r W7 ⟨IA, ic, ys, rfl, hoy, hfy, hb7⟩
      have hys := forced_is (by omega) (by omega) (by omega) HE.out.f HE.out.big HTS.out hfy
      subst hys
      have HS7 := Lib.hid (HS6.out.new hb7)
      have HV : Hid (VmIn W7 w0.heap.size c.fb ⟨Vp.new mds (at', 1, bi, kn, ts.length, fo') begun, MB, mcb, W5.heap.size, IA, ic⟩) :=
        new_voice (HO6.out.below hb7 hz6) (by show w0.heap.size ≤ W3.heap.size; omega) (HR6.out.of_block (hb7.block _ HR6.out.lt)) ⟨by omega, Nat.le_refl _, fun _ => rfl⟩ hoy (by omega) rfl ⟨by omega, by simp, by simp, rfl⟩ (fun b hb => Nat.lt_of_lt_of_le (HS6.out.pl.fbs b hb) HS6.out.pl.kp.1)
      clear hoy hfy hb7 HS6 HRow6 HO6 HR6
      have hg3 : W3.heap.size ≤ W5.heap.size := hz5
      generalize W5.heap.size = g at *
      go_wp2_with fail
      refine hK.out _ _ ?_ (fun hHeldN => ?_)
      · exact HC.out _ _ HS7.out.hi HS7.out.pl.box
      clear hHeld hK K
      have hHeld := hHeldN
      clear hHeldN
      (try simp only [Act.put, List.setIfInBounds_toArray, List.set_cons_zero, List.set_cons_succ, List.getElem_toArray, List.getElem_cons_succ, List.getElem_cons_zero])
      obtain ⟨M, hM⟩ : ∃ M : Vm, M = ⟨Vp.new mds (at', 1, bi, kn, ts.length, fo') begun, MB, mcb, g, IA, ic⟩ := ⟨_, rfl⟩
      have hMv : voC M = [.int .i64 bi, .slice MB mds.length mcb, .slice (some ⟨g, 0, none⟩) mds.length mds.length, .slice IA (forcedW kn ts.length fo').length ic] := by rw [hM]; rfl
      have HMv := Lib.hid hMv
      have HMt : Hid (M.v.tr = begun) := Lib.hid (by rw [hM]; rfl)
      have HMn : Hid (M.v = Vp.new mds (at', 1, bi, kn, ts.length, fo') begun) := Lib.hid (by rw [hM])
      have HMa : Hid (∀ a ∈ ms', (∀ k, a.mod.ownBlock = some k → M.mod.ownBlock ≠ some k) ∧ a.S ≠ M.S) := Lib.hid (fun a ha => by
        obtain ⟨q1, q2⟩ := HAP.out a ha
        rw [hM]
        exact ⟨fun k e1 e2 => by have := q1 k e1; have := HMB.out k e2; omega, fun e => by have e' : a.S = g := e; omega⟩)
      rw [← hM] at HV
      clear hM hMv HAP HMB
      refine wpAnyX_take [15, 16, 17, 20] (i := 15) (oi := _) (v := ?_) rfl (by kernel_rfl) (by kernel_rfl) (by kernel_rfl) (by kernel_rfl) (fun _ _ _ h => h) (Or.inl ⟨by rfl, ?_⟩) (by assumption) ?_
      rotate_left
      · (intro w hSw; (try dsimp only at hSw); go_simp; try (with_reducible rfl))
      (try simp only [Act.put, List.setIfInBounds_toArray, List.set_cons_zero, List.set_cons_succ, List.getElem_toArray, List.getElem_cons_succ, List.getElem_cons_zero])
      refine wpAnyX_ready (i := 16) (o := _) (by kernel_rfl) rfl (fun K hK => ?_)
      go_simp
      have b8 : Below W7.heap.size W7 (W7.alloc (.cells #[.int .i64 bi, .slice MB mds.length mcb, .slice (some ⟨g, 0, none⟩) mds.length mds.length, .slice IA (forcedW kn ts.length fo').length ic] 59)) := (Below.refl W7.heap.size W7).alloc (Nat.le_refl _) _
      have HS8 := Lib.hid (HS7.out.new b8)
      have HV8 := Lib.hid (HV.out.new b8)
      have N8 := Lib.hid (heap_alloc_new W7 (.cells #[.int .i64 bi, .slice MB mds.length mcb, .slice (some ⟨g, 0, none⟩) mds.length mds.length, .slice IA (forcedW kn ts.length fo').length ic] 59))
      have Z8 : Hid ((W7.alloc (.cells #[.int .i64 bi, .slice MB mds.length mcb, .slice (some ⟨g, 0, none⟩) mds.length mds.length, .slice IA (forcedW kn ts.length fo').length ic] 59)).heap.size = W7.heap.size + 1) := Lib.hid (by show (W7.alloc _).heap.size = _; simp)
      clear b8 HS7 HV
      refine hK.out _ _ ?_ (fun hHeldN => ?_)
      · exact HC.out _ _ HS8.out.hi HS8.out.pl.box
      clear hHeld hK K
      have hHeld := hHeldN
      clear hHeldN
      (try simp only [Act.put, List.setIfInBounds_toArray, List.set_cons_zero, List.set_cons_succ, List.getElem_toArray, List.getElem_cons_succ, List.getElem_cons_zero])
      generalize W7.alloc (.cells #[.int .i64 bi, .slice MB mds.length mcb, .slice (some ⟨g, 0, none⟩) mds.length mds.length, .slice IA (forcedW kn ts.length fo').length ic] 59) = W8 at *
      have hz8 : w0.heap.size ≤ W8.heap.size := HS8.out.pl.bel.size
      obtain ⟨i0, hi0, hz0, hz1, hz2⟩ := info_parts voice_info
      refine wpAnyX_ready (i := 17) (o := _) (by kernel_rfl) rfl (fun K hK => ?_)
      refine step_append_lies _ (by rfl) (.tmp 50) (.tmp 62) 29 (by rfl) w0.heap.size 59 i0 _ 4 80 Tryz.underlying29 hi0 hz0 hz1 hz2 rfl (by omega) (.slice VA2 ms'.length vc2) ms'.length (flatV ms') (by rfl) HS8.out.pl.vrow ⟨W7.heap.size, 0, none⟩ 1 1 [.int .i64 bi, .slice MB mds.length mcb, .slice (some ⟨g, 0, none⟩) mds.length mds.length, .slice IA (forcedW kn ts.length fo').length ic] (by rfl) (by rfl) (World.news_of_block (t := 59) (fr := (0, 0)) N8.out) (by rw [← HMv.out]; exact voC_one M) (by omega) (by simp only [maxLen]; omega) (by omega) hz8 _ rfl ?_
      intro gg cap W9 hown9 hgrow9 hat9 hlt9
      rw [← HMv.out] at hown9
      have HP9 : Hid (W9.heap[P]? = some (.cells (plC c done now (.slice VA2 ms'.length vc2) vT2 begun) 53 (0, 0))) := Lib.hid ((HS8.out.pl.boxV hgrow9).trans HS8.out.pl.box)
      have HI9 : Hid (HIn W9 P pb eb (at', 1, bi, kn, ts.length, fo')) := Lib.hid (HS8.out.hi.grown hgrow9 fun k q => by
        obtain ⟨cs, hc⟩ := owns_ty HS8.out.pl.vrow q
        exact ⟨cs, _, _, hc, by decide, by decide⟩)
      have HG := Lib.hid (HS8.out.pl.addVoice HV8.out HMa.out hown9 hgrow9)
      have HI10 := Lib.hid (HI9.out.setP HP9.out 9 (.slice (some ⟨gg, 0, none⟩) (ms'.length + 1) cap))
      have f9 := free_cells HP9.out 9
      clear hown9 hgrow9 hat9 hlt9 HS8 HV8 N8 Z8 HMa
      refine hK.out _ _ ?_ (fun hHeldN => ?_)
      · exact HC.out _ _ HI9.out HP9.out
      clear hHeld hK K
      have hHeld := hHeldN
      clear hHeldN
      (try simp only [Act.put, List.setIfInBounds_toArray, List.set_cons_zero, List.set_cons_succ, List.getElem_toArray, List.getElem_cons_succ, List.getElem_cons_zero])
      refine wpAnyX_take [18, 19, 20] (i := 18) (oi := _) (v := ?_) rfl (by kernel_rfl) (by kernel_rfl) (by kernel_rfl) (by kernel_rfl) (fun _ _ _ h => h) (Or.inl ⟨by rfl, ?_⟩) (by assumption) ?_
      rotate_left
      · (intro w hSw; (try dsimp only at hSw); go_simp; try (with_reducible rfl))
      (try simp only [Act.put, List.setIfInBounds_toArray, List.set_cons_zero, List.set_cons_succ, List.getElem_toArray, List.getElem_cons_succ, List.getElem_cons_zero])
      refine wpAnyX_take [19, 20] (i := 19) (oi := _) (v := ?_) rfl (by kernel_rfl) (by kernel_rfl) (by kernel_rfl) (by kernel_rfl) (fun _ _ _ h => h) (Or.inl ⟨by rfl, ?_⟩) (by assumption) ?_
      rotate_left
      · (intro w hSw; (try dsimp only at hSw); go_simp; try (with_reducible rfl))
      (try simp only [Act.put, List.setIfInBounds_toArray, List.set_cons_zero, List.set_cons_succ, List.getElem_toArray, List.getElem_cons_succ, List.getElem_cons_zero])
      refine wpAnyX_last (o := _) (by kernel_rfl) rfl (fun K hK => ?_)
      go_simp
      refine hK.out _ _ ?_
      clear hK K
      (try simp only [Act.put, List.setIfInBounds_toArray, List.set_cons_zero, List.set_cons_succ, List.getElem_toArray, List.getElem_cons_succ, List.getElem_cons_zero])
      refine wpAnyX_done (by kernel_rfl) ?_ _
      clear f9 HP9 HI9 hHeld
      generalize W9.setCell ⟨P, 9, none⟩ (.slice (some ⟨gg, 0, none⟩) (ms'.length + 1) cap) = W10 at *
      go_wp2_with fail
      obtain ⟨TA2, tc2, rfl⟩ := owns_form HG.out.trow
      have HC2 : Hid (∀ W' v, HIn W' P pb eb (at', 1, bi, kn, ts.length, fo') → W'.heap[P]? = some (.cells (plC c done now v (.slice TA2 ms'.length tc2) begun) 53 (0, 0)) → W'.cell? ⟨pb, 0, none⟩ = some (.pointer (some ⟨P, 0, none⟩)) ∧ W'.cell? ⟨P, 10, none⟩ = some (.slice TA2 ms'.length tc2) ∧ W'.cell? ⟨P, 11, none⟩ = some (.int .i64 begun)) := Lib.hid (fun W' v hb hx =>
        ⟨cell_of_row _ pb 0 _ _ (0, 0) hb.bp, (pl_cells hx).2.2.2.2.2.2.2.2.2.2.1, (pl_cells hx).2.2.2.2.2.2.2.2.2.2.2⟩)
      have HG1 : Hid (PlG w0 W10.drew w0.heap.size P c done now (.slice (some ⟨gg, 0, none⟩) (ms'.length + 1) cap) (.slice TA2 ms'.length tc2) (ms' ++ [M]) ms'.length (trs ms') begun) := Lib.hid (HG.out.drewN 1)
      have HI11 : Hid (HIn W10.drew P pb eb (at', 1, bi, kn, ts.length, fo')) := Lib.hid (HI10.out.drewN 1)
      refine wp_region_last (fun w' => w'.cell? ⟨pb, 0, none⟩ = some (.pointer (some ⟨P, 0, none⟩)) ∧ w'.cell? ⟨P, 10, none⟩ = some (.slice TA2 ms'.length tc2) ∧ w'.cell? ⟨P, 11, none⟩ = some (.int .i64 begun)) 13 (by kernel_rfl) (HC2.out _ _ HI11.out HG1.out.box) (fun hHeld => ?_)
      clear HG HI10
      generalize W10.drew = W11 at *
      refine wpAnyX_take [0, 11, 12, 13] (i := 0) (oi := _) (v := ?_) rfl (by kernel_rfl) (by kernel_rfl) (by kernel_rfl) (by kernel_rfl) (fun _ _ _ h => h) (Or.inl ⟨by rfl, ?_⟩) (by assumption) ?_
      rotate_left
      · (intro w hSw; (try dsimp only at hSw); go_simp; try (with_reducible rfl))
      (try simp only [Act.put, List.setIfInBounds_toArray, List.set_cons_zero, List.set_cons_succ, List.getElem_toArray, List.getElem_cons_succ, List.getElem_cons_zero])
      refine wpAnyX_take [1, 2, 3, 4, 10, 13] (i := 1) (oi := _) (v := ?_) rfl (by kernel_rfl) (by kernel_rfl) (by kernel_rfl) (by kernel_rfl) (fun _ _ _ h => h) (Or.inl ⟨by rfl, ?_⟩) (by assumption) ?_
      rotate_left
      · (intro w hSw; (try dsimp only at hSw); go_simp; try (with_reducible rfl))
      (try simp only [Act.put, List.setIfInBounds_toArray, List.set_cons_zero, List.set_cons_succ, List.getElem_toArray, List.getElem_cons_succ, List.getElem_cons_zero])
      refine wpAnyX_take [2, 3, 4, 10, 13] (i := 2) (oi := _) (v := ?_) rfl (by kernel_rfl) (by kernel_rfl) (by kernel_rfl) (by kernel_rfl) (fun _ _ _ h => h) (Or.inl ⟨by rfl, ?_⟩) (by assumption) ?_
      rotate_left
      · (intro w hSw; (try dsimp only at hSw); go_simp; try (with_reducible rfl))
      (try simp only [Act.put, List.setIfInBounds_toArray, List.set_cons_zero, List.set_cons_succ, List.getElem_toArray, List.getElem_cons_succ, List.getElem_cons_zero])
      refine wpAnyX_take [3, 4, 10, 13] (i := 3) (oi := _) (v := ?_) rfl (by kernel_rfl) (by kernel_rfl) (by kernel_rfl) (by kernel_rfl) (fun _ _ _ h => h) (Or.inl ⟨by rfl, ?_⟩) (by assumption) ?_
      rotate_left
      · (intro w hSw; (try dsimp only at hSw); go_simp; try (with_reducible rfl))
      (try simp only [Act.put, List.setIfInBounds_toArray, List.set_cons_zero, List.set_cons_succ, List.getElem_toArray, List.getElem_cons_succ, List.getElem_cons_zero])
      refine wpAnyX_take [4, 10, 13] (i := 4) (oi := _) (v := ?_) rfl (by kernel_rfl) (by kernel_rfl) (by kernel_rfl) (by kernel_rfl) (fun _ _ _ h => h) (Or.inl ⟨by rfl, ?_⟩) (by assumption) ?_
      rotate_left
      · (intro w hSw; (try dsimp only at hSw); go_simp; try (with_reducible rfl))
      (try simp only [Act.put, List.setIfInBounds_toArray, List.set_cons_zero, List.set_cons_succ, List.getElem_toArray, List.getElem_cons_succ, List.getElem_cons_zero])
      refine wpAnyX_take [5, 6, 7, 8, 9, 10, 13] (i := 5) (oi := _) (v := ?_) rfl (by kernel_rfl) (by kernel_rfl) (by kernel_rfl) (by kernel_rfl) (fun _ _ _ h => h) (Or.inl ⟨by rfl, ?_⟩) (by assumption) ?_
      rotate_left
      · (intro w hSw; (try dsimp only at hSw); go_simp; try (with_reducible rfl))
      (try simp only [Act.put, List.setIfInBounds_toArray, List.set_cons_zero, List.set_cons_succ, List.getElem_toArray, List.getElem_cons_succ, List.getElem_cons_zero])
      refine wpAnyX_take [6, 7, 8, 9, 10, 13] (i := 6) (oi := _) (v := ?_) rfl (by kernel_rfl) (by kernel_rfl) (by kernel_rfl) (by kernel_rfl) (fun _ _ _ h => h) (Or.inl ⟨by rfl, ?_⟩) (by assumption) ?_
      rotate_left
      · (intro w hSw; (try dsimp only at hSw); go_simp; try (with_reducible rfl))
      (try simp only [Act.put, List.setIfInBounds_toArray, List.set_cons_zero, List.set_cons_succ, List.getElem_toArray, List.getElem_cons_succ, List.getElem_cons_zero])
      refine wpAnyX_take [7, 8, 9, 10, 13] (i := 7) (oi := _) (v := ?_) rfl (by kernel_rfl) (by kernel_rfl) (by kernel_rfl) (by kernel_rfl) (fun _ _ _ h => h) (Or.inl ⟨by rfl, ?_⟩) (by assumption) ?_
      rotate_left
      · (intro w hSw; (try dsimp only at hSw); go_simp; try (with_reducible rfl))
      (try simp only [Act.put, List.setIfInBounds_toArray, List.set_cons_zero, List.set_cons_succ, List.getElem_toArray, List.getElem_cons_succ, List.getElem_cons_zero])
      refine wpAnyX_take [8, 9, 10, 13] (i := 8) (oi := _) (v := ?_) rfl (by kernel_rfl) (by kernel_rfl) (by kernel_rfl) (by kernel_rfl) (fun _ _ _ h => h) (Or.inl ⟨by rfl, ?_⟩) (by assumption) ?_
      rotate_left
      · (intro w hSw; (try dsimp only at hSw); go_simp; try (with_reducible rfl))
      (try simp only [Act.put, List.setIfInBounds_toArray, List.set_cons_zero, List.set_cons_succ, List.getElem_toArray, List.getElem_cons_succ, List.getElem_cons_zero])
      refine wpAnyX_ready (i := 9) (o := _) (by kernel_rfl) rfl (fun K hK => ?_)
      go_simp
      have b12 : Below W11.heap.size W11 (W11.alloc (.cells #[.int .i64 begun] 3)) := (Below.refl W11.heap.size W11).alloc (Nat.le_refl _) _
      have HG2 := Lib.hid (HG1.out.new b12)
      have HI12 := Lib.hid (HI11.out.new b12)
      have N12 := Lib.hid (heap_alloc_new W11 (.cells #[.int .i64 begun] 3))
      clear b12 HG1 HI11
      refine hK.out _ _ ?_ (fun hHeldN => ?_)
      · exact HC2.out _ _ HI12.out HG2.out.box
      clear hHeld hK K
      have hHeld := hHeldN
      clear hHeldN
      (try simp only [Act.put, List.setIfInBounds_toArray, List.set_cons_zero, List.set_cons_succ, List.getElem_toArray, List.getElem_cons_succ, List.getElem_cons_zero])
      generalize W11.alloc (.cells #[.int .i64 begun] 3) = W12 at *
      have hz12 : w0.heap.size ≤ W12.heap.size := HG2.out.bel.size
      clear hi0 hz0 hz1 hz2 i0
      obtain ⟨i0, hi0, hz0, hz1, hz2⟩ := info_parts int_info
      refine wpAnyX_ready (i := 10) (o := _) (by kernel_rfl) rfl (fun K hK => ?_)
      refine step_append_lies _ (by rfl) (.tmp 70) (.tmp 75) 51 (by rfl) w0.heap.size 3 i0 _ 1 8 Tryz.underlying51 hi0 hz0 hz1 hz2 rfl (by omega) (.slice TA2 ms'.length tc2) ms'.length (trs ms') (by rfl) HG2.out.trow ⟨W11.heap.size, 0, none⟩ 1 1 [.int .i64 begun] (by rfl) (by rfl) (World.news_of_block (t := 3) (fr := (0, 0)) N12.out) (by simp [Value.oneCell']) (by omega) (by simp only [maxLen]; omega) (by omega) hz12 _ rfl ?_
      intro g2 cap2 W13 hown13 hgrow13 hat13 hlt13
      have HP13 : Hid (W13.heap[P]? = some (.cells (plC c done now (.slice (some ⟨gg, 0, none⟩) (ms'.length + 1) cap) (.slice TA2 ms'.length tc2) begun) 53 (0, 0))) := Lib.hid ((HG2.out.boxT hgrow13).trans HG2.out.box)
      have HI13 : Hid (HIn W13 P pb eb (at', 1, bi, kn, ts.length, fo')) := Lib.hid (HI12.out.grown hgrow13 fun k q => by
        obtain ⟨cs, hc⟩ := owns_ty HG2.out.trow q
        exact ⟨cs, _, _, hc, by decide, by decide⟩)
      have HG3 : Hid (PlIn w0 (W13.setCell ⟨P, 10, none⟩ (.slice (some ⟨g2, 0, none⟩) (ms'.length + 1) cap2)) w0.heap.size P c done now (.slice (some ⟨gg, 0, none⟩) (ms'.length + 1) cap) (.slice (some ⟨g2, 0, none⟩) (ms'.length + 1) cap2) (ms' ++ [M]) begun) := Lib.hid (by
        have e1 : (ms' ++ [M]).length = ms'.length + 1 := by simp
        have e2 : trs (ms' ++ [M]) = trs ms' ++ [.int .i64 begun] := by rw [← trs_snoc, HMt.out]
        show PlG _ _ _ _ _ _ _ _ _ _ (ms' ++ [M]).length (trs (ms' ++ [M])) _
        rw [e1, e2]
        exact HG2.out.addTrack hown13 hgrow13)
      have HI14 := Lib.hid (HI13.out.setP HP13.out 10 (.slice (some ⟨g2, 0, none⟩) (ms'.length + 1) cap2))
      have f10 := free_cells HP13.out 10
      clear hown13 hgrow13 hat13 hlt13 HG2 HI12 N12
      refine hK.out _ _ ?_ (fun hHeldN => ?_)
      · exact HC2.out _ _ HI13.out HP13.out
      clear hHeld hK K
      have hHeld := hHeldN
      clear hHeldN
      (try simp only [Act.put, List.setIfInBounds_toArray, List.set_cons_zero, List.set_cons_succ, List.getElem_toArray, List.getElem_cons_succ, List.getElem_cons_zero])
      refine wpAnyX_take [11, 12, 13] (i := 11) (oi := _) (v := ?_) rfl (by kernel_rfl) (by kernel_rfl) (by kernel_rfl) (by kernel_rfl) (fun _ _ _ h => h) (Or.inl ⟨by rfl, ?_⟩) (by assumption) ?_
      rotate_left
      · (intro w hSw; (try dsimp only at hSw); go_simp; try (with_reducible rfl))
      (try simp only [Act.put, List.setIfInBounds_toArray, List.set_cons_zero, List.set_cons_succ, List.getElem_toArray, List.getElem_cons_succ, List.getElem_cons_zero])
      refine wpAnyX_take [12, 13] (i := 12) (oi := _) (v := ?_) rfl (by kernel_rfl) (by kernel_rfl) (by kernel_rfl) (by kernel_rfl) (fun _ _ _ h => h) (Or.inl ⟨by rfl, ?_⟩) (by assumption) ?_
      rotate_left
      · (intro w hSw; (try dsimp only at hSw); go_simp; try (with_reducible rfl))
      (try simp only [Act.put, List.setIfInBounds_toArray, List.set_cons_zero, List.set_cons_succ, List.getElem_toArray, List.getElem_cons_succ, List.getElem_cons_zero])
      refine wpAnyX_last (o := _) (by kernel_rfl) rfl (fun K hK => ?_)
      go_simp
      refine hK.out _ _ ?_
      clear hK K
      (try simp only [Act.put, List.setIfInBounds_toArray, List.set_cons_zero, List.set_cons_succ, List.getElem_toArray, List.getElem_cons_succ, List.getElem_cons_zero])
      refine wpAnyX_done (by kernel_rfl) ?_ _
      clear f10 HP13 HI13 hHeld
      generalize W13.setCell ⟨P, 10, none⟩ (.slice (some ⟨g2, 0, none⟩) (ms'.length + 1) cap2) = W14 at *
      have d0 := cell_of_row _ pb 0 _ _ (0, 0) HI14.out.bp
      have d11 := (pl_cells HG3.out.box).2.2.2.2.2.2.2.2.2.2.2
      have f11 := free_cells HG3.out.box 11
      go_wp2_with fail
      go_end0
      refine ⟨rfl, _, _, ms' ++ [M], begun + 1, HG3.out.setBegun (begun + 1), ?_⟩
      rw [List.map_append, HM.out]
      show (⟨_ ++ [M.v], begun + 1⟩ : Pl) = _
      rw [HMn.out]
      unfold Pl.happen
      rw [if_pos rfl, HBM.out]
      simp only [List.length_map]
      split
      · rw [List.map_drop]
      · rfl
    · go_simp
      refine (forced_any (some ⟨wc.heap.size, 0, none⟩) ts.length fo' ts W5 HRow5.out (by omega)).mono ?_
      rintro r W6 ⟨IA, ic, ys, rfl, hoy, hfy, hb6⟩
      have hys := forced_is (by omega) (by omega) (by omega) HE.out.f HE.out.big HTS.out hfy
      subst hys
      have hz6 := hb6.size
      have HS6 := Lib.hid (HS5.out.new hb6)
      have HO6 := Lib.hid (HO5.out.below hb6 (Nat.le_refl _))
      have HY6 := Lib.hid hoy
      have HFB : Hid (∀ b, c.fb b → b < W5.heap.size) := Lib.hid (fun b hb => Nat.lt_of_lt_of_le (HS5.out.pl.fbs b hb) HS5.out.pl.kp.1)
      clear hoy hfy hb6 HS5 HRow5 HO5
      go_wp2_with fail
      refine hK.out _ _ ?_ (fun hHeldN => ?_)
      · exact HC.out _ _ HS6.out.hi HS6.out.pl.box
      clear hHeld hK K
      have hHeld := hHeldN
      clear hHeldN
      (try simp only [Act.put, List.setIfInBounds_toArray, List.set_cons_zero, List.set_cons_succ, List.getElem_toArray, List.getElem_cons_succ, List.getElem_cons_zero])
      refine wpAnyX_ready (i := 10) (o := _) (by kernel_rfl) rfl (fun K hK => ?_)
      go_simp
      have R7 := World.rowIs_made W6 (.complex .f32 0 0) mds.length 85
      have b7 : Below W6.heap.size W6 (W6.alloc (.cells (madeCells #[.complex .f32 0 0] mds.length) 85)) := (Below.refl W6.heap.size W6).alloc (Nat.le_refl _) _
      have HS7 := Lib.hid (HS6.out.new b7)
      have HV : Hid (VmIn (W6.alloc (.cells (madeCells #[.complex .f32 0 0] mds.length) 85)) w0.heap.size c.fb ⟨Vp.new mds (at', 1, bi, kn, ts.length, fo') begun, MB, mcb, W6.heap.size, IA, ic⟩) :=
        new_voice (HO6.out.below b7 hz6) (by show w0.heap.size ≤ W3.heap.size; omega) R7 ⟨by omega, hz6, fun _ => rfl⟩ (HY6.out.alloc _) (by omega) rfl ⟨by omega, by simp, by simp, rfl⟩ HFB.out
      have hg3 : W3.heap.size ≤ W6.heap.size := by omega
      clear R7 b7 HS6 HO6 HY6
      refine hK.out _ _ ?_ (fun hHeldN => ?_)
      · exact HC.out _ _ HS7.out.hi HS7.out.pl.box
      clear hHeld hK K
      have hHeld := hHeldN
      clear hHeldN
      (try simp only [Act.put, List.setIfInBounds_toArray, List.set_cons_zero, List.set_cons_succ, List.getElem_toArray, List.getElem_cons_succ, List.getElem_cons_zero])
      generalize W6.alloc (.cells (madeCells #[.complex .f32 0 0] mds.length) 85) = W7 at *
      generalize W6.heap.size = g at *
      obtain ⟨M, hM⟩ : ∃ M : Vm, M = ⟨Vp.new mds (at', 1, bi, kn, ts.length, fo') begun, MB, mcb, g, IA, ic⟩ := ⟨_, rfl⟩
      have hMv : voC M = [.int .i64 bi, .slice MB mds.length mcb, .slice (some ⟨g, 0, none⟩) mds.length mds.length, .slice IA (forcedW kn ts.length fo').length ic] := by rw [hM]; rfl
      have HMv := Lib.hid hMv
      have HMt : Hid (M.v.tr = begun) := Lib.hid (by rw [hM]; rfl)
      have HMn : Hid (M.v = Vp.new mds (at', 1, bi, kn, ts.length, fo') begun) := Lib.hid (by rw [hM])
      have HMa : Hid (∀ a ∈ ms', (∀ k, a.mod.ownBlock = some k → M.mod.ownBlock ≠ some k) ∧ a.S ≠ M.S) := Lib.hid (fun a ha => by
        obtain ⟨q1, q2⟩ := HAP.out a ha
        rw [hM]
        exact ⟨fun k e1 e2 => by have := q1 k e1; have := HMB.out k e2; omega, fun e => by have e' : a.S = g := e; omega⟩)
      rw [← hM] at HV
      clear hM hMv HAP HMB
      refine wpAnyX_take [15, 16, 17, 20] (i := 15) (oi := _) (v := ?_) rfl (by kernel_rfl) (by kernel_rfl) (by kernel_rfl) (by kernel_rfl) (fun _ _ _ h => h) (Or.inl ⟨by rfl, ?_⟩) (by assumption) ?_
      rotate_left
      · (intro w hSw; (try dsimp only at hSw); go_simp; try (with_reducible rfl))
      (try simp only [Act.put, List.setIfInBounds_toArray, List.set_cons_zero, List.set_cons_succ, List.getElem_toArray, List.getElem_cons_succ, List.getElem_cons_zero])
      refine wpAnyX_ready (i := 16) (o := _) (by kernel_rfl) rfl (fun K hK => ?_)
      go_simp
      have b8 : Below W7.heap.size W7 (W7.alloc (.cells #[.int .i64 bi, .slice MB mds.length mcb, .slice (some ⟨g, 0, none⟩) mds.length mds.length, .slice IA (forcedW kn ts.length fo').length ic] 59)) := (Below.refl W7.heap.size W7).alloc (Nat.le_refl _) _
      have HS8 := Lib.hid (HS7.out.new b8)
      have HV8 := Lib.hid (HV.out.new b8)
      have N8 := Lib.hid (heap_alloc_new W7 (.cells #[.int .i64 bi, .slice MB mds.length mcb, .slice (some ⟨g, 0, none⟩) mds.length mds.length, .slice IA (forcedW kn ts.length fo').length ic] 59))
      have Z8 : Hid ((W7.alloc (.cells #[.int .i64 bi, .slice MB mds.length mcb, .slice (some ⟨g, 0, none⟩) mds.length mds.length, .slice IA (forcedW kn ts.length fo').length ic] 59)).heap.size = W7.heap.size + 1) := Lib.hid (by show (W7.alloc _).heap.size = _; simp)
      clear b8 HS7 HV
      refine hK.out _ _ ?_ (fun hHeldN => ?_)
      · exact HC.out _ _ HS8.out.hi HS8.out.pl.box
      clear hHeld hK K
      have hHeld := hHeldN
      clear hHeldN
      (try simp only [Act.put, List.setIfInBounds_toArray, List.set_cons_zero, List.set_cons_succ, List.getElem_toArray, List.getElem_cons_succ, List.getElem_cons_zero])
      generalize W7.alloc (.cells #[.int .i64 bi, .slice MB mds.length mcb, .slice (some ⟨g, 0, none⟩) mds.length mds.length, .slice IA (forcedW kn ts.length fo').length ic] 59) = W8 at *
      have hz8 : w0.heap.size ≤ W8.heap.size := HS8.out.pl.bel.size
      obtain ⟨i0, hi0, hz0, hz1, hz2⟩ := info_parts voice_info
      refine wpAnyX_ready (i := 17) (o := _) (by kernel_rfl) rfl (fun K hK => ?_)
      refine step_append_lies _ (by rfl) (.tmp 50) (.tmp 62) 29 (by rfl) w0.heap.size 59 i0 _ 4 80 Tryz.underlying29 hi0 hz0 hz1 hz2 rfl (by omega) (.slice VA2 ms'.length vc2) ms'.length (flatV ms') (by rfl) HS8.out.pl.vrow ⟨W7.heap.size, 0, none⟩ 1 1 [.int .i64 bi, .slice MB mds.length mcb, .slice (some ⟨g, 0, none⟩) mds.length mds.length, .slice IA (forcedW kn ts.length fo').length ic] (by rfl) (by rfl) (World.news_of_block (t := 59) (fr := (0, 0)) N8.out) (by rw [← HMv.out]; exact voC_one M) (by omega) (by simp only [maxLen]; omega) (by omega) hz8 _ rfl ?_
      intro gg cap W9 hown9 hgrow9 hat9 hlt9
      rw [← HMv.out] at hown9
      have HP9 : Hid (W9.heap[P]? = some (.cells (plC c done now (.slice VA2 ms'.length vc2) vT2 begun) 53 (0, 0))) := Lib.hid ((HS8.out.pl.boxV hgrow9).trans HS8.out.pl.box)
      have HI9 : Hid (HIn W9 P pb eb (at', 1, bi, kn, ts.length, fo')) := Lib.hid (HS8.out.hi.grown hgrow9 fun k q => by
        obtain ⟨cs, hc⟩ := owns_ty HS8.out.pl.vrow q
        exact ⟨cs, _, _, hc, by decide, by decide⟩)
      have HG := Lib.hid (HS8.out.pl.addVoice HV8.out HMa.out hown9 hgrow9)
      have HI10 := Lib.hid (HI9.out.setP HP9.out 9 (.slice (some ⟨gg, 0, none⟩) (ms'.length + 1) cap))
      have f9 := free_cells HP9.out 9
      clear hown9 hgrow9 hat9 hlt9 HS8 HV8 N8 Z8 HMa
      refine hK.out _ _ ?_ (fun hHeldN => ?_)
      · exact HC.out _ _ HI9.out HP9.out
      clear hHeld hK K
      have hHeld := hHeldN
      clear hHeldN
      (try simp only [Act.put, List.setIfInBounds_toArray, List.set_cons_zero, List.set_cons_succ, List.getElem_toArray, List.getElem_cons_succ, List.getElem_cons_zero])
      refine wpAnyX_take [18, 19, 20] (i := 18) (oi := _) (v := ?_) rfl (by kernel_rfl) (by kernel_rfl) (by kernel_rfl) (by kernel_rfl) (fun _ _ _ h => h) (Or.inl ⟨by rfl, ?_⟩) (by assumption) ?_
      rotate_left
      · (intro w hSw; (try dsimp only at hSw); go_simp; try (with_reducible rfl))
      (try simp only [Act.put, List.setIfInBounds_toArray, List.set_cons_zero, List.set_cons_succ, List.getElem_toArray, List.getElem_cons_succ, List.getElem_cons_zero])
      refine wpAnyX_take [19, 20] (i := 19) (oi := _) (v := ?_) rfl (by kernel_rfl) (by kernel_rfl) (by kernel_rfl) (by kernel_rfl) (fun _ _ _ h => h) (Or.inl ⟨by rfl, ?_⟩) (by assumption) ?_
      rotate_left
      · (intro w hSw; (try dsimp only at hSw); go_simp; try (with_reducible rfl))
      (try simp only [Act.put, List.setIfInBounds_toArray, List.set_cons_zero, List.set_cons_succ, List.getElem_toArray, List.getElem_cons_succ, List.getElem_cons_zero])
      refine wpAnyX_last (o := _) (by kernel_rfl) rfl (fun K hK => ?_)
      go_simp
      refine hK.out _ _ ?_
      clear hK K
      (try simp only [Act.put, List.setIfInBounds_toArray, List.set_cons_zero, List.set_cons_succ, List.getElem_toArray, List.getElem_cons_succ, List.getElem_cons_zero])
      refine wpAnyX_done (by kernel_rfl) ?_ _
      clear f9 HP9 HI9 hHeld
      generalize W9.setCell ⟨P, 9, none⟩ (.slice (some ⟨gg, 0, none⟩) (ms'.length + 1) cap) = W10 at *
      go_wp2_with fail
      obtain ⟨TA2, tc2, rfl⟩ := owns_form HG.out.trow
      have HC2 : Hid (∀ W' v, HIn W' P pb eb (at', 1, bi, kn, ts.length, fo') → W'.heap[P]? = some (.cells (plC c done now v (.slice TA2 ms'.length tc2) begun) 53 (0, 0)) → W'.cell? ⟨pb, 0, none⟩ = some (.pointer (some ⟨P, 0, none⟩)) ∧ W'.cell? ⟨P, 10, none⟩ = some (.slice TA2 ms'.length tc2) ∧ W'.cell? ⟨P, 11, none⟩ = some (.int .i64 begun)) := Lib.hid (fun W' v hb hx =>
        ⟨cell_of_row _ pb 0 _ _ (0, 0) hb.bp, (pl_cells hx).2.2.2.2.2.2.2.2.2.2.1, (pl_cells hx).2.2.2.2.2.2.2.2.2.2.2⟩)
      have HG1 : Hid (PlG w0 W10.drew w0.heap.size P c done now (.slice (some ⟨gg, 0, none⟩) (ms'.length + 1) cap) (.slice TA2 ms'.length tc2) (ms' ++ [M]) ms'.length (trs ms') begun) := Lib.hid (HG.out.drewN 1)
      have HI11 : Hid (HIn W10.drew P pb eb (at', 1, bi, kn, ts.length, fo')) := Lib.hid (HI10.out.drewN 1)
      refine wp_region_last (fun w' => w'.cell? ⟨pb, 0, none⟩ = some (.pointer (some ⟨P, 0, none⟩)) ∧ w'.cell? ⟨P, 10, none⟩ = some (.slice TA2 ms'.length tc2) ∧ w'.cell? ⟨P, 11, none⟩ = some (.int .i64 begun)) 13 (by kernel_rfl) (HC2.out _ _ HI11.out HG1.out.box) (fun hHeld => ?_)
      clear HG HI10
      generalize W10.drew = W11 at *
      refine wpAnyX_take [0, 11, 12, 13] (i := 0) (oi := _) (v := ?_) rfl (by kernel_rfl) (by kernel_rfl) (by kernel_rfl) (by kernel_rfl) (fun _ _ _ h => h) (Or.inl ⟨by rfl, ?_⟩) (by assumption) ?_
      rotate_left
      · (intro w hSw; (try dsimp only at hSw); go_simp; try (with_reducible rfl))
      (try simp only [Act.put, List.setIfInBounds_toArray, List.set_cons_zero, List.set_cons_succ, List.getElem_toArray, List.getElem_cons_succ, List.getElem_cons_zero])
      refine wpAnyX_take [1, 2, 3, 4, 10, 13] (i := 1) (oi := _) (v := ?_) rfl (by kernel_rfl) (by kernel_rfl) (by kernel_rfl) (by kernel_rfl) (fun _ _ _ h => h) (Or.inl ⟨by rfl, ?_⟩) (by assumption) ?_
      rotate_left
      · (intro w hSw; (try dsimp only at hSw); go_simp; try (with_reducible rfl))
      (try simp only [Act.put, List.setIfInBounds_toArray, List.set_cons_zero, List.set_cons_succ, List.getElem_toArray, List.getElem_cons_succ, List.getElem_cons_zero])
      refine wpAnyX_take [2, 3, 4, 10, 13] (i := 2) (oi := _) (v := ?_) rfl (by kernel_rfl) (by kernel_rfl) (by kernel_rfl) (by kernel_rfl) (fun _ _ _ h => h) (Or.inl ⟨by rfl, ?_⟩) (by assumption) ?_
      rotate_left
      · (intro w hSw; (try dsimp only at hSw); go_simp; try (with_reducible rfl))
      (try simp only [Act.put, List.setIfInBounds_toArray, List.set_cons_zero, List.set_cons_succ, List.getElem_toArray, List.getElem_cons_succ, List.getElem_cons_zero])
      refine wpAnyX_take [3, 4, 10, 13] (i := 3) (oi := _) (v := ?_) rfl (by kernel_rfl) (by kernel_rfl) (by kernel_rfl) (by kernel_rfl) (fun _ _ _ h => h) (Or.inl ⟨by rfl, ?_⟩) (by assumption) ?_
      rotate_left
      · (intro w hSw; (try dsimp only at hSw); go_simp; try (with_reducible rfl))
      (try simp only [Act.put, List.setIfInBounds_toArray, List.set_cons_zero, List.set_cons_succ, List.getElem_toArray, List.getElem_cons_succ, List.getElem_cons_zero])
      refine wpAnyX_take [4, 10, 13] (i := 4) (oi := _) (v := ?_) rfl (by kernel_rfl) (by kernel_rfl) (by kernel_rfl) (by kernel_rfl) (fun _ _ _ h => h) (Or.inl ⟨by rfl, ?_⟩) (by assumption) ?_
      rotate_left
      · (intro w hSw; (try dsimp only at hSw); go_simp; try (with_reducible rfl))
      (try simp only [Act.put, List.setIfInBounds_toArray, List.set_cons_zero, List.set_cons_succ, List.getElem_toArray, List.getElem_cons_succ, List.getElem_cons_zero])
      refine wpAnyX_take [5, 6, 7, 8, 9, 10, 13] (i := 5) (oi := _) (v := ?_) rfl (by kernel_rfl) (by kernel_rfl) (by kernel_rfl) (by kernel_rfl) (fun _ _ _ h => h) (Or.inl ⟨by rfl, ?_⟩) (by assumption) ?_
      rotate_left
      · (intro w hSw; (try dsimp only at hSw); go_simp; try (with_reducible rfl))
      (try simp only [Act.put, List.setIfInBounds_toArray, List.set_cons_zero, List.set_cons_succ, List.getElem_toArray, List.getElem_cons_succ, List.getElem_cons_zero])
      refine wpAnyX_take [6, 7, 8, 9, 10, 13] (i := 6) (oi := _) (v := ?_) rfl (by kernel_rfl) (by kernel_rfl) (by kernel_rfl) (by kernel_rfl) (fun _ _ _ h => h) (Or.inl ⟨by rfl, ?_⟩) (by assumption) ?_
      rotate_left
      · (intro w hSw; (try dsimp only at hSw); go_simp; try (with_reducible rfl))
      (try simp only [Act.put, List.setIfInBounds_toArray, List.set_cons_zero, List.set_cons_succ, List.getElem_toArray, List.getElem_cons_succ, List.getElem_cons_zero])
      refine wpAnyX_take [7, 8, 9, 10, 13] (i := 7) (oi := _) (v := ?_) rfl (by kernel_rfl) (by kernel_rfl) (by kernel_rfl) (by kernel_rfl) (fun _ _ _ h => h) (Or.inl ⟨by rfl, ?_⟩) (by assumption) ?_
      rotate_left
      · (intro w hSw; (try dsimp only at hSw); go_simp; try (with_reducible rfl))
      (try simp only [Act.put, List.setIfInBounds_toArray, List.set_cons_zero, List.set_cons_succ, List.getElem_toArray, List.getElem_cons_succ, List.getElem_cons_zero])
      refine wpAnyX_take [8, 9, 10, 13] (i := 8) (oi := _) (v := ?_) rfl (by kernel_rfl) (by kernel_rfl) (by kernel_rfl) (by kernel_rfl) (fun _ _ _ h => h) (Or.inl ⟨by rfl, ?_⟩) (by assumption) ?_
      rotate_left
      · (intro w hSw; (try dsimp only at hSw); go_simp; try (with_reducible rfl))
      (try simp only [Act.put, List.setIfInBounds_toArray, List.set_cons_zero, List.set_cons_succ, List.getElem_toArray, List.getElem_cons_succ, List.getElem_cons_zero])
      refine wpAnyX_ready (i := 9) (o := _) (by kernel_rfl) rfl (fun K hK => ?_)
      go_simp
      have b12 : Below W11.heap.size W11 (W11.alloc (.cells #[.int .i64 begun] 3)) := (Below.refl W11.heap.size W11).alloc (Nat.le_refl _) _
      have HG2 := Lib.hid (HG1.out.new b12)
      have HI12 := Lib.hid (HI11.out.new b12)
      have N12 := Lib.hid (heap_alloc_new W11 (.cells #[.int .i64 begun] 3))
      clear b12 HG1 HI11
      refine hK.out _ _ ?_ (fun hHeldN => ?_)
      · exact HC2.out _ _ HI12.out HG2.out.box
      clear hHeld hK K
      have hHeld := hHeldN
      clear hHeldN
      (try simp only [Act.put, List.setIfInBounds_toArray, List.set_cons_zero, List.set_cons_succ, List.getElem_toArray, List.getElem_cons_succ, List.getElem_cons_zero])
      generalize W11.alloc (.cells #[.int .i64 begun] 3) = W12 at *
      have hz12 : w0.heap.size ≤ W12.heap.size := HG2.out.bel.size
      clear hi0 hz0 hz1 hz2 i0
      obtain ⟨i0, hi0, hz0, hz1, hz2⟩ := info_parts int_info
      refine wpAnyX_ready (i := 10) (o := _) (by kernel_rfl) rfl (fun K hK => ?_)
      refine step_append_lies _ (by rfl) (.tmp 70) (.tmp 75) 51 (by rfl) w0.heap.size 3 i0 _ 1 8 Tryz.underlying51 hi0 hz0 hz1 hz2 rfl (by omega) (.slice TA2 ms'.length tc2) ms'.length (trs ms') (by rfl) HG2.out.trow ⟨W11.heap.size, 0, none⟩ 1 1 [.int .i64 begun] (by rfl) (by rfl) (World.news_of_block (t := 3) (fr := (0, 0)) N12.out) (by simp [Value.oneCell']) (by omega) (by simp only [maxLen]; omega) (by omega) hz12 _ rfl ?_
      intro g2 cap2 W13 hown13 hgrow13 hat13 hlt13
      have HP13 : Hid (W13.heap[P]? = some (.cells (plC c done now (.slice (some ⟨gg, 0, none⟩) (ms'.length + 1) cap) (.slice TA2 ms'.length tc2) begun) 53 (0, 0))) := Lib.hid ((HG2.out.boxT hgrow13).trans HG2.out.box)
      have HI13 : Hid (HIn W13 P pb eb (at', 1, bi, kn, ts.length, fo')) := Lib.hid (HI12.out.grown hgrow13 fun k q => by
        obtain ⟨cs, hc⟩ := owns_ty HG2.out.trow q
        exact ⟨cs, _, _, hc, by decide, by decide⟩)
      have HG3 : Hid (PlIn w0 (W13.setCell ⟨P, 10, none⟩ (.slice (some ⟨g2, 0, none⟩) (ms'.length + 1) cap2)) w0.heap.size P c done now (.slice (some ⟨gg, 0, none⟩) (ms'.length + 1) cap) (.slice (some ⟨g2, 0, none⟩) (ms'.length + 1) cap2) (ms' ++ [M]) begun) := Lib.hid (by
        have e1 : (ms' ++ [M]).length = ms'.length + 1 := by simp
        have e2 : trs (ms' ++ [M]) = trs ms' ++ [.int .i64 begun] := by rw [← trs_snoc, HMt.out]
        show PlG _ _ _ _ _ _ _ _ _ _ (ms' ++ [M]).length (trs (ms' ++ [M])) _
        rw [e1, e2]
        exact HG2.out.addTrack hown13 hgrow13)
      have HI14 := Lib.hid (HI13.out.setP HP13.out 10 (.slice (some ⟨g2, 0, none⟩) (ms'.length + 1) cap2))
      have f10 := free_cells HP13.out 10
      clear hown13 hgrow13 hat13 hlt13 HG2 HI12 N12
      refine hK.out _ _ ?_ (fun hHeldN => ?_)
      · exact HC2.out _ _ HI13.out HP13.out
      clear hHeld hK K
      have hHeld := hHeldN
      clear hHeldN
      (try simp only [Act.put, List.setIfInBounds_toArray, List.set_cons_zero, List.set_cons_succ, List.getElem_toArray, List.getElem_cons_succ, List.getElem_cons_zero])
      refine wpAnyX_take [11, 12, 13] (i := 11) (oi := _) (v := ?_) rfl (by kernel_rfl) (by kernel_rfl) (by kernel_rfl) (by kernel_rfl) (fun _ _ _ h => h) (Or.inl ⟨by rfl, ?_⟩) (by assumption) ?_
      rotate_left
      · (intro w hSw; (try dsimp only at hSw); go_simp; try (with_reducible rfl))
      (try simp only [Act.put, List.setIfInBounds_toArray, List.set_cons_zero, List.set_cons_succ, List.getElem_toArray, List.getElem_cons_succ, List.getElem_cons_zero])
      refine wpAnyX_take [12, 13] (i := 12) (oi := _) (v := ?_) rfl (by kernel_rfl) (by kernel_rfl) (by kernel_rfl) (by kernel_rfl) (fun _ _ _ h => h) (Or.inl ⟨by rfl, ?_⟩) (by assumption) ?_
      rotate_left
      · (intro w hSw; (try dsimp only at hSw); go_simp; try (with_reducible rfl))
      (try simp only [Act.put, List.setIfInBounds_toArray, List.set_cons_zero, List.set_cons_succ, List.getElem_toArray, List.getElem_cons_succ, List.getElem_cons_zero])
      refine wpAnyX_last (o := _) (by kernel_rfl) rfl (fun K hK => ?_)
      go_simp
      refine hK.out _ _ ?_
      clear hK K
      (try simp only [Act.put, List.setIfInBounds_toArray, List.set_cons_zero, List.set_cons_succ, List.getElem_toArray, List.getElem_cons_succ, List.getElem_cons_zero])
      refine wpAnyX_done (by kernel_rfl) ?_ _
      clear f10 HP13 HI13 hHeld
      generalize W13.setCell ⟨P, 10, none⟩ (.slice (some ⟨g2, 0, none⟩) (ms'.length + 1) cap2) = W14 at *
      have d0 := cell_of_row _ pb 0 _ _ (0, 0) HI14.out.bp
      have d11 := (pl_cells HG3.out.box).2.2.2.2.2.2.2.2.2.2.2
      have f11 := free_cells HG3.out.box 11
      go_wp2_with fail
      go_end0
      refine ⟨rfl, _, _, ms' ++ [M], begun + 1, HG3.out.setBegun (begun + 1), ?_⟩
      rw [List.map_append, HM.out]
      show (⟨_ ++ [M.v], begun + 1⟩ : Pl) = _
      rw [HMn.out]
      unfold Pl.happen
      rw [if_pos rfl, HBM.out]
      simp only [List.length_map]
      split
      · rw [List.map_drop]
      · rfl
end Go.Proofs.YtndnfhhdflmfcaaGreat

/-
impl.player.happen: a stop.
-/
namespace Go.Proofs.YtndnfhhdflmfcaaGreat
open Go Go.RowKit Ieee

set_option maxRecDepth 100000 in
set_option maxHeartbeats 800000 in
theorem isBodyAt_any {w0 W : World} {P pb eb done now : Nat} {c : Pc} {ms : List Vm} {begun : Int} {e : Ev} {vV vT : Value} (h : SIn w0 W P pb eb c done now ms begun e vV vT) (i : Nat) (m : Vm) (hm : ms[i]? = some m) (hn : ms.length ≤ 16) :
    Calls Tryz.prog 115 #[.int .i64 i, .pointer (some ⟨pb, 0, none⟩), .pointer (some ⟨eb, 0, none⟩)] W fun r w' => r = .returned (.bool (m.v.body == e.2.2.1)) ∧ ∃ n, W.drewN n = w' := by
  have hi : i < ms.length := by
    rcases Nat.lt_or_ge i ms.length with h1 | h1
    · exact h1
    · rw [List.getElem?_eq_none h1] at hm; cases hm
  obtain ⟨b, vc, rfl, _, hbl, hv1, hv2, _, hcell⟩ := owns_cells h.pl.vrow (by omega) (flatV_len ms)
  have e0 := hcell _ _ (flatV_at hm).1
  have c0 := cell_of_row W pb 0 _ _ (0, 0) h.hi.bp
  have c9 := (pl_cells h.pl.box).2.2.2.2.2.2.2.2.2.1
  have c2 := cell_of_row W eb 2 _ _ (0, 0) h.hi.be
  have j1 : (i : Int) < (ms.length : Int) := by omega
  clear hcell h hm
  generalize m.v.body = x at *
  generalize e.2.2.1 = y at *
  go_enter Tryz.func115, Tryz.ntmps115
  go_wp2_with fail
  go_quiet (fail)
  go_wp2_with fail
  go_ret
  exact ⟨rfl, _, rfl⟩
theorem keepF_filter (g : Vm → Bool) (f : Nat → Bool) : ∀ (L : List Vm) (i : Nat), (∀ j m, L[j]? = some m → f (i + j) = g m) → keepF f i L = L.filter fun m => !g m := by
  intro L
  induction L with
  | nil => intro i _; rfl
  | cons x L ih =>
    intro i h
    have h0 : f i = g x := h 0 x rfl
    have hr := ih (i + 1) (fun j m hj => by
      have := h (j + 1) m (by simpa using hj)
      rwa [show i + (j + 1) = i + 1 + j by omega] at this)
    simp only [keepF, List.filter_cons, h0, hr]
    cases g x <;> simp
theorem filter_body (ms : List Vm) (y : Int) : (ms.filter fun m => !(m.v.body == y)).map Vm.v = (ms.map Vm.v).filter fun v => !(v.body == y) := by
  rw [List.filter_map]; rfl
set_option maxRecDepth 100000 in
set_option maxHeartbeats 1600000 in
theorem stop_any {w0 w : World} {P done now : Nat} {c : Pc} {vV vT : Value} {ms : List Vm} {begun : Int} (e : Ev) (h : PlIn w0 w w0.heap.size P c done now vV vT ms begun) (hk : e.2.1 = 3) (hms : ms.length ≤ 16) :
    Calls Tryz.prog 97 #[.pointer (some ⟨P, 0, none⟩), .agg #[.int .i64 e.1, .int .i64 e.2.1, .int .i64 e.2.2.1, .int .i64 e.2.2.2.1, .int .i64 e.2.2.2.2.1, .float .f32 e.2.2.2.2.2]] w (HapP w0 P c done now ms begun e) := by
  obtain ⟨at', kd, bo, sh, co, fo'⟩ := e
  simp only at hk
  subst hk
  have hW := Lib.hid (SIn.mk (h.alloc (.cells #[.pointer (some ⟨P, 0, none⟩)] 47) |>.alloc (.cells #[.int .i64 at', .int .i64 3, .int .i64 bo, .int .i64 sh, .int .i64 co, .float .f32 fo'] 71))
    (pb := w.heap.size) (eb := w.heap.size + 1) (e := (at', 3, bo, sh, co, fo')) ⟨(Below.heap_alloc _ _ _ (by simp)).trans (heap_alloc_new w _), by
      have := heap_alloc_new (w.alloc (.cells #[.pointer (some ⟨P, 0, none⟩)] 47)) (.cells #[.int .i64 at', .int .i64 3, .int .i64 bo, .int .i64 sh, .int .i64 co, .float .f32 fo'] 71)
      rwa [show (w.alloc (.cells #[.pointer (some ⟨P, 0, none⟩)] 47)).heap.size = w.heap.size + 1 by simp] at this⟩)
  clear h
  have c0 := cell_of_row _ _ 0 _ _ (0, 0) hW.out.hi.bp
  go_enter Tryz.func97, Tryz.ntmps97
  go_wp2_with fail
  generalize (w.alloc (.cells #[.pointer (some ⟨P, 0, none⟩)] 47)).alloc (.cells #[.int .i64 at', .int .i64 3, .int .i64 bo, .int .i64 sh, .int .i64 co, .float .f32 fo'] 71) = W at *
  generalize w.heap.size + 1 = eb at *
  generalize w.heap.size = pb at *
  clear c0
  refine (remove2_any pb eb (fun i => (ms[i]?.map fun m => m.v.body == bo).getD false) W hW.out.pl hms (fun i hi W' hb => ?_)).mono ?_
  · have hm : ms[i]? = some ms[i] := List.getElem?_eq_getElem hi
    refine (isBodyAt_any (hW.out.new hb) i ms[i] hm hms).mono ?_
    rintro r w' ⟨rfl, n, rfl⟩
    exact ⟨by rw [hm]; rfl, n, rfl⟩
  rintro r W2 ⟨rfl, vV', vT', hp, hg⟩
  rw [keepF_filter (fun m => m.v.body == bo) _ ms 0 (fun j m hj => by rw [Nat.zero_add, hj]; rfl)] at hp
  have HP := Lib.hid hp
  clear hp hg
  go_wp2_with fail
  go_end0
  refine ⟨rfl, vV', vT', _, begun, HP.out, ?_⟩
  rw [filter_body]
  rfl
end Go.Proofs.YtndnfhhdflmfcaaGreat

/-
impl.DampBody at a valid body and a factor from 0 to 1.
-/
namespace Go.Proofs.YtndnfhhdflmfcaaGreat
open Go Go.RowKit Ieee

/-- The first k modes are damped. -/
def Damped (f : Nat) (ms : List MW) (k : Nat) (L : List MW) : Prop := L.length = ms.length ∧ ∀ i, i < ms.length → mAt L i = if i < k then dampM f (mAt ms i) else mAt ms i
theorem Damped.zero (f : Nat) (ms : List MW) : Damped f ms 0 ms := ⟨rfl, fun i _ => by rw [if_neg (by omega)]⟩
theorem mAt_set {L : List MW} {k i : Nat} {m : MW} (hk : k < L.length) : mAt (L.set k m) i = if i = k then m else mAt L i := by
  unfold mAt
  simp only [List.getD, List.getElem?_set]
  by_cases e : i = k
  · subst e; simp [hk]
  · rw [if_neg (fun h => e h.symm), if_neg e]
theorem Damped.set {f : Nat} {ms L : List MW} {k : Nat} (h : Damped f ms k L) (hk : k < ms.length) : Damped f ms (k + 1) (L.set k (dampM f (mAt ms k))) := by
  refine ⟨by simpa using h.1, fun i hi => ?_⟩
  rw [mAt_set (by rw [h.1]; exact hk)]
  by_cases e : i = k
  · subst e; rw [if_pos rfl, if_pos (by omega)]
  · rw [if_neg e, h.2 i hi]
    by_cases e' : i < k
    · rw [if_pos e', if_pos (by omega)]
    · rw [if_neg e', if_neg (by omega)]
theorem Damped.done {f : Nat} {ms L : List MW} (h : Damped f ms ms.length L) : L = ms.map (dampM f) := by
  refine List.ext_getElem (by simpa using h.1) fun i h1 h2 => ?_
  have hi : i < ms.length := by rw [← h.1]; exact h1
  have := h.2 i hi
  rw [if_pos hi] at this
  simpa [mAt, List.getD, List.getElem?_eq_getElem h1, List.getElem?_eq_getElem hi] using this
theorem flatM_set (L : List MW) (k p q : Nat) (hk : k < L.length) : flatM (L.set k (p, q, (mAt L k).2.2)) = (flatM L).set (k * 2) (.complex .f32 p q) := by
  induction L generalizing k with
  | nil => simp at hk
  | cons m L ih =>
    cases k with
    | zero => simp [flatM, modeV, mAt]
    | succ k =>
      have := ih k (by simpa using hk)
      have e : (k + 1) * 2 = k * 2 + 1 + 1 := by omega
      rw [e]
      simp only [flatM, modeV, List.set_cons_succ, List.flatMap_cons, List.cons_append, List.nil_append] at this ⊢
      have em : mAt (m :: L) (k + 1) = mAt L k := by simp [mAt, List.getD]
      rw [em, this]
/-- A pole is stored in a row of modes. -/
theorem OwnM.setPole {w : World} {lo hi b c k p q : Nat} {L : List MW} (h : OwnM w lo hi (some ⟨b, 0, none⟩) c L) (hk : k < L.length) :
    OwnM (w.setCell ⟨b, k * 2, none⟩ (.complex .f32 p q)) lo hi (some ⟨b, 0, none⟩) c (L.set k (p, q, (mAt L k).2.2)) := by
  obtain ⟨⟨h1, h2⟩, h3⟩ := h
  rcases h2 with ⟨h2, _⟩ | ⟨g, cap, cur, e1, e2, e3, e4, e5, e6, e7⟩
  · cases h2
  injection e1 with q1 q2 q3
  injection q1 with q1
  injection q1 with q1
  subst q1 q3
  have hl : (L.set k (p, q, (mAt L k).2.2)).length = L.length := by simp
  refine ⟨⟨by rw [flatM_len], .inr ⟨b, c, cur.setIfInBounds (k * 2) (.complex .f32 p q), by rw [hl], e2, ?_, by rw [hl]; exact e4, e5, by simpa using e6, ?_⟩⟩, fun j hj => h3 j (by simpa [Value.ownBlock] using hj)⟩
  · simp [World.setCell, Array.getElem?_modify, e3]
  · rw [hl, flatM_set L k p q hk, ← e7]
    apply List.ext_getElem?
    intro i
    simp only [List.getElem?_take, List.getElem?_set, Array.toList_setIfInBounds, List.length_take]
    have hsz : cur.toList.length = c * 2 := by simpa using e6
    by_cases hi : i < L.length * 2
    · simp only [hi, if_true]
      by_cases e : k * 2 = i
      · subst e
        rw [if_pos rfl, if_pos rfl, if_pos (by omega), if_pos (by omega)]
      · rw [if_neg e, if_neg e]
    · simp only [hi, if_false]
      rw [if_neg (by omega)]
theorem OwnM.frozen {w : World} {lo hi b c : Nat} {L : List MW} (h : OwnM w lo hi (some ⟨b, 0, none⟩) c L) (k : Nat) : w.frozen? ⟨b, k, none⟩ = false := by
  obtain ⟨⟨h1, h2⟩, h3⟩ := h
  rcases h2 with ⟨h2, _⟩ | ⟨g, cap, cur, e1, e2, e3, e4, e5, e6, e7⟩
  · cases h2
  injection e1 with q1 q2 q3
  injection q1 with q1
  injection q1 with q1
  subst q1
  unfold World.frozen?; simp only [e3]; simp

/-- The words of a damped pole are numbers. -/
theorem damp_fin {f : Nat} {m : MW} (hm : ModeOk m.1 m.2.1 m.2.2.1 m.2.2.2) (hf : FacOk f) : fin .f32 (fo .mul .f32 m.1 f) ∧ fin .f32 (fo .mul .f32 m.2.1 f) := by
  have := damp_ok hm hf
  exact ⟨fin_of_wid this.fa, fin_of_wid this.fb⟩
end Go.Proofs.YtndnfhhdflmfcaaGreat

/-
impl.player.happen: voices damped.
-/
namespace Go.Proofs.YtndnfhhdflmfcaaGreat
open Go Go.RowKit Ieee

/-- A voice whose modes are others, as many. -/
def Vm.withM (m : Vm) (C : List MW) : Vm := { m with v := { m.v with ms := C } }
theorem withM_self (m : Vm) : m.withM m.v.ms = m := rfl
theorem withM_voC {m : Vm} {C : List MW} (h : C.length = m.v.ms.length) : voC (m.withM C) = voC m := by
  unfold voC Vm.withM
  simp only [h]
theorem withM_mod {m : Vm} {C : List MW} (h : C.length = m.v.ms.length) : (m.withM C).mod = m.mod := by
  unfold Vm.mod Vm.withM
  simp only [h]
theorem map_set_same {α β : Type} (f : α → β) (L : List α) (i : Nat) (x y : α) (h : L[i]? = some x) (hf : f y = f x) : (L.set i y).map f = L.map f := by
  refine List.ext_getElem? fun j => ?_
  rw [List.getElem?_map, List.getElem?_map, List.getElem?_set]
  by_cases e : i = j
  · subst e
    rw [if_pos rfl, h]
    have hi : i < L.length := by
      rcases Nat.lt_or_ge i L.length with h1 | h1
      · exact h1
      · rw [List.getElem?_eq_none h1] at h; cases h
    rw [if_pos hi]
    simp [hf]
  · rw [if_neg e]
theorem flatV_set {L : List Vm} {i : Nat} {x y : Vm} (h : L[i]? = some x) (hf : voC y = voC x) : flatV (L.set i y) = flatV L := by
  unfold flatV
  rw [List.flatMap_def, List.flatMap_def, map_set_same voC L i x y h hf]
theorem trs_set {L : List Vm} {i : Nat} {x y : Vm} (h : L[i]? = some x) (hf : y.v.tr = x.v.tr) : trs (L.set i y) = trs L := map_set_same _ L i x y h (by rw [hf])
theorem apart_set {L : List Vm} {i : Nat} {x y : Vm} (h : L[i]? = some x) (h1 : y.mod = x.mod) (h2 : y.S = x.S) (ha : Apart L) : Apart (L.set i y) := by
  have key : ∀ K : List Vm, Apart K ↔ (K.map fun m => (m.mod, m.S)).Pairwise fun a b => (∀ k, a.1.ownBlock = some k → b.1.ownBlock ≠ some k) ∧ a.2 ≠ b.2 := fun K => by
    rw [List.pairwise_map]; rfl
  rw [key] at ha ⊢
  rwa [map_set_same (fun m : Vm => (m.mod, m.S)) L i x y h (by simp only [h1, h2])]
theorem apart_ne {L : List Vm} {i j : Nat} {x y : Vm} (ha : Apart L) (hi : L[i]? = some x) (hj : L[j]? = some y) (hne : i ≠ j) : (∀ k, x.mod.ownBlock = some k → y.mod.ownBlock ≠ some k) ∧ x.S ≠ y.S := by
  have hil : i < L.length := by
    rcases Nat.lt_or_ge i L.length with h1 | h1
    · exact h1
    · rw [List.getElem?_eq_none h1] at hi; cases hi
  have hjl : j < L.length := by
    rcases Nat.lt_or_ge j L.length with h1 | h1
    · exact h1
    · rw [List.getElem?_eq_none h1] at hj; cases hj
  rw [List.getElem?_eq_getElem hil] at hi
  rw [List.getElem?_eq_getElem hjl] at hj
  injection hi with hi
  injection hj with hj
  subst hi hj
  rcases Nat.lt_or_ge i j with h1 | h1
  · exact List.pairwise_iff_getElem.1 ha i j hil hjl h1
  · have := List.pairwise_iff_getElem.1 ha j i hjl hil (by omega)
    exact ⟨fun k e1 e2 => this.1 k e2 e1, fun e => this.2 e.symm⟩
/-- A pole is stored. -/
theorem PlG.setPole {w0 w : World} {base P done now : Nat} {c : Pc} {vV vT : Value} {ms : List Vm} {begun : Int} (h : PlIn w0 w base P c done now vV vT ms begun) {i k b p q : Nat} {m : Vm} (hm : ms[i]? = some m) (hk : k < m.v.ms.length) (hM : m.M = some ⟨b, 0, none⟩) :
    PlIn w0 (w.setCell ⟨b, k * 2, none⟩ (.complex .f32 p q)) base P c done now vV vT (ms.set i (m.withM (m.v.ms.set k (p, q, (mAt m.v.ms k).2.2)))) begun := by
  have hmem : m ∈ ms := List.mem_of_getElem? hm
  have hv := h.vo m hmem
  have hob : m.mod.ownBlock = some b := by unfold Vm.mod; rw [hM]; rfl
  obtain ⟨cs, hcs⟩ := owns_ty hv.mod hob
  have hb0 := (hv.mod.lt b hob).1
  have hs := h.hs
  have hg : w.grownBy (w.setCell ⟨b, k * 2, none⟩ (.complex .f32 p q)) (some b) := grown_set _ _
  have kk : ∀ (j : Nat) (cs : Array Value) (t : TypeId) (f : Nat × Nat), w.heap[j]? = some (.cells cs t f) → t ≠ 87 → (w.setCell ⟨b, k * 2, none⟩ (.complex .f32 p q)).heap[j]? = w.heap[j]? := fun j cs t f hj ht => hg.block j (lt_of_some hj) (by intro e; injection e with e; exact ty_ne hj hcs ht e)
  have hl : (m.v.ms.set k (p, q, (mAt m.v.ms k).2.2)).length = m.v.ms.length := by simp
  have hvc := withM_voC hl
  have hset : (ms.set i (m.withM (m.v.ms.set k (p, q, (mAt m.v.ms k).2.2)))).length = ms.length := by simp
  show PlG _ _ _ _ _ _ _ _ _ _ (ms.set i _).length (trs (ms.set i _)) _
  rw [hset, trs_set (y := m.withM (m.v.ms.set k (p, q, (mAt m.v.ms k).2.2))) hm rfl]
  refine ⟨⟨hg.os.trans h.bel.os, hg.tape.trans h.bel.tape, hg.output.trans h.bel.output, Nat.le_trans h.bel.size hg.size, fun j hj => (hg.block j (by have := h.bel.size; omega) (by intro e; injection e with e; omega)).trans (h.bel.block j hj)⟩, h.hs, h.P0, (kk P _ _ _ h.box (by decide)).trans h.box, ?_, ?_, ?_, ?_, apart_set hm (withM_mod hl) rfl h.apart, h.kp.grown hg fun k q => by injection q with q; subst q; exact ⟨_, _, _, hcs, .inr (.inr (.inr (.inl rfl)))⟩, h.fbs⟩
  · exact owns_stay h.ev fun j e => by
      obtain ⟨cs, hc⟩ := owns_ty h.ev e
      exact kk j _ _ _ hc (by decide)
  · rw [hset, flatV_set hm hvc]
    exact owns_stay h.vrow fun j e => by
      obtain ⟨cs, hc⟩ := owns_ty h.vrow e
      exact kk j _ _ _ hc (by decide)
  · exact owns_stay h.trow fun j e => by
      obtain ⟨cs, hc⟩ := owns_ty h.trow e
      exact kk j _ _ _ hc (by decide)
  · intro x hx
    obtain ⟨j, hj⟩ := List.getElem?_of_mem hx
    rw [List.getElem?_set] at hj
    have rest : ∀ y, VmIn w base c.fb y → (y.mod.ownBlock ≠ some b) → VmIn (w.setCell ⟨b, k * 2, none⟩ (.complex .f32 p q)) base c.fb y := fun y hy hne =>
      hy.keep (fun z e => hg.block z (hy.mod.lt z e).2 (by intro e2; injection e2 with e2; exact hne (by rw [e, e2]))) (by
        obtain ⟨cs, hc⟩ := rowIs_ty hy.sts
        exact kk _ _ _ _ hc (by decide)) (fun z cs _ hz => kk z _ _ _ hz (by decide))
    by_cases e : i = j
    · subst e
      rw [if_pos rfl] at hj
      split at hj
      · injection hj with hj
        subst hj
        have hO : OwnM w base w.heap.size (some ⟨b, 0, none⟩) m.mc m.v.ms := by
          have := hv.mod
          unfold Vm.mod at this
          rw [hM] at this
          exact ⟨this, fun z e => (this.lt z e).2⟩
        have hO2 := (hO.setPole (p := p) (q := q) hk).1
        refine ⟨?_, fun z e => hv.mS z (by rw [← withM_mod hl]; exact e), ?_, hv.S0, ?_, hv.ic⟩
        · show World.ownsRow _ base _ 2 (.slice m.M _ m.mc) _ _
          rw [hM]; exact hO2
        · have hst := hv.sts
          have hb : (w.setCell ⟨b, k * 2, none⟩ (.complex .f32 p q)).heap[m.S]? = w.heap[m.S]? := by
            obtain ⟨cs, hc⟩ := rowIs_ty hst
            exact kk _ _ _ _ hc (by decide)
          show World.rowIs _ m.S _ (m.v.ms.set k _).length _
          rw [hl]
          exact hst.of_block hb
        · exact hv.inp.keep (fun z cs _ hz => kk z _ _ _ hz (by decide))
      · cases hj
    · rw [if_neg e] at hj
      exact rest x (h.vo x (List.mem_of_getElem? hj)) (fun e2 => (apart_ne h.apart hm hj e).1 b hob e2)
end Go.Proofs.YtndnfhhdflmfcaaGreat

/-
impl.player.happen: the walk of a damp.
-/
namespace Go.Proofs.YtndnfhhdflmfcaaGreat
open Go Go.RowKit Ieee

/-- What a damp does to a voice. -/
def dV (y : Int) (f : Nat) (v : Vp) : Vp := if v.body = y then v.damp f else v
/-- A voice's modes, damped up to mode k where its body is y. -/
def DampTo (y : Int) (f : Nat) (v : Vp) (k : Nat) (C : List MW) : Prop := if v.body = y then Damped f v.ms k C else C = v.ms
theorem DampTo.zero (y : Int) (f : Nat) (v : Vp) : DampTo y f v 0 v.ms := by
  unfold DampTo
  split
  · exact Damped.zero _ _
  · rfl
theorem DampTo.len {y : Int} {f k : Nat} {v : Vp} {C : List MW} (h : DampTo y f v k C) : C.length = v.ms.length := by
  unfold DampTo at h
  split at h
  · exact h.1
  · rw [h]
theorem DampTo.done {y : Int} {f : Nat} {m : Vm} {C : List MW} (h : DampTo y f m.v m.v.ms.length C) : (m.withM C).v = dV y f m.v := by
  unfold DampTo at h
  unfold dV
  by_cases e : m.v.body = y
  · rw [if_pos e] at h ⊢
    rw [h.done]; rfl
  · rw [if_neg e] at h ⊢
    rw [h]; rfl
/-- The first i voices have been damped. -/
def DmAll (y : Int) (f : Nat) (ms : List Vm) (i : Nat) (L : List Vm) : Prop := L.length = ms.length ∧ ∀ j x, L[j]? = some x → ∃ m, ms[j]? = some m ∧ x.v = if j < i then dV y f m.v else m.v
theorem DmAll.zero (y : Int) (f : Nat) (ms : List Vm) : DmAll y f ms 0 ms := ⟨rfl, fun j x h => ⟨x, h, by rw [if_neg (by omega)]⟩⟩
theorem DmAll.set {y : Int} {f i : Nat} {ms L : List Vm} {x z : Vm} (h : DmAll y f ms i L) (hx : L[i]? = some x) (hz : z.v = dV y f x.v) : DmAll y f ms (i + 1) (L.set i z) := by
  refine ⟨by simpa using h.1, fun j u hu => ?_⟩
  rw [List.getElem?_set] at hu
  by_cases e : i = j
  · subst e
    rw [if_pos rfl] at hu
    split at hu
    · injection hu with hu
      subst hu
      obtain ⟨m, h1, h2⟩ := h.2 i x hx
      rw [if_neg (by omega)] at h2
      exact ⟨m, h1, by rw [if_pos (by omega), hz, h2]⟩
    · cases hu
  · rw [if_neg e] at hu
    obtain ⟨m, h1, h2⟩ := h.2 j u hu
    refine ⟨m, h1, ?_⟩
    rw [h2]
    by_cases e' : j < i
    · rw [if_pos e', if_pos (by omega)]
    · rw [if_neg e', if_neg (by omega)]
theorem DmAll.done {y : Int} {f : Nat} {ms L : List Vm} (h : DmAll y f ms ms.length L) : L.map Vm.v = (ms.map Vm.v).map (dV y f) := by
  refine List.ext_getElem? fun j => ?_
  rw [List.getElem?_map, List.getElem?_map, List.getElem?_map]
  rcases Nat.lt_or_ge j L.length with hj | hj
  · obtain ⟨m, h1, h2⟩ := h.2 j L[j] (List.getElem?_eq_getElem hj)
    rw [List.getElem?_eq_getElem hj, h1]
    rw [if_pos (by have := h.1; omega)] at h2
    simp [h2]
  · rw [List.getElem?_eq_none hj, List.getElem?_eq_none (by have := h.1; omega)]
    rfl
theorem SIn.drewN {w0 w : World} {P pb eb : Nat} {c : Pc} {done now : Nat} {ms : List Vm} {begun : Int} {e : Ev} {vV vT : Value} (h : SIn w0 w P pb eb c done now ms begun e vV vT) (n : Nat) : SIn w0 (w.drewN n) P pb eb c done now ms begun e vV vT := h.new (below_drewN (Below.refl _ _) n)
/-- A pole is stored: all else stays. -/
theorem SIn.setPole {w0 w : World} {P pb eb done now : Nat} {c : Pc} {vV vT : Value} {L : List Vm} {begun : Int} {e : Ev} {i k b p q : Nat} {x : Vm} {C : List MW} (h : SIn w0 w P pb eb c done now (L.set i (x.withM C)) begun e vV vT) (hi : i < L.length) (hk : k < C.length) (hM : x.M = some ⟨b, 0, none⟩) :
    SIn w0 (w.setCell ⟨b, k * 2, none⟩ (.complex .f32 p q)) P pb eb c done now (L.set i (x.withM (C.set k (p, q, (mAt C k).2.2)))) begun e vV vT := by
  have hm : (L.set i (x.withM C))[i]? = some (x.withM C) := by simp [hi]
  have h1 := h.pl.setPole (p := p) (q := q) (b := b) (k := k) hm hk hM
  rw [List.set_set] at h1
  refine ⟨h1, h.hi.grown (grown_set _ _) fun z q => ?_⟩
  injection q with q
  subst q
  have hv := (h.pl.vo (x.withM C) (List.mem_of_getElem? hm)).mod
  obtain ⟨cs, hc⟩ := owns_ty hv (k := b) (by unfold Vm.mod Vm.withM; simp only [hM]; rfl)
  exact ⟨cs, _, _, hc, by decide, by decide⟩
/-- The modes of a voice in a player. -/
theorem SIn.own {w0 w : World} {P pb eb done now : Nat} {c : Pc} {vV vT : Value} {L : List Vm} {begun : Int} {e : Ev} {i : Nat} {x : Vm} {C : List MW} (h : SIn w0 w P pb eb c done now (L.set i (x.withM C)) begun e vV vT) (hi : i < L.length) : OwnM w w0.heap.size w.heap.size x.M x.mc C := by
  have hm : (L.set i (x.withM C))[i]? = some (x.withM C) := by simp [hi]
  have hv := (h.pl.vo (x.withM C) (List.mem_of_getElem? hm)).mod
  exact ⟨hv, fun z e => (hv.lt z e).2⟩

set_option maxRecDepth 100000 in
set_option maxHeartbeats 6400000 in
theorem damp_any {w0 w : World} {P done now : Nat} {c : Pc} {vV vT : Value} {ms : List Vm} {begun : Int} (e : Ev) (h : PlIn w0 w w0.heap.size P c done now vV vT ms begun) (hk : e.2.1 = 2) (hf : FacOk e.2.2.2.2.2) (hms : ms.length ≤ 16) (hmo : ∀ m ∈ ms, ModesOk m.v.ms ∧ m.v.ms.length ≤ 4) :
    Calls Tryz.prog 97 #[.pointer (some ⟨P, 0, none⟩), .agg #[.int .i64 e.1, .int .i64 e.2.1, .int .i64 e.2.2.1, .int .i64 e.2.2.2.1, .int .i64 e.2.2.2.2.1, .float .f32 e.2.2.2.2.2]] w (HapP w0 P c done now ms begun e) := by
  obtain ⟨at', kd, bo, sh, co, fo'⟩ := e
  simp only at hk
  subst hk
  have hW := Lib.hid (SIn.mk (h.alloc (.cells #[.pointer (some ⟨P, 0, none⟩)] 47) |>.alloc (.cells #[.int .i64 at', .int .i64 2, .int .i64 bo, .int .i64 sh, .int .i64 co, .float .f32 fo'] 71))
    (pb := w.heap.size) (eb := w.heap.size + 1) (e := (at', 2, bo, sh, co, fo')) ⟨(Below.heap_alloc _ _ _ (by simp)).trans (heap_alloc_new w _), by
      have := heap_alloc_new (w.alloc (.cells #[.pointer (some ⟨P, 0, none⟩)] 47)) (.cells #[.int .i64 at', .int .i64 2, .int .i64 bo, .int .i64 sh, .int .i64 co, .float .f32 fo'] 71)
      rwa [show (w.alloc (.cells #[.pointer (some ⟨P, 0, none⟩)] 47)).heap.size = w.heap.size + 1 by simp] at this⟩)
  have HMO := Lib.hid hmo
  have HF : Hid (FacOk fo') := hf
  clear h hmo hf
  obtain ⟨VA, vc, rfl⟩ := owns_form hW.out.pl.vrow
  have c0 := cell_of_row _ _ 0 _ _ (0, 0) hW.out.hi.bp
  have cP := pl_cells hW.out.pl.box
  have c9 := cP.2.2.2.2.2.2.2.2.2.1
  clear cP
  go_enter Tryz.func97, Tryz.ntmps97
  go_wp2_with fail
  clear c0 c9
  generalize (w.alloc (.cells #[.pointer (some ⟨P, 0, none⟩)] 47)).alloc (.cells #[.int .i64 at', .int .i64 2, .int .i64 bo, .int .i64 sh, .int .i64 co, .float .f32 fo'] 71) = W at *
  generalize w.heap.size + 1 = eb at *
  generalize w.heap.size = pb at *
  go_loopw [93] (fun i wr => ∃ (k : Nat) (L : List Vm), i = .int .i64 (k : Int) ∧ k ≤ ms.length ∧ Hid (DmAll bo fo' ms k L) ∧ Hid (SIn w0 wr P pb eb c done now L begun (at', 2, bo, sh, co, fo') (.slice VA ms.length vc) vT)) (fun i _ => ms.length - (intOf i).toNat)
  case atStart => exact ⟨0, ms, rfl, by omega, DmAll.zero _ _ _, hW.out⟩
  case round =>
    clear hW
    obtain ⟨i, L, rfl, hi, HD, HS⟩ := hrel
    by_cases hlt : i < ms.length
    · have hLl : i < L.length := by rw [HD.out.1]; exact hlt
      obtain ⟨x, hx⟩ : ∃ x, L[i]? = some x := ⟨L[i], List.getElem?_eq_getElem hLl⟩
      have HX := Lib.hid hx
      obtain ⟨m0, hm0, hxv⟩ := HD.out.2 i x hx
      rw [if_neg (by omega)] at hxv
      have HXM : Hid (ModesOk x.v.ms ∧ x.v.ms.length ≤ 4) := by
        rw [hxv]; exact HMO.out m0 (List.mem_of_getElem? hm0)
      have HL : Hid (L.length = ms.length) := HD.out.1
      have hvr := HS.out.pl.vrow
      rw [HL.out] at hvr
      obtain ⟨b, vc', hbe, _, hbl, hv1, hv2, _, hcell⟩ := owns_cells hvr (by omega) (by rw [flatV_len, HL.out])
      injection hbe with q1 _ q3
      subst q1 q3
      have e0 := hcell _ _ (flatV_at hx).1
      have e1 := hcell _ _ (flatV_at hx).2.1
      have e2 := hcell _ _ (flatV_at hx).2.2.1
      have e3 := hcell _ _ (flatV_at hx).2.2.2
      have HC : Hid (∀ W', Below wr.heap.size wr W' → SIn w0 W' P pb eb c done now (L.set i (x.withM x.v.ms)) begun (at', 2, bo, sh, co, fo') (.slice (some ⟨b, 0, none⟩) ms.length vc) vT) := fun W' hb => by
        rw [withM_self, show L.set i x = L from by
          refine List.ext_getElem? fun j => ?_
          rw [List.getElem?_set]
          by_cases e : i = j
          · subst e; rw [if_pos rfl, if_pos hLl, HX.out]
          · rw [if_neg e]]
        exact HS.out.new hb
      have hn4 : x.v.ms.length ≤ 4 := HXM.out.2
      have HSa := Lib.hid (HC.out (wr.alloc (.cells #[.int .i64 x.v.body, .slice x.M x.v.ms.length x.mc, .slice (some ⟨x.S, 0, none⟩) x.v.ms.length x.v.ms.length, .slice x.I x.v.xs.length x.ic] 59)) ((Below.refl _ _).alloc (Nat.le_refl _) _))
      have HVa := Lib.hid (heap_alloc_new wr (.cells #[.int .i64 x.v.body, .slice x.M x.v.ms.length x.mc, .slice (some ⟨x.S, 0, none⟩) x.v.ms.length x.v.ms.length, .slice x.I x.v.xs.length x.ic] 59))
      have c81 := cell_of_row _ _ 1 _ _ (0, 0) HVa.out
      clear hcell hvr hx hm0 hxv
      go_wp2_with fail
      clear e0 e1 e2 e3 c81
      generalize wr.alloc (.cells #[.int .i64 x.v.body, .slice x.M x.v.ms.length x.mc, .slice (some ⟨x.S, 0, none⟩) x.v.ms.length x.v.ms.length, .slice x.I x.v.xs.length x.ic] 59) = Wa at *
      clear HS HC
      have hvb : wr.heap.size = wr.heap.size := rfl
      generalize wr.heap.size = vb at *
      go_loopw [100] (fun j wr => ∃ (k : Nat) (C : List MW), j = .int .i64 (k : Int) ∧ k ≤ x.v.ms.length ∧ Hid (DampTo bo fo' x.v k C) ∧ Hid (SIn w0 wr P pb eb c done now (L.set i (x.withM C)) begun (at', 2, bo, sh, co, fo') (.slice (some ⟨b, 0, none⟩) ms.length vc) vT) ∧
        Hid (wr.heap[vb]? = some (.cells #[.int .i64 x.v.body, .slice x.M x.v.ms.length x.mc, .slice (some ⟨x.S, 0, none⟩) x.v.ms.length x.v.ms.length, .slice x.I x.v.xs.length x.ic] 59 (0, 0)))) (fun j _ => x.v.ms.length - (intOf j).toNat)
      case atStart => exact ⟨0, x.v.ms, rfl, by omega, DampTo.zero _ _ _, HSa.out, HVa.out⟩
      case round =>
        clear HSa HVa
        obtain ⟨k, C, rfl, hk, HD2, HS2, HV2⟩ := hrel
        have HCl : Hid (C.length = x.v.ms.length) := HD2.out.len
        by_cases hlt2 : k < x.v.ms.length
        · have c80 := cell_of_row _ _ 0 _ _ (0, 0) HV2.out
          have c82 := cell_of_row _ eb 2 _ _ (0, 0) HS2.out.hi.be
          by_cases hbo : x.v.body = bo
          · have hd : (x.v.body == bo) = true := by simpa using hbo
            have HBO := Lib.hid hbo
            clear hbo
            have hDm : Damped fo' x.v.ms k C := by have := HD2.out; unfold DampTo at this; rwa [if_pos HBO.out] at this
            have hm : mAt C k = mAt x.v.ms k := by have := hDm.2 k hlt2; rwa [if_neg (by omega)] at this
            have HO := Lib.hid (HS2.out.own hLl)
            have hkC : k < C.length := by rw [HCl.out]; exact hlt2
            obtain ⟨mb, hMe, _, _, hlc, hmx, hmcell⟩ := HO.out.cells (by omega)
            have HME := Lib.hid hMe
            rw [hMe] at HV2
            have f0 : ∀ n, (wr.drewN n).frozen? ⟨mb, k * 2, none⟩ = false := fun n => by
              have h0 := HO.out
              rw [HME.out] at h0
              exact h0.frozen (k * 2)
            have ec : wr.cell? ⟨mb, k * 2, none⟩ = some (.complex .f32 (mAt x.v.ms k).1 (mAt x.v.ms k).2.1) := by rw [← hm]; exact (hmcell k hkC).1
            have T := Lib.hid (fun W => implScaleS_any (mAt x.v.ms k).1 (mAt x.v.ms k).2.1 fo' W (damp_fin (HXM.out.1.at_ hlt2) HF.out).1 (damp_fin (HXM.out.1.at_ hlt2) HF.out).2)
            have HD3 : Hid (DampTo bo fo' x.v (k + 1) (C.set k (dampM fo' (mAt x.v.ms k)))) := by
              show DampTo _ _ _ _ _
              unfold DampTo
              rw [if_pos HBO.out]
              exact hDm.set hlt2
            have HS3 : Hid (∀ n, SIn w0 ((wr.drewN n).setCell ⟨mb, k * 2, none⟩ (.complex .f32 (fo .mul .f32 (mAt x.v.ms k).1 fo') (fo .mul .f32 (mAt x.v.ms k).2.1 fo'))) P pb eb c done now (L.set i (x.withM (C.set k (dampM fo' (mAt x.v.ms k))))) begun (at', 2, bo, sh, co, fo') (.slice (some ⟨b, 0, none⟩) ms.length vc) vT) := fun n => by
              have := (HS2.out.drewN n).setPole (p := fo .mul .f32 (mAt x.v.ms k).1 fo') (q := fo .mul .f32 (mAt x.v.ms k).2.1 fo') hLl hkC HME.out
              rw [hm] at this
              exact this
            have HV3 : Hid (∀ n v, ((wr.drewN n).setCell ⟨mb, k * 2, none⟩ v).heap[vb]? = some (.cells #[.int .i64 x.v.body, .slice (some ⟨mb, 0, none⟩) x.v.ms.length x.mc, .slice (some ⟨x.S, 0, none⟩) x.v.ms.length x.v.ms.length, .slice x.I x.v.xs.length x.ic] 59 (0, 0))) := fun n v => by
              obtain ⟨cs, hc⟩ := owns_ty HO.out.1 (k := mb) (by rw [HME.out]; rfl)
              exact (Below.heap_setCell _ _ _ _ (by intro e; exact ty_ne HV2.out hc (by decide) e)).trans HV2.out
            have c81 := cell_of_row _ _ 1 _ _ (0, 0) HV2.out
            have c85 := cell_of_row _ eb 5 _ _ (0, 0) HS2.out.hi.be
            clear hmcell hm hDm hMe
            generalize (mAt x.v.ms k).1 = p at *
            generalize (mAt x.v.ms k).2.1 = q at *
            go_wp2_with fail
            go_region_with (first
              | (go_at_call 114
                 refine (T.out _).mono ?_
                 rintro e w' ⟨rfl, nq, rfl⟩))
            all_goals
             go_wp2_with fail
             go_roundw
             case rel =>
              refine ⟨k + 1, _, by go_num, by omega, HD3.out, HS3.out _, ?_⟩
              have := HV3.out
              rw [← HME.out] at this
              exact this _ _
             case measure => simp [intOf]; omega
          · have hd : (x.v.body == bo) = false := by simpa using hbo
            have HBO := Lib.hid hbo
            clear hbo
            have HD3 : Hid (DampTo bo fo' x.v (k + 1) C) := by
              have := HD2.out
              show DampTo _ _ _ _ _
              unfold DampTo at this ⊢
              rw [if_neg HBO.out] at this ⊢
              exact this
            go_wp2_with fail
            go_roundw
            case rel => exact ⟨k + 1, C, by go_num, by omega, HD3.out, HS2.out, HV2.out⟩
            case measure => simp [intOf]; omega
        · have hkn : x.v.ms.length = k := by omega
          have HD3 : Hid (DampTo bo fo' x.v x.v.ms.length C) := by
            have := HD2.out
            rw [← hkn] at this
            exact this
          have HDn : Hid (DmAll bo fo' ms (i + 1) (L.set i (x.withM C))) := HD.out.set HX.out HD3.out.done
          clear HD2 HD3
          subst hkn
          go_wp2_with fail
          go_roundw
          case rel => exact ⟨i + 1, _, by go_num, by omega, HDn.out, HS2.out⟩
          case measure => simp [intOf]; omega
    · have hkn : ms.length = i := by omega
      subst hkn
      have HDn : Hid (L.map Vm.v = (ms.map Vm.v).map (dV bo fo')) := HD.out.done
      go_wp2_with fail
      go_end0
      exact ⟨rfl, _, vT, L, begun, HS.out.pl, by rw [HDn.out]; rfl⟩
end Go.Proofs.YtndnfhhdflmfcaaGreat

/-
impl.player.happen at any event; impl.player.arrive.
-/
namespace Go.Proofs.YtndnfhhdflmfcaaGreat
open Go Go.RowKit Ieee

/-- What is known of a player: its voices are valid, no more than it may have. -/
structure PvOk (t : Nat) (most : Int) (p : Pl) : Prop where
  vs : ∀ v ∈ p.vs, VpOk t v
  len : (p.vs.length : Int) ≤ most
  b0 : 0 ≤ p.begun
theorem PvOk.mono {t t' : Nat} {most : Int} {p : Pl} (h : PvOk t most p) (ht : t ≤ t') : PvOk t' most p := ⟨fun v hv => (h.vs v hv).mono ht, h.len, h.b0⟩
/-- What is known of a player's constants. -/
structure PcOk (L most : Int) (c : Pc) : Prop where
  bods : BodsOk c.bs 4 3
  v1 : 1 ≤ c.s.2.1
  v8 : c.s.2.1 ≤ 8
  evs : ∀ e ∈ c.L, EvOk L c.bs.length e
  len : c.L.length ≤ 19
  most : most = c.s.2.1
theorem eAt_mem {L : List Ev} {i : Nat} (h : i < L.length) : eAt L i ∈ L := by
  unfold eAt
  simp only [List.getD, List.getElem?_eq_getElem h]
  exact List.getElem_mem h
theorem Pl.happen_ok {t : Nat} {most L : Int} {bs : List Bd} {p : Pl} {e : Ev} (h : PvOk t most p) (hm : 1 ≤ most) (hb : BodsOk bs 4 3) (he : EvOk L bs.length e) : PvOk t most (p.happen (bmOf bs) most e) := by
  unfold Pl.happen
  have h0 := h.b0
  have hl := h.len
  by_cases h1 : e.2.1 = 1
  · rw [if_pos h1]
    have hbi : e.2.2.1.toNat < bs.length := by have := he.b0; have := he.b1; omega
    have hn : VpOk t (Vp.new (bmOf bs e.2.2.1) e p.begun) := VpOk.new (hb.2 _ hbi).1 (hb.2 _ hbi).2 he h1
    by_cases hf : most ≤ (p.vs.length : Int)
    · rw [if_pos hf]
      refine ⟨fun v hv => ?_, ?_, ?_⟩
      · rcases List.mem_append.1 hv with hv | hv
        · exact h.vs v (List.mem_of_mem_drop hv)
        · rw [List.mem_singleton.1 hv]; exact hn
      · simp; omega
      · show 0 ≤ p.begun + 1
        omega
    · rw [if_neg hf]
      refine ⟨fun v hv => ?_, ?_, ?_⟩
      · rcases List.mem_append.1 hv with hv | hv
        · exact h.vs v hv
        · rw [List.mem_singleton.1 hv]; exact hn
      · simp; omega
      · show 0 ≤ p.begun + 1
        omega
  · rw [if_neg h1]
    by_cases h2 : e.2.1 = 2
    · rw [if_pos h2]
      have hf : FacOk e.2.2.2.2.2 := by
        rcases he.kind with ⟨q, _⟩ | ⟨_, _, _, _, q⟩ | ⟨q, _⟩
        · omega
        · exact q
        · omega
      refine ⟨fun v hv => ?_, by simpa using hl, h0⟩
      obtain ⟨u, hu, rfl⟩ := List.mem_map.1 hv
      by_cases hx : u.body = e.2.2.1
      · rw [if_pos hx]; exact (h.vs u hu).damp hf
      · rw [if_neg hx]; exact h.vs u hu
    · rw [if_neg h2]
      refine ⟨fun v hv => h.vs v (List.mem_filter.1 hv).1, ?_, h0⟩
      have := List.length_filter_le (fun v : Vp => !(v.body == e.2.2.1)) p.vs
      show ((p.vs.filter fun v => !(v.body == e.2.2.1)).length : Int) ≤ most
      omega
theorem Pl.happen_begun {bm : Int → List MW} {most : Int} {p : Pl} {e : Ev} : (p.happen bm most e).begun ≤ p.begun + 1 := by
  unfold Pl.happen
  split
  · exact Int.le_refl _
  · split
    · show p.begun ≤ p.begun + 1
      omega
    · show p.begun ≤ p.begun + 1
      omega
theorem happen_any {w0 w : World} {P done now t : Nat} {c : Pc} {vV vT : Value} {ms : List Vm} {begun L most : Int} {lo : Nat} (e : Ev) (h : PlIn w0 w w0.heap.size P c done now vV vT ms begun) (hbods : BodsIn w0 lo w0.heap.size c.B c.bs) (hc : PcOk L most c) (he : EvOk L c.bs.length e) (hp : PvOk t most ⟨ms.map Vm.v, begun⟩) (hb1 : begun ≤ 100) :
    Calls Tryz.prog 97 #[.pointer (some ⟨P, 0, none⟩), .agg #[.int .i64 e.1, .int .i64 e.2.1, .int .i64 e.2.2.1, .int .i64 e.2.2.2.1, .int .i64 e.2.2.2.2.1, .float .f32 e.2.2.2.2.2]] w (HapP w0 P c done now ms begun e) := by
  have hl : (ms.length : Int) ≤ c.s.2.1 := by have := hp.len; rw [hc.most] at this; simpa using this
  have h8 := hc.v8
  rcases he.kind with ⟨q, _⟩ | ⟨q, _, _, _, hf⟩ | ⟨q, _⟩
  · exact strike_any (t := t) e h hbods hc.bods he q hc.v1 hc.v8 hl hp.b0 hb1
  · exact damp_any e h q hf (by omega) (fun m hm => ⟨(hp.vs m.v (List.mem_map_of_mem hm)).ms, (hp.vs m.v (List.mem_map_of_mem hm)).lm⟩)
  · exact stop_any e h q (by omega)

theorem drop_eAt {L : List Ev} {i : Nat} (h : i < L.length) : L.drop i = eAt L i :: L.drop (i + 1) := by
  rw [List.drop_eq_getElem_cons h]
  simp [eAt, List.getD, List.getElem?_eq_getElem h]
/-- What arrive does. -/
def ArrP (w0 : World) (P : Nat) (c : Pc) (done now : Nat) (ms : List Vm) (begun : Int) (r : Ending) (w' : World) : Prop :=
  r = .returned (.tuple #[]) ∧ ∃ d' vV' vT' ms' b', PlIn w0 w' w0.heap.size P c d' now vV' vT' ms' b' ∧ done ≤ d' ∧ d' ≤ c.L.length ∧
    arriveP (bmOf c.bs) c.s.2.1 now (c.L.drop done) ⟨ms.map Vm.v, begun⟩ = (d' - done, ⟨ms'.map Vm.v, b'⟩)
/-- Where the walk of arrive is. -/
structure AIn (w0 w : World) (P : Nat) (c : Pc) (done now t : Nat) (most : Int) (p0 : Pl) (d : Nat) (ms : List Vm) (begun : Int) (vV vT : Value) : Prop where
  pl : PlIn w0 w w0.heap.size P c d now vV vT ms begun
  d0 : done ≤ d
  d1 : d ≤ c.L.length
  ok : PvOk t most ⟨ms.map Vm.v, begun⟩
  bd : begun ≤ d
  eq : arriveP (bmOf c.bs) c.s.2.1 now (c.L.drop done) p0 = ((arriveP (bmOf c.bs) c.s.2.1 now (c.L.drop d) ⟨ms.map Vm.v, begun⟩).1 + (d - done), (arriveP (bmOf c.bs) c.s.2.1 now (c.L.drop d) ⟨ms.map Vm.v, begun⟩).2)

set_option maxRecDepth 100000 in
set_option maxHeartbeats 6400000 in
theorem arrive_any {w0 w : World} {P done now t : Nat} {c : Pc} {vV vT : Value} {ms : List Vm} {begun L most : Int} {lo : Nat} (h : PlIn w0 w w0.heap.size P c done now vV vT ms begun) (hbods : BodsIn w0 lo w0.heap.size c.B c.bs) (hc : PcOk L most c) (hp : PvOk t most ⟨ms.map Vm.v, begun⟩) (hd : done ≤ c.L.length) (hb : begun ≤ done) :
    Calls Tryz.prog 70 #[.pointer (some ⟨P, 0, none⟩)] w (ArrP w0 P c done now ms begun) := by
  have HC := Lib.hid hc
  have HB := Lib.hid hbods
  have hlen : c.L.length ≤ 19 := hc.len
  have HA : Hid (AIn w0 w P c done now t most ⟨ms.map Vm.v, begun⟩ done ms begun vV vT) := ⟨h, Nat.le_refl _, hd, hp, hb, by simp⟩
  clear h hbods hc hp hd hb
  go_enter Tryz.func70, Tryz.ntmps70
  go_wp2_with fail
  go_loopw [] (fun wr => ∃ (d : Nat) (ms' : List Vm) (b' : Int) (vV' vT' : Value), Hid (AIn w0 wr P c done now t most ⟨ms.map Vm.v, begun⟩ d ms' b' vV' vT')) (fun wr => c.L.length - (intOf ((wr.cell? ⟨P, 7, none⟩).getD (.int .i64 0))).toNat)
  case atStart => exact ⟨done, ms, begun, vV, vT, HA⟩
  case round =>
    clear HA
    obtain ⟨d, ms', b', vV', vT', HA⟩ := hrel
    have hd1 : d ≤ c.L.length := HA.out.d1
    have cP := pl_cells HA.out.pl.box
    have c6 := cP.2.2.2.2.2.2.1
    have c7 := cP.2.2.2.2.2.2.2.1
    have c8 := cP.2.2.2.2.2.2.2.2.1
    have H7 := Lib.hid c7
    clear cP
    by_cases hlt : d < c.L.length
    · have j1 : (d : Int) < (c.L.length : Int) := by omega
      obtain ⟨b, hA, _, _, hbw, hlc, hcm, hcell⟩ := (OwnE.of HA.out.pl.ev).cells (by omega)
      obtain ⟨e0, e1, e2, e3, e4, e5⟩ := hcell d hlt
      rw [hA] at c6
      have HE : Hid (EvOk L c.bs.length (eAt c.L d)) := HC.out.evs _ (eAt_mem hlt)
      have HDr := Lib.hid (drop_eAt hlt)
      by_cases hnow : (eAt c.L d).1 = (now : Int)
      · have hdd : ((eAt c.L d).1 == (now : Int)) = true := by simpa using hnow
        have HNOW := Lib.hid hnow
        clear hcell hnow
        go_wp2_with fail
        go_quiet (fail)
        go_wp2_with fail
        have HA1 : Hid (PlIn w0 (wr.drewN nq).drew w0.heap.size P c d now vV' vT' ms' b') := (HA.out.pl.drewN nq).drewN 1
        have HAo := Lib.hid HA.out.ok
        have hbd : b' ≤ d := HA.out.bd
        have HAe := Lib.hid HA.out.eq
        have hd0 : done ≤ d := HA.out.d0
        have HEQ : Hid (c.A = some ⟨b, 0, none⟩) := hA
        have HM : Hid (intOf ((wr.cell? ⟨P, 7, none⟩).getD (.int .i64 0)) = (d : Int)) := Lib.hid (by rw [H7.out]; rfl)
        have HCC : Hid (∀ W' vV vT ms b', PlIn w0 W' w0.heap.size P c d now vV vT ms b' → W'.cell? ⟨P, 6, none⟩ = some (.slice (some ⟨b, 0, none⟩) c.L.length c.c) ∧ W'.cell? ⟨P, 7, none⟩ = some (.int .i64 d) ∧
            W'.cell? ⟨b, d * 6, none⟩ = some (.int .i64 (eAt c.L d).1) ∧ W'.cell? ⟨b, d * 6 + 1, none⟩ = some (.int .i64 (eAt c.L d).2.1) ∧ W'.cell? ⟨b, d * 6 + 2, none⟩ = some (.int .i64 (eAt c.L d).2.2.1) ∧
            W'.cell? ⟨b, d * 6 + 3, none⟩ = some (.int .i64 (eAt c.L d).2.2.2.1) ∧ W'.cell? ⟨b, d * 6 + 4, none⟩ = some (.int .i64 (eAt c.L d).2.2.2.2.1) ∧ W'.cell? ⟨b, d * 6 + 5, none⟩ = some (.float .f32 (eAt c.L d).2.2.2.2.2)) := Lib.hid (fun W' vV vT ms b' hp => by
          have cP := pl_cells hp.box
          have c6 := cP.2.2.2.2.2.2.1
          rw [HEQ.out] at c6
          obtain ⟨b2, hA2, _, _, _, _, _, hcell2⟩ := (OwnE.of hp.ev).cells (by omega)
          rw [HEQ.out] at hA2
          injection hA2 with hA2
          injection hA2 with hA2
          subst hA2
          exact ⟨c6, cP.2.2.2.2.2.2.2.1, hcell2 d hlt⟩)
        clear c6 c7 c8 e0 e1 e2 e3 e4 e5 hA HA H7 hdd
        refine wp_region_held_drew (S := fun W' => W'.cell? ⟨P, 6, none⟩ = some (.slice (some ⟨b, 0, none⟩) c.L.length c.c) ∧ W'.cell? ⟨P, 7, none⟩ = some (.int .i64 d) ∧
            W'.cell? ⟨b, d * 6, none⟩ = some (.int .i64 (eAt c.L d).1) ∧ W'.cell? ⟨b, d * 6 + 1, none⟩ = some (.int .i64 (eAt c.L d).2.1) ∧ W'.cell? ⟨b, d * 6 + 2, none⟩ = some (.int .i64 (eAt c.L d).2.2.1) ∧
            W'.cell? ⟨b, d * 6 + 3, none⟩ = some (.int .i64 (eAt c.L d).2.2.2.1) ∧ W'.cell? ⟨b, d * 6 + 4, none⟩ = some (.int .i64 (eAt c.L d).2.2.2.2.1) ∧ W'.cell? ⟨b, d * 6 + 5, none⟩ = some (.float .f32 (eAt c.L d).2.2.2.2.2)) (by kernel_rfl) (HCC.out _ _ _ _ _ HA1.out) (fun hHeld => ?_)
        generalize hev : eAt c.L d = ev at *
        generalize (wr.drewN nq).drew = W1 at *
        refine wpAnyH_take (i := 0) (oi := _) (v := ?_) rfl (by kernel_rfl) (by kernel_rfl) (by kernel_rfl) (fun _ _ _ h => h) (Or.inl ⟨by rfl, ?_⟩) (by assumption) ?_
        rotate_left
        · (intro w hSw; (try dsimp only at hSw); go_simp; try (with_reducible rfl))
        (try simp only [Act.put, List.setIfInBounds_toArray, List.set_cons_zero, List.set_cons_succ, List.getElem_toArray, List.getElem_cons_succ, List.getElem_cons_zero])
        refine wpAnyH_take (i := 1) (oi := _) (v := ?_) rfl (by kernel_rfl) (by kernel_rfl) (by kernel_rfl) (fun _ _ _ h => h) (Or.inl ⟨by rfl, ?_⟩) (by assumption) ?_
        rotate_left
        · (intro w hSw; (try dsimp only at hSw); go_simp; try (with_reducible rfl))
        (try simp only [Act.put, List.setIfInBounds_toArray, List.set_cons_zero, List.set_cons_succ, List.getElem_toArray, List.getElem_cons_succ, List.getElem_cons_zero])
        refine wpAnyH_take (i := 2) (oi := _) (v := ?_) rfl (by kernel_rfl) (by kernel_rfl) (by kernel_rfl) (fun _ _ _ h => h) (Or.inl ⟨by rfl, ?_⟩) (by assumption) ?_
        rotate_left
        · (intro w hSw; (try dsimp only at hSw); go_simp; try (with_reducible rfl))
        (try simp only [Act.put, List.setIfInBounds_toArray, List.set_cons_zero, List.set_cons_succ, List.getElem_toArray, List.getElem_cons_succ, List.getElem_cons_zero])
        refine wpAnyH_take (i := 3) (oi := _) (v := ?_) rfl (by kernel_rfl) (by kernel_rfl) (by kernel_rfl) (fun _ _ _ h => h) (Or.inl ⟨by rfl, ?_⟩) (by assumption) ?_
        rotate_left
        · (intro w hSw; (try dsimp only at hSw); go_simp; try (with_reducible rfl))
        (try simp only [Act.put, List.setIfInBounds_toArray, List.set_cons_zero, List.set_cons_succ, List.getElem_toArray, List.getElem_cons_succ, List.getElem_cons_zero])
        refine wpAnyH_take (i := 4) (oi := _) (v := ?_) rfl (by kernel_rfl) (by kernel_rfl) (by kernel_rfl) (fun _ _ _ h => h) (Or.inl ⟨by rfl, ?_⟩) (by assumption) ?_
        rotate_left
        · (intro w hSw; (try dsimp only at hSw); go_simp; try (with_reducible rfl))
        (try simp only [Act.put, List.setIfInBounds_toArray, List.set_cons_zero, List.set_cons_succ, List.getElem_toArray, List.getElem_cons_succ, List.getElem_cons_zero])
        refine wpAnyH_take (i := 5) (oi := _) (v := ?_) rfl (by kernel_rfl) (by kernel_rfl) (by kernel_rfl) (fun _ _ _ h => h) (Or.inl ⟨by rfl, ?_⟩) (by assumption) ?_
        rotate_left
        · (intro w hSw; (try dsimp only at hSw); go_simp; try (with_reducible rfl))
        (try simp only [Act.put, List.setIfInBounds_toArray, List.set_cons_zero, List.set_cons_succ, List.getElem_toArray, List.getElem_cons_succ, List.getElem_cons_zero])
        refine wpAnyH_take (i := 6) (oi := _) (v := ?_) rfl (by kernel_rfl) (by kernel_rfl) (by kernel_rfl) (fun _ _ _ h => h) (Or.inl ⟨by rfl, ?_⟩) (by assumption) ?_
        rotate_left
        · (intro w hSw; (try dsimp only at hSw); go_simp; try (with_reducible rfl))
        (try simp only [Act.put, List.setIfInBounds_toArray, List.set_cons_zero, List.set_cons_succ, List.getElem_toArray, List.getElem_cons_succ, List.getElem_cons_zero])
        refine wpAnyH_take (i := 7) (oi := _) (v := ?_) rfl (by kernel_rfl) (by kernel_rfl) (by kernel_rfl) (fun _ _ _ h => h) (Or.inl ⟨by rfl, ?_⟩) (by assumption) ?_
        rotate_left
        · (intro w hSw; (try dsimp only at hSw); go_simp; try (with_reducible rfl))
        (try simp only [Act.put, List.setIfInBounds_toArray, List.set_cons_zero, List.set_cons_succ, List.getElem_toArray, List.getElem_cons_succ, List.getElem_cons_zero])
        refine wpAnyH_take (i := 8) (oi := _) (v := ?_) rfl (by kernel_rfl) (by kernel_rfl) (by kernel_rfl) (fun _ _ _ h => h) (Or.inl ⟨by rfl, ?_⟩) (by assumption) ?_
        rotate_left
        · (intro w hSw; (try dsimp only at hSw); go_simp; try (with_reducible rfl))
        (try simp only [Act.put, List.setIfInBounds_toArray, List.set_cons_zero, List.set_cons_succ, List.getElem_toArray, List.getElem_cons_succ, List.getElem_cons_zero])
        refine wpAnyH_take (i := 9) (oi := _) (v := ?_) rfl (by kernel_rfl) (by kernel_rfl) (by kernel_rfl) (fun _ _ _ h => h) (Or.inl ⟨by rfl, ?_⟩) (by assumption) ?_
        rotate_left
        · (intro w hSw; (try dsimp only at hSw); go_simp; try (with_reducible rfl))
        (try simp only [Act.put, List.setIfInBounds_toArray, List.set_cons_zero, List.set_cons_succ, List.getElem_toArray, List.getElem_cons_succ, List.getElem_cons_zero])
        refine wpAnyH_take (i := 10) (oi := _) (v := ?_) rfl (by kernel_rfl) (by kernel_rfl) (by kernel_rfl) (fun _ _ _ h => h) (Or.inl ⟨by rfl, ?_⟩) (by assumption) ?_
        rotate_left
        · (intro w hSw; (try dsimp only at hSw); go_simp; try (with_reducible rfl))
        (try simp only [Act.put, List.setIfInBounds_toArray, List.set_cons_zero, List.set_cons_succ, List.getElem_toArray, List.getElem_cons_succ, List.getElem_cons_zero])
        refine wpAnyH_ready (rs := [11]) (by kernel_rfl) (by simp) ?_
        refine AllReadyH.cons (o := _) rfl (fun K hK => ?_) AllReadyH.nil
        go_simp
        refine (happen_any (t := t) ev HA1.out HB.out HC.out HE.out HAo.out (by omega)).mono ?_
        rintro r W2 ⟨rfl, vV2, vT2, ms2, b2, hp2, he2⟩
        have HP2 := Lib.hid hp2
        have HE2 := Lib.hid he2
        clear hp2 he2
        go_wp2_with fail
        refine hK.out _ _ ?_ (fun hHeldN => ?_)
        · exact HCC.out _ _ _ _ _ HP2.out
        clear hHeld hK K
        have hHeld := hHeldN
        clear hHeldN
        (try simp only [Act.put, List.setIfInBounds_toArray, List.set_cons_zero, List.set_cons_succ, List.getElem_toArray, List.getElem_cons_succ, List.getElem_cons_zero])
        refine wpAnyH_done (by kernel_rfl) ?_ _
        (try simp only [List.getElem_toArray, List.getElem_cons_succ, List.getElem_cons_zero, Act.put, List.setIfInBounds_toArray, List.set_cons_zero, List.set_cons_succ])
        have HP3 := Lib.hid (HP2.out.setDone (d + 1))
        have HM2 : Hid ((W2.setCell ⟨P, 7, none⟩ (.int .i64 ((d : Int) + 1))).cell? ⟨P, 7, none⟩ = some (.int .i64 ((d : Int) + 1))) := (pl_cells HP3.out.box).2.2.2.2.2.2.2.1
        have c7 := (pl_cells HP2.out.box).2.2.2.2.2.2.2.1
        have f7 := free_cells HP2.out.box 7
        have HBB : Hid (b2 ≤ b' + 1) := by
          have := Pl.happen_begun (bm := bmOf c.bs) (most := c.s.2.1) (p := ⟨ms'.map Vm.v, b'⟩) (e := ev)
          rw [← HE2.out] at this
          exact this
        have HOK : Hid (PvOk t most ⟨ms2.map Vm.v, b2⟩) := by
          have := Pl.happen_ok (most := most) HAo.out (by rw [HC.out.most]; exact HC.out.v1) HC.out.bods HE.out
          rw [HC.out.most, ← HE2.out, ← HC.out.most] at this
          exact this
        go_wp2_with fail
        go_roundw
        case rel =>
          refine ⟨d + 1, ms2, b2, vV2, vT2, ⟨HP3.out, by omega, by omega, HOK.out, by have := HBB.out; omega, ?_⟩⟩
          rw [HAe.out, HDr.out]
          simp only [arriveP, if_pos HNOW.out, ← HE2.out]
          simp only [Prod.mk.injEq, and_true]
          omega
        case measure =>
          rw [HM.out, HM2.out]
          simp [intOf]
          omega
      · have hdd : ((eAt c.L d).1 == (now : Int)) = false := by simpa using hnow
        have HNOW := Lib.hid hnow
        clear hcell hnow
        go_wp2_with fail
        go_quiet (fail)
        go_wp2_with fail
        go_end0
        refine ⟨rfl, d, vV', vT', ms', b', HA.out.pl.drewN _, HA.out.d0, HA.out.d1, ?_⟩
        rw [HA.out.eq, HDr.out]
        simp only [arriveP, if_neg HNOW.out]
        simp
    · have hdl : c.L.length = d := by omega
      have j1 : ¬ (d : Int) < (c.L.length : Int) := by omega
      have j2 : decide ((d : Int) < (c.L.length : Int)) = false := by simpa using j1
      go_wp2_with fail
      go_quiet (fail)
      go_wp2_with fail
      go_end0
      refine ⟨rfl, d, vV', vT', ms', b', HA.out.pl.drewN _, HA.out.d0, HA.out.d1, ?_⟩
      rw [HA.out.eq, show c.L.drop d = [] from List.drop_eq_nil_of_le (by omega)]
      simp [arriveP]
end Go.Proofs.YtndnfhhdflmfcaaGreat

/-
A player whose voice takes a step.
-/
namespace Go.Proofs.YtndnfhhdflmfcaaGreat
open Go Go.RowKit Ieee

/-- A cell of an own row is stored. -/
theorem owns_put {w : World} {lo n k b c j : Nat} {e : TypeId} {xs : List Value} (h : w.ownsRow lo e k (.slice (some ⟨b, 0, none⟩) n c) n xs) (hj : j < n * k) (v : Value) : (w.setCell ⟨b, j, none⟩ v).ownsRow lo e k (.slice (some ⟨b, 0, none⟩) n c) n (xs.set j v) := by
  obtain ⟨h1, h2⟩ := h
  refine ⟨by simpa using h1, ?_⟩
  rcases h2 with ⟨h2, _⟩ | ⟨g, cap, cur, e1, e2, e3, e4, e5, e6, e7⟩
  · cases h2
  injection e1 with q1 q2 q3
  injection q1 with q1
  injection q1 with q1
  subst q1 q3
  refine .inr ⟨b, c, cur.setIfInBounds j v, rfl, e2, ?_, e4, e5, by simpa using e6, ?_⟩
  · simp [World.setCell, Array.getElem?_modify, e3]
  · rw [← e7]
    apply List.ext_getElem?
    intro i
    have hsz : cur.toList.length = c * k := by simpa using e6
    have hle : n * k ≤ c * k := Nat.mul_le_mul_right k e4
    simp only [List.getElem?_take, List.getElem?_set, Array.toList_setIfInBounds, List.length_take]
    by_cases hi : i < n * k
    · simp only [hi, if_true]
      by_cases e : j = i
      · subst e
        rw [if_pos rfl, if_pos rfl, if_pos (by omega), if_pos (by omega)]
      · rw [if_neg e, if_neg e]
    · simp only [hi, if_false]
      rw [if_neg (by omega)]
/-- A voice after a step at an input. -/
def Vm.stepM (m : Vm) (X : Nat) : Vm := { m with v := { m.v with ss := nextS m.v.ms m.v.ss X } }
/-- A voice whose input goes on. -/
def Vm.tailM (m : Vm) (I : Option Addr) (ic : Nat) : Vm := { m with v := { m.v with xs := m.v.xs.drop 1 }, I := I, ic := ic }
theorem map_set_upd {α β : Type} (f : α → β) (L : List α) (i : Nat) (y : α) : (L.set i y).map f = (L.map f).set i (f y) := by simp
theorem flatV_set_in {L : List Vm} {i : Nat} {x y : Vm} {u : Value} (h : L[i]? = some x) (hy : voC y = (voC x).set 3 u) : flatV (L.set i y) = (flatV L).set (i * 4 + 3) u := by
  induction L generalizing i with
  | nil => simp at h
  | cons m L ih =>
    cases i with
    | zero =>
      injection h with h
      subst h
      simp only [flatV, List.set_cons_zero, List.flatMap_cons, hy]
      simp [voC]
    | succ i =>
      have := ih (i := i) (by simpa using h)
      simp only [flatV, List.set_cons_succ, List.flatMap_cons] at this ⊢
      rw [this, show (i + 1) * 4 + 3 = i * 4 + 3 + 1 + 1 + 1 + 1 by omega]
      simp [voC]
/-- One voice of a player takes a turn. -/
theorem PlG.turn {w0 w w' : World} {base P done now : Nat} {c : Pc} {vV vT : Value} {ms : List Vm} {begun : Int} (h : PlIn w0 w base P c done now vV vT ms begun) {i g : Nat} {x y : Vm} {cs : Array Value} {t : TypeId} {f : Nat × Nat} (hx : ms[i]? = some x)
    (hg : w.grownBy w' (some g)) (hc : w.heap[g]? = some (.cells cs t f)) (t1 : 53 ≠ t) (t2 : 71 ≠ t) (t3 : 3 ≠ t) (t4 : PT t) (hb : base ≤ g)
    (hv : w'.ownsRow base 59 4 vV ms.length (flatV (ms.set i y))) (hy : VmIn w' base c.fb y) (ho : ∀ j z, ms[j]? = some z → i ≠ j → VmIn w' base c.fb z) (e1 : y.mod = x.mod) (e2 : y.S = x.S) (e3 : y.v.tr = x.v.tr) :
    PlIn w0 w' base P c done now vV vT (ms.set i y) begun := by
  have hs := h.hs
  have kk : ∀ (j : Nat) (cs' : Array Value) (t' : TypeId) (f' : Nat × Nat), w.heap[j]? = some (.cells cs' t' f') → t' ≠ t → w'.heap[j]? = w.heap[j]? := fun j cs' t' f' hj ht => hg.block j (lt_of_some hj) (by intro e; injection e with e; exact ty_ne hj hc ht e)
  have hset : (ms.set i y).length = ms.length := by simp
  show PlG _ _ _ _ _ _ _ _ _ _ (ms.set i _).length (trs (ms.set i _)) _
  rw [hset, trs_set (y := y) hx e3]
  refine ⟨⟨hg.os.trans h.bel.os, hg.tape.trans h.bel.tape, hg.output.trans h.bel.output, Nat.le_trans h.bel.size hg.size, fun j hj => (hg.block j (by have := h.bel.size; omega) (by intro e; injection e with e; omega)).trans (h.bel.block j hj)⟩, h.hs, h.P0, (kk P _ _ _ h.box t1).trans h.box, ?_, ?_, ?_, ?_, apart_set hx e1 e2 h.apart, h.kp.grown hg fun k q => by injection q with q; subst q; exact ⟨_, _, _, hc, t4⟩, h.fbs⟩
  · exact owns_stay h.ev fun j e => by
      obtain ⟨cs, hc⟩ := owns_ty h.ev e
      exact kk j _ _ _ hc t2
  · rw [hset]; exact hv
  · exact owns_stay h.trow fun j e => by
      obtain ⟨cs, hc⟩ := owns_ty h.trow e
      exact kk j _ _ _ hc t3
  · intro z hz
    obtain ⟨j, hj⟩ := List.getElem?_of_mem hz
    rw [List.getElem?_set] at hj
    by_cases e : i = j
    · subst e
      rw [if_pos rfl] at hj
      split at hj
      · injection hj with hj
        subst hj
        exact hy
      · cases hj
    · rw [if_neg e] at hj
      exact ho j z hj e
/-- A voice's states take a step. -/
theorem PlG.setStates {w0 w w' : World} {base P done now : Nat} {c : Pc} {vV vT : Value} {ms : List Vm} {begun : Int} (h : PlIn w0 w base P c done now vV vT ms begun) {i X : Nat} {x : Vm} (hx : ms[i]? = some x) (hg : w.grownBy w' (some x.S))
    (hr : w'.rowIs x.S 85 x.v.ms.length (fun i => sV (sAt (nextS x.v.ms x.v.ss X) i))) : PlIn w0 w' base P c done now vV vT (ms.set i (x.stepM X)) begun := by
  have hv := h.vo x (List.mem_of_getElem? hx)
  obtain ⟨cs, hc⟩ := rowIs_ty hv.sts
  have ho : ∀ j z, ms[j]? = some z → i ≠ j → VmIn w' base c.fb z := fun j z hj hne => (h.vo z (List.mem_of_getElem? hj)).other hg hc (fun e => (apart_ne h.apart hx hj hne).2 e.symm)
  refine h.turn (y := x.stepM X) hx hg hc (by decide) (by decide) (by decide) (.inr (.inr (.inr (.inr rfl)))) hv.S0 ?_ ?_ ho rfl rfl rfl
  · rw [flatV_set (y := x.stepM X) hx rfl]
    exact owns_stay h.vrow fun j e => by
      obtain ⟨cs', hc'⟩ := owns_ty h.vrow e
      exact hg.block j (lt_of_some hc') (by intro q; injection q with q; exact ty_ne hc' hc (by decide) q)
  · refine ⟨owns_stay hv.mod fun k e => ?_, hv.mS, hr, hv.S0, hv.inp.keep fun b cs' _ hb => ?_, hv.ic⟩
    · obtain ⟨cs', hc'⟩ := owns_ty hv.mod e
      exact hg.block k (lt_of_some hc') (by intro q; injection q with q; exact ty_ne hc' hc (by decide) q)
    · exact hg.block b (lt_of_some hb) (by intro q; injection q with q; exact ty_ne hb hc (by decide) q)
/-- A voice's input goes on. -/
theorem PlG.setInput {w0 w : World} {base P done now b vc : Nat} {c : Pc} {vT : Value} {ms : List Vm} {begun : Int} (h : PlIn w0 w base P c done now (.slice (some ⟨b, 0, none⟩) ms.length vc) vT ms begun) {i ic : Nat} {I : Option Addr} {x : Vm} (hx : ms[i]? = some x)
    (hI : RdT w base c.fb I (x.v.xs.drop 1)) (hic : x.v.xs.length - 1 ≤ ic ∧ ic ≤ maxLen) :
    PlIn w0 (w.setCell ⟨b, i * 4 + 3, none⟩ (.slice I (x.v.xs.length - 1) ic)) base P c done now (.slice (some ⟨b, 0, none⟩) ms.length vc) vT (ms.set i (x.tailM I ic)) begun := by
  have hil : i < ms.length := by
    rcases Nat.lt_or_ge i ms.length with h1 | h1
    · exact h1
    · rw [List.getElem?_eq_none h1] at hx; cases hx
  have hv := h.vo x (List.mem_of_getElem? hx)
  obtain ⟨cs, hc⟩ := owns_ty h.vrow (k := b) rfl
  have hb := (h.vrow.lt b rfl).1
  have hg : w.grownBy (w.setCell ⟨b, i * 4 + 3, none⟩ (.slice I (x.v.xs.length - 1) ic)) (some b) := grown_set _ _
  have hx' := hv.grown hg hc (by decide) (by decide) (by decide)
  refine h.turn (y := x.tailM I ic) hx hg hc (by decide) (by decide) (by decide) (.inr (.inl rfl)) hb ?_ ?_ (fun j z hj _ => (h.vo z (List.mem_of_getElem? hj)).grown hg hc (by decide) (by decide) (by decide)) rfl rfl rfl
  · rw [flatV_set_in (u := .slice I (x.v.xs.length - 1) ic) hx (by simp [voC, Vm.tailM])]
    exact owns_put h.vrow (by omega) _
  · refine ⟨hx'.mod, hx'.mS, hx'.sts, hx'.S0, hI.keep fun j cs' _ hj => ?_, by simpa [Vm.tailM] using hic⟩
    exact hg.block j (lt_of_some hj) (by intro q; injection q with q; exact ty_ne hj hc (by decide) q)
/-- A row of numbers that no input lies in is turned. -/
theorem PlG.outGrown {w0 w w' : World} {base P done now : Nat} {c : Pc} {vV vT : Value} {ms : List Vm} {begun : Int} (h : PlIn w0 w base P c done now vV vT ms begun) {r : Option Nat} {B : Nat} (hg : w.grownBy w' r) (hr : ∀ k, r = some k → base ≤ k ∧ B ≤ k ∧ ∃ cs, w.heap[k]? = some (.cells cs 23 (0, 0)))
    (hI : ∀ m ∈ ms, ∀ b off, m.I = some ⟨b, off, none⟩ → 0 < m.v.xs.length → b < B) (hW : c.wk.heap.size ≤ B) : PlIn w0 w' base P c done now vV vT ms begun := by
  have hs := h.hs
  have kk : ∀ (j : Nat) (cs' : Array Value) (t' : TypeId) (f' : Nat × Nat), w.heap[j]? = some (.cells cs' t' f') → t' ≠ 23 → w'.heap[j]? = w.heap[j]? := fun j cs' t' f' hj ht => hg.block j (lt_of_some hj) (by
    intro e
    obtain ⟨_, _, cs, hc⟩ := hr j e.symm
    exact ty_ne hj hc ht rfl)
  refine ⟨⟨hg.os.trans h.bel.os, hg.tape.trans h.bel.tape, hg.output.trans h.bel.output, Nat.le_trans h.bel.size hg.size, fun j hj => (hg.block j (by have := h.bel.size; omega) (by intro e; have := (hr j e.symm).1; omega)).trans (h.bel.block j hj)⟩, h.hs, h.P0, (kk P _ _ _ h.box (by decide)).trans h.box, ?_, ?_, ?_, ?_, h.apart, ⟨Nat.le_trans h.kp.1 hg.size, fun j cs t f hj ht => (hg.block j (lt_of_some (h.kp.2 j cs t f hj ht)) (fun q => by have := (hr j q.symm).2.1; have := lt_of_some hj; omega)).trans (h.kp.2 j cs t f hj ht)⟩, h.fbs⟩
  · exact owns_stay h.ev fun j e => by
      obtain ⟨cs, hc⟩ := owns_ty h.ev e
      exact kk j _ _ _ hc (by decide)
  · exact owns_stay h.vrow fun j e => by
      obtain ⟨cs, hc⟩ := owns_ty h.vrow e
      exact kk j _ _ _ hc (by decide)
  · exact owns_stay h.trow fun j e => by
      obtain ⟨cs, hc⟩ := owns_ty h.trow e
      exact kk j _ _ _ hc (by decide)
  · intro m hm
    have hv := h.vo m hm
    refine ⟨owns_stay hv.mod fun k e => ?_, hv.mS, hv.sts.of_block ?_, hv.S0, fun hl => ?_, hv.ic⟩
    · obtain ⟨cs, hc⟩ := owns_ty hv.mod e
      exact kk k _ _ _ hc (by decide)
    · obtain ⟨cs, hc⟩ := rowIs_ty hv.sts
      exact kk _ _ _ _ hc (by decide)
    · obtain ⟨b, off, cs, e, h1, hb, hcc⟩ := hv.inp hl
      have hlt := hI m hm b off e hl
      exact ⟨b, off, cs, e, h1, (hg.block b (lt_of_some hb) (by intro q; have := (hr b q.symm).2.1; omega)).trans hb, hcc⟩
/-- The tail of an input. -/
theorem RdT.tail {w : World} {base b off : Nat} {fb : Nat → Prop} {xs : List Nat} (h : RdT w base fb (some ⟨b, off, none⟩) xs) : RdT w base fb (some ⟨b, off + 1, none⟩) (xs.drop 1) := fun hl => by
  have hl' : 0 < xs.length := by simp at hl; omega
  obtain ⟨b', off', cs, e, h1, hb, hc⟩ := h hl'
  injection e with e
  injection e with e1 e2
  subst e1 e2
  refine ⟨b, off + 1, cs, rfl, h1, hb, fun k u hu => ?_⟩
  rw [show off + 1 + k = off + (k + 1) by omega]
  refine hc (k + 1) u ?_
  simp only [f32s, List.map_drop, List.getElem?_drop] at hu
  rw [Nat.add_comm k 1]; exact hu
theorem RdT.none {w : World} {base : Nat} {fb : Nat → Prop} (I : Option Addr) {xs : List Nat} (h : xs.length ≤ 1) : RdT w base fb I (xs.drop 1) := fun hl => by simp at hl; omega
end Go.Proofs.YtndnfhhdflmfcaaGreat

/-
impl.player.next.
-/
namespace Go.Proofs.YtndnfhhdflmfcaaGreat
open Go Go.RowKit Ieee

/-- The first k voices have taken a step. -/
def NxAll (k : Nat) (ms L : List Vm) : Prop := L.length = ms.length ∧ ∀ j x, L[j]? = some x → ∃ m, ms[j]? = some m ∧ x.v = if j < k then m.v.next else m.v
theorem NxAll.zero (ms : List Vm) : NxAll 0 ms ms := ⟨rfl, fun j x h => ⟨x, h, by rw [if_neg (by omega)]⟩⟩
theorem NxAll.set {k : Nat} {ms L : List Vm} {x z : Vm} (h : NxAll k ms L) (hx : L[k]? = some x) (hz : z.v = x.v.next) : NxAll (k + 1) ms (L.set k z) := by
  refine ⟨by simpa using h.1, fun j u hu => ?_⟩
  rw [List.getElem?_set] at hu
  by_cases e : k = j
  · subst e
    rw [if_pos rfl] at hu
    split at hu
    · injection hu with hu
      subst hu
      obtain ⟨m, h1, h2⟩ := h.2 k x hx
      rw [if_neg (by omega)] at h2
      exact ⟨m, h1, by rw [if_pos (by omega), hz, h2]⟩
    · cases hu
  · rw [if_neg e] at hu
    obtain ⟨m, h1, h2⟩ := h.2 j u hu
    refine ⟨m, h1, ?_⟩
    rw [h2]
    by_cases e' : j < k
    · rw [if_pos e', if_pos (by omega)]
    · rw [if_neg e', if_neg (by omega)]
theorem NxAll.done {ms L : List Vm} (h : NxAll ms.length ms L) : L.map Vm.v = (ms.map Vm.v).map Vp.next := by
  refine List.ext_getElem? fun j => ?_
  rw [List.getElem?_map, List.getElem?_map, List.getElem?_map]
  rcases Nat.lt_or_ge j L.length with hj | hj
  · obtain ⟨m, h1, h2⟩ := h.2 j L[j] (List.getElem?_eq_getElem hj)
    rw [List.getElem?_eq_getElem hj, h1]
    rw [if_pos (by have := h.1; omega)] at h2
    simp [h2]
  · rw [List.getElem?_eq_none hj, List.getElem?_eq_none (by have := h.1; omega)]
    rfl
/-- The outputs of the first k voices. -/
def OutsOk (k : Nat) (vs : List Vp) (ys : List Nat) : Prop := ys.length = k ∧ ∀ j v, j < k → vs[j]? = some v → nrm .f32 (ys.getD j 0) = v.out ∧ wfk .f32 (ys.getD j 0)
theorem OutsOk.snoc {k r : Nat} {vs : List Vp} {ys : List Nat} {v : Vp} (h : OutsOk k vs ys) (hv : vs[k]? = some v) (hr : nrm .f32 r = v.out) (hw : wfk .f32 r) : OutsOk (k + 1) vs (ys ++ [r]) := by
  obtain ⟨hl, h⟩ := h
  refine ⟨by simp [hl], fun j u hj hu => ?_⟩
  rcases Nat.lt_or_ge j k with h1 | h1
  · have e : (ys ++ [r]).getD j 0 = ys.getD j 0 := by
      simp only [List.getD]; rw [List.getElem?_append_left (by omega)]
    rw [e]; exact h j u h1 hu
  · obtain rfl : j = k := by omega
    have e : (ys ++ [r]).getD j 0 = r := by
      simp only [List.getD]; rw [List.getElem?_append_right (by omega), hl]; simp
    rw [hv] at hu
    injection hu with hu
    subst hu
    rw [e]; exact ⟨hr, hw⟩
/-- The inputs lie below a block. -/
def InsBelow (L : List Vm) (g : Nat) : Prop := ∀ m ∈ L, ∀ b off, m.I = some ⟨b, off, none⟩ → 0 < m.v.xs.length → b < g
theorem InsBelow.of {w0 w : World} {base P done now : Nat} {c : Pc} {vV vT : Value} {ms : List Vm} {begun : Int} (h : PlIn w0 w base P c done now vV vT ms begun) : InsBelow ms w.heap.size := fun m hm b off e hl => by
  obtain ⟨b', off', cs, e', _, hb, _⟩ := (h.vo m hm).inp hl
  rw [e] at e'
  injection e' with e'
  injection e' with e1 e2
  subst e1
  exact lt_of_some hb
theorem arriveP_ok {t : Nat} {most L now : Int} {bs : List Bd} {l : List Ev} {p : Pl} (h : PvOk t most p) (hm : 1 ≤ most) (hb : BodsOk bs 4 3) (he : ∀ e ∈ l, EvOk L bs.length e) : PvOk t most (arriveP (bmOf bs) most now l p).2 := by
  induction l generalizing p with
  | nil => exact h
  | cons e l ih =>
    unfold arriveP
    split
    · exact ih (Pl.happen_ok h hm hb (he e (by simp))) (fun e' h' => he e' (by simp [h']))
    · exact h
theorem tailM_nil (m : Vm) (h : m.v.xs = []) : m.tailM m.I m.ic = m := by
  obtain ⟨⟨bo, ms, ss, xs, tr⟩, M, mc, S, I, ic⟩ := m
  simp only at h
  subst h
  rfl
theorem InsBelow.set {L : List Vm} {g k : Nat} {y : Vm} (h : InsBelow L g) (hy : ∀ b off, y.I = some ⟨b, off, none⟩ → 0 < y.v.xs.length → b < g) : InsBelow (L.set k y) g := fun m hm b off e hl => by
  rcases List.mem_or_eq_of_mem_set hm with h1 | rfl
  · exact h m h1 b off e hl
  · exact hy b off e hl
theorem set_same {L : List Vm} {k : Nat} {x : Vm} (h : L[k]? = some x) : L.set k x = L := by
  refine List.ext_getElem? fun j => ?_
  rw [List.getElem?_set]
  by_cases e : k = j
  · subst e
    have hk : k < L.length := by
      rcases Nat.lt_or_ge k L.length with h1 | h1
      · exact h1
      · rw [List.getElem?_eq_none h1] at h; cases h
    rw [if_pos rfl, if_pos hk, h]
  · rw [if_neg e]
/-- What next does. -/
def NextP (w0 : World) (P : Nat) (c : Pc) (done now : Nat) (ms : List Vm) (begun : Int) (r : Ending) (w' : World) : Prop :=
  ∃ (A : Option Addr) (ca : Nat) (ys : List Nat) (d' : Nat) (vV' vT' : Value) (ms' : List Vm) (b' : Int) (n : Nat) (p : Pl), r = .returned (.slice A ys.length ca) ∧ w'.ownsRow c.wk.heap.size 23 1 (.slice A ys.length ca) ys.length (f32s ys) ∧
    PlIn w0 w' w0.heap.size P c d' (now + 1) vV' vT' ms' b' ∧ d' ≤ c.L.length ∧ d' = done + n ∧ arriveP (bmOf c.bs) c.s.2.1 now (c.L.drop done) ⟨ms.map Vm.v, begun⟩ = (n, p) ∧ ms'.map Vm.v = p.vs.map Vp.next ∧ b' = p.begun ∧ OutsOk p.vs.length p.vs ys
/-- Where the walk of next is. -/
structure NIn (w0 w : World) (P : Nat) (c : Pc) (done now g k : Nat) (ms L : List Vm) (begun : Int) (vV vT : Value) (v : Value) (ys : List Nat) : Prop where
  pl : PlIn w0 w w0.heap.size P c done now vV vT L begun
  own : w.ownsRow g 23 1 v k (f32s ys)
  nx : NxAll k ms L
  outs : OutsOk k (ms.map Vm.v) ys
  ins : InsBelow L g
  gw : c.wk.heap.size ≤ g
  gs : g < w.heap.size

set_option maxRecDepth 100000 in
set_option maxHeartbeats 6400000 in
theorem next_any {w0 w : World} {P done now t : Nat} {c : Pc} {vV vT : Value} {ms : List Vm} {begun L most : Int} {lo : Nat} (h : PlIn w0 w w0.heap.size P c done now vV vT ms begun) (hbods : BodsIn w0 lo w0.heap.size c.B c.bs) (hc : PcOk L most c) (hp : PvOk t most ⟨ms.map Vm.v, begun⟩) (hd : done ≤ c.L.length) (hb : begun ≤ done) (ht : t ≤ 61) (hnow : now ≤ 1000000) :
    Calls Tryz.prog 37 #[.pointer (some ⟨P, 0, none⟩)] w (NextP w0 P c done now ms begun) := by
  have H := Lib.hid h
  have HB := Lib.hid hbods
  have HC := Lib.hid hc
  have HP := Lib.hid hp
  clear h hbods hc hp
  go_enter Tryz.func37, Tryz.ntmps37
  go_wp2_with fail
  refine (arrive_any H.out HB.out HC.out HP.out hd hb).mono ?_
  rintro r W2 ⟨rfl, d, vV2, vT2, ms1, b1, hp1, hd0, hd1, harr⟩
  have HA := Lib.hid harr
  have HN : Hid (NIn w0 (W2.alloc (.cells #[] 23)) P c d now W2.heap.size 0 ms1 ms1 b1 vV2 vT2 (.slice (some ⟨W2.heap.size, 0, none⟩) 0 0) []) :=
    ⟨hp1.alloc _, owns_empty W2 23, NxAll.zero _, ⟨rfl, fun j _ hj _ => absurd hj (Nat.not_lt_zero _)⟩, InsBelow.of hp1, hp1.kp.1, by simp⟩
  obtain ⟨VA, vc, rfl⟩ := owns_form hp1.vrow
  have cP := pl_cells HN.out.pl.box
  have c9 := cP.2.2.2.2.2.2.2.2.2.1
  have HOK : Hid (PvOk t most ⟨ms1.map Vm.v, b1⟩ ∧ ms1.length ≤ 8) := by
    have h1 : PvOk t most ⟨ms1.map Vm.v, b1⟩ := by
      have := arriveP_ok (now := now) (l := c.L.drop done) HP.out (by rw [HC.out.most]; exact HC.out.v1) HC.out.bods (fun e he => HC.out.evs e (List.mem_of_mem_drop he))
      rw [HC.out.most, HA.out, ← HC.out.most] at this
      exact this
    refine ⟨h1, ?_⟩
    have h2 := h1.len
    have h3 := HC.out.v8
    rw [HC.out.most] at h2
    simp only [List.length_map] at h2
    omega
  have HGB0 : Hid (w0.heap.size ≤ W2.heap.size) := hp1.bel.size
  clear cP harr hp1 H
  go_wp2_with fail
  clear c9
  generalize W2.alloc (.cells #[] 23) = Wa at *
  generalize W2.heap.size = g at *
  have hn8 : ms1.length ≤ 8 := HOK.out.2
  go_loopw [3, 15] (fun v i wr => ∃ (k : Nat) (ys : List Nat) (L : List Vm), i = .int .i64 (k : Int) ∧ k ≤ ms1.length ∧ Hid (NIn w0 wr P c d now g k ms1 L b1 (.slice VA ms1.length vc) vT2 v ys)) (fun _ i _ => ms1.length - (intOf i).toNat)
  case atStart => exact ⟨0, [], ms1, rfl, by omega, HN⟩
  case round =>
    clear HN
    obtain ⟨k, ys, L', rfl, hk, HN⟩ := hrel
    have HL : Hid (L'.length = ms1.length) := HN.out.nx.1
    by_cases hlt : k < ms1.length
    · have c9 := (pl_cells HN.out.pl.box).2.2.2.2.2.2.2.2.2.1
      have hkL : k < L'.length := by rw [HL.out]; exact hlt
      obtain ⟨x, hx⟩ : ∃ x, L'[k]? = some x := ⟨L'[k], List.getElem?_eq_getElem hkL⟩
      have HX := Lib.hid hx
      obtain ⟨m0, hm0, hxv⟩ := HN.out.nx.2 k x hx
      rw [if_neg (by omega)] at hxv
      have HXV : Hid (VpOk t x.v) := by rw [hxv]; exact HOK.out.1.vs m0.v (List.mem_map_of_mem (List.mem_of_getElem? hm0))
      have HXM : Hid ((ms1.map Vm.v)[k]? = some x.v) := by show _ = _; rw [List.getElem?_map, hm0, hxv]; rfl
      have hvr := HN.out.pl.vrow
      rw [HL.out] at hvr
      obtain ⟨b, vc', hbe, _, hbl, hv1, hv2, _, hcell⟩ := owns_cells hvr (by omega) (by rw [flatV_len, HL.out])
      injection hbe with q1 _ q3
      subst q1 q3
      have e1 := hcell _ _ (flatV_at hx).2.1
      have e2 := hcell _ _ (flatV_at hx).2.2.1
      have e3 := hcell _ _ (flatV_at hx).2.2.2
      have HV := Lib.hid (HN.out.pl.vo x (List.mem_of_getElem? hx))
      have HIn := Lib.hid (HV.out.inp)
      have hxl : x.v.xs.length ≤ 64 := HXV.out.lx
      have hic := HV.out.ic
      have fz : wr.frozen? ⟨b, k * 4 + 3, none⟩ = false := by
        obtain ⟨cs, hc⟩ := owns_ty hvr (k := b) rfl
        exact free_cells hc _
      clear hcell hvr hx hm0 hxv
      go_wp2_with fail
      refine (element_any x.I x.ic x.v.xs 0 _ HIn.out.rd (by omega) (by omega)).mono ?_
      rintro r w' ⟨rfl, rfl⟩
      have HXX : Hid (inAt x.v.xs 0 = x.v.x) := rfl
      rw [HXX.out]
      have HC12 : Hid (∀ W' y, PlIn w0 W' w0.heap.size P c d now (.slice (some ⟨b, 0, none⟩) ms1.length vc) vT2 (L'.set k y) b1 → y.M = x.M → y.mc = x.mc → y.S = x.S → y.v.ms = x.v.ms → W'.cell? ⟨b, k * 4 + 1, none⟩ = some (.slice x.M x.v.ms.length x.mc) ∧ W'.cell? ⟨b, k * 4 + 2, none⟩ = some (.slice (some ⟨x.S, 0, none⟩) x.v.ms.length x.v.ms.length)) := Lib.hid (fun W' y hp q1 q2 q3 q4 => by
        have hvr := hp.vrow
        have hl : (L'.set k y).length = ms1.length := by rw [List.length_set, HL.out]
        rw [hl] at hvr
        obtain ⟨b', vc', hbe, _, _, _, _, _, hcell⟩ := owns_cells hvr (by omega) (by rw [flatV_len, hl])
        injection hbe with r1 _ _
        injection r1 with r1
        injection r1 with r1
        subst r1
        have hy : (L'.set k y)[k]? = some y := by simp [hkL]
        have u1 := hcell _ _ (flatV_at hy).2.1
        have u2 := hcell _ _ (flatV_at hy).2.2.1
        rw [q1, q2, q4] at u1
        rw [q3, q4] at u2
        exact ⟨u1, u2⟩)
      have HSet : Hid (∀ I' ic', RdT wr w0.heap.size c.fb I' (x.v.xs.drop 1) → (x.v.xs.length - 1 ≤ ic' ∧ ic' ≤ maxLen) → PlIn w0 (wr.setCell ⟨b, k * 4 + 3, none⟩ (.slice I' (x.v.xs.length - 1) ic')) w0.heap.size P c d now (.slice (some ⟨b, 0, none⟩) ms1.length vc) vT2 (L'.set k (x.tailM I' ic')) b1) := Lib.hid (fun I' ic' h1 h2 => by
        have hp := HN.out.pl
        rw [← HL.out] at hp ⊢
        exact hp.setInput HX.out h1 h2)
      clear e1 e2
      go_upto_if 34 with fail
      have HXI : Hid (InsBelow L' g) := HN.out.ins
      have HGW : Hid (c.wk.heap.size ≤ g) := HN.out.gw
      have HGB : Hid (w0.heap.size ≤ g) := HGB0
      go_cut [] (fun wx => ∃ (I' : Option Addr) (ic' : Nat), Hid (PlIn w0 wx w0.heap.size P c d now (.slice (some ⟨b, 0, none⟩) ms1.length vc) vT2 (L'.set k (x.tailM I' ic')) b1) ∧ Hid (wx.ownsRow g 23 1 u3 k (f32s ys)) ∧ Hid (InsBelow (L'.set k (x.tailM I' ic')) g) ∧ Hid (g < wx.heap.size))
      case first =>
        by_cases hx0 : 0 < x.v.xs.length
        · obtain ⟨ib, ioff, ics, hI, hib, hibt, _⟩ := HIn.out hx0
          have HI := Lib.hid hI
          have HO3 : Hid (∀ v, (wr.setCell ⟨b, k * 4 + 3, none⟩ v).ownsRow g 23 1 u3 k (f32s ys)) := Lib.hid (fun v => owns_stay HN.out.own fun j e => by
            obtain ⟨cs, hc⟩ := owns_ty HN.out.own e
            obtain ⟨cs', hc'⟩ := owns_ty HN.out.pl.vrow (k := b) rfl
            exact (grown_set _ _ : wr.grownBy (wr.setCell ⟨b, k * 4 + 3, none⟩ v) (some b)).block j (lt_of_some hc) (by intro q; injection q with q; exact ty_ne hc hc' (by decide) q))
          have HGS : Hid (g < wr.heap.size) := HN.out.gs
          have HTl : Hid (RdT wr w0.heap.size c.fb (some ⟨ib, ioff + 1, none⟩) (x.v.xs.drop 1)) := by
            have := HIn.out
            rw [hI] at this
            exact this.tail
          have HIB : Hid (ib < g) := HXI.out x (List.mem_of_getElem? HX.out) ib ioff hI hx0
          rw [hI] at e3
          clear hI hib hibt
          go_wp2_with fail
          all_goals
            go_meet
            case rel =>
              first
              | exact ⟨_, _, HSet.out _ _ HTl.out (by omega), HO3.out _, HXI.out.set (fun b' off' e _ => by injection e with e; injection e with e1 _; subst e1; exact HIB.out), by show g < (World.setCell _ _ _).heap.size; simpa using HGS.out⟩
              | exact ⟨_, _, HSet.out _ _ (RdT.none _ (by omega)) (by omega), HO3.out _, HXI.out.set (fun b' off' e _ => by injection e with e; injection e with e1 _; subst e1; exact HIB.out), by show g < (World.setCell _ _ _).heap.size; simpa using HGS.out⟩
        · have hnil : x.v.xs = [] := List.eq_nil_of_length_eq_zero (by omega)
          have HT : Hid (L'.set k (x.tailM x.I x.ic) = L') := by
            show _ = _
            rw [tailM_nil x hnil]
            exact set_same HX.out
          clear hnil
          go_wp2_with fail
          go_meet
          case rel => exact ⟨x.I, x.ic, by rw [HT.out]; exact HN.out.pl, HN.out.own, by rw [HT.out]; exact HN.out.ins, HN.out.gs⟩
      case rest =>
        obtain ⟨I', ic', HPx, HOx, HIx, HGx⟩ := hcut
        go_wp2_with fail
        have hyk : (L'.set k (x.tailM I' ic'))[k]? = some (x.tailM I' ic') := by simp [hkL]
        have HYK := Lib.hid hyk
        have HVy := Lib.hid (HPx.out.vo _ (List.mem_of_getElem? hyk))
        have HO1 : Hid (OwnM (wc.drewN 1) w0.heap.size x.S x.M x.mc x.v.ms) := ⟨HVy.out.mod, HVy.out.mS⟩
        have HR1 : Hid ((wc.drewN 1).rowIs x.S 85 x.v.ms.length (fun i => sV (sAt x.v.ss i))) := HVy.out.sts
        have HP1 : Hid (PlIn w0 (wc.drewN 1) w0.heap.size P c d now (.slice (some ⟨b, 0, none⟩) ms1.length vc) vT2 (L'.set k (x.tailM I' ic')) b1) := HPx.out.drewN 1
        clear hyk
        refine wp_region_held_drew (S := fun w' => w'.cell? ⟨b, k * 4 + 1, none⟩ = some (.slice x.M x.v.ms.length x.mc) ∧ w'.cell? ⟨b, k * 4 + 2, none⟩ = some (.slice (some ⟨x.S, 0, none⟩) x.v.ms.length x.v.ms.length)) (by kernel_rfl) (HC12.out _ _ (HPx.out.drewN 1) rfl rfl rfl rfl) (fun hHeld => ?_)
        refine wpAnyH_take (i := 0) (oi := _) (v := ?_) rfl (by kernel_rfl) (by kernel_rfl) (by kernel_rfl) (fun _ _ _ h => h) (Or.inl ⟨by rfl, ?_⟩) (by assumption) ?_
        rotate_left
        · (intro w hSw; (try dsimp only at hSw); go_simp; try (with_reducible rfl))
        (try simp only [Act.put, List.setIfInBounds_toArray, List.set_cons_zero, List.set_cons_succ, List.getElem_toArray, List.getElem_cons_succ, List.getElem_cons_zero])
        refine wpAnyH_take (i := 1) (oi := _) (v := ?_) rfl (by kernel_rfl) (by kernel_rfl) (by kernel_rfl) (fun _ _ _ h => h) (Or.inl ⟨by rfl, ?_⟩) (by assumption) ?_
        rotate_left
        · (intro w hSw; (try dsimp only at hSw); go_simp; try (with_reducible rfl))
        (try simp only [Act.put, List.setIfInBounds_toArray, List.set_cons_zero, List.set_cons_succ, List.getElem_toArray, List.getElem_cons_succ, List.getElem_cons_zero])
        refine wpAnyH_take (i := 2) (oi := _) (v := ?_) rfl (by kernel_rfl) (by kernel_rfl) (by kernel_rfl) (fun _ _ _ h => h) (Or.inl ⟨by rfl, ?_⟩) (by assumption) ?_
        rotate_left
        · (intro w hSw; (try dsimp only at hSw); go_simp; try (with_reducible rfl))
        (try simp only [Act.put, List.setIfInBounds_toArray, List.set_cons_zero, List.set_cons_succ, List.getElem_toArray, List.getElem_cons_succ, List.getElem_cons_zero])
        refine wpAnyH_take (i := 3) (oi := _) (v := ?_) rfl (by kernel_rfl) (by kernel_rfl) (by kernel_rfl) (fun _ _ _ h => h) (Or.inl ⟨by rfl, ?_⟩) (by assumption) ?_
        rotate_left
        · (intro w hSw; (try dsimp only at hSw); go_simp; try (with_reducible rfl))
        (try simp only [Act.put, List.setIfInBounds_toArray, List.set_cons_zero, List.set_cons_succ, List.getElem_toArray, List.getElem_cons_succ, List.getElem_cons_zero])
        refine wpAnyH_take (i := 4) (oi := _) (v := ?_) rfl (by kernel_rfl) (by kernel_rfl) (by kernel_rfl) (fun _ _ _ h => h) (Or.inl ⟨by rfl, ?_⟩) (by assumption) ?_
        rotate_left
        · (intro w hSw; (try dsimp only at hSw); go_simp; try (with_reducible rfl))
        (try simp only [Act.put, List.setIfInBounds_toArray, List.set_cons_zero, List.set_cons_succ, List.getElem_toArray, List.getElem_cons_succ, List.getElem_cons_zero])
        refine wpAnyH_take (i := 5) (oi := _) (v := ?_) rfl (by kernel_rfl) (by kernel_rfl) (by kernel_rfl) (fun _ _ _ h => h) (Or.inl ⟨by rfl, ?_⟩) (by assumption) ?_
        rotate_left
        · (intro w hSw; (try dsimp only at hSw); go_simp; try (with_reducible rfl))
        (try simp only [Act.put, List.setIfInBounds_toArray, List.set_cons_zero, List.set_cons_succ, List.getElem_toArray, List.getElem_cons_succ, List.getElem_cons_zero])
        refine wpAnyH_take (i := 6) (oi := _) (v := ?_) rfl (by kernel_rfl) (by kernel_rfl) (by kernel_rfl) (fun _ _ _ h => h) (Or.inl ⟨by rfl, ?_⟩) (by assumption) ?_
        rotate_left
        · (intro w hSw; (try dsimp only at hSw); go_simp; try (with_reducible rfl))
        (try simp only [Act.put, List.setIfInBounds_toArray, List.set_cons_zero, List.set_cons_succ, List.getElem_toArray, List.getElem_cons_succ, List.getElem_cons_zero])
        refine wpAnyH_take (i := 7) (oi := _) (v := ?_) rfl (by kernel_rfl) (by kernel_rfl) (by kernel_rfl) (fun _ _ _ h => h) (Or.inl ⟨by rfl, ?_⟩) (by assumption) ?_
        rotate_left
        · (intro w hSw; (try dsimp only at hSw); go_simp; try (with_reducible rfl))
        (try simp only [Act.put, List.setIfInBounds_toArray, List.set_cons_zero, List.set_cons_succ, List.getElem_toArray, List.getElem_cons_succ, List.getElem_cons_zero])
        refine wpAnyH_take (i := 8) (oi := _) (v := ?_) rfl (by kernel_rfl) (by kernel_rfl) (by kernel_rfl) (fun _ _ _ h => h) (Or.inl ⟨by rfl, ?_⟩) (by assumption) ?_
        rotate_left
        · (intro w hSw; (try dsimp only at hSw); go_simp; try (with_reducible rfl))
        (try simp only [Act.put, List.setIfInBounds_toArray, List.set_cons_zero, List.set_cons_succ, List.getElem_toArray, List.getElem_cons_succ, List.getElem_cons_zero])
        refine wpAnyH_take (i := 9) (oi := _) (v := ?_) rfl (by kernel_rfl) (by kernel_rfl) (by kernel_rfl) (fun _ _ _ h => h) (Or.inl ⟨by rfl, ?_⟩) (by assumption) ?_
        rotate_left
        · (intro w hSw; (try dsimp only at hSw); go_simp; try (with_reducible rfl))
        (try simp only [Act.put, List.setIfInBounds_toArray, List.set_cons_zero, List.set_cons_succ, List.getElem_toArray, List.getElem_cons_succ, List.getElem_cons_zero])
        refine wpAnyH_ready (rs := [10]) (by kernel_rfl) (by simp) ?_
        refine AllReadyH.cons (o := _) rfl (fun K hK => ?_) AllReadyH.nil
        go_simp
        refine (step_any x.M x.mc w0.heap.size x.S x.S x.v.ms x.v.ss x.v.x (wc.drewN 1) HO1.out (Nat.le_refl _) HXV.out.ms (by have := HXV.out.lm; omega) HXV.out.ls HR1.out (HXV.out.step ht)).mono ?_
        rintro r W3 ⟨rr, rfl, hr1, hr2, hrow3, hgr3⟩
        have HRR := Lib.hid (And.intro hr1 hr2)
        have HP3 : Hid (PlIn w0 W3 w0.heap.size P c d now (.slice (some ⟨b, 0, none⟩) ms1.length vc) vT2 (L'.set k ((x.tailM I' ic').stepM x.v.x)) b1) := by
          have := HP1.out.setStates (X := x.v.x) HYK.out hgr3 hrow3
          rw [List.set_set] at this
          exact this
        have HO3 : Hid (W3.ownsRow g 23 1 u3 k (f32s ys)) := owns_stay HOx.out fun j e => by
          obtain ⟨cs, hc⟩ := owns_ty HOx.out e
          obtain ⟨cs', hc'⟩ := rowIs_ty HVy.out.sts
          exact hgr3.block j (lt_of_some hc) (by intro q; injection q with q; exact ty_ne hc hc' (by decide) q)
        have HI3 : Hid (InsBelow (L'.set k ((x.tailM I' ic').stepM x.v.x)) g) := by
          have := HIx.out.set (k := k) (y := (x.tailM I' ic').stepM x.v.x) (fun b off e hl => HIx.out _ (List.mem_of_getElem? HYK.out) b off e hl)
          rw [List.set_set] at this
          exact this
        have hg3 : g < W3.heap.size := Nat.lt_of_lt_of_le HGx.out hgr3.size
        clear hr1 hr2 hrow3 hgr3 HO1 HR1 HP1 HVy HYK
        go_wp2_with fail
        refine hK.out _ _ ?_ (fun hHeldN => ?_)
        · exact HC12.out W3 _ HP3.out rfl rfl rfl rfl
        clear hHeld hK K
        have hHeld := hHeldN
        clear hHeldN
        (try simp only [Act.put, List.setIfInBounds_toArray, List.set_cons_zero, List.set_cons_succ, List.getElem_toArray, List.getElem_cons_succ, List.getElem_cons_zero])
        refine wpAnyH_ready (rs := [11]) (by kernel_rfl) (by simp) ?_
        refine AllReadyH.cons (o := _) rfl (fun K hK => ?_) AllReadyH.nil
        go_simp
        have HP4 := Lib.hid (HP3.out.alloc (.cells #[.float .f32 rr] 23))
        have HO4 := Lib.hid (HO3.out.alloc (.cells #[.float .f32 rr] 23))
        have N4 := Lib.hid (heap_alloc_new W3 (.cells #[.float .f32 rr] 23))
        have hg4 : g ≤ (W3.alloc (.cells #[.float .f32 rr] 23)).heap.size := by simp; omega
        clear HP3 HO3
        refine hK.out _ _ ?_ (fun hHeldN => ?_)
        · exact HC12.out _ _ HP4.out rfl rfl rfl rfl
        clear hHeld hK K
        have hHeld := hHeldN
        clear hHeldN
        (try simp only [Act.put, List.setIfInBounds_toArray, List.set_cons_zero, List.set_cons_succ, List.getElem_toArray, List.getElem_cons_succ, List.getElem_cons_zero])
        generalize W3.alloc (.cells #[.float .f32 rr] 23) = W4 at *
        obtain ⟨i0, hi0, hz0, hz1, hz2⟩ := info_parts f32_info
        refine wpAnyH_ready (rs := [12]) (by kernel_rfl) (by simp) ?_
        refine AllReadyH.cons (o := _) rfl (fun K hK => ?_) AllReadyH.nil
        refine step_append_lies _ (by rfl) (.tmp 43) (.tmp 54) 35 (by rfl) g 23 i0 _ 1 4 Tryz.underlying35 hi0 hz0 hz1 hz2 rfl (by omega) u3 k (f32s ys) (by rfl) HO4.out ⟨W3.heap.size, 0, none⟩ 1 1 [.float .f32 rr] (by rfl) (by rfl) (World.news_of_block (cs := #[.float .f32 rr]) (t := 23) (fr := (0, 0)) N4.out) (by simp [Value.oneCell']) (by omega) (by simp only [maxLen]; omega) (by omega) hg4 _ rfl ?_
        intro gg cap W5 hown5 hgrow5 hat5 hlt5
        have HP5 := Lib.hid (HP4.out.outGrown (B := g) hgrow5 (fun k' q => by
          obtain ⟨cs, hc⟩ := owns_ty HO4.out q
          have h1 := (HO4.out.lt k' q).1
          exact ⟨by have := HGB.out; omega, h1, cs, hc⟩) HI3.out HGW.out)
        have HO5 := Lib.hid hown5
        have hg5 : g < W5.heap.size := by have := hgrow5.size; have := lt_of_some N4.out; omega
        clear hown5 hgrow5 hat5 hlt5 HP4 HO4
        refine hK.out _ _ ?_ (fun hHeldN => ?_)
        · exact HC12.out _ _ HP5.out rfl rfl rfl rfl
        clear hHeld hK K
        have hHeld := hHeldN
        clear hHeldN
        (try simp only [Act.put, List.setIfInBounds_toArray, List.set_cons_zero, List.set_cons_succ, List.getElem_toArray, List.getElem_cons_succ, List.getElem_cons_zero])
        refine wpAnyH_take (i := 13) (oi := _) (v := ?_) rfl (by kernel_rfl) (by kernel_rfl) (by kernel_rfl) (fun _ _ _ h => h) (Or.inl ⟨by rfl, ?_⟩) (by assumption) ?_
        rotate_left
        · (intro w hSw; (try dsimp only at hSw); go_simp; try (with_reducible rfl))
        (try simp only [Act.put, List.setIfInBounds_toArray, List.set_cons_zero, List.set_cons_succ, List.getElem_toArray, List.getElem_cons_succ, List.getElem_cons_zero])
        refine wpAnyH_done (by kernel_rfl) ?_ _
        (try simp only [List.getElem_toArray, List.getElem_cons_succ, List.getElem_cons_zero, Act.put, List.setIfInBounds_toArray, List.set_cons_zero, List.set_cons_succ])
        go_wp2_with fail
        go_roundw
        case rel => exact ⟨k + 1, ys ++ [rr], _, by go_num, by omega, ⟨HP5.out, by simpa [f32s] using HO5.out, HN.out.nx.set HX.out rfl, HN.out.outs.snoc HXM.out HRR.out.1 HRR.out.2, HI3.out, HGW.out, hg5⟩⟩
        case measure => simp [intOf]; omega
    · have hkn : ms1.length = k := by omega
      subst hkn
      obtain ⟨A', ca, hv⟩ := owns_form HN.out.own
      subst hv
      have hyl : ys.length = ms1.length := HN.out.outs.1
      have HYL := Lib.hid hyl
      have c8 := (pl_cells HN.out.pl.box).2.2.2.2.2.2.2.2.1
      have f8 := free_cells HN.out.pl.box 8
      have HNow := Lib.hid (HN.out.pl.setNow (now + 1))
      have HOn : Hid (∀ v, (wr.setCell ⟨P, 8, none⟩ v).ownsRow c.wk.heap.size 23 1 (.slice A' ms1.length ca) ms1.length (f32s ys)) := Lib.hid (fun v => owns_lower (owns_stay HN.out.own fun j e => by
        obtain ⟨cs, hc⟩ := owns_ty HN.out.own e
        exact (grown_set _ _ : wr.grownBy (wr.setCell ⟨P, 8, none⟩ v) (some P)).block j (lt_of_some hc) (by intro q; injection q with q; exact ty_ne hc HN.out.pl.box (by decide) q)) HN.out.gw)
      have HDn : Hid (L'.map Vm.v = (ms1.map Vm.v).map Vp.next) := HN.out.nx.done
      clear hyl
      go_wp2_with fail
      go_ret
      refine ⟨A', ca, ys, d, _, vT2, L', b1, d - done, ⟨ms1.map Vm.v, b1⟩, by rw [HYL.out]; rfl, by rw [HYL.out]; exact HOn.out _, HNow.out, hd1, by omega, HA.out, HDn.out, rfl, ?_⟩
      have := HN.out.outs
      simpa using this
end Go.Proofs.YtndnfhhdflmfcaaGreat

/-
A player's whole course, plain; a player seen from a later world.
-/
namespace Go.Proofs.YtndnfhhdflmfcaaGreat
open Go Go.RowKit Ieee

/-- A sample of a player: what arrives, what the voices give, what is left. -/
def nextP (bm : Int → List MW) (most : Int) (L : List Ev) (now : Nat) (q : Nat × Pl) : Nat × Pl :=
  (q.1 + (arriveP bm most now (L.drop q.1) q.2).1, ⟨(arriveP bm most now (L.drop q.1) q.2).2.vs.map Vp.next, (arriveP bm most now (L.drop q.1) q.2).2.begun⟩)
/-- The voices that sound in a sample. -/
def soundP (bm : Int → List MW) (most : Int) (L : List Ev) (now : Nat) (q : Nat × Pl) : List Vp := (arriveP bm most now (L.drop q.1) q.2).2.vs
/-- A player after n samples: how many events are done, its voices. -/
def plAt (bm : Int → List MW) (most : Int) (L : List Ev) : Nat → Nat × Pl
  | 0 => (0, ⟨[], 0⟩)
  | n + 1 => nextP bm most L n (plAt bm most L n)
theorem arriveP_count {bm : Int → List MW} {most now : Int} {l : List Ev} {p : Pl} : (arriveP bm most now l p).1 ≤ l.length ∧ (arriveP bm most now l p).2.begun ≤ p.begun + (arriveP bm most now l p).1 := by
  induction l generalizing p with
  | nil => simp [arriveP]
  | cons e l ih =>
    unfold arriveP
    split
    · have h := ih (p := p.happen bm most e)
      have h2 := Pl.happen_begun (bm := bm) (most := most) (p := p) (e := e)
      refine ⟨by simp only [List.length_cons]; omega, ?_⟩
      show (arriveP bm most now l (p.happen bm most e)).2.begun ≤ p.begun + (((arriveP bm most now l (p.happen bm most e)).1 + 1 : Nat) : Int)
      omega
    · simp
/-- What is known of a player after n samples. -/
structure AtOk (t : Nat) (most : Int) (L : List Ev) (q : Nat × Pl) : Prop where
  ok : PvOk t most q.2
  d : q.1 ≤ L.length
  b : q.2.begun ≤ q.1
theorem AtOk.next {t now : Nat} {most len : Int} {bs : List Bd} {L : List Ev} {q : Nat × Pl} (h : AtOk t most L q) (hm : 1 ≤ most) (hb : BodsOk bs 4 3) (he : ∀ e ∈ L, EvOk len bs.length e) (ht : t ≤ 61) : AtOk (t + 1) most L (nextP (bmOf bs) most L now q) := by
  have h1 := arriveP_ok (now := now) (l := L.drop q.1) h.ok hm hb (fun e he' => he e (List.mem_of_mem_drop he'))
  have h2 := arriveP_count (bm := bmOf bs) (most := most) (now := now) (l := L.drop q.1) (p := q.2)
  have hd := h.d
  have hbb := h.b
  refine ⟨⟨fun v hv => ?_, ?_, ?_⟩, ?_, ?_⟩
  · obtain ⟨u, hu, rfl⟩ := List.mem_map.1 hv
    exact (h1.vs u hu).next ht
  · show (((arriveP (bmOf bs) most now (L.drop q.1) q.2).2.vs.map Vp.next).length : Int) ≤ most
    rw [List.length_map]; exact h1.len
  · exact h1.b0
  · have := h2.1
    rw [List.length_drop] at this
    show q.1 + _ ≤ _
    omega
  · have := h2.2
    show (arriveP (bmOf bs) most now (L.drop q.1) q.2).2.begun ≤ ((q.1 + (arriveP (bmOf bs) most now (L.drop q.1) q.2).1 : Nat) : Int)
    omega
theorem plAt_ok {most len : Int} {bs : List Bd} {L : List Ev} (hm : 1 ≤ most) (hb : BodsOk bs 4 3) (he : ∀ e ∈ L, EvOk len bs.length e) : ∀ n, n ≤ 62 → AtOk n most L (plAt (bmOf bs) most L n) := by
  intro n
  induction n with
  | zero =>
    intro _
    exact ⟨⟨fun v hv => by simp [plAt] at hv, by simp [plAt]; omega, by simp [plAt]⟩, by simp [plAt], by simp [plAt]⟩
  | succ n ih =>
    intro hn
    exact (ih (by omega)).next hm hb he (by omega)
/-- A player seen from a later world. -/
theorem PlG.rebase {w0 w W : World} {base P done now : Nat} {c : Pc} {vV vT : Value} {ms : List Vm} {begun : Int} (h : PlIn w0 w base P c done now vV vT ms begun) (hk : Kept W w) (hs : c.wk.heap.size ≤ W.heap.size) : PlIn w0 w base P { c with wk := W } done now vV vT ms begun :=
  ⟨h.bel, h.hs, h.P0, h.box, h.ev, h.vrow, h.trow, h.vo, h.apart, hk, fun b hb => Nat.lt_of_lt_of_le (h.fbs b hb) hs⟩
/-- The caller turns rows of his own; the player is seen from the new world. -/
theorem PlG.caller {w0 w w' : World} {base P done now : Nat} {c : Pc} {vV vT : Value} {ms : List Vm} {begun : Int} (h : PlIn w0 w base P c done now vV vT ms begun) (hb : Below base w0 w')
    (hk : ∀ (j : Nat) (cs : Array Value) (t : TypeId) (f : Nat × Nat), w.heap[j]? = some (.cells cs t f) → (PT t ∨ t = 71 ∨ (t = 23 ∧ ¬ c.fb j)) → w'.heap[j]? = w.heap[j]?) (F : Nat → Prop) (hF : ∀ b, F b → b < w'.heap.size ∧ (c.fb b ∨ w.heap.size ≤ b)) : PlIn w0 w' base P { c with wk := w', fb := F } done now vV vT ms begun := by
  have hs := h.hs
  have kk : ∀ (j : Nat) (cs : Array Value) (t : TypeId) (f : Nat × Nat), w.heap[j]? = some (.cells cs t f) → PT t ∨ t = 71 → w'.heap[j]? = w.heap[j]? := fun j cs t f hj ht => hk j cs t f hj (by
    rcases ht with ht | ht
    · exact .inl ht
    · exact .inr (.inl ht))
  refine ⟨hb, h.hs, h.P0, (kk P _ _ _ h.box (.inl (.inl rfl))).trans h.box, ?_, ?_, ?_, ?_, h.apart, Kept.refl _, fun b q => (hF b q).1⟩
  · exact owns_stay h.ev fun j e => by
      obtain ⟨cs, hc⟩ := owns_ty h.ev e
      exact kk j _ _ _ hc (.inr rfl)
  · exact owns_stay h.vrow fun j e => by
      obtain ⟨cs, hc⟩ := owns_ty h.vrow e
      exact kk j _ _ _ hc (.inl (.inr (.inl rfl)))
  · exact owns_stay h.trow fun j e => by
      obtain ⟨cs, hc⟩ := owns_ty h.trow e
      exact kk j _ _ _ hc (.inl (.inr (.inr (.inl rfl))))
  · intro m hm
    have hv := h.vo m hm
    refine ⟨owns_stay hv.mod fun k e => ?_, hv.mS, hv.sts.of_block ?_, hv.S0, fun hl => ?_, hv.ic⟩
    · obtain ⟨cs, hc⟩ := owns_ty hv.mod e
      exact kk k _ _ _ hc (.inl (.inr (.inr (.inr (.inl rfl)))))
    · obtain ⟨cs, hc⟩ := rowIs_ty hv.sts
      exact kk _ _ _ _ hc (.inl (.inr (.inr (.inr (.inr rfl)))))
    · obtain ⟨b, off, cs, e, h1, hb, hcc⟩ := hv.inp hl
      refine ⟨b, off, cs, e, ⟨h1.1, fun q => ?_⟩, (hk b _ _ _ hb (.inr (.inr ⟨rfl, h1.2⟩))).trans hb, hcc⟩
      rcases (hF b q).2 with h2 | h2
      · exact h1.2 h2
      · have := lt_of_some hb; omega
/-- A sum of outputs that are known up to NaN. -/
theorem OutsOk.nrm {k : Nat} {vs : List Vp} {ys : List Nat} (h : OutsOk k vs ys) (hk : k = vs.length) : ys.map (nrm .f32) = vs.map Vp.out := by
  refine List.ext_getElem? fun j => ?_
  rw [List.getElem?_map, List.getElem?_map]
  rcases Nat.lt_or_ge j k with hj | hj
  · have h1 : j < vs.length := by omega
    have h2 : j < ys.length := by rw [h.1]; omega
    have := (h.2 j vs[j] hj (List.getElem?_eq_getElem h1)).1
    rw [List.getElem?_eq_getElem h1, List.getElem?_eq_getElem h2]
    simp only [List.getD, List.getElem?_eq_getElem h2, Option.getD_some] at this
    simp [this]
  · have hy := h.1
    rw [List.getElem?_eq_none (by omega), List.getElem?_eq_none (by omega)]
    rfl
theorem foldl_nrm (ys : List Nat) (a : Nat) : ys.foldl (fun s x => fo .add .f32 s x) a = (ys.map (nrm .f32)).foldl (fun s x => fo .add .f32 s x) a := by
  induction ys generalizing a with
  | nil => rfl
  | cons y ys ih => simp only [List.foldl_cons, List.map_cons, fo_nrm_r]; exact ih _
/-- The sum of a sample's outputs. -/
theorem OutsOk.total {vs : List Vp} {ys : List Nat} (h : OutsOk vs.length vs ys) : totalW ys = totalW (vs.map Vp.out) := by
  unfold totalW
  rw [foldl_nrm, h.nrm rfl]
/-- The sum that a player gives at sample n; what the limiter holds ahead of it. -/
def sumP (bm : Int → List MW) (most : Int) (L : List Ev) (n : Nat) : Nat := totalW ((soundP bm most L n (plAt bm most L n)).map Vp.out)
def envP (bm : Int → List MW) (most : Int) (L : List Ev) (r : Nat) : Nat → Nat
  | 0 => 0
  | n + 1 => nrm .f32 (limE (envP bm most L r n) (sumP bm most L n) r)
/-- A sample of the stream. -/
def smpP (bm : Int → List MW) (most : Int) (L : List Ev) (c r n : Nat) : Nat := limS (envP bm most L r n) (sumP bm most L n) c r
end Go.Proofs.YtndnfhhdflmfcaaGreat

/-
Two results of MixTracks agree. (Plain arithmetic.)
-/
namespace Go.Proofs.YtndnfhhdflmfcaaGreat
open Go Go.RowKit Ieee

/-- Two results that agree: lengths and elements. -/
def AgreeL (ys zs : List Nat) : Prop := ys.length = zs.length ∧ ∀ i, i < ys.length → wfk .f32 (ys.getD i 0) ∧ wfk .f32 (zs.getD i 0) ∧ sameB .f32 (ys.getD i 0) (zs.getD i 0) = true
theorem isN_abs32 (b : Nat) : isN .f32 (b % 2147483648) = isN .f32 b := by
  show (single.read (b % 2147483648)).isNaN = (single.read b).isNaN
  rw [read_abs32]
  cases single.read b <;> rfl
theorem abs32_congr {x y : Nat} (h : nrm .f32 x = nrm .f32 y) : nrm .f32 (x % 2147483648) = nrm .f32 (y % 2147483648) := by
  cases hx : isN .f32 x
  · cases hy : isN .f32 y
    · rw [nrm_of_num hx, nrm_of_num hy] at h; rw [h]
    · rw [nrm_of_num hx, nrm_of_nan hy] at h
      rw [h, isN_qn] at hx; cases hx
  · cases hy : isN .f32 y
    · rw [nrm_of_nan hx, nrm_of_num hy] at h
      rw [← h, isN_qn] at hy; cases hy
    · rw [nrm_of_nan (by rw [isN_abs32]; exact hx), nrm_of_nan (by rw [isN_abs32]; exact hy)]
theorem limE_x {E x y r : Nat} (h : nrm .f32 x = nrm .f32 y) : limE E x r = limE E y r := by unfold limE; rw [abs32_congr h]
theorem limS_x {E x y c r : Nat} (h : nrm .f32 x = nrm .f32 y) : limS E x c r = limS E y c r := by
  unfold limS; rw [limE_x h, h, show fo .mul .f32 x c = fo .mul .f32 y c from fo_congr h rfl]
theorem envAt_x {xs ys : List Nat} {r : Nat} {n : Nat} (h : ∀ i, i < n → nrm .f32 (xs.getD i 0) = nrm .f32 (ys.getD i 0)) : ∀ k, k ≤ n → envAt xs r k = envAt ys r k := by
  intro k
  induction k with
  | zero => intro _; rfl
  | succ k ih =>
    intro hk
    show limE (envAt xs r k) (xs.getD k 0) r = limE (envAt ys r k) (ys.getD k 0) r
    rw [ih (by omega), limE_x (h k (by omega))]
theorem sumAt_x {rs qs : List Row} {n : Nat} (h : ∀ i, i < n → (rowAt qs i).2.2 = (rowAt rs i).2.2) (j : Nat) : ∀ k, k ≤ n → sumAt qs k j = sumAt rs k j := by
  intro k
  induction k with
  | zero => intro _; rfl
  | succ k ih =>
    intro hk
    show fo .add .f32 (sumAt qs k j) ((rowAt qs k).2.2.getD j 0) = fo .add .f32 (sumAt rs k j) ((rowAt rs k).2.2.getD j 0)
    rw [ih (by omega), h k (by omega)]
theorem mixRes_x {c r : Nat} {rs qs : List Row} {ok : Bool} {ys : List Nat} (hl : qs.length = rs.length) (h : ∀ i, i < rs.length → (rowAt qs i).2.2 = (rowAt rs i).2.2) (hm : MixRes c r qs ok ys) : MixRes c r rs ok ys := by
  have hr : ∀ i, i < rs.length → rowLen qs i = rowLen rs i := fun i hi => by unfold rowLen; rw [h i hi]
  rcases hm with ⟨h1, h2, ss, h3, h4⟩ | ⟨⟨i, h1, h2⟩, h3, h4⟩
  · refine .inl ⟨fun i hi => ?_, h2, ss, ?_, h4⟩
    · have := h1 i (by omega)
      rwa [hr i hi, hr 0 (by omega)] at this
    · have e : (if qs.length = 0 then 0 else rowLen qs 0) = if rs.length = 0 then 0 else rowLen rs 0 := by
        rw [hl]
        by_cases h0 : rs.length = 0
        · rw [if_pos h0, if_pos h0]
        · rw [if_neg h0, if_neg h0, hr 0 (by omega)]
      rw [e, hl] at h3
      refine ⟨h3.1, fun j hj => ?_⟩
      have := h3.2 j hj
      rw [if_neg (by omega)] at this ⊢
      rwa [sumAt_x h j _ (Nat.le_refl _)] at this
  · exact .inr ⟨⟨i, by omega, by rwa [hr i (by omega), hr 0 (by omega)] at h2⟩, h3, h4⟩
theorem mix_agree {c r : Nat} {rs : List Row} {ok ok' : Bool} {ys zs : List Nat} (hy : MixRes c r rs ok ys) (hz : MixRes c r rs ok' zs) : ok = ok' ∧ AgreeL ys zs := by
  rcases hy with ⟨h1, h2, ss, h3, h4⟩ | ⟨⟨i, h1, h2⟩, h3, h4⟩ <;> rcases hz with ⟨g1, g2, ts, g3, g4⟩ | ⟨⟨k, g1, g2⟩, g3, g4⟩
  · refine ⟨by rw [h2, g2], ?_⟩
    cases hok : limOk c r
    · rw [if_neg (by simp [hok])] at h4 g4
      subst h4 g4
      exact ⟨rfl, fun i hi => by simp at hi⟩
    · rw [if_pos hok] at h4 g4
      have hlen : ss.length = ts.length := by rw [h3.1, g3.1]
      have hn : ∀ i, i < ss.length → nrm .f32 (ss.getD i 0) = nrm .f32 (ts.getD i 0) := fun i hi => by
        have e1 := (h3.2 i (by rw [← h3.1]; exact hi)).1
        have e2 := (g3.2 i (by rw [← g3.1, ← hlen]; exact hi)).1
        rw [e1, e2]
      refine ⟨by rw [h4.1, g4.1, hlen], fun i hi => ?_⟩
      rw [h4.1] at hi
      obtain ⟨y1, y2⟩ := h4.2 i hi
      obtain ⟨z1, z2⟩ := g4.2 i (by omega)
      refine ⟨y2, z2, ?_⟩
      unfold sameB
      rw [y1, z1, envAt_x hn i (by omega), limS_x (hn i hi)]
      simp
  · exact absurd (h1 k g1) g2
  · exact absurd (g1 i h1) h2
  · subst h4 g4
    exact ⟨by rw [h3, g3], rfl, fun i hi => by simp at hi⟩
theorem mix_len {c r : Nat} {rs : List Row} {ok : Bool} {ys : List Nat} (hy : MixRes c r rs ok ys) (hl : ∀ i, i < rs.length → rowLen rs i ≤ 1048576) : ys.length ≤ 1048576 := by
  rcases hy with ⟨h1, h2, ss, h3, h4⟩ | ⟨_, _, h4⟩
  · cases hok : limOk c r
    · rw [if_neg (by simp [hok])] at h4
      subst h4; simp
    · rw [if_pos hok] at h4
      rw [h4.1, h3.1]
      split
      · omega
      · exact hl 0 (by omega)
  · subst h4; simp
end Go.Proofs.YtndnfhhdflmfcaaGreat

/-
impl.streamed.
-/
namespace Go.Proofs.YtndnfhhdflmfcaaGreat
open Go Go.RowKit Ieee

theorem sortedE_mem {L : List Ev} {e : Ev} (h : e ∈ sortedE L) : e ∈ L := by
  have h1 : e ∈ ofTime e.1 (sortedE L) := by unfold ofTime; exact List.mem_filter.2 ⟨h, by simp⟩
  rw [ofTime_sorted] at h1
  unfold ofTime at h1
  exact (List.mem_filter.1 h1).1
theorem owns_rd {w : World} {base n c : Nat} {e : TypeId} {A : Option Addr} {xs : List Value} (h : w.ownsRow base e 1 (.slice A n c) n xs) : Rd w A xs := by
  obtain ⟨_, _, q, _, rd⟩ := own_rd h
  injection q with q1 _ q2
  subst q1 q2
  exact rd
/-- What streamed leaves, and what it gives. -/
def StrOk (bm : Int → List MW) (most : Int) (L : List Ev) (c r n : Nat) (ys : List Nat) : Prop := ys.length = n ∧ ∀ i, i < n → nrm .f32 (ys.getD i 0) = smpP bm most L c r i ∧ wfk .f32 (ys.getD i 0)

/-- A score that can be played. -/
structure ScPlay (s : Sh) (bs : List Bd) (evs : List Ev) : Prop where
  sh : ShOk 2000 s
  bods : BodsOk bs 4 3
  evs : EvsOk s.1 bs.length evs 19
/-- The player's states are bounded at all samples below n. -/
def AtAll (n : Nat) (s : Sh) (bs : List Bd) (evs : List Ev) : Prop := ∀ k, k ≤ n → ∃ t, t ≤ 61 ∧ AtOk t s.2.1 (sortedE evs) (plAt (bmOf bs) s.2.1 (sortedE evs) k)
theorem ScPlay.at {s : Sh} {bs : List Bd} {evs : List Ev} (h : ScPlay s bs evs) {n : Nat} (hn : n ≤ 61) : AtAll n s bs evs := fun k hk =>
  ⟨k, by omega, plAt_ok (len := s.1) h.sh.v0 h.bods (fun e he => h.evs.2 e (sortedE_mem he)) k (by omega)⟩
theorem owns_none {w : World} {lo n k b : Nat} {e : TypeId} {v : Value} {xs : List Value} (h : w.ownsRow lo e k v n xs) (hb : v.ownBlock = some b) : lo ≤ b ∧ ∃ cs, w.heap[b]? = some (.cells cs e (0, 0)) := ⟨(h.lt b hb).1, owns_ty h hb⟩
/-- The caller appends to his row of numbers. -/
theorem PlG.appended {w0 w w' : World} {base P done now lo n gg m cap : Nat} {c : Pc} {vV vT v : Value} {ms : List Vm} {begun : Int} {xs : List Value} (h : PlIn w0 w base P c done now vV vT ms begun) (hown : w.ownsRow lo 23 1 v n xs) (hlo : base ≤ lo)
    (hfb : ∀ b, v.ownBlock = some b → c.fb b) (hg : w.grownBy w' v.ownBlock) (hat : v.ownBlock = some gg ∨ gg = w.heap.size) (hlt : gg < w'.heap.size) :
    PlIn w0 w' base P { c with wk := w', fb := fun b => (Value.slice (some ⟨gg, 0, none⟩) m cap).ownBlock = some b } done now vV vT ms begun := by
  have hs := h.hs
  have hz := h.bel.size
  refine h.caller ⟨hg.os.trans h.bel.os, hg.tape.trans h.bel.tape, hg.output.trans h.bel.output, Nat.le_trans hz hg.size, fun j hj => (hg.block j (by omega) (fun q => by have := (hown.lt j q.symm).1; omega)).trans (h.bel.block j hj)⟩ (fun j cs t f hj ht => hg.block j (lt_of_some hj) (fun q => ?_)) _ (fun b hb => ?_)
  · obtain ⟨cs', hc⟩ := owns_ty hown q.symm
    rcases ht with ht | ht | ⟨_, ht⟩
    · exact ty_ne hj hc (fun e => by subst e; revert ht; unfold PT; decide) rfl
    · exact ty_ne hj hc (fun e => by subst e; exact absurd ht (by decide)) rfl
    · exact ht (hfb j q.symm)
  · have hb : gg = b := by injection hb
    subst hb
    refine ⟨hlt, ?_⟩
    rcases hat with q | q
    · exact .inl (hfb _ q)
    · exact .inr (by omega)
/-- What streamed returns. -/
def StrP (w : World) (s : Sh) (B : Option Addr) (cb : Nat) (bs : List Bd) (E : Option Addr) (ce : Nat) (evs : List Ev) (n : Nat) (r : Ending) (w' : World) : Prop :=
  ∃ (W : World) (P : Nat) (c : Pc) (ev : Nat) (A : Option Addr) (ca : Nat) (ys : List Nat) (vV vT : Value) (ms : List Vm) (b : Int), r = .returned (.tuple #[.pointer (some ⟨P, 0, none⟩), .float .f32 ev, .slice A n ca]) ∧
    (c.s = s ∧ c.B = B ∧ c.cb = cb ∧ c.bs = bs ∧ c.E = E ∧ c.ce = ce ∧ c.ne = evs.length ∧ c.L = sortedE evs) ∧ Below w.heap.size w W ∧
    PlIn W w' W.heap.size P c (plAt (bmOf bs) s.2.1 (sortedE evs) n).1 n vV vT ms b ∧ ms.map Vm.v = (plAt (bmOf bs) s.2.1 (sortedE evs) n).2.vs ∧ b = (plAt (bmOf bs) s.2.1 (sortedE evs) n).2.begun ∧
    (nrm .f32 ev = envP (bmOf bs) s.2.1 (sortedE evs) s.2.2.2 n ∧ wfk .f32 ev) ∧ w'.ownsRow w.heap.size 23 1 (.slice A n ca) n (f32s ys) ∧ StrOk (bmOf bs) s.2.1 (sortedE evs) s.2.2.1 s.2.2.2 n ys
theorem StrOk.snoc {bm : Int → List MW} {most : Int} {L : List Ev} {c r n y : Nat} {ys : List Nat} (h : StrOk bm most L c r n ys) (h1 : nrm .f32 y = smpP bm most L c r n) (h2 : wfk .f32 y) : StrOk bm most L c r (n + 1) (ys ++ [y]) := by
  obtain ⟨hl, h⟩ := h
  refine ⟨by simp [hl], fun i hi => ?_⟩
  rcases Nat.lt_or_ge i n with q | q
  · have e : (ys ++ [y]).getD i 0 = ys.getD i 0 := by
      simp only [List.getD]; rw [List.getElem?_append_left (by omega)]
    rw [e]; exact h i q
  · obtain rfl : i = n := by omega
    have e : (ys ++ [y]).getD i 0 = y := by
      simp only [List.getD]; rw [List.getElem?_append_right (by omega), hl]; simp
    rw [e]; exact ⟨h1, h2⟩
/-- Where the walk of streamed is. -/
structure TIn (w0 w : World) (P : Nat) (c : Pc) (sb g k : Nat) (E : Nat) (v : Value) (ys : List Nat) (vV vT : Value) (ms : List Vm) (b : Int) : Prop where
  pl : PlIn w0 w w0.heap.size P { c with wk := w, fb := fun b => v.ownBlock = some b } (plAt (bmOf c.bs) c.s.2.1 c.L k).1 k vV vT ms b
  vs : ms.map Vm.v = (plAt (bmOf c.bs) c.s.2.1 c.L k).2.vs
  bg : b = (plAt (bmOf c.bs) c.s.2.1 c.L k).2.begun
  env : nrm .f32 E = envP (bmOf c.bs) c.s.2.1 c.L c.s.2.2.2 k ∧ wfk .f32 E
  own : w.ownsRow g 23 1 v k (f32s ys)
  out : StrOk (bmOf c.bs) c.s.2.1 c.L c.s.2.2.1 c.s.2.2.2 k ys
  box : w.heap[sb]? = some (.cells #[.int .i64 c.s.1, .int .i64 c.s.2.1, .float .f32 c.s.2.2.1, .float .f32 c.s.2.2.2, .slice c.B c.bs.length c.cb, .slice c.E c.ne c.ce] 27 (0, 0))
  g0 : w0.heap.size ≤ g
  gs : g ≤ w.heap.size
theorem envP_nrm (bm : Int → List MW) (most : Int) (L : List Ev) (r n : Nat) : nrm .f32 (envP bm most L r n) = envP bm most L r n := by
  cases n with
  | zero => exact (nrm_of_num (by decide +kernel) : nrm .f32 0 = 0)
  | succ n => exact nrm_nrm _ _
set_option maxRecDepth 100000 in
set_option maxHeartbeats 6400000 in
theorem streamed_any (s : Sh) (B : Option Addr) (cb : Nat) (bs : List Bd) (E : Option Addr) (ce lo hi n : Nat) (evs : List Ev) (w : World) (h : ScIn w lo hi B cb bs E ce evs) (hok : ScPlay s bs evs) (hat : AtAll n s bs evs) (hn : n ≤ 2000) :
    Calls Tryz.prog 15 #[.agg #[.int .i64 s.1, .int .i64 s.2.1, .float .f32 s.2.2.1, .float .f32 s.2.2.2, .slice B bs.length cb, .slice E evs.length ce], .int .i64 n] w (StrP w s B cb bs E ce evs n) := by
  have HOK := Lib.hid hok
  have HS : Hid (ScIn (w.alloc (.cells #[.int .i64 s.1, .int .i64 s.2.1, .float .f32 s.2.2.1, .float .f32 s.2.2.2, .slice B bs.length cb, .slice E evs.length ce] 27)) lo hi B cb bs E ce evs) := h.below ((Below.refl _ _).alloc (Nat.le_refl _) _)
  have HBx := Lib.hid (heap_alloc_new w (.cells #[.int .i64 s.1, .int .i64 s.2.1, .float .f32 s.2.2.1, .float .f32 s.2.2.2, .slice B bs.length cb, .slice E evs.length ce] 27))
  have HAA := Lib.hid hat
  have HBel : Hid (Below w.heap.size w (w.alloc (.cells #[.int .i64 s.1, .int .i64 s.2.1, .float .f32 s.2.2.1, .float .f32 s.2.2.2, .slice B bs.length cb, .slice E evs.length ce] 27))) := (Below.refl w.heap.size w).alloc (Nat.le_refl _) _
  clear h hok hat
  go_enter Tryz.func15, Tryz.ntmps15
  go_wp2_with fail
  generalize w.alloc (.cells #[.int .i64 s.1, .int .i64 s.2.1, .float .f32 s.2.2.1, .float .f32 s.2.2.2, .slice B bs.length cb, .slice E evs.length ce] 27) = W at *
  generalize hsb : w.heap.size = sb at *
  have HSB := Lib.hid hsb
  clear hsb
  refine (newPlayer_any s B cb bs E ce lo hi evs W HS.out.evs HS.out.hh (HOK.out.evs.timed (by have := HOK.out.sh.l1; omega)) (by have := HOK.out.evs.1; omega)).mono ?_
  rintro r W2 ⟨P, A, ca, rfl, hp⟩
  have HP := Lib.hid hp
  clear hp
  obtain ⟨c, hc⟩ : ∃ c : Pc, c = ⟨s, B, cb, bs, E, ce, evs.length, A, ca, sortedE evs, W, fun _ => False⟩ := ⟨_, rfl⟩
  have HBD : Hid (BodsIn W lo W.heap.size c.B c.bs) := by
    subst hc
    exact (HS.out.low (Nat.le_refl _) HS.out.hh (Nat.le_refl _)).bodsIn
  have HCO : Hid (∀ w' F, PcOk s.1 s.2.1 { c with wk := w', fb := F }) := by
    subst hc
    intro w' F
    exact ⟨HOK.out.bods, HOK.out.sh.v0, by have := HOK.out.sh.v1; show s.2.1 ≤ 8; omega, fun e he => HOK.out.evs.2 e (sortedE_mem he), by rw [sortedE_len]; have := HOK.out.evs.1; omega, rfl⟩
  have HAt : Hid (∀ k, k ≤ n → ∃ t, t ≤ 61 ∧ AtOk t s.2.1 c.L (plAt (bmOf c.bs) c.s.2.1 c.L k)) := by
    subst hc
    exact HAA.out
  have HT0 : Hid (TIn W (W2.alloc (.cells #[] 23)) P c sb W2.heap.size 0 0 (.slice (some ⟨W2.heap.size, 0, none⟩) 0 0) [] (.slice none 0 0) (.slice none 0 0) [] 0) := by
    subst hc
    have hp0 := HP.out
    have hp := hp0.alloc (.cells #[] 23)
    refine ⟨hp0.caller hp.bel (fun j cs t f hj _ => Below.heap_alloc W2 _ _ (lt_of_some hj)) _ (fun b hb => ?_), rfl, rfl, ⟨nrm_of_num (by decide +kernel), by rw [wfk_32]; omega⟩, owns_empty W2 23, ⟨rfl, fun i hi => absurd hi (Nat.not_lt_zero _)⟩, hp.kp.2 _ _ _ _ HBx.out (by unfold PT; decide), HP.out.bel.size, by simp⟩
    have hb : W2.heap.size = b := by injection hb
    subst hb
    exact ⟨by simp, .inr (Nat.le_refl _)⟩
  have HC := Lib.hid hc
  clear hc
  go_wp2_with fail
  generalize W2.alloc (.cells #[] 23) = Wa at *
  generalize W2.heap.size = g at *
  go_loopw [8, 9, 15] (fun ev v i wr => ∃ (k E : Nat) (ys : List Nat) (vV vT : Value) (ms : List Vm) (b : Int), i = .int .i64 (k : Int) ∧ k ≤ n ∧ ev = .float .f32 E ∧ Hid (TIn W wr P c sb g k E v ys vV vT ms b)) (fun _ _ i _ => n - (intOf i).toNat)
  case atStart => exact ⟨0, 0, [], _, _, [], 0, rfl, by omega, rfl, HT0⟩
  case round =>
    clear HT0 HP
    obtain ⟨k, E', ys, vV, vT, ms, b, rfl, hk, rfl, HT⟩ := hrel
    by_cases hlt : k < n
    · have cx := cell_of_row _ sb 2 _ _ (0, 0) HT.out.box
      have cy := cell_of_row _ sb 3 _ _ (0, 0) HT.out.box
      go_wp2_with fail
      have HP1 := Lib.hid (HT.out.pl.drewN 1)
      refine wp_region_held_drew (S := fun w' => w'.cell? ⟨sb, 2, none⟩ = some (.float .f32 c.s.2.2.1) ∧ w'.cell? ⟨sb, 3, none⟩ = some (.float .f32 c.s.2.2.2)) (by kernel_rfl) ⟨cx, cy⟩ (fun hHeld => ?_)
      clear cx cy
      refine wpAnyH_take (i := 0) (oi := _) (v := ?_) rfl (by kernel_rfl) (by kernel_rfl) (by kernel_rfl) (fun _ _ _ h => h) (Or.inl ⟨by rfl, ?_⟩) (by assumption) ?_
      rotate_left
      · (intro w hSw; (try dsimp only at hSw); go_simp; try (with_reducible rfl))
      (try simp only [Act.put, List.setIfInBounds_toArray, List.set_cons_zero, List.set_cons_succ, List.getElem_toArray, List.getElem_cons_succ, List.getElem_cons_zero])
      refine wpAnyH_take (i := 1) (oi := _) (v := ?_) rfl (by kernel_rfl) (by kernel_rfl) (by kernel_rfl) (fun _ _ _ h => h) (Or.inl ⟨by rfl, ?_⟩) (by assumption) ?_
      rotate_left
      · (intro w hSw; (try dsimp only at hSw); go_simp; try (with_reducible rfl))
      (try simp only [Act.put, List.setIfInBounds_toArray, List.set_cons_zero, List.set_cons_succ, List.getElem_toArray, List.getElem_cons_succ, List.getElem_cons_zero])
      refine wpAnyH_take (i := 4) (oi := _) (v := ?_) rfl (by kernel_rfl) (by kernel_rfl) (by kernel_rfl) (fun _ _ _ h => h) (Or.inl ⟨by rfl, ?_⟩) (by assumption) ?_
      rotate_left
      · (intro w hSw; (try dsimp only at hSw); go_simp; try (with_reducible rfl))
      (try simp only [Act.put, List.setIfInBounds_toArray, List.set_cons_zero, List.set_cons_succ, List.getElem_toArray, List.getElem_cons_succ, List.getElem_cons_zero])
      refine wpAnyH_take (i := 5) (oi := _) (v := ?_) rfl (by kernel_rfl) (by kernel_rfl) (by kernel_rfl) (fun _ _ _ h => h) (Or.inl ⟨by rfl, ?_⟩) (by assumption) ?_
      rotate_left
      · (intro w hSw; (try dsimp only at hSw); go_simp; try (with_reducible rfl))
      (try simp only [Act.put, List.setIfInBounds_toArray, List.set_cons_zero, List.set_cons_succ, List.getElem_toArray, List.getElem_cons_succ, List.getElem_cons_zero])
      refine wpAnyH_take (i := 6) (oi := _) (v := ?_) rfl (by kernel_rfl) (by kernel_rfl) (by kernel_rfl) (fun _ _ _ h => h) (Or.inl ⟨by rfl, ?_⟩) (by assumption) ?_
      rotate_left
      · (intro w hSw; (try dsimp only at hSw); go_simp; try (with_reducible rfl))
      (try simp only [Act.put, List.setIfInBounds_toArray, List.set_cons_zero, List.set_cons_succ, List.getElem_toArray, List.getElem_cons_succ, List.getElem_cons_zero])
      refine wpAnyH_take (i := 7) (oi := _) (v := ?_) rfl (by kernel_rfl) (by kernel_rfl) (by kernel_rfl) (fun _ _ _ h => h) (Or.inl ⟨by rfl, ?_⟩) (by assumption) ?_
      rotate_left
      · (intro w hSw; (try dsimp only at hSw); go_simp; try (with_reducible rfl))
      (try simp only [Act.put, List.setIfInBounds_toArray, List.set_cons_zero, List.set_cons_succ, List.getElem_toArray, List.getElem_cons_succ, List.getElem_cons_zero])
      refine wpAnyH_ready (rs := [2]) (by kernel_rfl) (by simp) ?_
      refine AllReadyH.cons (o := _) rfl (fun K hK => ?_) AllReadyH.nil
      go_simp
      obtain ⟨tk, htk, hat⟩ := HAt.out k (by omega)
      have HAK := Lib.hid hat
      clear hat
      refine (next_any (t := tk) (L := s.1) (most := s.2.1) HP1.out HBD.out (HCO.out wr _) (by rw [HT.out.vs, HT.out.bg]; exact HAK.out.ok) HAK.out.d (by rw [HT.out.bg]; exact HAK.out.b) htk (by omega)).mono ?_
      rintro r W3 hp3
      unfold NextP at hp3
      obtain ⟨A3, ca3, ys3, d3, vV3, vT3, ms3, b3, n3, p3, rfl, hown3, hpl3, hd3, hd3', harr3, hms3, hb3, houts3⟩ := hp3
      have HBX3 : Hid (W3.heap[sb]? = some (.cells #[.int .i64 c.s.1, .int .i64 c.s.2.1, .float .f32 c.s.2.2.1, .float .f32 c.s.2.2.2, .slice c.B c.bs.length c.cb, .slice c.E c.ne c.ce] 27 (0, 0))) := hpl3.kp.2 _ _ _ _ HT.out.box (by unfold PT; decide)
      have HO3 : Hid (W3.ownsRow g 23 1 u9 k (f32s ys)) := owns_stay HT.out.own fun j e => by
        obtain ⟨cs, hc⟩ := owns_ty HT.out.own e
        exact (hpl3.kp.2 _ _ _ _ hc (by unfold PT; decide)).trans hc.symm
      have HQ : Hid (arriveP (bmOf c.bs) c.s.2.1 k (c.L.drop (plAt (bmOf c.bs) c.s.2.1 c.L k).1) (plAt (bmOf c.bs) c.s.2.1 c.L k).2 = (n3, p3)) := by
        have h1 : (⟨ms.map Vm.v, b⟩ : Pl) = (plAt (bmOf c.bs) c.s.2.1 c.L k).2 := by rw [HT.out.vs, HT.out.bg]
        rw [h1] at harr3
        exact harr3
      have HSum : Hid (totalW ys3 = sumP (bmOf c.bs) c.s.2.1 c.L k) := by
        show _ = totalW ((arriveP _ _ _ _ _).2.vs.map Vp.out)
        rw [HQ.out]
        exact houts3.total
      have HNx : Hid (plAt (bmOf c.bs) c.s.2.1 c.L (k + 1) = (d3, ⟨ms3.map Vm.v, b3⟩)) := by
        show ((plAt (bmOf c.bs) c.s.2.1 c.L k).1 + (arriveP _ _ _ _ _).1, (⟨(arriveP _ _ _ _ _).2.vs.map Vp.next, (arriveP _ _ _ _ _).2.begun⟩ : Pl)) = _
        rw [HQ.out, hms3, hb3, hd3']
      have HPl := Lib.hid hpl3
      have HG3 : Hid (g ≤ W3.heap.size) := Nat.le_trans HT.out.gs hpl3.kp.1
      have HRd : Hid (Rd W3 A3 (f32s ys3)) := Lib.hid (owns_rd hown3)
      have hy8 : ys3.length ≤ 1048576 := by
        have h1 := (arriveP_ok (now := k) (l := c.L.drop (plAt (bmOf c.bs) c.s.2.1 c.L k).1) HAK.out.ok HOK.out.sh.v0 (HCO.out w (fun _ => False)).bods (fun e he => (HCO.out w (fun _ => False)).evs e (List.mem_of_mem_drop he))).len
        have h2 : s.2.1 = c.s.2.1 := (HCO.out w (fun _ => False)).most
        rw [h2] at h1
        rw [HQ.out] at h1
        have h1' : (p3.vs.length : Int) ≤ c.s.2.1 := h1
        have h3 := HOK.out.sh.v1
        have h4 := houts3.1
        omega
      clear hown3 hpl3 hd3 hd3' harr3 hms3 hb3 houts3
      go_wp2_with fail
      refine hK.out _ _ ?_ (fun hHeldN => ?_)
      · exact ⟨cell_of_row _ sb 2 _ _ (0, 0) HBX3.out, cell_of_row _ sb 3 _ _ (0, 0) HBX3.out⟩
      clear hHeld hK K
      have hHeld := hHeldN
      clear hHeldN
      (try simp only [Act.put, List.setIfInBounds_toArray, List.set_cons_zero, List.set_cons_succ, List.getElem_toArray, List.getElem_cons_succ, List.getElem_cons_zero])
      refine wpAnyH_ready (rs := [3]) (by kernel_rfl) (by simp) ?_
      refine AllReadyH.cons (o := _) rfl (fun K hK => ?_) AllReadyH.nil
      go_simp
      refine (total_any A3 ca3 ys3 W3 HRd.out hy8).mono ?_
      rintro r W4 ⟨tt, n4, rfl, ht1, ht2, rfl⟩
      have HTT := Lib.hid ht1
      have HTW := Lib.hid ht2
      clear ht1 ht2
      go_wp2_with fail
      refine hK.out _ _ ?_ (fun hHeldN => ?_)
      · exact ⟨cell_of_row _ sb 2 _ _ (0, 0) HBX3.out, cell_of_row _ sb 3 _ _ (0, 0) HBX3.out⟩
      clear hHeld hK K
      have hHeld := hHeldN
      clear hHeldN
      (try simp only [Act.put, List.setIfInBounds_toArray, List.set_cons_zero, List.set_cons_succ, List.getElem_toArray, List.getElem_cons_succ, List.getElem_cons_zero])
      refine wpAnyH_ready (rs := [8]) (by kernel_rfl) (by simp) ?_
      refine AllReadyH.cons (o := _) rfl (fun K hK => ?_) AllReadyH.nil
      go_simp
      refine (impl_limitNext E' tt c.s.2.2.1 c.s.2.2.2 _ HTW.out).mono ?_
      rintro r W5 ⟨s5, g5, n5, rfl, h1, h2, h3, h4, rfl⟩
      have HL5 := Lib.hid (And.intro h1 (And.intro h2 (And.intro h3 h4)))
      clear h1 h2 h3 h4
      go_wp2_with fail
      refine hK.out _ _ ?_ (fun hHeldN => ?_)
      · exact ⟨cell_of_row _ sb 2 _ _ (0, 0) HBX3.out, cell_of_row _ sb 3 _ _ (0, 0) HBX3.out⟩
      clear hHeld hK K
      have hHeld := hHeldN
      clear hHeldN
      (try simp only [Act.put, List.setIfInBounds_toArray, List.set_cons_zero, List.set_cons_succ, List.getElem_toArray, List.getElem_cons_succ, List.getElem_cons_zero])
      refine wpAnyH_take (i := 9) (oi := _) (v := ?_) rfl (by kernel_rfl) (by kernel_rfl) (by kernel_rfl) (fun _ _ _ h => h) (Or.inl ⟨by rfl, ?_⟩) (by assumption) ?_
      rotate_left
      · (intro w hSw; (try dsimp only at hSw); go_simp; try (with_reducible rfl))
      (try simp only [Act.put, List.setIfInBounds_toArray, List.set_cons_zero, List.set_cons_succ, List.getElem_toArray, List.getElem_cons_succ, List.getElem_cons_zero])
      refine wpAnyH_take (i := 10) (oi := _) (v := ?_) rfl (by kernel_rfl) (by kernel_rfl) (by kernel_rfl) (fun _ _ _ h => h) (Or.inl ⟨by rfl, ?_⟩) (by assumption) ?_
      rotate_left
      · (intro w hSw; (try dsimp only at hSw); go_simp; try (with_reducible rfl))
      (try simp only [Act.put, List.setIfInBounds_toArray, List.set_cons_zero, List.set_cons_succ, List.getElem_toArray, List.getElem_cons_succ, List.getElem_cons_zero])
      refine wpAnyH_take (i := 11) (oi := _) (v := ?_) rfl (by kernel_rfl) (by kernel_rfl) (by kernel_rfl) (fun _ _ _ h => h) (Or.inl ⟨by rfl, ?_⟩) (by assumption) ?_
      rotate_left
      · (intro w hSw; (try dsimp only at hSw); go_simp; try (with_reducible rfl))
      (try simp only [Act.put, List.setIfInBounds_toArray, List.set_cons_zero, List.set_cons_succ, List.getElem_toArray, List.getElem_cons_succ, List.getElem_cons_zero])
      refine wpAnyH_take (i := 12) (oi := _) (v := ?_) rfl (by kernel_rfl) (by kernel_rfl) (by kernel_rfl) (fun _ _ _ h => h) (Or.inl ⟨by rfl, ?_⟩) (by assumption) ?_
      rotate_left
      · (intro w hSw; (try dsimp only at hSw); go_simp; try (with_reducible rfl))
      (try simp only [Act.put, List.setIfInBounds_toArray, List.set_cons_zero, List.set_cons_succ, List.getElem_toArray, List.getElem_cons_succ, List.getElem_cons_zero])
      refine wpAnyH_take (i := 13) (oi := _) (v := ?_) rfl (by kernel_rfl) (by kernel_rfl) (by kernel_rfl) (fun _ _ _ h => h) (Or.inl ⟨by rfl, ?_⟩) (by assumption) ?_
      rotate_left
      · (intro w hSw; (try dsimp only at hSw); go_simp; try (with_reducible rfl))
      (try simp only [Act.put, List.setIfInBounds_toArray, List.set_cons_zero, List.set_cons_succ, List.getElem_toArray, List.getElem_cons_succ, List.getElem_cons_zero])
      refine wpAnyH_done (by kernel_rfl) ?_ _
      (try simp only [List.getElem_toArray, List.getElem_cons_succ, List.getElem_cons_zero, Act.put, List.setIfInBounds_toArray, List.set_cons_zero, List.set_cons_succ])
      have HP4 := Lib.hid (HPl.out.drewN (n4 + n5))
      have HO4 : Hid ((W3.drewN (n4 + n5)).ownsRow g 23 1 u9 k (f32s ys)) := owns_stay HO3.out fun _ _ => rfl
      have HBX4 : Hid ((W3.drewN (n4 + n5)).heap[sb]? = some (.cells #[.int .i64 c.s.1, .int .i64 c.s.2.1, .float .f32 c.s.2.2.1, .float .f32 c.s.2.2.2, .slice c.B c.bs.length c.cb, .slice c.E c.ne c.ce] 27 (0, 0))) := HBX3.out
      have HG4 : Hid (g ≤ (W3.drewN (n4 + n5)).heap.size) := HG3.out
      clear hHeld HPl HO3 HBX3 HRd HP1 HG3
      generalize W3.drewN (n4 + n5) = W4 at *
      have N5 := Lib.hid (heap_alloc_new W4 (.cells #[.float .f32 s5] 23))
      have HP5 := Lib.hid (HP4.out.alloc (.cells #[.float .f32 s5] 23))
      have HO5 := Lib.hid (HO4.out.alloc (.cells #[.float .f32 s5] 23))
      have HBX5 := Lib.hid ((Below.heap_alloc W4 (.cells #[.float .f32 s5] 23) sb (lt_of_some HBX4.out)).trans HBX4.out)
      have hg5 : g ≤ (W4.alloc (.cells #[.float .f32 s5] 23)).heap.size := by have := HG4.out; simp; omega
      clear HP4 HO4 HBX4 HG4
      obtain ⟨i0, hi0, hz0, hz1, hz2⟩ := info_parts f32_info
      go_wp2_with (at_builtin; refine wpList_append_lies _ rfl (.tmp 29) (.tmp 31) 35 rfl g 23 i0 _ 1 4 Tryz.underlying35 hi0 hz0 hz1 hz2 rfl (by omega) u9 k (f32s ys) (by rfl) HO5.out ⟨W4.heap.size, 0, none⟩ 1 1 [.float .f32 s5] (by rfl) (by rfl) (World.news_of_block (t := 23) (fr := (0, 0)) N5.out) (by simp [Value.oneCell']) (by omega) (by simp only [maxLen]; omega) (by omega) hg5 _ rfl ?_; intro gg cap W6 hown6 hgrow6 hat6 hlt6)
      have HT6 : Hid (TIn W W6 P c sb g (k + 1) g5 (.slice (some ⟨gg, 0, none⟩) (k + 1) cap) (ys ++ [s5]) vV3 vT3 ms3 b3) := by
        have hs1 : nrm .f32 tt = nrm .f32 (sumP (bmOf c.bs) c.s.2.1 c.L k) := by
          rw [HTT.out, HSum.out]; exact (totalW_nrm _).symm
        have hs2 : nrm .f32 E' = nrm .f32 (envP (bmOf c.bs) c.s.2.1 c.L c.s.2.2.2 k) := by rw [envP_nrm]; exact HT.out.env.1
        refine ⟨?_, ?_, ?_, ⟨?_, HL5.out.2.2.2⟩, by simpa [f32s] using hown6, HT.out.out.snoc ?_ HL5.out.2.2.1, ?_, HT.out.g0, by have := hgrow6.size; omega⟩
        · rw [HNx.out]
          exact HP5.out.appended HO5.out HT.out.g0 (fun b hb => hb) hgrow6 hat6 hlt6
        · rw [HNx.out]
        · rw [HNx.out]
        · rw [HL5.out.2.1]
          show _ = nrm .f32 (limE (envP _ _ _ _ _) (sumP _ _ _ _) _)
          rw [nrm_limE, limE_congr hs2, limE_x hs1]
        · rw [HL5.out.1]
          show _ = limS (envP _ _ _ _ _) (sumP _ _ _ _) _ _
          rw [limS_congr hs2, limS_x hs1]
        · exact (hgrow6.block sb (lt_of_some HBX5.out) (fun q => by
            obtain ⟨cs, hc⟩ := owns_ty HO5.out q.symm
            exact ty_ne HBX5.out hc (by decide) rfl)).trans HBX5.out
      clear hown6 hgrow6 hat6 hlt6 HP5 HO5 HBX5 N5 HT HL5 HNx HSum HTT HTW HQ
      go_wp2_with fail
      go_roundw
      case rel => exact ⟨k + 1, g5, ys ++ [s5], _, _, ms3, b3, by go_num, by omega, rfl, HT6⟩
      case measure => simp [intOf]; omega
    · obtain rfl : k = n := by omega
      obtain ⟨A4, ca4, hv4⟩ := owns_form HT.out.own
      subst hv4
      go_wp2_with fail
      go_ret3
      have hc := HC.out
      subst hc
      have hsb := HSB.out
      subst hsb
      refine ⟨W, P, _, E', A4, ca4, ys, vV, vT, ms, b, rfl, ⟨rfl, rfl, rfl, rfl, rfl, rfl, rfl, rfl⟩, HBel.out, HT.out.pl, HT.out.vs, HT.out.bg, HT.out.env, owns_lower HT.out.own (Nat.le_trans HBel.out.size HT.out.g0), HT.out.out⟩
end Go.Proofs.YtndnfhhdflmfcaaGreat

/-
'Are they the same number?': impl.same64, impl.same32.
-/
namespace Go.Proofs.YtndnfhhdflmfcaaGreat
open Go Go.RowKit Ieee

theorem same_sign {a b : Nat} (ha : wfk .f64 a) (hb : wfk .f64 b) (na : isN .f64 a = false) (nb : isN .f64 b = false) (h : feq .f64 a b = true) : (signB a == signB b) = sameB .f64 a b := by
  unfold sameB
  rw [nrm_of_num na, nrm_of_num nb]
  by_cases h0 : feq .f64 a 0 = true ∧ feq .f64 b 0 = true
  · rcases feq_zero ha h0.1 with rfl | rfl <;> rcases feq_zero hb h0.2 with rfl | rfl <;> decide
  · have : feq .f64 a 0 = false ∨ feq .f64 b 0 = false := by
      cases h1 : feq .f64 a 0
      · exact .inl rfl
      · right
        cases h2 : feq .f64 b 0
        · rfl
        · exact absurd ⟨h1, h2⟩ h0
    have := feq_word ha hb h this
    subst this; simp

theorem same_diff {k : FloatKind} {a b : Nat} (na : isN k a = false) (nb : isN k b = false) (h : feq k a b = false) : sameB k a b = false := by
  unfold sameB
  rw [nrm_of_num na, nrm_of_num nb, decide_eq_false]
  rintro rfl
  rw [feq_self, na] at h; cases h

set_option maxHeartbeats 400000 in
theorem same64_any (a b : Nat) (w : World) (ha : wfk .f64 a) (hb : wfk .f64 b) :
    Calls Tryz.prog 50 #[.float .f64 a, .float .f64 b] w fun e w' => e = .returned (.bool (sameB .f64 a b)) ∧ w = w' := by
  have fa := feq_self .f64 a
  have fb := feq_self .f64 b
  have ca := Lib.hid (fun w => signbit_any a w ha)
  have cb := Lib.hid (fun w => signbit_any b w hb)
  cases na : isN .f64 a
  · rw [na] at fa
    cases nb : isN .f64 b
    · rw [nb] at fb
      cases fab : feq .f64 a b
      · have s1 := Lib.hid (same_diff na nb fab)
        clear na nb ha hb
        go_enter Tryz.func50, Tryz.ntmps50
        go_wp2
        go_ret
        exact ⟨ret_bool s1.out.symm, rfl⟩
      · have s1 := Lib.hid (same_sign ha hb na nb fab)
        clear na nb ha hb
        go_enter Tryz.func50, Tryz.ntmps50
        go_wp2_with fail
        refine (ca.out _).mono ?_
        rintro e w' ⟨rfl, rfl⟩
        go_wp2_with fail
        refine (cb.out _).mono ?_
        rintro e w' ⟨rfl, rfl⟩
        go_wp2_with fail
        go_ret
        exact ⟨ret_bool s1.out, rfl⟩
    · rw [nb] at fb
      have fab : feq .f64 a b = false := by
        cases h : feq .f64 a b
        · rfl
        · rw [(feq_nan h).2] at nb; cases nb
      have s1 := Lib.hid (same_nan_r na nb)
      clear na nb ha hb
      go_enter Tryz.func50, Tryz.ntmps50
      go_wp2
      go_ret
      exact ⟨ret_bool s1.out.symm, rfl⟩
  · rw [na] at fa
    have fab : feq .f64 a b = false := by
      cases h : feq .f64 a b
      · rfl
      · rw [(feq_nan h).1] at na; cases na
    have s1 := Lib.hid (same_nan_l (b := b) na)
    clear na ha hb
    cases nb : isN .f64 b <;> rw [nb] at fb s1 <;> clear nb
    all_goals
      go_enter Tryz.func50, Tryz.ntmps50
      go_wp2
      go_ret
      exact ⟨ret_bool s1.out.symm, rfl⟩

set_option maxHeartbeats 400000 in
theorem same32_any (a b : Nat) (w : World) (ha : wfk .f32 a) (hb : wfk .f32 b) :
    Calls Tryz.prog 18 #[.float .f32 a, .float .f32 b] w fun e w' => e = .returned (.bool (sameB .f32 a b)) ∧ ∃ n, w.drewN n = w' := by
  have la := fun w => cR_lt (k := .f64) ha w
  have lb := fun w => cR_lt (k := .f64) hb w
  have na := Lib.hid (fun w => nrm_wid a w)
  have nb := Lib.hid (fun w => nrm_wid b w)
  have sw := Lib.hid (same_wid ha hb)
  go_enter Tryz.func18, Tryz.ntmps18
  go_wp2_with fail
  refine (same64_any _ _ _ (la _) (lb _)).mono ?_
  rintro e w' ⟨rfl, rfl⟩
  go_wp2_with fail
  go_ret
  refine ⟨ret_bool ?_, _, rfl⟩
  rw [← sw.out]
  unfold sameB
  rw [na.out, nb.out, nrm_cv (by decide), nrm_cv (by decide)]
end Go.Proofs.YtndnfhhdflmfcaaGreat
