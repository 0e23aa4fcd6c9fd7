/-
Part 6 of 7 of the proof of the law FnTracks: it returns true for all codes. No condition.
-/
import Derived.Test.YtndnfhhdflmfcaaLawTracksM5
import Derived.Deep.AppendLies

/-
impl.player.next.
-/
namespace Go.Proofs.Ytndnfhhdflmfcaa
open Go Go.RowKit Ieee

/-- The first k voices have taken a step. -/
def NxAll (k : Nat) (ms L : List Vm) : Prop := L.length = ms.length ∧ ∀ j x, L[j]? = some x → ∃ m, ms[j]? = some m ∧ x.v = if j < k then m.v.next else m.v
theorem NxAll.zero (ms : List Vm) : NxAll 0 ms ms := ⟨rfl, fun j x h => ⟨x, h, by rw [if_neg (by omega)]⟩⟩
theorem NxAll.set {k : Nat} {ms L : List Vm} {x z : Vm} (h : NxAll k ms L) (hx : L[k]? = some x) (hz : z.v = x.v.next) : NxAll (k + 1) ms (L.set k z) := by
  refine ⟨by simpa using h.1, fun j u hu => ?_⟩
  rw [List.getElem?_set] at hu
  by_cases e : k = j
  · subst e
    rw [if_pos rfl] at hu
    split at hu
    · injection hu with hu
      subst hu
      obtain ⟨m, h1, h2⟩ := h.2 k x hx
      rw [if_neg (by omega)] at h2
      exact ⟨m, h1, by rw [if_pos (by omega), hz, h2]⟩
    · cases hu
  · rw [if_neg e] at hu
    obtain ⟨m, h1, h2⟩ := h.2 j u hu
    refine ⟨m, h1, ?_⟩
    rw [h2]
    by_cases e' : j < k
    · rw [if_pos e', if_pos (by omega)]
    · rw [if_neg e', if_neg (by omega)]
theorem NxAll.done {ms L : List Vm} (h : NxAll ms.length ms L) : L.map Vm.v = (ms.map Vm.v).map Vp.next := by
  refine List.ext_getElem? fun j => ?_
  rw [List.getElem?_map, List.getElem?_map, List.getElem?_map]
  rcases Nat.lt_or_ge j L.length with hj | hj
  · obtain ⟨m, h1, h2⟩ := h.2 j L[j] (List.getElem?_eq_getElem hj)
    rw [List.getElem?_eq_getElem hj, h1]
    rw [if_pos (by have := h.1; omega)] at h2
    simp [h2]
  · rw [List.getElem?_eq_none hj, List.getElem?_eq_none (by have := h.1; omega)]
    rfl
/-- The outputs of the first k voices. -/
def OutsOk (k : Nat) (vs : List Vp) (ys : List Nat) : Prop := ys.length = k ∧ ∀ j v, j < k → vs[j]? = some v → nrm .f32 (ys.getD j 0) = v.out ∧ wfk .f32 (ys.getD j 0)
theorem OutsOk.snoc {k r : Nat} {vs : List Vp} {ys : List Nat} {v : Vp} (h : OutsOk k vs ys) (hv : vs[k]? = some v) (hr : nrm .f32 r = v.out) (hw : wfk .f32 r) : OutsOk (k + 1) vs (ys ++ [r]) := by
  obtain ⟨hl, h⟩ := h
  refine ⟨by simp [hl], fun j u hj hu => ?_⟩
  rcases Nat.lt_or_ge j k with h1 | h1
  · have e : (ys ++ [r]).getD j 0 = ys.getD j 0 := by
      simp only [List.getD]; rw [List.getElem?_append_left (by omega)]
    rw [e]; exact h j u h1 hu
  · obtain rfl : j = k := by omega
    have e : (ys ++ [r]).getD j 0 = r := by
      simp only [List.getD]; rw [List.getElem?_append_right (by omega), hl]; simp
    rw [hv] at hu
    injection hu with hu
    subst hu
    rw [e]; exact ⟨hr, hw⟩
/-- The inputs lie below a block. -/
def InsBelow (L : List Vm) (g : Nat) : Prop := ∀ m ∈ L, ∀ b off, m.I = some ⟨b, off, none⟩ → 0 < m.v.xs.length → b < g
theorem InsBelow.of {w0 w : World} {base P done now : Nat} {c : Pc} {vV vT : Value} {ms : List Vm} {begun : Int} (h : PlIn w0 w base P c done now vV vT ms begun) : InsBelow ms w.heap.size := fun m hm b off e hl => by
  obtain ⟨b', off', cs, e', _, hb, _⟩ := (h.vo m hm).inp hl
  rw [e] at e'
  injection e' with e'
  injection e' with e1 e2
  subst e1
  exact lt_of_some hb
theorem arriveP_ok {t : Nat} {most L now : Int} {bs : List Bd} {l : List Ev} {p : Pl} (h : PvOk t most p) (hm : 1 ≤ most) (hb : BodsOk bs 4 3) (he : ∀ e ∈ l, EvOk L bs.length e) : PvOk t most (arriveP (bmOf bs) most now l p).2 := by
  induction l generalizing p with
  | nil => exact h
  | cons e l ih =>
    unfold arriveP
    split
    · exact ih (Pl.happen_ok h hm hb (he e (by simp))) (fun e' h' => he e' (by simp [h']))
    · exact h
theorem tailM_nil (m : Vm) (h : m.v.xs = []) : m.tailM m.I m.ic = m := by
  obtain ⟨⟨bo, ms, ss, xs, tr⟩, M, mc, S, I, ic⟩ := m
  simp only at h
  subst h
  rfl
theorem InsBelow.set {L : List Vm} {g k : Nat} {y : Vm} (h : InsBelow L g) (hy : ∀ b off, y.I = some ⟨b, off, none⟩ → 0 < y.v.xs.length → b < g) : InsBelow (L.set k y) g := fun m hm b off e hl => by
  rcases List.mem_or_eq_of_mem_set hm with h1 | rfl
  · exact h m h1 b off e hl
  · exact hy b off e hl
theorem set_same {L : List Vm} {k : Nat} {x : Vm} (h : L[k]? = some x) : L.set k x = L := by
  refine List.ext_getElem? fun j => ?_
  rw [List.getElem?_set]
  by_cases e : k = j
  · subst e
    have hk : k < L.length := by
      rcases Nat.lt_or_ge k L.length with h1 | h1
      · exact h1
      · rw [List.getElem?_eq_none h1] at h; cases h
    rw [if_pos rfl, if_pos hk, h]
  · rw [if_neg e]
/-- What next does. -/
def NextP (w0 : World) (P : Nat) (c : Pc) (done now : Nat) (ms : List Vm) (begun : Int) (r : Ending) (w' : World) : Prop :=
  ∃ (A : Option Addr) (ca : Nat) (ys : List Nat) (d' : Nat) (vV' vT' : Value) (ms' : List Vm) (b' : Int) (n : Nat) (p : Pl), r = .returned (.slice A ys.length ca) ∧ w'.ownsRow c.wk.heap.size 31 1 (.slice A ys.length ca) ys.length (f32s ys) ∧
    PlIn w0 w' w0.heap.size P c d' (now + 1) vV' vT' ms' b' ∧ d' ≤ c.L.length ∧ d' = done + n ∧ arriveP (bmOf c.bs) c.s.2.1 now (c.L.drop done) ⟨ms.map Vm.v, begun⟩ = (n, p) ∧ ms'.map Vm.v = p.vs.map Vp.next ∧ b' = p.begun ∧ OutsOk p.vs.length p.vs ys
/-- Where the walk of next is. -/
structure NIn (w0 w : World) (P : Nat) (c : Pc) (done now g k : Nat) (ms L : List Vm) (begun : Int) (vV vT : Value) (v : Value) (ys : List Nat) : Prop where
  pl : PlIn w0 w w0.heap.size P c done now vV vT L begun
  own : w.ownsRow g 31 1 v k (f32s ys)
  nx : NxAll k ms L
  outs : OutsOk k (ms.map Vm.v) ys
  ins : InsBelow L g
  gw : c.wk.heap.size ≤ g
  gs : g < w.heap.size

set_option maxRecDepth 100000 in
set_option maxHeartbeats 6400000 in
theorem next_any {w0 w : World} {P done now t : Nat} {c : Pc} {vV vT : Value} {ms : List Vm} {begun L most : Int} {lo : Nat} (h : PlIn w0 w w0.heap.size P c done now vV vT ms begun) (hbods : BodsIn w0 lo w0.heap.size c.B c.bs) (hc : PcOk L most c) (hp : PvOk t most ⟨ms.map Vm.v, begun⟩) (hd : done ≤ c.L.length) (hb : begun ≤ done) (ht : t ≤ 61) (hnow : now ≤ 1000000) :
    Calls Try.prog 47 #[.pointer (some ⟨P, 0, none⟩)] w (NextP w0 P c done now ms begun) := by
  have H := Lib.hid h
  have HB := Lib.hid hbods
  have HC := Lib.hid hc
  have HP := Lib.hid hp
  clear h hbods hc hp
  go_enter Try.func47, Try.ntmps47
  go_wp2_with fail
  refine (arrive_any H.out HB.out HC.out HP.out hd hb).mono ?_
  rintro r W2 ⟨rfl, d, vV2, vT2, ms1, b1, hp1, hd0, hd1, harr⟩
  have HA := Lib.hid harr
  have HN : Hid (NIn w0 (W2.alloc (.cells #[] 31)) P c d now W2.heap.size 0 ms1 ms1 b1 vV2 vT2 (.slice (some ⟨W2.heap.size, 0, none⟩) 0 0) []) :=
    ⟨hp1.alloc _, owns_empty W2 31, NxAll.zero _, ⟨rfl, fun j _ hj _ => absurd hj (Nat.not_lt_zero _)⟩, InsBelow.of hp1, hp1.kp.1, by simp⟩
  obtain ⟨VA, vc, rfl⟩ := owns_form hp1.vrow
  have cP := pl_cells HN.out.pl.box
  have c9 := cP.2.2.2.2.2.2.2.2.2.1
  have HOK : Hid (PvOk t most ⟨ms1.map Vm.v, b1⟩ ∧ ms1.length ≤ 8) := by
    have h1 : PvOk t most ⟨ms1.map Vm.v, b1⟩ := by
      have := arriveP_ok (now := now) (l := c.L.drop done) HP.out (by rw [HC.out.most]; exact HC.out.v1) HC.out.bods (fun e he => HC.out.evs e (List.mem_of_mem_drop he))
      rw [HC.out.most, HA.out, ← HC.out.most] at this
      exact this
    refine ⟨h1, ?_⟩
    have h2 := h1.len
    have h3 := HC.out.v8
    rw [HC.out.most] at h2
    simp only [List.length_map] at h2
    omega
  have HGB0 : Hid (w0.heap.size ≤ W2.heap.size) := hp1.bel.size
  clear cP harr hp1 H
  go_wp2_with fail
  clear c9
  generalize W2.alloc (.cells #[] 31) = Wa at *
  generalize W2.heap.size = g at *
  have hn8 : ms1.length ≤ 8 := HOK.out.2
  go_loopw [3, 15] (fun v i wr => ∃ (k : Nat) (ys : List Nat) (L : List Vm), i = .int .i64 (k : Int) ∧ k ≤ ms1.length ∧ Hid (NIn w0 wr P c d now g k ms1 L b1 (.slice VA ms1.length vc) vT2 v ys)) (fun _ i _ => ms1.length - (intOf i).toNat)
  case atStart => exact ⟨0, [], ms1, rfl, by omega, HN⟩
  case round =>
    clear HN
    obtain ⟨k, ys, L', rfl, hk, HN⟩ := hrel
    have HL : Hid (L'.length = ms1.length) := HN.out.nx.1
    by_cases hlt : k < ms1.length
    · have c9 := (pl_cells HN.out.pl.box).2.2.2.2.2.2.2.2.2.1
      have hkL : k < L'.length := by rw [HL.out]; exact hlt
      obtain ⟨x, hx⟩ : ∃ x, L'[k]? = some x := ⟨L'[k], List.getElem?_eq_getElem hkL⟩
      have HX := Lib.hid hx
      obtain ⟨m0, hm0, hxv⟩ := HN.out.nx.2 k x hx
      rw [if_neg (by omega)] at hxv
      have HXV : Hid (VpOk t x.v) := by rw [hxv]; exact HOK.out.1.vs m0.v (List.mem_map_of_mem (List.mem_of_getElem? hm0))
      have HXM : Hid ((ms1.map Vm.v)[k]? = some x.v) := by show _ = _; rw [List.getElem?_map, hm0, hxv]; rfl
      have hvr := HN.out.pl.vrow
      rw [HL.out] at hvr
      obtain ⟨b, vc', hbe, _, hbl, hv1, hv2, _, hcell⟩ := owns_cells hvr (by omega) (by rw [flatV_len, HL.out])
      injection hbe with q1 _ q3
      subst q1 q3
      have e1 := hcell _ _ (flatV_at hx).2.1
      have e2 := hcell _ _ (flatV_at hx).2.2.1
      have e3 := hcell _ _ (flatV_at hx).2.2.2
      have HV := Lib.hid (HN.out.pl.vo x (List.mem_of_getElem? hx))
      have HIn := Lib.hid (HV.out.inp)
      have hxl : x.v.xs.length ≤ 64 := HXV.out.lx
      have hic := HV.out.ic
      have fz : wr.frozen? ⟨b, k * 4 + 3, none⟩ = false := by
        obtain ⟨cs, hc⟩ := owns_ty hvr (k := b) rfl
        exact free_cells hc _
      clear hcell hvr hx hm0 hxv
      go_wp2_with fail
      refine (element_any x.I x.ic x.v.xs 0 _ HIn.out.rd (by omega) (by omega)).mono ?_
      rintro r w' ⟨rfl, rfl⟩
      have HXX : Hid (inAt x.v.xs 0 = x.v.x) := rfl
      rw [HXX.out]
      have HC12 : Hid (∀ W' y, PlIn w0 W' w0.heap.size P c d now (.slice (some ⟨b, 0, none⟩) ms1.length vc) vT2 (L'.set k y) b1 → y.M = x.M → y.mc = x.mc → y.S = x.S → y.v.ms = x.v.ms → W'.cell? ⟨b, k * 4 + 1, none⟩ = some (.slice x.M x.v.ms.length x.mc) ∧ W'.cell? ⟨b, k * 4 + 2, none⟩ = some (.slice (some ⟨x.S, 0, none⟩) x.v.ms.length x.v.ms.length)) := Lib.hid (fun W' y hp q1 q2 q3 q4 => by
        have hvr := hp.vrow
        have hl : (L'.set k y).length = ms1.length := by rw [List.length_set, HL.out]
        rw [hl] at hvr
        obtain ⟨b', vc', hbe, _, _, _, _, _, hcell⟩ := owns_cells hvr (by omega) (by rw [flatV_len, hl])
        injection hbe with r1 _ _
        injection r1 with r1
        injection r1 with r1
        subst r1
        have hy : (L'.set k y)[k]? = some y := by simp [hkL]
        have u1 := hcell _ _ (flatV_at hy).2.1
        have u2 := hcell _ _ (flatV_at hy).2.2.1
        rw [q1, q2, q4] at u1
        rw [q3, q4] at u2
        exact ⟨u1, u2⟩)
      have HSet : Hid (∀ I' ic', RdT wr w0.heap.size c.fb I' (x.v.xs.drop 1) → (x.v.xs.length - 1 ≤ ic' ∧ ic' ≤ maxLen) → PlIn w0 (wr.setCell ⟨b, k * 4 + 3, none⟩ (.slice I' (x.v.xs.length - 1) ic')) w0.heap.size P c d now (.slice (some ⟨b, 0, none⟩) ms1.length vc) vT2 (L'.set k (x.tailM I' ic')) b1) := Lib.hid (fun I' ic' h1 h2 => by
        have hp := HN.out.pl
        rw [← HL.out] at hp ⊢
        exact hp.setInput HX.out h1 h2)
      clear e1 e2
      go_upto_if 34 with fail
      have HXI : Hid (InsBelow L' g) := HN.out.ins
      have HGW : Hid (c.wk.heap.size ≤ g) := HN.out.gw
      have HGB : Hid (w0.heap.size ≤ g) := HGB0
      go_cut [] (fun wx => ∃ (I' : Option Addr) (ic' : Nat), Hid (PlIn w0 wx w0.heap.size P c d now (.slice (some ⟨b, 0, none⟩) ms1.length vc) vT2 (L'.set k (x.tailM I' ic')) b1) ∧ Hid (wx.ownsRow g 31 1 u3 k (f32s ys)) ∧ Hid (InsBelow (L'.set k (x.tailM I' ic')) g) ∧ Hid (g < wx.heap.size))
      case first =>
        by_cases hx0 : 0 < x.v.xs.length
        · obtain ⟨ib, ioff, ics, hI, hib, hibt, _⟩ := HIn.out hx0
          have HI := Lib.hid hI
          have HO3 : Hid (∀ v, (wr.setCell ⟨b, k * 4 + 3, none⟩ v).ownsRow g 31 1 u3 k (f32s ys)) := Lib.hid (fun v => owns_stay HN.out.own fun j e => by
            obtain ⟨cs, hc⟩ := owns_ty HN.out.own e
            obtain ⟨cs', hc'⟩ := owns_ty HN.out.pl.vrow (k := b) rfl
            exact (grown_set _ _ : wr.grownBy (wr.setCell ⟨b, k * 4 + 3, none⟩ v) (some b)).block j (lt_of_some hc) (by intro q; injection q with q; exact ty_ne hc hc' (by decide) q))
          have HGS : Hid (g < wr.heap.size) := HN.out.gs
          have HTl : Hid (RdT wr w0.heap.size c.fb (some ⟨ib, ioff + 1, none⟩) (x.v.xs.drop 1)) := by
            have := HIn.out
            rw [hI] at this
            exact this.tail
          have HIB : Hid (ib < g) := HXI.out x (List.mem_of_getElem? HX.out) ib ioff hI hx0
          rw [hI] at e3
          clear hI hib hibt
          go_wp2_with fail
          all_goals
            go_meet
            case rel =>
              first
              | exact ⟨_, _, HSet.out _ _ HTl.out (by omega), HO3.out _, HXI.out.set (fun b' off' e _ => by injection e with e; injection e with e1 _; subst e1; exact HIB.out), by show g < (World.setCell _ _ _).heap.size; simpa using HGS.out⟩
              | exact ⟨_, _, HSet.out _ _ (RdT.none _ (by omega)) (by omega), HO3.out _, HXI.out.set (fun b' off' e _ => by injection e with e; injection e with e1 _; subst e1; exact HIB.out), by show g < (World.setCell _ _ _).heap.size; simpa using HGS.out⟩
        · have hnil : x.v.xs = [] := List.eq_nil_of_length_eq_zero (by omega)
          have HT : Hid (L'.set k (x.tailM x.I x.ic) = L') := by
            show _ = _
            rw [tailM_nil x hnil]
            exact set_same HX.out
          clear hnil
          go_wp2_with fail
          go_meet
          case rel => exact ⟨x.I, x.ic, by rw [HT.out]; exact HN.out.pl, HN.out.own, by rw [HT.out]; exact HN.out.ins, HN.out.gs⟩
      case rest =>
        obtain ⟨I', ic', HPx, HOx, HIx, HGx⟩ := hcut
        go_wp2_with fail
        have hyk : (L'.set k (x.tailM I' ic'))[k]? = some (x.tailM I' ic') := by simp [hkL]
        have HYK := Lib.hid hyk
        have HVy := Lib.hid (HPx.out.vo _ (List.mem_of_getElem? hyk))
        have HO1 : Hid (OwnM (wc.drewN 1) w0.heap.size x.S x.M x.mc x.v.ms) := ⟨HVy.out.mod, HVy.out.mS⟩
        have HR1 : Hid ((wc.drewN 1).rowIs x.S 72 x.v.ms.length (fun i => sV (sAt x.v.ss i))) := HVy.out.sts
        have HP1 : Hid (PlIn w0 (wc.drewN 1) w0.heap.size P c d now (.slice (some ⟨b, 0, none⟩) ms1.length vc) vT2 (L'.set k (x.tailM I' ic')) b1) := HPx.out.drewN 1
        clear hyk
        refine wp_region_held_drew (S := fun w' => w'.cell? ⟨b, k * 4 + 1, none⟩ = some (.slice x.M x.v.ms.length x.mc) ∧ w'.cell? ⟨b, k * 4 + 2, none⟩ = some (.slice (some ⟨x.S, 0, none⟩) x.v.ms.length x.v.ms.length)) (by kernel_rfl) (HC12.out _ _ (HPx.out.drewN 1) rfl rfl rfl rfl) (fun hHeld => ?_)
        refine wpAnyH_take (i := 0) (oi := _) (v := ?_) rfl (by kernel_rfl) (by kernel_rfl) (by kernel_rfl) (fun _ _ _ h => h) (Or.inl ⟨by rfl, ?_⟩) (by assumption) ?_
        rotate_left
        · (intro w hSw; (try dsimp only at hSw); go_simp; try (with_reducible rfl))
        (try simp only [Act.put, List.setIfInBounds_toArray, List.set_cons_zero, List.set_cons_succ, List.getElem_toArray, List.getElem_cons_succ, List.getElem_cons_zero])
        refine wpAnyH_take (i := 1) (oi := _) (v := ?_) rfl (by kernel_rfl) (by kernel_rfl) (by kernel_rfl) (fun _ _ _ h => h) (Or.inl ⟨by rfl, ?_⟩) (by assumption) ?_
        rotate_left
        · (intro w hSw; (try dsimp only at hSw); go_simp; try (with_reducible rfl))
        (try simp only [Act.put, List.setIfInBounds_toArray, List.set_cons_zero, List.set_cons_succ, List.getElem_toArray, List.getElem_cons_succ, List.getElem_cons_zero])
        refine wpAnyH_take (i := 2) (oi := _) (v := ?_) rfl (by kernel_rfl) (by kernel_rfl) (by kernel_rfl) (fun _ _ _ h => h) (Or.inl ⟨by rfl, ?_⟩) (by assumption) ?_
        rotate_left
        · (intro w hSw; (try dsimp only at hSw); go_simp; try (with_reducible rfl))
        (try simp only [Act.put, List.setIfInBounds_toArray, List.set_cons_zero, List.set_cons_succ, List.getElem_toArray, List.getElem_cons_succ, List.getElem_cons_zero])
        refine wpAnyH_take (i := 3) (oi := _) (v := ?_) rfl (by kernel_rfl) (by kernel_rfl) (by kernel_rfl) (fun _ _ _ h => h) (Or.inl ⟨by rfl, ?_⟩) (by assumption) ?_
        rotate_left
        · (intro w hSw; (try dsimp only at hSw); go_simp; try (with_reducible rfl))
        (try simp only [Act.put, List.setIfInBounds_toArray, List.set_cons_zero, List.set_cons_succ, List.getElem_toArray, List.getElem_cons_succ, List.getElem_cons_zero])
        refine wpAnyH_take (i := 4) (oi := _) (v := ?_) rfl (by kernel_rfl) (by kernel_rfl) (by kernel_rfl) (fun _ _ _ h => h) (Or.inl ⟨by rfl, ?_⟩) (by assumption) ?_
        rotate_left
        · (intro w hSw; (try dsimp only at hSw); go_simp; try (with_reducible rfl))
        (try simp only [Act.put, List.setIfInBounds_toArray, List.set_cons_zero, List.set_cons_succ, List.getElem_toArray, List.getElem_cons_succ, List.getElem_cons_zero])
        refine wpAnyH_take (i := 5) (oi := _) (v := ?_) rfl (by kernel_rfl) (by kernel_rfl) (by kernel_rfl) (fun _ _ _ h => h) (Or.inl ⟨by rfl, ?_⟩) (by assumption) ?_
        rotate_left
        · (intro w hSw; (try dsimp only at hSw); go_simp; try (with_reducible rfl))
        (try simp only [Act.put, List.setIfInBounds_toArray, List.set_cons_zero, List.set_cons_succ, List.getElem_toArray, List.getElem_cons_succ, List.getElem_cons_zero])
        refine wpAnyH_take (i := 6) (oi := _) (v := ?_) rfl (by kernel_rfl) (by kernel_rfl) (by kernel_rfl) (fun _ _ _ h => h) (Or.inl ⟨by rfl, ?_⟩) (by assumption) ?_
        rotate_left
        · (intro w hSw; (try dsimp only at hSw); go_simp; try (with_reducible rfl))
        (try simp only [Act.put, List.setIfInBounds_toArray, List.set_cons_zero, List.set_cons_succ, List.getElem_toArray, List.getElem_cons_succ, List.getElem_cons_zero])
        refine wpAnyH_take (i := 7) (oi := _) (v := ?_) rfl (by kernel_rfl) (by kernel_rfl) (by kernel_rfl) (fun _ _ _ h => h) (Or.inl ⟨by rfl, ?_⟩) (by assumption) ?_
        rotate_left
        · (intro w hSw; (try dsimp only at hSw); go_simp; try (with_reducible rfl))
        (try simp only [Act.put, List.setIfInBounds_toArray, List.set_cons_zero, List.set_cons_succ, List.getElem_toArray, List.getElem_cons_succ, List.getElem_cons_zero])
        refine wpAnyH_take (i := 8) (oi := _) (v := ?_) rfl (by kernel_rfl) (by kernel_rfl) (by kernel_rfl) (fun _ _ _ h => h) (Or.inl ⟨by rfl, ?_⟩) (by assumption) ?_
        rotate_left
        · (intro w hSw; (try dsimp only at hSw); go_simp; try (with_reducible rfl))
        (try simp only [Act.put, List.setIfInBounds_toArray, List.set_cons_zero, List.set_cons_succ, List.getElem_toArray, List.getElem_cons_succ, List.getElem_cons_zero])
        refine wpAnyH_take (i := 9) (oi := _) (v := ?_) rfl (by kernel_rfl) (by kernel_rfl) (by kernel_rfl) (fun _ _ _ h => h) (Or.inl ⟨by rfl, ?_⟩) (by assumption) ?_
        rotate_left
        · (intro w hSw; (try dsimp only at hSw); go_simp; try (with_reducible rfl))
        (try simp only [Act.put, List.setIfInBounds_toArray, List.set_cons_zero, List.set_cons_succ, List.getElem_toArray, List.getElem_cons_succ, List.getElem_cons_zero])
        refine wpAnyH_ready (rs := [10]) (by kernel_rfl) (by simp) ?_
        refine AllReadyH.cons (o := _) rfl (fun K hK => ?_) AllReadyH.nil
        go_simp
        refine (step_any x.M x.mc w0.heap.size x.S x.S x.v.ms x.v.ss x.v.x (wc.drewN 1) HO1.out (Nat.le_refl _) HXV.out.ms (by have := HXV.out.lm; omega) HXV.out.ls HR1.out (HXV.out.step ht)).mono ?_
        rintro r W3 ⟨rr, rfl, hr1, hr2, hrow3, hgr3⟩
        have HRR := Lib.hid (And.intro hr1 hr2)
        have HP3 : Hid (PlIn w0 W3 w0.heap.size P c d now (.slice (some ⟨b, 0, none⟩) ms1.length vc) vT2 (L'.set k ((x.tailM I' ic').stepM x.v.x)) b1) := by
          have := HP1.out.setStates (X := x.v.x) HYK.out hgr3 hrow3
          rw [List.set_set] at this
          exact this
        have HO3 : Hid (W3.ownsRow g 31 1 u3 k (f32s ys)) := owns_stay HOx.out fun j e => by
          obtain ⟨cs, hc⟩ := owns_ty HOx.out e
          obtain ⟨cs', hc'⟩ := rowIs_ty HVy.out.sts
          exact hgr3.block j (lt_of_some hc) (by intro q; injection q with q; exact ty_ne hc hc' (by decide) q)
        have HI3 : Hid (InsBelow (L'.set k ((x.tailM I' ic').stepM x.v.x)) g) := by
          have := HIx.out.set (k := k) (y := (x.tailM I' ic').stepM x.v.x) (fun b off e hl => HIx.out _ (List.mem_of_getElem? HYK.out) b off e hl)
          rw [List.set_set] at this
          exact this
        have hg3 : g < W3.heap.size := Nat.lt_of_lt_of_le HGx.out hgr3.size
        clear hr1 hr2 hrow3 hgr3 HO1 HR1 HP1 HVy HYK
        go_wp2_with fail
        refine hK.out _ _ ?_ (fun hHeldN => ?_)
        · exact HC12.out W3 _ HP3.out rfl rfl rfl rfl
        clear hHeld hK K
        have hHeld := hHeldN
        clear hHeldN
        (try simp only [Act.put, List.setIfInBounds_toArray, List.set_cons_zero, List.set_cons_succ, List.getElem_toArray, List.getElem_cons_succ, List.getElem_cons_zero])
        refine wpAnyH_ready (rs := [11]) (by kernel_rfl) (by simp) ?_
        refine AllReadyH.cons (o := _) rfl (fun K hK => ?_) AllReadyH.nil
        go_simp
        have HP4 := Lib.hid (HP3.out.alloc (.cells #[.float .f32 rr] 31))
        have HO4 := Lib.hid (HO3.out.alloc (.cells #[.float .f32 rr] 31))
        have N4 := Lib.hid (heap_alloc_new W3 (.cells #[.float .f32 rr] 31))
        have hg4 : g ≤ (W3.alloc (.cells #[.float .f32 rr] 31)).heap.size := by simp; omega
        clear HP3 HO3
        refine hK.out _ _ ?_ (fun hHeldN => ?_)
        · exact HC12.out _ _ HP4.out rfl rfl rfl rfl
        clear hHeld hK K
        have hHeld := hHeldN
        clear hHeldN
        (try simp only [Act.put, List.setIfInBounds_toArray, List.set_cons_zero, List.set_cons_succ, List.getElem_toArray, List.getElem_cons_succ, List.getElem_cons_zero])
        generalize W3.alloc (.cells #[.float .f32 rr] 31) = W4 at *
        obtain ⟨i0, hi0, hz0, hz1, hz2⟩ := info_parts f32_info
        refine wpAnyH_ready (rs := [12]) (by kernel_rfl) (by simp) ?_
        refine AllReadyH.cons (o := _) rfl (fun K hK => ?_) AllReadyH.nil
        refine step_append_lies _ (by rfl) (.tmp 43) (.tmp 54) 28 (by rfl) g 31 i0 _ 1 4 Try.underlying28 hi0 hz0 hz1 hz2 rfl (by omega) u3 k (f32s ys) (by rfl) HO4.out ⟨W3.heap.size, 0, none⟩ 1 1 [.float .f32 rr] (by rfl) (by rfl) (World.news_of_block (cs := #[.float .f32 rr]) (t := 31) (fr := (0, 0)) N4.out) (by simp [Value.oneCell']) (by omega) (by simp only [maxLen]; omega) (by omega) hg4 _ rfl ?_
        intro gg cap W5 hown5 hgrow5 hat5 hlt5
        have HP5 := Lib.hid (HP4.out.outGrown (B := g) hgrow5 (fun k' q => by
          obtain ⟨cs, hc⟩ := owns_ty HO4.out q
          have h1 := (HO4.out.lt k' q).1
          exact ⟨by have := HGB.out; omega, h1, cs, hc⟩) HI3.out HGW.out)
        have HO5 := Lib.hid hown5
        have hg5 : g < W5.heap.size := by have := hgrow5.size; have := lt_of_some N4.out; omega
        clear hown5 hgrow5 hat5 hlt5 HP4 HO4
        refine hK.out _ _ ?_ (fun hHeldN => ?_)
        · exact HC12.out _ _ HP5.out rfl rfl rfl rfl
        clear hHeld hK K
        have hHeld := hHeldN
        clear hHeldN
        (try simp only [Act.put, List.setIfInBounds_toArray, List.set_cons_zero, List.set_cons_succ, List.getElem_toArray, List.getElem_cons_succ, List.getElem_cons_zero])
        refine wpAnyH_take (i := 13) (oi := _) (v := ?_) rfl (by kernel_rfl) (by kernel_rfl) (by kernel_rfl) (fun _ _ _ h => h) (Or.inl ⟨by rfl, ?_⟩) (by assumption) ?_
        rotate_left
        · (intro w hSw; (try dsimp only at hSw); go_simp; try (with_reducible rfl))
        (try simp only [Act.put, List.setIfInBounds_toArray, List.set_cons_zero, List.set_cons_succ, List.getElem_toArray, List.getElem_cons_succ, List.getElem_cons_zero])
        refine wpAnyH_done (by kernel_rfl) ?_ _
        (try simp only [List.getElem_toArray, List.getElem_cons_succ, List.getElem_cons_zero, Act.put, List.setIfInBounds_toArray, List.set_cons_zero, List.set_cons_succ])
        go_wp2_with fail
        go_roundw
        case rel => exact ⟨k + 1, ys ++ [rr], _, by go_num, by omega, ⟨HP5.out, by simpa [f32s] using HO5.out, HN.out.nx.set HX.out rfl, HN.out.outs.snoc HXM.out HRR.out.1 HRR.out.2, HI3.out, HGW.out, hg5⟩⟩
        case measure => simp [intOf]; omega
    · have hkn : ms1.length = k := by omega
      subst hkn
      obtain ⟨A', ca, hv⟩ := owns_form HN.out.own
      subst hv
      have hyl : ys.length = ms1.length := HN.out.outs.1
      have HYL := Lib.hid hyl
      have c8 := (pl_cells HN.out.pl.box).2.2.2.2.2.2.2.2.1
      have f8 := free_cells HN.out.pl.box 8
      have HNow := Lib.hid (HN.out.pl.setNow (now + 1))
      have HOn : Hid (∀ v, (wr.setCell ⟨P, 8, none⟩ v).ownsRow c.wk.heap.size 31 1 (.slice A' ms1.length ca) ms1.length (f32s ys)) := Lib.hid (fun v => owns_lower (owns_stay HN.out.own fun j e => by
        obtain ⟨cs, hc⟩ := owns_ty HN.out.own e
        exact (grown_set _ _ : wr.grownBy (wr.setCell ⟨P, 8, none⟩ v) (some P)).block j (lt_of_some hc) (by intro q; injection q with q; exact ty_ne hc HN.out.pl.box (by decide) q)) HN.out.gw)
      have HDn : Hid (L'.map Vm.v = (ms1.map Vm.v).map Vp.next) := HN.out.nx.done
      clear hyl
      go_wp2_with fail
      go_ret
      refine ⟨A', ca, ys, d, _, vT2, L', b1, d - done, ⟨ms1.map Vm.v, b1⟩, by rw [HYL.out]; rfl, by rw [HYL.out]; exact HOn.out _, HNow.out, hd1, by omega, HA.out, HDn.out, rfl, ?_⟩
      have := HN.out.outs
      simpa using this
end Go.Proofs.Ytndnfhhdflmfcaa

/-
A player's whole course, plain; a player seen from a later world.
-/
namespace Go.Proofs.Ytndnfhhdflmfcaa
open Go Go.RowKit Ieee

/-- A sample of a player: what arrives, what the voices give, what is left. -/
def nextP (bm : Int → List MW) (most : Int) (L : List Ev) (now : Nat) (q : Nat × Pl) : Nat × Pl :=
  (q.1 + (arriveP bm most now (L.drop q.1) q.2).1, ⟨(arriveP bm most now (L.drop q.1) q.2).2.vs.map Vp.next, (arriveP bm most now (L.drop q.1) q.2).2.begun⟩)
/-- The voices that sound in a sample. -/
def soundP (bm : Int → List MW) (most : Int) (L : List Ev) (now : Nat) (q : Nat × Pl) : List Vp := (arriveP bm most now (L.drop q.1) q.2).2.vs
/-- A player after n samples: how many events are done, its voices. -/
def plAt (bm : Int → List MW) (most : Int) (L : List Ev) : Nat → Nat × Pl
  | 0 => (0, ⟨[], 0⟩)
  | n + 1 => nextP bm most L n (plAt bm most L n)
theorem arriveP_count {bm : Int → List MW} {most now : Int} {l : List Ev} {p : Pl} : (arriveP bm most now l p).1 ≤ l.length ∧ (arriveP bm most now l p).2.begun ≤ p.begun + (arriveP bm most now l p).1 := by
  induction l generalizing p with
  | nil => simp [arriveP]
  | cons e l ih =>
    unfold arriveP
    split
    · have h := ih (p := p.happen bm most e)
      have h2 := Pl.happen_begun (bm := bm) (most := most) (p := p) (e := e)
      refine ⟨by simp only [List.length_cons]; omega, ?_⟩
      show (arriveP bm most now l (p.happen bm most e)).2.begun ≤ p.begun + (((arriveP bm most now l (p.happen bm most e)).1 + 1 : Nat) : Int)
      omega
    · simp
/-- What is known of a player after n samples. -/
structure AtOk (t : Nat) (most : Int) (L : List Ev) (q : Nat × Pl) : Prop where
  ok : PvOk t most q.2
  d : q.1 ≤ L.length
  b : q.2.begun ≤ q.1
theorem AtOk.next {t now : Nat} {most len : Int} {bs : List Bd} {L : List Ev} {q : Nat × Pl} (h : AtOk t most L q) (hm : 1 ≤ most) (hb : BodsOk bs 4 3) (he : ∀ e ∈ L, EvOk len bs.length e) (ht : t ≤ 61) : AtOk (t + 1) most L (nextP (bmOf bs) most L now q) := by
  have h1 := arriveP_ok (now := now) (l := L.drop q.1) h.ok hm hb (fun e he' => he e (List.mem_of_mem_drop he'))
  have h2 := arriveP_count (bm := bmOf bs) (most := most) (now := now) (l := L.drop q.1) (p := q.2)
  have hd := h.d
  have hbb := h.b
  refine ⟨⟨fun v hv => ?_, ?_, ?_⟩, ?_, ?_⟩
  · obtain ⟨u, hu, rfl⟩ := List.mem_map.1 hv
    exact (h1.vs u hu).next ht
  · show (((arriveP (bmOf bs) most now (L.drop q.1) q.2).2.vs.map Vp.next).length : Int) ≤ most
    rw [List.length_map]; exact h1.len
  · exact h1.b0
  · have := h2.1
    rw [List.length_drop] at this
    show q.1 + _ ≤ _
    omega
  · have := h2.2
    show (arriveP (bmOf bs) most now (L.drop q.1) q.2).2.begun ≤ ((q.1 + (arriveP (bmOf bs) most now (L.drop q.1) q.2).1 : Nat) : Int)
    omega
theorem plAt_ok {most len : Int} {bs : List Bd} {L : List Ev} (hm : 1 ≤ most) (hb : BodsOk bs 4 3) (he : ∀ e ∈ L, EvOk len bs.length e) : ∀ n, n ≤ 62 → AtOk n most L (plAt (bmOf bs) most L n) := by
  intro n
  induction n with
  | zero =>
    intro _
    exact ⟨⟨fun v hv => by simp [plAt] at hv, by simp [plAt]; omega, by simp [plAt]⟩, by simp [plAt], by simp [plAt]⟩
  | succ n ih =>
    intro hn
    exact (ih (by omega)).next hm hb he (by omega)
/-- A player seen from a later world. -/
theorem PlG.rebase {w0 w W : World} {base P done now : Nat} {c : Pc} {vV vT : Value} {ms : List Vm} {begun : Int} (h : PlIn w0 w base P c done now vV vT ms begun) (hk : Kept W w) (hs : c.wk.heap.size ≤ W.heap.size) : PlIn w0 w base P { c with wk := W } done now vV vT ms begun :=
  ⟨h.bel, h.hs, h.P0, h.box, h.ev, h.vrow, h.trow, h.vo, h.apart, hk, fun b hb => Nat.lt_of_lt_of_le (h.fbs b hb) hs⟩
/-- The caller turns rows of his own; the player is seen from the new world. -/
theorem PlG.caller {w0 w w' : World} {base P done now : Nat} {c : Pc} {vV vT : Value} {ms : List Vm} {begun : Int} (h : PlIn w0 w base P c done now vV vT ms begun) (hb : Below base w0 w')
    (hk : ∀ (j : Nat) (cs : Array Value) (t : TypeId) (f : Nat × Nat), w.heap[j]? = some (.cells cs t f) → (PT t ∨ t = 48 ∨ (t = 31 ∧ ¬ c.fb j)) → w'.heap[j]? = w.heap[j]?) (F : Nat → Prop) (hF : ∀ b, F b → b < w'.heap.size ∧ (c.fb b ∨ w.heap.size ≤ b)) : PlIn w0 w' base P { c with wk := w', fb := F } done now vV vT ms begun := by
  have hs := h.hs
  have kk : ∀ (j : Nat) (cs : Array Value) (t : TypeId) (f : Nat × Nat), w.heap[j]? = some (.cells cs t f) → PT t ∨ t = 48 → w'.heap[j]? = w.heap[j]? := fun j cs t f hj ht => hk j cs t f hj (by
    rcases ht with ht | ht
    · exact .inl ht
    · exact .inr (.inl ht))
  refine ⟨hb, h.hs, h.P0, (kk P _ _ _ h.box (.inl (.inl rfl))).trans h.box, ?_, ?_, ?_, ?_, h.apart, Kept.refl _, fun b q => (hF b q).1⟩
  · exact owns_stay h.ev fun j e => by
      obtain ⟨cs, hc⟩ := owns_ty h.ev e
      exact kk j _ _ _ hc (.inr rfl)
  · exact owns_stay h.vrow fun j e => by
      obtain ⟨cs, hc⟩ := owns_ty h.vrow e
      exact kk j _ _ _ hc (.inl (.inr (.inl rfl)))
  · exact owns_stay h.trow fun j e => by
      obtain ⟨cs, hc⟩ := owns_ty h.trow e
      exact kk j _ _ _ hc (.inl (.inr (.inr (.inl rfl))))
  · intro m hm
    have hv := h.vo m hm
    refine ⟨owns_stay hv.mod fun k e => ?_, hv.mS, hv.sts.of_block ?_, hv.S0, fun hl => ?_, hv.ic⟩
    · obtain ⟨cs, hc⟩ := owns_ty hv.mod e
      exact kk k _ _ _ hc (.inl (.inr (.inr (.inr (.inl rfl)))))
    · obtain ⟨cs, hc⟩ := rowIs_ty hv.sts
      exact kk _ _ _ _ hc (.inl (.inr (.inr (.inr (.inr rfl)))))
    · obtain ⟨b, off, cs, e, h1, hb, hcc⟩ := hv.inp hl
      refine ⟨b, off, cs, e, ⟨h1.1, fun q => ?_⟩, (hk b _ _ _ hb (.inr (.inr ⟨rfl, h1.2⟩))).trans hb, hcc⟩
      rcases (hF b q).2 with h2 | h2
      · exact h1.2 h2
      · have := lt_of_some hb; omega
/-- A sum of outputs that are known up to NaN. -/
theorem OutsOk.nrm {k : Nat} {vs : List Vp} {ys : List Nat} (h : OutsOk k vs ys) (hk : k = vs.length) : ys.map (nrm .f32) = vs.map Vp.out := by
  refine List.ext_getElem? fun j => ?_
  rw [List.getElem?_map, List.getElem?_map]
  rcases Nat.lt_or_ge j k with hj | hj
  · have h1 : j < vs.length := by omega
    have h2 : j < ys.length := by rw [h.1]; omega
    have := (h.2 j vs[j] hj (List.getElem?_eq_getElem h1)).1
    rw [List.getElem?_eq_getElem h1, List.getElem?_eq_getElem h2]
    simp only [List.getD, List.getElem?_eq_getElem h2, Option.getD_some] at this
    simp [this]
  · have hy := h.1
    rw [List.getElem?_eq_none (by omega), List.getElem?_eq_none (by omega)]
    rfl
theorem foldl_nrm (ys : List Nat) (a : Nat) : ys.foldl (fun s x => fo .add .f32 s x) a = (ys.map (nrm .f32)).foldl (fun s x => fo .add .f32 s x) a := by
  induction ys generalizing a with
  | nil => rfl
  | cons y ys ih => simp only [List.foldl_cons, List.map_cons, fo_nrm_r]; exact ih _
/-- The sum of a sample's outputs. -/
theorem OutsOk.total {vs : List Vp} {ys : List Nat} (h : OutsOk vs.length vs ys) : totalW ys = totalW (vs.map Vp.out) := by
  unfold totalW
  rw [foldl_nrm, h.nrm rfl]
/-- The sum that a player gives at sample n; what the limiter holds ahead of it. -/
def sumP (bm : Int → List MW) (most : Int) (L : List Ev) (n : Nat) : Nat := totalW ((soundP bm most L n (plAt bm most L n)).map Vp.out)
def envP (bm : Int → List MW) (most : Int) (L : List Ev) (r : Nat) : Nat → Nat
  | 0 => 0
  | n + 1 => nrm .f32 (limE (envP bm most L r n) (sumP bm most L n) r)
/-- A sample of the stream. -/
def smpP (bm : Int → List MW) (most : Int) (L : List Ev) (c r n : Nat) : Nat := limS (envP bm most L r n) (sumP bm most L n) c r
end Go.Proofs.Ytndnfhhdflmfcaa

/-
Two results of MixTracks agree. (Plain arithmetic.)
-/
namespace Go.Proofs.Ytndnfhhdflmfcaa
open Go Go.RowKit Ieee

/-- Two results that agree: lengths and elements. -/
def AgreeL (ys zs : List Nat) : Prop := ys.length = zs.length ∧ ∀ i, i < ys.length → wfk .f32 (ys.getD i 0) ∧ wfk .f32 (zs.getD i 0) ∧ sameB .f32 (ys.getD i 0) (zs.getD i 0) = true
theorem isN_abs32 (b : Nat) : isN .f32 (b % 2147483648) = isN .f32 b := by
  show (single.read (b % 2147483648)).isNaN = (single.read b).isNaN
  rw [read_abs32]
  cases single.read b <;> rfl
theorem abs32_congr {x y : Nat} (h : nrm .f32 x = nrm .f32 y) : nrm .f32 (x % 2147483648) = nrm .f32 (y % 2147483648) := by
  cases hx : isN .f32 x
  · cases hy : isN .f32 y
    · rw [nrm_of_num hx, nrm_of_num hy] at h; rw [h]
    · rw [nrm_of_num hx, nrm_of_nan hy] at h
      rw [h, isN_qn] at hx; cases hx
  · cases hy : isN .f32 y
    · rw [nrm_of_nan hx, nrm_of_num hy] at h
      rw [← h, isN_qn] at hy; cases hy
    · rw [nrm_of_nan (by rw [isN_abs32]; exact hx), nrm_of_nan (by rw [isN_abs32]; exact hy)]
theorem limE_x {E x y r : Nat} (h : nrm .f32 x = nrm .f32 y) : limE E x r = limE E y r := by unfold limE; rw [abs32_congr h]
theorem limS_x {E x y c r : Nat} (h : nrm .f32 x = nrm .f32 y) : limS E x c r = limS E y c r := by
  unfold limS; rw [limE_x h, h, show fo .mul .f32 x c = fo .mul .f32 y c from fo_congr h rfl]
theorem envAt_x {xs ys : List Nat} {r : Nat} {n : Nat} (h : ∀ i, i < n → nrm .f32 (xs.getD i 0) = nrm .f32 (ys.getD i 0)) : ∀ k, k ≤ n → envAt xs r k = envAt ys r k := by
  intro k
  induction k with
  | zero => intro _; rfl
  | succ k ih =>
    intro hk
    show limE (envAt xs r k) (xs.getD k 0) r = limE (envAt ys r k) (ys.getD k 0) r
    rw [ih (by omega), limE_x (h k (by omega))]
theorem sumAt_x {rs qs : List Row} {n : Nat} (h : ∀ i, i < n → (rowAt qs i).2.2 = (rowAt rs i).2.2) (j : Nat) : ∀ k, k ≤ n → sumAt qs k j = sumAt rs k j := by
  intro k
  induction k with
  | zero => intro _; rfl
  | succ k ih =>
    intro hk
    show fo .add .f32 (sumAt qs k j) ((rowAt qs k).2.2.getD j 0) = fo .add .f32 (sumAt rs k j) ((rowAt rs k).2.2.getD j 0)
    rw [ih (by omega), h k (by omega)]
theorem mixRes_x {c r : Nat} {rs qs : List Row} {ok : Bool} {ys : List Nat} (hl : qs.length = rs.length) (h : ∀ i, i < rs.length → (rowAt qs i).2.2 = (rowAt rs i).2.2) (hm : MixRes c r qs ok ys) : MixRes c r rs ok ys := by
  have hr : ∀ i, i < rs.length → rowLen qs i = rowLen rs i := fun i hi => by unfold rowLen; rw [h i hi]
  rcases hm with ⟨h1, h2, ss, h3, h4⟩ | ⟨⟨i, h1, h2⟩, h3, h4⟩
  · refine .inl ⟨fun i hi => ?_, h2, ss, ?_, h4⟩
    · have := h1 i (by omega)
      rwa [hr i hi, hr 0 (by omega)] at this
    · have e : (if qs.length = 0 then 0 else rowLen qs 0) = if rs.length = 0 then 0 else rowLen rs 0 := by
        rw [hl]
        by_cases h0 : rs.length = 0
        · rw [if_pos h0, if_pos h0]
        · rw [if_neg h0, if_neg h0, hr 0 (by omega)]
      rw [e, hl] at h3
      refine ⟨h3.1, fun j hj => ?_⟩
      have := h3.2 j hj
      rw [if_neg (by omega)] at this ⊢
      rwa [sumAt_x h j _ (Nat.le_refl _)] at this
  · exact .inr ⟨⟨i, by omega, by rwa [hr i (by omega), hr 0 (by omega)] at h2⟩, h3, h4⟩
theorem mix_agree {c r : Nat} {rs : List Row} {ok ok' : Bool} {ys zs : List Nat} (hy : MixRes c r rs ok ys) (hz : MixRes c r rs ok' zs) : ok = ok' ∧ AgreeL ys zs := by
  rcases hy with ⟨h1, h2, ss, h3, h4⟩ | ⟨⟨i, h1, h2⟩, h3, h4⟩ <;> rcases hz with ⟨g1, g2, ts, g3, g4⟩ | ⟨⟨k, g1, g2⟩, g3, g4⟩
  · refine ⟨by rw [h2, g2], ?_⟩
    cases hok : limOk c r
    · rw [if_neg (by simp [hok])] at h4 g4
      subst h4 g4
      exact ⟨rfl, fun i hi => by simp at hi⟩
    · rw [if_pos hok] at h4 g4
      have hlen : ss.length = ts.length := by rw [h3.1, g3.1]
      have hn : ∀ i, i < ss.length → nrm .f32 (ss.getD i 0) = nrm .f32 (ts.getD i 0) := fun i hi => by
        have e1 := (h3.2 i (by rw [← h3.1]; exact hi)).1
        have e2 := (g3.2 i (by rw [← g3.1, ← hlen]; exact hi)).1
        rw [e1, e2]
      refine ⟨by rw [h4.1, g4.1, hlen], fun i hi => ?_⟩
      rw [h4.1] at hi
      obtain ⟨y1, y2⟩ := h4.2 i hi
      obtain ⟨z1, z2⟩ := g4.2 i (by omega)
      refine ⟨y2, z2, ?_⟩
      unfold sameB
      rw [y1, z1, envAt_x hn i (by omega), limS_x (hn i hi)]
      simp
  · exact absurd (h1 k g1) g2
  · exact absurd (g1 i h1) h2
  · subst h4 g4
    exact ⟨by rw [h3, g3], rfl, fun i hi => by simp at hi⟩
theorem mix_len {c r : Nat} {rs : List Row} {ok : Bool} {ys : List Nat} (hy : MixRes c r rs ok ys) (hl : ∀ i, i < rs.length → rowLen rs i ≤ 1048576) : ys.length ≤ 1048576 := by
  rcases hy with ⟨h1, h2, ss, h3, h4⟩ | ⟨_, _, h4⟩
  · cases hok : limOk c r
    · rw [if_neg (by simp [hok])] at h4
      subst h4; simp
    · rw [if_pos hok] at h4
      rw [h4.1, h3.1]
      split
      · omega
      · exact hl 0 (by omega)
  · subst h4; simp
end Go.Proofs.Ytndnfhhdflmfcaa

/-
impl.streamed.
-/
namespace Go.Proofs.Ytndnfhhdflmfcaa
open Go Go.RowKit Ieee

theorem sortedE_mem {L : List Ev} {e : Ev} (h : e ∈ sortedE L) : e ∈ L := by
  have h1 : e ∈ ofTime e.1 (sortedE L) := by unfold ofTime; exact List.mem_filter.2 ⟨h, by simp⟩
  rw [ofTime_sorted] at h1
  unfold ofTime at h1
  exact (List.mem_filter.1 h1).1
theorem owns_rd {w : World} {base n c : Nat} {e : TypeId} {A : Option Addr} {xs : List Value} (h : w.ownsRow base e 1 (.slice A n c) n xs) : Rd w A xs := by
  obtain ⟨_, _, q, _, rd⟩ := own_rd h
  injection q with q1 _ q2
  subst q1 q2
  exact rd
/-- What streamed leaves, and what it gives. -/
def StrOk (bm : Int → List MW) (most : Int) (L : List Ev) (c r n : Nat) (ys : List Nat) : Prop := ys.length = n ∧ ∀ i, i < n → nrm .f32 (ys.getD i 0) = smpP bm most L c r i ∧ wfk .f32 (ys.getD i 0)

/-- A score that can be played. -/
structure ScPlay (s : Sh) (bs : List Bd) (evs : List Ev) : Prop where
  sh : ShOk 2000 s
  bods : BodsOk bs 4 3
  evs : EvsOk s.1 bs.length evs 19
/-- The player's states are bounded at all samples below n. -/
def AtAll (n : Nat) (s : Sh) (bs : List Bd) (evs : List Ev) : Prop := ∀ k, k ≤ n → ∃ t, t ≤ 61 ∧ AtOk t s.2.1 (sortedE evs) (plAt (bmOf bs) s.2.1 (sortedE evs) k)
theorem ScPlay.at {s : Sh} {bs : List Bd} {evs : List Ev} (h : ScPlay s bs evs) {n : Nat} (hn : n ≤ 61) : AtAll n s bs evs := fun k hk =>
  ⟨k, by omega, plAt_ok (len := s.1) h.sh.v0 h.bods (fun e he => h.evs.2 e (sortedE_mem he)) k (by omega)⟩
theorem owns_none {w : World} {lo n k b : Nat} {e : TypeId} {v : Value} {xs : List Value} (h : w.ownsRow lo e k v n xs) (hb : v.ownBlock = some b) : lo ≤ b ∧ ∃ cs, w.heap[b]? = some (.cells cs e (0, 0)) := ⟨(h.lt b hb).1, owns_ty h hb⟩
/-- The caller appends to his row of numbers. -/
theorem PlG.appended {w0 w w' : World} {base P done now lo n gg m cap : Nat} {c : Pc} {vV vT v : Value} {ms : List Vm} {begun : Int} {xs : List Value} (h : PlIn w0 w base P c done now vV vT ms begun) (hown : w.ownsRow lo 31 1 v n xs) (hlo : base ≤ lo)
    (hfb : ∀ b, v.ownBlock = some b → c.fb b) (hg : w.grownBy w' v.ownBlock) (hat : v.ownBlock = some gg ∨ gg = w.heap.size) (hlt : gg < w'.heap.size) :
    PlIn w0 w' base P { c with wk := w', fb := fun b => (Value.slice (some ⟨gg, 0, none⟩) m cap).ownBlock = some b } done now vV vT ms begun := by
  have hs := h.hs
  have hz := h.bel.size
  refine h.caller ⟨hg.os.trans h.bel.os, hg.tape.trans h.bel.tape, hg.output.trans h.bel.output, Nat.le_trans hz hg.size, fun j hj => (hg.block j (by omega) (fun q => by have := (hown.lt j q.symm).1; omega)).trans (h.bel.block j hj)⟩ (fun j cs t f hj ht => hg.block j (lt_of_some hj) (fun q => ?_)) _ (fun b hb => ?_)
  · obtain ⟨cs', hc⟩ := owns_ty hown q.symm
    rcases ht with ht | ht | ⟨_, ht⟩
    · exact ty_ne hj hc (fun e => by subst e; revert ht; unfold PT; decide) rfl
    · exact ty_ne hj hc (fun e => by subst e; exact absurd ht (by decide)) rfl
    · exact ht (hfb j q.symm)
  · have hb : gg = b := by injection hb
    subst hb
    refine ⟨hlt, ?_⟩
    rcases hat with q | q
    · exact .inl (hfb _ q)
    · exact .inr (by omega)
/-- What streamed returns. -/
def StrP (w : World) (s : Sh) (B : Option Addr) (cb : Nat) (bs : List Bd) (E : Option Addr) (ce : Nat) (evs : List Ev) (n : Nat) (r : Ending) (w' : World) : Prop :=
  ∃ (W : World) (P : Nat) (c : Pc) (ev : Nat) (A : Option Addr) (ca : Nat) (ys : List Nat) (vV vT : Value) (ms : List Vm) (b : Int), r = .returned (.tuple #[.pointer (some ⟨P, 0, none⟩), .float .f32 ev, .slice A n ca]) ∧
    (c.s = s ∧ c.B = B ∧ c.cb = cb ∧ c.bs = bs ∧ c.E = E ∧ c.ce = ce ∧ c.ne = evs.length ∧ c.L = sortedE evs) ∧ Below w.heap.size w W ∧
    PlIn W w' W.heap.size P c (plAt (bmOf bs) s.2.1 (sortedE evs) n).1 n vV vT ms b ∧ ms.map Vm.v = (plAt (bmOf bs) s.2.1 (sortedE evs) n).2.vs ∧ b = (plAt (bmOf bs) s.2.1 (sortedE evs) n).2.begun ∧
    (nrm .f32 ev = envP (bmOf bs) s.2.1 (sortedE evs) s.2.2.2 n ∧ wfk .f32 ev) ∧ w'.ownsRow w.heap.size 31 1 (.slice A n ca) n (f32s ys) ∧ StrOk (bmOf bs) s.2.1 (sortedE evs) s.2.2.1 s.2.2.2 n ys
theorem StrOk.snoc {bm : Int → List MW} {most : Int} {L : List Ev} {c r n y : Nat} {ys : List Nat} (h : StrOk bm most L c r n ys) (h1 : nrm .f32 y = smpP bm most L c r n) (h2 : wfk .f32 y) : StrOk bm most L c r (n + 1) (ys ++ [y]) := by
  obtain ⟨hl, h⟩ := h
  refine ⟨by simp [hl], fun i hi => ?_⟩
  rcases Nat.lt_or_ge i n with q | q
  · have e : (ys ++ [y]).getD i 0 = ys.getD i 0 := by
      simp only [List.getD]; rw [List.getElem?_append_left (by omega)]
    rw [e]; exact h i q
  · obtain rfl : i = n := by omega
    have e : (ys ++ [y]).getD i 0 = y := by
      simp only [List.getD]; rw [List.getElem?_append_right (by omega), hl]; simp
    rw [e]; exact ⟨h1, h2⟩
/-- Where the walk of streamed is. -/
structure TIn (w0 w : World) (P : Nat) (c : Pc) (sb g k : Nat) (E : Nat) (v : Value) (ys : List Nat) (vV vT : Value) (ms : List Vm) (b : Int) : Prop where
  pl : PlIn w0 w w0.heap.size P { c with wk := w, fb := fun b => v.ownBlock = some b } (plAt (bmOf c.bs) c.s.2.1 c.L k).1 k vV vT ms b
  vs : ms.map Vm.v = (plAt (bmOf c.bs) c.s.2.1 c.L k).2.vs
  bg : b = (plAt (bmOf c.bs) c.s.2.1 c.L k).2.begun
  env : nrm .f32 E = envP (bmOf c.bs) c.s.2.1 c.L c.s.2.2.2 k ∧ wfk .f32 E
  own : w.ownsRow g 31 1 v k (f32s ys)
  out : StrOk (bmOf c.bs) c.s.2.1 c.L c.s.2.2.1 c.s.2.2.2 k ys
  box : w.heap[sb]? = some (.cells #[.int .i64 c.s.1, .int .i64 c.s.2.1, .float .f32 c.s.2.2.1, .float .f32 c.s.2.2.2, .slice c.B c.bs.length c.cb, .slice c.E c.ne c.ce] 44 (0, 0))
  g0 : w0.heap.size ≤ g
  gs : g ≤ w.heap.size
theorem envP_nrm (bm : Int → List MW) (most : Int) (L : List Ev) (r n : Nat) : nrm .f32 (envP bm most L r n) = envP bm most L r n := by
  cases n with
  | zero => exact (nrm_of_num (by decide +kernel) : nrm .f32 0 = 0)
  | succ n => exact nrm_nrm _ _
set_option maxRecDepth 100000 in
set_option maxHeartbeats 6400000 in
theorem streamed_any (s : Sh) (B : Option Addr) (cb : Nat) (bs : List Bd) (E : Option Addr) (ce lo hi n : Nat) (evs : List Ev) (w : World) (h : ScIn w lo hi B cb bs E ce evs) (hok : ScPlay s bs evs) (hat : AtAll n s bs evs) (hn : n ≤ 2000) :
    Calls Try.prog 45 #[.agg #[.int .i64 s.1, .int .i64 s.2.1, .float .f32 s.2.2.1, .float .f32 s.2.2.2, .slice B bs.length cb, .slice E evs.length ce], .int .i64 n] w (StrP w s B cb bs E ce evs n) := by
  have HOK := Lib.hid hok
  have HS : Hid (ScIn (w.alloc (.cells #[.int .i64 s.1, .int .i64 s.2.1, .float .f32 s.2.2.1, .float .f32 s.2.2.2, .slice B bs.length cb, .slice E evs.length ce] 44)) lo hi B cb bs E ce evs) := h.below ((Below.refl _ _).alloc (Nat.le_refl _) _)
  have HBx := Lib.hid (heap_alloc_new w (.cells #[.int .i64 s.1, .int .i64 s.2.1, .float .f32 s.2.2.1, .float .f32 s.2.2.2, .slice B bs.length cb, .slice E evs.length ce] 44))
  have HAA := Lib.hid hat
  have HBel : Hid (Below w.heap.size w (w.alloc (.cells #[.int .i64 s.1, .int .i64 s.2.1, .float .f32 s.2.2.1, .float .f32 s.2.2.2, .slice B bs.length cb, .slice E evs.length ce] 44))) := (Below.refl w.heap.size w).alloc (Nat.le_refl _) _
  clear h hok hat
  go_enter Try.func45, Try.ntmps45
  go_wp2_with fail
  generalize w.alloc (.cells #[.int .i64 s.1, .int .i64 s.2.1, .float .f32 s.2.2.1, .float .f32 s.2.2.2, .slice B bs.length cb, .slice E evs.length ce] 44) = W at *
  generalize hsb : w.heap.size = sb at *
  have HSB := Lib.hid hsb
  clear hsb
  refine (newPlayer_any s B cb bs E ce lo hi evs W HS.out.evs HS.out.hh (HOK.out.evs.timed (by have := HOK.out.sh.l1; omega)) (by have := HOK.out.evs.1; omega)).mono ?_
  rintro r W2 ⟨P, A, ca, rfl, hp⟩
  have HP := Lib.hid hp
  clear hp
  obtain ⟨c, hc⟩ : ∃ c : Pc, c = ⟨s, B, cb, bs, E, ce, evs.length, A, ca, sortedE evs, W, fun _ => False⟩ := ⟨_, rfl⟩
  have HBD : Hid (BodsIn W lo W.heap.size c.B c.bs) := by
    subst hc
    exact (HS.out.low (Nat.le_refl _) HS.out.hh (Nat.le_refl _)).bodsIn
  have HCO : Hid (∀ w' F, PcOk s.1 s.2.1 { c with wk := w', fb := F }) := by
    subst hc
    intro w' F
    exact ⟨HOK.out.bods, HOK.out.sh.v0, by have := HOK.out.sh.v1; show s.2.1 ≤ 8; omega, fun e he => HOK.out.evs.2 e (sortedE_mem he), by rw [sortedE_len]; have := HOK.out.evs.1; omega, rfl⟩
  have HAt : Hid (∀ k, k ≤ n → ∃ t, t ≤ 61 ∧ AtOk t s.2.1 c.L (plAt (bmOf c.bs) c.s.2.1 c.L k)) := by
    subst hc
    exact HAA.out
  have HT0 : Hid (TIn W (W2.alloc (.cells #[] 31)) P c sb W2.heap.size 0 0 (.slice (some ⟨W2.heap.size, 0, none⟩) 0 0) [] (.slice none 0 0) (.slice none 0 0) [] 0) := by
    subst hc
    have hp0 := HP.out
    have hp := hp0.alloc (.cells #[] 31)
    refine ⟨hp0.caller hp.bel (fun j cs t f hj _ => Below.heap_alloc W2 _ _ (lt_of_some hj)) _ (fun b hb => ?_), rfl, rfl, ⟨nrm_of_num (by decide +kernel), by rw [wfk_32]; omega⟩, owns_empty W2 31, ⟨rfl, fun i hi => absurd hi (Nat.not_lt_zero _)⟩, hp.kp.2 _ _ _ _ HBx.out (by unfold PT; decide), HP.out.bel.size, by simp⟩
    have hb : W2.heap.size = b := by injection hb
    subst hb
    exact ⟨by simp, .inr (Nat.le_refl _)⟩
  have HC := Lib.hid hc
  clear hc
  go_wp2_with fail
  generalize W2.alloc (.cells #[] 31) = Wa at *
  generalize W2.heap.size = g at *
  go_loopw [8, 9, 15] (fun ev v i wr => ∃ (k E : Nat) (ys : List Nat) (vV vT : Value) (ms : List Vm) (b : Int), i = .int .i64 (k : Int) ∧ k ≤ n ∧ ev = .float .f32 E ∧ Hid (TIn W wr P c sb g k E v ys vV vT ms b)) (fun _ _ i _ => n - (intOf i).toNat)
  case atStart => exact ⟨0, 0, [], _, _, [], 0, rfl, by omega, rfl, HT0⟩
  case round =>
    clear HT0 HP
    obtain ⟨k, E', ys, vV, vT, ms, b, rfl, hk, rfl, HT⟩ := hrel
    by_cases hlt : k < n
    · have cx := cell_of_row _ sb 2 _ _ (0, 0) HT.out.box
      have cy := cell_of_row _ sb 3 _ _ (0, 0) HT.out.box
      go_wp2_with fail
      have HP1 := Lib.hid (HT.out.pl.drewN 1)
      refine wp_region_held_drew (S := fun w' => w'.cell? ⟨sb, 2, none⟩ = some (.float .f32 c.s.2.2.1) ∧ w'.cell? ⟨sb, 3, none⟩ = some (.float .f32 c.s.2.2.2)) (by kernel_rfl) ⟨cx, cy⟩ (fun hHeld => ?_)
      clear cx cy
      refine wpAnyH_take (i := 0) (oi := _) (v := ?_) rfl (by kernel_rfl) (by kernel_rfl) (by kernel_rfl) (fun _ _ _ h => h) (Or.inl ⟨by rfl, ?_⟩) (by assumption) ?_
      rotate_left
      · (intro w hSw; (try dsimp only at hSw); go_simp; try (with_reducible rfl))
      (try simp only [Act.put, List.setIfInBounds_toArray, List.set_cons_zero, List.set_cons_succ, List.getElem_toArray, List.getElem_cons_succ, List.getElem_cons_zero])
      refine wpAnyH_take (i := 1) (oi := _) (v := ?_) rfl (by kernel_rfl) (by kernel_rfl) (by kernel_rfl) (fun _ _ _ h => h) (Or.inl ⟨by rfl, ?_⟩) (by assumption) ?_
      rotate_left
      · (intro w hSw; (try dsimp only at hSw); go_simp; try (with_reducible rfl))
      (try simp only [Act.put, List.setIfInBounds_toArray, List.set_cons_zero, List.set_cons_succ, List.getElem_toArray, List.getElem_cons_succ, List.getElem_cons_zero])
      refine wpAnyH_take (i := 4) (oi := _) (v := ?_) rfl (by kernel_rfl) (by kernel_rfl) (by kernel_rfl) (fun _ _ _ h => h) (Or.inl ⟨by rfl, ?_⟩) (by assumption) ?_
      rotate_left
      · (intro w hSw; (try dsimp only at hSw); go_simp; try (with_reducible rfl))
      (try simp only [Act.put, List.setIfInBounds_toArray, List.set_cons_zero, List.set_cons_succ, List.getElem_toArray, List.getElem_cons_succ, List.getElem_cons_zero])
      refine wpAnyH_take (i := 5) (oi := _) (v := ?_) rfl (by kernel_rfl) (by kernel_rfl) (by kernel_rfl) (fun _ _ _ h => h) (Or.inl ⟨by rfl, ?_⟩) (by assumption) ?_
      rotate_left
      · (intro w hSw; (try dsimp only at hSw); go_simp; try (with_reducible rfl))
      (try simp only [Act.put, List.setIfInBounds_toArray, List.set_cons_zero, List.set_cons_succ, List.getElem_toArray, List.getElem_cons_succ, List.getElem_cons_zero])
      refine wpAnyH_take (i := 6) (oi := _) (v := ?_) rfl (by kernel_rfl) (by kernel_rfl) (by kernel_rfl) (fun _ _ _ h => h) (Or.inl ⟨by rfl, ?_⟩) (by assumption) ?_
      rotate_left
      · (intro w hSw; (try dsimp only at hSw); go_simp; try (with_reducible rfl))
      (try simp only [Act.put, List.setIfInBounds_toArray, List.set_cons_zero, List.set_cons_succ, List.getElem_toArray, List.getElem_cons_succ, List.getElem_cons_zero])
      refine wpAnyH_take (i := 7) (oi := _) (v := ?_) rfl (by kernel_rfl) (by kernel_rfl) (by kernel_rfl) (fun _ _ _ h => h) (Or.inl ⟨by rfl, ?_⟩) (by assumption) ?_
      rotate_left
      · (intro w hSw; (try dsimp only at hSw); go_simp; try (with_reducible rfl))
      (try simp only [Act.put, List.setIfInBounds_toArray, List.set_cons_zero, List.set_cons_succ, List.getElem_toArray, List.getElem_cons_succ, List.getElem_cons_zero])
      refine wpAnyH_ready (rs := [2]) (by kernel_rfl) (by simp) ?_
      refine AllReadyH.cons (o := _) rfl (fun K hK => ?_) AllReadyH.nil
      go_simp
      obtain ⟨tk, htk, hat⟩ := HAt.out k (by omega)
      have HAK := Lib.hid hat
      clear hat
      refine (next_any (t := tk) (L := s.1) (most := s.2.1) HP1.out HBD.out (HCO.out wr _) (by rw [HT.out.vs, HT.out.bg]; exact HAK.out.ok) HAK.out.d (by rw [HT.out.bg]; exact HAK.out.b) htk (by omega)).mono ?_
      rintro r W3 hp3
      unfold NextP at hp3
      obtain ⟨A3, ca3, ys3, d3, vV3, vT3, ms3, b3, n3, p3, rfl, hown3, hpl3, hd3, hd3', harr3, hms3, hb3, houts3⟩ := hp3
      have HBX3 : Hid (W3.heap[sb]? = some (.cells #[.int .i64 c.s.1, .int .i64 c.s.2.1, .float .f32 c.s.2.2.1, .float .f32 c.s.2.2.2, .slice c.B c.bs.length c.cb, .slice c.E c.ne c.ce] 44 (0, 0))) := hpl3.kp.2 _ _ _ _ HT.out.box (by unfold PT; decide)
      have HO3 : Hid (W3.ownsRow g 31 1 u9 k (f32s ys)) := owns_stay HT.out.own fun j e => by
        obtain ⟨cs, hc⟩ := owns_ty HT.out.own e
        exact (hpl3.kp.2 _ _ _ _ hc (by unfold PT; decide)).trans hc.symm
      have HQ : Hid (arriveP (bmOf c.bs) c.s.2.1 k (c.L.drop (plAt (bmOf c.bs) c.s.2.1 c.L k).1) (plAt (bmOf c.bs) c.s.2.1 c.L k).2 = (n3, p3)) := by
        have h1 : (⟨ms.map Vm.v, b⟩ : Pl) = (plAt (bmOf c.bs) c.s.2.1 c.L k).2 := by rw [HT.out.vs, HT.out.bg]
        rw [h1] at harr3
        exact harr3
      have HSum : Hid (totalW ys3 = sumP (bmOf c.bs) c.s.2.1 c.L k) := by
        show _ = totalW ((arriveP _ _ _ _ _).2.vs.map Vp.out)
        rw [HQ.out]
        exact houts3.total
      have HNx : Hid (plAt (bmOf c.bs) c.s.2.1 c.L (k + 1) = (d3, ⟨ms3.map Vm.v, b3⟩)) := by
        show ((plAt (bmOf c.bs) c.s.2.1 c.L k).1 + (arriveP _ _ _ _ _).1, (⟨(arriveP _ _ _ _ _).2.vs.map Vp.next, (arriveP _ _ _ _ _).2.begun⟩ : Pl)) = _
        rw [HQ.out, hms3, hb3, hd3']
      have HPl := Lib.hid hpl3
      have HG3 : Hid (g ≤ W3.heap.size) := Nat.le_trans HT.out.gs hpl3.kp.1
      have HRd : Hid (Rd W3 A3 (f32s ys3)) := Lib.hid (owns_rd hown3)
      have hy8 : ys3.length ≤ 1048576 := by
        have h1 := (arriveP_ok (now := k) (l := c.L.drop (plAt (bmOf c.bs) c.s.2.1 c.L k).1) HAK.out.ok HOK.out.sh.v0 (HCO.out w (fun _ => False)).bods (fun e he => (HCO.out w (fun _ => False)).evs e (List.mem_of_mem_drop he))).len
        have h2 : s.2.1 = c.s.2.1 := (HCO.out w (fun _ => False)).most
        rw [h2] at h1
        rw [HQ.out] at h1
        have h1' : (p3.vs.length : Int) ≤ c.s.2.1 := h1
        have h3 := HOK.out.sh.v1
        have h4 := houts3.1
        omega
      clear hown3 hpl3 hd3 hd3' harr3 hms3 hb3 houts3
      go_wp2_with fail
      refine hK.out _ _ ?_ (fun hHeldN => ?_)
      · exact ⟨cell_of_row _ sb 2 _ _ (0, 0) HBX3.out, cell_of_row _ sb 3 _ _ (0, 0) HBX3.out⟩
      clear hHeld hK K
      have hHeld := hHeldN
      clear hHeldN
      (try simp only [Act.put, List.setIfInBounds_toArray, List.set_cons_zero, List.set_cons_succ, List.getElem_toArray, List.getElem_cons_succ, List.getElem_cons_zero])
      refine wpAnyH_ready (rs := [3]) (by kernel_rfl) (by simp) ?_
      refine AllReadyH.cons (o := _) rfl (fun K hK => ?_) AllReadyH.nil
      go_simp
      refine (total_any A3 ca3 ys3 W3 HRd.out hy8).mono ?_
      rintro r W4 ⟨tt, n4, rfl, ht1, ht2, rfl⟩
      have HTT := Lib.hid ht1
      have HTW := Lib.hid ht2
      clear ht1 ht2
      go_wp2_with fail
      refine hK.out _ _ ?_ (fun hHeldN => ?_)
      · exact ⟨cell_of_row _ sb 2 _ _ (0, 0) HBX3.out, cell_of_row _ sb 3 _ _ (0, 0) HBX3.out⟩
      clear hHeld hK K
      have hHeld := hHeldN
      clear hHeldN
      (try simp only [Act.put, List.setIfInBounds_toArray, List.set_cons_zero, List.set_cons_succ, List.getElem_toArray, List.getElem_cons_succ, List.getElem_cons_zero])
      refine wpAnyH_ready (rs := [8]) (by kernel_rfl) (by simp) ?_
      refine AllReadyH.cons (o := _) rfl (fun K hK => ?_) AllReadyH.nil
      go_simp
      refine (impl_limitNext E' tt c.s.2.2.1 c.s.2.2.2 _ HTW.out).mono ?_
      rintro r W5 ⟨s5, g5, n5, rfl, h1, h2, h3, h4, rfl⟩
      have HL5 := Lib.hid (And.intro h1 (And.intro h2 (And.intro h3 h4)))
      clear h1 h2 h3 h4
      go_wp2_with fail
      refine hK.out _ _ ?_ (fun hHeldN => ?_)
      · exact ⟨cell_of_row _ sb 2 _ _ (0, 0) HBX3.out, cell_of_row _ sb 3 _ _ (0, 0) HBX3.out⟩
      clear hHeld hK K
      have hHeld := hHeldN
      clear hHeldN
      (try simp only [Act.put, List.setIfInBounds_toArray, List.set_cons_zero, List.set_cons_succ, List.getElem_toArray, List.getElem_cons_succ, List.getElem_cons_zero])
      refine wpAnyH_take (i := 9) (oi := _) (v := ?_) rfl (by kernel_rfl) (by kernel_rfl) (by kernel_rfl) (fun _ _ _ h => h) (Or.inl ⟨by rfl, ?_⟩) (by assumption) ?_
      rotate_left
      · (intro w hSw; (try dsimp only at hSw); go_simp; try (with_reducible rfl))
      (try simp only [Act.put, List.setIfInBounds_toArray, List.set_cons_zero, List.set_cons_succ, List.getElem_toArray, List.getElem_cons_succ, List.getElem_cons_zero])
      refine wpAnyH_take (i := 10) (oi := _) (v := ?_) rfl (by kernel_rfl) (by kernel_rfl) (by kernel_rfl) (fun _ _ _ h => h) (Or.inl ⟨by rfl, ?_⟩) (by assumption) ?_
      rotate_left
      · (intro w hSw; (try dsimp only at hSw); go_simp; try (with_reducible rfl))
      (try simp only [Act.put, List.setIfInBounds_toArray, List.set_cons_zero, List.set_cons_succ, List.getElem_toArray, List.getElem_cons_succ, List.getElem_cons_zero])
      refine wpAnyH_take (i := 11) (oi := _) (v := ?_) rfl (by kernel_rfl) (by kernel_rfl) (by kernel_rfl) (fun _ _ _ h => h) (Or.inl ⟨by rfl, ?_⟩) (by assumption) ?_
      rotate_left
      · (intro w hSw; (try dsimp only at hSw); go_simp; try (with_reducible rfl))
      (try simp only [Act.put, List.setIfInBounds_toArray, List.set_cons_zero, List.set_cons_succ, List.getElem_toArray, List.getElem_cons_succ, List.getElem_cons_zero])
      refine wpAnyH_take (i := 12) (oi := _) (v := ?_) rfl (by kernel_rfl) (by kernel_rfl) (by kernel_rfl) (fun _ _ _ h => h) (Or.inl ⟨by rfl, ?_⟩) (by assumption) ?_
      rotate_left
      · (intro w hSw; (try dsimp only at hSw); go_simp; try (with_reducible rfl))
      (try simp only [Act.put, List.setIfInBounds_toArray, List.set_cons_zero, List.set_cons_succ, List.getElem_toArray, List.getElem_cons_succ, List.getElem_cons_zero])
      refine wpAnyH_take (i := 13) (oi := _) (v := ?_) rfl (by kernel_rfl) (by kernel_rfl) (by kernel_rfl) (fun _ _ _ h => h) (Or.inl ⟨by rfl, ?_⟩) (by assumption) ?_
      rotate_left
      · (intro w hSw; (try dsimp only at hSw); go_simp; try (with_reducible rfl))
      (try simp only [Act.put, List.setIfInBounds_toArray, List.set_cons_zero, List.set_cons_succ, List.getElem_toArray, List.getElem_cons_succ, List.getElem_cons_zero])
      refine wpAnyH_done (by kernel_rfl) ?_ _
      (try simp only [List.getElem_toArray, List.getElem_cons_succ, List.getElem_cons_zero, Act.put, List.setIfInBounds_toArray, List.set_cons_zero, List.set_cons_succ])
      have HP4 := Lib.hid (HPl.out.drewN (n4 + n5))
      have HO4 : Hid ((W3.drewN (n4 + n5)).ownsRow g 31 1 u9 k (f32s ys)) := owns_stay HO3.out fun _ _ => rfl
      have HBX4 : Hid ((W3.drewN (n4 + n5)).heap[sb]? = some (.cells #[.int .i64 c.s.1, .int .i64 c.s.2.1, .float .f32 c.s.2.2.1, .float .f32 c.s.2.2.2, .slice c.B c.bs.length c.cb, .slice c.E c.ne c.ce] 44 (0, 0))) := HBX3.out
      have HG4 : Hid (g ≤ (W3.drewN (n4 + n5)).heap.size) := HG3.out
      clear hHeld HPl HO3 HBX3 HRd HP1 HG3
      generalize W3.drewN (n4 + n5) = W4 at *
      have N5 := Lib.hid (heap_alloc_new W4 (.cells #[.float .f32 s5] 31))
      have HP5 := Lib.hid (HP4.out.alloc (.cells #[.float .f32 s5] 31))
      have HO5 := Lib.hid (HO4.out.alloc (.cells #[.float .f32 s5] 31))
      have HBX5 := Lib.hid ((Below.heap_alloc W4 (.cells #[.float .f32 s5] 31) sb (lt_of_some HBX4.out)).trans HBX4.out)
      have hg5 : g ≤ (W4.alloc (.cells #[.float .f32 s5] 31)).heap.size := by have := HG4.out; simp; omega
      clear HP4 HO4 HBX4 HG4
      obtain ⟨i0, hi0, hz0, hz1, hz2⟩ := info_parts f32_info
      go_wp2_with (at_builtin; refine wpList_append_lies _ rfl (.tmp 29) (.tmp 31) 28 rfl g 31 i0 _ 1 4 Try.underlying28 hi0 hz0 hz1 hz2 rfl (by omega) u9 k (f32s ys) (by rfl) HO5.out ⟨W4.heap.size, 0, none⟩ 1 1 [.float .f32 s5] (by rfl) (by rfl) (World.news_of_block (t := 31) (fr := (0, 0)) N5.out) (by simp [Value.oneCell']) (by omega) (by simp only [maxLen]; omega) (by omega) hg5 _ rfl ?_; intro gg cap W6 hown6 hgrow6 hat6 hlt6)
      have HT6 : Hid (TIn W W6 P c sb g (k + 1) g5 (.slice (some ⟨gg, 0, none⟩) (k + 1) cap) (ys ++ [s5]) vV3 vT3 ms3 b3) := by
        have hs1 : nrm .f32 tt = nrm .f32 (sumP (bmOf c.bs) c.s.2.1 c.L k) := by
          rw [HTT.out, HSum.out]; exact (totalW_nrm _).symm
        have hs2 : nrm .f32 E' = nrm .f32 (envP (bmOf c.bs) c.s.2.1 c.L c.s.2.2.2 k) := by rw [envP_nrm]; exact HT.out.env.1
        refine ⟨?_, ?_, ?_, ⟨?_, HL5.out.2.2.2⟩, by simpa [f32s] using hown6, HT.out.out.snoc ?_ HL5.out.2.2.1, ?_, HT.out.g0, by have := hgrow6.size; omega⟩
        · rw [HNx.out]
          exact HP5.out.appended HO5.out HT.out.g0 (fun b hb => hb) hgrow6 hat6 hlt6
        · rw [HNx.out]
        · rw [HNx.out]
        · rw [HL5.out.2.1]
          show _ = nrm .f32 (limE (envP _ _ _ _ _) (sumP _ _ _ _) _)
          rw [nrm_limE, limE_congr hs2, limE_x hs1]
        · rw [HL5.out.1]
          show _ = limS (envP _ _ _ _ _) (sumP _ _ _ _) _ _
          rw [limS_congr hs2, limS_x hs1]
        · exact (hgrow6.block sb (lt_of_some HBX5.out) (fun q => by
            obtain ⟨cs, hc⟩ := owns_ty HO5.out q.symm
            exact ty_ne HBX5.out hc (by decide) rfl)).trans HBX5.out
      clear hown6 hgrow6 hat6 hlt6 HP5 HO5 HBX5 N5 HT HL5 HNx HSum HTT HTW HQ
      go_wp2_with fail
      go_roundw
      case rel => exact ⟨k + 1, g5, ys ++ [s5], _, _, ms3, b3, by go_num, by omega, rfl, HT6⟩
      case measure => simp [intOf]; omega
    · obtain rfl : k = n := by omega
      obtain ⟨A4, ca4, hv4⟩ := owns_form HT.out.own
      subst hv4
      go_wp2_with fail
      go_ret3
      have hc := HC.out
      subst hc
      have hsb := HSB.out
      subst hsb
      refine ⟨W, P, _, E', A4, ca4, ys, vV, vT, ms, b, rfl, ⟨rfl, rfl, rfl, rfl, rfl, rfl, rfl, rfl⟩, HBel.out, HT.out.pl, HT.out.vs, HT.out.bg, HT.out.env, owns_lower HT.out.own (Nat.le_trans HBel.out.size HT.out.g0), HT.out.out⟩
end Go.Proofs.Ytndnfhhdflmfcaa

/-
impl.RenderScore, impl.CountEvents.
-/
namespace Go.Proofs.Ytndnfhhdflmfcaa
open Go Go.RowKit Ieee

theorem ScPlay.ask {s : Sh} {bs : List Bd} {evs : List Ev} (h : ScPlay s bs evs) : ScAsk s bs evs :=
  ⟨h.sh, ⟨by have := h.bods.1; omega, fun i hi => ⟨(h.bods.2 i hi).1, by have := (h.bods.2 i hi).2; omega⟩⟩, ⟨by have := h.evs.1; omega, h.evs.2⟩⟩
/-- What RenderScore returns. -/
def RendP (w : World) (s : Sh) (bs : List Bd) (evs : List Ev) (n : Nat) (r : Ending) (w' : World) : Prop :=
  ∃ (A : Option Addr) (ca : Nat) (ys : List Nat), r = .returned (.tuple #[.slice A n ca, .bool true]) ∧ w'.ownsRow w.heap.size 31 1 (.slice A n ca) n (f32s ys) ∧ StrOk (bmOf bs) s.2.1 (sortedE evs) s.2.2.1 s.2.2.2 n ys ∧ Below w.heap.size w w'
set_option maxRecDepth 100000 in
set_option maxHeartbeats 1600000 in
theorem renderScore_any (s : Sh) (B : Option Addr) (cb : Nat) (bs : List Bd) (E : Option Addr) (ce lo hi n : Nat) (evs : List Ev) (w : World) (h : ScIn w lo hi B cb bs E ce evs) (hok : ScPlay s bs evs) (hat : AtAll n s bs evs) (hn : s.1 = (n : Int)) :
    Calls Try.prog 19 #[.agg #[.int .i64 s.1, .int .i64 s.2.1, .float .f32 s.2.2.1, .float .f32 s.2.2.2, .slice B bs.length cb, .slice E evs.length ce]] w (RendP w s bs evs n) := by
  have hn2 := hok.sh.l1
  have HOK := Lib.hid hok
  have HAT := Lib.hid hat
  have HB : Hid (Below w.heap.size w (w.alloc (.cells #[.int .i64 s.1, .int .i64 s.2.1, .float .f32 s.2.2.1, .float .f32 s.2.2.2, .slice B bs.length cb, .slice E evs.length ce] 44))) := (Below.refl w.heap.size w).alloc (Nat.le_refl _) _
  have HN := Lib.hid (heap_alloc_new w (.cells #[.int .i64 s.1, .int .i64 s.2.1, .float .f32 s.2.2.1, .float .f32 s.2.2.2, .slice B bs.length cb, .slice E evs.length ce] 44))
  have HI := Lib.hid (h.below HB.out)
  clear h hok hat
  obtain ⟨len, vo, c, r⟩ := s
  simp only at hn hn2
  subst hn
  go_enter Try.func19, Try.ntmps19
  have cc := sc_cells HN.out
  obtain ⟨c0, c1, c2, c3, c4, c5⟩ := cc
  go_wp2_with fail
  clear c0 c1 c2 c3 c4 c5
  generalize w.alloc (.cells #[.int .i64 (n : Int), .int .i64 vo, .float .f32 c, .float .f32 r, .slice B bs.length cb, .slice E evs.length ce] 44) = W at *
  refine (isScore_any ((n : Int), vo, c, r) B cb bs E ce lo hi evs W HI.out HOK.out.ask).mono ?_
  rintro rr W2 ⟨rfl, hb⟩
  have HI2 := Lib.hid (HI.out.below hb)
  have HB2 := Lib.hid (HB.out.trans (hb.mono HB.out.size))
  have HN2 := Lib.hid ((hb.block _ (lt_of_some HN.out)).trans HN.out)
  clear hb HI HB HN
  obtain ⟨c0, c1, c2, c3, c4, c5⟩ := sc_cells HN2.out
  go_wp2_with fail
  refine (streamed_any ((n : Int), vo, c, r) B cb bs E ce lo hi n evs W2 HI2.out HOK.out HAT.out (by omega)).mono ?_
  rintro rr W3 ⟨Wx, P, c', ev, A, ca, ys, vV, vT, ms, b, rfl, hc, hbx, hpl, _, _, _, hown, hstr⟩
  have HO := Lib.hid (owns_lower hown HB2.out.size)
  have HS := Lib.hid hstr
  have HB3 : Hid (Below w.heap.size w W3) := (HB2.out.trans (hbx.mono HB2.out.size)).trans (hpl.bel.mono (Nat.le_trans HB2.out.size hbx.size))
  clear hc hbx hpl hown hstr c0 c1 c2 c3 c4 c5
  go_wp2_with fail
  go_ret2
  exact ⟨A, ca, ys, rfl, HO.out, HS.out, HB3.out⟩

/-- How many events happen from a on and ahead of b. -/
def cntE (a b : Int) (L : List Ev) : Nat := (L.filter fun e => decide (a ≤ e.1) && decide (e.1 < b)).length
theorem cntE_snoc (a b : Int) (L : List Ev) (e : Ev) : cntE a b (L ++ [e]) = cntE a b L + (if a ≤ e.1 ∧ e.1 < b then 1 else 0) := by
  unfold cntE
  rw [List.filter_append, List.length_append]
  by_cases h : a ≤ e.1 ∧ e.1 < b
  · rw [if_pos h, List.filter_cons_of_pos (by simp [h])]; rfl
  · rw [if_neg h, List.filter_cons_of_neg (by simp; omega)]; rfl
theorem cntE_le (a b : Int) (L : List Ev) : cntE a b L ≤ L.length := List.length_filter_le _ _
theorem takeE_succ {L : List Ev} {k : Nat} (h : k < L.length) : L.take (k + 1) = L.take k ++ [eAt L k] := by
  rw [List.take_succ_eq_append_getElem h]
  simp [eAt, List.getD, List.getElem?_eq_getElem h]
set_option maxRecDepth 100000 in
set_option maxHeartbeats 1600000 in
theorem countEvents_any (s : Sh) (B : Option Addr) (cb : Nat) (bs : List Bd) (E : Option Addr) (ce lo hi : Nat) (evs : List Ev) (a b : Int) (w : World) (h : ScIn w lo hi B cb bs E ce evs) (hok : ScAsk s bs evs) :
    Calls Try.prog 23 #[.agg #[.int .i64 s.1, .int .i64 s.2.1, .float .f32 s.2.2.1, .float .f32 s.2.2.2, .slice B bs.length cb, .slice E evs.length ce], .int .i64 a, .int .i64 b] w fun r w' => r = .returned (.int .i64 (cntE a b evs : Nat)) ∧ Below w.heap.size w w' := by
  have HOK := Lib.hid hok
  have hel := hok.evs.1
  have HB : Hid (Below w.heap.size w (w.alloc (.cells #[.int .i64 s.1, .int .i64 s.2.1, .float .f32 s.2.2.1, .float .f32 s.2.2.2, .slice B bs.length cb, .slice E evs.length ce] 44))) := (Below.refl w.heap.size w).alloc (Nat.le_refl _) _
  have HN := Lib.hid (heap_alloc_new w (.cells #[.int .i64 s.1, .int .i64 s.2.1, .float .f32 s.2.2.1, .float .f32 s.2.2.2, .slice B bs.length cb, .slice E evs.length ce] 44))
  have HI := Lib.hid (h.below HB.out)
  clear h hok
  go_enter Try.func23, Try.ntmps23
  obtain ⟨c0, c1, c2, c3, c4, c5⟩ := sc_cells HN.out
  go_wp2_with fail
  clear c0 c1 c2 c3 c4 c5
  generalize w.alloc (.cells #[.int .i64 s.1, .int .i64 s.2.1, .float .f32 s.2.2.1, .float .f32 s.2.2.2, .slice B bs.length cb, .slice E evs.length ce] 44) = W at *
  refine (isScore_any s B cb bs E ce lo hi evs W HI.out HOK.out).mono ?_
  rintro rr W2 ⟨rfl, hb⟩
  have HI2 := Lib.hid (HI.out.below hb)
  have HB2 := Lib.hid (HB.out.trans (hb.mono HB.out.size))
  have HN2 := Lib.hid ((hb.block _ (lt_of_some HN.out)).trans HN.out)
  clear hb HI HB HN
  obtain ⟨c0, c1, c2, c3, c4, c5⟩ := sc_cells HN2.out
  go_wp2_with fail
  clear c0 c1 c2 c3 c4 c5
  go_loopw [7, 16] (fun v i wr => ∃ k : Nat, i = .int .i64 (k : Int) ∧ k ≤ evs.length ∧ v = .int .i64 (cntE a b (evs.take k) : Nat) ∧ Hid (Below W2.heap.size W2 wr)) (fun _ i _ => evs.length - (intOf i).toNat)
  case atStart => exact ⟨0, rfl, by omega, rfl, Below.refl _ _⟩
  case round =>
    obtain ⟨k, rfl, hk, rfl, HBr⟩ := hrel
    by_cases hlt : k < evs.length
    · obtain ⟨b0, rfl, _, _, hbl, hlc, _, hcell⟩ := (HI2.out.below HBr.out).evs.cells (by omega)
      obtain ⟨e0, e1, e2, e3, e4, e5⟩ := hcell k hlt
      have HA : Hid (Below W2.heap.size W2 (wr.alloc (.cells #[.int .i64 (eAt evs k).1, .int .i64 (eAt evs k).2.1, .int .i64 (eAt evs k).2.2.1, .int .i64 (eAt evs k).2.2.2.1, .int .i64 (eAt evs k).2.2.2.2.1, .float .f32 (eAt evs k).2.2.2.2.2] 48))) := HBr.out.alloc HBr.out.size _
      have HC : Hid (cntE a b (evs.take (k + 1)) = cntE a b (evs.take k) + (if a ≤ (eAt evs k).1 ∧ (eAt evs k).1 < b then 1 else 0)) := Lib.hid (by rw [takeE_succ hlt, cntE_snoc])
      have hcb : cntE a b (evs.take k) ≤ 60 := Nat.le_trans (cntE_le _ _ _) (by simp; omega)
      clear hcell
      generalize cntE a b (evs.take k) = m at *
      generalize eAt evs k = v at *
      by_cases h1 : a ≤ v.1
      · by_cases h2 : v.1 < b
        · have HC2 : Hid (cntE a b (evs.take (k + 1)) = m + 1) := Lib.hid (by rw [HC.out, if_pos ⟨h1, h2⟩])
          clear HC
          go_wp2_with fail
          go_roundw
          case rel => exact ⟨k + 1, by go_num, by omega, by rw [HC2.out]; go_num, HA⟩
          case measure => simp [intOf]; omega
        · have HC2 : Hid (cntE a b (evs.take (k + 1)) = m) := Lib.hid (by rw [HC.out, if_neg (fun q => h2 q.2)]; rfl)
          clear HC
          go_wp2_with fail
          go_roundw
          case rel => exact ⟨k + 1, by go_num, by omega, by rw [HC2.out], HA⟩
          case measure => simp [intOf]; omega
      · have HC2 : Hid (cntE a b (evs.take (k + 1)) = m) := Lib.hid (by rw [HC.out, if_neg (fun q => h1 q.1)]; rfl)
        clear HC
        go_wp2_with fail
        go_roundw
        case rel => exact ⟨k + 1, by go_num, by omega, by rw [HC2.out], HA⟩
        case measure => simp [intOf]; omega
    · obtain rfl : k = evs.length := by omega
      rw [List.take_length]
      have HBe : Hid (Below w.heap.size w wr) := HB2.out.trans (HBr.out.mono HB2.out.size)
      go_wp2_with fail
      go_ret
      exact ⟨rfl, HBe.out⟩
end Go.Proofs.Ytndnfhhdflmfcaa

/-
The tracks of a player's voices; rows of numbers, one for each track.
-/
namespace Go.Proofs.Ytndnfhhdflmfcaa
open Go Go.RowKit Ieee

/-- The tracks of the voices have begun. -/
def TrOk (p : Pl) : Prop := 0 ≤ p.begun ∧ ∀ v ∈ p.vs, 0 ≤ v.tr ∧ v.tr < p.begun
theorem Pl.happen_tr {bm : Int → List MW} {most : Int} {p : Pl} {e : Ev} (h : TrOk p) : TrOk (p.happen bm most e) := by
  unfold Pl.happen
  split
  · refine ⟨by have := h.1; show 0 ≤ p.begun + 1; omega, fun v hv => ?_⟩
    show 0 ≤ v.tr ∧ v.tr < p.begun + 1
    rcases List.mem_append.1 hv with hv | hv
    · have hv' : v ∈ p.vs := by
        split at hv
        · exact List.mem_of_mem_drop hv
        · exact hv
      have := h.2 v hv'
      omega
    · rw [List.mem_singleton.1 hv]
      have := h.1
      show 0 ≤ p.begun ∧ p.begun < p.begun + 1
      omega
  · split
    · refine ⟨h.1, fun v hv => ?_⟩
      obtain ⟨u, hu, rfl⟩ := List.mem_map.1 hv
      have := h.2 u hu
      split <;> exact this
    · exact ⟨h.1, fun v hv => h.2 v (List.mem_filter.1 hv).1⟩
theorem arriveP_tr {bm : Int → List MW} {most now : Int} {l : List Ev} {p : Pl} (h : TrOk p) : TrOk (arriveP bm most now l p).2 := by
  induction l generalizing p with
  | nil => exact h
  | cons e l ih =>
    unfold arriveP
    split
    · exact ih (Pl.happen_tr h)
    · exact h
theorem nextP_tr {bm : Int → List MW} {most : Int} {L : List Ev} {now : Nat} {q : Nat × Pl} (h : TrOk q.2) : TrOk (nextP bm most L now q).2 := by
  have h1 := arriveP_tr (bm := bm) (most := most) (now := now) (l := L.drop q.1) h
  refine ⟨h1.1, fun v hv => ?_⟩
  obtain ⟨u, hu, rfl⟩ := List.mem_map.1 hv
  exact h1.2 u hu
theorem plAt_tr (bm : Int → List MW) (most : Int) (L : List Ev) (n : Nat) : TrOk (plAt bm most L n).2 := by
  induction n with
  | zero => exact ⟨by simp [plAt], fun v hv => by simp [plAt] at hv⟩
  | succ n ih => exact nextP_tr ih
theorem arriveP_begun {bm : Int → List MW} {most now : Int} {l : List Ev} {p : Pl} : p.begun ≤ (arriveP bm most now l p).2.begun := by
  induction l generalizing p with
  | nil => exact Int.le_refl _
  | cons e l ih =>
    unfold arriveP
    split
    · refine Int.le_trans ?_ (ih (p := p.happen bm most e))
      unfold Pl.happen
      split
      · show p.begun ≤ p.begun + 1; omega
      · split <;> exact Int.le_refl _
    · exact Int.le_refl _
/-- A track sounds in a sample. -/
def Snd (bm : Int → List MW) (most : Int) (L : List Ev) (t : Nat) (j : Int) : Prop := ∃ x ∈ soundP bm most L t (plAt bm most L t), x.tr = j

/-- Where a track's numbers lie, and what they are. -/
abbrev Trk := Nat × (Nat → Nat)
def trkV (n : Nat) (r : Trk) : Value := .slice (some ⟨r.1, 0, none⟩) n n
/-- The rows of the tracks. -/
structure RowsIn (w : World) (g : Nat) (v : Value) (rs : List Trk) (n : Nat) : Prop where
  own : w.ownsRow g 28 1 v rs.length (rs.map (trkV n))
  row : ∀ r ∈ rs, w.rowIs r.1 31 n (fun i => .float .f32 (r.2 i)) ∧ g ≤ r.1
  apart : (rs.map fun r => r.1).Nodup
theorem RowsIn.keepT {w w' : World} {g n : Nat} {v : Value} {rs : List Trk} (h : RowsIn w g v rs n) (hk : ∀ (j : Nat) (cs : Array Value) (t : TypeId) (f : Nat × Nat), w.heap[j]? = some (.cells cs t f) → (t = 28 ∨ t = 31) → w'.heap[j]? = w.heap[j]?) : RowsIn w' g v rs n :=
  ⟨owns_stay h.own fun k e => by
    obtain ⟨cs, hc⟩ := owns_ty h.own e
    exact hk _ _ _ _ hc (.inl rfl), fun r hr => ⟨(h.row r hr).1.of_block (by
    obtain ⟨cs, hc⟩ := rowIs_ty (h.row r hr).1
    exact hk _ _ _ _ hc (.inr rfl)), (h.row r hr).2⟩, h.apart⟩
theorem RowsIn.new {w w' : World} {g n : Nat} {v : Value} {rs : List Trk} (h : RowsIn w g v rs n) (hb : Below w.heap.size w w') : RowsIn w' g v rs n := h.keepT fun _ _ _ _ hj _ => hb.block _ (lt_of_some hj)
theorem RowsIn.kept {w w' : World} {g n : Nat} {v : Value} {rs : List Trk} (h : RowsIn w g v rs n) (hk : Kept w w') : RowsIn w' g v rs n := h.keepT fun j cs t f hj ht => (hk.2 j cs t f hj (by
  rcases ht with rfl | rfl <;> (unfold PT; decide))).trans hj.symm
/-- A track is added: its row is made, then the row of rows grows. -/
theorem RowsIn.app {w w1 w' : World} {g n gg cap : Nat} {v : Value} {rs : List Trk} {r : Trk} (h : RowsIn w g v rs n) (hg : g ≤ w.heap.size) (hb : Below w.heap.size w w1) (hr : w1.rowIs r.1 31 n (fun i => .float .f32 (r.2 i))) (hr0 : w.heap.size ≤ r.1)
    (hown : w'.ownsRow g 28 1 (.slice (some ⟨gg, 0, none⟩) (rs.length + 1) cap) (rs.length + 1) (rs.map (trkV n) ++ [trkV n r])) (hgr : w1.grownBy w' v.ownBlock) : RowsIn w' g (.slice (some ⟨gg, 0, none⟩) (rs.length + 1) cap) (rs ++ [r]) n := by
  have h1 := h.new hb
  have k : ∀ (j : Nat) (cs : Array Value) (f : Nat × Nat), w1.heap[j]? = some (.cells cs 31 f) → w'.heap[j]? = w1.heap[j]? := fun j cs f hj => hgr.block j (lt_of_some hj) (fun q => by
    obtain ⟨cs', hc⟩ := owns_ty h1.own q.symm
    exact ty_ne hj hc (by decide) rfl)
  refine ⟨by simpa using hown, fun x hx => ?_, ?_⟩
  · rcases List.mem_append.1 hx with hx | hx
    · obtain ⟨a, b⟩ := h1.row x hx
      refine ⟨a.of_block ?_, b⟩
      obtain ⟨cs, hc⟩ := rowIs_ty a
      exact k _ _ _ hc
    · rw [List.mem_singleton.1 hx]
      refine ⟨hr.of_block ?_, by omega⟩
      obtain ⟨cs, hc⟩ := rowIs_ty hr
      exact k _ _ _ hc
  · rw [List.map_append, List.nodup_append]
    refine ⟨h.apart, by simp, fun a ha b hb' => ?_⟩
    simp only [List.map_cons, List.map_nil, List.mem_singleton] at hb'
    subst hb'
    obtain ⟨x, hx, rfl⟩ := List.mem_map.1 ha
    have := (h.row x hx).1.lt
    omega
theorem nodup_ne {rs : List Trk} (h : (rs.map fun r => r.1).Nodup) {i j : Nat} {x y : Trk} (hx : rs[i]? = some x) (hy : rs[j]? = some y) (hne : i ≠ j) : x.1 ≠ y.1 := by
  intro e
  obtain ⟨hi, hxi⟩ := List.getElem?_eq_some_iff.1 hx
  obtain ⟨hj, hyj⟩ := List.getElem?_eq_some_iff.1 hy
  exact hne ((List.getElem?_inj (i := i) (j := j) (by simpa using hi) h).1 (by rw [List.getElem?_map, List.getElem?_map, hx, hy, Option.map_some, Option.map_some, e]))
/-- A number of a track is stored. -/
theorem RowsIn.put {w : World} {g n j t y : Nat} {v : Value} {rs : List Trk} {r : Trk} (h : RowsIn w g v rs n) (hr : rs[j]? = some r) : RowsIn (w.setCell ⟨r.1, t, none⟩ (.float .f32 y)) g v (rs.set j (r.1, fun i => if i = t then y else r.2 i)) n := by
  have hj : j < rs.length := by
    rcases Nat.lt_or_ge j rs.length with q | q
    · exact q
    · rw [List.getElem?_eq_none q] at hr; cases hr
  obtain ⟨a, b⟩ := h.row r (List.mem_of_getElem? hr)
  obtain ⟨cs, hc⟩ := rowIs_ty a
  have em : ∀ {β : Type} (f : Trk → β), (∀ F, f (r.1, F) = f r) → (rs.set j (r.1, fun i => if i = t then y else r.2 i)).map f = rs.map f := fun f hf => by
    refine List.ext_getElem? fun k => ?_
    rw [List.getElem?_map, List.getElem?_map, List.getElem?_set]
    by_cases e : j = k
    · subst e
      rw [if_pos rfl, if_pos hj, hr, Option.map_some, Option.map_some, hf]
    · rw [if_neg e]
  refine ⟨?_, fun x hx => ?_, ?_⟩
  · rw [em _ (fun F => rfl), List.length_set]
    exact owns_stay h.own fun k e => by
      obtain ⟨cs', hc'⟩ := owns_ty h.own e
      exact Below.heap_setCell _ _ _ _ (ty_ne hc' hc (by decide))
  · obtain ⟨k, hk⟩ := List.getElem?_of_mem hx
    rw [List.getElem?_set] at hk
    by_cases e : j = k
    · subst e
      rw [if_pos rfl, if_pos hj] at hk
      injection hk with hk
      subst hk
      refine ⟨(a.set t (.float .f32 y)).congr fun i _ => ?_, b⟩
      show (if i = t then _ else _) = Value.float .f32 (if i = t then y else r.2 i)
      split <;> rfl
    · rw [if_neg e] at hk
      obtain ⟨a', b'⟩ := h.row x (List.mem_of_getElem? hk)
      exact ⟨a'.setOther (nodup_ne h.apart hk hr (fun q => e q.symm)) _, b'⟩
  · rw [em _ (fun F => rfl)]
    exact h.apart
/-- What the tracks hold after k samples. -/
def RowsOk (bm : Int → List MW) (most : Int) (L : List Ev) (k n : Nat) (rs : List Trk) : Prop := ∀ (j : Nat) (r : Trk), rs[j]? = some r → ∀ t, t < n → (k ≤ t ∨ ¬ Snd bm most L t j) → r.2 t = 0
section
variable {bm : Int → List MW} {most : Int} {L : List Ev} {k n : Nat} {rs : List Trk}
theorem RowsOk.succ (h : RowsOk bm most L k n rs) : RowsOk bm most L (k + 1) n rs := fun j r hr t ht hc => h j r hr t ht (by
  rcases hc with hc | hc
  · exact .inl (by omega)
  · exact .inr hc)
theorem RowsOk.snoc (h : RowsOk bm most L k n rs) (b : Nat) : RowsOk bm most L k n (rs ++ [(b, fun _ => 0)]) := fun j r hr t ht hc => by
  rcases Nat.lt_or_ge j rs.length with q | q
  · rw [List.getElem?_append_left q] at hr
    exact h j r hr t ht hc
  · rw [List.getElem?_append_right q] at hr
    have hm := List.mem_of_getElem? hr
    rw [List.mem_singleton] at hm
    subst hm
    rfl
theorem RowsOk.put {j y : Nat} {r : Trk} (h : RowsOk bm most L (k + 1) n rs) (hs : Snd bm most L k j) (hr : rs[j]? = some r) : RowsOk bm most L (k + 1) n (rs.set j (r.1, fun i => if i = k then y else r.2 i)) := fun i x hx t ht hc => by
  rw [List.getElem?_set] at hx
  by_cases e : j = i
  · subst e
    rw [if_pos rfl] at hx
    split at hx
    · injection hx with hx
      subst hx
      show (if t = k then y else r.2 t) = 0
      have hne : t ≠ k := fun q => by
        subst q
        rcases hc with hc | hc
        · omega
        · exact hc hs
      rw [if_neg hne]
      exact h j r hr t ht hc
    · cases hx
  · rw [if_neg e] at hx
    exact h i x hx t ht hc
end
theorem run_makeF (W : World) (d : Nat) (hd : d ≤ 2000) : (Instr.makeSlice 28 (.int .i64 d) (.int .i64 d)).run Try.prog W = .ok (.slice (some ⟨W.heap.size, 0, none⟩) d d) (W.alloc (.cells (madeCells #[.float .f32 0] d) 31)) := by
  obtain ⟨i0, hi0, hz0, hz1, hz2'⟩ := info_parts f32_info
  have hm := run_makeSlice W 28 31 i0 (.float .f32 0) Try.underlying28 hi0 hz0 .i64 .i64 d d (by omega) (by omega) (by rw [hz1]; simp; omega) (by rw [hz2']; omega) (by omega)
  rw [hz1] at hm
  simp only [Int.toNat_natCast, Nat.mul_one] at hm
  exact hm
end Go.Proofs.Ytndnfhhdflmfcaa

/-
impl.copyScore.
-/
namespace Go.Proofs.Ytndnfhhdflmfcaa
open Go Go.RowKit Ieee

/-- The cells of a score. -/
def scC (s : Sh) (B : Option Addr) (cb : Nat) (bs : List Bd) (E : Option Addr) (ce n : Nat) : Array Value := #[.int .i64 s.1, .int .i64 s.2.1, .float .f32 s.2.2.1, .float .f32 s.2.2.2, .slice B bs.length cb, .slice E n ce]
/-- The modes of bodies. -/
def modesB (bs : List Bd) : List (List MW) := bs.map fun b => b.2.2
theorem modesB_at {bs : List Bd} {i : Nat} (h : i < bs.length) : (modesB bs)[i]? = some (bodAt bs i).2.2 := by
  simp [modesB, bodAt, List.getD, List.getElem?_eq_getElem h]
theorem modesB_take {bs : List Bd} {k : Nat} (h : k < bs.length) : (modesB bs).take (k + 1) = (modesB bs).take k ++ [(bodAt bs k).2.2] := by
  have hk : k < (modesB bs).length := by simpa [modesB] using h
  rw [List.take_succ_eq_append_getElem hk]
  have := modesB_at h
  rw [List.getElem?_eq_getElem hk] at this
  injection this with this
  rw [this]
theorem modesB_len {bs bs' : List Bd} (h : modesB bs' = modesB bs) : bs'.length = bs.length := by
  have := congrArg List.length h
  simpa [modesB] using this
theorem BodsOk.modes {bs bs' : List Bd} {m n : Nat} (h : BodsOk bs m n) (e : modesB bs' = modesB bs) : BodsOk bs' m n := by
  have hl := modesB_len e
  refine ⟨by rw [hl]; exact h.1, fun i hi => ?_⟩
  have hi' : i < bs.length := by omega
  have h1 := modesB_at hi
  have h2 := modesB_at hi'
  rw [e, h2] at h1
  injection h1 with h1
  rw [← h1]
  exact h.2 i hi'
/-- Where the walk of copyScore is. -/
structure CIn (w wr : World) (X : Array Value) (k : Nat) (v : Value) (bs bs1 : List Bd) : Prop where
  bel : Below w.heap.size w wr
  box : wr.heap[w.heap.size]? = some (.cells X 44 (0, 0))
  res : wr.heap[w.heap.size + 1]? = some (.cells #[.int .i64 0, .int .i64 0, .float .f32 0, .float .f32 0, .slice none 0 0, .slice none 0 0] 44 (0, 0))
  own : BodsOwn wr (w.heap.size + 2) wr.heap.size v bs1
  len : bs1.length = k
  eq : modesB bs1 = (modesB bs).take k
theorem CIn.new {w wr w' : World} {X : Array Value} {k : Nat} {v : Value} {bs bs1 : List Bd} (h : CIn w wr X k v bs bs1) (hb : Below wr.heap.size wr w') : CIn w w' X k v bs bs1 :=
  ⟨h.bel.trans (hb.mono h.bel.size), (hb.block _ (lt_of_some h.box)).trans h.box, (hb.block _ (lt_of_some h.res)).trans h.res, (h.own.keep fun j _ hj => hb.block j hj).raise hb.size, h.len, h.eq⟩
/-- What copyScore returns. -/
def CopyP (s : Sh) (bs : List Bd) (evs : List Ev) (w : World) (r : Ending) (w' : World) : Prop :=
  ∃ (B' : Option Addr) (cb' : Nat) (bs' : List Bd) (E' : Option Addr) (ce' : Nat), r = .returned (scV s B' cb' bs' E' ce' evs) ∧ ScIn w' w.heap.size w'.heap.size B' cb' bs' E' ce' evs ∧ modesB bs' = modesB bs ∧ Below w.heap.size w w'
set_option maxRecDepth 100000 in
set_option maxHeartbeats 1600000 in
theorem copyScore_any (s : Sh) (B : Option Addr) (cb : Nat) (bs : List Bd) (E : Option Addr) (ce lo hi : Nat) (evs : List Ev) (w : World) (h : ScIn w lo hi B cb bs E ce evs) (hbo : BodsOk bs 16 8) (hl : evs.length ≤ 60) :
    Calls Try.prog 49 #[.agg #[.int .i64 s.1, .int .i64 s.2.1, .float .f32 s.2.2.1, .float .f32 s.2.2.2, .slice B bs.length cb, .slice E evs.length ce]] w (CopyP s bs evs w) := by
  obtain ⟨len, vo, c, r⟩ := s
  have HK := Lib.hid hbo
  have hbl := hbo.1
  have HH := Lib.hid h.hh
  have HE := Lib.hid h.evs
  have HBI := Lib.hid h.bodsIn
  have HC0 : Hid (CIn w (((w.alloc (.cells #[.int .i64 len, .int .i64 vo, .float .f32 c, .float .f32 r, .slice B bs.length cb, .slice E evs.length ce] 44)).alloc (.cells #[.int .i64 0, .int .i64 0, .float .f32 0, .float .f32 0, .slice none 0 0, .slice none 0 0] 44)).alloc (.cells #[] 62))
      #[.int .i64 len, .int .i64 vo, .float .f32 c, .float .f32 r, .slice B bs.length cb, .slice E evs.length ce] 0 (.slice (some ⟨w.heap.size + 2, 0, none⟩) 0 0) bs []) := by
    have b1 : Below w.heap.size w (w.alloc (.cells #[.int .i64 len, .int .i64 vo, .float .f32 c, .float .f32 r, .slice B bs.length cb, .slice E evs.length ce] 44)) := (Below.refl w.heap.size w).alloc (Nat.le_refl _) _
    have n1 := heap_alloc_new w (.cells #[.int .i64 len, .int .i64 vo, .float .f32 c, .float .f32 r, .slice B bs.length cb, .slice E evs.length ce] 44)
    generalize hW1 : w.alloc (.cells #[.int .i64 len, .int .i64 vo, .float .f32 c, .float .f32 r, .slice B bs.length cb, .slice E evs.length ce] 44) = W1 at *
    have s1 : W1.heap.size = w.heap.size + 1 := by rw [← hW1]; simp
    have b2 : Below W1.heap.size W1 (W1.alloc (.cells #[.int .i64 0, .int .i64 0, .float .f32 0, .float .f32 0, .slice none 0 0, .slice none 0 0] 44)) := (Below.refl W1.heap.size W1).alloc (Nat.le_refl _) _
    have n2 := heap_alloc_new W1 (.cells #[.int .i64 0, .int .i64 0, .float .f32 0, .float .f32 0, .slice none 0 0, .slice none 0 0] 44)
    generalize hW2 : W1.alloc (.cells #[.int .i64 0, .int .i64 0, .float .f32 0, .float .f32 0, .slice none 0 0, .slice none 0 0] 44) = W2 at *
    have s2 : W2.heap.size = w.heap.size + 2 := by rw [← hW2]; simp [s1]
    have b3 : Below W2.heap.size W2 (W2.alloc (.cells #[] 62)) := (Below.refl W2.heap.size W2).alloc (Nat.le_refl _) _
    have o3 := owns_empty W2 62
    rw [s2] at o3
    rw [s1] at n2
    refine ⟨(b1.trans (b2.mono (by omega))).trans (b3.mono (by omega)), (b3.block _ (by omega)).trans ((b2.block _ (by omega)).trans n1), (b3.block _ (by omega)).trans n2, ⟨?_, fun k hk => ?_, fun i hi => absurd hi (Nat.not_lt_zero _)⟩, rfl, rfl⟩
    · exact ⟨rfl, .inr ⟨w.heap.size + 2, 0, #[], rfl, Nat.le_refl _, by rw [← s2]; exact heap_alloc_new W2 _, Nat.le_refl _, by simp [maxLen], rfl, rfl⟩⟩
    · injection hk with hk
      subst hk
      simp; omega
  clear h hbo
  go_enter Try.func49, Try.ntmps49
  have cb4 := cell_of_row _ w.heap.size 4 _ _ (0, 0) HC0.out.box
  go_wp2_with fail
  clear cb4
  generalize ((w.alloc (.cells #[.int .i64 len, .int .i64 vo, .float .f32 c, .float .f32 r, .slice B bs.length cb, .slice E evs.length ce] 44)).alloc (.cells #[.int .i64 0, .int .i64 0, .float .f32 0, .float .f32 0, .slice none 0 0, .slice none 0 0] 44)).alloc (.cells #[] 62) = Wa at *
  go_loopw [3, 10] (fun v i wr => ∃ (k : Nat) (bs1 : List Bd), i = .int .i64 (k : Int) ∧ k ≤ bs.length ∧ Hid (CIn w wr #[.int .i64 len, .int .i64 vo, .float .f32 c, .float .f32 r, .slice B bs.length cb, .slice E evs.length ce] k v bs bs1)) (fun _ i _ => bs.length - (intOf i).toNat)
  case atStart => exact ⟨0, [], rfl, by omega, HC0⟩
  case round =>
    clear HC0
    obtain ⟨k, bs1, rfl, hk, HC⟩ := hrel
    by_cases hlt : k < bs.length
    · have H1 := Lib.hid (HBI.out.below HC.out.bel)
      obtain ⟨b, off, rfl, hbb, hc⟩ := H1.out.rd (by simp; omega)
      have e1 := hc k (bodV (bodAt bs k)) (by simp [bodAt, List.getD, List.getElem?_eq_getElem hlt])
      have HM := Lib.hid (H1.out.row k hlt)
      have HT : Hid (modesB bs1 ++ [(bodAt bs k).2.2] = (modesB bs).take (k + 1)) := Lib.hid (by rw [HC.out.eq, modesB_take hlt])
      have HK1 := Lib.hid ((HK.out).2 k hlt)
      have hm16 : (bodAt bs k).2.2.length ≤ 16 := HK1.out.2
      have hhi := HH.out
      have hsz := HC.out.bel.size
      have HB1 : Hid (∀ x, Below wr.heap.size wr (wr.alloc x)) := Lib.hid (fun x => (Below.refl wr.heap.size wr).alloc (Nat.le_refl _) x)
      clear hc H1
      unfold bodV at e1
      generalize bodAt bs k = m at *
      go_wp2_with fail
      have HC1 := Lib.hid (HC.out.new (HB1.out (.cells #[.slice m.1 m.2.2.length m.2.1] 62)))
      have HM1 : Hid (OwnM (wr.alloc (.cells #[.slice m.1 m.2.2.length m.2.1] 62)) lo hi m.1 m.2.1 m.2.2) := Lib.hid (HM.out.below (HB1.out _) (by omega))
      generalize wr.alloc (.cells #[.slice m.1 m.2.2.length m.2.1] 62) = W1 at *
      refine (copyBody_any _ _ lo hi _ W1 HM1.out (by have := HC1.out.bel.size; omega) hm16).mono ?_
      rintro r W2 ⟨MA, mc, rfl, hO, hb⟩
      have HC2 := Lib.hid (HC1.out.new hb)
      have HO2 := Lib.hid hO
      have HZ2 : Hid (w.heap.size + 2 ≤ W1.heap.size) := Lib.hid (by have := lt_of_some HC1.out.res; omega)
      have N3 := Lib.hid (heap_alloc_new W2 (.cells #[.slice MA m.2.2.length mc] 62))
      have b3 : Below W2.heap.size W2 (W2.alloc (.cells #[.slice MA m.2.2.length mc] 62)) := (Below.refl _ _).alloc (Nat.le_refl _) _
      have HC3 := Lib.hid (HC2.out.new b3)
      have HO3 := Lib.hid (hO.below b3 (Nat.le_refl _))
      have hz3 : W2.heap.size < (W2.alloc (.cells #[.slice MA m.2.2.length mc] 62)).heap.size := by simp
      have hz2 := hb.size
      have HBo : Hid (BodsOwn (W2.alloc (.cells #[.slice MA m.2.2.length mc] 62)) (w.heap.size + 2) W1.heap.size u3 bs1) := HC1.out.own.keep fun j _ hj => (b3.block j (by omega)).trans (hb.block j hj)
      clear hO hb b3 HC2 HO2 HC1 HM1 HM HC HB1
      obtain ⟨i0, hi0, hz0, hz1, hz2'⟩ := info_parts body_info
      go_wp2_with (at_builtin; refine wpList_append_lies _ rfl (.tmp 14) (.tmp 17) 41 rfl (w.heap.size + 2) 62 i0 _ 1 24 Try.underlying41 hi0 hz0 hz1 hz2' rfl (by omega) u3 bs1.length (bs1.map bodV) (by rfl) HC3.out.own.own ⟨W2.heap.size, 0, none⟩ 1 1 [.slice MA m.2.2.length mc] (by rfl) (by rfl) (World.news_of_block (t := 62) (fr := (0, 0)) N3.out) (by simp [Value.oneCell']) (by omega) (by have := HC3.out.len; simp only [maxLen]; omega) (by have := HC3.out.len; omega) (by have := HZ2.out; omega) _ rfl ?_; intro gg cap W5 hown5 hgrow5 hat5 hlt5)
      have HC5 : Hid (CIn w W5 #[.int .i64 len, .int .i64 vo, .float .f32 c, .float .f32 r, .slice (some ⟨b, off, none⟩) bs.length cb, .slice E evs.length ce] (k + 1) (.slice (some ⟨gg, 0, none⟩) (bs1.length + 1) cap) bs (bs1 ++ [(MA, mc, m.2.2)])) := by
        have hb := HC3.out
        have hne : ∀ j, j < w.heap.size + 2 → W5.heap[j]? = (W2.alloc (.cells #[.slice MA m.2.2.length mc] 62)).heap[j]? := fun j hj => hgrow5.block j (by have := HZ2.out; omega) (fun q => by have := (hb.own.own.lt j q.symm).1; omega)
        refine ⟨hb.bel.grown hgrow5 (by have := HZ2.out; omega) (fun j q => by have := (hb.own.own.lt j q).1; omega), (hne _ (by omega)).trans hb.box, (hne _ (by omega)).trans hb.res, ?_, by simp [hb.len], by rw [← HT.out]; simp [modesB]⟩
        exact HBo.out.app (lo1 := W1.heap.size) HZ2.out (Nat.le_refl _) HO3.out.1 hown5 hgrow5 (by rcases hat5 with q | q; exact .inl q; exact .inr (by omega)) hlt5 (by omega)
      clear hown5 hgrow5 hat5 hlt5 HC3 HO3 HT HBo
      go_wp2_with fail
      go_roundw
      case rel => exact ⟨k + 1, _, by go_num, by omega, HC5⟩
      case measure => simp [intOf]; omega
    · obtain rfl : bs.length = k := by omega
      have hlen : bs1.length = bs.length := HC.out.len
      have HEQ : Hid (modesB bs1 = modesB bs) := by
        have := HC.out.eq
        rwa [show bs.length = (modesB bs).length by simp [modesB], List.take_length] at this
      obtain ⟨A1, c1, hv⟩ := owns_form HC.out.own.own
      subst hv
      have HE1 := Lib.hid (HE.out.below HC.out.bel HH.out)
      have c5 := cell_of_row _ w.heap.size 5 _ _ (0, 0) HC.out.box
      go_wp2_with fail
      have hhi := HH.out
      have hsz := HC.out.bel.size
      refine (cloneE_any E ce lo hi evs wr HE1.out hl).mono ?_
      rintro r' W2 ⟨E', ce', rfl, hO, hb⟩
      have HC2 := Lib.hid (HC.out.new hb)
      have HO2 := Lib.hid (owns_lower hO.1 (show w.heap.size + 2 ≤ wr.heap.size by have := lt_of_some HC.out.res; omega))
      clear hO hb HC c5
      have f4 := free_cells HC2.out.box 4
      have f5 := free_cells HC2.out.box 5
      have HX : Hid (((W2.setCell ⟨w.heap.size, 4, none⟩ (.slice A1 bs1.length c1)).setCell ⟨w.heap.size, 5, none⟩ (.slice E' evs.length ce')).heap[w.heap.size]? = some (.cells #[.int .i64 len, .int .i64 vo, .float .f32 c, .float .f32 r, .slice A1 bs1.length c1, .slice E' evs.length ce'] 44 (0, 0))) := by
        show _ = _
        simp [World.setCell, Array.getElem?_modify, HC2.out.box]
      have HK2 : Hid (∀ j, j ≠ w.heap.size → ((W2.setCell ⟨w.heap.size, 4, none⟩ (.slice A1 bs1.length c1)).setCell ⟨w.heap.size, 5, none⟩ (.slice E' evs.length ce')).heap[j]? = W2.heap[j]?) := fun j hj => (Below.heap_setCell _ _ _ _ hj).trans (Below.heap_setCell _ _ _ _ hj)
      have HZ3 : Hid (((W2.setCell ⟨w.heap.size, 4, none⟩ (.slice A1 bs1.length c1)).setCell ⟨w.heap.size, 5, none⟩ (.slice E' evs.length ce')).heap.size = W2.heap.size) := by show _ = _; simp
      have HB3 : Hid (Below w.heap.size w ((W2.setCell ⟨w.heap.size, 4, none⟩ (.slice A1 bs1.length c1)).setCell ⟨w.heap.size, 5, none⟩ (.slice E' evs.length ce'))) := (HC2.out.bel.setCell (Nat.le_refl _) _).setCell (Nat.le_refl _) _
      obtain ⟨c0, c1', c2, c3, c4, c5⟩ := sc_cells HX.out
      have HR : Hid (((W2.setCell ⟨w.heap.size, 4, none⟩ (.slice A1 bs1.length c1)).setCell ⟨w.heap.size, 5, none⟩ (.slice E' evs.length ce')).heap[w.heap.size + 1]? = some (.cells #[.int .i64 0, .int .i64 0, .float .f32 0, .float .f32 0, .slice none 0 0, .slice none 0 0] 44 (0, 0))) := (HK2.out _ (by omega)).trans HC2.out.res
      obtain ⟨d0, d1, d2, d3, d4, d5⟩ := sc_cells HR.out
      obtain ⟨g0, g1, g2, g3, g4, g5⟩ := sc_free HR.out
      obtain ⟨a0, a1, a2, a3, a4, a5⟩ := sc_cells HC2.out.box
      obtain ⟨b0, b1, b2, b3, b4, b5⟩ := sc_cells HC2.out.res
      obtain ⟨e0, e1, e2, e3, e4, e5⟩ := sc_free HC2.out.res
      go_wp2_with fail
      rw [← hlen]
      generalize (W2.setCell ⟨w.heap.size, 4, none⟩ (.slice A1 bs1.length c1)).setCell ⟨w.heap.size, 5, none⟩ (.slice E' evs.length ce') = W3 at *
      have hP6 : (((((((W3.setCell ⟨w.heap.size + 1, 0, none⟩ (.int .i64 len)).setCell ⟨w.heap.size + 1, 1, none⟩ (.int .i64 vo)).setCell ⟨w.heap.size + 1, 2, none⟩ (.float .f32 c)).setCell ⟨w.heap.size + 1, 3, none⟩ (.float .f32 r)).setCell ⟨w.heap.size + 1, 4, none⟩ (.slice A1 bs1.length c1)).setCell ⟨w.heap.size + 1, 5, none⟩ (.slice E' evs.length ce')).heap[w.heap.size + 1]? = some (.cells #[.int .i64 len, .int .i64 vo, .float .f32 c, .float .f32 r, .slice A1 bs1.length c1, .slice E' evs.length ce'] 44 (0, 0))) := by
        simp [World.setCell, Array.getElem?_modify, HR.out]
      have hPk : ∀ j, j ≠ w.heap.size + 1 → ((((((W3.setCell ⟨w.heap.size + 1, 0, none⟩ (.int .i64 len)).setCell ⟨w.heap.size + 1, 1, none⟩ (.int .i64 vo)).setCell ⟨w.heap.size + 1, 2, none⟩ (.float .f32 c)).setCell ⟨w.heap.size + 1, 3, none⟩ (.float .f32 r)).setCell ⟨w.heap.size + 1, 4, none⟩ (.slice A1 bs1.length c1)).setCell ⟨w.heap.size + 1, 5, none⟩ (.slice E' evs.length ce')).heap[j]? = W3.heap[j]? := fun j hj => put6_else hj _ _ _ _ _ _
      have hPb : Below w.heap.size w ((((((W3.setCell ⟨w.heap.size + 1, 0, none⟩ (.int .i64 len)).setCell ⟨w.heap.size + 1, 1, none⟩ (.int .i64 vo)).setCell ⟨w.heap.size + 1, 2, none⟩ (.float .f32 c)).setCell ⟨w.heap.size + 1, 3, none⟩ (.float .f32 r)).setCell ⟨w.heap.size + 1, 4, none⟩ (.slice A1 bs1.length c1)).setCell ⟨w.heap.size + 1, 5, none⟩ (.slice E' evs.length ce')) :=
        (((((HB3.out.setCell (Nat.le_succ _) _).setCell (Nat.le_succ _) _).setCell (Nat.le_succ _) _).setCell (Nat.le_succ _) _).setCell (Nat.le_succ _) _).setCell (Nat.le_succ _) _
      have hPz : ((((((W3.setCell ⟨w.heap.size + 1, 0, none⟩ (.int .i64 len)).setCell ⟨w.heap.size + 1, 1, none⟩ (.int .i64 vo)).setCell ⟨w.heap.size + 1, 2, none⟩ (.float .f32 c)).setCell ⟨w.heap.size + 1, 3, none⟩ (.float .f32 r)).setCell ⟨w.heap.size + 1, 4, none⟩ (.slice A1 bs1.length c1)).setCell ⟨w.heap.size + 1, 5, none⟩ (.slice E' evs.length ce')).heap.size = W3.heap.size := by simp
      refine bodyPost_ret (results_cell_row rfl _ _ (w.heap.size + 1) 44 #[.int .i64 len, .int .i64 vo, .float .f32 c, .float .f32 r, .slice A1 bs1.length c1, .slice E' evs.length ce'] (0, 0) _ rfl hP6 Try.underlying44 rfl (by kernel_rfl)) rfl ?_
      generalize (((((W3.setCell ⟨w.heap.size + 1, 0, none⟩ (.int .i64 len)).setCell ⟨w.heap.size + 1, 1, none⟩ (.int .i64 vo)).setCell ⟨w.heap.size + 1, 2, none⟩ (.float .f32 c)).setCell ⟨w.heap.size + 1, 3, none⟩ (.float .f32 r)).setCell ⟨w.heap.size + 1, 4, none⟩ (.slice A1 bs1.length c1)).setCell ⟨w.heap.size + 1, 5, none⟩ (.slice E' evs.length ce') = W4 at *
      have hk4 : ∀ j, w.heap.size + 2 ≤ j → j < W2.heap.size → W4.heap[j]? = W2.heap[j]? := fun j h1 _ => (hPk j (by omega)).trans (HK2.out j (by omega))
      have hz4 : W4.heap.size = W2.heap.size := hPz.trans HZ3.out
      refine ⟨A1, c1, bs1, E', ce', rfl, ⟨?_, ?_, Nat.le_refl _⟩, HEQ.out, hPb⟩
      · rw [hz4]
        exact (HC2.out.own.keep hk4).lower (by omega)
      · have := owns_lower (owns_stay HO2.out fun j e => hk4 j (HO2.out.lt j e).1 (HO2.out.lt j e).2) (show w.heap.size ≤ w.heap.size + 2 by omega)
        exact ⟨this, fun k e => (this.lt k e).2⟩
end Go.Proofs.Ytndnfhhdflmfcaa

/-
impl.ShiftScore, impl.CountEvents.
-/
namespace Go.Proofs.Ytndnfhhdflmfcaa
open Go Go.RowKit Ieee

/-- An event that happens later. -/
def shE (d : Nat) (e : Ev) : Ev := (e.1 + d, e.2)
/-- The first k events are shifted. -/
def shL (d k : Nat) (L : List Ev) : List Ev := (L.take k).map (shE d) ++ L.drop k
theorem shL_len (d k : Nat) (L : List Ev) : (shL d k L).length = L.length := by simp [shL]; omega
theorem shL_zero (d : Nat) (L : List Ev) : shL d 0 L = L := by simp [shL]
theorem shL_all (d : Nat) (L : List Ev) : shL d L.length L = L.map (shE d) := by simp [shL]
theorem shL_at {d k : Nat} {L : List Ev} (h : k < L.length) : eAt (shL d k L) k = eAt L k := by
  simp [shL, eAt, List.getD, List.getElem?_append, Nat.min_eq_left (Nat.le_of_lt h), h]
theorem shL_set {d k : Nat} {L : List Ev} (h : k < L.length) : (shL d k L).set k (shE d (eAt L k)) = shL d (k + 1) L := by
  have e : eAt L k = L[k] := by simp [eAt, List.getD, List.getElem?_eq_getElem h]
  have hd : L.drop k = L[k] :: L.drop (k + 1) := List.drop_eq_getElem_cons h
  have ht : L.take (k + 1) = L.take k ++ [L[k]] := List.take_succ_eq_append_getElem h
  have hl : ((L.take k).map (shE d)).length = k := by simp; omega
  unfold shL
  rw [e, hd, ht, List.set_append_right _ _ (by omega), hl, Nat.sub_self, List.set_cons_zero, List.map_append, List.append_assoc]
  rfl
theorem flatE_set0 {L : List Ev} {i d : Nat} (h : i < L.length) : flatE (L.set i (shE d (eAt L i))) = (flatE L).set (i * 6) (.int .i64 ((eAt L i).1 + d)) := by
  induction L generalizing i with
  | nil => simp at h
  | cons m L ih =>
    cases i with
    | zero => rfl
    | succ i =>
      have h2 := ih (i := i) (by simpa using h)
      have e1 : (i + 1) * 6 = i * 6 + 6 := by omega
      rw [e1]
      have e2 : eAt (m :: L) (i + 1) = eAt L i := rfl
      rw [e2]
      show evV m ++ flatE (L.set i _) = (evV m ++ flatE L).set (i * 6 + 6) _
      rw [h2, List.set_append_right _ _ (by simp [evV])]
      simp [evV]
theorem BodsOwn.keepT {w w' : World} {lo hi : Nat} {v : Value} {bs : List Bd} (h : BodsOwn w lo hi v bs) (hk : ∀ (j : Nat) (cs : Array Value) (t : TypeId) (f : Nat × Nat), w.heap[j]? = some (.cells cs t f) → t ≠ 48 → w'.heap[j]? = w.heap[j]?) : BodsOwn w' lo hi v bs :=
  ⟨owns_stay h.own fun k e => by
    obtain ⟨cs, hc⟩ := owns_ty h.own e
    exact hk _ _ _ _ hc (by decide), h.vlt, fun i hi' => ⟨owns_stay (h.row i hi').1 fun k e => by
    obtain ⟨cs, hc⟩ := owns_ty (h.row i hi').1 e
    exact hk _ _ _ _ hc (by decide), (h.row i hi').2⟩⟩
theorem OwnE.put0 {W : World} {lo hi g c i d : Nat} {L : List Ev} (h : OwnE W lo hi (some ⟨g, 0, none⟩) c L) (hi' : i < L.length) : OwnE (W.setCell ⟨g, i * 6, none⟩ (.int .i64 ((eAt L i).1 + d))) lo hi (some ⟨g, 0, none⟩) c (L.set i (shE d (eAt L i))) := by
  have hl : (L.set i (shE d (eAt L i))).length = L.length := by simp
  unfold OwnE
  rw [hl, flatE_set0 hi']
  exact ⟨owns_put h.1 (by omega) _, h.2⟩
/-- An event of a score is stored. -/
theorem ScIn.put0 {W : World} {lo hi g c i d cb : Nat} {B : Option Addr} {bs : List Bd} {L : List Ev} (h : ScIn W lo hi B cb bs (some ⟨g, 0, none⟩) c L) (hi' : i < L.length) : ScIn (W.setCell ⟨g, i * 6, none⟩ (.int .i64 ((eAt L i).1 + d))) lo hi B cb bs (some ⟨g, 0, none⟩) c (L.set i (shE d (eAt L i))) := by
  obtain ⟨cs, hc⟩ := owns_ty h.evs.1 (k := g) rfl
  refine ⟨h.bods.keepT fun j cs' t f hj ht => Below.heap_setCell _ _ _ _ (ty_ne hj hc ht), h.evs.put0 hi', by simpa using h.hh⟩
/-- Where the walk of ShiftScore is. -/
structure ShIn (w wr : World) (G : Nat) (s : Sh) (d k : Nat) (B : Option Addr) (cb : Nat) (bs : List Bd) (E : Option Addr) (ce : Nat) (evs : List Ev) : Prop where
  bel : Below w.heap.size w wr
  box : wr.heap[G]? = some (.cells #[.int .i64 (s.1 + d), .int .i64 s.2.1, .float .f32 s.2.2.1, .float .f32 s.2.2.2, .slice B bs.length cb, .slice E evs.length ce] 44 (0, 0))
  res : wr.heap[w.heap.size + 1]? = some (.cells #[.int .i64 0, .int .i64 0, .float .f32 0, .float .f32 0, .slice none 0 0, .slice none 0 0] 44 (0, 0))
  sc : ScIn wr (w.heap.size + 2) G B cb bs E ce (shL d k evs)
/-- What ShiftScore returns. -/
def ShiftP (s : Sh) (d : Nat) (bs : List Bd) (evs : List Ev) (w : World) (r : Ending) (w' : World) : Prop :=
  ∃ (B' : Option Addr) (cb' : Nat) (bs' : List Bd) (E' : Option Addr) (ce' : Nat), r = .returned (.tuple #[scV (s.1 + d, s.2) B' cb' bs' E' ce' (evs.map (shE d)), .bool true]) ∧ ScIn w' w.heap.size w'.heap.size B' cb' bs' E' ce' (evs.map (shE d)) ∧ modesB bs' = modesB bs ∧ Below w.heap.size w w'
theorem EvOk.shift {L nb : Int} {e : Ev} {d : Nat} (h : EvOk L nb e) : EvOk (L + d) nb (shE d e) := ⟨by have := h.a0; show 0 ≤ e.1 + d; omega, by have := h.a1; show e.1 + d ≤ L + d; omega, h.b0, h.b1, h.f, h.w, h.big, h.kind⟩
theorem ScAsk.shift {s : Sh} {bs bs' : List Bd} {evs : List Ev} {d : Nat} (h : ScAsk s bs evs) (hd : s.1 + d ≤ 2000) (hb : modesB bs' = modesB bs) : ScAsk (s.1 + d, s.2) bs' (evs.map (shE d)) := by
  refine ⟨⟨by have := h.sh.l0; show 0 ≤ s.1 + d; omega, hd, h.sh.v0, h.sh.v1, h.sh.lim, h.sh.cw, h.sh.rw⟩, h.bods.modes hb, by simpa using h.evs.1, fun e he => ?_⟩
  obtain ⟨u, hu, rfl⟩ := List.mem_map.1 he
  rw [modesB_len hb]
  exact (h.evs.2 u hu).shift
set_option maxRecDepth 100000 in
set_option maxHeartbeats 1600000 in
theorem shiftScore_any (s : Sh) (d : Nat) (B : Option Addr) (cb : Nat) (bs : List Bd) (E : Option Addr) (ce lo hi : Nat) (evs : List Ev) (w : World) (h : ScIn w lo hi B cb bs E ce evs) (hok : ScAsk s bs evs) (hd : s.1 + d ≤ 2000) :
    Calls Try.prog 22 #[.agg #[.int .i64 s.1, .int .i64 s.2.1, .float .f32 s.2.2.1, .float .f32 s.2.2.2, .slice B bs.length cb, .slice E evs.length ce], .int .i64 d] w (ShiftP s d bs evs w) := by
  have HOK := Lib.hid hok
  have hl0 := hok.sh.l0
  have hev := hok.evs.1
  have H := Lib.hid h
  clear h hok
  have b1 : Below w.heap.size w (w.alloc (.cells #[.int .i64 s.1, .int .i64 s.2.1, .float .f32 s.2.2.1, .float .f32 s.2.2.2, .slice B bs.length cb, .slice E evs.length ce] 44)) := (Below.refl w.heap.size w).alloc (Nat.le_refl _) _
  have n1 := heap_alloc_new w (.cells #[.int .i64 s.1, .int .i64 s.2.1, .float .f32 s.2.2.1, .float .f32 s.2.2.2, .slice B bs.length cb, .slice E evs.length ce] 44)
  obtain ⟨W0, hW0⟩ : ∃ W0, ((w.alloc (.cells #[.int .i64 s.1, .int .i64 s.2.1, .float .f32 s.2.2.1, .float .f32 s.2.2.2, .slice B bs.length cb, .slice E evs.length ce] 44)).alloc (.cells #[.int .i64 0, .int .i64 0, .float .f32 0, .float .f32 0, .slice none 0 0, .slice none 0 0] 44)) = W0 := ⟨_, rfl⟩
  have HW0 := Lib.hid hW0
  have h0 : Hid (Below w.heap.size w W0 ∧ W0.heap.size = w.heap.size + 2 ∧ W0.heap[w.heap.size]? = some (.cells #[.int .i64 s.1, .int .i64 s.2.1, .float .f32 s.2.2.1, .float .f32 s.2.2.2, .slice B bs.length cb, .slice E evs.length ce] 44 (0, 0)) ∧ W0.heap[w.heap.size + 1]? = some (.cells #[.int .i64 0, .int .i64 0, .float .f32 0, .float .f32 0, .slice none 0 0, .slice none 0 0] 44 (0, 0))) := by
    subst hW0
    generalize hW1 : w.alloc (.cells #[.int .i64 s.1, .int .i64 s.2.1, .float .f32 s.2.2.1, .float .f32 s.2.2.2, .slice B bs.length cb, .slice E evs.length ce] 44) = W1 at *
    have s1 : W1.heap.size = w.heap.size + 1 := by rw [← hW1]; simp
    have n2 := heap_alloc_new W1 (.cells #[.int .i64 0, .int .i64 0, .float .f32 0, .float .f32 0, .slice none 0 0, .slice none 0 0] 44)
    rw [s1] at n2
    exact ⟨b1.alloc (by omega) _, by simp [s1], (Below.heap_alloc _ _ _ (by omega)).trans n1, n2⟩
  clear b1 n1 hW0
  go_enter Try.func22, Try.ntmps22
  go_wp2_with fail
  rw [HW0.out]
  have H0 := Lib.hid (H.out.below (h0.out.1.mono (Nat.le_refl _)))
  obtain ⟨c0, c1, c2, c3, c4, c5⟩ := sc_cells h0.out.2.2.1
  go_wp2_with fail
  refine (isScore_any s B cb bs E ce lo hi evs W0 H0.out HOK.out).mono ?_
  rintro r W1 ⟨rfl, hb1⟩
  have hz0 := h0.out.2.1
  have HB1 : Hid (Below w.heap.size w W1) := h0.out.1.trans (hb1.mono h0.out.1.size)
  have HX1 := Lib.hid ((hb1.block _ (by omega)).trans h0.out.2.2.1)
  have HR1 := Lib.hid ((hb1.block _ (by omega)).trans h0.out.2.2.2)
  have H1 := Lib.hid (H0.out.below hb1)
  have hz1 : w.heap.size + 2 ≤ W1.heap.size := by have := hb1.size; omega
  clear hb1 H0 c0 c1 c2 c3 c4 c5 h0 hz0 HW0
  obtain ⟨c0, c1, c2, c3, c4, c5⟩ := sc_cells HX1.out
  go_wp2_with fail
  refine (copyScore_any s B cb bs E ce lo hi evs W1 H1.out HOK.out.bods hev).mono ?_
  rintro r W2 ⟨B2, cb2, bs2, E2, ce2, rfl, hsc, hmo, hb2⟩
  have HB2 := Lib.hid (HB1.out.trans (hb2.mono (by omega)))
  have HR2 := Lib.hid ((hb2.block _ (by omega)).trans HR1.out)
  have H2 := Lib.hid hsc
  have HMo := Lib.hid hmo
  have hz2 : w.heap.size + 2 ≤ W2.heap.size := by have := hb2.size; omega
  clear hsc hmo hb2 H1 HX1 HR1 HB1 c0 c1 c2 c3 c4 c5
  unfold scV
  go_wp2_with fail
  have HS0 : Hid (ShIn w (W2.alloc (.cells #[.int .i64 (s.1 + d), .int .i64 s.2.1, .float .f32 s.2.2.1, .float .f32 s.2.2.2, .slice B2 bs2.length cb2, .slice E2 evs.length ce2] 44)) W2.heap.size s d 0 B2 cb2 bs2 E2 ce2 evs) := by
    have b3 : Below W2.heap.size W2 (W2.alloc (.cells #[.int .i64 (s.1 + d), .int .i64 s.2.1, .float .f32 s.2.2.1, .float .f32 s.2.2.2, .slice B2 bs2.length cb2, .slice E2 evs.length ce2] 44)) := (Below.refl _ _).alloc (Nat.le_refl _) _
    refine ⟨HB2.out.trans (b3.mono (by omega)), heap_alloc_new W2 _, (b3.block _ (by omega)).trans HR2.out, ?_⟩
    rw [shL_zero]
    exact (H2.out.low hz1 (Nat.le_refl _) (Nat.le_refl _)).below b3
  have HZ3 : Hid (W2.heap.size < (W2.alloc (.cells #[.int .i64 (s.1 + d), .int .i64 s.2.1, .float .f32 s.2.2.1, .float .f32 s.2.2.2, .slice B2 bs2.length cb2, .slice E2 evs.length ce2] 44)).heap.size) := by show _ < _; simp
  clear H2 HB2 HR2
  generalize W2.alloc (.cells #[.int .i64 (s.1 + d), .int .i64 s.2.1, .float .f32 s.2.2.1, .float .f32 s.2.2.2, .slice B2 bs2.length cb2, .slice E2 evs.length ce2] 44) = W3 at *
  generalize W2.heap.size = G at *
  go_loopw [30] (fun i wr => ∃ k : Nat, i = .int .i64 (k : Int) ∧ k ≤ evs.length ∧ Hid (ShIn w wr G s d k B2 cb2 bs2 E2 ce2 evs)) (fun i _ => evs.length - (intOf i).toNat)
  case atStart => exact ⟨0, rfl, by omega, HS0⟩
  case round =>
    clear HS0 HZ3
    obtain ⟨k, rfl, hk, HS⟩ := hrel
    by_cases hlt : k < evs.length
    · have hkl : k < (shL d k evs).length := by rw [shL_len]; exact hlt
      obtain ⟨b, rfl, _, hbG, hbl, hlc, hcm, hcell⟩ := HS.out.sc.evs.cells (by omega)
      have e0 := (hcell k hkl).1
      rw [shL_at hlt] at e0
      obtain ⟨cs, hcs⟩ := owns_ty HS.out.sc.evs.1 (k := b) rfl
      have f0 := free_cells hcs (k * 6)
      have c5 := (sc_cells HS.out.box).2.2.2.2.2
      rw [shL_len] at hlc
      have HEv := Lib.hid (HOK.out.evs.2 (eAt evs k) (eAt_mem hlt))
      have ha0 : 0 ≤ (eAt evs k).1 := HEv.out.a0
      have ha1 : (eAt evs k).1 ≤ s.1 := HEv.out.a1
      have HS2 : Hid (ShIn w (wr.setCell ⟨b, k * 6, none⟩ (.int .i64 ((eAt evs k).1 + d))) G s d (k + 1) B2 cb2 bs2 (some ⟨b, 0, none⟩) ce2 evs) := by
        have hp := HS.out.sc.put0 (i := k) (d := d) hkl
        have hs := HS.out.sc.evs.1.lt b rfl
        rw [shL_at hlt, shL_set hlt] at hp
        exact ⟨HS.out.bel.setCell (by show w.heap.size ≤ b; omega) _, (Below.heap_setCell _ _ _ _ (by show G ≠ b; omega)).trans HS.out.box, (Below.heap_setCell _ _ _ _ (by show w.heap.size + 1 ≠ b; omega)).trans HS.out.res, hp⟩
      clear hcell hcs HS
      generalize (eAt evs k).1 = x at *
      go_wp2_with fail
      go_roundw
      case rel => exact ⟨k + 1, by go_num, by omega, HS2⟩
      case measure => simp [intOf]; omega
    · obtain rfl : k = evs.length := by omega
      have hss := HS.out.sc
      rw [shL_all] at hss
      have HSc := Lib.hid hss
      have HAs : Hid (ScAsk (s.1 + d, s.2) bs2 (evs.map (shE d))) := HOK.out.shift hd HMo.out
      have HML : Hid ((evs.map (shE d)).length = evs.length) := Lib.hid (by simp)
      obtain ⟨c0, c1, c2, c3, c4, c5⟩ := sc_cells HS.out.box
      clear hss
      go_wp2_with fail
      have hq := isScore_any (s.1 + d, s.2) B2 cb2 bs2 E2 ce2 _ _ (evs.map (shE d)) wr HSc.out HAs.out
      rw [HML.out] at hq
      refine hq.mono ?_
      rintro r W4 ⟨rfl, hb4⟩
      have HB4 := Lib.hid (HS.out.bel.trans (hb4.mono HS.out.bel.size))
      have HX4 := Lib.hid ((hb4.block _ (lt_of_some HS.out.box)).trans HS.out.box)
      have HR4 := Lib.hid ((hb4.block _ (lt_of_some HS.out.res)).trans HS.out.res)
      have HS4 := Lib.hid (HSc.out.below hb4)
      have hg4 := lt_of_some HX4.out
      clear hq hb4 HS HSc c0 c1 c2 c3 c4 c5
      obtain ⟨c0, c1, c2, c3, c4, c5⟩ := sc_cells HX4.out
      obtain ⟨d0, d1, d2, d3, d4, d5⟩ := sc_cells HR4.out
      obtain ⟨e0, e1, e2, e3, e4, e5⟩ := sc_free HR4.out
      go_wp2_with fail
      have hP6 : ((((((W4.setCell ⟨w.heap.size + 1, 0, none⟩ (.int .i64 (s.1 + d))).setCell ⟨w.heap.size + 1, 1, none⟩ (.int .i64 s.2.1)).setCell ⟨w.heap.size + 1, 2, none⟩ (.float .f32 s.2.2.1)).setCell ⟨w.heap.size + 1, 3, none⟩ (.float .f32 s.2.2.2)).setCell ⟨w.heap.size + 1, 4, none⟩ (.slice B2 bs2.length cb2)).setCell ⟨w.heap.size + 1, 5, none⟩ (.slice E2 evs.length ce2)).heap[w.heap.size + 1]? = some (.cells #[.int .i64 (s.1 + d), .int .i64 s.2.1, .float .f32 s.2.2.1, .float .f32 s.2.2.2, .slice B2 bs2.length cb2, .slice E2 evs.length ce2] 44 (0, 0)) := by
        simp [World.setCell, Array.getElem?_modify, HR4.out]
      have hPk : ∀ j, j ≠ w.heap.size + 1 → ((((((W4.setCell ⟨w.heap.size + 1, 0, none⟩ (.int .i64 (s.1 + d))).setCell ⟨w.heap.size + 1, 1, none⟩ (.int .i64 s.2.1)).setCell ⟨w.heap.size + 1, 2, none⟩ (.float .f32 s.2.2.1)).setCell ⟨w.heap.size + 1, 3, none⟩ (.float .f32 s.2.2.2)).setCell ⟨w.heap.size + 1, 4, none⟩ (.slice B2 bs2.length cb2)).setCell ⟨w.heap.size + 1, 5, none⟩ (.slice E2 evs.length ce2)).heap[j]? = W4.heap[j]? := fun j hj => put6_else hj _ _ _ _ _ _
      have hPb : Below w.heap.size w ((((((W4.setCell ⟨w.heap.size + 1, 0, none⟩ (.int .i64 (s.1 + d))).setCell ⟨w.heap.size + 1, 1, none⟩ (.int .i64 s.2.1)).setCell ⟨w.heap.size + 1, 2, none⟩ (.float .f32 s.2.2.1)).setCell ⟨w.heap.size + 1, 3, none⟩ (.float .f32 s.2.2.2)).setCell ⟨w.heap.size + 1, 4, none⟩ (.slice B2 bs2.length cb2)).setCell ⟨w.heap.size + 1, 5, none⟩ (.slice E2 evs.length ce2)) :=
        (((((HB4.out.setCell (Nat.le_succ _) _).setCell (Nat.le_succ _) _).setCell (Nat.le_succ _) _).setCell (Nat.le_succ _) _).setCell (Nat.le_succ _) _).setCell (Nat.le_succ _) _
      have hPz : ((((((W4.setCell ⟨w.heap.size + 1, 0, none⟩ (.int .i64 (s.1 + d))).setCell ⟨w.heap.size + 1, 1, none⟩ (.int .i64 s.2.1)).setCell ⟨w.heap.size + 1, 2, none⟩ (.float .f32 s.2.2.1)).setCell ⟨w.heap.size + 1, 3, none⟩ (.float .f32 s.2.2.2)).setCell ⟨w.heap.size + 1, 4, none⟩ (.slice B2 bs2.length cb2)).setCell ⟨w.heap.size + 1, 5, none⟩ (.slice E2 evs.length ce2)).heap.size = W4.heap.size := by simp
      refine bodyPost_ret (results_cell_tmp_row rfl _ _ (w.heap.size + 1) 44 #[.int .i64 (s.1 + d), .int .i64 s.2.1, .float .f32 s.2.2.1, .float .f32 s.2.2.2, .slice B2 bs2.length cb2, .slice E2 evs.length ce2] (0, 0) _ rfl hP6 Try.underlying44 rfl (by kernel_rfl)) rfl ?_
      generalize ((((((W4.setCell ⟨w.heap.size + 1, 0, none⟩ (.int .i64 (s.1 + d))).setCell ⟨w.heap.size + 1, 1, none⟩ (.int .i64 s.2.1)).setCell ⟨w.heap.size + 1, 2, none⟩ (.float .f32 s.2.2.1)).setCell ⟨w.heap.size + 1, 3, none⟩ (.float .f32 s.2.2.2)).setCell ⟨w.heap.size + 1, 4, none⟩ (.slice B2 bs2.length cb2)).setCell ⟨w.heap.size + 1, 5, none⟩ (.slice E2 evs.length ce2)) = W5 at *
      have hSc5 := HS4.out.keep (w' := W5) (fun j h1 h2 => hPk j (by omega)) (by omega)
      refine ⟨B2, cb2, bs2, E2, ce2, ?_, hSc5.low (by omega) (by omega) (Nat.le_refl _), HMo.out, hPb⟩
      unfold scV
      rw [HML.out]
      rfl
end Go.Proofs.Ytndnfhhdflmfcaa

/-
A score that is shifted: plain.
-/
namespace Go.Proofs.Ytndnfhhdflmfcaa
open Go Go.RowKit Ieee

theorem bmOf_modes {bs bs' : List Bd} (h : modesB bs' = modesB bs) : bmOf bs' = bmOf bs := by
  funext i
  unfold bmOf
  have key : ∀ n, (bodAt bs' n).2.2 = (bodAt bs n).2.2 := fun n => by
    have e : ∀ l : List Bd, (bodAt l n).2.2 = (modesB l).getD n [] := fun l => by
      simp only [bodAt, modesB, List.getD, List.getElem?_map]
      cases l[n]? <;> rfl
    rw [e, e, h]
  exact key _
theorem eAt_sh {d i : Nat} {L : List Ev} (h : i < L.length) : eAt (L.map (shE d)) i = shE d (eAt L i) := by
  simp [eAt, List.getD, h]
theorem swapE_sh {d j : Nat} {L : List Ev} (hj : j < L.length) (h0 : 0 < j) : swapE (L.map (shE d)) j = (swapE L j).map (shE d) := by
  unfold swapE
  rw [eAt_sh hj, eAt_sh (by omega)]
  simp
theorem sink_sh {d j : Nat} {L : List Ev} (hj : j < L.length) : sink (L.map (shE d)) j = (sink L j).map (shE d) := by
  induction j generalizing L with
  | zero => rfl
  | succ j ih =>
    unfold sink
    rw [eAt_sh hj, eAt_sh (by omega)]
    have e : ((shE d (eAt L (j + 1))).1 < (shE d (eAt L j)).1) = ((eAt L (j + 1)).1 < (eAt L j).1) := by
      simp only [shE, eq_iff_iff]; omega
    simp only [e]
    split
    · rw [swapE_sh hj (by omega), ih (by rw [swapE_len]; omega)]
    · rfl
theorem isortE_sh {d i k : Nat} {L : List Ev} (h : i + k ≤ L.length) : isortE (L.map (shE d)) i k = (isortE L i k).map (shE d) := by
  induction k generalizing i L with
  | zero => rfl
  | succ k ih =>
    unfold isortE
    rw [sink_sh (by omega), ih (by rw [sink_len]; omega)]
theorem sortedE_sh (d : Nat) (L : List Ev) : sortedE (L.map (shE d)) = (sortedE L).map (shE d) := by
  rcases Nat.eq_zero_or_pos L.length with h | h
  · have : L = [] := List.eq_nil_of_length_eq_zero h
    subst this; rfl
  · unfold sortedE
    rw [List.length_map, isortE_sh (by omega)]
theorem happen_sh (bm : Int → List MW) (most : Int) (p : Pl) (e : Ev) (d : Nat) : p.happen bm most (shE d e) = p.happen bm most e := rfl
theorem arriveP_sh {bm : Int → List MW} {most : Int} {d n : Nat} {L : List Ev} {p : Pl} : arriveP bm most ((d + n : Nat) : Int) (L.map (shE d)) p = arriveP bm most (n : Int) L p := by
  induction L generalizing p with
  | nil => rfl
  | cons e L ih =>
    show arriveP bm most _ (shE d e :: L.map (shE d)) p = _
    unfold arriveP
    have hc : ((shE d e).1 = ((d + n : Nat) : Int)) = (e.1 = (n : Int)) := by simp only [shE, eq_iff_iff]; omega
    rw [happen_sh]
    simp only [hc, ih]
/-- Nothing happens yet. -/
theorem arriveP_early {bm : Int → List MW} {most : Int} {d n : Nat} {L : List Ev} {p : Pl} (h0 : ∀ e ∈ L, 0 ≤ e.1) (hn : n < d) : arriveP bm most (n : Int) (L.map (shE d)) p = (0, p) := by
  cases L with
  | nil => rfl
  | cons e L =>
    show arriveP bm most _ (shE d e :: L.map (shE d)) p = _
    unfold arriveP
    rw [if_neg]
    have := h0 e (by simp)
    show ¬ e.1 + (d : Int) = (n : Int)
    omega
theorem plAt_early {bm : Int → List MW} {most : Int} {d n : Nat} {L : List Ev} (h0 : ∀ e ∈ L, 0 ≤ e.1) (hn : n ≤ d) : plAt bm most (L.map (shE d)) n = (0, ⟨[], 0⟩) := by
  induction n with
  | zero => rfl
  | succ n ih =>
    show nextP bm most _ n (plAt bm most (L.map (shE d)) n) = _
    rw [ih (by omega)]
    unfold nextP
    simp only [List.drop_zero, arriveP_early h0 (show n < d by omega)]
    rfl
theorem plAt_sh {bm : Int → List MW} {most : Int} {d n : Nat} {L : List Ev} (h0 : ∀ e ∈ L, 0 ≤ e.1) : plAt bm most (L.map (shE d)) (d + n) = plAt bm most L n := by
  induction n with
  | zero => exact plAt_early h0 (Nat.le_refl _)
  | succ n ih =>
    show nextP bm most (L.map (shE d)) (d + n) (plAt bm most (L.map (shE d)) (d + n)) = nextP bm most L n (plAt bm most L n)
    rw [ih]
    unfold nextP
    simp only [← List.map_drop, arriveP_sh]
theorem sumP_early {bm : Int → List MW} {most : Int} {d n : Nat} {L : List Ev} (h0 : ∀ e ∈ L, 0 ≤ e.1) (hn : n < d) : sumP bm most (L.map (shE d)) n = 0 := by
  unfold sumP soundP
  rw [plAt_early h0 (by omega)]
  simp only [List.drop_zero, arriveP_early h0 hn]
  rfl
theorem sumP_sh {bm : Int → List MW} {most : Int} {d n : Nat} {L : List Ev} (h0 : ∀ e ∈ L, 0 ≤ e.1) : sumP bm most (L.map (shE d)) (d + n) = sumP bm most L n := by
  unfold sumP soundP
  rw [plAt_sh h0]
  simp only [← List.map_drop, arriveP_sh]
/-- A number that is not less than 0 and has no sign. -/
theorem read_plain {r : Nat} (hf : fin .f32 r) (h : fge .f32 r 0 = true) (hs : signB (wid r) = false) : ∃ m e, FloatKind.f32.format.read r = .number false m e := by
  obtain ⟨s, m, e, hr⟩ := hf
  cases s
  · exact ⟨m, e, hr⟩
  · exfalso
    obtain ⟨z1, z2⟩ := zero_fin .f32
    have h2 := (fge_iff ⟨true, m, e, hr⟩ z1).1 h
    rw [z2] at h2
    have h3 : fv .f32 r = -mval m e := by unfold fv; rw [hr]; rfl
    have h4 := mval_nonneg m e
    have hm : m = 0 := mval_eq_zero (e := e) (by grind)
    subst hm
    have hn : isN .f32 r = false := by unfold isN; rw [hr]; rfl
    have hw : wid r = double.write (single.read r) := by unfold wid cv; rw [widen_some hn]; rfl
    have hr' : single.read r = .number true 0 e := hr
    rw [hw, hr'] at hs
    have : double.write (.number true 0 e) = 9223372036854775808 := by
      show double.nearest true 0 e = _
      unfold Format.nearest
      rw [if_pos rfl]
      decide +kernel
    rw [this] at hs
    revert hs
    decide
/-- The limits of a score keep silence silent. -/
theorem lim_zero {c r : Nat} (h : limOk c r = true) : fo .mul .f32 0 r = 0 ∧ limE 0 0 r = 0 ∧ limS 0 0 c r = 0 := by
  unfold limOk at h
  simp only [Bool.and_eq_true, Bool.not_eq_true'] at h
  obtain ⟨⟨⟨⟨h1, h2⟩, h3⟩, h4⟩, h5⟩ := h
  obtain ⟨m, e, hr⟩ := read_plain (fin_range h3 h4) h3 h5
  have a : fo .mul .f32 0 r = 0 := by
    have h0 := read_zero32
    unfold fo
    have : floatBits .mul .f32 0 r = some 0 := by
      show (FloatKind.f32.format.mul 0 r) = some 0
      unfold Format.mul
      rw [h0, hr]
      show some (FloatKind.f32.format.nearest (false ^^ false) (0 * m) _) = some 0
      rw [Nat.zero_mul]
      unfold Format.nearest
      rw [if_pos rfl]
      decide +kernel
    rw [this]; rfl
  have n0 : nrm .f32 0 = 0 := nrm_of_num (by decide +kernel)
  have b : limE 0 0 r = 0 := by
    unfold limE
    rw [a, Nat.zero_mod, n0]
    rw [if_neg (by decide +kernel)]
  refine ⟨a, b, ?_⟩
  unfold limS
  rw [b, n0, if_neg]
  have hc : fin .f32 c := fin_of_wid ((finB_iff _).1 h1)
  obtain ⟨z1, z2⟩ := zero_fin .f32
  have p := (fgt_iff hc z1).1 h2
  intro q
  have q2 := (fgt_iff z1 hc).1 q
  grind
theorem envP_early {bm : Int → List MW} {most : Int} {d n c r : Nat} {L : List Ev} (h0 : ∀ e ∈ L, 0 ≤ e.1) (hl : limOk c r = true) (hn : n ≤ d) : envP bm most (L.map (shE d)) r n = 0 := by
  induction n with
  | zero => rfl
  | succ n ih =>
    show nrm .f32 (limE (envP bm most _ r n) (sumP bm most _ n) r) = 0
    rw [ih (by omega), sumP_early h0 (by omega), (lim_zero hl).2.1]
    exact (nrm_of_num (by decide +kernel) : nrm .f32 0 = 0)
theorem envP_sh {bm : Int → List MW} {most : Int} {d n c r : Nat} {L : List Ev} (h0 : ∀ e ∈ L, 0 ≤ e.1) (hl : limOk c r = true) : envP bm most (L.map (shE d)) r (d + n) = envP bm most L r n := by
  induction n with
  | zero => exact envP_early h0 hl (Nat.le_refl _)
  | succ n ih =>
    show nrm .f32 (limE (envP bm most (L.map (shE d)) r (d + n)) (sumP bm most (L.map (shE d)) (d + n)) r) = nrm .f32 (limE (envP bm most L r n) (sumP bm most L n) r)
    rw [ih, sumP_sh h0]
theorem smpP_early {bm : Int → List MW} {most : Int} {d n c r : Nat} {L : List Ev} (h0 : ∀ e ∈ L, 0 ≤ e.1) (hl : limOk c r = true) (hn : n < d) : smpP bm most (L.map (shE d)) c r n = 0 := by
  unfold smpP
  rw [envP_early h0 hl (by omega), sumP_early h0 hn, (lim_zero hl).2.2]
theorem smpP_sh {bm : Int → List MW} {most : Int} {d n c r : Nat} {L : List Ev} (h0 : ∀ e ∈ L, 0 ≤ e.1) (hl : limOk c r = true) : smpP bm most (L.map (shE d)) c r (d + n) = smpP bm most L c r n := by
  unfold smpP
  rw [envP_sh h0 hl, sumP_sh h0]
/-- The states of a score that is shifted. -/
theorem AtAll.shift {s : Sh} {bs bs' : List Bd} {evs : List Ev} {n d : Nat} (h : AtAll n s bs evs) (hs : ScPlay s bs evs) (hm : modesB bs' = modesB bs) (hbm : bmOf bs' = bmOf bs) : AtAll (d + n) (s.1 + d, s.2) bs' (evs.map (shE d)) := fun k hk => by
  have h0 : ∀ e ∈ sortedE evs, 0 ≤ e.1 := fun e he => (hs.evs.2 e (sortedE_mem he)).a0
  rw [hbm, sortedE_sh]
  show ∃ t, t ≤ 61 ∧ AtOk t s.2.1 _ (plAt _ s.2.1 _ k)
  rcases Nat.lt_or_ge k d with h1 | h1
  · rw [plAt_early h0 (by omega)]
    have := hs.sh.v0
    exact ⟨0, by omega, ⟨⟨fun v hv => by simp at hv, by simp; omega, by simp⟩, by simp, by simp⟩⟩
  · obtain ⟨j, rfl⟩ : ∃ j, k = d + j := ⟨k - d, by omega⟩
    rw [plAt_sh h0]
    obtain ⟨t, ht, ha⟩ := h j (by omega)
    exact ⟨t, ht, ⟨ha.ok, by have := ha.d; simpa using this, ha.b⟩⟩
theorem ScPlay.shift {s : Sh} {bs bs' : List Bd} {evs : List Ev} {d : Nat} (h : ScPlay s bs evs) (hd : s.1 + d ≤ 2000) (hb : modesB bs' = modesB bs) : ScPlay (s.1 + d, s.2) bs' (evs.map (shE d)) := by
  refine ⟨⟨by have := h.sh.l0; show 0 ≤ s.1 + d; omega, hd, h.sh.v0, h.sh.v1, h.sh.lim, h.sh.cw, h.sh.rw⟩, h.bods.modes hb, by simpa using h.evs.1, fun e he => ?_⟩
  obtain ⟨u, hu, rfl⟩ := List.mem_map.1 he
  rw [modesB_len hb]
  exact (h.evs.2 u hu).shift
theorem ScOk.play {most : Int} {s : Sh} {bs : List Bd} {evs : List Ev} (h : ScOk most s bs evs) (hm : most ≤ 2000) : ScPlay s bs evs :=
  ⟨⟨h.sh.l0, Int.le_trans h.sh.l1 hm, h.sh.v0, h.sh.v1, h.sh.lim, h.sh.cw, h.sh.rw⟩, h.bods, ⟨by have := h.evs.1; omega, h.evs.2⟩⟩
theorem cntE_sh {evs : List Ev} {d : Nat} {s : Sh} {bs : List Bd} (h : ScPlay s bs evs) (hd : s.1 + d < 3000) : cntE d 3000 (evs.map (shE d)) = evs.length := by
  unfold cntE
  rw [List.filter_eq_self.2, List.length_map]
  intro e he
  obtain ⟨u, hu, rfl⟩ := List.mem_map.1 he
  have h1 := (h.evs.2 u hu).a0
  have h2 := (h.evs.2 u hu).a1
  rw [Bool.and_eq_true, decide_eq_true_eq, decide_eq_true_eq]
  show (d : Int) ≤ u.1 + d ∧ u.1 + d < 3000
  omega
end Go.Proofs.Ytndnfhhdflmfcaa

/-
What happens at a time; a score without strikes; a score whose bodies are all stopped. Plain.
-/
namespace Go.Proofs.Ytndnfhhdflmfcaa
open Go Go.RowKit Ieee

abbrev Sorted (L : List Ev) : Prop := L.Pairwise fun a b => a.1 ≤ b.1
theorem inOrder_sorted {L : List Ev} (h : inOrder L L.length) : Sorted L := by
  induction L with
  | nil => exact List.Pairwise.nil
  | cons a l ih =>
    have hl : Sorted l := ih fun i hi => h (i + 1) (by simp; omega)
    refine List.pairwise_cons.2 ⟨fun b hb => ?_, hl⟩
    cases l with
    | nil => cases hb
    | cons c l =>
      have h0 : a.1 ≤ c.1 := h 0 (by simp)
      rcases List.mem_cons.1 hb with rfl | hb
      · exact h0
      · exact Int.le_trans h0 ((List.pairwise_cons.1 hl).1 b hb)
theorem sortedE_sorted (L : List Ev) : Sorted (sortedE L) := inOrder_sorted (by rw [sortedE_len]; exact sortedE_inOrder L)
/-- Some events happen. -/
def happ (bm : Int → List MW) (most : Int) (l : List Ev) (p : Pl) : Pl := l.foldl (fun p e => p.happen bm most e) p
section
variable {bm : Int → List MW} {most : Int}
theorem arrive_all {now : Int} {l : List Ev} {p : Pl} (hs : Sorted l) (h0 : ∀ e ∈ l, now ≤ e.1) : (arriveP bm most now l p).2 = happ bm most (ofTime now l) p ∧ (∀ e ∈ l.drop (arriveP bm most now l p).1, now + 1 ≤ e.1) ∧
    ∀ x, now < x → ofTime x (l.drop (arriveP bm most now l p).1) = ofTime x l := by
  induction l generalizing p with
  | nil => exact ⟨rfl, fun e he => by simp [arriveP] at he, fun x _ => by simp [arriveP]⟩
  | cons e l ih =>
    obtain ⟨h1, h2⟩ := List.pairwise_cons.1 hs
    by_cases he : e.1 = now
    · obtain ⟨a, b, c⟩ := ih (p := p.happen bm most e) h2 (fun u hu => h0 u (by simp [hu]))
      have e1 : ofTime now (e :: l) = e :: ofTime now l := by unfold ofTime; rw [List.filter_cons_of_pos (by simp [he])]
      have e2 : arriveP bm most now (e :: l) p = ((arriveP bm most now l (p.happen bm most e)).1 + 1, (arriveP bm most now l (p.happen bm most e)).2) := by
        rw [arriveP, if_pos he]
      rw [e1, e2]
      refine ⟨a, b, fun x hx => ?_⟩
      show ofTime x (l.drop _) = _
      rw [c x hx]
      unfold ofTime
      rw [List.filter_cons_of_neg (by simp; omega)]
    · have hlt : now < e.1 := by have := h0 e (by simp); omega
      have e2 : arriveP bm most now (e :: l) p = (0, p) := by rw [arriveP, if_neg he]
      have e1 : ofTime now (e :: l) = [] := by
        unfold ofTime
        refine List.filter_eq_nil_iff.2 fun u hu => ?_
        rcases List.mem_cons.1 hu with rfl | hu
        · simp; omega
        · have := h1 u hu
          simp; omega
      rw [e1, e2]
      refine ⟨rfl, fun u hu => ?_, fun x _ => rfl⟩
      simp only [List.drop_zero] at hu
      rcases List.mem_cons.1 hu with rfl | hu
      · omega
      · have := h1 u hu
        omega
theorem plAt_left {L : List Ev} (hs : Sorted L) (h0 : ∀ e ∈ L, 0 ≤ e.1) (n : Nat) : Sorted (L.drop (plAt bm most L n).1) ∧ (∀ e ∈ L.drop (plAt bm most L n).1, (n : Int) ≤ e.1) ∧ ∀ x, (n : Int) ≤ x → ofTime x (L.drop (plAt bm most L n).1) = ofTime x L := by
  induction n with
  | zero => exact ⟨by simpa [plAt] using hs, fun e he => h0 e (by simpa [plAt] using he), fun x _ => by simp [plAt]⟩
  | succ n ih =>
    obtain ⟨a, b, c⟩ := ih
    obtain ⟨_, b2, c2⟩ := arrive_all (bm := bm) (most := most) (p := (plAt bm most L n).2) a b
    have e : L.drop (plAt bm most L (n + 1)).1 = (L.drop (plAt bm most L n).1).drop (arriveP bm most n (L.drop (plAt bm most L n).1) (plAt bm most L n).2).1 := by
      rw [List.drop_drop]; rfl
    rw [e]
    refine ⟨a.sublist (List.drop_sublist _ _), fun u hu => by have := b2 u hu; omega, fun x hx => ?_⟩
    rw [c2 x (by omega), c x (by omega)]
/-- What sounds in a sample: the events of its time have happened. -/
theorem sound_happ {evs : List Ev} (h0 : ∀ e ∈ evs, 0 ≤ e.1) (n : Nat) : (arriveP bm most n ((sortedE evs).drop (plAt bm most (sortedE evs) n).1) (plAt bm most (sortedE evs) n).2).2 = happ bm most (ofTime n evs) (plAt bm most (sortedE evs) n).2 := by
  obtain ⟨a, b, c⟩ := plAt_left (bm := bm) (most := most) (sortedE_sorted evs) (fun e he => h0 e (sortedE_mem he)) n
  rw [(arrive_all a b).1, c n (Int.le_refl _), ofTime_sorted]
theorem sound_happ' {evs : List Ev} (h0 : ∀ e ∈ evs, 0 ≤ e.1) (n : Nat) : soundP bm most (sortedE evs) n (plAt bm most (sortedE evs) n) = (happ bm most (ofTime n evs) (plAt bm most (sortedE evs) n).2).vs := congrArg Pl.vs (sound_happ h0 n)
theorem plAt_vs (L : List Ev) (n : Nat) : (plAt bm most L (n + 1)).2.vs = (soundP bm most L n (plAt bm most L n)).map Vp.next := rfl
/-- Without strikes there are no voices. -/
theorem happ_quiet {l : List Ev} {p : Pl} (hl : ∀ e ∈ l, e.2.1 ≠ 1) (hp : p.vs = []) : (happ bm most l p).vs = [] := by
  induction l generalizing p with
  | nil => exact hp
  | cons e l ih =>
    refine ih (p := p.happen bm most e) (fun u hu => hl u (by simp [hu])) ?_
    unfold Pl.happen
    rw [if_neg (hl e (by simp))]
    split
    · show p.vs.map _ = []
      rw [hp]; rfl
    · show p.vs.filter _ = []
      rw [hp]; rfl
theorem mem_ofTime {x : Int} {L : List Ev} {e : Ev} (h : e ∈ ofTime x L) : e ∈ L ∧ e.1 = x := by
  unfold ofTime at h
  obtain ⟨a, b⟩ := List.mem_filter.1 h
  exact ⟨a, by simpa using b⟩
theorem quiet_sound {evs : List Ev} (h0 : ∀ e ∈ evs, 0 ≤ e.1) (hq : ∀ e ∈ evs, e.2.1 ≠ 1) (n : Nat) : (plAt bm most (sortedE evs) n).2.vs = [] ∧ soundP bm most (sortedE evs) n (plAt bm most (sortedE evs) n) = [] := by
  have key : ∀ n, (plAt bm most (sortedE evs) n).2.vs = [] → soundP bm most (sortedE evs) n (plAt bm most (sortedE evs) n) = [] := fun n h => by
    rw [sound_happ' h0]
    exact happ_quiet (fun e he => hq e (mem_ofTime he).1) h
  induction n with
  | zero => exact ⟨rfl, key 0 rfl⟩
  | succ n ih =>
    have h1 : (plAt bm most (sortedE evs) (n + 1)).2.vs = [] := by rw [plAt_vs, ih.2]; rfl
    exact ⟨h1, key _ h1⟩
theorem quiet_smp {evs : List Ev} {c r : Nat} (h0 : ∀ e ∈ evs, 0 ≤ e.1) (hq : ∀ e ∈ evs, e.2.1 ≠ 1) (hl : limOk c r = true) (n : Nat) : smpP bm most (sortedE evs) c r n = 0 := by
  have hs : ∀ n, sumP bm most (sortedE evs) n = 0 := fun n => by
    unfold sumP
    rw [(quiet_sound h0 hq n).2]
    rfl
  have he : ∀ n, envP bm most (sortedE evs) r n = 0 := fun n => by
    induction n with
    | zero => rfl
    | succ n ih =>
      show nrm .f32 (limE (envP bm most _ r n) (sumP bm most _ n) r) = 0
      rw [ih, hs, (lim_zero hl).2.1]
      exact (nrm_of_num (by decide +kernel) : nrm .f32 0 = 0)
  unfold smpP
  rw [he, hs, (lim_zero hl).2.2]
/-- The bodies of the voices. -/
def BodyIn (nb : Nat) (p : Pl) : Prop := ∀ v ∈ p.vs, 0 ≤ v.body ∧ v.body < (nb : Int)
theorem happ_body {nb : Nat} {L : Int} {l : List Ev} {p : Pl} (hl : ∀ e ∈ l, EvOk L nb e) (hp : BodyIn nb p) : BodyIn nb (happ bm most l p) := by
  induction l generalizing p with
  | nil => exact hp
  | cons e l ih =>
    refine ih (p := p.happen bm most e) (fun u hu => hl u (by simp [hu])) ?_
    have he := hl e (by simp)
    intro v hv
    unfold Pl.happen at hv
    split at hv
    · rcases List.mem_append.1 hv with hv | hv
      · refine hp v ?_
        split at hv
        · exact List.mem_of_mem_drop hv
        · exact hv
      · rw [List.mem_singleton.1 hv]
        exact ⟨he.b0, he.b1⟩
    · split at hv
      · obtain ⟨u, hu, rfl⟩ := List.mem_map.1 hv
        have := hp u hu
        split <;> exact this
      · exact hp v (List.mem_filter.1 hv).1
theorem plAt_body {nb : Nat} {L : Int} {evs : List Ev} (h0 : ∀ e ∈ evs, 0 ≤ e.1) (hl : ∀ e ∈ evs, EvOk L nb e) (n : Nat) : BodyIn nb (plAt bm most (sortedE evs) n).2 := by
  induction n with
  | zero => exact fun v hv => by simp [plAt] at hv
  | succ n ih =>
    intro v hv
    rw [plAt_vs] at hv
    obtain ⟨u, hu, rfl⟩ := List.mem_map.1 hv
    rw [sound_happ' h0] at hu
    exact happ_body (fun e he => hl e (mem_ofTime he).1) ih u hu
/-- Stops leave no voice of their bodies. -/
theorem happ_stops {l : List Ev} {p : Pl} (hl : ∀ e ∈ l, e.2.1 = 3) : ∀ v ∈ (happ bm most l p).vs, v ∈ p.vs ∧ ∀ e ∈ l, v.body ≠ e.2.2.1 := by
  induction l generalizing p with
  | nil => exact fun v hv => ⟨hv, fun e he => by cases he⟩
  | cons e l ih =>
    intro v hv
    obtain ⟨a, b⟩ := ih (p := p.happen bm most e) (fun u hu => hl u (by simp [hu])) v hv
    have he := hl e (by simp)
    unfold Pl.happen at a
    rw [if_neg (by omega), if_neg (by omega)] at a
    obtain ⟨a1, a2⟩ := List.mem_filter.1 a
    refine ⟨a1, fun u hu => ?_⟩
    rcases List.mem_cons.1 hu with rfl | hu
    · simpa using a2
    · exact b u hu
theorem happ_app (l m : List Ev) (p : Pl) : happ bm most (l ++ m) p = happ bm most m (happ bm most l p) := by
  unfold happ; rw [List.foldl_append]
theorem ofTime_app (x : Int) (l m : List Ev) : ofTime x (l ++ m) = ofTime x l ++ ofTime x m := by unfold ofTime; rw [List.filter_append]
/-- A stop of each body. -/
def stops (h : Int) (nb : Nat) : List Ev := (List.range nb).map fun (b : Nat) => (h, 3, (b : Int), 0, 0, 0)
theorem stops_len (h : Int) (nb : Nat) : (stops h nb).length = nb := by simp [stops]
theorem stops_succ (h : Int) (nb : Nat) : stops h (nb + 1) = stops h nb ++ [(h, 3, (nb : Int), 0, 0, 0)] := by simp [stops, List.range_succ]
theorem mem_stops {h : Int} {nb : Nat} {e : Ev} (he : e ∈ stops h nb) : ∃ b : Nat, b < nb ∧ e = (h, 3, (b : Int), 0, 0, 0) := by
  obtain ⟨b, hb, rfl⟩ := List.mem_map.1 he
  exact ⟨b, List.mem_range.1 hb, rfl⟩
theorem ofTime_stops (x h : Int) (nb : Nat) : ofTime x (stops h nb) = if h = x then stops h nb else [] := by
  unfold ofTime
  split
  · rename_i e
    refine List.filter_eq_self.2 fun u hu => ?_
    obtain ⟨b, _, rfl⟩ := mem_stops hu
    simp [e]
  · rename_i e
    refine List.filter_eq_nil_iff.2 fun u hu => ?_
    obtain ⟨b, _, rfl⟩ := mem_stops hu
    simp [e]
/-- After all bodies are stopped nothing sounds. -/
theorem stopped_sound {L : Int} {evs : List Ev} {nb h : Nat} (h0 : ∀ e ∈ evs, 0 ≤ e.1) (hl : ∀ e ∈ evs, EvOk L nb e) (hh : ∀ e ∈ evs, e.1 ≤ (h : Int)) (t : Nat) (ht : h ≤ t) : soundP bm most (sortedE (evs ++ stops h nb)) t (plAt bm most (sortedE (evs ++ stops h nb)) t) = [] := by
  have h0' : ∀ e ∈ evs ++ stops h nb, 0 ≤ e.1 := fun e he => by
    rcases List.mem_append.1 he with he | he
    · exact h0 e he
    · obtain ⟨b, _, rfl⟩ := mem_stops he
      show (0 : Int) ≤ (h : Int); omega
  have hb : BodyIn nb (plAt bm most (sortedE (evs ++ stops h nb)) h).2 := by
    have key : ∀ n, BodyIn nb (plAt bm most (sortedE (evs ++ stops h nb)) n).2 := fun n => by
      induction n with
      | zero => exact fun v hv => by simp [plAt] at hv
      | succ n ih =>
        intro v hv
        rw [plAt_vs] at hv
        obtain ⟨u, hu, rfl⟩ := List.mem_map.1 hv
        rw [sound_happ' h0', ofTime_app, happ_app] at hu
        have hs : ∀ e ∈ ofTime (n : Int) (stops h nb), e.2.1 = 3 := fun e he => by
          obtain ⟨b, _, rfl⟩ := mem_stops (mem_ofTime he).1
          rfl
        exact happ_body (fun e he => hl e (mem_ofTime he).1) ih u (happ_stops hs u hu).1
    exact key h
  obtain ⟨j, rfl⟩ : ∃ j, t = h + j := ⟨t - h, by omega⟩
  induction j with
  | zero =>
    rw [Nat.add_zero, sound_happ' h0', ofTime_app, happ_app, ofTime_stops, if_pos rfl]
    refine List.eq_nil_iff_forall_not_mem.2 fun v hv => ?_
    have hs : ∀ e ∈ stops h nb, e.2.1 = 3 := fun e he => by
      obtain ⟨b, _, rfl⟩ := mem_stops he
      rfl
    obtain ⟨a, b⟩ := happ_stops hs v hv
    obtain ⟨q1, q2⟩ := happ_body (fun e he => hl e (mem_ofTime he).1) hb v a
    refine b ((h : Int), 3, v.body, 0, 0, 0) ?_ rfl
    refine List.mem_map.2 ⟨v.body.toNat, List.mem_range.2 (by omega), ?_⟩
    rw [show ((v.body.toNat : Nat) : Int) = v.body by omega]
  | succ j ih =>
    have h1 := ih (by omega)
    rw [sound_happ' h0', ofTime_app, happ_app, ofTime_stops, if_neg (by omega)]
    have e : ofTime ((h + (j + 1) : Nat) : Int) evs = [] := by
      unfold ofTime
      refine List.filter_eq_nil_iff.2 fun u hu => ?_
      have := hh u hu
      simp; omega
    rw [e]
    show (plAt bm most (sortedE (evs ++ stops h nb)) (h + j + 1)).2.vs = []
    rw [plAt_vs, h1]
    rfl
end
end Go.Proofs.Ytndnfhhdflmfcaa

/-
Strikes counted; events put in order by insertion. Plain.
-/
namespace Go.Proofs.Ytndnfhhdflmfcaa
open Go Go.RowKit Ieee

/-- How many strikes happen before a time. -/
def isStr (n : Int) (e : Ev) : Bool := decide (e.2.1 = 1) && decide (e.1 < n)
def cS (n : Int) (L : List Ev) : Nat := (L.filter (isStr n)).length
def strs (L : List Ev) : Nat := (L.filter fun e => decide (e.2.1 = 1)).length
theorem cS_zero {L : List Ev} (h0 : ∀ e ∈ L, 0 ≤ e.1) : cS 0 L = 0 := by
  unfold cS
  rw [List.filter_eq_nil_iff.2 fun e he => by have := h0 e he; simp [isStr]; omega]
  rfl
theorem cS_succ (n : Int) (L : List Ev) : cS (n + 1) L = cS n L + strs (ofTime n L) := by
  induction L with
  | nil => rfl
  | cons e L ih =>
    unfold cS strs ofTime at *
    by_cases hk : e.2.1 = 1
    · rcases Int.lt_trichotomy e.1 n with h | h | h
      · rw [List.filter_cons_of_pos (by simp [isStr, hk]; omega), List.filter_cons_of_pos (by simp [isStr, hk]; omega), List.filter_cons_of_neg (by simp; omega)]
        simp only [List.length_cons]; omega
      · rw [List.filter_cons_of_pos (by simp [isStr, hk]; omega), List.filter_cons_of_neg (by simp [isStr, hk]; omega), List.filter_cons_of_pos (by simp [h]), List.filter_cons_of_pos (by simp [hk])]
        simp only [List.length_cons]; omega
      · rw [List.filter_cons_of_neg (by simp [isStr, hk]; omega), List.filter_cons_of_neg (by simp [isStr, hk]; omega), List.filter_cons_of_neg (by simp; omega)]
        exact ih
    · rw [List.filter_cons_of_neg (by simp [isStr, hk]), List.filter_cons_of_neg (by simp [isStr, hk])]
      by_cases h : e.1 = n
      · rw [List.filter_cons_of_pos (by simp [h]), List.filter_cons_of_neg (by simp [hk])]
        exact ih
      · rw [List.filter_cons_of_neg (by simp [h])]
        exact ih
theorem cS_eq {O L : List Ev} (hO : ∀ e ∈ O, 0 ≤ e.1) (hL : ∀ e ∈ L, 0 ≤ e.1) (h : ∀ x, ofTime x O = ofTime x L) (n : Nat) : cS n O = cS n L := by
  induction n with
  | zero => rw [show ((0 : Nat) : Int) = 0 from rfl, cS_zero hO, cS_zero hL]
  | succ n ih =>
    rw [show ((n + 1 : Nat) : Int) = (n : Int) + 1 by omega, cS_succ, cS_succ, ih, h]
theorem cS_mono {m n : Int} (h : m ≤ n) (L : List Ev) : cS m L ≤ cS n L := by
  unfold cS
  induction L with
  | nil => exact Nat.le_refl _
  | cons e L ih =>
    by_cases h1 : isStr m e = true
    · have h2 : isStr n e = true := by
        simp only [isStr, Bool.and_eq_true, decide_eq_true_eq] at h1 ⊢
        exact ⟨h1.1, by omega⟩
      rw [List.filter_cons_of_pos h1, List.filter_cons_of_pos h2]
      simp only [List.length_cons]; omega
    · rw [List.filter_cons_of_neg h1]
      by_cases h2 : isStr n e = true
      · rw [List.filter_cons_of_pos h2]
        simp only [List.length_cons]; omega
      · rw [List.filter_cons_of_neg h2]
        exact ih
theorem cS_app (n : Int) (L M : List Ev) : cS n (L ++ M) = cS n L + cS n M := by unfold cS; rw [List.filter_append, List.length_append]
section
variable {bm : Int → List MW} {most : Int}
theorem happ_begun (l : List Ev) (p : Pl) : (happ bm most l p).begun = p.begun + strs l := by
  induction l generalizing p with
  | nil => simp [happ, strs]
  | cons e l ih =>
    show (happ bm most l (p.happen bm most e)).begun = _
    rw [ih]
    unfold strs
    by_cases hk : e.2.1 = 1
    · rw [List.filter_cons_of_pos (by simp [hk])]
      have : (p.happen bm most e).begun = p.begun + 1 := by unfold Pl.happen; rw [if_pos hk]
      rw [this, List.length_cons]; omega
    · rw [List.filter_cons_of_neg (by simp [hk])]
      have : (p.happen bm most e).begun = p.begun := by
        unfold Pl.happen; rw [if_neg hk]; split <;> rfl
      rw [this]
theorem begun_cnt {evs : List Ev} (h0 : ∀ e ∈ evs, 0 ≤ e.1) (n : Nat) : (plAt bm most (sortedE evs) n).2.begun = cS n evs := by
  induction n with
  | zero => rw [show ((0 : Nat) : Int) = 0 from rfl, cS_zero h0]; rfl
  | succ n ih =>
    show (arriveP bm most n ((sortedE evs).drop (plAt bm most (sortedE evs) n).1) (plAt bm most (sortedE evs) n).2).2.begun = _
    rw [sound_happ h0, happ_begun, ih, show ((n + 1 : Nat) : Int) = (n : Int) + 1 by omega, cS_succ]
    omega
/-- What sounds in a sample has begun. -/
theorem snd_lt {evs : List Ev} (h0 : ∀ e ∈ evs, 0 ≤ e.1) {t : Nat} {j : Int} (h : Snd bm most (sortedE evs) t j) : 0 ≤ j ∧ j < cS (t + 1) evs := by
  obtain ⟨x, hx, rfl⟩ := h
  have h1 := (arriveP_tr (bm := bm) (most := most) (now := t) (l := (sortedE evs).drop (plAt bm most (sortedE evs) t).1) (plAt_tr bm most (sortedE evs) t)).2 x hx
  have h2 := begun_cnt (bm := bm) (most := most) h0 (t + 1)
  rw [show ((t : Int) + 1) = ((t + 1 : Nat) : Int) by omega, ← h2]
  exact h1
end
/-- Where an event is put into a list. -/
def posE (O : List Ev) (x : Int) : Nat → Nat
  | 0 => 0
  | j + 1 => if x < (eAt O j).1 then posE O x j else j + 1
theorem posE_le (O : List Ev) (x : Int) (j : Nat) : posE O x j ≤ j := by
  induction j with
  | zero => exact Nat.le_refl _
  | succ j ih => unfold posE; split <;> omega
theorem posE_hi (O : List Ev) (x : Int) (j i : Nat) (h : posE O x j ≤ i) (hi : i < j) : x < (eAt O i).1 := by
  induction j with
  | zero => omega
  | succ j ih =>
    unfold posE at h
    split at h
    · rcases Nat.lt_or_ge i j with q | q
      · exact ih h q
      · have : i = j := by omega
        subst this; assumption
    · omega
theorem posE_lo (O : List Ev) (x : Int) (j : Nat) (h : 0 < posE O x j) : (eAt O (posE O x j - 1)).1 ≤ x := by
  induction j with
  | zero => simp [posE] at h
  | succ j ih =>
    unfold posE at h ⊢
    split
    · rw [if_pos ‹_›] at h
      exact ih h
    · simp only [Nat.add_sub_cancel]; omega
def insE (O : List Ev) (e : Ev) : List Ev := O.take (posE O e.1 O.length) ++ [e] ++ O.drop (posE O e.1 O.length)
theorem insE_len (O : List Ev) (e : Ev) : (insE O e).length = O.length + 1 := by
  have := posE_le O e.1 O.length
  unfold insE
  simp; omega
theorem mem_drop_at {O : List Ev} {p : Nat} {u : Ev} (h : u ∈ O.drop p) : ∃ i, p ≤ i ∧ i < O.length ∧ u = eAt O i := by
  obtain ⟨i, hi⟩ := List.getElem?_of_mem h
  rw [List.getElem?_drop] at hi
  obtain ⟨h1, h2⟩ := List.getElem?_eq_some_iff.1 hi
  exact ⟨p + i, by omega, h1, by simp [eAt, List.getD, hi]⟩
theorem insE_time (O : List Ev) (e : Ev) (x : Int) : ofTime x (insE O e) = ofTime x (O ++ [e]) := by
  unfold insE
  rw [ofTime_app, ofTime_app, ofTime_app]
  have hO : ofTime x O = ofTime x (O.take (posE O e.1 O.length)) ++ ofTime x (O.drop (posE O e.1 O.length)) := by rw [← ofTime_app, List.take_append_drop]
  rw [hO]
  by_cases h : e.1 = x
  · have hd : ofTime x (O.drop (posE O e.1 O.length)) = [] := by
      unfold ofTime
      refine List.filter_eq_nil_iff.2 fun u hu => ?_
      obtain ⟨i, h1, h2, rfl⟩ := mem_drop_at hu
      have := posE_hi O e.1 O.length i h1 h2
      simp; omega
    rw [hd]; simp
  · have he : ofTime x [e] = [] := by
      unfold ofTime
      exact List.filter_eq_nil_iff.2 fun u hu => by rw [List.mem_singleton.1 hu]; simp [h]
    rw [he]; simp
theorem eAt_get {O : List Ev} {i : Nat} (h : i < O.length) : eAt O i = O[i] := by simp [eAt, List.getD, List.getElem?_eq_getElem h]
theorem insE_sorted {O : List Ev} (e : Ev) (h : Sorted O) : Sorted (insE O e) := by
  have hp := posE_le O e.1 O.length
  have ha : Sorted (O.take (posE O e.1 O.length)) := h.sublist (List.take_sublist _ _)
  have hb : Sorted (O.drop (posE O e.1 O.length)) := h.sublist (List.drop_sublist _ _)
  have hlow : ∀ u ∈ O.take (posE O e.1 O.length), u.1 ≤ e.1 := fun u hu => by
    obtain ⟨i, hi⟩ := List.getElem?_of_mem hu
    rw [List.getElem?_take] at hi
    split at hi
    · rename_i hip
      obtain ⟨h1, h2⟩ := List.getElem?_eq_some_iff.1 hi
      have h3 := posE_lo O e.1 O.length (by omega)
      rcases Nat.lt_or_ge i (posE O e.1 O.length - 1) with q | q
      · have h4 := List.pairwise_iff_getElem.1 h i (posE O e.1 O.length - 1) h1 (by omega) q
        rw [h2] at h4
        rw [eAt_get (by omega)] at h3
        omega
      · have : i = posE O e.1 O.length - 1 := by omega
        rw [← this, eAt_get h1, h2] at h3
        exact h3
    · cases hi
  have hhigh : ∀ u ∈ O.drop (posE O e.1 O.length), e.1 ≤ u.1 := fun u hu => by
    obtain ⟨i, h1, h2, rfl⟩ := mem_drop_at hu
    have := posE_hi O e.1 O.length i h1 h2
    omega
  unfold insE
  refine List.pairwise_append.2 ⟨List.pairwise_append.2 ⟨ha, List.pairwise_singleton _ _, fun a h1 b h2 => by rw [List.mem_singleton.1 h2]; exact hlow a h1⟩, hb, fun a h1 b h2 => ?_⟩
  rcases List.mem_append.1 h1 with h1 | h1
  · exact Int.le_trans (hlow a h1) (hhigh b h2)
  · rw [List.mem_singleton.1 h1]; exact hhigh b h2
/-- What is told of events put in order. -/
structure OrdOk (evs O : List Ev) : Prop where
  len : O.length = evs.length
  srt : Sorted O
  tm : ∀ x, ofTime x O = ofTime x evs
  mem : ∀ e ∈ O, e ∈ evs
theorem OrdOk.nil : OrdOk [] [] := ⟨rfl, List.Pairwise.nil, fun _ => rfl, fun e h => by cases h⟩
theorem OrdOk.ins {evs O : List Ev} (h : OrdOk evs O) (e : Ev) : OrdOk (evs ++ [e]) (insE O e) := by
  refine ⟨by rw [insE_len, h.len]; simp, insE_sorted e h.srt, fun x => by rw [insE_time, ofTime_app, ofTime_app, h.tm], fun u hu => ?_⟩
  unfold insE at hu
  rcases List.mem_append.1 hu with hu | hu
  · rcases List.mem_append.1 hu with hu | hu
    · exact List.mem_append_left _ (h.mem u (List.mem_of_mem_take hu))
    · exact List.mem_append_right _ hu
  · exact List.mem_append_left _ (h.mem u (List.mem_of_mem_drop hu))
/-- The strikes ahead of an event that is later than t. -/
theorem strikes_ahead {O : List Ev} (hs : Sorted O) {i : Nat} (hi : i < O.length) {t : Nat} {L : Int} (ht : (t : Int) < (eAt O i).1) (hL : (eAt O i).1 ≤ L) : cS (t + 1) O ≤ cS L (O.take i) := by
  have e : O = O.take i ++ O.drop i := (List.take_append_drop i O).symm
  have h1 : cS (t + 1) (O.drop i) = 0 := by
    unfold cS
    rw [List.filter_eq_nil_iff.2 fun u hu => ?_]
    · rfl
    · obtain ⟨j, h1, h2, rfl⟩ := mem_drop_at hu
      have h3 : (eAt O i).1 ≤ (eAt O j).1 := by
        rcases Nat.lt_or_ge i j with q | q
        · have := List.pairwise_iff_getElem.1 hs i j hi h2 q
          rw [eAt_get hi, eAt_get h2]; exact this
        · have : i = j := by omega
          subst this; exact Int.le_refl _
      simp [isStr]; omega
  have h2 : cS (t + 1) O = cS (t + 1) (O.take i) := by
    conv => lhs; rw [e]
    rw [cS_app, h1]; rfl
  rw [h2]
  exact cS_mono (by omega) _
theorem cS_take_lt {O : List Ev} {i : Nat} (hi : i < O.length) {n : Int} (hk : isStr n (eAt O i) = true) : cS n (O.take i) < cS n O := by
  have e : O = O.take i ++ O.drop i := (List.take_append_drop i O).symm
  have hd : O.drop i = eAt O i :: O.drop (i + 1) := by rw [eAt_get hi]; exact List.drop_eq_getElem_cons hi
  have h1 : cS n O = cS n (O.take i) + cS n (O.drop i) := by
    conv => lhs; rw [e]
    rw [cS_app]
  have h2 : 0 < cS n (O.drop i) := by
    rw [hd]
    unfold cS
    rw [List.filter_cons_of_pos hk, List.length_cons]
    omega
  omega
theorem cS_takeE {O : List Ev} {i : Nat} (hi : i < O.length) (n : Int) : cS n (O.take (i + 1)) = cS n (O.take i) + if isStr n (eAt O i) = true then 1 else 0 := by
  rw [takeE_succ hi, cS_app]
  unfold cS
  by_cases h : isStr n (eAt O i) = true
  · rw [List.filter_cons_of_pos h, if_pos h]; rfl
  · rw [List.filter_cons_of_neg h, if_neg h]; rfl
end Go.Proofs.Ytndnfhhdflmfcaa

/-
spec.IsBody, spec.IsScore.
-/
namespace Go.Proofs.Ytndnfhhdflmfcaa
open Go Go.RowKit Ieee

set_option maxRecDepth 100000 in
set_option maxHeartbeats 400000 in
theorem specModes_any (A : Option Addr) (c lo hi : Nat) (ms : List MW) (w : World) (h : OwnM w lo hi A c ms) (hh : hi ≤ w.heap.size) (hok : ModesOk ms) (hl : ms.length ≤ 16) :
    Calls Try.prog 108 #[.slice A ms.length c] w fun e w' => e = .returned (.bool true) ∧ Below w.heap.size w w' := by
  have H := Lib.hid h
  have HK := Lib.hid hok
  clear h hok
  go_enter Try.func108, Try.ntmps108
  go_wp2_with fail
  go_loopw [7] (fun i wr => ∃ k : Nat, i = .int .i64 (k : Int) ∧ k ≤ ms.length ∧ Hid (Below w.heap.size w wr)) (fun i _ => ms.length - (intOf i).toNat)
  case atStart => exact ⟨0, rfl, by omega, Below.refl _ _⟩
  case round =>
    obtain ⟨k, rfl, hk, hb'⟩ := hrel
    by_cases hlt : k < ms.length
    · obtain ⟨b, rfl, _, hbl, hlc, _, hcell⟩ := (H.out.below hb'.out hh).cells (by omega)
      obtain ⟨e1, e2⟩ := hcell k hlt
      have HM := Lib.hid (HK.out.at_ hlt)
      clear hcell
      generalize ms.getD k (0, 0, 0, 0) = m at *
      obtain ⟨a, b', c', d⟩ := m
      simp only at e1 e2 HM
      have HB1 : Hid (Below w.heap.size w (wr.alloc (.cells #[.complex .f32 a b', .complex .f32 c' d] 74))) := hb'.out.alloc hb'.out.size _
      go_wp2_with fail
      refine (specMode_ok a b' c' d _ HM.out).mono ?_
      rintro r w' ⟨rfl, hb2⟩
      have HB : Hid (Below w.heap.size w w') := HB1.out.trans (hb2.mono HB1.out.size)
      clear hb2 e1 e2
      go_wp2_with fail
      go_roundw
      case rel => exact ⟨k + 1, by go_num, by omega, HB⟩
      case measure => simp [intOf]; omega
    · have hl' : decide ((ms.length : Int) ≤ 16) = true := by simp; omega
      go_wp2_with fail
      go_ret
      exact ⟨by rw [← hl']; rfl, hb'.out⟩
set_option maxHeartbeats 400000 in
theorem zero_text (w : World) : Calls Try.prog 129 #[.float .f64 0] w fun e w' => e = .returned (.string ⟨#[48]⟩) ∧ Below w.heap.size w w' := by
  have hfin : feq .f64 (fo .sub .f64 0 0) 0 = true := by decide +kernel
  have s0 := fun w => (sign_flt w).1
  go_enter Try.func129, Try.ntmps129
  go_wp2_with fail
  refine (l1Finite_any _ _).mono ?_
  rintro e w' ⟨n1, rfl, rfl⟩
  rw [hfin]
  go_wp2_with fail
  go_ret
  exact ⟨rfl, below_drewN (Below.refl _ _) _⟩
set_option maxHeartbeats 400000 in
theorem zero_single (w : World) : Calls Try.prog 107 #[.float .f32 0] w fun e w' => e = .returned (.string ⟨#[48]⟩) ∧ Below w.heap.size w w' := by
  have hc : ∀ w, cR .f32 0 .f64 w = 0 := fun w => by
    have h0 : wid 0 = 0 := by decide +kernel
    have := cR_wid_fin (zero_fin .f32).1
    rw [this]; exact h0
  go_enter Try.func107, Try.ntmps107
  go_wp2_with fail
  refine (zero_text _).mono ?_
  rintro e w' ⟨rfl, hb⟩
  go_wp2_with fail
  go_ret
  exact ⟨rfl, (below_drewN (Below.refl _ _) _).trans hb⟩
set_option maxHeartbeats 400000 in
theorem zero_any (w : World) : Calls Try.prog 110 #[.float .f32 0] w fun e w' => e = .returned (.bool true) ∧ Below w.heap.size w w' := by
  go_enter Try.func110, Try.ntmps110
  go_wp2_with fail
  refine (zero_single _).mono ?_
  rintro e w' ⟨rfl, hb⟩
  go_wp2_with fail
  go_ret
  exact ⟨rfl, hb⟩
set_option maxRecDepth 100000 in
set_option maxHeartbeats 1600000 in
theorem specShape_any (kind : Int) (n : Nat) (w : World) (hk : kind = 0 ∨ kind = 1 ∨ kind = 2) (h1 : 1 ≤ n) (h2 : n ≤ 64) :
    Calls Try.prog 109 #[.int .i64 kind, .int .i64 n] w fun e w' => ∃ v, e = .returned (.tuple #[v, .bool true]) ∧ Below w.heap.size w w' := by
  have hown0 := owns_empty w 31
  have hb0 : Below w.heap.size w (w.alloc (.cells #[] 31)) := (Below.refl w.heap.size w).alloc (Nat.le_refl _) _
  have g1 : (decide ((0 : Int) ≤ kind) && decide (kind ≤ 2)) = true := by simp; omega
  have g2 : (decide ((1 : Int) ≤ (n : Int)) && decide ((n : Int) ≤ 64)) = true := by simp; omega
  go_enter Try.func109, Try.ntmps109
  go_wp2_with fail
  refine (l1In_any _ _ _ _).mono ?_
  rintro e w' ⟨rfl, rfl⟩
  rw [g1]
  go_wp2_with fail
  refine (l1In_any _ _ _ _).mono ?_
  rintro e w' ⟨rfl, rfl⟩
  rw [g2]
  go_wp2_with fail
  generalize w.alloc (.cells #[] 31) = W0 at *
  clear g1 g2
  go_loopw [6, 7] (fun v i wr => ∃ (k : Nat) (ys : List Nat), i = .int .i64 (k : Int) ∧ k ≤ n ∧ wr.ownsRow w.heap.size 31 1 v k (f32s ys) ∧ Below w.heap.size w wr) (fun _ i _ => n - (intOf i).toNat)
  case atStart => exact ⟨0, [], rfl, by omega, hown0, hb0⟩
  case round =>
    clear hown0 hb0
    obtain ⟨k, ys, rfl, hk', hown, hb⟩ := hrel
    by_cases hlt : k < n
    · have hsz := hb.size
      have HO : Hid (∀ m, (wr.drewN m).ownsRow w.heap.size 31 1 u6 k (f32s ys)) := fun m => hown
      have HB := Lib.hid (fun m => below_drewN hb m)
      have HO0 := Lib.hid hown
      clear hown
      rcases hk with rfl | rfl | rfl
      · by_cases hz : k = 0
        · have hz' : ((k : Int) == 0) = true := by simp; omega
          clear hz
          go_wp2_with (at_builtin; refine wpList_app1 rfl (.tmp 50) (.tmp 52) 28 rfl w.heap.size 31 (.float .f32 0) 4 Try.underlying28 f32_info rfl u6 k (f32s ys) _ rfl rfl rfl HO0.out hsz (by omega) (by omega) ?_; intro v' w' hown' hbel')
          go_roundw
          case rel => exact ⟨k + 1, ys ++ [_], by go_num, by omega, by simpa [f32s] using hown', hb.trans hbel'⟩
          case measure => simp [intOf]; omega
        · have hz' : ((k : Int) == 0) = false := by simp; omega
          go_wp2_with (at_builtin; refine wpList_app1 rfl (.tmp 50) (.tmp 52) 28 rfl w.heap.size 31 (.float .f32 0) 4 Try.underlying28 f32_info rfl u6 k (f32s ys) _ rfl rfl rfl HO0.out hsz (by omega) (by omega) ?_; intro v' w' hown' hbel')
          go_roundw
          case rel => exact ⟨k + 1, ys ++ [_], by go_num, by omega, by simpa [f32s] using hown', hb.trans hbel'⟩
          case measure => simp [intOf]; omega
      · obtain ⟨p1, hp1⟩ : ∃ p, floatOfInt .f32 ((k : Int) + 1) = p := ⟨_, rfl⟩
        obtain ⟨p2, hp2⟩ : ∃ p, floatOfInt .f32 (n : Int) = p := ⟨_, rfl⟩
        go_wp2_with (at_builtin; refine wpList_app1 rfl (.tmp 50) (.tmp 52) 28 rfl w.heap.size 31 (.float .f32 0) 4 Try.underlying28 f32_info rfl u6 k (f32s ys) _ rfl rfl rfl (HO.out _) hsz (by omega) (by omega) ?_; intro v' w' hown' hbel')
        go_roundw
        case rel => exact ⟨k + 1, ys ++ [_], by go_num, by omega, by simpa [f32s] using hown', (HB.out _).trans hbel'⟩
        case measure => simp [intOf]; omega
      · obtain ⟨p1, hp1⟩ : ∃ p, floatOfInt .f32 (2 * (k : Int) + 1) = p := ⟨_, rfl⟩
        obtain ⟨p2, hp2⟩ : ∃ p, floatOfInt .f32 (2 * (n : Int)) = p := ⟨_, rfl⟩
        go_wp2_with (at_builtin; refine wpList_app1 rfl (.tmp 50) (.tmp 52) 28 rfl w.heap.size 31 (.float .f32 0) 4 Try.underlying28 f32_info rfl u6 k (f32s ys) _ rfl rfl rfl (HO.out _) hsz (by omega) (by omega) ?_; intro v' w' hown' hbel')
        go_roundw
        case rel => exact ⟨k + 1, ys ++ [_], by go_num, by omega, by simpa [f32s] using hown', (HB.out _).trans hbel'⟩
        case measure => simp [intOf]; omega
    · go_wp2_with fail
      go_ret2
      exact ⟨_, rfl, hb⟩
set_option maxRecDepth 100000 in
set_option maxHeartbeats 1600000 in
theorem specEvent_any (e : Ev) (L : Int) (s : Sh) (B : Option Addr) (nb cb : Nat) (E : Option Addr) (ne ce : Nat) (w : World) (h : EvOk L nb e) (hL : L ≤ 2000) (hnb : nb ≤ 8) :
    Calls Try.prog 83 #[.agg #[.int .i64 s.1, .int .i64 s.2.1, .float .f32 s.2.2.1, .float .f32 s.2.2.2, .slice B nb cb, .slice E ne ce], .agg #[.int .i64 e.1, .int .i64 e.2.1, .int .i64 e.2.2.1, .int .i64 e.2.2.2.1, .int .i64 e.2.2.2.2.1, .float .f32 e.2.2.2.2.2]] w fun r w' => r = .returned (.bool true) ∧ Below w.heap.size w w' := by
  have hB : Hid (Below w.heap.size w ((w.alloc (.cells #[.int .i64 s.1, .int .i64 s.2.1, .float .f32 s.2.2.1, .float .f32 s.2.2.2, .slice B nb cb, .slice E ne ce] 44)).alloc (.cells #[.int .i64 e.1, .int .i64 e.2.1, .int .i64 e.2.2.1, .int .i64 e.2.2.2.1, .int .i64 e.2.2.2.2.1, .float .f32 e.2.2.2.2.2] 48))) := ((Below.refl w.heap.size w).alloc (Nat.le_refl _) _).alloc (by simp) _
  have hX : Hid (((w.alloc (.cells #[.int .i64 s.1, .int .i64 s.2.1, .float .f32 s.2.2.1, .float .f32 s.2.2.2, .slice B nb cb, .slice E ne ce] 44)).alloc (.cells #[.int .i64 e.1, .int .i64 e.2.1, .int .i64 e.2.2.1, .int .i64 e.2.2.2.1, .int .i64 e.2.2.2.2.1, .float .f32 e.2.2.2.2.2] 48)).heap[w.heap.size]? = some (.cells #[.int .i64 s.1, .int .i64 s.2.1, .float .f32 s.2.2.1, .float .f32 s.2.2.2, .slice B nb cb, .slice E ne ce] 44 (0, 0))) := (Below.heap_alloc _ _ _ (by simp)).trans (heap_alloc_new w (.cells #[.int .i64 s.1, .int .i64 s.2.1, .float .f32 s.2.2.1, .float .f32 s.2.2.2, .slice B nb cb, .slice E ne ce] 44))
  have hN : Hid (((w.alloc (.cells #[.int .i64 s.1, .int .i64 s.2.1, .float .f32 s.2.2.1, .float .f32 s.2.2.2, .slice B nb cb, .slice E ne ce] 44)).alloc (.cells #[.int .i64 e.1, .int .i64 e.2.1, .int .i64 e.2.2.1, .int .i64 e.2.2.2.1, .int .i64 e.2.2.2.2.1, .float .f32 e.2.2.2.2.2] 48)).heap[w.heap.size + 1]? = some (.cells #[.int .i64 e.1, .int .i64 e.2.1, .int .i64 e.2.2.1, .int .i64 e.2.2.2.1, .int .i64 e.2.2.2.2.1, .float .f32 e.2.2.2.2.2] 48 (0, 0))) := by
    have := heap_alloc_new (w.alloc (.cells #[.int .i64 s.1, .int .i64 s.2.1, .float .f32 s.2.2.1, .float .f32 s.2.2.2, .slice B nb cb, .slice E ne ce] 44)) (.cells #[.int .i64 e.1, .int .i64 e.2.1, .int .i64 e.2.2.1, .int .i64 e.2.2.2.1, .int .i64 e.2.2.2.2.1, .float .f32 e.2.2.2.2.2] 48)
    rwa [show (w.alloc (.cells #[.int .i64 s.1, .int .i64 s.2.1, .float .f32 s.2.2.1, .float .f32 s.2.2.2, .slice B nb cb, .slice E ne ce] 44)).heap.size = w.heap.size + 1 by simp] at this
  obtain ⟨at', kd, bo, sh, co, fo'⟩ := e
  obtain ⟨a0, a1, b0, b1, hf, hw, _, hk⟩ := h
  simp only at a0 a1 b0 b1 hf hw hk hB hX hN ⊢
  have hin : (decide ((0 : Int) ≤ at') && decide (at' ≤ 2000)) = true := by simp; omega
  have g1 : (decide ((0 : Int) ≤ bo) && decide (bo ≤ (nb : Int) - 1)) = true := by simp; omega
  have Hf := Lib.hid (cR_wid_fin hf)
  have Hfin : Hid (feq .f64 (fo .sub .f64 (wid fo') (wid fo')) 0 = true) := Lib.hid (by rw [fin_sub]; exact (finB_iff _).2 (wid_fin hf).1)
  clear hf hw
  go_enter Try.func83, Try.ntmps83
  go_wp2_with fail
  generalize (w.alloc (.cells #[.int .i64 s.1, .int .i64 s.2.1, .float .f32 s.2.2.1, .float .f32 s.2.2.2, .slice B nb cb, .slice E ne ce] 44)).alloc (.cells #[.int .i64 at', .int .i64 kd, .int .i64 bo, .int .i64 sh, .int .i64 co, .float .f32 fo'] 48) = W at *
  obtain ⟨c0, c1, c2, c3, c4, c5⟩ := sc_cells hN.out
  have x4 := (sc_cells hX.out).2.2.2.2.1
  have HZ : Hid (w.heap.size + 1 < W.heap.size) := Lib.hid (lt_of_some hN.out)
  refine (l1In_any _ _ _ _).mono ?_
  rintro r w' ⟨rfl, rfl⟩
  rw [hin]
  go_wp2_with fail
  refine (l1In_any _ _ _ _).mono ?_
  rintro r w' ⟨rfl, rfl⟩
  rw [g1]
  clear g1 hin x4
  rcases hk with ⟨rfl, ⟨hs0, hs1⟩, hc0, hc1⟩ | ⟨rfl, ⟨rfl, rfl⟩, hu0, hu1, _⟩ | ⟨rfl, ⟨rfl, rfl⟩, rfl⟩
  · obtain ⟨n, rfl⟩ : ∃ n : Nat, co = n := ⟨co.toNat, by omega⟩
    go_wp2_with fail
    refine (specShape_any sh n _ (by omega) (by omega) (by omega)).mono ?_
    rintro r W2 ⟨v, rfl, hb2⟩
    have HB2 := Lib.hid (hB.out.trans (hb2.mono hB.out.size))
    have c5' := (World.cell?_of_block (w := W) (w' := W2) (hb2.block (w.heap.size + 1) HZ.out)).trans c5
    clear hb2 c0 c1 c2 c3 c4 c5
    go_wp2_with fail
    refine (l1Finite_any _ _).mono ?_
    rintro r w' ⟨m, rfl, rfl⟩
    rw [Hf.out, Hfin.out]
    go_wp2_with fail
    go_ret
    exact ⟨rfl, below_drewN HB2.out _⟩
  · go_wp2_with fail
    go_ret
    exact ⟨rfl, hB.out⟩
  · go_wp2_with fail
    refine (zero_any _).mono ?_
    rintro r w' ⟨rfl, hb2⟩
    have HB2 := Lib.hid (hB.out.trans (hb2.mono hB.out.size))
    clear hb2
    go_wp2_with fail
    go_ret
    exact ⟨rfl, HB2.out⟩
set_option maxRecDepth 100000 in
set_option maxHeartbeats 400000 in
theorem specBody_any (b : Bd) (lo hi : Nat) (w : World) (h : OwnM w lo hi b.1 b.2.1 b.2.2) (hh : hi ≤ w.heap.size) (hok : ModesOk b.2.2) (hl : b.2.2.length ≤ 16) :
    Calls Try.prog 82 #[.agg #[.slice b.1 b.2.2.length b.2.1]] w fun r w' => r = .returned (.bool true) ∧ Below w.heap.size w w' := by
  have HB : Hid (Below w.heap.size w (w.alloc (.cells #[.slice b.1 b.2.2.length b.2.1] 62))) := (Below.refl w.heap.size w).alloc (Nat.le_refl _) _
  have HN := Lib.hid (heap_alloc_new w (.cells #[.slice b.1 b.2.2.length b.2.1] 62))
  have H := Lib.hid (h.below HB.out hh)
  have HK := Lib.hid hok
  clear h hok
  go_enter Try.func82, Try.ntmps82
  have c0 := cell_of_row _ w.heap.size 0 _ _ (0, 0) HN.out
  go_wp2_with fail
  generalize w.alloc (.cells #[.slice b.1 b.2.2.length b.2.1] 62) = W at *
  refine (specModes_any _ _ lo hi _ _ H.out (by have := HB.out.size; omega) HK.out hl).mono ?_
  rintro r w' ⟨rfl, hb⟩
  have HB2 := Lib.hid (HB.out.trans (hb.mono HB.out.size))
  clear hb
  go_wp2_with fail
  go_ret
  exact ⟨rfl, HB2.out⟩
set_option maxRecDepth 100000 in
set_option maxHeartbeats 1600000 in
theorem specScore_any (s : Sh) (B : Option Addr) (cb : Nat) (bs : List Bd) (E : Option Addr) (ce lo hi : Nat) (evs : List Ev) (w : World) (h : ScIn w lo hi B cb bs E ce evs) (hok : ScAsk s bs evs) :
    Calls Try.prog 50 #[.agg #[.int .i64 s.1, .int .i64 s.2.1, .float .f32 s.2.2.1, .float .f32 s.2.2.2, .slice B bs.length cb, .slice E evs.length ce]] w fun r w' => r = .returned (.bool true) ∧ Below w.heap.size w w' := by
  obtain ⟨⟨l0, l1, v0, v1, lim, cw, rw'⟩, hbo, heo⟩ := hok
  have hbl := hbo.1
  have hel := heo.1
  have HB : Hid (Below w.heap.size w (w.alloc (.cells #[.int .i64 s.1, .int .i64 s.2.1, .float .f32 s.2.2.1, .float .f32 s.2.2.2, .slice B bs.length cb, .slice E evs.length ce] 44))) := (Below.refl w.heap.size w).alloc (Nat.le_refl _) _
  have HN := Lib.hid (heap_alloc_new w (.cells #[.int .i64 s.1, .int .i64 s.2.1, .float .f32 s.2.2.1, .float .f32 s.2.2.2, .slice B bs.length cb, .slice E evs.length ce] 44))
  have H := Lib.hid (h.below HB.out)
  have HK := Lib.hid (And.intro hbo heo)
  have HL := Lib.hid lim
  clear h hbo heo lim
  obtain ⟨len, vo, c, r⟩ := s
  simp only at l0 l1 v0 v1 cw rw' HB HN H HK HL ⊢
  have g1 : (decide ((0 : Int) ≤ len) && decide (len ≤ 2000)) = true := by simp; omega
  have g2 : (decide ((1 : Int) ≤ vo) && decide (vo ≤ 8)) = true := by simp; omega
  go_enter Try.func50, Try.ntmps50
  obtain ⟨c0, c1, c2, c3, c4, c5⟩ := sc_cells HN.out
  go_wp2_with fail
  generalize w.alloc (.cells #[.int .i64 len, .int .i64 vo, .float .f32 c, .float .f32 r, .slice B bs.length cb, .slice E evs.length ce] 44) = W at *
  refine (l1In_any _ _ _ _).mono ?_
  rintro rr w' ⟨rfl, rfl⟩
  rw [g1]
  go_wp2_with fail
  refine (l1In_any _ _ _ _).mono ?_
  rintro rr w' ⟨rfl, rfl⟩
  rw [g2]
  go_wp2_with fail
  refine (limits_any c r _ cw rw').mono ?_
  rintro rr W2 ⟨rfl, hb⟩
  rw [HL.out]
  have HB2 := Lib.hid (HB.out.trans (hb.mono HB.out.size))
  have HN2 := Lib.hid ((hb.block _ (lt_of_some HN.out)).trans HN.out)
  have H2 := Lib.hid (H.out.below hb)
  clear hb H HN HB c0 c1 c2 c3 c4 c5 g1 g2
  obtain ⟨c0, c1, c2, c3, c4, c5⟩ := sc_cells HN2.out
  go_wp2_with fail
  clear c0 c1 c2 c3 c4 c5
  go_loopw [38] (fun i wr => ∃ k : Nat, i = .int .i64 (k : Int) ∧ k ≤ bs.length ∧ Hid (Below W2.heap.size W2 wr)) (fun i _ => bs.length - (intOf i).toNat)
  case atStart => exact ⟨0, rfl, by omega, Below.refl _ _⟩
  case round =>
    obtain ⟨k, rfl, hk, hb'⟩ := hrel
    by_cases hlt : k < bs.length
    · have H1 := Lib.hid (H2.out.bodsIn.below hb'.out)
      obtain ⟨b, off, rfl, hbl', hc⟩ := H1.out.rd (by simp; omega)
      have e1 := hc k (bodV (bodAt bs k)) (by simp [bodAt, List.getD, List.getElem?_eq_getElem hlt])
      have HM := Lib.hid (H1.out.row k hlt)
      have HK1 := Lib.hid (HK.out.1.2 k hlt)
      have HH := Lib.hid H1.out.hh
      clear hc H1
      unfold bodV at e1
      generalize bodAt bs k = v at *
      have HA : Hid (Below wr.heap.size wr (wr.alloc (.cells #[.slice v.1 v.2.2.length v.2.1] 62))) := (Below.refl _ _).alloc (Nat.le_refl _) _
      have HHa : hi ≤ (wr.alloc (.cells #[.slice v.1 v.2.2.length v.2.1] 62)).heap.size := Nat.le_trans HH.out HA.out.size
      have HMa := Lib.hid (HM.out.below HA.out HH.out)
      go_wp2_with fail
      refine (specBody_any v lo hi _ HMa.out HHa HK1.out.1 HK1.out.2).mono ?_
      rintro rr w' ⟨rfl, hb2⟩
      have HBx : Hid (Below W2.heap.size W2 w') := (hb'.out.trans (HA.out.mono hb'.out.size)).trans (hb2.mono (Nat.le_trans hb'.out.size HA.out.size))
      clear hb2 e1 HMa HA
      go_wp2_with fail
      go_roundw
      case rel => exact ⟨k + 1, by go_num, by omega, HBx⟩
      case measure => simp [intOf]; omega
    · have HB3 : Hid (Below w.heap.size w wr) := HB2.out.trans (hb'.out.mono HB2.out.size)
      have HN3 := Lib.hid ((hb'.out.block _ (lt_of_some HN2.out)).trans HN2.out)
      have H3 := Lib.hid (H2.out.below hb'.out)
      clear hb' H2 HN2 HB2
      obtain ⟨c0, c1, c2, c3, c4, c5⟩ := sc_cells HN3.out
      generalize hWr : wr = W3 at *
      clear hWr
      go_wp2_with fail
      clear c0 c1 c2 c3 c4 c5
      go_loopw [49] (fun i wr => ∃ k : Nat, i = .int .i64 (k : Int) ∧ k ≤ evs.length ∧ Hid (Below W3.heap.size W3 wr)) (fun i _ => evs.length - (intOf i).toNat)
      case atStart => exact ⟨0, rfl, by omega, Below.refl _ _⟩
      case round =>
        obtain ⟨k', rfl, hk', hb'⟩ := hrel
        by_cases hlt' : k' < evs.length
        · obtain ⟨b, rfl, _, _, hbl', hlc, _, hcell⟩ := (H3.out.evs.below hb'.out H3.out.hh).cells (by omega)
          obtain ⟨e0, e1, e2, e3, e4, e5⟩ := hcell k' hlt'
          have HM := Lib.hid (HK.out.2.at_ hlt')
          have HN4 := Lib.hid ((hb'.out.block _ (lt_of_some HN3.out)).trans HN3.out)
          obtain ⟨c0, c1, c2, c3, c4, c5⟩ := sc_cells HN4.out
          clear hcell
          generalize eAt evs k' = v at *
          have HA : Hid (Below wr.heap.size wr (wr.alloc (.cells #[.int .i64 v.1, .int .i64 v.2.1, .int .i64 v.2.2.1, .int .i64 v.2.2.2.1, .int .i64 v.2.2.2.2.1, .float .f32 v.2.2.2.2.2] 48))) := (Below.refl _ _).alloc (Nat.le_refl _) _
          obtain ⟨d0, d1, d2, d3, d4, d5⟩ := sc_cells ((HA.out.block _ (lt_of_some HN4.out)).trans HN4.out)
          go_wp2_with fail
          refine (specEvent_any v len (len, vo, c, r) B bs.length cb (some ⟨b, 0, none⟩) evs.length ce _ HM.out l1 hbl).mono ?_
          rintro rr w' ⟨rfl, hb2⟩
          have HBx : Hid (Below W3.heap.size W3 w') := (hb'.out.trans (HA.out.mono hb'.out.size)).trans (hb2.mono (Nat.le_trans hb'.out.size HA.out.size))
          clear hb2 e0 e1 e2 e3 e4 e5 HA c0 c1 c2 c3 c4 c5 d0 d1 d2 d3 d4 d5
          go_wp2_with fail
          go_roundw
          case rel => exact ⟨k' + 1, by go_num, by omega, HBx⟩
          case measure => simp [intOf]; omega
        · have HB4 : Hid (Below w.heap.size w wr) := HB3.out.trans (hb'.out.mono HB3.out.size)
          go_wp2_with fail
          go_ret
          exact ⟨rfl, HB4.out⟩
end Go.Proofs.Ytndnfhhdflmfcaa

/-
spec.OrderEvents: events put in order by insertion.
-/
namespace Go.Proofs.Ytndnfhhdflmfcaa
open Go Go.RowKit Ieee

/-- A slice that reads as events. -/
def SrcE (w : World) (A : Option Addr) (L : List Ev) : Prop := (A = none ∧ L = []) ∨ ∃ ad, A = some ad ∧ ∀ j u, (flatE L)[j]? = some u → w.cell? (ad.add j) = some u
theorem addr_add (b off j : Nat) : (⟨b, off, none⟩ : Addr).add j = ⟨b, off + j, none⟩ := by
  unfold Addr.add
  by_cases h : j = 0 <;> simp [h]
theorem flatE_app (L M : List Ev) : flatE (L ++ M) = flatE L ++ flatE M := by simp [flatE]
theorem wpList_appSlE {w : World} {ops : Array Oper} {rest : List Oper} {o : Oper} {a : Act} {Q : Exit → Act → World → Prop} (hgd : o.guard = none) (s x : Operand)
    (ho : o.op = .call { callee := .builtin .append, args := #[s, x], argTypes := #[42, 42] })
    (B : Nat) (v : Value) (n N : Nat) (X : List Ev) (A : Option Addr) (m c : Nat) (L : List Ev) (hs : a.eval s = v) (hx : a.eval x = .slice A m c) (hown : w.ownsRow B 48 6 v n (flatE X)) (hB : B ≤ w.heap.size) (hL : L.length = m) (hsrc : SrcE w A L) (hN : n + m = N) (h63 : N ≤ 1048576)
    (h : ∀ A' c' w', w'.ownsRow B 48 6 (.slice A' N c') N (flatE (X ++ L)) → Below B w w' → wpList Try.prog ops Q rest (a.put o.dst (.slice A' N c')) w') : wpList Try.prog ops Q (o :: rest) a w := by
  subst hN
  have hf : flatE (X ++ L) = flatE X ++ flatE L := by simp [flatE]
  obtain ⟨i, hi', hz, hs1, hb1⟩ := info_parts ev_info
  rcases hsrc with ⟨rfl, rfl⟩ | ⟨ad, rfl, hc⟩
  · simp only [List.length_nil] at hL
    subst hL
    refine wpList_plain hgd fun K hK => ?_
    have hrun := run_append_none (P := Try.prog) w 42 o.type 48 i Try.underlying42 hi' hown c
    unfold Oper.wp execOp
    simp only [ho, resolve, invoke, builtin, Sem.run_bind, Sem.run_pure, Result.andThen_ok, List.map_toArray, List.map_cons, List.map_nil, hs, hx, hrun]
    obtain ⟨A', c', rfl⟩ := owns_form hown
    exact hK _ _ (h A' c' w (by simpa using hown) (Below.refl _ _))
  · refine wpList_append_own _ hgd s x 42 ho B 48 i (.agg #[.int .i64 0, .int .i64 0, .int .i64 0, .int .i64 0, .int .i64 0, .float .f32 0]) 6 48 Try.underlying42 hi' hz hs1 hb1 rfl (by decide) v n (flatE X) hs hown ad m c (flatE L) hx (by rw [flatE_len, hL]) hc (flatE_one L) ?_ ?_ hB ?_
    · simp only [maxLen]; omega
    · omega
    · intro v' w' h2 h3 _
      obtain ⟨A', c', rfl⟩ := owns_form h2
      exact h A' c' w' (by rw [hf]; exact h2) ((Below.refl _ _).grown h3 hB (fun k hk => (hown.lt k hk).1))
theorem flatE_take {O : List Ev} {m j : Nat} {u : Value} (h : (flatE (O.take m))[j]? = some u) : (flatE O)[j]? = some u := by
  have e : flatE O = flatE (O.take m) ++ flatE (O.drop m) := by rw [← flatE_app, List.take_append_drop]
  rw [e]
  have hj : j < (flatE (O.take m)).length := by
    rcases Nat.lt_or_ge j (flatE (O.take m)).length with q | q
    · exact q
    · rw [List.getElem?_eq_none q] at h; cases h
  rw [List.getElem?_append_left hj]; exact h
theorem flatE_drop {O : List Ev} {m j : Nat} (hm : m ≤ O.length) : (flatE (O.drop m))[j]? = (flatE O)[m * 6 + j]? := by
  have e : flatE O = flatE (O.take m) ++ flatE (O.drop m) := by rw [← flatE_app, List.take_append_drop]
  have hl : (flatE (O.take m)).length = m * 6 := by rw [flatE_len]; simp; omega
  rw [e, List.getElem?_append_right (by omega), hl]
  congr 1
  omega
/-- What stays in a round of the insertion. -/
structure LIn (w W : World) (g : Nat) (v : Ev) (A : Option Addr) (c k : Nat) (O : List Ev) : Prop where
  own : W.ownsRow w.heap.size 48 6 (.slice A k c) k (flatE O)
  len : O.length = k
  box : W.heap[g]? = some (.cells #[.int .i64 v.1, .int .i64 v.2.1, .int .i64 v.2.2.1, .int .i64 v.2.2.2.1, .int .i64 v.2.2.2.2.1, .float .f32 v.2.2.2.2.2] 48 (0, 0))
  bel : Below w.heap.size w W
theorem LIn.new {w W W' : World} {g : Nat} {v : Ev} {A : Option Addr} {c k : Nat} {O : List Ev} (h : LIn w W g v A c k O) (hb : Below W.heap.size W W') : LIn w W' g v A c k O :=
  ⟨owns_stay h.own fun j e => hb.block j (h.own.lt j e).2, h.len, (hb.block _ (lt_of_some h.box)).trans h.box, h.bel.trans (hb.mono h.bel.size)⟩
theorem LIn.drewN {w W : World} {g : Nat} {v : Ev} {A : Option Addr} {c k : Nat} {O : List Ev} (h : LIn w W g v A c k O) (n : Nat) : LIn w (W.drewN n) g v A c k O := h.new (below_drewN (Below.refl _ _) n)
theorem LIn.ownE {w W : World} {g : Nat} {v : Ev} {A : Option Addr} {c k : Nat} {O : List Ev} (h : LIn w W g v A c k O) : OwnE W w.heap.size W.heap.size A c O := by
  have := h.own
  rw [← h.len] at this
  exact OwnE.of this
theorem LIn.src {w W : World} {g : Nat} {v : Ev} {A : Option Addr} {c k m : Nat} {O : List Ev} (h : LIn w W g v A c k O) (hm : m ≤ k) : SrcE W A (O.take m) ∧ SrcE W (if c = m then A else Option.map (fun x => x.add (m * 6)) A) (O.drop m) := by
  have hl := h.len
  rcases h.own.2 with ⟨q, h0⟩ | ⟨b, cap, cur, q, _, _, hn, _⟩
  · injection q with q1 q2 q3
    subst q1 q3
    have hO : O = [] := List.eq_nil_of_length_eq_zero (by omega)
    subst hO
    refine ⟨.inl ⟨rfl, by simp⟩, .inl ⟨?_, by simp⟩⟩
    split <;> rfl
  · injection q with q1 q2 q3
    subst q1 q3
    have hfl := h.ownE.flat
    refine ⟨.inr ⟨_, rfl, fun j u hu => ?_⟩, ?_⟩
    · rw [addr_add, Nat.zero_add]
      exact hfl j u (flatE_take hu)
    · by_cases hc : c = m
      · rw [if_pos hc]
        have hd : O.drop m = [] := List.drop_eq_nil_of_le (by omega)
        rw [hd]
        exact .inr ⟨_, rfl, fun j u hu => by simp [flatE] at hu⟩
      · rw [if_neg hc]
        refine .inr ⟨_, rfl, fun j u hu => ?_⟩
        show W.cell? (((⟨b, 0, none⟩ : Addr).add (m * 6)).add j) = some u
        rw [addr_add, addr_add, Nat.zero_add]
        rw [flatE_drop (by omega)] at hu
        exact hfl _ u hu
theorem LIn.caps {w W : World} {g : Nat} {v : Ev} {A : Option Addr} {c k : Nat} {O : List Ev} (h : LIn w W g v A c k O) : k ≤ c ∧ c ≤ 9223372036854775807 := by
  rcases h.own.2 with ⟨q, h0⟩ | ⟨b, cap, cur, q, _, _, hn, hx, _⟩
  · injection q with q1 q2 q3
    omega
  · injection q with q1 q2 q3
    subst q3
    exact ⟨hn, hx⟩
set_option maxRecDepth 100000 in
set_option maxHeartbeats 3200000 in
theorem l7Ordered_any (E : Option Addr) (ce lo hi : Nat) (evs : List Ev) (w : World) (h : OwnE w lo hi E ce evs) (hh : hi ≤ w.heap.size) (hl : evs.length ≤ 60) :
    Calls Try.prog 51 #[.slice E evs.length ce] w fun r w' => ∃ (A : Option Addr) (c : Nat) (O : List Ev), r = .returned (.slice A evs.length c) ∧ w'.ownsRow w.heap.size 48 6 (.slice A evs.length c) evs.length (flatE O) ∧ OrdOk evs O ∧ Below w.heap.size w w' := by
  have H := Lib.hid h
  clear h
  have HO0 : Hid ((w.alloc (.cells #[] 48)).ownsRow w.heap.size 48 6 (.slice (some ⟨w.heap.size, 0, none⟩) 0 0) 0 (flatE [])) := ⟨by simp [flatE], .inr ⟨w.heap.size, 0, #[], rfl, Nat.le_refl _, heap_alloc_new w _, Nat.le_refl _, by simp [maxLen], by simp, by simp [flatE]⟩⟩
  have HB0 : Hid (Below w.heap.size w (w.alloc (.cells #[] 48))) := (Below.refl w.heap.size w).alloc (Nat.le_refl _) _
  go_enter Try.func51, Try.ntmps51
  go_wp2_with fail
  generalize w.alloc (.cells #[] 48) = W0 at *
  go_loopw [3, 11] (fun u i wr => ∃ (k : Nat) (A : Option Addr) (c : Nat) (O : List Ev), i = .int .i64 (k : Int) ∧ k ≤ evs.length ∧ u = .slice A k c ∧ Hid (wr.ownsRow w.heap.size 48 6 (.slice A k c) k (flatE O)) ∧ Hid (OrdOk (evs.take k) O) ∧ Hid (Below w.heap.size w wr)) (fun _ i _ => evs.length - (intOf i).toNat)
  case atStart => exact ⟨0, _, 0, [], rfl, by omega, rfl, HO0, OrdOk.nil, HB0⟩
  case round =>
    clear HO0 HB0
    obtain ⟨k, A, c, O, rfl, hk, rfl, HO, HOk, HB⟩ := hrel
    by_cases hlt : k < evs.length
    · obtain ⟨eb, rfl, _, _, hbl', hlc, _, hcell⟩ := (H.out.below HB.out hh).cells (by omega)
      obtain ⟨e0, e1, e2, e3, e4, e5⟩ := hcell k hlt
      clear hcell
      have HTk := Lib.hid (takeE_succ hlt)
      generalize eAt evs k = v at *
      have b1 : Below wr.heap.size wr (wr.alloc (.cells #[.int .i64 v.1, .int .i64 v.2.1, .int .i64 v.2.2.1, .int .i64 v.2.2.2.1, .int .i64 v.2.2.2.2.1, .float .f32 v.2.2.2.2.2] 48)) := (Below.refl _ _).alloc (Nat.le_refl _) _
      have HL : Hid (LIn w (wr.alloc (.cells #[.int .i64 v.1, .int .i64 v.2.1, .int .i64 v.2.2.1, .int .i64 v.2.2.2.1, .int .i64 v.2.2.2.2.1, .float .f32 v.2.2.2.2.2] 48)) wr.heap.size v A c k O) :=
        ⟨owns_stay HO.out fun j e => b1.block j (HO.out.lt j e).2, by have := HOk.out.len; rw [List.length_take] at this; omega, heap_alloc_new wr _, HB.out.trans (b1.mono HB.out.size)⟩
      clear b1 HO HB
      go_wp2_with fail
      clear e0 e1 e2 e3 e4 e5
      generalize wr.alloc (.cells #[.int .i64 v.1, .int .i64 v.2.1, .int .i64 v.2.2.1, .int .i64 v.2.2.2.1, .int .i64 v.2.2.2.2.1, .float .f32 v.2.2.2.2.2] 48) = W1 at *
      generalize wr.heap.size = g at *
      go_loopw [6] (fun i wr => ∃ m : Nat, i = .int .i64 (m : Int) ∧ m ≤ k ∧ Hid (posE O v.1 k = posE O v.1 m) ∧ Hid (LIn w wr g v A c k O)) (fun i _ => (intOf i).toNat)
      case atStart => exact ⟨k, rfl, by omega, rfl, HL⟩
      case round =>
        clear HL
        obtain ⟨m, rfl, hm, HPe, HL⟩ := hrel
        by_cases hz : m = 0
        · have HPm : Hid (posE O v.1 m = m) := Lib.hid (by rw [hz]; rfl)
          have j1 : ¬ (0 : Int) < (m : Int) := by omega
          have j2 : decide ((0 : Int) < (m : Int)) = false := by simpa using j1
          have j3 : decide (0 < m) = false := by simp; omega
          clear hz
          go_wp2_with fail
          go_quiet (fail)
          have HLv := Lib.hid (HL.out.drewN nq)
          clear HL
          generalize wr.drewN nq = V at *
          have hcp := HLv.out.caps
          have hmc : (m : Int) ≤ (c : Int) := by omega
          have hmk : (m : Int) ≤ (k : Int) := by omega
          have HO1 : Hid ((V.alloc (.cells #[] 48)).ownsRow V.heap.size 48 6 (.slice (some ⟨V.heap.size, 0, none⟩) 0 0) 0 (flatE [])) := ⟨by simp [flatE], .inr ⟨V.heap.size, 0, #[], rfl, Nat.le_refl _, heap_alloc_new V _, Nat.le_refl _, by simp [maxLen], by simp, by simp [flatE]⟩⟩
          have HB1 : Hid (Below V.heap.size V (V.alloc (.cells #[] 48))) := (Below.refl _ _).alloc (Nat.le_refl _) _
          have HL1 := Lib.hid (HLv.out.new HB1.out)
          have hvz : V.heap.size ≤ (V.alloc (.cells #[] 48)).heap.size := by simp
          have HTl : Hid ((O.take m).length = m) := Lib.hid (by rw [List.length_take, HLv.out.len]; omega)
          have HDl : Hid ((O.drop m).length = k - m) := Lib.hid (by rw [List.length_drop, HLv.out.len])
          go_wp2_with (first
            | (at_builtin; refine wpList_appSlE rfl (.tmp 32) (.tmp 35) rfl V.heap.size (.slice (some ⟨V.heap.size, 0, none⟩) 0 0) 0 m [] _ m c (O.take m) (by rfl) (by rfl) HO1.out hvz HTl.out (HL1.out.src hm).1 (by omega) (by omega) ?_; intro A7 c7 W7 hown7 hb7; have HB7 := Lib.hid (HB1.out.trans hb7); have HL7 := Lib.hid (HLv.out.new HB7.out); obtain ⟨x0, x1, x2, x3, x4, x5⟩ := sc_cells HL7.out.box; have b8 : Below W7.heap.size W7 (W7.alloc (.cells #[.int .i64 v.1, .int .i64 v.2.1, .int .i64 v.2.2.1, .int .i64 v.2.2.2.1, .int .i64 v.2.2.2.2.1, .float .f32 v.2.2.2.2.2] 48)) := (Below.refl _ _).alloc (Nat.le_refl _) _; have HO8 := Lib.hid (owns_stay hown7 fun j e => b8.block j (hown7.lt j e).2); have HB8 := Lib.hid (HB7.out.trans (b8.mono HB7.out.size)); have hz8 := HB8.out.size; have HS8 : Hid (SrcE (W7.alloc (.cells #[.int .i64 v.1, .int .i64 v.2.1, .int .i64 v.2.2.1, .int .i64 v.2.2.2.1, .int .i64 v.2.2.2.2.1, .float .f32 v.2.2.2.2.2] 48)) (some ⟨W7.heap.size, 0, none⟩) [v]) := Lib.hid (.inr ⟨_, rfl, fun j u hu => by rw [addr_add, Nat.zero_add]; exact (cell_of_row _ _ j _ _ (0, 0) (heap_alloc_new W7 (.cells #[.int .i64 v.1, .int .i64 v.2.1, .int .i64 v.2.2.1, .int .i64 v.2.2.2.1, .int .i64 v.2.2.2.2.1, .float .f32 v.2.2.2.2.2] 48))).trans (by simpa [flatE, evV] using hu)⟩); clear hown7 hb7 b8)
            | (at_builtin; refine wpList_appSlE rfl (.tmp 37) (.tmp 39) rfl V.heap.size (.slice A7 m c7) m (m + 1) ([] ++ O.take m) (some ⟨W7.heap.size, 0, none⟩) 1 1 [v] (by rfl) (by rfl) HO8.out hz8 rfl HS8.out rfl (by omega) ?_; intro A9 c9 W9 hown9 hb9; have HB9 := Lib.hid (HB8.out.trans hb9); have HL9 := Lib.hid (HLv.out.new HB9.out); have HO9 := Lib.hid hown9; have hz9 := HB9.out.size; clear hown9 hb9)
            | (at_builtin; refine wpList_appSlE rfl (.tmp 41) (.tmp 44) rfl V.heap.size (.slice A9 (m + 1) c9) (m + 1) (k + 1) (([] ++ O.take m) ++ [v]) _ (k - m) (c - m) (O.drop m) (by rfl) (by rfl) HO9.out hz9 HDl.out (HL9.out.src hm).2 (by omega) (by omega) ?_; intro A11 c11 W11 hown11 hb11; have HB11 := Lib.hid (HB9.out.trans hb11); have HO11 := Lib.hid hown11; clear hown11 hb11))
          have HPi : Hid (insE O v = O.take m ++ [v] ++ O.drop m) := Lib.hid (by unfold insE; rw [HLv.out.len, HPe.out, HPm.out])
          have HOk2 : Hid (OrdOk (evs.take (k + 1)) (insE O v)) := Lib.hid (by rw [HTk.out]; exact HOk.out.ins v)
          have HO12 : Hid (W11.ownsRow w.heap.size 48 6 (.slice A11 (k + 1) c11) (k + 1) (flatE (insE O v))) := Lib.hid (by rw [HPi.out]; exact owns_lower HO11.out HLv.out.bel.size)
          have HB12 : Hid (Below w.heap.size w W11) := Lib.hid (HLv.out.bel.trans (HB11.out.mono HLv.out.bel.size))
          go_roundw
          case rel => exact ⟨k + 1, A11, c11, insE O v, by go_num, by omega, rfl, HO12, HOk2, HB12⟩
          case measure => simp [intOf]; omega
        · obtain ⟨b, hA, _, _, _, _, _, hcell⟩ := HL.out.ownE.cells (by rw [HL.out.len]; omega)
          subst hA
          obtain ⟨d0, _⟩ := hcell (m - 1) (by rw [HL.out.len]; omega)
          have c0 := cell_of_row _ g 0 _ _ (0, 0) HL.out.box
          have j0 : (0 : Int) < (m : Int) := by omega
          have j0n : decide (0 < m) = true := by simp; omega
          have j2 : (m : Int) - 1 < (k : Int) := by omega
          have j3 : 0 ≤ (m : Int) - 1 := by omega
          have j4 : ((m : Int) - 1).toNat = m - 1 := by omega
          clear hcell
          by_cases hgt : v.1 < (eAt O (m - 1)).1
          · have HP2 : Hid (posE O v.1 k = posE O v.1 (m - 1)) := Lib.hid (by
              rw [HPe.out]
              obtain ⟨m', rfl⟩ : ∃ m', m = m' + 1 := ⟨m - 1, by omega⟩
              simp only [Nat.add_sub_cancel] at hgt ⊢
              rw [posE, if_pos hgt])
            generalize (eAt O (m - 1)).1 = y at *
            go_wp2_with fail
            go_quiet (fail)
            go_wp2_with fail
            have HL2 := Lib.hid (HL.out.drewN nq)
            clear HL d0 c0
            go_roundw
            case rel => exact ⟨m - 1, by congr 1; omega, by omega, HP2, HL2⟩
            case measure => simp [intOf]; omega
          · have HPm : Hid (posE O v.1 m = m) := Lib.hid (by
              obtain ⟨m', rfl⟩ : ∃ m', m = m' + 1 := ⟨m - 1, by omega⟩
              simp only [Nat.add_sub_cancel] at hgt
              rw [posE, if_neg hgt])
            generalize (eAt O (m - 1)).1 = y at *
            have hgt' : decide (v.1 < y) = false := by simpa using hgt
            go_wp2_with fail
            go_quiet (fail)
            clear d0 c0
            generalize (some (⟨b, 0, none⟩ : Addr)) = A at *
            have HLv := Lib.hid (HL.out.drewN nq)
            clear HL
            generalize wr.drewN nq = V at *
            have hcp := HLv.out.caps
            have hmc : (m : Int) ≤ (c : Int) := by omega
            have hmk : (m : Int) ≤ (k : Int) := by omega
            have HO1 : Hid ((V.alloc (.cells #[] 48)).ownsRow V.heap.size 48 6 (.slice (some ⟨V.heap.size, 0, none⟩) 0 0) 0 (flatE [])) := ⟨by simp [flatE], .inr ⟨V.heap.size, 0, #[], rfl, Nat.le_refl _, heap_alloc_new V _, Nat.le_refl _, by simp [maxLen], by simp, by simp [flatE]⟩⟩
            have HB1 : Hid (Below V.heap.size V (V.alloc (.cells #[] 48))) := (Below.refl _ _).alloc (Nat.le_refl _) _
            have HL1 := Lib.hid (HLv.out.new HB1.out)
            have hvz : V.heap.size ≤ (V.alloc (.cells #[] 48)).heap.size := by simp
            have HTl : Hid ((O.take m).length = m) := Lib.hid (by rw [List.length_take, HLv.out.len]; omega)
            have HDl : Hid ((O.drop m).length = k - m) := Lib.hid (by rw [List.length_drop, HLv.out.len])
            go_wp2_with (first
              | (at_builtin; refine wpList_appSlE rfl (.tmp 32) (.tmp 35) rfl V.heap.size (.slice (some ⟨V.heap.size, 0, none⟩) 0 0) 0 m [] _ m c (O.take m) (by rfl) (by rfl) HO1.out hvz HTl.out (HL1.out.src hm).1 (by omega) (by omega) ?_; intro A7 c7 W7 hown7 hb7; have HB7 := Lib.hid (HB1.out.trans hb7); have HL7 := Lib.hid (HLv.out.new HB7.out); obtain ⟨x0, x1, x2, x3, x4, x5⟩ := sc_cells HL7.out.box; have b8 : Below W7.heap.size W7 (W7.alloc (.cells #[.int .i64 v.1, .int .i64 v.2.1, .int .i64 v.2.2.1, .int .i64 v.2.2.2.1, .int .i64 v.2.2.2.2.1, .float .f32 v.2.2.2.2.2] 48)) := (Below.refl _ _).alloc (Nat.le_refl _) _; have HO8 := Lib.hid (owns_stay hown7 fun j e => b8.block j (hown7.lt j e).2); have HB8 := Lib.hid (HB7.out.trans (b8.mono HB7.out.size)); have hz8 := HB8.out.size; have HS8 : Hid (SrcE (W7.alloc (.cells #[.int .i64 v.1, .int .i64 v.2.1, .int .i64 v.2.2.1, .int .i64 v.2.2.2.1, .int .i64 v.2.2.2.2.1, .float .f32 v.2.2.2.2.2] 48)) (some ⟨W7.heap.size, 0, none⟩) [v]) := Lib.hid (.inr ⟨_, rfl, fun j u hu => by rw [addr_add, Nat.zero_add]; exact (cell_of_row _ _ j _ _ (0, 0) (heap_alloc_new W7 (.cells #[.int .i64 v.1, .int .i64 v.2.1, .int .i64 v.2.2.1, .int .i64 v.2.2.2.1, .int .i64 v.2.2.2.2.1, .float .f32 v.2.2.2.2.2] 48))).trans (by simpa [flatE, evV] using hu)⟩); clear hown7 hb7 b8)
              | (at_builtin; refine wpList_appSlE rfl (.tmp 37) (.tmp 39) rfl V.heap.size (.slice A7 m c7) m (m + 1) ([] ++ O.take m) (some ⟨W7.heap.size, 0, none⟩) 1 1 [v] (by rfl) (by rfl) HO8.out hz8 rfl HS8.out rfl (by omega) ?_; intro A9 c9 W9 hown9 hb9; have HB9 := Lib.hid (HB8.out.trans hb9); have HL9 := Lib.hid (HLv.out.new HB9.out); have HO9 := Lib.hid hown9; have hz9 := HB9.out.size; clear hown9 hb9)
              | (at_builtin; refine wpList_appSlE rfl (.tmp 41) (.tmp 44) rfl V.heap.size (.slice A9 (m + 1) c9) (m + 1) (k + 1) (([] ++ O.take m) ++ [v]) _ (k - m) (c - m) (O.drop m) (by rfl) (by rfl) HO9.out hz9 HDl.out (HL9.out.src hm).2 (by omega) (by omega) ?_; intro A11 c11 W11 hown11 hb11; have HB11 := Lib.hid (HB9.out.trans hb11); have HO11 := Lib.hid hown11; clear hown11 hb11))
            have HPi : Hid (insE O v = O.take m ++ [v] ++ O.drop m) := Lib.hid (by unfold insE; rw [HLv.out.len, HPe.out, HPm.out])
            have HOk2 : Hid (OrdOk (evs.take (k + 1)) (insE O v)) := Lib.hid (by rw [HTk.out]; exact HOk.out.ins v)
            have HO12 : Hid (W11.ownsRow w.heap.size 48 6 (.slice A11 (k + 1) c11) (k + 1) (flatE (insE O v))) := Lib.hid (by rw [HPi.out]; exact owns_lower HO11.out HLv.out.bel.size)
            have HB12 : Hid (Below w.heap.size w W11) := Lib.hid (HLv.out.bel.trans (HB11.out.mono HLv.out.bel.size))
            go_roundw
            case rel => exact ⟨k + 1, A11, c11, insE O v, by go_num, by omega, rfl, HO12, HOk2, HB12⟩
            case measure => simp [intOf]; omega
    · obtain rfl : k = evs.length := by omega
      have HOk' := HOk.out
      rw [List.take_length] at HOk'
      have HK := Lib.hid HOk'
      clear HOk'
      go_wp2_with fail
      go_ret
      exact ⟨A, c, O, rfl, HO.out, HK.out, HB.out⟩
set_option maxRecDepth 100000 in
set_option maxHeartbeats 800000 in
theorem specOrder_any (s : Sh) (B : Option Addr) (cb : Nat) (bs : List Bd) (E : Option Addr) (ce lo hi : Nat) (evs : List Ev) (w : World) (h : ScIn w lo hi B cb bs E ce evs) (hok : ScAsk s bs evs) :
    Calls Try.prog 24 #[.agg #[.int .i64 s.1, .int .i64 s.2.1, .float .f32 s.2.2.1, .float .f32 s.2.2.2, .slice B bs.length cb, .slice E evs.length ce]] w fun r w' => ∃ (A : Option Addr) (c : Nat) (O : List Ev), r = .returned (.slice A evs.length c) ∧ w'.ownsRow w.heap.size 48 6 (.slice A evs.length c) evs.length (flatE O) ∧ OrdOk evs O ∧ Below w.heap.size w w' := by
  have HB : Hid (Below w.heap.size w (w.alloc (.cells #[.int .i64 s.1, .int .i64 s.2.1, .float .f32 s.2.2.1, .float .f32 s.2.2.2, .slice B bs.length cb, .slice E evs.length ce] 44))) := (Below.refl w.heap.size w).alloc (Nat.le_refl _) _
  have HN := Lib.hid (heap_alloc_new w (.cells #[.int .i64 s.1, .int .i64 s.2.1, .float .f32 s.2.2.1, .float .f32 s.2.2.2, .slice B bs.length cb, .slice E evs.length ce] 44))
  have H := Lib.hid (h.below HB.out)
  have HK := Lib.hid hok
  clear h hok
  go_enter Try.func24, Try.ntmps24
  obtain ⟨c0, c1, c2, c3, c4, c5⟩ := sc_cells HN.out
  go_wp2_with fail
  clear c0 c1 c2 c3 c4 c5
  generalize w.alloc (.cells #[.int .i64 s.1, .int .i64 s.2.1, .float .f32 s.2.2.1, .float .f32 s.2.2.2, .slice B bs.length cb, .slice E evs.length ce] 44) = W at *
  refine (specScore_any s B cb bs E ce lo hi evs W H.out HK.out).mono ?_
  rintro r W2 ⟨rfl, hb⟩
  have HB2 := Lib.hid (HB.out.trans (hb.mono HB.out.size))
  have HN2 := Lib.hid ((hb.block w.heap.size (lt_of_some HN.out)).trans HN.out)
  have H2 := Lib.hid (H.out.below hb)
  clear hb H HN HB
  obtain ⟨c0, c1, c2, c3, c4, c5⟩ := sc_cells HN2.out
  go_wp2_with fail
  refine (l7Ordered_any E ce lo hi evs W2 H2.out.evs H2.out.hh HK.out.evs.1).mono ?_
  rintro q W3 ⟨A', c', O, rfl, ho, hO, hb⟩
  have HP := Lib.hid (And.intro (owns_lower ho HB2.out.size) (And.intro hO (HB2.out.trans (hb.mono HB2.out.size))))
  clear ho hO hb c0 c1 c2 c3 c4 c5
  go_wp2_with fail
  go_ret
  exact ⟨A', c', O, rfl, HP.out.1, HP.out.2.1, HP.out.2.2⟩
end Go.Proofs.Ytndnfhhdflmfcaa

/-
'append' onto an empty slice without room: whatever lies at its address.
-/
namespace Go.Proofs.Ytndnfhhdflmfcaa
open Go Go.RowKit

theorem loadCells_zero {P : Program} (w : World) (a : Addr) : (loadCells a 0).run P w = .ok #[] w := by
  simp [loadCells, loadCellsFrom]
theorem run_append_empty {P : Program} (w : World) (t ty e : TypeId) (i : TypeInfo) (bytes : Nat) (ht : P.underlying t = some (.slice e)) (hi : P.info? e = some i) (hby : i.bytes = bytes) (a ad : Addr) (m c : Nat) (hm : 0 < m) (h63 : m ≤ maxLen) (hb : m * bytes ≤ 140737488355328) :
    (Builtin.append_ #[t, t] ty #[.slice (some a) 0 0, .slice (some ad) m c]).run P w = (Builtin.append_ #[t, t] ty #[.slice none 0 0, .slice (some ad) m c]).run P w := by
  have h1 : m ≠ 0 := by omega
  have h2 : ¬ (9223372036854775807 < (m : Int)) := by simp only [maxLen] at h63; omega
  have h3 : ¬ (281474976710656 < m * bytes) := by omega
  have hc : Builtin.nextslicecap m 0 = m := by simp [Builtin.nextslicecap, hm]
  simp [Builtin.append_, run_underlying ht, sizeOf, typeInfo, hi, Builtin.lenOf, Builtin.firstCells, h1, h2, h3, hc, hby, loadCells_zero]
/-- At the list of a plain region's operations. -/
theorem wpList_append_empty {P : Program} {w : World} {ops : Array Oper} {rest : List Oper} {o : Oper} {a : Act} {Q : Exit → Act → World → Prop} (hgd : o.guard = none) (s x : Operand) (t : TypeId)
    (ho : o.op = .call { callee := .builtin .append, args := #[s, x], argTypes := #[t, t] })
    (e : TypeId) (i : TypeInfo) (z : Value) (size bytes : Nat) (ht : P.underlying t = some (.slice e)) (hi : P.info? e = some i) (hz : i.zero = some z)
    (hsize : i.size = size) (hby : i.bytes = bytes) (hzs : z.cells.size = size) (hsz : 0 < size) (b : Addr) (hs : a.eval s = .slice (some b) 0 0)
    (ad : Addr) (m c : Nat) (news : List Value) (hx : a.eval x = .slice (some ad) m c) (hl : news.length = m * size) (hnews : ∀ j u, news[j]? = some u → w.cell? (ad.add j) = some u) (h1 : ∀ u ∈ news, u.oneCell' = true)
    (hm : 0 < m) (h63 : m ≤ maxLen) (hbytes : m * bytes ≤ 140737488355328)
    (h : ∀ cap w', w'.ownsRow w.heap.size e size (.slice (some ⟨w.heap.size, 0, none⟩) m cap) m news → Below w.heap.size w w' → wpList P ops Q rest (a.put o.dst (.slice (some ⟨w.heap.size, 0, none⟩) m cap)) w') : wpList P ops Q (o :: rest) a w := by
  refine wpList_plain hgd fun K hK => ?_
  obtain ⟨g, cap, w', hr, h2, h3, h4, h5⟩ := run_append_lies (P := P) w t o.type w.heap.size e i z size bytes ht hi hz hsize hby hzs hsz (.slice none 0 0) 0 [] ⟨by simp, .inl ⟨rfl, rfl⟩⟩ ad m c news hl hnews h1 hm (by omega) (by rw [Nat.zero_add]; exact hbytes) (Nat.le_refl _) w.heap.size rfl
  have hg : g = w.heap.size := by
    rcases h4 with q | q
    · cases q
    · exact q
  subst hg
  rw [Nat.zero_add] at hr h2
  rw [List.nil_append] at h2
  unfold Oper.wp execOp
  simp only [ho, resolve, invoke, builtin, Sem.run_bind, Sem.run_pure, Result.andThen_ok, List.map_toArray, List.map_cons, List.map_nil, hs, hx, run_append_empty w t o.type e i bytes ht hi hby b ad m c hm h63 hbytes, hr]
  exact hK _ _ (h cap w' h2 ⟨h3.os, h3.tape, h3.output, h3.size, fun k hk => h3.block k hk (by intro q; cases q)⟩)
end Go.Proofs.Ytndnfhhdflmfcaa
