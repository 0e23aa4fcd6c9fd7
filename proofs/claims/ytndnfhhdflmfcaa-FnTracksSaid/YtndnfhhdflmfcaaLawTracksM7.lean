/-
Part 7 of 7 of the proof of the law FnTracks: it returns true for all codes. No condition.
-/
import Derived.Test.YtndnfhhdflmfcaaLawTracksM6

/-
impl.VoicesAt.
-/
namespace Go.Proofs.Ytndnfhhdflmfcaa
open Go Go.RowKit Ieee

/-- What VoicesAt returns. -/
def VAP (w : World) (s : Sh) (bs : List Bd) (evs : List Ev) (t : Nat) (r : Ending) (w' : World) : Prop :=
  ∃ (A : Option Addr) (ca m : Nat), r = .returned (.tuple #[.slice A m ca, .bool true]) ∧ m = (soundP (bmOf bs) s.2.1 (sortedE evs) t (plAt (bmOf bs) s.2.1 (sortedE evs) t)).length ∧ Below w.heap.size w w'
/-- The row of numbers that are gathered: at first it is empty, and nothing is known of its place. -/
def Gat (w : World) (lo : Nat) (v : Value) (j : Nat) : Prop := (∃ b, v = .slice (some ⟨b, 0, none⟩) 0 0 ∧ j = 0) ∨ ∃ xs, w.ownsRow lo 3 1 v j xs
set_option maxRecDepth 100000 in
set_option maxHeartbeats 6400000 in
theorem voicesAt_any (s : Sh) (B : Option Addr) (cb : Nat) (bs : List Bd) (E : Option Addr) (ce lo hi n t : Nat) (evs : List Ev) (w : World) (h : ScIn w lo hi B cb bs E ce evs) (hok : ScPlay s bs evs) (hat : AtAll n s bs evs) (hn : s.1 = (n : Int)) (ht : t < n) :
    Calls Try.prog 20 #[.agg #[.int .i64 s.1, .int .i64 s.2.1, .float .f32 s.2.2.1, .float .f32 s.2.2.2, .slice B bs.length cb, .slice E evs.length ce], .int .i64 t] w (VAP w s bs evs t) := by
  have hn2 : n ≤ 2000 := by have := hok.sh.l1; omega
  have HNn := Lib.hid hn
  clear hn
  have HOK := Lib.hid hok
  have HAA := Lib.hid hat
  have HB : Hid (Below w.heap.size w (w.alloc (.cells #[.int .i64 s.1, .int .i64 s.2.1, .float .f32 s.2.2.1, .float .f32 s.2.2.2, .slice B bs.length cb, .slice E evs.length ce] 44))) := (Below.refl w.heap.size w).alloc (Nat.le_refl _) _
  have HN := Lib.hid (heap_alloc_new w (.cells #[.int .i64 s.1, .int .i64 s.2.1, .float .f32 s.2.2.1, .float .f32 s.2.2.2, .slice B bs.length cb, .slice E evs.length ce] 44))
  have HI := Lib.hid (h.below HB.out)
  clear h hok hat
  go_enter Try.func20, Try.ntmps20
  obtain ⟨c0, c1, c2, c3, c4, c5⟩ := sc_cells HN.out
  go_wp2_with fail
  clear c0 c1 c2 c3 c4 c5
  generalize w.alloc (.cells #[.int .i64 s.1, .int .i64 s.2.1, .float .f32 s.2.2.1, .float .f32 s.2.2.2, .slice B bs.length cb, .slice E evs.length ce] 44) = W at *
  refine (isScore_any s B cb bs E ce lo hi evs W HI.out HOK.out.ask).mono ?_
  rintro rr W2 ⟨rfl, hb⟩
  have HI2 := Lib.hid (HI.out.below hb)
  have HB2 := Lib.hid (HB.out.trans (hb.mono HB.out.size))
  have HN2 := Lib.hid ((hb.block _ (lt_of_some HN.out)).trans HN.out)
  clear hb HI HB HN
  generalize hsb : w.heap.size = sb at *
  have HSB := Lib.hid hsb
  clear hsb
  obtain ⟨c0, c1, c2, c3, c4, c5⟩ := sc_cells HN2.out
  have ht2 : ¬ (n : Int) ≤ (t : Int) := by omega
  have ht3 : ¬ (t : Int) < 0 := by omega
  rw [HNn.out] at c0
  go_wp2_with fail
  clear c0 c1 c2 c3 c4 c5
  have hcon := newPlayer_any s B cb bs E ce lo hi evs W2 HI2.out.evs HI2.out.hh (HOK.out.evs.timed (by have := HOK.out.sh.l1; omega)) (by have := HOK.out.evs.1; omega)
  rw [HNn.out] at hcon
  refine hcon.mono ?_
  clear hcon
  rintro rr W3 ⟨P, A, ca, rfl, hp⟩
  have HP := Lib.hid hp
  clear hp
  obtain ⟨c, hc⟩ : ∃ c : Pc, c = ⟨s, B, cb, bs, E, ce, evs.length, A, ca, sortedE evs, W2, fun _ => False⟩ := ⟨_, rfl⟩
  have HBD : Hid (BodsIn W2 lo W2.heap.size c.B c.bs) := by
    subst hc
    exact (HI2.out.low (Nat.le_refl _) HI2.out.hh (Nat.le_refl _)).bodsIn
  have HCO : Hid (PcOk s.1 s.2.1 c) := by
    subst hc
    exact ⟨HOK.out.bods, HOK.out.sh.v0, by have := HOK.out.sh.v1; show s.2.1 ≤ 8; omega, fun e he => HOK.out.evs.2 e (sortedE_mem he), by rw [sortedE_len]; have := HOK.out.evs.1; omega, rfl⟩
  have HAt : Hid (∀ k, k ≤ n → ∃ t, t ≤ 61 ∧ AtOk t s.2.1 c.L (plAt (bmOf c.bs) c.s.2.1 c.L k)) := by
    subst hc
    exact HAA.out
  have HP1 : Hid (PlIn W2 (W3.alloc (.cells #[] 3)) W2.heap.size P c (plAt (bmOf c.bs) c.s.2.1 c.L 0).1 0 (.slice none 0 0) (.slice none 0 0) [] 0) := by
    subst hc
    exact HP.out.alloc _
  have HC := Lib.hid hc
  have HZ2 : Hid (sb ≤ W2.heap.size) := Lib.hid (Nat.le_of_lt (lt_of_some HN2.out))
  clear hc HP
  go_wp2_with fail
  generalize W3.alloc (.cells #[] 3) = Wa at *
  generalize W3.heap.size = g at *
  go_loopw [27] (fun i wr => ∃ (k : Nat) (vV vT : Value) (ms : List Vm) (b : Int), i = .int .i64 (k : Int) ∧ k ≤ t ∧ Hid (PlIn W2 wr W2.heap.size P c (plAt (bmOf c.bs) c.s.2.1 c.L k).1 k vV vT ms b) ∧
    Hid (ms.map Vm.v = (plAt (bmOf c.bs) c.s.2.1 c.L k).2.vs ∧ b = (plAt (bmOf c.bs) c.s.2.1 c.L k).2.begun)) (fun i _ => t - (intOf i).toNat)
  case atStart => exact ⟨0, _, _, [], 0, rfl, by omega, HP1, ⟨rfl, rfl⟩⟩
  case round =>
    clear HP1
    obtain ⟨k, vV, vT, ms, b, rfl, hk, HV, HX⟩ := hrel
    obtain ⟨tk, htk, hat⟩ := HAt.out k (by omega)
    have HAK := Lib.hid hat
    clear hat
    by_cases hlt : k < t
    · go_wp2_with fail
      refine (next_any (t := tk) (L := s.1) (most := s.2.1) HV.out HBD.out HCO.out (by rw [HX.out.1, HX.out.2]; exact HAK.out.ok) HAK.out.d (by rw [HX.out.2]; exact HAK.out.b) htk (by omega)).mono ?_
      rintro r W4 hp3
      unfold NextP at hp3
      obtain ⟨A3, ca3, ys3, d3, vV3, vT3, ms3, b3, n3, p3, rfl, hown3, hpl3, hd3, hd3', harr3, hms3, hb3, houts3⟩ := hp3
      have HPl := Lib.hid hpl3
      have HNx : Hid (plAt (bmOf c.bs) c.s.2.1 c.L (k + 1) = (d3, ⟨ms3.map Vm.v, b3⟩)) := by
        have h1 : (⟨ms.map Vm.v, b⟩ : Pl) = (plAt (bmOf c.bs) c.s.2.1 c.L k).2 := by rw [HX.out.1, HX.out.2]
        rw [h1] at harr3
        show ((plAt (bmOf c.bs) c.s.2.1 c.L k).1 + (arriveP _ _ _ _ _).1, (⟨(arriveP _ _ _ _ _).2.vs.map Vp.next, (arriveP _ _ _ _ _).2.begun⟩ : Pl)) = _
        rw [harr3, hms3, hb3, hd3']
      clear hown3 hpl3 hd3 hd3' harr3 hms3 hb3 houts3 HV HX HAK
      go_wp2_with fail
      go_roundw
      case rel => exact ⟨k + 1, vV3, vT3, ms3, b3, by go_num, by omega, by rw [HNx.out]; exact HPl.out, ⟨by rw [HNx.out], by rw [HNx.out]⟩⟩
      case measure => simp [intOf]; omega
    · obtain rfl : k = t := by omega
      go_wp2_with fail
      refine (arrive_any HV.out HBD.out HCO.out (by rw [HX.out.1, HX.out.2]; exact HAK.out.ok) HAK.out.d (by rw [HX.out.2]; exact HAK.out.b)).mono ?_
      rintro r W4 hp3
      unfold ArrP at hp3
      obtain ⟨rfl, d3, vV3, vT3, ms3, b3, hpl3, hd0, hd3, harr3⟩ := hp3
      have HSn : Hid (ms3.map Vm.v = soundP (bmOf c.bs) c.s.2.1 c.L k (plAt (bmOf c.bs) c.s.2.1 c.L k)) := by
        have h1 : (⟨ms.map Vm.v, b⟩ : Pl) = (plAt (bmOf c.bs) c.s.2.1 c.L k).2 := by rw [HX.out.1, HX.out.2]
        rw [h1] at harr3
        show _ = (arriveP _ _ _ _ _).2.vs
        rw [harr3]
      have HVR := Lib.hid hpl3.vrow
      have HBl := Lib.hid hpl3.bel
      have c9 := (pl_cells hpl3.box).2.2.2.2.2.2.2.2.2.1
      have hm8 : ms3.length ≤ 8 := by
        have h1 := (arriveP_ok (now := k) (l := c.L.drop (plAt (bmOf c.bs) c.s.2.1 c.L k).1) HAK.out.ok HOK.out.sh.v0 HCO.out.bods (fun e he => HCO.out.evs e (List.mem_of_mem_drop he))).len
        have h2 : s.2.1 = c.s.2.1 := HCO.out.most
        have h3 : ((ms3.map Vm.v).length : Int) ≤ s.2.1 := by rw [HSn.out]; rw [h2] at h1 ⊢; exact h1
        rw [List.length_map] at h3
        have h4 := HOK.out.sh.v1
        omega
      obtain ⟨VA, vc, hvv⟩ := owns_form hpl3.vrow
      subst hvv
      clear hpl3 hd0 hd3 harr3 HV HX HAK
      go_wp2_with fail
      clear c9
      go_loopw [7, 39] (fun v i wr => ∃ j : Nat, i = .int .i64 (j : Int) ∧ j ≤ ms3.length ∧ Hid (Gat wr W2.heap.size v j) ∧ Hid (wr.ownsRow W2.heap.size 93 4 (.slice VA ms3.length vc) ms3.length (flatV ms3)) ∧ Hid (Below W2.heap.size W2 wr)) (fun _ i _ => ms3.length - (intOf i).toNat)
      case atStart => exact ⟨0, rfl, by omega, .inl ⟨_, rfl, rfl⟩, HVR, HBl⟩
      case round =>
        clear HVR HBl
        obtain ⟨j, rfl, hj, HG, HVR, HBl⟩ := hrel
        by_cases hjl : j < ms3.length
        · obtain ⟨vb, vc', hve, _, hvl, hv1, hv2, _, vcell⟩ := owns_cells HVR.out (by omega) (by rw [flatV_len])
          injection hve with w1 _ w3
          subst w1 w3
          obtain ⟨m, hm⟩ : ∃ m, ms3[j]? = some m := ⟨ms3[j], List.getElem?_eq_getElem hjl⟩
          obtain ⟨e0', e1', e2', e3'⟩ := flatV_at hm
          have e0 := vcell _ _ e0'
          have e1 := vcell _ _ e1'
          have e2 := vcell _ _ e2'
          have e3 := vcell _ _ e3'
          clear e0' e1' e2' e3' vcell hm
          have b1 : Below wr.heap.size wr ((wr.alloc (.cells #[.int .i64 m.v.body, .slice m.M m.v.ms.length m.mc, .slice (some ⟨m.S, 0, none⟩) m.v.ms.length m.v.ms.length, .slice m.I m.v.xs.length m.ic] 93)).alloc (.cells #[.int .i64 m.v.body] 3)) := ((Below.refl _ _).alloc (Nat.le_refl _) _).alloc (by simp) _
          have HB1 := Lib.hid b1
          have HN1 : Hid (((wr.alloc (.cells #[.int .i64 m.v.body, .slice m.M m.v.ms.length m.mc, .slice (some ⟨m.S, 0, none⟩) m.v.ms.length m.v.ms.length, .slice m.I m.v.xs.length m.ic] 93)).alloc (.cells #[.int .i64 m.v.body] 3)).heap[wr.heap.size + 1]? = some (.cells #[.int .i64 m.v.body] 3 (0, 0))) := Lib.hid (by
            have := heap_alloc_new (wr.alloc (.cells #[.int .i64 m.v.body, .slice m.M m.v.ms.length m.mc, .slice (some ⟨m.S, 0, none⟩) m.v.ms.length m.v.ms.length, .slice m.I m.v.xs.length m.ic] 93)) (.cells #[.int .i64 m.v.body] 3)
            rwa [show (wr.alloc (.cells #[.int .i64 m.v.body, .slice m.M m.v.ms.length m.mc, .slice (some ⟨m.S, 0, none⟩) m.v.ms.length m.v.ms.length, .slice m.I m.v.xs.length m.ic] 93)).heap.size = wr.heap.size + 1 by simp] at this)
          have HVR1 : Hid (((wr.alloc (.cells #[.int .i64 m.v.body, .slice m.M m.v.ms.length m.mc, .slice (some ⟨m.S, 0, none⟩) m.v.ms.length m.v.ms.length, .slice m.I m.v.xs.length m.ic] 93)).alloc (.cells #[.int .i64 m.v.body] 3)).ownsRow W2.heap.size 93 4 (.slice (some ⟨vb, 0, none⟩) ms3.length vc) ms3.length (flatV ms3)) := owns_stay HVR.out fun q e => HB1.out.block q (HVR.out.lt q e).2
          have HBl1 : Hid (Below W2.heap.size W2 ((wr.alloc (.cells #[.int .i64 m.v.body, .slice m.M m.v.ms.length m.mc, .slice (some ⟨m.S, 0, none⟩) m.v.ms.length m.v.ms.length, .slice m.I m.v.xs.length m.ic] 93)).alloc (.cells #[.int .i64 m.v.body] 3))) := HBl.out.trans (b1.mono HBl.out.size)
          have hzz := HBl1.out.size
          have d0 := cell_of_row (wr.alloc (.cells #[.int .i64 m.v.body, .slice m.M m.v.ms.length m.mc, .slice (some ⟨m.S, 0, none⟩) m.v.ms.length m.v.ms.length, .slice m.I m.v.xs.length m.ic] 93)) wr.heap.size 0 _ _ (0, 0) (heap_alloc_new wr (.cells #[.int .i64 m.v.body, .slice m.M m.v.ms.length m.mc, .slice (some ⟨m.S, 0, none⟩) m.v.ms.length m.v.ms.length, .slice m.I m.v.xs.length m.ic] 93))
          clear b1
          obtain ⟨i0, hi0, hz0, hz1, hz2⟩ := info_parts int_info
          rcases HG.out with ⟨b0, rfl, hj0⟩ | ⟨xs, hown⟩
          · have HJ := Lib.hid hj0
            clear hj0
            go_wp2_with (at_builtin; refine wpList_append_empty rfl (.tmp 43) (.tmp 46) 36 rfl 3 i0 _ 1 8 Try.underlying36 hi0 hz0 hz1 hz2 rfl (by omega) ⟨b0, 0, none⟩ (by rfl) ⟨wr.heap.size + 1, 0, none⟩ 1 1 [.int .i64 m.v.body] (by rfl) (by rfl) (World.news_of_block (t := 3) (fr := (0, 0)) HN1.out) (by simp [Value.oneCell']) (by omega) (by simp only [maxLen]; omega) (by omega) ?_; intro cap W6 hown6 hbel6)
            have HG6 : Hid (Gat W6 W2.heap.size (.slice (some ⟨((wr.alloc (.cells #[.int .i64 m.v.body, .slice m.M m.v.ms.length m.mc, .slice (some ⟨m.S, 0, none⟩) m.v.ms.length m.v.ms.length, .slice m.I m.v.xs.length m.ic] 93)).alloc (.cells #[.int .i64 m.v.body] 3)).heap.size, 0, none⟩) 1 cap) (j + 1)) := .inr ⟨_, by rw [HJ.out]; exact owns_lower hown6 hzz⟩
            have HVR6 := Lib.hid (owns_stay HVR1.out fun q e => hbel6.block q (HVR1.out.lt q e).2)
            have HBl6 := Lib.hid (HBl1.out.trans (hbel6.mono hzz))
            clear hown6 hbel6 e0 e1 e2 e3 d0 HG HVR HBl HB1 HN1 HVR1 HBl1 hzz
            go_wp2_with fail
            go_roundw
            case rel => exact ⟨j + 1, by go_num, by omega, by simpa using HG6, HVR6, HBl6⟩
            case measure => simp [intOf]; omega
          · have HO1 : Hid (((wr.alloc (.cells #[.int .i64 m.v.body, .slice m.M m.v.ms.length m.mc, .slice (some ⟨m.S, 0, none⟩) m.v.ms.length m.v.ms.length, .slice m.I m.v.xs.length m.ic] 93)).alloc (.cells #[.int .i64 m.v.body] 3)).ownsRow W2.heap.size 3 1 u7 j xs) := owns_stay hown fun q e => HB1.out.block q (hown.lt q e).2
            clear hown
            go_wp2_with (at_builtin; refine wpList_append_lies _ rfl (.tmp 43) (.tmp 46) 36 rfl W2.heap.size 3 i0 _ 1 8 Try.underlying36 hi0 hz0 hz1 hz2 rfl (by omega) u7 j xs (by rfl) HO1.out ⟨wr.heap.size + 1, 0, none⟩ 1 1 [.int .i64 m.v.body] (by rfl) (by rfl) (World.news_of_block (t := 3) (fr := (0, 0)) HN1.out) (by simp [Value.oneCell']) (by omega) (by simp only [maxLen]; omega) (by omega) hzz _ rfl ?_; intro gg cap W6 hown6 hgrow6 hat6 hlt6)
            have HG6 : Hid (Gat W6 W2.heap.size (.slice (some ⟨gg, 0, none⟩) (j + 1) cap) (j + 1)) := .inr ⟨_, hown6⟩
            have HVR6 := Lib.hid (owns_stay HVR1.out fun q e => hgrow6.block q (HVR1.out.lt q e).2 (fun q' => by
              obtain ⟨cs, hc⟩ := owns_ty HVR1.out e
              obtain ⟨cs', hc'⟩ := owns_ty HO1.out q'.symm
              exact ty_ne hc hc' (by decide) rfl))
            have HBl6 := Lib.hid (HBl1.out.grown hgrow6 hzz (fun q e => (HO1.out.lt q e).1))
            clear hown6 hgrow6 hat6 hlt6 e0 e1 e2 e3 d0 HG HVR HBl HB1 HN1 HVR1 HBl1 hzz HO1
            go_wp2_with fail
            go_roundw
            case rel => exact ⟨j + 1, by go_num, by omega, HG6, HVR6, HBl6⟩
            case measure => simp [intOf]; omega
        · obtain rfl : j = ms3.length := by omega
          go_wp2_with fail
          go_ret2
          have hsb := HSB.out
          subst hsb
          have hc := HC.out
          subst hc
          have hb := HB2.out.trans (HBl.out.mono HB2.out.size)
          have hl : ms3.length = (soundP (bmOf bs) s.2.1 (sortedE evs) k (plAt (bmOf bs) s.2.1 (sortedE evs) k)).length := by
            have := congrArg List.length HSn.out
            rw [List.length_map] at this
            exact this
          rcases HG.out with ⟨b0, rfl, hj0⟩ | ⟨xs, hown⟩
          · exact ⟨_, _, 0, rfl, by rw [← hl]; exact hj0.symm, hb⟩
          · obtain ⟨A', c', hv⟩ := owns_form hown
            subst hv
            exact ⟨A', c', ms3.length, rfl, hl, hb⟩
end Go.Proofs.Ytndnfhhdflmfcaa

/-
impl.RenderVoices.
-/
namespace Go.Proofs.Ytndnfhhdflmfcaa
open Go Go.RowKit Ieee

def lenV : Value → Nat
  | .slice _ n _ => n
  | _ => 0
/-- The blocks of the tracks' rows. -/
def rowB (rs : List Trk) : Nat → Prop := fun q => ∃ r ∈ rs, r.1 = q
/-- Where the walk of RenderVoices is. -/
structure VIn (w0 w : World) (P : Nat) (c : Pc) (sb g n d k : Nat) (vV vT : Value) (ms : List Vm) (b : Int) (v : Value) (rs : List Trk) : Prop where
  pl : PlIn w0 w w0.heap.size P { c with wk := w, fb := rowB rs } d k vV vT ms b
  rows : RowsIn w g v rs n
  box : w.heap[sb]? = some (.cells #[.int .i64 c.s.1, .int .i64 c.s.2.1, .float .f32 c.s.2.2.1, .float .f32 c.s.2.2.2, .slice c.B c.bs.length c.cb, .slice c.E c.ne c.ce] 44 (0, 0))
  g0 : w0.heap.size ≤ g
  gs : g ≤ w.heap.size
section
variable {w0 w w1 w2 w' : World} {P : Nat} {c : Pc} {sb g n d k : Nat} {vV vT : Value} {ms : List Vm} {b : Int} {v : Value} {rs : List Trk}
/-- A track is added. -/
theorem VIn.add {gg cap : Nat} (h : VIn w0 w P c sb g n d k vV vT ms b v rs) (h1 : Below w.heap.size w w2) (hr : w2.rowIs w.heap.size 31 n (fun _ => .float .f32 0))
    (hown : w'.ownsRow g 28 1 (.slice (some ⟨gg, 0, none⟩) (rs.length + 1) cap) (rs.length + 1) (rs.map (trkV n) ++ [trkV n (w.heap.size, fun _ => 0)])) (hgr : w2.grownBy w' v.ownBlock) :
    VIn w0 w' P c sb g n d k vV vT ms b (.slice (some ⟨gg, 0, none⟩) (rs.length + 1) cap) (rs ++ [(w.heap.size, fun _ => 0)]) := by
  have hr2 := h.rows.new h1
  have hg0 := h.g0
  have hgs := h.gs
  have hz1 := h1.size
  have hz2 := hgr.size
  have kk : ∀ (j : Nat) (cs : Array Value) (t : TypeId) (f : Nat × Nat), w.heap[j]? = some (.cells cs t f) → t ≠ 28 → w'.heap[j]? = w.heap[j]? := fun j cs t f hj ht => by
    have h2 := h1.block j (lt_of_some hj)
    refine (hgr.block j (by have := lt_of_some hj; omega) (fun q => ?_)).trans h2
    obtain ⟨cs', hc⟩ := owns_ty hr2.own q.symm
    exact ty_ne (h2.trans hj) hc ht rfl
  have hb2 : Below w0.heap.size w0 w2 := h.pl.bel.trans (h1.mono h.pl.bel.size)
  refine ⟨?_, h.rows.app hgs h1 hr (Nat.le_refl _) hown hgr, (kk _ _ _ _ h.box (by decide)).trans h.box, h.g0, by omega⟩
  refine h.pl.caller (hb2.grown hgr (by have := hb2.size; omega) (fun j q => by have := (hr2.own.lt j q).1; omega)) (fun j cs t f hj ht => kk j cs t f hj (fun e => by
    subst e
    revert ht
    unfold PT
    simp)) (rowB (rs ++ [(w.heap.size, fun _ => 0)])) (fun q hq => ?_)
  obtain ⟨r, hr', rfl⟩ := hq
  rcases List.mem_append.1 hr' with hm | hm
  · have := (h.rows.row r hm).1.lt
    exact ⟨by omega, .inl ⟨r, hm, rfl⟩⟩
  · rw [List.mem_singleton] at hm
    subst hm
    have := hr.lt
    exact ⟨by show w.heap.size < _; omega, .inr (Nat.le_refl _)⟩
/-- A number of a track is stored. -/
theorem VIn.put {j t y : Nat} {r : Trk} (h : VIn w0 w P c sb g n d k vV vT ms b v rs) (hr : rs[j]? = some r) : VIn w0 (w.setCell ⟨r.1, t, none⟩ (.float .f32 y)) P c sb g n d k vV vT ms b v (rs.set j (r.1, fun i => if i = t then y else r.2 i)) := by
  have hm := List.mem_of_getElem? hr
  obtain ⟨a, ha⟩ := h.rows.row r hm
  obtain ⟨cs', hc⟩ := rowIs_ty a
  have hg0 := h.g0
  refine ⟨?_, h.rows.put hr, (Below.heap_setCell _ _ _ _ (ty_ne h.box hc (by decide))).trans h.box, h.g0, by simpa using h.gs⟩
  refine h.pl.caller (h.pl.bel.setCell (by show w0.heap.size ≤ r.1; omega) _) (fun i cs t' f hi ht => Below.heap_setCell _ _ _ _ ?_) (rowB (rs.set j (r.1, fun i => if i = t then y else r.2 i))) (fun q hq => ?_)
  · rcases ht with ht | ht | ⟨_, ht⟩
    · exact ty_ne hi hc (fun e => by subst e; revert ht; unfold PT; decide)
    · exact ty_ne hi hc (fun e => by subst e; exact absurd ht (by decide))
    · intro e
      exact ht ⟨r, hm, e.symm⟩
  · obtain ⟨x, hx, rfl⟩ := hq
    have hx' : ∃ z ∈ rs, z.1 = x.1 := by
      rcases List.mem_or_eq_of_mem_set hx with h1 | rfl
      · exact ⟨x, h1, rfl⟩
      · exact ⟨r, hm, rfl⟩
    obtain ⟨z, hz, he⟩ := hx'
    have := (h.rows.row z hz).1.lt
    exact ⟨by simp; omega, .inl ⟨z, hz, he⟩⟩
/-- The player's own step is over. -/
theorem VIn.stepped {d' k' : Nat} {vV' vT' : Value} {ms' : List Vm} {b' : Int} (h : VIn w0 w P c sb g n d k vV vT ms b v rs) (hp : PlIn w0 w' w0.heap.size P { c with wk := w, fb := rowB rs } d' k' vV' vT' ms' b') : VIn w0 w' P c sb g n d' k' vV' vT' ms' b' v rs := by
  have hk : Kept w w' := hp.kp
  have hz := hk.1
  have hgs := h.gs
  refine ⟨hp.caller hp.bel (fun _ _ _ _ _ _ => rfl) (rowB rs) (fun q hq => ?_), h.rows.kept hk, hk.2 _ _ _ _ h.box (by unfold PT; decide), h.g0, by omega⟩
  obtain ⟨r, hr, rfl⟩ := hq
  have := (h.rows.row r hr).1.lt
  exact ⟨by omega, .inl ⟨r, hr, rfl⟩⟩
end
/-- What RenderVoices returns. -/
def RVP (w : World) (s : Sh) (bs : List Bd) (evs : List Ev) (n : Nat) (r : Ending) (w' : World) : Prop :=
  ∃ (A : Option Addr) (ca : Nat) (rs : List Trk), r = .returned (.tuple #[.slice A rs.length ca, .bool true]) ∧ RowsIn w' w.heap.size (.slice A rs.length ca) rs n ∧ (rs.length : Int) = (plAt (bmOf bs) s.2.1 (sortedE evs) n).2.begun ∧ RowsOk (bmOf bs) s.2.1 (sortedE evs) n n rs ∧ Below w.heap.size w w'
set_option maxRecDepth 100000 in
set_option maxHeartbeats 6400000 in
theorem renderVoices_any (s : Sh) (B : Option Addr) (cb : Nat) (bs : List Bd) (E : Option Addr) (ce lo hi n : Nat) (evs : List Ev) (w : World) (h : ScIn w lo hi B cb bs E ce evs) (hok : ScPlay s bs evs) (hat : AtAll n s bs evs) (hn : s.1 = (n : Int)) :
    Calls Try.prog 21 #[.agg #[.int .i64 s.1, .int .i64 s.2.1, .float .f32 s.2.2.1, .float .f32 s.2.2.2, .slice B bs.length cb, .slice E evs.length ce]] w (RVP w s bs evs n) := by
  have hn2 : n ≤ 2000 := by have := hok.sh.l1; omega
  have HNn := Lib.hid hn
  clear hn
  have HOK := Lib.hid hok
  have HAA := Lib.hid hat
  have HB : Hid (Below w.heap.size w (w.alloc (.cells #[.int .i64 s.1, .int .i64 s.2.1, .float .f32 s.2.2.1, .float .f32 s.2.2.2, .slice B bs.length cb, .slice E evs.length ce] 44))) := (Below.refl w.heap.size w).alloc (Nat.le_refl _) _
  have HN := Lib.hid (heap_alloc_new w (.cells #[.int .i64 s.1, .int .i64 s.2.1, .float .f32 s.2.2.1, .float .f32 s.2.2.2, .slice B bs.length cb, .slice E evs.length ce] 44))
  have HI := Lib.hid (h.below HB.out)
  clear h hok hat
  go_enter Try.func21, Try.ntmps21
  obtain ⟨c0, c1, c2, c3, c4, c5⟩ := sc_cells HN.out
  go_wp2_with fail
  clear c0 c1 c2 c3 c4 c5
  generalize w.alloc (.cells #[.int .i64 s.1, .int .i64 s.2.1, .float .f32 s.2.2.1, .float .f32 s.2.2.2, .slice B bs.length cb, .slice E evs.length ce] 44) = W at *
  refine (isScore_any s B cb bs E ce lo hi evs W HI.out HOK.out.ask).mono ?_
  rintro rr W2 ⟨rfl, hb⟩
  have HI2 := Lib.hid (HI.out.below hb)
  have HB2 := Lib.hid (HB.out.trans (hb.mono HB.out.size))
  have HN2 := Lib.hid ((hb.block _ (lt_of_some HN.out)).trans HN.out)
  clear hb HI HB HN
  generalize hsb : w.heap.size = sb at *
  have HSB := Lib.hid hsb
  clear hsb
  obtain ⟨c0, c1, c2, c3, c4, c5⟩ := sc_cells HN2.out
  go_wp2_with fail
  clear c0 c1 c2 c3 c4 c5
  refine (newPlayer_any s B cb bs E ce lo hi evs W2 HI2.out.evs HI2.out.hh (HOK.out.evs.timed (by have := HOK.out.sh.l1; omega)) (by have := HOK.out.evs.1; omega)).mono ?_
  rintro rr W3 ⟨P, A, ca, rfl, hp⟩
  have HP := Lib.hid hp
  clear hp
  obtain ⟨c, hc⟩ : ∃ c : Pc, c = ⟨s, B, cb, bs, E, ce, evs.length, A, ca, sortedE evs, W2, fun _ => False⟩ := ⟨_, rfl⟩
  have HBD : Hid (BodsIn W2 lo W2.heap.size c.B c.bs) := by
    subst hc
    exact (HI2.out.low (Nat.le_refl _) HI2.out.hh (Nat.le_refl _)).bodsIn
  have HCO : Hid (∀ w' F, PcOk s.1 s.2.1 { c with wk := w', fb := F }) := by
    subst hc
    intro w' F
    exact ⟨HOK.out.bods, HOK.out.sh.v0, by have := HOK.out.sh.v1; show s.2.1 ≤ 8; omega, fun e he => HOK.out.evs.2 e (sortedE_mem he), by rw [sortedE_len]; have := HOK.out.evs.1; omega, rfl⟩
  have HAt : Hid (∀ k, k ≤ n → ∃ t, t ≤ 61 ∧ AtOk t s.2.1 c.L (plAt (bmOf c.bs) c.s.2.1 c.L k)) := by
    subst hc
    exact HAA.out
  have HV0 : Hid (VIn W2 (W3.alloc (.cells #[] 28)) P c sb W3.heap.size n (plAt (bmOf c.bs) c.s.2.1 c.L 0).1 0 (.slice none 0 0) (.slice none 0 0) [] 0 (.slice (some ⟨W3.heap.size, 0, none⟩) 0 0) []) := by
    subst hc
    have hp0 := HP.out
    have hp := hp0.alloc (.cells #[] 28)
    refine ⟨hp0.caller hp.bel (fun j cs t f hj _ => Below.heap_alloc W3 _ _ (lt_of_some hj)) _ (fun b hb => ?_), ⟨owns_empty W3 28, fun r hr => (by cases hr), List.nodup_nil⟩, hp.kp.2 _ _ _ _ HN2.out (by unfold PT; decide), HP.out.bel.size, by simp⟩
    obtain ⟨r, hr, _⟩ := hb
    cases hr
  have HCL : Hid (c.s.1 = (n : Int)) := Lib.hid (by rw [hc]; exact HNn.out)
  have HC := Lib.hid hc
  have HZ2 : Hid (sb ≤ W2.heap.size) := Lib.hid (Nat.le_of_lt (lt_of_some HN2.out))
  clear hc
  obtain ⟨c0, c1, c2, c3, c4, c5⟩ := sc_cells HV0.out.box
  rw [HCL.out] at c0
  go_wp2_with fail
  clear c0 c1 c2 c3 c4 c5
  generalize W3.alloc (.cells #[] 28) = Wa at *
  generalize W3.heap.size = g at *
  go_loopw [5, 18] (fun v i wr => ∃ (k : Nat) (rs : List Trk) (vV vT : Value) (ms : List Vm) (b : Int), i = .int .i64 (k : Int) ∧ k ≤ n ∧ Hid (VIn W2 wr P c sb g n (plAt (bmOf c.bs) c.s.2.1 c.L k).1 k vV vT ms b v rs) ∧
    Hid (ms.map Vm.v = (plAt (bmOf c.bs) c.s.2.1 c.L k).2.vs ∧ b = (plAt (bmOf c.bs) c.s.2.1 c.L k).2.begun ∧ (rs.length : Int) = b ∧ RowsOk (bmOf c.bs) c.s.2.1 c.L k n rs)) (fun _ i _ => n - (intOf i).toNat)
  case atStart => exact ⟨0, [], _, _, [], 0, rfl, by omega, HV0, ⟨rfl, rfl, rfl, fun j r hr => by simp at hr⟩⟩
  case round =>
    clear HV0 HP
    obtain ⟨k, rs, vV, vT, ms, b, rfl, hk, HV, HX⟩ := hrel
    by_cases hlt : k < n
    · obtain ⟨A1, c1, hv1⟩ := owns_form HV.out.rows.own
      subst hv1
      go_wp2_with fail
      obtain ⟨tk, htk, hat⟩ := HAt.out k (by omega)
      have HAK := Lib.hid hat
      clear hat
      refine (next_any (t := tk) (L := s.1) (most := s.2.1) HV.out.pl HBD.out (HCO.out wr _) (by rw [HX.out.1, HX.out.2.1]; exact HAK.out.ok) HAK.out.d (by rw [HX.out.2.1]; exact HAK.out.b) htk (by omega)).mono ?_
      rintro r W4 hp3
      unfold NextP at hp3
      obtain ⟨A3, ca3, ys3, d3, vV3, vT3, ms3, b3, n3, p3, rfl, hown3, hpl3, hd3, hd3', harr3, hms3, hb3, houts3⟩ := hp3
      have HV4 := Lib.hid (HV.out.stepped hpl3)
      have HLs : Hid (W4.ownsRow wr.heap.size 31 1 (.slice A3 ys3.length ca3) ys3.length (f32s ys3)) := hown3
      have HLa : Hid (∀ r ∈ rs, (Value.slice A3 ys3.length ca3).ownBlock ≠ some r.1) := Lib.hid (fun r hr q => by
        have h1 := (hown3.lt _ q).1
        have h2 := (HV.out.rows.row r hr).1.lt
        have h3 : wr.heap.size ≤ r.1 := h1
        omega)
      have HQ : Hid (arriveP (bmOf c.bs) c.s.2.1 k (c.L.drop (plAt (bmOf c.bs) c.s.2.1 c.L k).1) (plAt (bmOf c.bs) c.s.2.1 c.L k).2 = (n3, p3)) := by
        have h1 : (⟨ms.map Vm.v, b⟩ : Pl) = (plAt (bmOf c.bs) c.s.2.1 c.L k).2 := by rw [HX.out.1, HX.out.2.1]
        rw [h1] at harr3
        exact harr3
      have HNx : Hid (plAt (bmOf c.bs) c.s.2.1 c.L (k + 1) = (d3, ⟨ms3.map Vm.v, b3⟩)) := by
        show ((plAt (bmOf c.bs) c.s.2.1 c.L k).1 + (arriveP _ _ _ _ _).1, (⟨(arriveP _ _ _ _ _).2.vs.map Vp.next, (arriveP _ _ _ _ _).2.begun⟩ : Pl)) = _
        rw [HQ.out, hms3, hb3, hd3']
      have HTr : Hid (TrOk p3) := Lib.hid (by
        have := arriveP_tr (bm := bmOf c.bs) (most := c.s.2.1) (now := k) (l := c.L.drop (plAt (bmOf c.bs) c.s.2.1 c.L k).1) (plAt_tr (bmOf c.bs) c.s.2.1 c.L k)
        rw [HQ.out] at this
        exact this)
      have HPV : Hid (soundP (bmOf c.bs) c.s.2.1 c.L k (plAt (bmOf c.bs) c.s.2.1 c.L k) = p3.vs) := Lib.hid (by
        show (arriveP _ _ _ _ _).2.vs = _
        rw [HQ.out])
      have HMs : Hid (ms3.map Vm.v = p3.vs.map Vp.next) := hms3
      have HL3 : Hid (ms3.length = p3.vs.length) := Lib.hid (by have := congrArg List.length hms3; simpa using this)
      have HY3 : Hid (ys3.length = ms3.length) := Lib.hid (by rw [HL3.out]; exact houts3.1)
      have HB3 : Hid (b3 = p3.begun) := hb3
      have hbb : (rs.length : Int) ≤ b3 := by
        have h1 := arriveP_begun (bm := bmOf c.bs) (most := c.s.2.1) (now := k) (l := c.L.drop (plAt (bmOf c.bs) c.s.2.1 c.L k).1) (p := (plAt (bmOf c.bs) c.s.2.1 c.L k).2)
        rw [HQ.out] at h1
        rw [hb3, HX.out.2.2.1, HX.out.2.1]
        exact h1
      have hb19 : b3 ≤ 19 := by
        obtain ⟨t2, _, hat2⟩ := HAt.out (k + 1) (by omega)
        have h1 := hat2.d
        have h2 := hat2.b
        rw [HNx.out] at h1 h2
        have h3 := (HCO.out w (fun _ => False)).len
        have h3' : c.L.length ≤ 19 := h3
        have h1' : d3 ≤ c.L.length := h1
        have h2' : b3 ≤ (d3 : Int) := h2
        omega
      have HRk : Hid (RowsOk (bmOf c.bs) c.s.2.1 c.L k n rs) := HX.out.2.2.2
      clear hown3 hpl3 hd3 hd3' harr3 hms3 hb3 houts3 HV HX HAK
      generalize hlo : wr.heap.size = lo4 at *
      clear hlo
      go_wp2_with fail
      go_loopw [5] (fun v wr => ∃ (rs2 : List Trk) (A2 : Option Addr) (c2 : Nat), v = .slice A2 rs2.length c2 ∧ (rs2.length : Int) ≤ b3 ∧ Hid (VIn W2 wr P c sb g n d3 (k + 1) vV3 vT3 ms3 b3 (.slice A2 rs2.length c2) rs2) ∧ Hid (wr.ownsRow lo4 31 1 (.slice A3 ys3.length ca3) ys3.length (f32s ys3)) ∧
        Hid (∀ r ∈ rs2, (Value.slice A3 ys3.length ca3).ownBlock ≠ some r.1) ∧ Hid (RowsOk (bmOf c.bs) c.s.2.1 c.L k n rs2)) (fun v _ => b3.toNat - lenV v)
      case atStart => exact ⟨rs, _, _, rfl, hbb, HV4, HLs, HLa, HRk⟩
      case round =>
        clear HV4 HLs HLa HRk hbb
        obtain ⟨rs2, A2, c2, rfl, hr2, HV2, HL2, HA2, HR2⟩ := hrel
        have cb := (pl_cells HV2.out.pl.box).2.2.2.2.2.2.2.2.2.2.2
        have cs0 := cell_of_row _ sb 0 _ _ (0, 0) HV2.out.box
        have cs0' : wr.cell? ⟨sb, 0, none⟩ = some (.int .i64 n) := by rw [← HCL.out]; exact cs0
        clear cs0
        by_cases hlt2 : (rs2.length : Int) < b3
        · have hg2 := HV2.out.gs
          have b1 : Below wr.heap.size wr ((wr.alloc (.cells (madeCells #[.float .f32 0] n) 31)).alloc (.cells #[.slice (some ⟨wr.heap.size, 0, none⟩) n n] 28)) := ((Below.refl _ _).alloc (Nat.le_refl _) _).alloc (by simp) _
          have HRw : Hid (((wr.alloc (.cells (madeCells #[.float .f32 0] n) 31)).alloc (.cells #[.slice (some ⟨wr.heap.size, 0, none⟩) n n] 28)).rowIs wr.heap.size 31 n (fun _ => .float .f32 0)) := (World.rowIs_made wr (.float .f32 0) n 31).of_block (Below.heap_alloc _ _ _ (by simp))
          have HN2 : Hid (((wr.alloc (.cells (madeCells #[.float .f32 0] n) 31)).alloc (.cells #[.slice (some ⟨wr.heap.size, 0, none⟩) n n] 28)).heap[wr.heap.size + 1]? = some (.cells #[.slice (some ⟨wr.heap.size, 0, none⟩) n n] 28 (0, 0))) := Lib.hid (by
            have := heap_alloc_new (wr.alloc (.cells (madeCells #[.float .f32 0] n) 31)) (.cells #[.slice (some ⟨wr.heap.size, 0, none⟩) n n] 28)
            rwa [show (wr.alloc (.cells (madeCells #[.float .f32 0] n) 31)).heap.size = wr.heap.size + 1 by simp] at this)
          have HO2 := Lib.hid (HV2.out.rows.new b1).own
          have HB1 := Lib.hid b1
          clear b1
          have hmk := fun W => run_makeF W n hn2
          obtain ⟨i0, hi0, hz0, hz1, hz2⟩ := info_parts row_info2
          go_wp2_with (at_builtin; refine wpList_append_lies _ rfl (.tmp 30) (.tmp 34) 24 rfl g 28 i0 _ 1 24 Try.underlying24 hi0 hz0 hz1 hz2 rfl (by omega) (.slice A2 rs2.length c2) rs2.length (rs2.map (trkV n)) (by rfl) HO2.out ⟨wr.heap.size + 1, 0, none⟩ 1 1 [.slice (some ⟨wr.heap.size, 0, none⟩) n n] (by rfl) (by rfl) (World.news_of_block (t := 28) (fr := (0, 0)) HN2.out) (by simp [Value.oneCell']) (by omega) (by simp only [maxLen]; omega) (by omega) (by simp; omega) _ rfl ?_; intro gg cap W6 hown6 hgrow6 hat6 hlt6)
          have hl6 : (rs2 ++ [((wr.heap.size, fun _ => 0) : Trk)]).length = rs2.length + 1 := by simp
          have HV6 := Lib.hid (HV2.out.add HB1.out HRw.out hown6 hgrow6)
          have HL6 : Hid (W6.ownsRow lo4 31 1 (.slice A3 ys3.length ca3) ys3.length (f32s ys3)) := owns_stay HL2.out fun q e => by
            obtain ⟨cs, hc⟩ := owns_ty HL2.out e
            have h1 := HB1.out.block q (lt_of_some hc)
            refine (hgrow6.block q (by have := lt_of_some hc; have := HB1.out.size; omega) (fun q' => ?_)).trans h1
            obtain ⟨cs', hc'⟩ := owns_ty HO2.out q'.symm
            exact ty_ne (h1.trans hc) hc' (by decide) rfl
          have HA6 : Hid (∀ r ∈ rs2 ++ [((wr.heap.size, fun _ => 0) : Trk)], (Value.slice A3 ys3.length ca3).ownBlock ≠ some r.1) := Lib.hid (fun r hr q => by
            rcases List.mem_append.1 hr with hr | hr
            · exact HA2.out r hr q
            · rw [List.mem_singleton] at hr
              subst hr
              have := (HL2.out.lt _ q).2
              exact absurd this (Nat.lt_irrefl _))
          have HR6 := Lib.hid (HR2.out.snoc wr.heap.size)
          clear hown6 hgrow6 hat6 hlt6 HV2 HL2 HA2 HR2 HRw HN2 HO2 HB1 hmk cb cs0'
          go_wp2_with fail
          go_roundw
          case rel => exact ⟨rs2 ++ [((wr.heap.size, fun _ => 0) : Trk)], some ⟨gg, 0, none⟩, cap, by rw [hl6], by rw [hl6]; omega, by rw [hl6]; exact HV6, HL6, HA6, HR6⟩
          case measure => simp [lenV]; omega
        · have HRB : Hid ((rs2.length : Int) = b3) := Lib.hid (by omega)
          have HR3 := Lib.hid HR2.out.succ
          go_wp2_with fail
          clear cb cs0'
          go_loopw [38] (fun i wr => ∃ (j : Nat) (rs3 : List Trk), i = .int .i64 (j : Int) ∧ j ≤ ys3.length ∧ Hid (rs3.length = rs2.length) ∧ Hid (VIn W2 wr P c sb g n d3 (k + 1) vV3 vT3 ms3 b3 (.slice A2 rs2.length c2) rs3) ∧ Hid (wr.ownsRow lo4 31 1 (.slice A3 ys3.length ca3) ys3.length (f32s ys3)) ∧
            Hid (∀ r ∈ rs3, (Value.slice A3 ys3.length ca3).ownBlock ≠ some r.1) ∧ Hid (RowsOk (bmOf c.bs) c.s.2.1 c.L (k + 1) n rs3)) (fun i _ => ys3.length - (intOf i).toNat)
          case atStart => exact ⟨0, rs2, rfl, by omega, Lib.hid rfl, HV2, HL2, HA2, HR3⟩
          case round =>
            clear HV2 HL2 HA2 HR2 HR3
            obtain ⟨j, rs3, rfl, hj, HR3e, HV3, HLs3, HA3, HR3⟩ := hrel
            by_cases hjl : j < ys3.length
            · obtain ⟨lb, loff, hA3, _, hcell⟩ := (owns_rd HLs3.out) (by simp; omega)
              subst hA3
              have e1 := hcell j _ (f32s_at hjl)
              obtain ⟨y, hy⟩ : ∃ y, ys3.getD j 0 = y := ⟨_, rfl⟩
              rw [hy] at e1
              have hjm : j < ms3.length := by have := HY3.out; omega
              have hjp : j < p3.vs.length := by have := HL3.out; omega
              obtain ⟨tb, tc, hvt, _, _, htc1, htc2, _, tcell⟩ := owns_cells HV3.out.pl.trow (by omega) (by simp [trs])
              subst hvt
              have htr : (ms3[j]).v.tr = (p3.vs[j]).tr := by
                have h1 := congrArg (fun l => l[j]?) HMs.out
                simp only [List.getElem?_map, List.getElem?_eq_getElem hjm, List.getElem?_eq_getElem hjp, Option.map_some] at h1
                injection h1 with h1
                rw [h1]; rfl
              have hmem : p3.vs[j] ∈ p3.vs := List.getElem_mem hjp
              obtain ⟨q1, q2⟩ := HTr.out.2 _ hmem
              rw [← HB3.out] at q2
              obtain ⟨tj, htj⟩ : ∃ tj : Nat, (p3.vs[j]).tr = (tj : Int) := ⟨(p3.vs[j]).tr.toNat, by omega⟩
              have htl : tj < rs3.length := by have := HR3e.out; have := HRB.out; omega
              have e2 := tcell j (.int .i64 tj) (by simp only [trs, List.getElem?_map, List.getElem?_eq_getElem hjm, Option.map_some]; rw [htr, htj])
              obtain ⟨r, hr⟩ : ∃ r, rs3[tj]? = some r := ⟨rs3[tj], List.getElem?_eq_getElem htl⟩
              obtain ⟨ob, oc, hvo, _, _, hoc1, hoc2, _, ocell⟩ := owns_cells HV3.out.rows.own (by omega) (by simp)
              have htc3 : ms3.length ≤ 9223372036854775807 := Nat.le_trans htc1 htc2
              have htl2 : tj < rs2.length := by have := HR3e.out; omega
              injection hvo with w1 _ w3
              subst w1 w3
              have e3 := ocell tj (trkV n r) (by rw [List.getElem?_map, hr]; rfl)
              unfold trkV at e3
              have hrow := (HV3.out.rows.row r (List.mem_of_getElem? hr)).1
              have e4 := hrow.cell hlt
              have f4 := hrow.frozen k
              have e5 := (pl_cells HV3.out.pl.box).2.2.2.2.2.2.2.2.2.2.1
              have HS : Hid (Snd (bmOf c.bs) c.s.2.1 c.L k tj) := Lib.hid (by
                refine ⟨p3.vs[j], ?_, htj⟩
                rw [HPV.out]
                exact hmem)
              have HVp := Lib.hid (HV3.out.put (t := k) (y := y) hr)
              have HLp : Hid ((wr.setCell ⟨r.1, k, none⟩ (.float .f32 y)).ownsRow lo4 31 1 (.slice (some ⟨lb, loff, none⟩) ys3.length ca3) ys3.length (f32s ys3)) := owns_stay HLs3.out fun q e => Below.heap_setCell _ _ _ _ (fun q' => HA3.out r (List.mem_of_getElem? hr) (by rw [e, q']))
              have HAp : Hid (∀ r' ∈ rs3.set tj (r.1, fun i => if i = k then y else r.2 i), (Value.slice (some ⟨lb, loff, none⟩) ys3.length ca3).ownBlock ≠ some r'.1) := Lib.hid (fun r' hr' => by
                rcases List.mem_or_eq_of_mem_set hr' with h1 | rfl
                · exact HA3.out r' h1
                · exact HA3.out r (List.mem_of_getElem? hr))
              have HRp := Lib.hid (HR3.out.put (y := y) HS.out hr)
              have HLn : Hid ((rs3.set tj (r.1, fun i => if i = k then y else r.2 i)).length = rs3.length) := Lib.hid (by simp)
              clear hcell tcell ocell hrow htr hmem q1 q2 htj hr hy HV3 HLs3 HA3 HR3 HS
              go_wp2_with fail
              go_roundw
              case rel => exact ⟨j + 1, _, by go_num, by omega, Lib.hid (by rw [HLn.out]; exact HR3e.out), HVp, HLp, HAp, HRp⟩
              case measure => simp [intOf]; omega
            · obtain rfl : j = ys3.length := by omega
              go_wp2_with fail
              go_roundw
              case rel => exact ⟨k + 1, rs3, vV3, vT3, ms3, b3, by go_num, by omega, by rw [HNx.out]; exact HV3, ⟨by rw [HNx.out], by rw [HNx.out], by have := HR3e.out; have := HRB.out; omega, HR3.out⟩⟩
              case measure => simp [intOf]; omega
    · obtain rfl : k = n := by omega
      obtain ⟨A1, c1, hv1⟩ := owns_form HV.out.rows.own
      subst hv1
      go_wp2_with fail
      go_ret2
      have hc := HC.out
      subst hc
      have hsb := HSB.out
      subst hsb
      exact ⟨A1, c1, rs, rfl, ⟨owns_lower HV.out.rows.own (by have := HZ2.out; have := HV.out.g0; omega), fun r hr => ⟨(HV.out.rows.row r hr).1, by have := (HV.out.rows.row r hr).2; have := HZ2.out; have := HV.out.g0; omega⟩, HV.out.rows.apart⟩, HX.out.2.2.1.trans HX.out.2.1, HX.out.2.2.2, HB2.out.trans (HV.out.pl.bel.mono HB2.out.size)⟩
end Go.Proofs.Ytndnfhhdflmfcaa

/-
The law FnTracks returns true for all codes. No condition.
-/
namespace Go.Proofs.Ytndnfhhdflmfcaa.lawTracks
open Go Go.RowKit Go.ChangeShapes Go.WideShapes Ieee

/-- What stays: the score with its box, the tracks, the events in order. -/
structure TSt (w W : World) (q : Nat) (s : Sh) (B : Option Addr) (cb : Nat) (bs : List Bd) (E : Option Addr) (ce : Nat) (evs : List Ev) (g : Nat) (vR : Value) (rs : List Trk) (n : Nat) (A : Option Addr) (c : Nat) (O : List Ev) : Prop where
  x1 : W.heap[q]? = some (.cells #[.int .i64 s.1, .int .i64 s.2.1, .float .f32 s.2.2.1, .float .f32 s.2.2.2, .slice B bs.length cb, .slice E evs.length ce] 44 (0, 0))
  sc : ∃ lo hi, ScIn W lo hi B cb bs E ce evs
  rows : RowsIn W g vR rs n
  ord : ∃ lo hi, OwnE W lo hi A c O ∧ hi ≤ W.heap.size
  bel : Below w.heap.size w W
section
variable {w W W' : World} {q : Nat} {s : Sh} {B : Option Addr} {cb : Nat} {bs : List Bd} {E : Option Addr} {ce : Nat} {evs : List Ev} {g : Nat} {vR : Value} {rs : List Trk} {n : Nat} {A : Option Addr} {c : Nat} {O : List Ev}
theorem TSt.new (h : TSt w W q s B cb bs E ce evs g vR rs n A c O) (hb : Below W.heap.size W W') : TSt w W' q s B cb bs E ce evs g vR rs n A c O := by
  obtain ⟨l1, h1, a1⟩ := h.sc
  obtain ⟨l2, h2, a2, b2⟩ := h.ord
  exact ⟨(hb.block _ (lt_of_some h.x1)).trans h.x1, ⟨l1, h1, a1.below hb⟩, h.rows.new hb, ⟨l2, h2, a2.below hb b2, Nat.le_trans b2 hb.size⟩, h.bel.trans (hb.mono h.bel.size)⟩
theorem TSt.drewN (h : TSt w W q s B cb bs E ce evs g vR rs n A c O) (m : Nat) : TSt w (W.drewN m) q s B cb bs E ce evs g vR rs n A c O := h.new (below_drewN (Below.refl _ _) m)
end
set_option maxRecDepth 100000 in
set_option maxHeartbeats 6400000 in
theorem walk (A : Option Addr) (cp : Nat) (bs : List Int) (w : World) (mx : bs.length ≤ maxLen) (hrd : Rd w A (bs.map (.int .u8))) (hwf : ∀ i, i < bs.length → 0 ≤ bs.getD i 0 ∧ bs.getD i 0 ≤ 255) :
    Calls Try.prog 7 #[.slice A bs.length cp] w fun e w' => e = .returned (.bool true) ∧ Below w.heap.size w w' := by
  unfold maxLen at mx
  by_cases hm : 1048576 < bs.length
  · go_enter Try.func7, Try.ntmps7
    go_wp2
    go_ret
    exact ⟨rfl, Below.refl _ _⟩
  have Hr := Lib.hid hrd
  clear hrd hwf
  go_enter Try.func7, Try.ntmps7
  go_wp2_with fail
  refine (makeScore_any A cp bs 40 w Hr.out (by omega) (by omega)).mono ?_
  intro r W1 hp
  obtain ⟨⟨s, B, cb, bds, E, ce, evs, rfl, hin, hok⟩, hb1⟩ := hp
  have HP : Hid (ScPlay s bds evs) := hok.play (by omega)
  obtain ⟨L, hL, hL1⟩ : ∃ L : Nat, s.1 = (L : Int) ∧ L ≤ 40 := ⟨s.1.toNat, by have := hok.sh.l0; omega, by have := hok.sh.l1; omega⟩
  have HAT : Hid (AtAll L s bds evs) := HP.out.at (by omega)
  have hel : evs.length ≤ 13 := hok.evs.1
  have hvo0 : 1 ≤ s.2.1 := hok.sh.v0
  have hvo1 : s.2.1 ≤ 4 := hok.sh.v1
  obtain ⟨len, vo, c, r⟩ := s
  simp only at hL hvo0 hvo1
  subst hL
  have b2 : Below W1.heap.size W1 (W1.alloc (.cells #[.int .i64 (L : Int), .int .i64 vo, .float .f32 c, .float .f32 r, .slice B bds.length cb, .slice E evs.length ce] 44)) := (Below.refl W1.heap.size W1).alloc (Nat.le_refl _) _
  have X2 := Lib.hid (heap_alloc_new W1 (.cells #[.int .i64 (L : Int), .int .i64 vo, .float .f32 c, .float .f32 r, .slice B bds.length cb, .slice E evs.length ce] 44))
  have S2 := Lib.hid (hin.below b2)
  have B2 := Lib.hid (hb1.trans (b2.mono hb1.size))
  clear hin hok hb1 b2 Hr
  unfold scV
  obtain ⟨c0, c1, c2, c3, c4, c5⟩ := sc_cells X2.out
  go_wp2_with fail
  clear c0 c1 c2 c3 c4 c5
  generalize W1.alloc (.cells #[.int .i64 (L : Int), .int .i64 vo, .float .f32 c, .float .f32 r, .slice B bds.length cb, .slice E evs.length ce] 44) = W2 at *
  generalize W1.heap.size = q1 at *
  refine (renderVoices_any ((L : Int), vo, c, r) B cb bds E ce _ _ L evs W2 S2.out HP.out HAT.out rfl).mono ?_
  rintro rr W3 ⟨Aw, cw, rs, rfl, hrows, hrlen, hrok, hb3⟩
  have X3 := Lib.hid ((hb3.block _ (lt_of_some X2.out)).trans X2.out)
  have S3 := Lib.hid (S2.out.below hb3)
  have B3 := Lib.hid (B2.out.trans (hb3.mono B2.out.size))
  have R3 := Lib.hid hrows
  have HRk := Lib.hid hrok
  have h0 : ∀ e ∈ evs, 0 ≤ e.1 := fun e he => (HP.out.evs.2 e he).a0
  have HRl : Hid (rs.length = cS L evs) := Lib.hid (by
    have h1 := begun_cnt (bm := bmOf bds) (most := vo) h0 L
    have h2 : (rs.length : Int) = (plAt (bmOf bds) vo (sortedE evs) L).2.begun := hrlen
    rw [h1] at h2
    omega)
  have H0 := Lib.hid h0
  clear hrows hrlen hrok hb3 X2 S2 B2 h0
  obtain ⟨c0, c1, c2, c3, c4, c5⟩ := sc_cells X3.out
  go_wp2_with fail
  clear c0 c1 c2 c3 c4 c5
  refine (specOrder_any ((L : Int), vo, c, r) B cb bds E ce _ _ evs W3 S3.out HP.out.ask).mono ?_
  rintro rr W4 ⟨A', c', O, rfl, ho4, hO4, hb4⟩
  have HO := Lib.hid hO4
  have HT : Hid (TSt w W4 q1 ((L : Int), vo, c, r) B cb bds E ce evs W2.heap.size (.slice Aw rs.length cw) rs L A' c' O) := by
    refine ⟨(hb4.block _ (lt_of_some X3.out)).trans X3.out, ⟨_, _, S3.out.below hb4⟩, R3.out.new hb4, ⟨_, _, OwnE.of (by rw [hO4.len]; exact ho4), Nat.le_refl _⟩, B3.out.trans (hb4.mono B3.out.size)⟩
  have HRO : Hid (rs.length = cS L O) := Lib.hid (by
    rw [HRl.out, cS_eq (fun e he => H0.out e (hO4.mem e he)) H0.out hO4.tm])
  have HSn : Hid (∀ (k t : Nat), k < O.length → (t : Int) < (eAt O k).1 → (eAt O k).1 < (L : Int) → ∀ r', rs[cS L (O.take k)]? = some r' → r'.2 t = 0) := Lib.hid (fun k t hk ht hkL r' hr => by
    refine HRk.out _ r' hr t (by omega) (.inr fun hsn => ?_)
    have h1 := (snd_lt (evs := evs) H0.out hsn).2
    have h2 := strikes_ahead hO4.srt hk ht (Int.le_of_lt hkL)
    have h3 : cS ((t : Int) + 1) O = cS ((t : Int) + 1) evs := by
      have := cS_eq (fun e he => H0.out e (hO4.mem e he)) H0.out hO4.tm (t + 1)
      rw [show ((t + 1 : Nat) : Int) = (t : Int) + 1 by omega] at this
      exact this
    omega)
  clear ho4 hO4 hb4 X3 S3 B3 R3 HRk H0
  go_wp2_with fail
  go_loopw [6, 26] (fun v i wr => ∃ k : Nat, i = .int .i64 (k : Int) ∧ k ≤ evs.length ∧ v = .int .i64 (cS L (O.take k) : Nat) ∧ Hid (TSt w wr q1 ((L : Int), vo, c, r) B cb bds E ce evs W2.heap.size (.slice Aw rs.length cw) rs L A' c' O)) (fun _ i _ => evs.length - (intOf i).toNat)
  case atStart => exact ⟨0, rfl, by omega, rfl, HT⟩
  case round =>
    clear HT
    obtain ⟨k, rfl, hk, rfl, HT⟩ := hrel
    by_cases hlt : k < evs.length
    · have hkO : k < O.length := by rw [HO.out.len]; exact hlt
      obtain ⟨lo2, hi2, ho, hh2⟩ := HT.out.ord
      obtain ⟨b, hA, _, _, _, hlc, _, hcell⟩ := ho.cells (by omega)
      subst hA
      obtain ⟨e0, e1, e2, e3, e4, e5⟩ := hcell k hkO
      have HCt := Lib.hid (cS_takeE hkO (L : Int))
      have HLt := Lib.hid (fun h => cS_take_lt hkO (n := (L : Int)) h)
      have HS0 := Lib.hid (fun t h1 h2 => HSn.out k t hkO h1 h2)
      clear hcell ho
      have HEp : Hid (0 ≤ (eAt O k).1) := Lib.hid ((HP.out.evs.2 _ (HO.out.mem _ (by rw [eAt_get hkO]; exact List.getElem_mem hkO))).a0)
      obtain ⟨nk, hnk⟩ : ∃ nk, cS L (O.take k) = nk := ⟨_, rfl⟩
      rw [hnk] at HCt HLt HS0
      rw [hnk]
      have hnl : nk ≤ 1000 := by
        rw [← hnk]
        have h1 := List.length_filter_le (isStr (L : Int)) (O.take k)
        have h2 : (O.take k).length ≤ k := by rw [List.length_take]; omega
        unfold cS; omega
      clear hnk
      generalize eAt O k = v at *
      obtain ⟨ta, tk, tb, ts, tc, tf⟩ := v
      simp only at e0 e1 e2 e3 e4 e5 HEp HS0
      have HB1 : Hid (Below wr.heap.size wr (wr.alloc (.cells #[.int .i64 ta, .int .i64 tk, .int .i64 tb, .int .i64 ts, .int .i64 tc, .float .f32 tf] 48))) := (Below.refl _ _).alloc (Nat.le_refl _) _
      have HT1 := Lib.hid (HT.out.new HB1.out)
      have HBx := Lib.hid (heap_alloc_new wr (.cells #[.int .i64 ta, .int .i64 tk, .int .i64 tb, .int .i64 ts, .int .i64 tc, .float .f32 tf] 48))
      have d0 := (sc_cells HT1.out.x1).1
      clear HT HB1
      by_cases hk1 : tk = 1
      · subst hk1
        by_cases hAL : ta < (L : Int)
        · have hst : isStr (L : Int) (ta, 1, tb, ts, tc, tf) = true := by simp [isStr, hAL]
          have hlt2 : nk < rs.length := by have := HLt.out hst; have := HRO.out; omega
          have HC1 : Hid (cS L (O.take (k + 1)) = nk + 1) := Lib.hid (by rw [HCt.out, if_pos hst])
          clear hst HCt HLt
          obtain ⟨r', hr⟩ : ∃ r', rs[nk]? = some r' := ⟨rs[nk], List.getElem?_eq_getElem hlt2⟩
          have HZ := Lib.hid (fun t h1 => HS0.out t h1 hAL r' hr)
          have HMe := Lib.hid (List.mem_of_getElem? hr)
          obtain ⟨ob, oc, hvo, _, _, hoc1, hoc2, _, ocell⟩ := owns_cells HT1.out.rows.own (by omega) (by simp)
          injection hvo with w1 _ w3
          subst w1 w3
          have e9 := ocell nk (trkV L r') (by rw [List.getElem?_map, hr]; rfl)
          unfold trkV at e9
          have HRo : Hid (∀ W, TSt w W q1 ((L : Int), vo, c, r) B cb bds (E) ce evs W2.heap.size (.slice (some ⟨ob, 0, none⟩) rs.length cw) rs L (some ⟨b, 0, none⟩) c' O → W.cell? ⟨ob, nk, none⟩ = some (.slice (some ⟨r'.1, 0, none⟩) L L) ∧ W.rowIs r'.1 31 L (fun i => .float .f32 (r'.2 i))) := Lib.hid (fun W hT => by
            obtain ⟨ob', oc', hvo', _, _, _, _, _, ocell'⟩ := owns_cells hT.rows.own (by omega) (by simp)
            injection hvo' with w1' _ w3'
            injection w1' with w1'
            injection w1' with w1' _ _
            subst w1'
            have := ocell' nk (trkV L r') (by rw [List.getElem?_map, hr]; rfl)
            exact ⟨this, (hT.rows.row r' HMe.out).1⟩)
          clear ocell hr HS0
          go_wp2_with fail
          go_quiet (fail)
          go_wp2_with fail
          have HT2 := Lib.hid (HT1.out.drewN nq)
          have HBx2 : Hid (((wr.alloc (.cells #[.int .i64 ta, .int .i64 1, .int .i64 tb, .int .i64 ts, .int .i64 tc, .float .f32 tf] 48)).drewN nq).heap[wr.heap.size]? = some (.cells #[.int .i64 ta, .int .i64 1, .int .i64 tb, .int .i64 ts, .int .i64 tc, .float .f32 tf] 48 (0, 0))) := HBx.out
          clear HT1 HBx e0 e1 e2 e3 e4 e5 e9 d0
          generalize (wr.alloc (.cells #[.int .i64 ta, .int .i64 1, .int .i64 tb, .int .i64 ts, .int .i64 tc, .float .f32 tf] 48)).drewN nq = V at *
          generalize wr.heap.size = g8 at *
          have hta := HEp.out
          go_loopw [9] (fun i wr => ∃ t : Nat, i = .int .i64 (t : Int) ∧ (t : Int) ≤ ta ∧ Hid (TSt w wr q1 ((L : Int), vo, c, r) B cb bds E ce evs W2.heap.size (.slice (some ⟨ob, 0, none⟩) rs.length cw) rs L (some ⟨b, 0, none⟩) c' O) ∧
            Hid (wr.heap[g8]? = some (.cells #[.int .i64 ta, .int .i64 1, .int .i64 tb, .int .i64 ts, .int .i64 tc, .float .f32 tf] 48 (0, 0)))) (fun i _ => ta.toNat - (intOf i).toNat)
          case atStart => exact ⟨0, rfl, hta, HT2, HBx2⟩
          case round =>
            clear HT2 HBx2
            obtain ⟨t, rfl, ht, HT2, HBx2⟩ := hrel
            have c0 := cell_of_row _ g8 0 _ _ (0, 0) HBx2.out
            by_cases hlt3 : (t : Int) < ta
            · have hR := HRo.out _ HT2.out
              have e9 := hR.1
              have e := hR.2.cell (i := t) (by omega)
              rw [HZ.out t hlt3] at e
              have hfe : feq .f32 0 0 = true := by decide +kernel
              have htL : (t : Int) < (L : Int) := by omega
              have htL2 : t < L := by omega
              clear hR
              go_wp2_with fail
              go_roundw
              case rel => exact ⟨t + 1, by go_num, by omega, HT2, HBx2⟩
              case measure => simp [intOf]; omega
            · go_wp2_with fail
              go_roundw
              case rel => exact ⟨k + 1, by go_num, by omega, by rw [HC1.out]; go_num, HT2⟩
              case measure => simp [intOf]; omega
        · have hst : isStr (L : Int) (ta, 1, tb, ts, tc, tf) = false := by simp [isStr]; omega
          have HC1 : Hid (cS L (O.take (k + 1)) = nk) := Lib.hid (by rw [HCt.out, hst]; rfl)
          clear hst HCt HLt HS0
          go_wp2_with fail
          go_roundw
          case rel => exact ⟨k + 1, by go_num, by omega, by rw [HC1.out], HT1⟩
          case measure => simp [intOf]; omega
      · have hz' : (tk == 1) = false := by simpa using hk1
        have hst : isStr (L : Int) (ta, tk, tb, ts, tc, tf) = false := by simp [isStr, hk1]
        have HC1 : Hid (cS L (O.take (k + 1)) = nk) := Lib.hid (by rw [HCt.out, hst]; rfl)
        clear hst HCt HLt HS0
        go_wp2_with fail
        go_roundw
        case rel => exact ⟨k + 1, by go_num, by omega, by rw [HC1.out], HT1⟩
        case measure => simp [intOf]; omega
    · obtain rfl : k = evs.length := by omega
      have HNl : Hid (cS L (O.take evs.length) = rs.length) := Lib.hid (by rw [← HO.out.len, List.take_length, HRO.out])
      rw [HNl.out]
      go_wp2_with fail
      go_loopw [10] (fun i wr => ∃ t : Nat, i = .int .i64 (t : Int) ∧ t ≤ L ∧ Hid (TSt w wr q1 ((L : Int), vo, c, r) B cb bds E ce evs W2.heap.size (.slice Aw rs.length cw) rs L A' c' O)) (fun i _ => L - (intOf i).toNat)
      case atStart => exact ⟨0, rfl, by omega, HT⟩
      case round =>
        clear HT
        obtain ⟨t, rfl, ht, HT⟩ := hrel
        obtain ⟨d0, d1, d2, d3, d4, d5⟩ := sc_cells HT.out.x1
        by_cases hlt3 : t < L
        · obtain ⟨lo1, hi1, hsc⟩ := HT.out.sc
          have hml : (((soundP (bmOf bds) vo (sortedE evs) t (plAt (bmOf bds) vo (sortedE evs) t)).length : Nat) : Int) ≤ vo := by
            obtain ⟨t', _, ha⟩ := HAT.out t (by omega)
            exact (arriveP_ok (now := t) (l := (sortedE evs).drop (plAt (bmOf bds) vo (sortedE evs) t).1) ha.ok HP.out.sh.v0 HP.out.bods (fun e he => HP.out.evs.2 e (sortedE_mem (List.mem_of_mem_drop he)))).len
          go_wp2_with fail
          refine (voicesAt_any ((L : Int), vo, c, r) B cb bds E ce lo1 hi1 L t evs wr hsc HP.out HAT.out rfl hlt3).mono ?_
          rintro rr W5 ⟨Av, cv, mv, rfl, hmv, hb5⟩
          have hmv' : (mv : Int) ≤ vo := by
            have h1 : mv = (soundP (bmOf bds) vo (sortedE evs) t (plAt (bmOf bds) vo (sortedE evs) t)).length := hmv
            rw [h1]; exact hml
          have HT5 := Lib.hid (HT.out.new hb5)
          clear hmv hb5 HT hsc hml d0 d1 d2 d3 d4 d5
          have d1 := (sc_cells HT5.out.x1).2.1
          have hmn : ¬ vo < (mv : Int) := by omega
          go_wp2_with fail
          go_roundw
          case rel => exact ⟨t + 1, by go_num, by omega, HT5⟩
          case measure => simp [intOf]; omega
        · go_wp2_with fail
          go_ret
          exact ⟨rfl, HT.out.bel⟩

set_option maxRecDepth 100000 in
theorem lifted (os : Os) (started : os.Started) (H : Type) (enc : TypeId × Value → H) :
    ReturnsInHanded {} Try.checked os 7 .any (Rows.fnTracksSpec.pre6 enc Try.prog Try.f7 Rows.fnTracksRow.domain false) (Rows.fnTracksSpec.post enc Try.prog Try.f7 false true false false) := by
  refine returnsInHanded_of_change (C := Try.checked) own started (by kernel_rfl) Try.func7
    (ChangeSpec.witness6 (enc := enc) (C := Try.checked) false ⟨#[], #[.slice none 0 0], []⟩ 8 (by kernel_rfl) (by kernel_rfl) (by kernel_rfl) (by kernel_rfl)) ?_
  intro W base args ds gs before hval0 hW hcnd _
  have hval : ∀ (j : Nat) t v, Try.f7.params[j]? = some t → args[j]? = some v → Value.okWide Try.prog W .any base t v := hval0
  have hW' := hW
  obtain ⟨p, q, hA0, hV, rfl, hfz, hnd⟩ := hW
  have hA : DataW.TrodAll enc Try.prog W 0 (fun _ => true) true Try.f7.params.toList args.toList ds p := hA0
  rw [Try.params7] at hA hval
  obtain ⟨v0, vs0, d0, ds0, p0, q0, hargs, rfl, rfl, h0, r0⟩ := trodAll_cons hA
  obtain ⟨rfl, rfl, rfl⟩ := trodAll_nil r0
  obtain rfl : args = #[v0] := by cases args; simp_all
  obtain ⟨rfl, rfl⟩ := trodVars_none hV
  obtain ⟨a0, len0, cap0, rfl⟩ := okWide_slice Try.underlying22 (hval 0 22 v0 rfl rfl)
  have lt0 : ∀ x ∈ p0, x.block < W.heap.size := by obtain ⟨m, hm⟩ := h0; exact DataW.trod_lt m _ _ _ hm
  obtain ⟨bs0, rfl, mx0, rd0, wf0⟩ := open_bytes rfl Try.underlying22 Try.underlying5 (by kernel_rfl) h0
  clear hA0 hval0
  refine (walk a0 cap0 bs0 W mx0 rd0 wf0).mono fun e W' ⟨he, bel⟩ => ?_
  subst he
  exact ⟨_, rfl, _, _, _, [], _, [], hW', trodAll_mk1 (shut_bool Try.underlying4 _), (trodAll_cons_mk (Below.trod laidOut (by kernel_rfl) (of_decide_eq_true (by kernel_rfl)) h0 bel lt0) trodAll_mk0), rfl, bel.frame _, fun h => by cases h⟩

theorem proved : Rows.FnTracksSaid :=
  OpenClaim.holds_of_wide 7 Try.f7 rfl rfl rfl rfl rfl rfl rfl ⟨rfl, rfl, rfl, rfl, rfl⟩ rfl rfl rfl rfl rfl (by kernel_rfl) Try.func7 (by kernel_rfl)
    (of_decide_eq_true (by kernel_rfl)) (by unfold Func.isWrapper; first | (rw [if_pos (by decide +kernel)]; kernel_rfl) | (rw [if_neg (by decide +kernel)]; exact ⟨rfl, rfl⟩))
    (fun os started H enc _ => lifted os started H enc)
#print axioms proved
end Go.Proofs.Ytndnfhhdflmfcaa.lawTracks
