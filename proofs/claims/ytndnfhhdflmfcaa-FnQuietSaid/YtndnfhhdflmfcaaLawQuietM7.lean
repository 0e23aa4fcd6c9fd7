/-
Part 7 of 7 of the proof of the law FnQuiet: it returns true for all codes. No condition.
-/
import Derived.Test.YtndnfhhdflmfcaaLawQuietM6

/-
The law FnQuiet returns true for all codes. No condition.
-/
namespace Go.Proofs.Ytndnfhhdflmfcaa.lawQuiet
open Go Go.RowKit Go.ChangeShapes Go.WideShapes Ieee

/-- What stays: the score with its box, and another score's box, whose events are gathered. -/
structure QIn (w W : World) (q : Nat) (s : Sh) (B : Option Addr) (cb : Nat) (bs : List Bd) (E : Option Addr) (ce : Nat) (evs : List Ev) (p : Nat) (v : Value) (qs : List Ev) (lo hi g0 : Nat) : Prop where
  x1 : W.heap[q]? = some (.cells #[.int .i64 s.1, .int .i64 s.2.1, .float .f32 s.2.2.1, .float .f32 s.2.2.2, .slice B bs.length cb, .slice E evs.length ce] 44 (0, 0))
  x2 : W.heap[p]? = some (.cells #[.int .i64 s.1, .int .i64 s.2.1, .float .f32 s.2.2.1, .float .f32 s.2.2.2, .slice B bs.length cb, v] 44 (0, 0))
  sc : ScIn W lo hi B cb bs E ce evs
  own : W.ownsRow g0 48 6 v qs.length (flatE qs)
  h1 : hi ≤ q
  h2 : q < p
  h3 : p < g0
  h4 : w.heap.size ≤ lo
  h5 : lo ≤ hi
  gs : g0 ≤ W.heap.size
  bel : Below w.heap.size w W
section
variable {w W W1 W2 : World} {q : Nat} {s : Sh} {B : Option Addr} {cb : Nat} {bs : List Bd} {E : Option Addr} {ce : Nat} {evs : List Ev} {p : Nat} {v : Value} {qs : List Ev} {lo hi g0 : Nat}
theorem QIn.new (h : QIn w W q s B cb bs E ce evs p v qs lo hi g0) (hb : Below W.heap.size W W1) : QIn w W1 q s B cb bs E ce evs p v qs lo hi g0 :=
  ⟨(hb.block _ (lt_of_some h.x1)).trans h.x1, (hb.block _ (lt_of_some h.x2)).trans h.x2, h.sc.below hb, owns_stay h.own fun k e => hb.block k (h.own.lt k e).2, h.h1, h.h2, h.h3, h.h4, h.h5, Nat.le_trans h.gs hb.size, h.bel.trans (hb.mono h.bel.size)⟩
/-- An event appended and the row stored. -/
theorem QIn.app {v' : Value} {e : Ev} (h : QIn w W q s B cb bs E ce evs p v qs lo hi g0) (hown : W2.ownsRow g0 48 6 v' (qs.length + 1) (flatE qs ++ evV e)) (hgr : W.grownBy W2 v.ownBlock) : QIn w (W2.setCell ⟨p, 5, none⟩ v') q s B cb bs E ce evs p v' (qs ++ [e]) lo hi g0 := by
  have a1 := h.h1
  have a2 := h.h2
  have a3 := h.h3
  have a4 := h.h4
  have a5 := h.h5
  have a6 := h.gs
  have a7 := h.bel.size
  have kk : ∀ j, j < g0 → W2.heap[j]? = W.heap[j]? := fun j hj => hgr.block j (by omega) (fun q' => by have := (h.own.lt j q'.symm).1; omega)
  have k2 : ∀ j, j ≠ p → (W2.setCell ⟨p, 5, none⟩ v').heap[j]? = W2.heap[j]? := fun j hj => Below.heap_setCell _ _ _ _ hj
  have hp := (kk p a3).trans h.x2
  refine ⟨(k2 q (by omega)).trans ((kk q (by omega)).trans h.x1), ?_, h.sc.keep (fun j _ hj => (k2 j (by omega)).trans (kk j (by omega))) (by have := h.sc.hh; have := hgr.size; simp; omega), ?_, a1, a2, a3, a4, a5, by have := hgr.size; simp; omega, ?_⟩
  · simp [World.setCell, Array.getElem?_modify, hp]
  · have e1 : (qs ++ [e]).length = qs.length + 1 := by simp
    rw [e1, ← flatE_snoc]
    exact owns_stay hown fun k e => k2 k (by have := (hown.lt k e).1; omega)
  · exact (h.bel.grown hgr (by omega) (fun k q' => by have := (h.own.lt k q').1; omega)).setCell (by show w.heap.size ≤ p; omega) _
/-- The other score. -/
theorem QIn.score {A : Option Addr} {c : Nat} (h : QIn w W q s B cb bs E ce evs p (.slice A qs.length c) qs lo hi g0) : ScIn W lo W.heap.size B cb bs A c qs := by
  have a1 := h.h1
  have a2 := h.h2
  have a3 := h.h3
  have a5 := h.h5
  have a6 := h.gs
  exact ⟨h.sc.bods.raise h.sc.hh, ⟨owns_lower h.own (by omega), fun k e => (h.own.lt k e).2⟩, Nat.le_refl _⟩
end
/-- A third score: its box is made, its row of events is a new one. -/
theorem QIn.restart {w W W1 W2 : World} {q : Nat} {s : Sh} {B : Option Addr} {cb : Nat} {bs : List Bd} {E : Option Addr} {ce : Nat} {evs : List Ev} {p p' : Nat} {v v' v0 : Value} {qs : List Ev} {lo hi g0 : Nat} (h : QIn w W q s B cb bs E ce evs p v qs lo hi g0) (hb : Below W.heap.size W W1)
    (hx : W1.heap[p']? = some (.cells #[.int .i64 s.1, .int .i64 s.2.1, .float .f32 s.2.2.1, .float .f32 s.2.2.2, .slice B bs.length cb, v0] 44 (0, 0))) (hp : W.heap.size ≤ p') (hz : p' + 1 ≤ W1.heap.size) (hb2 : Below (p' + 1) W1 W2)
    (hown : W2.ownsRow (p' + 1) 48 6 v' evs.length (flatE evs)) : QIn w (W2.setCell ⟨p', 5, none⟩ v') q s B cb bs E ce evs p' v' (evs ++ stops 0 0) lo hi (p' + 1) := by
  have a1 := h.h1
  have a2 := h.h2
  have a3 := h.h3
  have a4 := h.h4
  have a5 := h.h5
  have a6 := h.gs
  have a7 := h.sc.hh
  have k2 : ∀ j, j ≠ p' → (W2.setCell ⟨p', 5, none⟩ v').heap[j]? = W2.heap[j]? := fun j hj => Below.heap_setCell _ _ _ _ hj
  have kk : ∀ j, j < W.heap.size → (W2.setCell ⟨p', 5, none⟩ v').heap[j]? = W.heap[j]? := fun j hj => (k2 j (by omega)).trans ((hb2.block j (by omega)).trans (hb.block j hj))
  have hx2 := (hb2.block p' (by omega)).trans hx
  have e0 : evs ++ stops 0 0 = evs := by simp [stops]
  rw [e0]
  refine ⟨(kk q (lt_of_some h.x1)).trans h.x1, ?_, h.sc.keep (fun j _ hj => kk j (by omega)) (by have := hb.size; have := hb2.size; simp; omega), owns_stay hown fun k e => k2 k (by have := (hown.lt k e).1; omega), a1, by omega, by omega, a4, a5, by have := hb2.size; simp; omega, ?_⟩
  · simp [World.setCell, Array.getElem?_modify, hx2]
  · exact ((h.bel.trans (hb.mono h.bel.size)).trans (hb2.mono (by have := h.bel.size; omega))).setCell (by have := h.bel.size; show w.heap.size ≤ p'; omega) _
theorem run_append_noneE {P : Program} (w : World) (t ty e : TypeId) (i : TypeInfo) (ht : P.underlying t = some (.slice e)) (hi : P.info? e = some i) {base n size : Nat} {v : Value} {xs : List Value}
    (hown : w.ownsRow base e size v n xs) (c : Nat) : (Builtin.append_ #[t, t] ty #[v, .slice none 0 c]).run P w = .ok v w := run_append_none w t ty e i ht hi hown c
/-- Events of a score appended, few or none. -/
theorem wpList_appOwnE {w : World} {ops : Array Oper} {rest : List Oper} {o : Oper} {a : Act} {Q : Exit → Act → World → Prop} (hgd : o.guard = none) (s x : Operand)
    (ho : o.op = .call { callee := .builtin .append, args := #[s, x], argTypes := #[42, 42] })
    (B : Nat) (v : Value) (n : Nat) (xs : List Value) (E : Option Addr) (ce lo hi : Nat) (evs : List Ev) (hs : a.eval s = v) (hx : a.eval x = .slice E evs.length ce) (hown : w.ownsRow B 48 6 v n xs) (hB : B ≤ w.heap.size) (he : OwnE w lo hi E ce evs) (h63 : n + evs.length ≤ 1048576)
    (h : ∀ v' w', w'.ownsRow B 48 6 v' (n + evs.length) (xs ++ flatE evs) → Below B w w' → wpList Try.prog ops Q rest (a.put o.dst v') w') : wpList Try.prog ops Q (o :: rest) a w := by
  rcases he.1.2 with ⟨q, h0⟩ | ⟨g, cap, cur, q, _⟩
  · injection q with q1 q2 q3
    subst q1 q3
    have hn : evs = [] := List.eq_nil_of_length_eq_zero h0
    subst hn
    obtain ⟨i, hi', _, _, _⟩ := info_parts ev_info
    refine wpList_plain hgd fun K hK => ?_
    have hrun := run_append_none (P := Try.prog) w 42 o.type 48 i Try.underlying42 hi' hown 0
    simp only [List.length_nil] at hx
    unfold Oper.wp execOp
    simp only [ho, resolve, invoke, builtin, Sem.run_bind, Sem.run_pure, Result.andThen_ok, List.map_toArray, List.map_cons, List.map_nil, hs, hx, hrun]
    exact hK _ _ (h v w (by simpa [flatE] using hown) (Below.refl _ _))
  · injection q with q1 q2 q3
    subst q1 q3
    exact wpList_appE hgd s x 42 ho B 48 (.agg #[.int .i64 0, .int .i64 0, .int .i64 0, .int .i64 0, .int .i64 0, .float .f32 0]) 6 48 Try.underlying42 ev_info rfl (by decide) v n xs g evs.length ce (flatE evs) hs hx (flatE_one evs) hown hB he.flat (flatE_len evs) h63 (by omega) h
theorem wpList_appOwnE0 {w : World} {ops : Array Oper} {rest : List Oper} {o : Oper} {a : Act} {Q : Exit → Act → World → Prop} (hgd : o.guard = none) (s x : Operand)
    (ho : o.op = .call { callee := .builtin .append, args := #[s, x], argTypes := #[42, 42] })
    (B : Nat) (v : Value) (E : Option Addr) (ce lo hi : Nat) (evs : List Ev) (hs : a.eval s = v) (hx : a.eval x = .slice E evs.length ce) (hown : w.ownsRow B 48 6 v 0 []) (hB : B ≤ w.heap.size) (he : OwnE w lo hi E ce evs) (h63 : evs.length ≤ 1048576)
    (h : ∀ A' c' w', w'.ownsRow B 48 6 (.slice A' evs.length c') evs.length (flatE evs) → Below B w w' → wpList Try.prog ops Q rest (a.put o.dst (.slice A' evs.length c')) w') : wpList Try.prog ops Q (o :: rest) a w := by
  refine wpList_appOwnE hgd s x ho B v 0 [] E ce lo hi evs hs hx hown hB he (by omega) fun v' w' h1 h2 => ?_
  rw [Nat.zero_add, List.nil_append] at h1
  obtain ⟨A', c', rfl⟩ := owns_form h1
  exact h A' c' w' h1 h2
theorem rd_made (W : World) (L : Nat) : Rd (W.alloc (.cells (madeCells #[.float .f32 0] L) 31)) (some ⟨W.heap.size, 0, none⟩) (f32s (List.replicate L 0)) := fun _ => by
  have h := World.rowIs_made W (.float .f32 0) L 31
  refine ⟨W.heap.size, 0, rfl, h.lt, fun k u hu => ?_⟩
  have hk : k < L := by
    rcases Nat.lt_or_ge k L with q | q
    · exact q
    · rw [List.getElem?_eq_none (by simp [f32s]; omega)] at hu; cases hu
  have : u = .float .f32 0 := by
    simp [f32s, hk] at hu
    exact hu.symm
  rw [this, Nat.zero_add]
  exact h.cell hk
/-- The events that are no strikes, of the first k. -/
def noStr (k : Nat) (evs : List Ev) : List Ev := (evs.take k).filter fun e => !(e.2.1 == 1)
theorem noStr_yes {k : Nat} {evs : List Ev} (h : k < evs.length) (hk : (eAt evs k).2.1 ≠ 1) : noStr (k + 1) evs = noStr k evs ++ [eAt evs k] := by
  unfold noStr
  rw [takeE_succ h, List.filter_append, List.filter_cons_of_pos (by simpa using hk)]
  rfl
theorem noStr_no {k : Nat} {evs : List Ev} (h : k < evs.length) (hk : (eAt evs k).2.1 = 1) : noStr (k + 1) evs = noStr k evs := by
  unfold noStr
  rw [takeE_succ h, List.filter_append, List.filter_cons_of_neg (by simp [hk])]
  simp
theorem noStr_mem {k : Nat} {evs : List Ev} {e : Ev} (h : e ∈ noStr k evs) : e ∈ evs ∧ e.2.1 ≠ 1 := by
  unfold noStr at h
  obtain ⟨a, b⟩ := List.mem_filter.1 h
  exact ⟨List.mem_of_mem_take a, by simpa using b⟩
theorem noStr_len (k : Nat) (evs : List Ev) : (noStr k evs).length ≤ evs.length := by
  unfold noStr
  exact Nat.le_trans (List.length_filter_le _ _) (by simp; omega)
theorem playStops {s : Sh} {bs : List Bd} {evs : List Ev} {h : Nat} (hp : ScPlay s bs evs) (hh : (h : Int) ≤ s.1) (hl : evs.length ≤ 13) (hb : bs.length ≤ 3) : ScPlay s bs (evs ++ stops h bs.length) := by
  refine ⟨hp.sh, hp.bods, by rw [List.length_append, stops_len]; omega, fun e he => ?_⟩
  rcases List.mem_append.1 he with he | he
  · exact hp.evs.2 e he
  · obtain ⟨b, hb', rfl⟩ := mem_stops he
    obtain ⟨z1, z2⟩ := zero_fin .f32
    exact ⟨by show (0 : Int) ≤ (h : Int); omega, hh, by show (0 : Int) ≤ (b : Int); omega, by show (b : Int) < (bs.length : Int); omega, z1, by rw [wfk_32]; show 0 < 4294967296; omega, by show ab (fv .f32 0) ≤ 16000; rw [z2, ab_of_nonneg Rat.le_refl]; grind, .inr (.inr ⟨rfl, ⟨rfl, rfl⟩, rfl⟩)⟩
theorem playSub {s : Sh} {bs : List Bd} {evs qs : List Ev} (h : ScPlay s bs evs) (hq : ∀ e ∈ qs, e ∈ evs) (hl : qs.length ≤ 19) : ScPlay s bs qs := ⟨h.sh, h.bods, hl, fun e he => h.evs.2 e (hq e he)⟩
set_option maxRecDepth 100000 in
set_option maxHeartbeats 6400000 in
theorem walk (A : Option Addr) (cp : Nat) (bs : List Int) (w : World) (mx : bs.length ≤ maxLen) (hrd : Rd w A (bs.map (.int .u8))) (hwf : ∀ i, i < bs.length → 0 ≤ bs.getD i 0 ∧ bs.getD i 0 ≤ 255) :
    Calls Try.prog 5 #[.slice A bs.length cp] w fun e w' => e = .returned (.bool true) ∧ Below w.heap.size w w' := by
  unfold maxLen at mx
  by_cases hm : 1048576 < bs.length
  · go_enter Try.func5, Try.ntmps5
    go_wp2
    go_ret
    exact ⟨rfl, Below.refl _ _⟩
  have Hr := Lib.hid hrd
  clear hrd hwf
  go_enter Try.func5, Try.ntmps5
  go_wp2_with fail
  refine (makeScore_any A cp bs 30 w Hr.out (by omega) (by omega)).mono ?_
  intro r W1 hp
  obtain ⟨⟨s, B, cb, bds, E, ce, evs, rfl, hin, hok⟩, hb1⟩ := hp
  have HP : Hid (ScPlay s bds evs) := hok.play (by omega)
  obtain ⟨L, hL, hL1⟩ : ∃ L : Nat, s.1 = (L : Int) ∧ L ≤ 30 := ⟨s.1.toNat, by have := hok.sh.l0; omega, by have := hok.sh.l1; omega⟩
  have HAT : ∀ qs : List Ev, ScPlay s bds qs → AtAll L s bds qs := fun qs h => h.at (by omega)
  have HAt := Lib.hid HAT
  have hel : evs.length ≤ 13 := hok.evs.1
  have hbl : bds.length ≤ 3 := hok.bods.1
  clear HAT
  obtain ⟨len, vo, c, r⟩ := s
  simp only at hL
  subst hL
  have b2 : Below W1.heap.size W1 (W1.alloc (.cells #[.int .i64 (L : Int), .int .i64 vo, .float .f32 c, .float .f32 r, .slice B bds.length cb, .slice E evs.length ce] 44)) := (Below.refl W1.heap.size W1).alloc (Nat.le_refl _) _
  have X2 := Lib.hid (heap_alloc_new W1 (.cells #[.int .i64 (L : Int), .int .i64 vo, .float .f32 c, .float .f32 r, .slice B bds.length cb, .slice E evs.length ce] 44))
  have S2 := Lib.hid (hin.below b2)
  have B2 := Lib.hid (hb1.trans (b2.mono hb1.size))
  clear hin hok b2 Hr
  unfold scV
  obtain ⟨c0, c1, c2, c3, c4, c5⟩ := sc_cells X2.out
  go_wp2_with fail
  clear c0 c1 c2 c3 c4 c5
  have HQ0 : Hid (QIn w ((W1.alloc (.cells #[.int .i64 (L : Int), .int .i64 vo, .float .f32 c, .float .f32 r, .slice B bds.length cb, .slice E evs.length ce] 44)).alloc (.cells #[.int .i64 (L : Int), .int .i64 vo, .float .f32 c, .float .f32 r, .slice B bds.length cb, .slice none 0 0] 44)) W1.heap.size ((L : Int), vo, c, r) B cb bds E ce evs (W1.heap.size + 1) (.slice none 0 0) (noStr 0 evs) w.heap.size W1.heap.size (W1.heap.size + 2)) := by
    have b3 : Below (W1.alloc (.cells #[.int .i64 (L : Int), .int .i64 vo, .float .f32 c, .float .f32 r, .slice B bds.length cb, .slice E evs.length ce] 44)).heap.size (W1.alloc (.cells #[.int .i64 (L : Int), .int .i64 vo, .float .f32 c, .float .f32 r, .slice B bds.length cb, .slice E evs.length ce] 44)) ((W1.alloc (.cells #[.int .i64 (L : Int), .int .i64 vo, .float .f32 c, .float .f32 r, .slice B bds.length cb, .slice E evs.length ce] 44)).alloc (.cells #[.int .i64 (L : Int), .int .i64 vo, .float .f32 c, .float .f32 r, .slice B bds.length cb, .slice none 0 0] 44)) := (Below.refl _ _).alloc (Nat.le_refl _) _
    have hz : (W1.alloc (.cells #[.int .i64 (L : Int), .int .i64 vo, .float .f32 c, .float .f32 r, .slice B bds.length cb, .slice E evs.length ce] 44)).heap.size = W1.heap.size + 1 := by simp
    have n3 := heap_alloc_new (W1.alloc (.cells #[.int .i64 (L : Int), .int .i64 vo, .float .f32 c, .float .f32 r, .slice B bds.length cb, .slice E evs.length ce] 44)) (.cells #[.int .i64 (L : Int), .int .i64 vo, .float .f32 c, .float .f32 r, .slice B bds.length cb, .slice none 0 0] 44)
    rw [hz] at n3
    exact ⟨(b3.block _ (by omega)).trans X2.out, n3, S2.out.below b3, ⟨rfl, .inl ⟨rfl, rfl⟩⟩, Nat.le_refl _, by omega, by omega, Nat.le_refl _, hb1.size, by simp, B2.out.trans (b3.mono B2.out.size)⟩
  have hq1 : w.heap.size ≤ W1.heap.size := hb1.size
  clear X2 S2 B2 hb1
  generalize (W1.alloc (.cells #[.int .i64 (L : Int), .int .i64 vo, .float .f32 c, .float .f32 r, .slice B bds.length cb, .slice E evs.length ce] 44)).alloc (.cells #[.int .i64 (L : Int), .int .i64 vo, .float .f32 c, .float .f32 r, .slice B bds.length cb, .slice none 0 0] 44) = Wa at *
  generalize W1.heap.size = q1 at *
  go_loopw [32] (fun i wr => ∃ (k : Nat) (v : Value), i = .int .i64 (k : Int) ∧ k ≤ evs.length ∧ Hid (QIn w wr q1 ((L : Int), vo, c, r) B cb bds E ce evs (q1 + 1) v (noStr k evs) w.heap.size q1 (q1 + 2))) (fun i _ => evs.length - (intOf i).toNat)
  case atStart => exact ⟨0, _, rfl, by omega, HQ0⟩
  case round =>
    clear HQ0
    obtain ⟨k, vE, rfl, hk, HQ⟩ := hrel
    by_cases hlt : k < evs.length
    · obtain ⟨b, rfl, _, _, hbl', hlc, _, hcell⟩ := HQ.out.sc.evs.cells (by omega)
      obtain ⟨e0, e1, e2, e3, e4, e5⟩ := hcell k hlt
      clear hcell
      have HYes := Lib.hid (fun h => noStr_yes (k := k) hlt h)
      have HNo := Lib.hid (fun h => noStr_no (k := k) hlt h)
      have hnl : (noStr k evs).length ≤ 13 := Nat.le_trans (noStr_len _ _) hel
      generalize eAt evs k = v at *
      have HB1 : Hid (Below wr.heap.size wr (wr.alloc (.cells #[.int .i64 v.1, .int .i64 v.2.1, .int .i64 v.2.2.1, .int .i64 v.2.2.2.1, .int .i64 v.2.2.2.2.1, .float .f32 v.2.2.2.2.2] 48))) := (Below.refl _ _).alloc (Nat.le_refl _) _
      have HQ1 := Lib.hid (HQ.out.new HB1.out)
      by_cases hkd : v.2.1 = 1
      · have hz' : (v.2.1 == 1) = true := by simp [hkd]
        rw [← HNo.out hkd] at HQ1
        clear HYes HNo HQ hkd
        go_wp2_with fail
        go_roundw
        case rel => exact ⟨k + 1, vE, by go_num, by omega, HQ1⟩
        case measure => simp [intOf]; omega
      · have hz' : (v.2.1 == 1) = false := by simpa using hkd
        obtain ⟨A1, c1, hv1⟩ := owns_form HQ.out.own
        subst hv1
        have HB2 : Hid (Below (wr.alloc (.cells #[.int .i64 v.1, .int .i64 v.2.1, .int .i64 v.2.2.1, .int .i64 v.2.2.2.1, .int .i64 v.2.2.2.2.1, .float .f32 v.2.2.2.2.2] 48)).heap.size (wr.alloc (.cells #[.int .i64 v.1, .int .i64 v.2.1, .int .i64 v.2.2.1, .int .i64 v.2.2.2.1, .int .i64 v.2.2.2.2.1, .float .f32 v.2.2.2.2.2] 48)) ((wr.alloc (.cells #[.int .i64 v.1, .int .i64 v.2.1, .int .i64 v.2.2.1, .int .i64 v.2.2.2.1, .int .i64 v.2.2.2.2.1, .float .f32 v.2.2.2.2.2] 48)).alloc (.cells #[.int .i64 v.1, .int .i64 v.2.1, .int .i64 v.2.2.1, .int .i64 v.2.2.2.1, .int .i64 v.2.2.2.2.1, .float .f32 v.2.2.2.2.2] 48))) := (Below.refl _ _).alloc (Nat.le_refl _) _
        have HQ2 := Lib.hid (HQ1.out.new HB2.out)
        have HN2 : Hid (((wr.alloc (.cells #[.int .i64 v.1, .int .i64 v.2.1, .int .i64 v.2.2.1, .int .i64 v.2.2.2.1, .int .i64 v.2.2.2.2.1, .float .f32 v.2.2.2.2.2] 48)).alloc (.cells #[.int .i64 v.1, .int .i64 v.2.1, .int .i64 v.2.2.1, .int .i64 v.2.2.2.1, .int .i64 v.2.2.2.2.1, .float .f32 v.2.2.2.2.2] 48)).heap[wr.heap.size + 1]? = some (.cells #[.int .i64 v.1, .int .i64 v.2.1, .int .i64 v.2.2.1, .int .i64 v.2.2.2.1, .int .i64 v.2.2.2.2.1, .float .f32 v.2.2.2.2.2] 48 (0, 0))) := Lib.hid (by
          have := heap_alloc_new (wr.alloc (.cells #[.int .i64 v.1, .int .i64 v.2.1, .int .i64 v.2.2.1, .int .i64 v.2.2.2.1, .int .i64 v.2.2.2.2.1, .float .f32 v.2.2.2.2.2] 48)) (.cells #[.int .i64 v.1, .int .i64 v.2.1, .int .i64 v.2.2.1, .int .i64 v.2.2.2.1, .int .i64 v.2.2.2.2.1, .float .f32 v.2.2.2.2.2] 48)
          rwa [show (wr.alloc (.cells #[.int .i64 v.1, .int .i64 v.2.1, .int .i64 v.2.2.1, .int .i64 v.2.2.2.1, .int .i64 v.2.2.2.2.1, .float .f32 v.2.2.2.2.2] 48)).heap.size = wr.heap.size + 1 by simp] at this)
        have d5 := (sc_cells HQ1.out.x2).2.2.2.2.2
        have hyes := HYes.out hkd
        have HYs := Lib.hid hyes
        have hgs := HQ2.out.gs
        clear HYes HNo HQ HQ1 HB1 HB2 hyes hkd
        obtain ⟨i0, hi0, hz0, hz1, hz2⟩ := info_parts ev_info
        go_wp2_with (at_builtin; refine wpList_append_lies _ rfl (.tmp 40) (.tmp 42) 42 rfl (q1 + 2) 48 i0 _ 6 48 Try.underlying42 hi0 hz0 hz1 hz2 rfl (by omega) (.slice A1 (noStr k evs).length c1) (noStr k evs).length (flatE (noStr k evs)) (by rfl) HQ2.out.own ⟨wr.heap.size + 1, 0, none⟩ 1 1 (evV v) (by rfl) (by rfl) (World.news_of_block (t := 48) (fr := (0, 0)) HN2.out) (evV_one v) (by omega) (by simp only [maxLen]; omega) (by omega) hgs _ rfl ?_; intro gg cap W5 hown5 hgrow5 hat5 hlt5; have HQ5 := Lib.hid (HQ2.out.app (e := v) hown5 hgrow5); have x5 := (hgrow5.block (q1 + 1) (lt_of_some HQ2.out.x2) (fun q' => by have := (HQ2.out.own.lt _ q'.symm).1; omega)).trans HQ2.out.x2; have c5 := cell_of_row _ (q1 + 1) 5 _ _ (0, 0) x5; have f5 := free_cells x5 5; clear hown5 hgrow5 hat5 hlt5 x5)
        rw [← HYs.out] at HQ5
        clear HQ2 HN2 HYs c5 f5 d5 e0 e1 e2 e3 e4 e5
        go_wp2_with fail
        go_roundw
        case rel => exact ⟨k + 1, _, by go_num, by omega, HQ5⟩
        case measure => simp [intOf]; omega
    · obtain rfl : k = evs.length := by omega
      obtain ⟨A1, c1, hv1⟩ := owns_form HQ.out.own
      subst hv1
      obtain ⟨c0, c1', c2, c3, c4, c5⟩ := sc_cells HQ.out.x2
      obtain ⟨d0, d1, d2, d3, d4, d5⟩ := sc_cells HQ.out.x1
      have HSc := Lib.hid HQ.out.score
      have HPq : Hid (ScPlay ((L : Int), vo, c, r) bds (noStr evs.length evs)) := playSub HP.out (fun e he => (noStr_mem he).1) (by have := noStr_len evs.length evs; omega)
      have HQk : Hid (∀ e ∈ noStr evs.length evs, 0 ≤ e.1 ∧ e.2.1 ≠ 1) := Lib.hid (fun e he => ⟨(HP.out.evs.2 e (noStr_mem he).1).a0, (noStr_mem he).2⟩)
      go_wp2_with fail
      refine (renderScore_any ((L : Int), vo, c, r) B cb bds A1 c1 _ _ L (noStr evs.length evs) wr HSc.out HPq.out (HAt.out _ HPq.out) rfl).mono ?_
      rintro rr W6 ⟨A6, k6, ys, rfl, ho6, hst6, hb6⟩
      have HQ6 := Lib.hid (HQ.out.new hb6)
      have HO6 := Lib.hid ho6
      have HZr : Hid (∀ i, i < L → nrm .f32 (ys.getD i 0) = 0 ∧ wfk .f32 (ys.getD i 0)) := Lib.hid (fun i hi => by
        obtain ⟨a, b⟩ := hst6.2 i hi
        exact ⟨a.trans (quiet_smp (fun e he => (HQk.out e he).1) (fun e he => (HQk.out e he).2) HP.out.sh.lim i), b⟩)
      have hyl : ys.length = L := hst6.1
      have HYl := Lib.hid hyl
      clear ho6 hst6 hb6 hyl HQ HSc HPq HQk c0 c1' c2 c3 c4 c5 d0 d1 d2 d3 d4 d5
      generalize noStr evs.length evs = qs at *
      obtain ⟨d0, d1, d2, d3, d4, d5⟩ := sc_cells HQ6.out.x1
      have hmk := fun W => run_makeF W L (by omega)
      go_wp2_with fail
      have HB7 : Hid (Below W6.heap.size W6 (W6.alloc (.cells (madeCells #[.float .f32 0] L) 31))) := (Below.refl _ _).alloc (Nat.le_refl _) _
      have hs := same_true A6 (some ⟨W6.heap.size, 0, none⟩) k6 L ys (List.replicate L 0) _ ((owns_rd HO6.out).below HB7.out) (rd_made W6 L) (by have := HYl.out; omega) (by simp; omega) (fun i hi => (HZr.out i (by have := HYl.out; omega)).2)
        (fun i hi => by
          have hi' : i < L := by simpa using hi
          have : (List.replicate L 0).getD i 0 = 0 := by simp [List.getD, hi']
          rw [this, wfk_32]; omega) (by have := HYl.out; simp; omega)
        (fun i hi => by
          have hi' : i < L := by have := HYl.out; omega
          have : (List.replicate L 0).getD i 0 = 0 := by simp [List.getD, hi']
          have n0 : nrm .f32 0 = 0 := nrm_of_num (by decide +kernel)
          rw [this]
          simp only [sameB, decide_eq_true_eq]
          rw [(HZr.out i hi').1, n0])
      rw [HYl.out, List.length_replicate] at hs
      refine hs.mono ?_
      clear hs
      rintro rr W8 ⟨m8, rfl, hw8⟩
      have HQ8 : Hid (QIn w W8 q1 ((L : Int), vo, c, r) B cb bds E ce evs (q1 + 1) (.slice A1 qs.length c1) qs w.heap.size q1 (q1 + 2)) := by
        subst hw8
        exact HQ6.out.new (below_drewN HB7.out m8)
      clear hw8 HB7 HO6 HZr HYl HQ6 d0 d1 d2 d3 d4 d5 hmk
      obtain ⟨d0, d1, d2, d3, d4, d5⟩ := sc_cells HQ8.out.x1
      have HB9 : Hid (Below W8.heap.size W8 ((W8.alloc (.cells #[.int .i64 (L : Int), .int .i64 vo, .float .f32 c, .float .f32 r, .slice B bds.length cb, .slice E evs.length ce] 44)).alloc (.cells #[] 48))) := ((Below.refl _ _).alloc (Nat.le_refl _) _).alloc (by simp) _
      have HX9 : Hid (((W8.alloc (.cells #[.int .i64 (L : Int), .int .i64 vo, .float .f32 c, .float .f32 r, .slice B bds.length cb, .slice E evs.length ce] 44)).alloc (.cells #[] 48)).heap[W8.heap.size]? = some (.cells #[.int .i64 (L : Int), .int .i64 vo, .float .f32 c, .float .f32 r, .slice B bds.length cb, .slice E evs.length ce] 44 (0, 0))) := (Below.heap_alloc _ _ _ (by simp)).trans (heap_alloc_new W8 _)
      have HE9 : Hid (OwnE ((W8.alloc (.cells #[.int .i64 (L : Int), .int .i64 vo, .float .f32 c, .float .f32 r, .slice B bds.length cb, .slice E evs.length ce] 44)).alloc (.cells #[] 48)) w.heap.size q1 E ce evs) := HQ8.out.sc.evs.below HB9.out HQ8.out.sc.hh
      have HO9 : Hid (((W8.alloc (.cells #[.int .i64 (L : Int), .int .i64 vo, .float .f32 c, .float .f32 r, .slice B bds.length cb, .slice E evs.length ce] 44)).alloc (.cells #[] 48)).ownsRow (W8.heap.size + 1) 48 6 (.slice (some ⟨W8.heap.size + 1, 0, none⟩) 0 0) 0 []) := by
        have hz : (W8.alloc (.cells #[.int .i64 (L : Int), .int .i64 vo, .float .f32 c, .float .f32 r, .slice B bds.length cb, .slice E evs.length ce] 44)).heap.size = W8.heap.size + 1 := by simp
        have := heap_alloc_new (W8.alloc (.cells #[.int .i64 (L : Int), .int .i64 vo, .float .f32 c, .float .f32 r, .slice B bds.length cb, .slice E evs.length ce] 44)) (.cells #[] 48)
        rw [hz] at this
        exact ⟨by simp, .inr ⟨W8.heap.size + 1, 0, #[], rfl, Nat.le_refl _, this, Nat.le_refl _, by simp [maxLen], by simp, by simp⟩⟩
      have HX15 := Lib.hid ((HB9.out.block q1 (lt_of_some HQ8.out.x1)).trans HQ8.out.x1)
      obtain ⟨g0, g1, g2, g3, g4, g5⟩ := sc_cells HX15.out
      go_wp2_with (at_builtin; refine wpList_appOwnE0 rfl (.tmp 62) (.tmp 64) rfl (W8.heap.size + 1) (.slice (some ⟨W8.heap.size + 1, 0, none⟩) 0 0) E ce _ _ evs (by rfl) (by rfl) HO9.out (by simp) HE9.out (by omega) ?_; intro A10 c10 W10 hown10 hb10; have x10 := (hb10.block W8.heap.size (by omega)).trans HX9.out; have c5 := cell_of_row _ W8.heap.size 5 _ _ (0, 0) x10; have f5 := free_cells x10 5; have HQ12 := Lib.hid (HQ8.out.restart HB9.out HX9.out (Nat.le_refl _) (by simp) hb10 hown10); have k4 := (sc_cells HQ12.out.x1).2.2.2.2.1; clear hown10 hb10 x10)
      clear c5 f5 k4 g0 g1 g2 g3 g4 g5 d0 d1 d2 d3 d4 d5 HQ8 HB9 HX9 HE9 HO9 HX15
      obtain ⟨h, hh⟩ : ∃ h : Nat, h = L / 2 := ⟨_, rfl⟩
      have ht : (L : Int).tdiv 2 = (h : Int) := by rw [hh, Int.tdiv_eq_ediv_of_nonneg (by omega)]; omega
      have HHL : Hid (h = L / 2) := hh
      have hh15 : h ≤ 15 := by omega
      have hw1 := IntWalk.i64_in (h : Int) (by omega)
      clear hh
      have HQ13 : Hid (QIn w (W10.setCell ⟨W8.heap.size, 5, none⟩ (.slice A10 evs.length c10)) q1 ((L : Int), vo, c, r) B cb bds E ce evs W8.heap.size (.slice A10 evs.length c10) (evs ++ stops h 0) w.heap.size q1 (W8.heap.size + 1)) := HQ12.out
      clear HQ12
      generalize W10.setCell ⟨W8.heap.size, 5, none⟩ (.slice A10 evs.length c10) = W12 at *
      generalize W8.heap.size = q3 at *
      go_loopw [70] (fun i wr => ∃ (k : Nat) (v : Value), i = .int .i64 (k : Int) ∧ k ≤ bds.length ∧ Hid (QIn w wr q1 ((L : Int), vo, c, r) B cb bds E ce evs q3 v (evs ++ stops h k) w.heap.size q1 (q3 + 1))) (fun i _ => bds.length - (intOf i).toNat)
      case atStart => exact ⟨0, _, rfl, by omega, HQ13⟩
      case round =>
        clear HQ13
        obtain ⟨k, vE, rfl, hk2, HQ⟩ := hrel
        by_cases hlt2 : k < bds.length
        · have hql : (evs ++ stops h k).length ≤ 16 := by rw [List.length_append, stops_len]; omega
          have HSt : Hid (evs ++ stops h (k + 1) = (evs ++ stops h k) ++ [((h : Int), 3, (k : Int), 0, 0, 0)]) := Lib.hid (by rw [stops_succ, List.append_assoc])
          generalize evs ++ stops h k = qs2 at *
          obtain ⟨A2, c2, hv1⟩ := owns_form HQ.out.own
          subst hv1
          have HB2 : Hid (Below wr.heap.size wr (wr.alloc (.cells #[.int .i64 (h : Int), .int .i64 3, .int .i64 (k : Int), .int .i64 0, .int .i64 0, .float .f32 0] 48))) := (Below.refl _ _).alloc (Nat.le_refl _) _
          have HQ2 := Lib.hid (HQ.out.new HB2.out)
          have HN2 := Lib.hid (heap_alloc_new wr (.cells #[.int .i64 (h : Int), .int .i64 3, .int .i64 (k : Int), .int .i64 0, .int .i64 0, .float .f32 0] 48))
          have d0 := (sc_cells HQ.out.x1).1
          have d5 := (sc_cells HQ.out.x2).2.2.2.2.2
          have hgs := HQ2.out.gs
          clear HQ HB2
          obtain ⟨i0, hi0, hz0, hz1, hz2⟩ := info_parts ev_info
          go_wp2_with (at_builtin; refine wpList_append_lies _ rfl (.tmp 78) (.tmp 84) 42 rfl (q3 + 1) 48 i0 _ 6 48 Try.underlying42 hi0 hz0 hz1 hz2 rfl (by omega) (.slice A2 qs2.length c2) qs2.length (flatE qs2) (by rfl) HQ2.out.own ⟨wr.heap.size, 0, none⟩ 1 1 (evV ((h : Int), 3, (k : Int), 0, 0, 0)) (by rfl) (by rfl) (World.news_of_block (t := 48) (fr := (0, 0)) HN2.out) (evV_one _) (by omega) (by simp only [maxLen]; omega) (by omega) hgs _ rfl ?_; intro gg cap W5 hown5 hgrow5 hat5 hlt5; have HQ5 := Lib.hid (HQ2.out.app (e := ((h : Int), 3, (k : Int), 0, 0, 0)) hown5 hgrow5); have x5 := (hgrow5.block q3 (lt_of_some HQ2.out.x2) (fun q' => by have := (HQ2.out.own.lt _ q'.symm).1; omega)).trans HQ2.out.x2; have c5 := cell_of_row _ q3 5 _ _ (0, 0) x5; have f5 := free_cells x5 5; clear hown5 hgrow5 hat5 hlt5 x5)
          rw [← HSt.out] at HQ5
          clear HQ2 HN2 HSt c5 f5 d0 d5
          go_wp2_with fail
          go_roundw
          case rel => exact ⟨k + 1, _, by go_num, by omega, HQ5⟩
          case measure => simp [intOf]; omega
        · obtain rfl : k = bds.length := by omega
          have HQL : Hid ((evs ++ stops h bds.length).length = evs.length + bds.length) := Lib.hid (by rw [List.length_append, stops_len])
          have HQD : Hid (evs ++ stops h bds.length = evs ++ stops h bds.length) := rfl
          obtain ⟨qs2, hqs⟩ : ∃ q, evs ++ stops h bds.length = q := ⟨_, rfl⟩
          rw [hqs] at HQL HQ
          have HQs := Lib.hid hqs
          clear hqs HQD
          obtain ⟨A2, c2, hv1⟩ := owns_form HQ.out.own
          subst hv1
          have d5 := (sc_cells HQ.out.x1).2.2.2.2.2
          go_wp2_with fail
          clear d5
          go_loopw [11, 91] (fun v i wr => ∃ (k : Nat) (b : Bool), i = .int .i64 (k : Int) ∧ k ≤ evs.length ∧ v = .bool b ∧ Hid (b = false → ∀ e ∈ evs.take k, e.1 ≤ (h : Int)) ∧ Hid (QIn w wr q1 ((L : Int), vo, c, r) B cb bds E ce evs q3 (.slice A2 qs2.length c2) qs2 w.heap.size q1 (q3 + 1))) (fun _ i _ => evs.length - (intOf i).toNat)
          case atStart => exact ⟨0, false, rfl, by omega, rfl, fun _ e he => by simp at he, HQ⟩
          case round =>
            clear HQ
            obtain ⟨k, b, rfl, hk3, rfl, HBt, HQ⟩ := hrel
            by_cases hlt3 : k < evs.length
            · obtain ⟨eb, rfl, _, _, hbl', hlc, _, hcell⟩ := HQ.out.sc.evs.cells (by omega)
              obtain ⟨e0, e1, e2, e3, e4, e5⟩ := hcell k hlt3
              clear hcell
              have HTk := Lib.hid (takeE_succ hlt3)
              generalize eAt evs k = v at *
              have HB1 : Hid (Below wr.heap.size wr (wr.alloc (.cells #[.int .i64 v.1, .int .i64 v.2.1, .int .i64 v.2.2.1, .int .i64 v.2.2.2.1, .int .i64 v.2.2.2.2.1, .float .f32 v.2.2.2.2.2] 48))) := (Below.refl _ _).alloc (Nat.le_refl _) _
              have HQ1 := Lib.hid (HQ.out.new HB1.out)
              have d0 := (sc_cells HQ1.out.x1).1
              clear HQ HB1
              cases b
              · by_cases hgt : (h : Int) < v.1
                · go_wp2_with fail
                  go_roundw
                  case rel => exact ⟨k + 1, true, by go_num, by omega, rfl, fun q => (by cases q), HQ1⟩
                  case measure => simp [intOf]; omega
                · have HBn : Hid (false = false → ∀ e ∈ evs.take (k + 1), e.1 ≤ (h : Int)) := Lib.hid (fun _ e he => by
                    rw [HTk.out] at he
                    rcases List.mem_append.1 he with he | he
                    · exact HBt.out rfl e he
                    · rw [List.mem_singleton] at he
                      subst he; omega)
                  go_wp2_with fail
                  go_roundw
                  case rel => exact ⟨k + 1, false, by go_num, by omega, rfl, HBn, HQ1⟩
                  case measure => simp [intOf]; omega
              · go_wp2_with fail
                go_roundw
                case rel => exact ⟨k + 1, true, by go_num, by omega, rfl, fun q => (by cases q), HQ1⟩
                case measure => simp [intOf]; omega
            · obtain rfl : k = evs.length := by omega
              rw [List.take_length] at HBt
              obtain ⟨d0, d1, d2, d3, d4, d5⟩ := sc_cells HQ.out.x1
              obtain ⟨e0, e1, e2, e3, e4, e5⟩ := sc_cells HQ.out.x2
              have hql : ((qs2.length : Int) == (evs.length : Int) + (bds.length : Int)) = true := by have := HQL.out; simp; omega
              cases hL0 : ((L : Int) == 0)
              · cases b
                · have HLp : Hid (h < L) := Lib.hid (by
                    have h1 := HHL.out
                    have h2 : L ≠ 0 := fun e => by rw [e] at hL0; simp at hL0
                    omega)
                  have HLate : Hid (∀ e ∈ evs, e.1 ≤ (h : Int)) := Lib.hid (HBt.out rfl)
                  have HPs : Hid (ScPlay ((L : Int), vo, c, r) bds qs2) := Lib.hid (by rw [← HQs.out]; exact playStops HP.out (by have := HLp.out; show (h : Int) ≤ (L : Int); omega) hel hbl)
                  have HSn : Hid (∀ t, h ≤ t → soundP (bmOf bds) vo (sortedE qs2) t (plAt (bmOf bds) vo (sortedE qs2) t) = []) := Lib.hid (fun t ht' => by
                    rw [← HQs.out]
                    exact stopped_sound (fun e he => (HP.out.evs.2 e he).a0) HP.out.evs.2 HLate.out t ht')
                  have HSc := Lib.hid HQ.out.score
                  go_wp2_with fail
                  refine (voicesAt_any ((L : Int), vo, c, r) B cb bds A2 c2 _ _ L h qs2 wr HSc.out HPs.out (HAt.out _ HPs.out) rfl HLp.out).mono ?_
                  rintro rr W20 ⟨Av, cv, mv, rfl, hmv, hb20⟩
                  have hm0 : mv = 0 := by
                    have h1 := HSn.out h (Nat.le_refl _)
                    have h2 : mv = (soundP (bmOf bds) vo (sortedE qs2) h (plAt (bmOf bds) vo (sortedE qs2) h)).length := hmv
                    rw [h1] at h2
                    exact h2
                  subst hm0
                  have HQ20 := Lib.hid (HQ.out.new hb20)
                  clear hmv hb20 HQ HSc d0 d1 d2 d3 d4 d5 e0 e1 e2 e3 e4 e5 hql
                  have HSc := Lib.hid HQ20.out.score
                  obtain ⟨e0, e1, e2, e3, e4, e5⟩ := sc_cells HQ20.out.x2
                  go_wp2_with fail
                  refine (renderVoices_any ((L : Int), vo, c, r) B cb bds A2 c2 _ _ L qs2 W20 HSc.out HPs.out (HAt.out _ HPs.out) rfl).mono ?_
                  rintro rr W21 ⟨Aw, cw, rs, rfl, hrows, hrlen, hrok, hb21⟩
                  have HQ21 := Lib.hid (HQ20.out.new hb21)
                  have HRW := Lib.hid hrows
                  have HZr : Hid (∀ (j : Nat) (r' : Trk), rs[j]? = some r' → ∀ t, h ≤ t → t < L → r'.2 t = 0) := Lib.hid (fun j r' hr t h1 h2 => hrok j r' hr t h2 (.inr (by
                    rintro ⟨x, hx, _⟩
                    rw [show soundP (bmOf bds) ((L : Int), vo, c, r).2.1 (sortedE qs2) t (plAt (bmOf bds) ((L : Int), vo, c, r).2.1 (sortedE qs2) t) = [] from HSn.out t h1] at hx
                    cases hx)))
                  have hrl : rs.length ≤ 1000 := by
                    obtain ⟨_, _, ha⟩ := HAt.out _ HPs.out L (Nat.le_refl _)
                    have h1 := ha.b
                    have h2 := ha.d
                    rw [sortedE_len] at h2
                    have h3 := HPs.out.evs.1
                    rw [← hrlen] at h1
                    omega
                  clear hrows hrok hrlen hb21 HQ20 HSc e0 e1 e2 e3 e4 e5
                  go_wp2_with fail
                  go_loopw [139] (fun i wr => ∃ j : Nat, i = .int .i64 (j : Int) ∧ j ≤ rs.length ∧ Hid (RowsIn wr W20.heap.size (.slice Aw rs.length cw) rs L) ∧ Hid (QIn w wr q1 ((L : Int), vo, c, r) B cb bds E ce evs q3 (.slice A2 qs2.length c2) qs2 w.heap.size q1 (q3 + 1))) (fun i _ => rs.length - (intOf i).toNat)
                  case atStart => exact ⟨0, rfl, by omega, HRW, HQ21⟩
                  case round =>
                    clear HRW HQ21
                    obtain ⟨j, rfl, hj, HRW, HQ⟩ := hrel
                    by_cases hlt4 : j < rs.length
                    · obtain ⟨ob, oc, hvo, _, _, hoc1, hoc2, _, ocell⟩ := owns_cells HRW.out.own (by omega) (by simp)
                      injection hvo with w1 _ w3
                      subst w1 w3
                      obtain ⟨r', hr⟩ : ∃ r', rs[j]? = some r' := ⟨rs[j], List.getElem?_eq_getElem hlt4⟩
                      have e3 := ocell j (trkV L r') (by rw [List.getElem?_map, hr]; rfl)
                      unfold trkV at e3
                      have d0 := (sc_cells HQ.out.x1).1
                      have HZ := Lib.hid (HZr.out j r' hr)
                      have HRo := Lib.hid (HRW.out.row r' (List.mem_of_getElem? hr)).1
                      have hlp := HLp.out
                      have hne : ¬ L = h := by omega
                      have HMe := Lib.hid (List.mem_of_getElem? hr)
                      clear ocell hr
                      go_wp2_with fail
                      clear e3 d0 HRo
                      go_loopw [154] (fun i wr => ∃ m : Nat, i = .int .i64 (m : Int) ∧ m ≤ L - h ∧ Hid (RowsIn wr W20.heap.size (.slice (some ⟨ob, 0, none⟩) rs.length cw) rs L) ∧ Hid (QIn w wr q1 ((L : Int), vo, c, r) B cb bds E ce evs q3 (.slice A2 qs2.length c2) qs2 w.heap.size q1 (q3 + 1))) (fun i _ => (L - h) - (intOf i).toNat)
                      case atStart => exact ⟨0, rfl, by omega, HRW, HQ⟩
                      case round =>
                        clear HRW HQ
                        obtain ⟨m, rfl, hm, HRW, HQ⟩ := hrel
                        by_cases hlt5 : m < L - h
                        · have e := (HRW.out.row r' HMe.out).1.cell (i := h + m) (by omega)
                          rw [HZ.out (h + m) (by omega) (by omega)] at e
                          have hfe : feq .f32 0 0 = true := by decide +kernel
                          go_wp2_with fail
                          go_roundw
                          case rel => exact ⟨m + 1, by go_num, by omega, HRW, HQ⟩
                          case measure => simp [intOf]; omega
                        · go_wp2_with fail
                          go_roundw
                          case rel => exact ⟨j + 1, by go_num, by omega, HRW, HQ⟩
                          case measure => simp [intOf]; omega
                    · go_wp2_with fail
                      go_ret
                      exact ⟨rfl, HQ.out.bel⟩
                · go_wp2_with fail
                  go_ret
                  exact ⟨rfl, HQ.out.bel⟩
              · go_wp2_with fail
                go_ret
                exact ⟨rfl, HQ.out.bel⟩
set_option maxRecDepth 100000 in
theorem lifted (os : Os) (started : os.Started) (H : Type) (enc : TypeId × Value → H) :
    ReturnsInHanded {} Try.checked os 5 .any (Rows.fnQuietSpec.pre6 enc Try.prog Try.f5 Rows.fnQuietRow.domain false) (Rows.fnQuietSpec.post enc Try.prog Try.f5 false true false false) := by
  refine returnsInHanded_of_change (C := Try.checked) own started (by kernel_rfl) Try.func5
    (ChangeSpec.witness6 (enc := enc) (C := Try.checked) false ⟨#[], #[.slice none 0 0], []⟩ 8 (by kernel_rfl) (by kernel_rfl) (by kernel_rfl) (by kernel_rfl)) ?_
  intro W base args ds gs before hval0 hW hcnd _
  have hval : ∀ (j : Nat) t v, Try.f5.params[j]? = some t → args[j]? = some v → Value.okWide Try.prog W .any base t v := hval0
  have hW' := hW
  obtain ⟨p, q, hA0, hV, rfl, hfz, hnd⟩ := hW
  have hA : DataW.TrodAll enc Try.prog W 0 (fun _ => true) true Try.f5.params.toList args.toList ds p := hA0
  rw [Try.params5] at hA hval
  obtain ⟨v0, vs0, d0, ds0, p0, q0, hargs, rfl, rfl, h0, r0⟩ := trodAll_cons hA
  obtain ⟨rfl, rfl, rfl⟩ := trodAll_nil r0
  obtain rfl : args = #[v0] := by cases args; simp_all
  obtain ⟨rfl, rfl⟩ := trodVars_none hV
  obtain ⟨a0, len0, cap0, rfl⟩ := okWide_slice Try.underlying22 (hval 0 22 v0 rfl rfl)
  have lt0 : ∀ x ∈ p0, x.block < W.heap.size := by obtain ⟨m, hm⟩ := h0; exact DataW.trod_lt m _ _ _ hm
  obtain ⟨bs0, rfl, mx0, rd0, wf0⟩ := open_bytes rfl Try.underlying22 Try.underlying5 (by kernel_rfl) h0
  clear hA0 hval0
  refine (walk a0 cap0 bs0 W mx0 rd0 wf0).mono fun e W' ⟨he, bel⟩ => ?_
  subst he
  exact ⟨_, rfl, _, _, _, [], _, [], hW', trodAll_mk1 (shut_bool Try.underlying4 _), (trodAll_cons_mk (Below.trod laidOut (by kernel_rfl) (of_decide_eq_true (by kernel_rfl)) h0 bel lt0) trodAll_mk0), rfl, bel.frame _, fun h => by cases h⟩

theorem proved : Rows.FnQuietSaid :=
  OpenClaim.holds_of_wide 5 Try.f5 rfl rfl rfl rfl rfl rfl rfl ⟨rfl, rfl, rfl, rfl, rfl⟩ rfl rfl rfl rfl rfl (by kernel_rfl) Try.func5 (by kernel_rfl)
    (of_decide_eq_true (by kernel_rfl)) (by unfold Func.isWrapper; first | (rw [if_pos (by decide +kernel)]; kernel_rfl) | (rw [if_neg (by decide +kernel)]; exact ⟨rfl, rfl⟩))
    (fun os started H enc _ => lifted os started H enc)
#print axioms proved
end Go.Proofs.Ytndnfhhdflmfcaa.lawQuiet
