/-
Part 4 of 4 of the proof of the law FnOrdered: it returns true for all codes. No condition.
-/
import Derived.Test.YtndnfhhdflmfcaaLawOrderedM3
import Derived.Shelf.SlSortCmp.InsertionK

/-
spec.l7Score, spec.MakeScore: a valid score.
(Printed by wip/tools/gscore.py out of score_base.txt.)
-/
namespace Go.Proofs.Ytndnfhhdflmfcaa
open Go Go.RowKit Ieee

/-- The plain parts of a score: its length, voices, ceiling, release. -/
abbrev Sh := Int × Int × Nat × Nat
structure ShOk (most : Int) (s : Sh) : Prop where
  l0 : 0 ≤ s.1
  l1 : s.1 ≤ most
  v0 : 1 ≤ s.2.1
  v1 : s.2.1 ≤ 4
  lim : limOk s.2.2.1 s.2.2.2 = true
  cw : wfk .f32 s.2.2.1
  rw : wfk .f32 s.2.2.2
def BodsOk (bs : List Bd) (m n : Nat) : Prop := bs.length ≤ n ∧ ∀ i, i < bs.length → ModesOk (bodAt bs i).2.2 ∧ (bodAt bs i).2.2.length ≤ m
def EvsOk (L : Int) (nb : Nat) (evs : List Ev) (n : Nat) : Prop := evs.length ≤ n ∧ ∀ e ∈ evs, EvOk L nb e
/-- The state of spec.l7Score. -/
structure SSc (w wr : World) (g q L : Nat) (s : Sh) (vB : Value) (bs : List Bd) (vE : Value) (evs : List Ev) : Prop where
  cur : Cur wr g
  gr : w.grownBy wr (some g)
  hg : g < w.heap.size
  q0 : w.heap.size < q
  qL : q < L
  Ls : L ≤ wr.heap.size
  r : wr.heap[w.heap.size]? = some (.cells #[.int .i64 0, .int .i64 0, .float .f32 0, .float .f32 0, .slice none 0 0, .slice none 0 0] 44 (0, 0))
  b : wr.heap[q]? = some (.cells #[.int .i64 s.1, .int .i64 s.2.1, .float .f32 s.2.2.1, .float .f32 s.2.2.2, vB, vE] 44 (0, 0))
  bods : BodsOwn wr (q + 1) L vB bs
  bok : ∀ i, i < bs.length → ModesOk (bodAt bs i).2.2 ∧ (bodAt bs i).2.2.length ≤ 4
  evr : wr.ownsRow L 48 6 vE evs.length (flatE evs)
  eok : ∀ e ∈ evs, EvOk s.1 bs.length e
theorem sc_cells {W : World} {M : Nat} {a b c d e f : Value} {t : TypeId} (h : W.heap[M]? = some (.cells #[a, b, c, d, e, f] t (0, 0))) :
    W.cell? ⟨M, 0, none⟩ = some a ∧ W.cell? ⟨M, 1, none⟩ = some b ∧ W.cell? ⟨M, 2, none⟩ = some c ∧ W.cell? ⟨M, 3, none⟩ = some d ∧ W.cell? ⟨M, 4, none⟩ = some e ∧ W.cell? ⟨M, 5, none⟩ = some f :=
  ⟨cell_of_row W M 0 _ _ (0, 0) h, cell_of_row W M 1 _ _ (0, 0) h, cell_of_row W M 2 _ _ (0, 0) h, cell_of_row W M 3 _ _ (0, 0) h, cell_of_row W M 4 _ _ (0, 0) h, cell_of_row W M 5 _ _ (0, 0) h⟩
theorem sc_free {W : World} {M : Nat} {cs : Array Value} {t : TypeId} (h : W.heap[M]? = some (.cells cs t (0, 0))) :
    W.frozen? ⟨M, 0, none⟩ = false ∧ W.frozen? ⟨M, 1, none⟩ = false ∧ W.frozen? ⟨M, 2, none⟩ = false ∧ W.frozen? ⟨M, 3, none⟩ = false ∧ W.frozen? ⟨M, 4, none⟩ = false ∧ W.frozen? ⟨M, 5, none⟩ = false :=
  ⟨free_cells h 0, free_cells h 1, free_cells h 2, free_cells h 3, free_cells h 4, free_cells h 5⟩
section
variable {w wr wr' : World} {g q L : Nat} {s : Sh} {vB vE : Value} {bs : List Bd} {evs : List Ev}
theorem SSc.keep (h : SSc w wr g q L s vB bs vE evs) (hcur : Cur wr' g) (hgr : w.grownBy wr' (some g)) (hs : wr.heap.size ≤ wr'.heap.size) (hk : ∀ j, j < wr.heap.size → j ≠ g → wr'.heap[j]? = wr.heap[j]?) : SSc w wr' g q L s vB bs vE evs := by
  have hg := h.hg
  have q0 := h.q0
  have qL := h.qL
  have Ls := h.Ls
  exact ⟨hcur, hgr, hg, q0, qL, Nat.le_trans Ls hs, (hk _ (by omega) (by omega)).trans h.r, (hk _ (by omega) (by omega)).trans h.b, h.bods.keep fun j h1 h2 => hk j (by omega) (by omega), h.bok, owns_stay h.evr fun k e => hk k (h.evr.lt k e).2 (by have := (h.evr.lt k e).1; omega), h.eok⟩
theorem SSc.step (h : SSc w wr g q L s vB bs vE evs) (t : CurStep wr wr' g) : SSc w wr' g q L s vB bs vE evs :=
  h.keep t.1 (grown_trans h.gr t.2) t.2.size fun j hj hn => t.2.block j hj (by intro e; injection e with e; exact hn e)
theorem SSc.alloc (h : SSc w wr g q L s vB bs vE evs) (o : Obj) : SSc w (wr.alloc o) g q L s vB bs vE evs :=
  h.keep (h.cur.alloc o) (grown_trans h.gr ⟨rfl, rfl, rfl, by simp, fun i hi _ => Below.heap_alloc wr o i hi⟩) (by simp) fun j hj _ => Below.heap_alloc wr o j hj
theorem SSc.drewN (h : SSc w wr g q L s vB bs vE evs) (n : Nat) : SSc w (wr.drewN n) g q L s vB bs vE evs :=
  h.keep h.cur (grown_drewN h.gr n) (Nat.le_refl _) fun _ _ _ => rfl
theorem SSc.raise (h : SSc w wr g q L s vB bs (.slice none 0 0) []) : SSc w wr g q wr.heap.size s vB bs (.slice none 0 0) [] :=
  ⟨h.cur, h.gr, h.hg, h.q0, Nat.lt_of_lt_of_le h.qL h.Ls, Nat.le_refl _, h.r, h.b, h.bods.raise h.Ls, h.bok, ⟨rfl, .inl ⟨rfl, rfl⟩⟩, h.eok⟩
/-- Growth of the row of bodies. -/
theorem SSc.bodGrown {o : Obj} (h : SSc w wr g q L s vB bs (.slice none 0 0) []) (hg : (wr.alloc o).grownBy wr' vB.ownBlock) : wr.grownBy wr' vB.ownBlock ∧ wr'.heap[q]? = some (.cells #[.int .i64 s.1, .int .i64 s.2.1, .float .f32 s.2.2.1, .float .f32 s.2.2.2, vB, .slice none 0 0] 44 (0, 0)) := by
  have qL := h.qL
  have Ls := h.Ls
  have G : wr.grownBy wr' vB.ownBlock := grown_trans (b := wr.alloc o) ⟨rfl, rfl, rfl, by simp, fun i hi _ => Below.heap_alloc wr o i hi⟩ hg
  exact ⟨G, (G.block q (by omega) (fun e => by have := (h.bods.own.lt q e.symm).1; omega)).trans h.b⟩
theorem SSc.bodApp {lo1 g' cap : Nat} {r : Bd} {o : Obj} (h : SSc w wr g q L s vB bs (.slice none 0 0) []) (hl : L ≤ lo1) (hr : wr.ownsRow lo1 74 2 (bodV r) r.2.2.length (flatM r.2.2)) (hok : ModesOk r.2.2 ∧ (r.2.2.length : Int) ≤ 4)
    (hown : wr'.ownsRow (q + 1) 62 1 (.slice (some ⟨g', 0, none⟩) (bs.length + 1) cap) (bs.length + 1) (bs.map bodV ++ [bodV r])) (hg : (wr.alloc o).grownBy wr' vB.ownBlock) (hor : vB.ownBlock = some g' ∨ g' = wr.heap.size + 1) (hlt : g' < wr'.heap.size) :
    SSc w (wr'.setCell ⟨q, 4, none⟩ (.slice (some ⟨g', 0, none⟩) (bs.length + 1) cap)) g q (wr'.setCell ⟨q, 4, none⟩ (.slice (some ⟨g', 0, none⟩) (bs.length + 1) cap)).heap.size s (.slice (some ⟨g', 0, none⟩) (bs.length + 1) cap) (bs ++ [r]) (.slice none 0 0) [] := by
  obtain ⟨G, hb1⟩ := h.bodGrown hg
  have hg0 := h.hg
  have q0 := h.q0
  have qL := h.qL
  have Ls := h.Ls
  have hs := G.size
  have far : ∀ j, j ≤ q → some j ≠ vB.ownBlock := fun j hj e => by have := (h.bods.own.lt j e.symm).1; omega
  have k : ∀ j, j ≠ q → (wr'.setCell ⟨q, 4, none⟩ (.slice (some ⟨g', 0, none⟩) (bs.length + 1) cap)).heap[j]? = wr'.heap[j]? := fun j hj => Below.heap_setCell _ _ _ _ hj
  have R := BodsOwn.app (w := wr) (w' := wr') (lo := q + 1) (lo1 := lo1) (hi := L) h.bods (by omega) hl hr hown G (hor.imp id fun e => by omega) hlt Ls
  refine ⟨cur_set (h.cur.grown G fun k e => by have := (h.bods.own.lt k e).1; omega) _ _ _ (by omega) (by omega), ?_, hg0, q0, by simp; omega, Nat.le_refl _, ?_, ?_, ?_, ?_, ⟨rfl, .inl ⟨rfl, rfl⟩⟩, fun e he => by cases he⟩
  · exact grown_set' ⟨G.os.trans h.gr.os, G.tape.trans h.gr.tape, G.output.trans h.gr.output, Nat.le_trans h.gr.size hs, fun i hi hn => (G.block i (by have := h.gr.size; omega) (far i (by omega))).trans (h.gr.block i hi hn)⟩ (by omega)
  · exact (k _ (by omega)).trans ((G.block _ (by omega) (far _ (by omega))).trans h.r)
  · simp [World.setCell, Array.getElem?_modify, hb1]
  · exact (R.keep fun j j1 j2 => k j (by omega)).raise (by simp)
  · intro i hi
    rcases Nat.lt_or_ge i bs.length with hi' | hi'
    · rw [bodAt_snoc hi']; exact h.bok i hi'
    · have hn : i = bs.length := by simp at hi; omega
      subst hn
      rw [bodAt_last]; exact ⟨hok.1, by have := hok.2; omega⟩
/-- Growth of the row of events. -/
theorem SSc.evG {o : Obj} (h : SSc w wr g q L s vB bs vE evs) (hg : (wr.alloc o).grownBy wr' vE.ownBlock) : wr.grownBy wr' vE.ownBlock ∧ ∀ j, j < L → wr'.heap[j]? = wr.heap[j]? := by
  have Ls := h.Ls
  have G : wr.grownBy wr' vE.ownBlock := grown_trans (b := wr.alloc o) ⟨rfl, rfl, rfl, by simp, fun i hi _ => Below.heap_alloc wr o i hi⟩ hg
  exact ⟨G, fun j hj => G.block j (by omega) (fun e => by have := (h.evr.lt j e.symm).1; omega)⟩
theorem SSc.evGrown {o : Obj} (h : SSc w wr g q L s vB bs vE evs) (hg : (wr.alloc o).grownBy wr' vE.ownBlock) : wr'.heap[q]? = some (.cells #[.int .i64 s.1, .int .i64 s.2.1, .float .f32 s.2.2.1, .float .f32 s.2.2.2, vB, vE] 44 (0, 0)) :=
  ((h.evG hg).2 q h.qL).trans h.b
theorem SSc.evApp {o : Obj} {v' : Value} {e : Ev} (h : SSc w wr g q L s vB bs vE evs) (he : EvOk s.1 bs.length e) (hown : wr'.ownsRow L 48 6 v' (evs.length + 1) (flatE evs ++ evV e)) (hg : (wr.alloc o).grownBy wr' vE.ownBlock) :
    SSc w (wr'.setCell ⟨q, 5, none⟩ v') g q L s vB bs v' (evs ++ [e]) := by
  obtain ⟨G, B⟩ := h.evG hg
  have hb1 := h.evGrown hg
  have hg0 := h.hg
  have q0 := h.q0
  have qL := h.qL
  have Ls := h.Ls
  have hs := G.size
  have k : ∀ j, j ≠ q → (wr'.setCell ⟨q, 5, none⟩ v').heap[j]? = wr'.heap[j]? := fun j hj => Below.heap_setCell _ _ _ _ hj
  refine ⟨cur_set (h.cur.grown G fun k e => by have := (h.evr.lt k e).1; omega) _ _ _ (by omega) (by omega), ?_, hg0, q0, qL, by simp; omega, ?_, ?_, ?_, h.bok, ?_, fun x hx => ?_⟩
  · exact grown_set' ⟨G.os.trans h.gr.os, G.tape.trans h.gr.tape, G.output.trans h.gr.output, Nat.le_trans h.gr.size hs, fun i hi hn => (B i (by omega)).trans (h.gr.block i hi hn)⟩ (by omega)
  · exact (k _ (by omega)).trans ((B _ (by omega)).trans h.r)
  · simp [World.setCell, Array.getElem?_modify, hb1]
  · exact h.bods.keep fun j j1 j2 => (k j (by omega)).trans (B j (by omega))
  · have e1 : (evs ++ [e]).length = evs.length + 1 := by simp
    rw [← flatE_snoc, e1]
    exact owns_stay hown fun j e => k j (by have := (hown.lt j e).1; omega)
  · rcases List.mem_append.1 hx with hx | hx
    · exact h.eok x hx
    · simp at hx; subst hx; exact he
theorem SSc.res (h : SSc w wr g q L s vB bs vE evs) (x0 x1 x2 x3 x4 x5 : Value) :
    ((((((wr.setCell ⟨w.heap.size, 0, none⟩ x0).setCell ⟨w.heap.size, 1, none⟩ x1).setCell ⟨w.heap.size, 2, none⟩ x2).setCell ⟨w.heap.size, 3, none⟩ x3).setCell ⟨w.heap.size, 4, none⟩ x4).setCell ⟨w.heap.size, 5, none⟩ x5).heap[w.heap.size]? = some (.cells #[x0, x1, x2, x3, x4, x5] 44 (0, 0)) := put6 h.r _ _ _ _ _ _
end
/-- A score in memory. -/
structure ScIn (w : World) (lo hi : Nat) (B : Option Addr) (cb : Nat) (bs : List Bd) (E : Option Addr) (ce : Nat) (evs : List Ev) : Prop where
  bods : BodsOwn w lo hi (.slice B bs.length cb) bs
  evs : OwnE w lo hi E ce evs
  hh : hi ≤ w.heap.size
section
variable {w w' : World} {lo lo' hi hi' cb ce : Nat} {B E : Option Addr} {bs : List Bd} {evs : List Ev}
theorem ScIn.keep (h : ScIn w lo hi B cb bs E ce evs) (hk : ∀ j, lo ≤ j → j < hi → w'.heap[j]? = w.heap[j]?) (hs : hi ≤ w'.heap.size) : ScIn w' lo hi B cb bs E ce evs := ⟨h.bods.keep hk, h.evs.keep hk, hs⟩
theorem ScIn.below (h : ScIn w lo hi B cb bs E ce evs) (hb : Below w.heap.size w w') : ScIn w' lo hi B cb bs E ce evs :=
  h.keep (fun j _ hj => hb.block j (Nat.lt_of_lt_of_le hj h.hh)) (Nat.le_trans h.hh hb.size)
theorem ScIn.low (h : ScIn w lo hi B cb bs E ce evs) (h1 : lo' ≤ lo) (h2 : hi ≤ hi') (h3 : hi' ≤ w.heap.size) : ScIn w lo' hi' B cb bs E ce evs :=
  ⟨(h.bods.raise h2).lower h1, ⟨owns_lower h.evs.1 h1, fun k e => Nat.lt_of_lt_of_le (h.evs.2 k e) h2⟩, h3⟩
theorem ScIn.bodsIn (h : ScIn w lo hi B cb bs E ce evs) : BodsIn w lo hi B bs := by
  obtain ⟨A, c, hv, hb⟩ := h.bods.form h.hh
  injection hv with hv _ _
  rw [hv]; exact hb
end
def scV (s : Sh) (B : Option Addr) (cb : Nat) (bs : List Bd) (E : Option Addr) (ce : Nat) (evs : List Ev) : Value := .agg #[.int .i64 s.1, .int .i64 s.2.1, .float .f32 s.2.2.1, .float .f32 s.2.2.2, .slice B bs.length cb, .slice E evs.length ce]
/-- A valid score, its parts. -/
structure ScOk (most : Int) (s : Sh) (bs : List Bd) (evs : List Ev) : Prop where
  sh : ShOk most s
  bods : BodsOk bs 4 3
  evs : EvsOk s.1 bs.length evs 13
/-- What MakeScore returns. -/
def ScPost (most : Int) (w : World) (e : Ending) (w' : World) : Prop :=
  ∃ (s : Sh) (B : Option Addr) (cb : Nat) (bs : List Bd) (E : Option Addr) (ce : Nat) (evs : List Ev), e = .returned (scV s B cb bs E ce evs) ∧ ScIn w' w.heap.size w'.heap.size B cb bs E ce evs ∧ ScOk most s bs evs
theorem SSc.done {w wr : World} {g q L : Nat} {s : Sh} {B : Option Addr} {cb : Nat} {bs : List Bd} {E : Option Addr} {ce : Nat} {evs : List Ev} (h : SSc w wr g q L s (.slice B bs.length cb) bs (.slice E evs.length ce) evs) (x0 x1 x2 x3 x4 x5 : Value) (W : World)
    (hW : ((((((wr.setCell ⟨w.heap.size, 0, none⟩ x0).setCell ⟨w.heap.size, 1, none⟩ x1).setCell ⟨w.heap.size, 2, none⟩ x2).setCell ⟨w.heap.size, 3, none⟩ x3).setCell ⟨w.heap.size, 4, none⟩ x4).setCell ⟨w.heap.size, 5, none⟩ x5) = W) :
    ScIn W w.heap.size W.heap.size B cb bs E ce evs ∧ CurStep w W g := by
  have k : ∀ j, j ≠ w.heap.size → W.heap[j]? = wr.heap[j]? := fun j hj => by rw [← hW]; exact put6_else hj _ _ _ _ _ _
  have hc : CurStep w W g := by rw [← hW]; exact ⟨put6_cur h.cur h.hg _ _ _ _ _ _, put6_grown h.gr (Nat.le_refl _) _ _ _ _ _ _⟩
  have hz : W.heap.size = wr.heap.size := by rw [← hW]; simp
  have q0 := h.q0
  have qL := h.qL
  have Ls := h.Ls
  have he := owns_lower (owns_stay (w' := W) h.evr fun j e => k j (by have := (h.evr.lt j e).1; omega)) (show w.heap.size ≤ L by omega)
  exact ⟨⟨((h.bods.keep (w' := W) fun j j1 j2 => k j (by omega)).raise (show L ≤ W.heap.size by omega)).lower (show w.heap.size ≤ q + 1 by omega), ⟨he, fun j e => (he.lt j e).2⟩, Nat.le_refl _⟩, hc⟩
theorem ceil_words {v u : Int} (h : v ∈ [(1 : Int), 8, 100]) (h2 : u ∈ [(0 : Int), 500, 990, 1000]) : fin .f32 (fo .quo .f32 (floatOfInt .f32 v) 1090519040) ∧ fin .f32 (fo .quo .f32 (floatOfInt .f32 u) 1148846080) ∧
    limOk (fo .quo .f32 (floatOfInt .f32 v) 1090519040) (fo .quo .f32 (floatOfInt .f32 u) 1148846080) = true := by
  simp only [List.mem_cons, List.not_mem_nil, or_false] at h h2
  rcases h with rfl | rfl | rfl <;> rcases h2 with rfl | rfl | rfl | rfl <;> exact ⟨numB_fin (by decide +kernel), numB_fin (by decide +kernel), by decide +kernel⟩

section
attribute [local go_sem] alloc_drewN setCell_drewN
set_option maxRecDepth 100000 in
set_option maxHeartbeats 4000000 in
theorem l7Score_any (g : Nat) (most : Int) (w : World) (h : Cur w g) (h0 : 0 ≤ most) (h1 : most ≤ 100) :
    Calls Try.prog 42 #[.pointer (some ⟨g, 0, none⟩), .int .i64 most] w fun e w' => ScPost most w e w' ∧ CurStep w w' g := by
  have hgl := h.lt
  have R0 := heap_alloc_new w (.cells #[.int .i64 0, .int .i64 0, .float .f32 0, .float .f32 0, .slice none 0 0, .slice none 0 0] 44)
  have C0 : CurStep w (w.alloc (.cells #[.int .i64 0, .int .i64 0, .float .f32 0, .float .f32 0, .slice none 0 0, .slice none 0 0] 44)) g := ⟨h.alloc _, ⟨rfl, rfl, rfl, by simp, fun i hi _ => Below.heap_alloc _ _ i hi⟩⟩
  have CA := Lib.hid (And.intro C0 R0)
  clear h C0 R0
  go_enter Try.func42, Try.ntmps42
  go_wp2_with fail
  generalize w.alloc (.cells #[.int .i64 0, .int .i64 0, .float .f32 0, .float .f32 0, .slice none 0 0, .slice none 0 0] 44) = W0 at *
  refine (below_any g (most + 1) _ CA.out.1.1 (by omega) (by omega)).mono ?_
  rintro e W1 ⟨len, rfl, ⟨hl0, hl1⟩, s1⟩
  have CB : Hid (CurStep w W1 g ∧ W1.heap[w.heap.size]? = some (.cells #[.int .i64 0, .int .i64 0, .float .f32 0, .float .f32 0, .slice none 0 0, .slice none 0 0] 44 (0, 0))) := ⟨CA.out.1.trans s1, (s1.2.block _ (lt_of_some CA.out.2) (by intro e; injection e with e; omega)).trans CA.out.2⟩
  clear CA s1
  go_wp2_with fail
  refine (below_any g 4 _ CB.out.1.1 (by omega) (by omega)).mono ?_
  rintro e W2 ⟨vo, rfl, ⟨hv0, hv1⟩, s1⟩
  have CC : Hid (CurStep w W2 g ∧ W2.heap[w.heap.size]? = some (.cells #[.int .i64 0, .int .i64 0, .float .f32 0, .float .f32 0, .slice none 0 0, .slice none 0 0] 44 (0, 0))) := ⟨CB.out.1.trans s1, (s1.2.block _ (lt_of_some CB.out.2) (by intro e; injection e with e; omega)).trans CB.out.2⟩
  clear CB s1
  go_wp2_with fail
  have hr := rd_ints W2 3 (W2.alloc (.cells #[.int .i64 1, .int .i64 8, .int .i64 100] 3)) [1, 8, 100] rfl
  refine (pickIn_any g (some ⟨W2.heap.size, 0, none⟩) 3 [1, 8, 100] _ (CC.out.1.1.alloc _) hr (by simp) (by simp) (fun a ha => by cases ha; have := CC.out.1.1.lt; show W2.heap.size ≠ g; omega)).mono ?_
  rintro e W3 ⟨ci, rfl, hci, s1⟩
  have CD : Hid (CurStep w W3 g ∧ W3.heap[w.heap.size]? = some (.cells #[.int .i64 0, .int .i64 0, .float .f32 0, .float .f32 0, .slice none 0 0, .slice none 0 0] 44 (0, 0))) := by
    have hz := lt_of_some CC.out.2
    have sA : CurStep W2 (W2.alloc (.cells #[.int .i64 1, .int .i64 8, .int .i64 100] 3)) g := ⟨CC.out.1.1.alloc _, ⟨rfl, rfl, rfl, by simp, fun i hi _ => Below.heap_alloc _ _ i hi⟩⟩
    exact ⟨(CC.out.1.trans sA).trans s1, (s1.2.block _ (by simp; omega) (by intro e; injection e with e; omega)).trans ((Below.heap_alloc _ _ _ hz).trans CC.out.2)⟩
  clear CC s1 hr
  obtain ⟨fc, hfc⟩ : ∃ fc, floatOfInt .f32 ci = fc := ⟨_, rfl⟩
  have hc1 : fin .f32 (fo .quo .f32 fc 1090519040) := by rw [← hfc]; exact (ceil_words hci (u := 0) (by simp)).1
  obtain ⟨ce, hce⟩ : ∃ ce, fo .quo .f32 fc 1090519040 = ce := ⟨_, rfl⟩
  have hRc : ∀ W, fR .quo .f32 fc 1090519040 W = ce := fun W => by rw [← hce]; exact rnd_eq hc1 W
  have HC := Lib.hid (And.intro hci (And.intro hfc hce))
  clear hci hc1 hce
  go_wp2_with fail
  clear hfc hRc
  have CE : Hid (CurStep w (W3.drewN (fN .quo .f32 fc 1090519040)) g ∧ (W3.drewN (fN .quo .f32 fc 1090519040)).heap[w.heap.size]? = some (.cells #[.int .i64 0, .int .i64 0, .float .f32 0, .float .f32 0, .slice none 0 0, .slice none 0 0] 44 (0, 0))) := ⟨CD.out.1.drewN _, CD.out.2⟩
  clear CD
  generalize fN .quo .f32 fc 1090519040 = nd at *
  have hr := rd_ints W3 3 ((W3.alloc (.cells #[.int .i64 0, .int .i64 500, .int .i64 990, .int .i64 1000] 3)).drewN nd) [0, 500, 990, 1000] rfl
  refine (pickIn_any g (some ⟨W3.heap.size, 0, none⟩) 4 [0, 500, 990, 1000] _ (CE.out.1.1.alloc _) hr (by simp) (by simp) (fun a ha => by cases ha; have := CE.out.1.1.lt; show W3.heap.size ≠ g; have : g < W3.heap.size := this; omega)).mono ?_
  rintro e W4 ⟨ri, rfl, hri, s1⟩
  have CF : Hid (CurStep w W4 g ∧ W4.heap[w.heap.size]? = some (.cells #[.int .i64 0, .int .i64 0, .float .f32 0, .float .f32 0, .slice none 0 0, .slice none 0 0] 44 (0, 0))) := by
    have hz := lt_of_some CE.out.2
    have sA : CurStep (W3.drewN nd) ((W3.drewN nd).alloc (.cells #[.int .i64 0, .int .i64 500, .int .i64 990, .int .i64 1000] 3)) g := ⟨CE.out.1.1.alloc _, ⟨rfl, rfl, rfl, by simp, fun i hi _ => Below.heap_alloc _ _ i hi⟩⟩
    exact ⟨(CE.out.1.trans sA).trans s1, (s1.2.block _ (by have : w.heap.size < W3.heap.size := hz; simp; omega) (by intro e; injection e with e; omega)).trans ((Below.heap_alloc _ _ _ hz).trans CE.out.2)⟩
  clear CE s1 hr
  obtain ⟨fr, hfr⟩ : ∃ fr, floatOfInt .f32 ri = fr := ⟨_, rfl⟩
  have hlim := (ceil_words HC.out.1 hri).2
  rw [HC.out.2.1, HC.out.2.2, hfr] at hlim
  obtain ⟨re, hre⟩ : ∃ re, fo .quo .f32 fr 1148846080 = re := ⟨_, rfl⟩
  have hRr : ∀ W, fR .quo .f32 fr 1148846080 W = re := fun W => by rw [← hre]; exact rnd_eq hlim.1 W
  have hwr : wfk .f32 re := by rw [← hre]; exact fo_lt _ _ _ _
  have hwc : wfk .f32 ce := by rw [← HC.out.2.2]; exact fo_lt _ _ _ _
  rw [hre] at hlim
  have HL : Hid (ShOk most (len, 1 + vo, ce, re)) := ⟨hl0, by show len ≤ most; omega, by show 1 ≤ 1 + vo; omega, by show 1 + vo ≤ 4; omega, hlim.2, hwc, hwr⟩
  clear hri HC hlim hre hwr hwc
  have S0 : Hid (∀ n, SSc w ((W4.alloc (.cells #[.int .i64 len, .int .i64 (1 + vo), .float .f32 ce, .float .f32 re, .slice none 0 0, .slice none 0 0] 44)).drewN n) g W4.heap.size (W4.heap.size + 1) (len, 1 + vo, ce, re) (.slice none 0 0) [] (.slice none 0 0) []) := fun n => by
    have hz := lt_of_some CF.out.2
    have G : w.grownBy (W4.alloc (.cells #[.int .i64 len, .int .i64 (1 + vo), .float .f32 ce, .float .f32 re, .slice none 0 0, .slice none 0 0] 44)) (some g) := grown_trans CF.out.1.2 ⟨rfl, rfl, rfl, by simp, fun i hi _ => Below.heap_alloc _ _ i hi⟩
    exact ⟨CF.out.1.1.alloc _, grown_drewN G n, hgl, hz, by omega, by show _ ≤ (W4.alloc _).heap.size; simp, (Below.heap_alloc _ _ _ hz).trans CF.out.2, heap_alloc_new W4 _, BodsOwn.nil _ _ _, fun i hi => absurd hi (Nat.not_lt_zero _), ⟨rfl, .inl ⟨rfl, rfl⟩⟩, fun e he => by cases he⟩
  clear CF
  go_wp2_with fail
  have S1 := Lib.hid (S0.out (fN .quo .f32 fr 1148846080))
  clear S0 hRr hfr
  generalize fN .quo .f32 fr 1148846080 = nr at *
  generalize (W4.alloc (.cells #[.int .i64 len, .int .i64 (1 + vo), .float .f32 ce, .float .f32 re, .slice none 0 0, .slice none 0 0] 44)).drewN nr = W5 at *
  generalize W4.heap.size = q at *
  refine (below_any g 4 _ S1.out.cur (by omega) (by omega)).mono ?_
  rintro e W6 ⟨k0, rfl, ⟨hk0, hk1⟩, s1⟩
  have S2 := Lib.hid (S1.out.step s1)
  clear S1 s1
  go_wp2_with fail
  go_loopw [6] (fun kk wr => ∃ (j : Int) (vB : Value) (bs : List Bd) (L : Nat), kk = .int .i64 j ∧ 0 ≤ j ∧ j + bs.length ≤ 3 ∧ Hid (SSc w wr g q L (len, 1 + vo, ce, re) vB bs (.slice none 0 0) [])) (fun kk _ => (intOf kk).toNat)
  case atStart => exact ⟨k0, _, [], _, rfl, hk0, by simp; omega, S2⟩
  case round =>
    clear S2
    obtain ⟨j, vB, bs, L, rfl, hj0, hjm, hS0⟩ := hrel
    by_cases hp : 0 < j
    · go_wp2_with fail
      have hS : wr.drew.cell? ⟨q, 4, none⟩ = some vB := (sc_cells hS0.out.b).2.2.2.2.1
      refine wp_region_last (fun w' => w'.cell? ⟨q, 4, none⟩ = some vB) 7 (by kernel_rfl) hS (fun hHeld => ?_)
      have T1 : Hid (SSc w wr.drew g q L (len, 1 + vo, ce, re) vB bs (.slice none 0 0) []) := hS0.out.drewN 1
      clear hS0
      generalize wr.drew = Wb at *
      refine wpAnyX_take [0, 1, 5, 7] (i := 0) (oi := _) (v := ?_) rfl (by kernel_rfl) (by kernel_rfl) (by kernel_rfl) (by kernel_rfl) (fun _ _ _ h => h) (Or.inl ⟨by rfl, ?_⟩) (by assumption) ?_
      rotate_left
      · (intro w hSw; (try dsimp only at hSw); go_simp; try (with_reducible rfl))
      (try simp only [Act.put, List.setIfInBounds_toArray, List.set_cons_zero, List.set_cons_succ])
      refine wpAnyX_take [1, 5, 7] (i := 1) (oi := _) (v := ?_) rfl (by kernel_rfl) (by kernel_rfl) (by kernel_rfl) (by kernel_rfl) (fun _ _ _ h => h) (Or.inl ⟨by rfl, ?_⟩) (by assumption) ?_
      rotate_left
      · (intro w hSw; (try dsimp only at hSw); go_simp; try (with_reducible rfl))
      (try simp only [Act.put, List.setIfInBounds_toArray, List.set_cons_zero, List.set_cons_succ])
      refine wpAnyX_take [2, 3, 4, 5, 7] (i := 2) (oi := _) (v := ?_) rfl (by kernel_rfl) (by kernel_rfl) (by kernel_rfl) (by kernel_rfl) (fun _ _ _ h => h) (Or.inl ⟨by rfl, ?_⟩) (by assumption) ?_
      rotate_left
      · (intro w hSw; (try dsimp only at hSw); go_simp; try (with_reducible rfl))
      (try simp only [Act.put, List.setIfInBounds_toArray, List.set_cons_zero, List.set_cons_succ])
      refine wpAnyX_ready (i := 3) (o := _) (by kernel_rfl) rfl (fun K hK => ?_)
      go_simp
      refine (l2Body_any g 4 Wb T1.out.cur (by omega) (by omega)).mono ?_
      rintro e W1 ⟨⟨A, c, ms, rfl, ho, hok, hl⟩, s1⟩
      have T2 := Lib.hid (T1.out.step s1)
      have OB := Lib.hid ho
      have HB2 := Lib.hid (And.intro hok hl)
      have hWb := T1.out.Ls
      clear ho hok hl s1 T1
      go_wp2_with fail
      refine hK.out _ _ ?_ (fun hHelda => ?_)
      · exact (sc_cells T2.out.b).2.2.2.2.1
      clear hK K
      (try simp only [Act.put, List.setIfInBounds_toArray, List.set_cons_zero, List.set_cons_succ])
      clear hHeld
      refine wpAnyX_ready (i := 4) (o := _) (by kernel_rfl) rfl (fun K hK => ?_)
      go_simp
      have T3 := Lib.hid (T2.out.alloc (.cells #[.slice A ms.length c] 62))
      refine hK.out _ _ ?_ (fun hHeldb => ?_)
      · exact (sc_cells T3.out.b).2.2.2.2.1
      clear hK K
      (try simp only [Act.put, List.setIfInBounds_toArray, List.set_cons_zero, List.set_cons_succ])
      clear hHelda T3
      obtain ⟨i0, hi0, hz0, hz1, hz2⟩ := info_parts body_info
      have hq1 := T2.out.qL
      have hq2 := T2.out.Ls
      refine wpAnyX_ready (i := 5) (o := _) (by kernel_rfl) rfl (fun K hK => ?_)
      refine step_append_lies _ (by rfl) (.tmp 33) (.tmp 36) 41 (by rfl) (q + 1) 62 i0 _ 1 24 Try.underlying41 hi0 hz0 hz1 hz2 rfl (by omega) vB bs.length (bs.map bodV) (by rfl) (T2.out.bods.own.alloc _) ⟨W1.heap.size, 0, none⟩ 1 1 [.slice A ms.length c] (by rfl) (by rfl) (World.news_of_block (cs := #[.slice A ms.length c]) (t := 62) (fr := (0, 0)) (heap_alloc_new W1 _)) (by simp [Value.oneCell']) (by omega) (by simp only [maxLen]; omega) (by omega) (by simp; omega) (W1.heap.size + 1) (by simp) ?_
      intro gg cap w4 hown4 hgrow hat hlt4
      have B4 := Lib.hid (T2.out.bodGrown hgrow)
      have A4 := Lib.hid (T2.out.bodApp (lo1 := Wb.heap.size + 2) (r := (A, c, ms)) (by omega) OB.out HB2.out hown4 hgrow hat hlt4)
      have c4 := (sc_cells B4.out.2).2.2.2.2.1
      have f4 := free_cells B4.out.2 4
      clear hown4 hgrow hat OB
      refine hK.out _ _ ?_ (fun hHeldc => ?_)
      · exact c4
      clear hK K
      (try simp only [Act.put, List.setIfInBounds_toArray, List.set_cons_zero, List.set_cons_succ])
      clear hHeldb
      refine wpAnyX_take [6, 7] (i := 6) (oi := _) (v := ?_) rfl (by kernel_rfl) (by kernel_rfl) (by kernel_rfl) (by kernel_rfl) (fun _ _ _ h => h) (Or.inl ⟨by rfl, ?_⟩) (by assumption) ?_
      rotate_left
      · (intro w hSw; (try dsimp only at hSw); go_simp; try (with_reducible rfl))
      (try simp only [Act.put, List.setIfInBounds_toArray, List.set_cons_zero, List.set_cons_succ])
      refine wpAnyX_last (o := _) (by kernel_rfl) rfl (fun K hK => ?_)
      go_simp
      refine hK.out _ _ ?_
      clear hK K
      (try simp only [Act.put, List.setIfInBounds_toArray, List.set_cons_zero, List.set_cons_succ])
      refine wpAnyX_done (by kernel_rfl) ?_ _
      go_wp2_with fail
      go_roundw
      case rel => exact ⟨j - 1, _, bs ++ [(A, c, ms)], _, by go_num, by omega, by simp; omega, A4.out⟩
      case measure => simp [intOf]; omega
    · have S3 := Lib.hid hS0.out.raise
      clear hS0
      have hbl : bs.length ≤ 3 := by omega
      obtain ⟨B, cb, rfl⟩ := owns_form S3.out.bods.own
      have hLs := S3.out.Ls
      generalize wr.heap.size = M at *
      obtain ⟨c0, c1, c2, c3, c4, c5⟩ := sc_cells S3.out.b
      by_cases hn : bs.length = 0
      · have hn' : ((bs.length : Int) == 0) = true := by simp [hn]
        obtain ⟨d0, d1, d2, d3, d4, d5⟩ := sc_cells S3.out.r
        obtain ⟨f0, f1, f2, f3, f4, f5⟩ := sc_free S3.out.r
        have HN := Lib.hid hn
        clear hn
        go_wp2_with fail
        refine bodyPost_ret (results_cell_row rfl _ _ w.heap.size 44 #[.int .i64 len, .int .i64 (1 + vo), .float .f32 ce, .float .f32 re, .slice B bs.length cb, .slice none 0 0] (0, 0) _ rfl (S3.out.res _ _ _ _ _ _) Try.underlying44 rfl (by kernel_rfl)) rfl ?_
        have D := SSc.done (evs := []) (ce := 0) (E := none) S3.out (.int .i64 len) (.int .i64 (1 + vo)) (.float .f32 ce) (.float .f32 re) (.slice B bs.length cb) (.slice none 0 0) _ rfl
        exact ⟨⟨(len, 1 + vo, ce, re), B, cb, bs, none, 0, [], rfl, D.1, ⟨HL.out, ⟨hbl, S3.out.bok⟩, by simp, fun e he => by cases he⟩⟩, D.2⟩
      · have hn' : ((bs.length : Int) == 0) = false := by simp; intro e; rw [e] at hn; exact hn rfl
        have hb1 : 1 ≤ (bs.length : Int) := by omega
        have HN := Lib.hid hn
        clear hn
        go_wp2_with fail
        clear c0 c1 c2 c3 c4 c5 hn'
        refine (below_any g 14 _ S3.out.cur (by omega) (by omega)).mono ?_
        rintro e W7 ⟨k0, rfl, ⟨hk0, hk1⟩, s1⟩
        have S4 := Lib.hid (S3.out.step s1)
        clear S3 s1 hLs
        go_wp2_with fail
        go_loopw [7] (fun kk wr => ∃ (j : Int) (vE : Value) (evs : List Ev), kk = .int .i64 j ∧ 0 ≤ j ∧ j + evs.length ≤ 13 ∧ Hid (SSc w wr g q M (len, 1 + vo, ce, re) (.slice B bs.length cb) bs vE evs)) (fun kk _ => (intOf kk).toNat)
        case atStart => exact ⟨k0, _, [], rfl, hk0, by simp; omega, S4⟩
        case round =>
          clear S4
          obtain ⟨j, vE, evs, rfl, hj0, hjm, hS0⟩ := hrel
          by_cases hp : 0 < j
          · go_wp2_with fail
            have hS : wr.drew.cell? ⟨q, 5, none⟩ = some vE ∧ wr.drew.cell? ⟨q, 0, none⟩ = some (.int .i64 len) ∧ wr.drew.cell? ⟨q, 4, none⟩ = some (.slice B bs.length cb) := ⟨(sc_cells hS0.out.b).2.2.2.2.2, (sc_cells hS0.out.b).1, (sc_cells hS0.out.b).2.2.2.2.1⟩
            refine wp_region_last (fun w' => w'.cell? ⟨q, 5, none⟩ = some vE ∧ w'.cell? ⟨q, 0, none⟩ = some (.int .i64 len) ∧ w'.cell? ⟨q, 4, none⟩ = some (.slice B bs.length cb)) 12 (by kernel_rfl) hS (fun hHeld => ?_)
            have T1 : Hid (SSc w wr.drew g q M (len, 1 + vo, ce, re) (.slice B bs.length cb) bs vE evs) := hS0.out.drewN 1
            clear hS0
            generalize wr.drew = Wb at *
            refine wpAnyX_take [0, 1, 10, 12] (i := 0) (oi := _) (v := ?_) rfl (by kernel_rfl) (by kernel_rfl) (by kernel_rfl) (by kernel_rfl) (fun _ _ _ h => h) (Or.inl ⟨by rfl, ?_⟩) (by assumption) ?_
            rotate_left
            · (intro w hSw; (try dsimp only at hSw); go_simp; try (with_reducible rfl))
            (try simp only [Act.put, List.setIfInBounds_toArray, List.set_cons_zero, List.set_cons_succ])
            refine wpAnyX_take [1, 10, 12] (i := 1) (oi := _) (v := ?_) rfl (by kernel_rfl) (by kernel_rfl) (by kernel_rfl) (by kernel_rfl) (fun _ _ _ h => h) (Or.inl ⟨by rfl, ?_⟩) (by assumption) ?_
            rotate_left
            · (intro w hSw; (try dsimp only at hSw); go_simp; try (with_reducible rfl))
            (try simp only [Act.put, List.setIfInBounds_toArray, List.set_cons_zero, List.set_cons_succ])
            refine wpAnyX_take [2, 8, 9, 10, 12] (i := 2) (oi := _) (v := ?_) rfl (by kernel_rfl) (by kernel_rfl) (by kernel_rfl) (by kernel_rfl) (fun _ _ _ h => h) (Or.inl ⟨by rfl, ?_⟩) (by assumption) ?_
            rotate_left
            · (intro w hSw; (try dsimp only at hSw); go_simp; try (with_reducible rfl))
            (try simp only [Act.put, List.setIfInBounds_toArray, List.set_cons_zero, List.set_cons_succ])
            refine wpAnyX_take [3, 4, 8, 9, 10, 12] (i := 3) (oi := _) (v := ?_) rfl (by kernel_rfl) (by kernel_rfl) (by kernel_rfl) (by kernel_rfl) (fun _ _ _ h => h) (Or.inl ⟨by rfl, ?_⟩) (by assumption) ?_
            rotate_left
            · (intro w hSw; (try dsimp only at hSw); go_simp; try (with_reducible rfl))
            (try simp only [Act.put, List.setIfInBounds_toArray, List.set_cons_zero, List.set_cons_succ])
            refine wpAnyX_take [4, 8, 9, 10, 12] (i := 4) (oi := _) (v := ?_) rfl (by kernel_rfl) (by kernel_rfl) (by kernel_rfl) (by kernel_rfl) (fun _ _ _ h => h) (Or.inl ⟨by rfl, ?_⟩) (by assumption) ?_
            rotate_left
            · (intro w hSw; (try dsimp only at hSw); go_simp; try (with_reducible rfl))
            (try simp only [Act.put, List.setIfInBounds_toArray, List.set_cons_zero, List.set_cons_succ])
            refine wpAnyX_take [5, 6, 7, 8, 9, 10, 12] (i := 5) (oi := _) (v := ?_) rfl (by kernel_rfl) (by kernel_rfl) (by kernel_rfl) (by kernel_rfl) (fun _ _ _ h => h) (Or.inl ⟨by rfl, ?_⟩) (by assumption) ?_
            rotate_left
            · (intro w hSw; (try dsimp only at hSw); go_simp; try (with_reducible rfl))
            (try simp only [Act.put, List.setIfInBounds_toArray, List.set_cons_zero, List.set_cons_succ])
            refine wpAnyX_take [6, 7, 8, 9, 10, 12] (i := 6) (oi := _) (v := ?_) rfl (by kernel_rfl) (by kernel_rfl) (by kernel_rfl) (by kernel_rfl) (fun _ _ _ h => h) (Or.inl ⟨by rfl, ?_⟩) (by assumption) ?_
            rotate_left
            · (intro w hSw; (try dsimp only at hSw); go_simp; try (with_reducible rfl))
            (try simp only [Act.put, List.setIfInBounds_toArray, List.set_cons_zero, List.set_cons_succ])
            refine wpAnyX_take [7, 8, 9, 10, 12] (i := 7) (oi := _) (v := ?_) rfl (by kernel_rfl) (by kernel_rfl) (by kernel_rfl) (by kernel_rfl) (fun _ _ _ h => h) (Or.inl ⟨by rfl, ?_⟩) (by assumption) ?_
            rotate_left
            · (intro w hSw; (try dsimp only at hSw); go_simp; try (with_reducible rfl))
            (try simp only [Act.put, List.setIfInBounds_toArray, List.set_cons_zero, List.set_cons_succ])
            refine wpAnyX_ready (i := 8) (o := _) (by kernel_rfl) rfl (fun K hK => ?_)
            go_simp
            refine (someEv_any g len bs.length Wb T1.out.cur (by omega) (by omega) (by omega) (by omega)).mono ?_
            intro e W1 hp
            unfold EvPost at hp
            obtain ⟨v, rfl, hv, s1⟩ := hp
            have T2 := Lib.hid (T1.out.step s1)
            have HV := Lib.hid hv
            clear hv s1 T1
            unfold evC
            go_wp2_with fail
            refine hK.out _ _ ?_ (fun hHelda => ?_)
            · exact ⟨(sc_cells T2.out.b).2.2.2.2.2, (sc_cells T2.out.b).1, (sc_cells T2.out.b).2.2.2.2.1⟩
            clear hK K
            (try simp only [Act.put, List.setIfInBounds_toArray, List.set_cons_zero, List.set_cons_succ])
            clear hHeld
            refine wpAnyX_ready (i := 9) (o := _) (by kernel_rfl) rfl (fun K hK => ?_)
            go_simp
            have T3 := Lib.hid (T2.out.alloc (.cells #[.int .i64 v.1, .int .i64 v.2.1, .int .i64 v.2.2.1, .int .i64 v.2.2.2.1, .int .i64 v.2.2.2.2.1, .float .f32 v.2.2.2.2.2] 48))
            refine hK.out _ _ ?_ (fun hHeldb => ?_)
            · exact ⟨(sc_cells T3.out.b).2.2.2.2.2, (sc_cells T3.out.b).1, (sc_cells T3.out.b).2.2.2.2.1⟩
            clear hK K
            (try simp only [Act.put, List.setIfInBounds_toArray, List.set_cons_zero, List.set_cons_succ])
            clear hHelda T3
            obtain ⟨i0, hi0, hz0, hz1, hz2⟩ := info_parts ev_info
            have hq1 := T2.out.qL
            have hq2 := T2.out.Ls
            refine wpAnyX_ready (i := 10) (o := _) (by kernel_rfl) rfl (fun K hK => ?_)
            refine step_append_lies _ (by rfl) (.tmp 51) (.tmp 59) 42 (by rfl) M 48 i0 _ 6 48 Try.underlying42 hi0 hz0 hz1 hz2 rfl (by omega) vE evs.length (flatE evs) (by rfl) (T2.out.evr.alloc _) ⟨W1.heap.size, 0, none⟩ 1 1 (evV v) (by rfl) (by rfl) (World.news_of_block (cs := #[.int .i64 v.1, .int .i64 v.2.1, .int .i64 v.2.2.1, .int .i64 v.2.2.2.1, .int .i64 v.2.2.2.2.1, .float .f32 v.2.2.2.2.2]) (t := 48) (fr := (0, 0)) (heap_alloc_new W1 _)) (evV_one v) (by omega) (by simp only [maxLen]; omega) (by omega) (by simp; omega) (W1.heap.size + 1) (by simp) ?_
            intro gg cap w4 hown4 hgrow hat hlt4
            have B4 := Lib.hid (T2.out.evGrown hgrow)
            have A4 := Lib.hid (T2.out.evApp HV.out hown4 hgrow)
            have c4 := (sc_cells B4.out).2.2.2.2.2
            have f4 := free_cells B4.out 5
            have c40 := (sc_cells B4.out).1
            have c44 := (sc_cells B4.out).2.2.2.2.1
            clear hown4 hgrow hat
            refine hK.out _ _ ?_ (fun hHeldc => ?_)
            · exact ⟨c4, c40, c44⟩
            clear hK K
            (try simp only [Act.put, List.setIfInBounds_toArray, List.set_cons_zero, List.set_cons_succ])
            clear hHeldb
            refine wpAnyX_take [11, 12] (i := 11) (oi := _) (v := ?_) rfl (by kernel_rfl) (by kernel_rfl) (by kernel_rfl) (by kernel_rfl) (fun _ _ _ h => h) (Or.inl ⟨by rfl, ?_⟩) (by assumption) ?_
            rotate_left
            · (intro w hSw; (try dsimp only at hSw); go_simp; try (with_reducible rfl))
            (try simp only [Act.put, List.setIfInBounds_toArray, List.set_cons_zero, List.set_cons_succ])
            refine wpAnyX_last (o := _) (by kernel_rfl) rfl (fun K hK => ?_)
            go_simp
            refine hK.out _ _ ?_
            clear hK K
            (try simp only [Act.put, List.setIfInBounds_toArray, List.set_cons_zero, List.set_cons_succ])
            refine wpAnyX_done (by kernel_rfl) ?_ _
            go_wp2_with fail
            go_roundw
            case rel => exact ⟨j - 1, _, evs ++ [v], by go_num, by omega, by simp; omega, A4.out⟩
            case measure => simp [intOf]; omega
          · obtain ⟨E, cE, rfl⟩ := owns_form hS0.out.evr
            obtain ⟨c0, c1, c2, c3, c4, c5⟩ := sc_cells hS0.out.b
            obtain ⟨d0, d1, d2, d3, d4, d5⟩ := sc_cells hS0.out.r
            obtain ⟨f0, f1, f2, f3, f4, f5⟩ := sc_free hS0.out.r
            go_wp2_with fail
            refine bodyPost_ret (results_cell_row rfl _ _ w.heap.size 44 #[.int .i64 len, .int .i64 (1 + vo), .float .f32 ce, .float .f32 re, .slice B bs.length cb, .slice E evs.length cE] (0, 0) _ rfl (hS0.out.res _ _ _ _ _ _) Try.underlying44 rfl (by kernel_rfl)) rfl ?_
            have D := SSc.done (ce := cE) (E := E) hS0.out (.int .i64 len) (.int .i64 (1 + vo)) (.float .f32 ce) (.float .f32 re) (.slice B bs.length cb) (.slice E evs.length cE) _ rfl
            exact ⟨⟨(len, 1 + vo, ce, re), B, cb, bs, E, cE, evs, rfl, D.1, ⟨HL.out, ⟨hbl, hS0.out.bok⟩, by omega, hS0.out.eok⟩⟩, D.2⟩
end
set_option maxRecDepth 100000 in
set_option maxHeartbeats 800000 in
theorem makeScore_any (A : Option Addr) (cp : Nat) (bs : List Int) (m : Int) (w : World) (hr : Rd w A (bs.map (.int .u8))) (hm : bs.length ≤ 1048576) (h : m = 8 ∨ m = 30 ∨ m = 40 ∨ m = 60) :
    Calls Try.prog 17 #[.slice A bs.length cp, .int .i64 m] w fun e w' => ScPost m w e w' ∧ Below w.heap.size w w' := by
  rcases h with rfl | rfl | rfl | rfl
  all_goals
    have Hr := Lib.hid (fun o => hr.below ((Below.refl w.heap.size w).alloc (Nat.le_refl _) o))
    clear hr
    go_enter Try.func17, Try.ntmps17
    go_wp2_with fail
    refine (new_any A cp bs _ (Hr.out _) hm).mono ?_
    rintro e w1 ⟨g, rfl, hg, hcur, hb1⟩
    have hgs : w.heap.size < g := by simp at hg; omega
    have hs1 : w.heap.size + 1 ≤ w1.heap.size := by have := hb1.size; simpa using this
    have HC := Lib.hid hcur
    have HB1 := Lib.hid (((Below.refl w.heap.size w).alloc (Nat.le_refl _) (.cells #[.int .i64 0, .int .i64 0, .float .f32 0, .float .f32 0, .slice none 0 0, .slice none 0 0] 44)).trans (hb1.mono (by simp)))
    have HR := Lib.hid ((hb1.block w.heap.size (by simp)).trans (heap_alloc_new w _))
    have hgl := hcur.lt
    clear hg hcur hb1 Hr
    go_wp2_with fail
    refine (l7Score_any g _ _ HC.out (by omega) (by omega)).mono ?_
    rintro e w2 ⟨⟨s, B, cb, bds, E, ce, evs, rfl, hin, hok⟩, hs⟩
    have HR2 := Lib.hid ((hs.2.block w.heap.size (by omega) (by intro e; injection e with e; omega)).trans HR.out)
    have HB2 := Lib.hid (HB1.out.trans (below_of_step hs (by omega) (by omega)))
    have HI := Lib.hid hin
    have HK := Lib.hid hok
    obtain ⟨d0, d1, d2, d3, d4, d5⟩ := sc_cells HR2.out
    obtain ⟨f0, f1, f2, f3, f4, f5⟩ := sc_free HR2.out
    clear HR HB1 HC hin hok hs
    unfold scV
    go_wp2_with fail
    refine bodyPost_ret (results_cell_row rfl _ _ w.heap.size 44 #[.int .i64 s.1, .int .i64 s.2.1, .float .f32 s.2.2.1, .float .f32 s.2.2.2, .slice B bds.length cb, .slice E evs.length ce] (0, 0) _ rfl (put6 HR2.out _ _ _ _ _ _) Try.underlying44 rfl (by kernel_rfl)) rfl ?_
    refine ⟨⟨s, B, cb, bds, E, ce, evs, rfl, ?_, HK.out⟩, (((((HB2.out.setCell (Nat.le_refl _) _).setCell (Nat.le_refl _) _).setCell (Nat.le_refl _) _).setCell (Nat.le_refl _) _).setCell (Nat.le_refl _) _).setCell (Nat.le_refl _) _⟩
    exact (HI.out.keep (fun j hj _ => put6_else (by omega) _ _ _ _ _ _) (by simp)).low (by omega) (by simp) (Nat.le_refl _)
end Go.Proofs.Ytndnfhhdflmfcaa

/-
impl.StrikeShape: the click.
-/
namespace Go.Proofs.Ytndnfhhdflmfcaa
open Go Go.RowKit Ieee

set_option maxRecDepth 100000 in
set_option maxHeartbeats 800000 in
theorem shape_any0 (n : Nat) (w : World) (hn : 1 ≤ n ∧ n ≤ 64) :
    Calls Try.prog 100 #[.int .i64 0, .int .i64 n] w fun e w' => ∃ ts, e = .returned (.tuple #[.slice (some ⟨w.heap.size, 0, none⟩) n n, .bool true]) ∧ w'.rowIs w.heap.size 31 n (fun j => .float .f32 (ts.getD j 0)) ∧ Shaped 0 n n ts ∧ Below w.heap.size w w' := by
  have hmk := fun W => run_make_row' (P := Try.prog) 28 31 (.float .f32 0) 4 Try.underlying28 f32_info rfl .i64 .i64 n (by omega) (by omega) W
  have S0 : Hid ((w.alloc (.cells (madeCells #[.float .f32 0] n) 31)).rowIs w.heap.size 31 n (fun j => .float .f32 ((List.replicate n 0).getD j 0))) := (World.rowIs_made w (.float .f32 0) n 31).congr fun i hi => by simp [List.getD, hi]
  have B0 : Hid (Below w.heap.size w (w.alloc (.cells (madeCells #[.float .f32 0] n) 31))) := (Below.refl w.heap.size w).alloc (Nat.le_refl _) _
  go_enter Try.func100, Try.ntmps100
  go_wp2_with fail
  generalize w.alloc (.cells (madeCells #[.float .f32 0] n) 31) = W0 at *
  go_loopw [29] (fun i wr => ∃ (k : Nat) (ts : List Nat), i = .int .i64 (k : Int) ∧ k ≤ n ∧ wr.rowIs w.heap.size 31 n (fun j => .float .f32 (ts.getD j 0)) ∧ Hid (Shaped 0 n k ts) ∧ Hid (Below w.heap.size w wr)) (fun i _ => n - (intOf i).toNat)
  case atStart => exact ⟨0, _, rfl, by omega, S0.out, Shaped.zero _ _, B0⟩
  case round =>
    obtain ⟨k, ts, rfl, hk, hrow, hS, hB⟩ := hrel
    by_cases hlt : k < n
    · have c0 := hrow.cell (i := 0) (by omega)
      have f0 := hrow.frozen 0
      have U := Lib.hid (rowIs_upd (v := 1065353216) hrow hS.out.1 (show 0 < n by omega))
      go_wp2_with fail
      go_roundw
      case rel => exact ⟨k + 1, _, by go_num, by omega, U.out, hS.out.click (by omega), hB.out.setCell (Nat.le_refl _) _⟩
      case measure => simp [intOf]; omega
    · obtain rfl : k = n := by omega
      go_wp2_with fail
      go_ret2
      exact ⟨ts, rfl, hrow, hS.out, hB.out⟩
end Go.Proofs.Ytndnfhhdflmfcaa

/-
impl.StrikeShape: the ramp.
-/
namespace Go.Proofs.Ytndnfhhdflmfcaa
open Go Go.RowKit Ieee

set_option maxRecDepth 100000 in
set_option maxHeartbeats 800000 in
theorem shape_any1 (n : Nat) (w : World) (hn : 1 ≤ n ∧ n ≤ 64) :
    Calls Try.prog 100 #[.int .i64 1, .int .i64 n] w fun e w' => ∃ ts, e = .returned (.tuple #[.slice (some ⟨w.heap.size, 0, none⟩) n n, .bool true]) ∧ w'.rowIs w.heap.size 31 n (fun j => .float .f32 (ts.getD j 0)) ∧ Shaped 1 n n ts ∧ Below w.heap.size w w' := by
  have hmk := fun W => run_make_row' (P := Try.prog) 28 31 (.float .f32 0) 4 Try.underlying28 f32_info rfl .i64 .i64 n (by omega) (by omega) W
  have S0 : Hid ((w.alloc (.cells (madeCells #[.float .f32 0] n) 31)).rowIs w.heap.size 31 n (fun j => .float .f32 ((List.replicate n 0).getD j 0))) := (World.rowIs_made w (.float .f32 0) n 31).congr fun i hi => by simp [List.getD, hi]
  have B0 : Hid (Below w.heap.size w (w.alloc (.cells (madeCells #[.float .f32 0] n) 31))) := (Below.refl w.heap.size w).alloc (Nat.le_refl _) _
  go_enter Try.func100, Try.ntmps100
  go_wp2_with fail
  generalize w.alloc (.cells (madeCells #[.float .f32 0] n) 31) = W0 at *
  go_loopw [29] (fun i wr => ∃ (k : Nat) (ts : List Nat), i = .int .i64 (k : Int) ∧ k ≤ n ∧ wr.rowIs w.heap.size 31 n (fun j => .float .f32 (ts.getD j 0)) ∧ Hid (Shaped 1 n k ts) ∧ Hid (Below w.heap.size w wr)) (fun i _ => n - (intOf i).toNat)
  case atStart => exact ⟨0, _, rfl, by omega, S0.out, Shaped.zero _ _, B0⟩
  case round =>
    obtain ⟨k, ts, rfl, hk, hrow, hS, hB⟩ := hrel
    by_cases hlt : k < n
    · have c0 := hrow.cell hlt
      have f0 := hrow.frozen k
      have U := Lib.hid (fun (m v : Nat) => rowIs_upd (v := v) (w := wr.drewN m) hrow hS.out.1 hlt)
      obtain ⟨p, hp⟩ : ∃ p, floatOfInt .f32 ((k : Int) + 1) = p := ⟨_, rfl⟩
      obtain ⟨q, hq⟩ : ∃ q, floatOfInt .f32 (n : Int) = q := ⟨_, rfl⟩
      have V := Lib.hid (fun W => hS.out.set hlt (v := fR .quo .f32 p q W) (by rw [← hp, ← hq]; exact fRo rfl rfl W) (fR_lt _ _ _ _ _))
      go_wp2_with fail
      go_roundw
      case rel => exact ⟨k + 1, _, by go_num, by omega, U.out _ _, V.out _, (below_drewN hB.out _).setCell (Nat.le_refl _) _⟩
      case measure => simp [intOf]; omega
    · obtain rfl : k = n := by omega
      go_wp2_with fail
      go_ret2
      exact ⟨ts, rfl, hrow, hS.out, hB.out⟩
end Go.Proofs.Ytndnfhhdflmfcaa

/-
impl.StrikeShape: the arch.
-/
namespace Go.Proofs.Ytndnfhhdflmfcaa
open Go Go.RowKit Ieee

set_option maxRecDepth 100000 in
set_option maxHeartbeats 800000 in
theorem shape_any2 (n : Nat) (w : World) (hn : 1 ≤ n ∧ n ≤ 64) :
    Calls Try.prog 100 #[.int .i64 2, .int .i64 n] w fun e w' => ∃ ts, e = .returned (.tuple #[.slice (some ⟨w.heap.size, 0, none⟩) n n, .bool true]) ∧ w'.rowIs w.heap.size 31 n (fun j => .float .f32 (ts.getD j 0)) ∧ Shaped 2 n n ts ∧ Below w.heap.size w w' := by
  have hmk := fun W => run_make_row' (P := Try.prog) 28 31 (.float .f32 0) 4 Try.underlying28 f32_info rfl .i64 .i64 n (by omega) (by omega) W
  have S0 : Hid ((w.alloc (.cells (madeCells #[.float .f32 0] n) 31)).rowIs w.heap.size 31 n (fun j => .float .f32 ((List.replicate n 0).getD j 0))) := (World.rowIs_made w (.float .f32 0) n 31).congr fun i hi => by simp [List.getD, hi]
  have B0 : Hid (Below w.heap.size w (w.alloc (.cells (madeCells #[.float .f32 0] n) 31))) := (Below.refl w.heap.size w).alloc (Nat.le_refl _) _
  go_enter Try.func100, Try.ntmps100
  go_wp2_with fail
  generalize w.alloc (.cells (madeCells #[.float .f32 0] n) 31) = W0 at *
  go_loopw [29] (fun i wr => ∃ (k : Nat) (ts : List Nat), i = .int .i64 (k : Int) ∧ k ≤ n ∧ wr.rowIs w.heap.size 31 n (fun j => .float .f32 (ts.getD j 0)) ∧ Hid (Shaped 2 n k ts) ∧ Hid (Below w.heap.size w wr)) (fun i _ => n - (intOf i).toNat)
  case atStart => exact ⟨0, _, rfl, by omega, S0.out, Shaped.zero _ _, B0⟩
  case round =>
    obtain ⟨k, ts, rfl, hk, hrow, hS, hB⟩ := hrel
    by_cases hlt : k < n
    · have c0 := hrow.cell hlt
      have f0 := hrow.frozen k
      have U := Lib.hid (fun (m v : Nat) => rowIs_upd (v := v) (w := wr.drewN m) hrow hS.out.1 hlt)
      obtain ⟨p, hp⟩ : ∃ p, floatOfInt .f32 (2 * (k : Int) + 1) = p := ⟨_, rfl⟩
      obtain ⟨q, hq⟩ : ∃ q, floatOfInt .f32 (2 * (n : Int)) = q := ⟨_, rfl⟩
      have E : ∀ W, nrm .f32 (fR .quo .f32 p q W) = nrm .f32 (arcT n k) := fun W => by
        unfold arcT; rw [hp, hq, nrm_fR, nrm_fo]
      have V := Lib.hid (fun W1 W2 W3 W4 W5 => hS.out.set hlt (v := fR .mul .f32 (fR .mul .f32 1082130432 (fR .quo .f32 p q W1) W2) (fR .sub .f32 1065353216 (fR .quo .f32 p q W3) W4) W5)
        (fRo (fRo rfl (E W1) W2) (fRo rfl (E W3) W4) W5) (fR_lt _ _ _ _ _))
      clear E
      go_wp2_with fail
      go_roundw
      case rel => exact ⟨k + 1, _, by go_num, by omega, U.out _ _, V.out _ _ _ _ _, (below_drewN hB.out _).setCell (Nat.le_refl _) _⟩
      case measure => simp [intOf]; omega
    · obtain rfl : k = n := by omega
      go_wp2_with fail
      go_ret2
      exact ⟨ts, rfl, hrow, hS.out, hB.out⟩
end Go.Proofs.Ytndnfhhdflmfcaa

/-
impl.StrikeShape: all three shapes.
-/
namespace Go.Proofs.Ytndnfhhdflmfcaa
open Go Go.RowKit Ieee

theorem cN_fin {v : Nat} (h : fin .f32 v) : cN .f32 v .f64 = 0 := by
  unfold cN
  rw [widen_some (fin_num h)]
/-- A shape, word by word. -/
def ShapeL (kind n : Nat) (ts : List Nat) : Prop := ts.length = n ∧ ∀ j, j < n → ts.getD j 0 = shapeW kind n j
theorem shaped_list {kind n : Nat} {ts : List Nat} (hk : kind < 3) (h1 : 1 ≤ n) (h2 : n ≤ 64) (h : Shaped kind n n ts) : ShapeL kind n ts :=
  ⟨h.1, fun j hj => by
    have := (h.2 j hj).1
    rw [if_pos hj] at this
    have f := (shape_in hk h1 h2 hj).1
    rw [nrm_fin f] at this
    exact nrm_fin_eq this f⟩
theorem shape_any (kind n : Nat) (w : World) (hk : kind < 3) (hn : 1 ≤ n ∧ n ≤ 64) :
    Calls Try.prog 100 #[.int .i64 kind, .int .i64 n] w fun e w' => ∃ ts, e = .returned (.tuple #[.slice (some ⟨w.heap.size, 0, none⟩) n n, .bool true]) ∧ w'.rowIs w.heap.size 31 n (fun j => .float .f32 (ts.getD j 0)) ∧ ShapeL kind n ts ∧ Below w.heap.size w w' := by
  match kind, hk with
  | 0, _ => exact (shape_any0 n w hn).mono fun e w' ⟨ts, h1, h2, h3, h4⟩ => ⟨ts, h1, h2, shaped_list (by omega) hn.1 hn.2 h3, h4⟩
  | 1, _ => exact (shape_any1 n w hn).mono fun e w' ⟨ts, h1, h2, h3, h4⟩ => ⟨ts, h1, h2, shaped_list (by omega) hn.1 hn.2 h3, h4⟩
  | 2, _ => exact (shape_any2 n w hn).mono fun e w' ⟨ts, h1, h2, h3, h4⟩ => ⟨ts, h1, h2, shaped_list (by omega) hn.1 hn.2 h3, h4⟩
theorem shapeW_lt (kind n i : Nat) : wfk .f32 (shapeW kind n i) := by
  unfold shapeW
  split
  · split
    · rw [wfk_32]; omega
    · rw [wfk_32]; omega
  · exact fo_lt _ _ _ _
  · exact fo_lt _ _ _ _
theorem ShapeL.low {kind n : Nat} {ts : List Nat} (hk : kind < 3) (h1 : 1 ≤ n) (h2 : n ≤ 64) (h : ShapeL kind n ts) : Low ts ∧ ∀ i, i < ts.length → fin .f32 (ts.getD i 0) ∧ wfk .f32 (ts.getD i 0) := by
  obtain ⟨hl, h⟩ := h
  have key : ∀ i, i < ts.length → fin .f32 (ts.getD i 0) ∧ ab (fv .f32 (ts.getD i 0)) ≤ 8 ∧ wfk .f32 (ts.getD i 0) := fun i hi => by
    rw [hl] at hi
    obtain ⟨f, a, b⟩ := shape_in hk h1 h2 hi
    rw [h i hi]
    have a' := (fge_iff f (zero_fin .f32).1).1 a
    have b' := (fle_iff f one32.1).1 b
    rw [(zero_fin .f32).2] at a'
    rw [one32.2] at b'
    exact ⟨f, by rw [ab_of_nonneg a']; exact Rat.le_trans b' (by grind), shapeW_lt _ _ _⟩
  exact ⟨fun i hi => ⟨(key i hi).1, (key i hi).2.1⟩, fun i hi => ⟨(key i hi).1, (key i hi).2.2⟩⟩
theorem shape_unit {kind n i : Nat} (hk : kind < 3) (h1 : 1 ≤ n) (h2 : n ≤ 64) (hi : i < n) : fin .f32 (shapeW kind n i) ∧ 0 ≤ fv .f32 (shapeW kind n i) ∧ fv .f32 (shapeW kind n i) ≤ 1 := by
  obtain ⟨f, a, b⟩ := shape_in hk h1 h2 hi
  have a' := (fge_iff f (zero_fin .f32).1).1 a
  have b' := (fle_iff f one32.1).1 b
  rw [(zero_fin .f32).2] at a'
  rw [one32.2] at b'
  exact ⟨f, a', b'⟩
theorem sub00 : fin .f64 (fo .sub .f64 0 0) := numB_fin (by decide +kernel)
theorem diff_small {v u p r : Nat} (hv : fin .f32 v ∧ 0 ≤ fv .f32 v ∧ fv .f32 v ≤ 1) (hu : fin .f32 u ∧ 0 ≤ fv .f32 u ∧ fv .f32 u ≤ 1) (h : fle .f64 (diffW v u) p20 = true) (hp : fin .f64 p) (hpv : fv .f64 p = pw (-20))
    (hr : nrm .f64 r = diffW v u) : fle .f64 r p = true := by
  obtain ⟨v1, v2⟩ := wid_fin hv.1
  obtain ⟨u1, u2⟩ := wid_fin hu.1
  obtain ⟨k1, k2, _⟩ := consts64
  have ht := top210
  have hd : ab (fv .f64 (wid v) - fv .f64 (wid u)) ≤ 1 := by rw [v2, u2]; exact ab_le (by grind) (by grind)
  have sd := sub_spec v1 u1 (by grind)
  have e := sd.2.1
  rw [k1] at e
  have t := ab_tri (fv .f64 (fo .sub .f64 (wid v) (wid u))) (fv .f64 (wid v) - fv .f64 (wid u))
  obtain ⟨z1, z2⟩ := zero_fin .f64
  have s0 := sub_spec z1 z1 (by rw [z2]; have : (0 : Rat) - 0 = 0 := by grind
                                rw [this, ab_of_nonneg Rat.le_refl]; exact top_pos _)
  have s1 : fv .f64 (fo .sub .f64 0 0) = 0 := round_zero s0 (by rw [z2]; grind)
  obtain ⟨a1, a2⟩ := absB_fin sd.1
  obtain ⟨b1, b2⟩ := absB_fin s0.1
  rw [s1, ab_of_nonneg Rat.le_refl] at b2
  have n1 := ab_nonneg (fv .f64 (fo .sub .f64 (wid v) (wid u)))
  have ad := add_spec a1 b1 (by rw [a2, b2, ab_of_nonneg (by grind)]; grind)
  have hf : fin .f64 (diffW v u) := ad.1
  have hx := (fle_iff hf p20_val.1).1 h
  rw [nrm_fin_eq hr hf]
  refine (fle_iff hf hp).2 ?_
  rw [hpv, ← p20_val.2]
  exact hx
/-- All that the walk asks of two places of an arch, their words without a body. -/
theorem arch_pack {n k : Nat} (h1 : 1 ≤ n) (h2 : n ≤ 64) (hk : k < n) : ∃ v u V U : Nat, shapeW 2 n k = v ∧ shapeW 2 n (n - 1 - k) = u ∧ fge .f32 v 0 = true ∧ fle .f32 v 1065353216 = true ∧ (∀ W, cR .f32 v .f64 W = V) ∧ (∀ W, cR .f32 u .f64 W = U) ∧
    cN .f32 v .f64 = 0 ∧ cN .f32 u .f64 = 0 ∧ Hid (fin .f64 (fo .sub .f64 V U)) ∧ Hid (∀ p r, fin .f64 p → fv .f64 p = pw (-20) → nrm .f64 r = fo .add .f64 (absB (fo .sub .f64 V U)) (absB (fo .sub .f64 0 0)) → fle .f64 r p = true) := by
  obtain ⟨f, a, b⟩ := shape_in (kind := 2) (by omega) h1 h2 hk
  obtain ⟨g, _, _⟩ := shape_in (kind := 2) (i := n - 1 - k) (by omega) h1 h2 (by omega)
  have he := arch_ends h1 h2 hk
  have hv := shape_unit (kind := 2) (by omega) h1 h2 hk
  have hu := shape_unit (kind := 2) (i := n - 1 - k) (by omega) h1 h2 (by omega)
  exact ⟨_, _, _, _, rfl, rfl, a, b, cR_wid_fin f, cR_wid_fin g, cN_fin f, cN_fin g, he.1, fun p r hp hpv hr => diff_small hv hu he.2 hp hpv hr⟩
end Go.Proofs.Ytndnfhhdflmfcaa

/-
impl.isEvent, impl.IsScore at valid scores.
-/
namespace Go.Proofs.Ytndnfhhdflmfcaa
open Go Go.RowKit Ieee

set_option maxRecDepth 100000 in
set_option maxHeartbeats 800000 in
theorem isEvent_any (e : Ev) (L : Int) (nb : Nat) (w : World) (h : EvOk L nb e) (hL : L ≤ 2000) (hb : nb ≤ 8) :
    Calls Try.prog 72 #[.agg #[.int .i64 e.1, .int .i64 e.2.1, .int .i64 e.2.2.1, .int .i64 e.2.2.2.1, .int .i64 e.2.2.2.2.1, .float .f32 e.2.2.2.2.2], .int .i64 nb] w fun r w' => r = .returned (.bool true) ∧ Below w.heap.size w w' := by
  obtain ⟨at', kd, bo, sh, co, fo'⟩ := e
  obtain ⟨a0, a1, b0, b1, hf, hw, _, hk⟩ := h
  simp only at a0 a1 b0 b1 hf hw hk ⊢
  have Hw := Lib.hid (fun w => cR_lt (s := .f32) (k := .f64) hw w)
  have Hf := Lib.hid (cR_wid_fin hf)
  have Hfin : Hid (finB (wid fo') = true) := (finB_iff _).2 (wid_fin hf).1
  have hin : (decide ((0 : Int) ≤ at') && decide (at' ≤ 2000)) = true := by simp; omega
  have g1 : (decide (bo < 0)) = false := by simp; omega
  have g2 : (decide ((nb : Int) ≤ bo)) = false := by simp; omega
  have HB : Hid (Below w.heap.size w (w.alloc (.cells #[.int .i64 at', .int .i64 kd, .int .i64 bo, .int .i64 sh, .int .i64 co, .float .f32 fo'] 48))) := (Below.refl w.heap.size w).alloc (Nat.le_refl _) _
  have HN := Lib.hid (heap_alloc_new w (.cells #[.int .i64 at', .int .i64 kd, .int .i64 bo, .int .i64 sh, .int .i64 co, .float .f32 fo'] 48))
  have HZ : Hid (w.heap.size < (w.alloc (.cells #[.int .i64 at', .int .i64 kd, .int .i64 bo, .int .i64 sh, .int .i64 co, .float .f32 fo'] 48)).heap.size) := by show _ < (w.alloc _).heap.size; simp
  clear hf hw
  go_enter Try.func72, Try.ntmps72
  go_wp2_with fail
  generalize w.alloc (.cells #[.int .i64 at', .int .i64 kd, .int .i64 bo, .int .i64 sh, .int .i64 co, .float .f32 fo'] 48) = W at *
  obtain ⟨c0, c1, c2, c3, c4, c5⟩ := sc_cells HN.out
  refine (count_any at' _).mono ?_
  rintro r w' ⟨rfl, rfl⟩
  rw [hin]
  rcases hk with ⟨rfl, ⟨hs0, hs1⟩, hc0, hc1⟩ | ⟨rfl, ⟨rfl, rfl⟩, hu0, hu1⟩ | ⟨rfl, ⟨rfl, rfl⟩, rfl⟩
  · obtain ⟨k, rfl⟩ : ∃ k : Nat, sh = k := ⟨sh.toNat, by omega⟩
    obtain ⟨n, rfl⟩ : ∃ n : Nat, co = n := ⟨co.toNat, by omega⟩
    have z4 : ((n : Int) == 0) = false := by simp; omega
    cases z3 : ((k : Int) == 0)
    all_goals
      go_wp2_with fail
      refine (shape_any k n _ (by omega) (by omega)).mono ?_
      rintro r W2 ⟨ts, rfl, _, _, hb2⟩
      have HB2 := Lib.hid (HB.out.trans (hb2.mono HB.out.size))
      have c5' := (World.cell?_of_block (w := W) (w' := W2) (hb2.block w.heap.size HZ.out)).trans c5
      clear hb2 c0 c1 c2 c3 c4 c5 z3 z4
      go_wp2_with fail
      refine (finite_any _ _ (Hw.out _)).mono ?_
      rintro r w' ⟨rfl, rfl⟩
      rw [Hf.out, Hfin.out]
      go_wp2_with fail
      go_ret
      exact ⟨rfl, below_drewN HB2.out _⟩
  · go_wp2_with fail
    refine (unit_any _ _ hu0 hu1).mono ?_
    rintro r w' ⟨rfl, rfl⟩
    go_wp2_with fail
    go_ret
    exact ⟨rfl, HB.out⟩
  · go_wp2_with fail
    refine (signbit_any _ _ (Hw.out _)).mono ?_
    rintro r w' ⟨rfl, rfl⟩
    rw [Hf.out, show signB (wid 0) = false by decide +kernel]
    go_wp2_with fail
    go_ret
    exact ⟨rfl, below_drewN HB.out _⟩

section
variable {W : World} {w : World}
set_option maxRecDepth 100000 in
set_option maxHeartbeats 400000 in
theorem notEvent_any (e : Ev) (L : Int) (nb G : Nat) (B : Option Addr) (cb : Nat) (x0 x1 x2 x3 x5 : Value) (w : World) (h : EvOk L nb e) (hL : L ≤ 2000) (hb : nb ≤ 8) (hg : w.heap[G]? = some (.cells #[x0, x1, x2, x3, .slice B nb cb, x5] 44 (0, 0))) :
    Calls Try.prog 71 #[.agg #[.int .i64 e.1, .int .i64 e.2.1, .int .i64 e.2.2.1, .int .i64 e.2.2.2.1, .int .i64 e.2.2.2.2.1, .float .f32 e.2.2.2.2.2], .pointer (some ⟨G, 0, none⟩)] w fun r w' => r = .returned (.bool false) ∧ Below w.heap.size w w' := by
  have HB : Hid (Below w.heap.size w (w.alloc (.cells #[.int .i64 e.1, .int .i64 e.2.1, .int .i64 e.2.2.1, .int .i64 e.2.2.2.1, .int .i64 e.2.2.2.2.1, .float .f32 e.2.2.2.2.2] 48))) := (Below.refl w.heap.size w).alloc (Nat.le_refl _) _
  have HN := Lib.hid (heap_alloc_new w (.cells #[.int .i64 e.1, .int .i64 e.2.1, .int .i64 e.2.2.1, .int .i64 e.2.2.2.1, .int .i64 e.2.2.2.2.1, .float .f32 e.2.2.2.2.2] 48))
  have hgl := lt_of_some hg
  have g4 := (sc_cells hg).2.2.2.2.1
  have HK := Lib.hid h
  clear h hg
  go_enter Try.func71, Try.ntmps71
  go_wp2_with fail
  generalize w.alloc (.cells #[.int .i64 e.1, .int .i64 e.2.1, .int .i64 e.2.2.1, .int .i64 e.2.2.2.1, .int .i64 e.2.2.2.2.1, .float .f32 e.2.2.2.2.2] 48) = W at *
  refine (isEvent_any e L nb _ HK.out hL hb).mono ?_
  rintro r w' ⟨rfl, hb2⟩
  have HB2 := Lib.hid (HB.out.trans (hb2.mono HB.out.size))
  clear hb2 g4
  go_wp2_with fail
  go_ret
  exact ⟨rfl, HB2.out⟩
end

theorem EvsOk.at_ {L : Int} {nb n : Nat} {evs : List Ev} (h : EvsOk L nb evs n) {i : Nat} (hi : i < evs.length) : EvOk L nb (eAt evs i) := by
  have : eAt evs i ∈ evs := by
    unfold eAt
    simp only [List.getD, List.getElem?_eq_getElem hi, Option.getD_some]
    exact List.getElem_mem hi
  exact h.2 _ this

set_option maxRecDepth 100000 in
set_option maxHeartbeats 800000 in
theorem indexEv_any (E : Option Addr) (ce lo hi : Nat) (evs : List Ev) (L : Int) (nb G n : Nat) (B : Option Addr) (cb : Nat) (x0 x1 x2 x3 x5 : Value) (w : World) (h : OwnE w lo hi E ce evs) (hh : hi ≤ w.heap.size) (hok : EvsOk L nb evs n) (hL : L ≤ 2000) (hb : nb ≤ 8) (hn : n ≤ 60)
    (hg : w.heap[G]? = some (.cells #[x0, x1, x2, x3, .slice B nb cb, x5] 44 (0, 0))) :
    Calls Try.prog 99 #[.slice E evs.length ce, .func (.func 71) #[] #[.pointer (some ⟨G, 0, none⟩)]] w fun r w' => r = .returned (.int .i64 (-1)) ∧ Below w.heap.size w w' := by
  have H := Lib.hid h
  have HK := Lib.hid hok
  have HG := Lib.hid hg
  have hle : evs.length ≤ 60 := Nat.le_trans hok.1 hn
  clear h hok hg
  go_enter Try.func99, Try.ntmps99
  go_wp2_with fail
  go_loopw [8] (fun i wr => ∃ k : Nat, i = .int .i64 (k : Int) ∧ k ≤ evs.length ∧ Hid (Below w.heap.size w wr)) (fun i _ => evs.length - (intOf i).toNat)
  case atStart => exact ⟨0, rfl, by omega, Below.refl _ _⟩
  case round =>
    obtain ⟨k, rfl, hk, hb'⟩ := hrel
    by_cases hlt : k < evs.length
    · obtain ⟨b, rfl, _, _, hbl, hlc, _, hcell⟩ := (H.out.below hb'.out hh).cells (by omega)
      obtain ⟨e0, e1, e2, e3, e4, e5⟩ := hcell k hlt
      have HM := Lib.hid (HK.out.at_ hlt)
      have HGw := Lib.hid ((hb'.out.block G (lt_of_some HG.out)).trans HG.out)
      clear hcell
      generalize eAt evs k = v at *
      go_wp2_with fail
      refine (notEvent_any v L nb G B cb x0 x1 x2 x3 x5 _ HM.out hL hb HGw.out).mono ?_
      rintro r w' ⟨rfl, hb2⟩
      have HB : Hid (Below w.heap.size w w') := hb'.out.trans (hb2.mono hb'.out.size)
      clear hb2 e0 e1 e2 e3 e4 e5
      go_wp2_with fail
      go_roundw
      case rel => exact ⟨k + 1, by go_num, by omega, HB⟩
      case measure => simp [intOf]; omega
    · go_wp2_with fail
      go_ret
      exact ⟨rfl, hb'.out⟩

set_option maxRecDepth 100000 in
set_option maxHeartbeats 400000 in
theorem containsEv_any (E : Option Addr) (ce lo hi : Nat) (evs : List Ev) (L : Int) (nb G n : Nat) (B : Option Addr) (cb : Nat) (x0 x1 x2 x3 x5 : Value) (w : World) (h : OwnE w lo hi E ce evs) (hh : hi ≤ w.heap.size) (hok : EvsOk L nb evs n) (hL : L ≤ 2000) (hb : nb ≤ 8) (hn : n ≤ 60)
    (hg : w.heap[G]? = some (.cells #[x0, x1, x2, x3, .slice B nb cb, x5] 44 (0, 0))) :
    Calls Try.prog 70 #[.slice E evs.length ce, .func (.func 71) #[] #[.pointer (some ⟨G, 0, none⟩)]] w fun r w' => r = .returned (.bool false) ∧ Below w.heap.size w w' := by
  have H := Lib.hid h
  have HK := Lib.hid hok
  have HG := Lib.hid hg
  clear h hok hg
  go_enter Try.func70, Try.ntmps70
  go_wp2_with fail
  refine (indexEv_any E ce lo hi evs L nb G n B cb x0 x1 x2 x3 x5 _ H.out hh HK.out hL hb hn HG.out).mono ?_
  rintro r w' ⟨rfl, hb⟩
  have HB := Lib.hid hb
  clear hb
  go_wp2_with fail
  go_ret
  exact ⟨rfl, HB.out⟩

set_option maxRecDepth 100000 in
set_option maxHeartbeats 400000 in
theorem notBody_any (b : Bd) (lo hi : Nat) (w : World) (h : OwnM w lo hi b.1 b.2.1 b.2.2) (hh : hi ≤ w.heap.size) (hok : ModesOk b.2.2) (hl : b.2.2.length ≤ 16) :
    Calls Try.prog 69 #[.agg #[.slice b.1 b.2.2.length b.2.1]] w fun r w' => r = .returned (.bool false) ∧ Below w.heap.size w w' := by
  have HB : Hid (Below w.heap.size w (w.alloc (.cells #[.slice b.1 b.2.2.length b.2.1] 62))) := (Below.refl w.heap.size w).alloc (Nat.le_refl _) _
  have H : Hid (OwnM (w.alloc (.cells #[.slice b.1 b.2.2.length b.2.1] 62)) lo hi b.1 b.2.1 b.2.2) := h.below HB.out hh
  have HK := Lib.hid hok
  have hz := HB.out.size
  clear h hok
  go_enter Try.func69, Try.ntmps69
  go_wp2_with fail
  generalize w.alloc (.cells #[.slice b.1 b.2.2.length b.2.1] 62) = W at *
  refine (isBody_any b.1 b.2.1 lo hi b.2.2 _ H.out (by omega) HK.out hl).mono ?_
  rintro r w' ⟨rfl, hb⟩
  have HB2 := Lib.hid (HB.out.trans (hb.mono HB.out.size))
  clear hb
  go_wp2_with fail
  go_ret
  exact ⟨rfl, HB2.out⟩

set_option maxRecDepth 100000 in
set_option maxHeartbeats 400000 in
theorem indexBd_any (A : Option Addr) (c lo hi m n : Nat) (bs : List Bd) (w : World) (h : BodsIn w lo hi A bs) (hok : BodsOk bs m n) (hm : m ≤ 16) (hn : n ≤ 8) :
    Calls Try.prog 98 #[.slice A bs.length c, .func (.func 69) #[] #[]] w fun r w' => r = .returned (.int .i64 (-1)) ∧ Below w.heap.size w w' := by
  have H := Lib.hid h
  have HK := Lib.hid hok.2
  have hle : bs.length ≤ 8 := Nat.le_trans hok.1 hn
  clear h hok
  go_enter Try.func98, Try.ntmps98
  go_wp2_with fail
  go_loopw [8] (fun i wr => ∃ k : Nat, i = .int .i64 (k : Int) ∧ k ≤ bs.length ∧ Hid (Below w.heap.size w wr)) (fun i _ => bs.length - (intOf i).toNat)
  case atStart => exact ⟨0, rfl, by omega, Below.refl _ _⟩
  case round =>
    obtain ⟨k, rfl, hk, hb'⟩ := hrel
    by_cases hlt : k < bs.length
    · have H1 := Lib.hid (H.out.below hb'.out)
      obtain ⟨b, off, rfl, hbl, hc⟩ := H1.out.rd (by simp; omega)
      have e1 := hc k (bodV (bodAt bs k)) (by simp [bodAt, List.getD, List.getElem?_eq_getElem hlt])
      have HM := Lib.hid (H1.out.row k hlt)
      have HK1 := Lib.hid (HK.out k hlt)
      have HH := Lib.hid H1.out.hh
      clear hc H1
      unfold bodV at e1
      generalize bodAt bs k = v at *
      go_wp2_with fail
      refine (notBody_any v lo hi _ HM.out HH.out HK1.out.1 (Nat.le_trans HK1.out.2 hm)).mono ?_
      rintro r w' ⟨rfl, hb2⟩
      have HB : Hid (Below w.heap.size w w') := hb'.out.trans (hb2.mono hb'.out.size)
      clear hb2 e1
      go_wp2_with fail
      go_roundw
      case rel => exact ⟨k + 1, by go_num, by omega, HB⟩
      case measure => simp [intOf]; omega
    · go_wp2_with fail
      go_ret
      exact ⟨rfl, hb'.out⟩

set_option maxRecDepth 100000 in
set_option maxHeartbeats 400000 in
theorem containsBd_any (A : Option Addr) (c lo hi m n : Nat) (bs : List Bd) (w : World) (h : BodsIn w lo hi A bs) (hok : BodsOk bs m n) (hm : m ≤ 16) (hn : n ≤ 8) :
    Calls Try.prog 68 #[.slice A bs.length c, .func (.func 69) #[] #[]] w fun r w' => r = .returned (.bool false) ∧ Below w.heap.size w w' := by
  have H := Lib.hid h
  have HK := Lib.hid hok
  clear h hok
  go_enter Try.func68, Try.ntmps68
  go_wp2_with fail
  refine (indexBd_any A c lo hi m n bs _ H.out HK.out hm hn).mono ?_
  rintro r w' ⟨rfl, hb⟩
  have HB := Lib.hid hb
  clear hb
  go_wp2_with fail
  go_ret
  exact ⟨rfl, HB.out⟩

/-- A score that impl.IsScore takes. -/
structure ScAsk (s : Sh) (bs : List Bd) (evs : List Ev) : Prop where
  sh : ShOk 2000 s
  bods : BodsOk bs 16 8
  evs : EvsOk s.1 bs.length evs 60
set_option maxRecDepth 100000 in
set_option maxHeartbeats 1600000 in
theorem isScore_any (s : Sh) (B : Option Addr) (cb : Nat) (bs : List Bd) (E : Option Addr) (ce lo hi : Nat) (evs : List Ev) (w : World) (h : ScIn w lo hi B cb bs E ce evs) (hok : ScAsk s bs evs) :
    Calls Try.prog 43 #[.agg #[.int .i64 s.1, .int .i64 s.2.1, .float .f32 s.2.2.1, .float .f32 s.2.2.2, .slice B bs.length cb, .slice E evs.length ce]] w fun r w' => r = .returned (.bool true) ∧ Below w.heap.size w w' := by
  obtain ⟨⟨l0, l1, v0, v1, lim, cw, rw'⟩, hbo, heo⟩ := hok
  have hbl := hbo.1
  have hel := heo.1
  have HB : Hid (Below w.heap.size w (w.alloc (.cells #[.int .i64 s.1, .int .i64 s.2.1, .float .f32 s.2.2.1, .float .f32 s.2.2.2, .slice B bs.length cb, .slice E evs.length ce] 44))) := (Below.refl w.heap.size w).alloc (Nat.le_refl _) _
  have HN := Lib.hid (heap_alloc_new w (.cells #[.int .i64 s.1, .int .i64 s.2.1, .float .f32 s.2.2.1, .float .f32 s.2.2.2, .slice B bs.length cb, .slice E evs.length ce] 44))
  have H := Lib.hid (h.below HB.out)
  have HK := Lib.hid (And.intro hbo heo)
  have HL := Lib.hid lim
  clear h hbo heo lim
  obtain ⟨len, vo, c, r⟩ := s
  simp only at l0 l1 v0 v1 cw rw' HB HN H HK HL ⊢
  have hin : (decide ((0 : Int) ≤ len) && decide (len ≤ 2000)) = true := by simp; omega
  go_enter Try.func43, Try.ntmps43
  go_wp2_with fail
  generalize w.alloc (.cells #[.int .i64 len, .int .i64 vo, .float .f32 c, .float .f32 r, .slice B bs.length cb, .slice E evs.length ce] 44) = W at *
  obtain ⟨c0, c1, c2, c3, c4, c5⟩ := sc_cells HN.out
  refine (count_any len _).mono ?_
  rintro q w' ⟨rfl, rfl⟩
  rw [hin]
  go_wp2_with fail
  refine (isLimit_any c r _ cw rw').mono ?_
  rintro q w' ⟨nd, rfl, rfl⟩
  rw [HL.out]
  go_wp2_with fail
  refine (containsBd_any B cb lo hi 16 8 bs _ (H.out.bodsIn.drewN nd) HK.out.1 (by omega) (by omega)).mono ?_
  rintro q W2 ⟨rfl, hb'⟩
  have hz : w.heap.size < W.heap.size := lt_of_some HN.out
  have hb : Below W.heap.size W W2 := (below_drewN (Below.refl W.heap.size W) nd).trans hb'
  have HB2 := Lib.hid (HB.out.trans (hb.mono HB.out.size))
  clear hb'
  have HN2 := Lib.hid ((hb.block w.heap.size hz).trans HN.out)
  have H2 := Lib.hid (H.out.below hb)
  clear c0 c1 c2 c3 c4 c5 hb H HN HB
  obtain ⟨c0, c1, c2, c3, c4, c5⟩ := sc_cells HN2.out
  go_wp2_with fail
  refine (containsEv_any E ce lo hi evs len bs.length w.heap.size 60 B cb _ _ _ _ _ _ H2.out.evs H2.out.hh HK.out.2 (by omega) (by omega) (by omega) HN2.out).mono ?_
  rintro q W3 ⟨rfl, hb⟩
  have HB3 := Lib.hid (HB2.out.trans (hb.mono HB2.out.size))
  clear c0 c1 c2 c3 c4 c5 hb
  go_wp2_with fail
  go_ret
  exact ⟨rfl, HB3.out⟩
end Go.Proofs.Ytndnfhhdflmfcaa

/-
Rows of events: an element stored, two exchanged; slices.Clone of events.
-/
namespace Go.Proofs.Ytndnfhhdflmfcaa
open Go Go.RowKit Ieee

/-- Six cells of a list set. -/
def set6 (xs : List Value) (i : Nat) (e : Ev) : List Value := (((((xs.set i (.int .i64 e.1)).set (i + 1) (.int .i64 e.2.1)).set (i + 2) (.int .i64 e.2.2.1)).set (i + 3) (.int .i64 e.2.2.2.1)).set (i + 4) (.int .i64 e.2.2.2.2.1)).set (i + 5) (.float .f32 e.2.2.2.2.2)
theorem set6_cons6 (a b c d x y : Value) (xs : List Value) (i : Nat) (e : Ev) : set6 (a :: b :: c :: d :: x :: y :: xs) (i + 6) e = a :: b :: c :: d :: x :: y :: set6 xs i e := rfl
theorem flatE_set (L : List Ev) (i : Nat) (e : Ev) (hi : i < L.length) : flatE (L.set i e) = set6 (flatE L) (i * 6) e := by
  induction L generalizing i with
  | nil => simp at hi
  | cons m L ih =>
    cases i with
    | zero => rfl
    | succ i =>
      have h := ih i (by simpa using hi)
      have e1 : (i + 1) * 6 = i * 6 + 6 := by omega
      rw [e1]
      show evV m ++ flatE (L.set i e) = set6 (evV m ++ flatE L) (i * 6 + 6) e
      rw [h]
      exact (set6_cons6 _ _ _ _ _ _ _ _ _).symm
/-- Six stores. -/
def putE (W : World) (g i : Nat) (e : Ev) : World := (((((W.setCell ⟨g, i, none⟩ (.int .i64 e.1)).setCell ⟨g, i + 1, none⟩ (.int .i64 e.2.1)).setCell ⟨g, i + 2, none⟩ (.int .i64 e.2.2.1)).setCell ⟨g, i + 3, none⟩ (.int .i64 e.2.2.2.1)).setCell ⟨g, i + 4, none⟩ (.int .i64 e.2.2.2.2.1)).setCell ⟨g, i + 5, none⟩ (.float .f32 e.2.2.2.2.2)
theorem putE_block {W : World} {g i : Nat} {e : Ev} {cs : Array Value} {t : TypeId} (h : W.heap[g]? = some (.cells cs t (0, 0))) : ∃ cs' : Array Value, (putE W g i e).heap[g]? = some (.cells cs' t (0, 0)) ∧ cs'.size = cs.size ∧ cs'.toList = set6 cs.toList i e := by
  refine ⟨(((((cs.setIfInBounds i (.int .i64 e.1)).setIfInBounds (i + 1) (.int .i64 e.2.1)).setIfInBounds (i + 2) (.int .i64 e.2.2.1)).setIfInBounds (i + 3) (.int .i64 e.2.2.2.1)).setIfInBounds (i + 4) (.int .i64 e.2.2.2.2.1)).setIfInBounds (i + 5) (.float .f32 e.2.2.2.2.2), ?_, ?_, ?_⟩
  · simp [putE, World.setCell, Array.getElem?_modify, h]
  · simp
  · simp [set6]
theorem putE_else {W : World} {g i j : Nat} {e : Ev} (hj : j ≠ g) : (putE W g i e).heap[j]? = W.heap[j]? := by
  unfold putE
  simp only [Below.heap_setCell _ _ _ _ (show j ≠ (⟨g, _, none⟩ : Addr).block from hj)]
theorem putE_grown {w W : World} {g i : Nat} {e : Ev} (h : w.grownBy W (some g)) : w.grownBy (putE W g i e) (some g) := by
  unfold putE
  exact grown_trans (grown_trans (grown_trans (grown_trans (grown_trans (grown_trans h (grown_set _ _)) (grown_set _ _)) (grown_set _ _)) (grown_set _ _)) (grown_set _ _)) (grown_set _ _)
theorem take_set6 (xs : List Value) (n i : Nat) (e : Ev) : (set6 xs i e).take n = set6 (xs.take n) i e := by
  simp [set6, List.take_set]
theorem OwnE.put {W : World} {lo hi g c i : Nat} {L : List Ev} (h : OwnE W lo hi (some ⟨g, 0, none⟩) c L) (hi' : i < L.length) (e : Ev) : OwnE (putE W g (i * 6) e) lo hi (some ⟨g, 0, none⟩) c (L.set i e) := by
  obtain ⟨⟨h1, h2⟩, h3⟩ := h
  have hl : (L.set i e).length = L.length := by simp
  unfold OwnE
  rw [hl]
  refine ⟨⟨by rw [flatE_len, hl], ?_⟩, h3⟩
  rcases h2 with ⟨h2, _⟩ | ⟨G, cap, cur, e1, e2, e3, e4, e5, e6, e7⟩
  · cases h2
  · have eG : g = G := by injection e1 with q1 _ _; injection q1 with q1; injection q1
    subst eG
    obtain ⟨cs, p1, p2, p3⟩ := putE_block (i := i * 6) (e := e) e3
    exact .inr ⟨g, cap, cs, e1, e2, p1, e4, e5, by rw [p2]; exact e6, by rw [p3, take_set6, e7, flatE_set L i e hi']⟩
theorem OwnE.block {W : World} {lo hi c : Nat} {A : Option Addr} {L : List Ev} (h : OwnE W lo hi A c L) (h0 : 0 < L.length) : ∃ g, A = some ⟨g, 0, none⟩ ∧ lo ≤ g ∧ g < hi ∧ g < W.heap.size ∧ L.length ≤ c ∧ c ≤ maxLen ∧ ∃ cs, W.heap[g]? = some (.cells cs 48 (0, 0)) := by
  obtain ⟨⟨h1, h2⟩, h3⟩ := h
  rcases h2 with ⟨_, h2⟩ | ⟨G, cap, cur, e1, e2, e3, e4, e5, e6, e7⟩
  · omega
  · injection e1 with q1 q2 q3
    subst q1 q3
    exact ⟨G, rfl, e2, h3 G rfl, lt_of_some e3, e4, e5, cur, e3⟩

theorem flatE_one (L : List Ev) : ∀ u ∈ flatE L, u.oneCell' = true := fun u hu => by
  obtain ⟨m, _, h⟩ := List.mem_flatMap.1 hu
  exact evV_one m u h
theorem OwnE.flat {w : World} {lo hi b c : Nat} {L : List Ev} (h : OwnE w lo hi (some ⟨b, 0, none⟩) c L) : ∀ j u, (flatE L)[j]? = some u → w.cell? ⟨b, j, none⟩ = some u := fun j u hu => by
  obtain ⟨⟨h1, h2⟩, h3⟩ := h
  rcases h2 with ⟨h2, _⟩ | ⟨g, cap, cur, e1, e2, e3, e4, e5, e6, e7⟩
  · cases h2
  · injection e1 with q1 q2 q3
    injection q1 with q1
    injection q1 with q1
    subst q1
    have hj : j < L.length * 6 := by
      rcases Nat.lt_or_ge j (flatE L).length with h | h
      · rw [flatE_len] at h; exact h
      · rw [List.getElem?_eq_none h] at hu; cases hu
    rw [cell_of_row w b j _ _ (0, 0) e3]
    rw [← e7, List.getElem?_take, if_pos hj] at hu
    simpa using hu
theorem wpList_appE {P : Program} {w : World} {ops : Array Oper} {rest : List Oper} {o : Oper} {a : Act} {Q : Exit → Act → World → Prop} (hgd : o.guard = none) (s x : Operand) (t : TypeId)
    (ho : o.op = .call { callee := .builtin .append, args := #[s, x], argTypes := #[t, t] })
    (B : Nat) (e : TypeId) (z : Value) (k bytes : Nat) (ht : P.underlying t = some (.slice e)) (hinfo : (P.info? e).map (fun i => (i.zero, i.size, i.bytes)) = some (some z, k, bytes)) (hzs : z.cells.size = k) (hk : 0 < k)
    (v : Value) (n : Nat) (xs : List Value) (b m c : Nat) (news : List Value) (hs : a.eval s = v) (hx : a.eval x = .slice (some ⟨b, 0, none⟩) m c) (hu : ∀ u ∈ news, u.oneCell' = true) (hown : w.ownsRow B e k v n xs) (hB : B ≤ w.heap.size)
    (hr : ∀ j u, news[j]? = some u → w.cell? ⟨b, j, none⟩ = some u) (hm : news.length = m * k) (h63 : n + m ≤ 1048576) (hby : bytes ≤ 1024)
    (h : ∀ v' w', w'.ownsRow B e k v' (n + m) (xs ++ news) → Below B w w' → wpList P ops Q rest (a.put o.dst v') w') : wpList P ops Q (o :: rest) a w := by
  obtain ⟨i, hi, hzz⟩ := Option.map_eq_some_iff.1 hinfo
  simp only [Prod.mk.injEq] at hzz
  obtain ⟨hz, hsz, hb⟩ := hzz
  have hcells : ∀ j u, news[j]? = some u → w.cell? ((⟨b, 0, none⟩ : Addr).add j) = some u := fun j u hj => by
    rw [← hr j u hj]
    congr 1
    unfold Addr.add
    by_cases h0 : j = 0 <;> simp [h0]
  refine wpList_append_own _ hgd s x t ho B e i z k bytes ht hi hz hsz hb hzs hk v n xs hs hown ⟨b, 0, none⟩ m c news hx hm hcells hu ?_ ?_ hB ?_
  · simp only [maxLen]; omega
  · have := Nat.mul_le_mul h63 hby; omega
  · intro v' w' h2 h3 _
    exact h v' w' h2 ((Below.refl _ _).grown h3 hB (fun k hk => (hown.lt k hk).1))

/-- What slices.Clone of events returns. -/
def CloneEP (lo : Nat) (L : List Ev) (w : World) (e : Ending) (w' : World) : Prop :=
  ∃ (A' : Option Addr) (c' : Nat), e = .returned (.slice A' L.length c') ∧ OwnE w' lo w'.heap.size A' c' L ∧ Below w.heap.size w w'
set_option maxRecDepth 100000 in
set_option maxHeartbeats 400000 in
theorem cloneE_any (A : Option Addr) (c lo hi : Nat) (L : List Ev) (w : World) (h : OwnE w lo hi A c L) (hl : L.length ≤ 60) :
    Calls Try.prog 73 #[.slice A L.length c] w (CloneEP w.heap.size L w) := by
  have h2 := h.1.2
  rcases h2 with ⟨h2, h0⟩ | ⟨g, cap, cur, e1, _⟩
  · injection h2 with q1 q2 q3
    subst q1 q3
    have hn : L = [] := List.eq_nil_of_length_eq_zero h0
    subst hn
    clear h0 q2
    have hq := fun W => Lib.run_eql_slice_nil (P := Try.prog) W 42 48 none 0 0 0 0 Try.underlying42
    go_enter Try.func73, Try.ntmps73
    go_wp2_with fail
    go_ret
    exact ⟨none, 0, rfl, ⟨⟨rfl, .inl ⟨rfl, rfl⟩⟩, fun k hk => by cases hk⟩, Below.refl _ _⟩
  · injection e1 with q1 q2 q3
    subst q1 q3
    have HC : Hid (∀ o j u, (flatE L)[j]? = some u → (w.alloc o).cell? ⟨g, j, none⟩ = some u) := fun o j u hu => by
      have hg : g < w.heap.size := h.1.lt g rfl |>.2
      exact (World.cell?_of_block (Below.heap_alloc w o g hg)).trans (h.flat j u hu)
    have own0 : (w.alloc (.cells #[] 48)).ownsRow w.heap.size 48 6 (.slice (some ⟨w.heap.size, 0, none⟩) 0 0) 0 [] := ⟨by simp, .inr ⟨w.heap.size, 0, #[], rfl, Nat.le_refl _, heap_alloc_new w _, Nat.le_refl _, by simp [maxLen], by simp, by simp⟩⟩
    have b0 : Below w.heap.size w (w.alloc (.cells #[] 48)) := (Below.refl w.heap.size w).alloc (Nat.le_refl _) _
    have HL2 := Lib.hid (flatE_len L)
    clear h
    have hq := fun W => Lib.run_eql_slice_nil (P := Try.prog) W 42 48 (some ⟨g, 0, none⟩) L.length c 0 0 Try.underlying42
    go_enter Try.func73, Try.ntmps73
    go_wp2_with (at_builtin; refine wpList_appE rfl (.tmp 5) (.tmp 6) 42 rfl w.heap.size 48 (.agg #[.int .i64 0, .int .i64 0, .int .i64 0, .int .i64 0, .int .i64 0, .float .f32 0]) 6 48 Try.underlying42 ev_info rfl (by decide) (.slice (some ⟨w.heap.size, 0, none⟩) 0 0) 0 [] g L.length c (flatE L) rfl rfl (flatE_one L) own0 b0.size (HC.out _) HL2.out (by omega) (by omega) ?_; intro v1 w2 hown1 hbel1)
    go_ret
    rw [Nat.zero_add, List.nil_append] at hown1
    obtain ⟨A', c', rfl⟩ := owns_form hown1
    exact ⟨A', c', rfl, OwnE.of hown1, b0.trans hbel1⟩
end Go.Proofs.Ytndnfhhdflmfcaa

/-
slices.SortStableFunc on events, by their times (at most 19 of them: one insertion sort, by the library's contract).
-/
namespace Go.Proofs.Ytndnfhhdflmfcaa
open Go Go.RowKit Ieee

/-- What the library's contract asks of the program: the body of insertionSortCmpFunc, its types. -/
def sortRen : Go.Shelf.Ren := ⟨fun _ => 125, fun t => if t = 0 then 0 else if t = 3 then 3 else if t = 4 then 4 else if t = 22 then 42 else if t = 24 then 48 else 120, fun g => g⟩
set_option maxRecDepth 100000 in
theorem sort_lays : SlLaysF0.n20 Try.prog sortRen := {
  mixed := by kernel_rfl
  f20 := ⟨_, by decide, Try.func125⟩
  t0 := by kernel_rfl
  a0 := fun _ => by kernel_rfl
  z0 := fun _ => by kernel_rfl
  v0 := fun _ => by kernel_rfl
  t3 := by kernel_rfl
  a3 := fun _ => by kernel_rfl
  z3 := fun _ => by kernel_rfl
  v3 := fun _ => by kernel_rfl
  t4 := by kernel_rfl
  a4 := fun _ => by kernel_rfl
  z4 := fun _ => by kernel_rfl
  v4 := fun _ => by kernel_rfl
  t22 := by kernel_rfl
  a22 := fun _ => by kernel_rfl
  z22 := fun _ => by kernel_rfl
  v22 := fun _ => by kernel_rfl
  t25 := by kernel_rfl
  a25 := fun _ => by kernel_rfl
  z25 := fun _ => by kernel_rfl
  v25 := fun _ => by kernel_rfl }
/-- The comparison, as int reckons it. -/
def cmpE (x y : Ev) : Int := wrap64 (x.1 - y.1)
set_option maxHeartbeats 400000 in
theorem cmpEv_any (x y : Ev) (W : World) :
    Calls Try.prog 75 #[.agg #[.int .i64 x.1, .int .i64 x.2.1, .int .i64 x.2.2.1, .int .i64 x.2.2.2.1, .int .i64 x.2.2.2.2.1, .float .f32 x.2.2.2.2.2], .agg #[.int .i64 y.1, .int .i64 y.2.1, .int .i64 y.2.2.1, .int .i64 y.2.2.2.1, .int .i64 y.2.2.2.2.1, .float .f32 y.2.2.2.2.2]] W
      fun r w' => r = .returned (.int .i64 (cmpE x y)) ∧ ∃ q os', w' = Sort.grow (W.drewN q) os' := by
  obtain ⟨a1, a2, a3, a4, a5, a6⟩ := x
  obtain ⟨b1, b2, b3, b4, b5, b6⟩ := y
  simp only
  go_enter Try.func75, Try.ntmps75
  go_wp2_with fail
  go_ret
  exact ⟨rfl, 0, _, by rw [Sort.alloc_eq_grow, Sort.alloc_eq_grow, Sort.grow_grow]; rfl⟩
theorem cmp_lays (blk off size : Nat) (w : World) : CmpLays Try.prog 75 #[] evV 6 cmpE blk off size w := fun _ _ _ _ x y => cmpEv_any x y _

/-- Times that a difference tells apart. -/
def Timed (L : List Ev) : Prop := ∀ i, i < L.length → 0 ≤ (eAt L i).1 ∧ (eAt L i).1 ≤ 2000
theorem Timed.swap {L : List Ev} (h : Timed L) {j : Nat} (h0 : 0 < j) (hj : j < L.length) : Timed (swapE L j) := fun i hi => by
  rw [swapE_len] at hi
  rw [eAt_swap h0 hj]
  split
  · exact h j hj
  · split
    · exact h (j - 1) (by omega)
    · exact h i hi
theorem Timed.sink {L : List Ev} (h : Timed L) {j : Nat} (hj : j < L.length) : Timed (sink L j) := by
  induction j generalizing L with
  | zero => exact h
  | succ j ih =>
    unfold Go.Proofs.Ytndnfhhdflmfcaa.sink
    split
    · exact ih (h.swap (by omega) hj) (by rw [swapE_len]; omega)
    · exact h
theorem ltE {x y : Ev} (h1 : 0 ≤ x.1) (h2 : x.1 ≤ 2000) (h3 : 0 ≤ y.1) (h4 : y.1 ≤ 2000) : ltOf cmpE x y = decide (x.1 < y.1) := by
  unfold ltOf cmpE wrap64
  congr 1
  apply propext
  constructor <;> intro h <;> omega
theorem toArray_at (L : List Ev) (i : Nat) : L.toArray[i]! = eAt L i := by
  unfold eAt
  simp [List.getD]
  rfl
theorem insInner_sink (L : List Ev) (j : Nat) (h : Timed L) (hj : j < L.length) : Sort.insInner (ltOf cmpE) 0 j L.toArray = (sink L j).toArray := by
  induction j generalizing L with
  | zero => rfl
  | succ j ih =>
    unfold Sort.insInner sink
    rw [toArray_at, toArray_at, ltE (h _ hj).1 (h _ hj).2 (h j (by omega)).1 (h j (by omega)).2]
    have e : Sort.swp L.toArray (j + 1) j = (swapE L (j + 1)).toArray := by
      unfold Sort.swp swapE
      rw [toArray_at, toArray_at]
      simp
    by_cases hlt : (eAt L (j + 1)).1 < (eAt L j).1
    · rw [if_pos hlt, if_pos (by simp [hlt]), e]
      exact ih (swapE L (j + 1)) (h.swap (by omega) hj) (by rw [swapE_len]; omega)
    · rw [if_neg hlt, if_neg (by simp [hlt])]
theorem insOuter_isort (d : Nat) (L : List Ev) (i : Nat) (h : Timed L) (hi : i + d = L.length) : Sort.insOuter (ltOf cmpE) 0 L.length i L.toArray = (isortE L i d).toArray := by
  induction d generalizing L i with
  | zero =>
    rw [Sort.insOuter, if_neg (by omega)]; rfl
  | succ d ih =>
    rw [Sort.insOuter, if_pos (by omega), insInner_sink L i h (by omega)]
    unfold isortE
    have e : L.length = (sink L i).length := (sink_len L i).symm
    rw [e]
    exact ih (sink L i) (i + 1) (h.sink (by omega)) (by rw [sink_len]; omega)
theorem insertionSort_E (L : List Ev) (h : Timed L) : Sort.insertionSort (ltOf cmpE) L.toArray 0 L.length = (sortedE L).toArray := by
  unfold Sort.insertionSort sortedE
  rcases Nat.eq_zero_or_pos L.length with h0 | h0
  · have : L = [] := List.eq_nil_of_length_eq_zero h0
    subst this
    rw [Sort.insOuter, if_neg (by simp)]; rfl
  · exact insOuter_isort (L.length - 1) L 1 h (by omega)

theorem flatE_get (L : List Ev) (j : Nat) (h : j < L.length * 6) : (flatE L)[j]? = some ((evV (eAt L (j / 6)))[j % 6]!) := by
  obtain ⟨i, r, hr, rfl⟩ : ∃ i r, r < 6 ∧ j = i * 6 + r := ⟨j / 6, j % 6, by omega, by omega⟩
  have hi : i < L.length := by omega
  have e1 : (i * 6 + r) / 6 = i := by omega
  have e2 : (i * 6 + r) % 6 = r := by omega
  rw [e1, e2]
  obtain ⟨f0, f1, f2, f3, f4, f5⟩ := flatE_at hi
  match r, hr with
  | 0, _ => exact f0
  | 1, _ => exact f1
  | 2, _ => exact f2
  | 3, _ => exact f3
  | 4, _ => exact f4
  | 5, _ => exact f5
theorem OwnE.holds {w : World} {lo hi g c : Nat} {L : List Ev} (h : OwnE w lo hi (some ⟨g, 0, none⟩) c L) : Sort.HoldsK evV 6 w g 0 L.toArray := by
  intro j hj
  have hj' : j < L.length * 6 := by simpa using hj
  have e : (Sort.flatK evV 6 L.toArray)[j]! = (evV (eAt L (j / 6)))[j % 6]! := by
    rw [Sort.get_flatK _ _ _ _ (by simpa using hj'), toArray_at]
  obtain ⟨cs, hcs⟩ : ∃ cs, w.heap[g]? = some (.cells cs 48 (0, 0)) := by
    obtain ⟨G, hG, _, _, _, _, _, cs, hcs⟩ := h.block (by omega)
    injection hG with hG
    injection hG with hG
    subst hG
    exact ⟨cs, hcs⟩
  refine ⟨?_, free_cells hcs _⟩
  rw [Nat.zero_add, h.flat j _ (flatE_get L j hj')]
  exact congrArg some e.symm
/-- The block behind the sort. -/
theorem sorted_block {w : World} {g n : Nat} {cs : Array Value} {ty : TypeId} {dk : Array Ev} {os : Array Obj} (hcs : w.heap[g]? = some (.cells cs ty (0, 0))) :
    ∃ cs' : Array Value, (sortWorldK evV 6 w g 0 n dk os).heap[g]? = some (.cells cs' ty (0, 0)) ∧ cs'.size = cs.size := by
  have hg := lt_of_some hcs
  refine ⟨Sort.putCells id 0 (Sort.flatK evV 6 dk) cs, ?_, by simp [Sort.putCells]⟩
  unfold sortWorldK
  rw [Sort.heap_grow_old _ _ (by simp [Sort.putRowK, Sort.putRow, Sort.mapBlock, Sort.ahead]; exact hg)]
  simp [Sort.putRowK, Sort.putRow, Sort.mapBlock, Sort.ahead, Array.getElem?_modify, hcs, Sort.onCells]
theorem sorted_grown {w : World} {g n : Nat} {dk : Array Ev} {os : Array Obj} : w.grownBy (sortWorldK evV 6 w g 0 n dk os) (some g) := by
  refine ⟨rfl, rfl, rfl, ?_, fun i hi hn => ?_⟩
  · simp [sortWorldK, Sort.grow, Sort.putRowK, Sort.putRow, Sort.mapBlock, Sort.ahead]
  · unfold sortWorldK
    rw [Sort.heap_grow_old _ _ (by simp [Sort.putRowK, Sort.putRow, Sort.mapBlock, Sort.ahead]; exact hi)]
    have hne : g ≠ i := fun e => hn (by rw [e])
    simp [Sort.putRowK, Sort.putRow, Sort.mapBlock, Sort.ahead, Array.getElem?_modify, hne]
theorem OwnE.sorted {w : World} {lo hi g c n : Nat} {L L' : List Ev} {os : Array Obj} (h : OwnE w lo hi (some ⟨g, 0, none⟩) c L) (hl : L'.length = L.length) (hg : g < w.heap.size) :
    OwnE (sortWorldK evV 6 w g 0 n L'.toArray os) lo hi (some ⟨g, 0, none⟩) c L' := by
  have hH := holdsK_sortWorldK_c evV 6 w g 0 L.toArray L'.toArray n os h.holds hg (by simp [hl])
  obtain ⟨⟨h1, h2⟩, h3⟩ := h
  unfold OwnE
  rw [hl]
  refine ⟨⟨by rw [flatE_len, hl], ?_⟩, h3⟩
  rcases h2 with ⟨h2, _⟩ | ⟨G, cap, cur, e1, e2, e3, e4, e5, e6, e7⟩
  · cases h2
  · have eG : g = G := by injection e1 with q1 _ _; injection q1 with q1; injection q1
    subst eG
    obtain ⟨cs', p1, p2⟩ := sorted_block (n := n) (dk := L'.toArray) (os := os) e3
    refine .inr ⟨g, cap, cs', e1, e2, p1, e4, e5, by rw [p2]; exact e6, ?_⟩
    refine List.ext_getElem? fun j => ?_
    rw [List.getElem?_take]
    by_cases hj : j < L.length * 6
    · rw [if_pos hj, flatE_get L' j (by omega)]
      have hc := (hH j (by simp; omega)).1
      rw [Nat.zero_add, cell_of_row _ g j _ _ (0, 0) p1] at hc
      rw [Sort.get_flatK _ _ _ _ (by simp; omega), toArray_at] at hc
      simpa using hc
    · rw [if_neg hj, List.getElem?_eq_none (by rw [flatE_len]; omega)]

set_option maxRecDepth 100000 in
theorem insertion_any (g lo hi c : Nat) (L : List Ev) (w : World) (h : OwnE w lo hi (some ⟨g, 0, none⟩) c L) (ht : Timed L) (hl : L.length ≤ 60) (hg : g < w.heap.size) :
    Calls Try.prog 125 #[.slice (some ⟨g, 0, none⟩) L.length c, .int .i64 0, .int .i64 L.length, .func (.func 75) #[] #[]] w
      fun r w' => r = .returned (.tuple #[]) ∧ OwnE w' lo hi (some ⟨g, 0, none⟩) c (sortedE L) ∧ w.grownBy w' (some g) := by
  have eg : ∀ args w, (callFunc 75 args).run Try.prog w = .ok (.enter 75 args) w := enters_of Try.func75 (by kernel_rfl) rfl
  have hcon := AnyQ.insertionSortCmpFunc sort_lays 6 (fun _ => by kernel_rfl) (fun _ => by kernel_rfl) evV (fun _ => rfl) (fun x v hv => evV_one x v hv) cmpE 75 #[] g 0 c 0 L.toArray.size L.toArray w eg (cmp_lays g 0 L.toArray.size w) h.holds hg (by omega) (Nat.le_refl _) (by simp; omega)
  have hsz : L.toArray.size = L.length := by simp
  rw [hsz, insertionSort_E L ht] at hcon
  refine hcon.mono ?_
  rintro r w' ⟨rfl, n, os, rfl⟩
  exact ⟨rfl, h.sorted (sortedE_len L) hg, sorted_grown⟩

set_option maxRecDepth 100000 in
set_option maxHeartbeats 800000 in
theorem stable_any (g lo hi c : Nat) (L : List Ev) (w : World) (h : OwnE w lo hi (some ⟨g, 0, none⟩) c L) (ht : Timed L) (hl : L.length ≤ 19) (hg : g < w.heap.size) :
    Calls Try.prog 101 #[.slice (some ⟨g, 0, none⟩) L.length c, .int .i64 L.length, .func (.func 75) #[] #[]] w
      fun r w' => r = .returned (.tuple #[]) ∧ OwnE w' lo hi (some ⟨g, 0, none⟩) c (sortedE L) ∧ w.grownBy w' (some g) := by
  have hcon := Lib.hid (insertion_any g lo hi c L w h ht (by omega) hg)
  have l1 : (L.length : Int) < 20 := by omega
  have l2 : (L.length : Int) ≤ 20 := by omega
  clear h ht
  go_enter Try.func101, Try.ntmps101
  go_wp2_with fail
  refine wp_loop_rounds 1 ?_
  rw [rounds_succ]
  go_wp2_with fail
  refine hcon.out.mono ?_
  rintro r w' ⟨rfl, ho, hgr⟩
  have HO := Lib.hid ho
  have HG := Lib.hid hgr
  clear ho hgr
  go_wp2_with fail
  refine wp_loop_rounds 1 ?_
  rw [rounds_succ]
  go_wp2_with fail
  go_end0
  exact ⟨rfl, HO.out, HG.out⟩

set_option maxRecDepth 100000 in
set_option maxHeartbeats 400000 in
theorem sortStable_any (g lo hi c : Nat) (L : List Ev) (w : World) (h : OwnE w lo hi (some ⟨g, 0, none⟩) c L) (ht : Timed L) (hl : L.length ≤ 19) (hg : g < w.heap.size) :
    Calls Try.prog 74 #[.slice (some ⟨g, 0, none⟩) L.length c, .func (.func 75) #[] #[]] w
      fun r w' => r = .returned (.tuple #[]) ∧ OwnE w' lo hi (some ⟨g, 0, none⟩) c (sortedE L) ∧ w.grownBy w' (some g) := by
  have hcon := Lib.hid (stable_any g lo hi c L w h ht hl hg)
  clear h ht
  go_enter Try.func74, Try.ntmps74
  go_wp2_with fail
  refine hcon.out.mono ?_
  rintro r w' ⟨rfl, ho, hgr⟩
  have HO := Lib.hid ho
  have HG := Lib.hid hgr
  clear ho hgr
  go_wp2_with fail
  go_end0
  exact ⟨rfl, HO.out, HG.out⟩
end Go.Proofs.Ytndnfhhdflmfcaa

/-
impl.ordered: the events of a valid score, sorted.
-/
namespace Go.Proofs.Ytndnfhhdflmfcaa
open Go Go.RowKit Ieee

set_option maxRecDepth 100000 in
set_option maxHeartbeats 400000 in
theorem insertion_none (A : Option Addr) (c : Nat) (w : World) :
    Calls Try.prog 125 #[.slice A 0 c, .int .i64 0, .int .i64 0, .func (.func 75) #[] #[]] w fun r w' => r = .returned (.tuple #[]) ∧ w = w' := by
  go_enter Try.func125, Try.ntmps125
  go_wp2_with fail
  refine wp_loop_rounds 1 ?_
  rw [rounds_succ]
  go_wp2_with fail
  go_end0
  exact ⟨rfl, rfl⟩
set_option maxRecDepth 100000 in
set_option maxHeartbeats 400000 in
theorem stable_none (A : Option Addr) (c : Nat) (w : World) :
    Calls Try.prog 101 #[.slice A 0 c, .int .i64 0, .func (.func 75) #[] #[]] w fun r w' => r = .returned (.tuple #[]) ∧ w = w' := by
  go_enter Try.func101, Try.ntmps101
  go_wp2_with fail
  refine wp_loop_rounds 1 ?_
  rw [rounds_succ]
  go_wp2_with fail
  refine (insertion_none A c _).mono ?_
  rintro r w' ⟨rfl, rfl⟩
  go_wp2_with fail
  refine wp_loop_rounds 1 ?_
  rw [rounds_succ]
  go_wp2_with fail
  go_end0
  exact ⟨rfl, rfl⟩
set_option maxRecDepth 100000 in
set_option maxHeartbeats 400000 in
theorem sortStable_none (A : Option Addr) (c : Nat) (w : World) :
    Calls Try.prog 74 #[.slice A 0 c, .func (.func 75) #[] #[]] w fun r w' => r = .returned (.tuple #[]) ∧ w = w' := by
  go_enter Try.func74, Try.ntmps74
  go_wp2_with fail
  refine (stable_none A c _).mono ?_
  rintro r w' ⟨rfl, rfl⟩
  go_wp2_with fail
  go_end0
  exact ⟨rfl, rfl⟩
theorem EvsOk.timed {L : Int} {nb n : Nat} {evs : List Ev} (h : EvsOk L nb evs n) (hL : L ≤ 2000) : Timed evs := fun i hi => by
  have := h.at_ hi
  exact ⟨this.a0, Int.le_trans this.a1 hL⟩
/-- The sort, with events or without. -/
theorem sortAll_any (A : Option Addr) (lo hi c : Nat) (L : List Ev) (w : World) (h : OwnE w lo hi A c L) (ht : Timed L) (hl : L.length ≤ 19) :
    Calls Try.prog 74 #[.slice A L.length c, .func (.func 75) #[] #[]] w
      fun r w' => r = .returned (.tuple #[]) ∧ OwnE w' lo hi A c (sortedE L) ∧ Below lo w w' := by
  rcases Nat.eq_zero_or_pos L.length with h0 | h0
  · have e : L = [] := List.eq_nil_of_length_eq_zero h0
    subst e
    refine (sortStable_none A c w).mono ?_
    rintro r w' ⟨rfl, rfl⟩
    exact ⟨rfl, h, Below.refl _ _⟩
  · obtain ⟨g, rfl, h1, h2, h3, _⟩ := h.block h0
    refine (sortStable_any g lo hi c L w h ht hl h3).mono ?_
    rintro r w' ⟨rfl, ho, hg⟩
    exact ⟨rfl, ho, hg.os, hg.tape, hg.output, hg.size, fun k hk => hg.block k (by omega) (by intro e; injection e with e; omega)⟩
def OrdP (evs : List Ev) (w : World) (r : Ending) (w' : World) : Prop :=
  ∃ (A' : Option Addr) (c' : Nat), r = .returned (.slice A' (sortedE evs).length c') ∧ OwnE w' w.heap.size w'.heap.size A' c' (sortedE evs) ∧ Below w.heap.size w w'
set_option maxRecDepth 100000 in
set_option maxHeartbeats 400000 in
theorem ordered_any (s : Sh) (B : Option Addr) (cb : Nat) (bs : List Bd) (E : Option Addr) (ce lo hi : Nat) (evs : List Ev) (w : World) (h : OwnE w lo hi E ce evs) (hh : hi ≤ w.heap.size) (ht : Timed evs) (hl : evs.length ≤ 19) :
    Calls Try.prog 44 #[.agg #[.int .i64 s.1, .int .i64 s.2.1, .float .f32 s.2.2.1, .float .f32 s.2.2.2, .slice B bs.length cb, .slice E evs.length ce]] w (OrdP evs w) := by
  obtain ⟨len, vo, c, r⟩ := s
  have HB : Hid (Below w.heap.size w (w.alloc (.cells #[.int .i64 len, .int .i64 vo, .float .f32 c, .float .f32 r, .slice B bs.length cb, .slice E evs.length ce] 44))) := (Below.refl w.heap.size w).alloc (Nat.le_refl _) _
  have H : Hid (OwnE (w.alloc (.cells #[.int .i64 len, .int .i64 vo, .float .f32 c, .float .f32 r, .slice B bs.length cb, .slice E evs.length ce] 44)) lo hi E ce evs) := h.below HB.out hh
  have HT := Lib.hid ht
  clear h ht
  go_enter Try.func44, Try.ntmps44
  go_wp2_with fail
  generalize w.alloc (.cells #[.int .i64 len, .int .i64 vo, .float .f32 c, .float .f32 r, .slice B bs.length cb, .slice E evs.length ce] 44) = W at *
  refine (cloneE_any E ce lo hi evs W H.out (by omega)).mono ?_
  intro q W2 hp
  unfold CloneEP at hp
  obtain ⟨A', c', rfl, ho, hb⟩ := hp
  have HB2 := Lib.hid (HB.out.trans (hb.mono HB.out.size))
  have HO := Lib.hid ho
  have hz := HB.out.size
  clear ho hb
  go_wp2_with fail
  refine (sortAll_any A' W.heap.size W2.heap.size c' evs W2 HO.out HT.out hl).mono ?_
  rintro q W3 ⟨rfl, ho, hb⟩
  have HB3 := Lib.hid (HB2.out.trans (hb.mono hz))
  have HO3 := Lib.hid (And.intro ho hb.size)
  clear ho hb
  go_wp2_with fail
  go_ret
  have e := sortedE_len evs
  exact ⟨A', c', by rw [e]; rfl, ⟨owns_lower HO3.out.1.1 hz, fun k hk => Nat.lt_of_lt_of_le (HO3.out.1.2 k hk) HO3.out.2⟩, HB3.out⟩
end Go.Proofs.Ytndnfhhdflmfcaa

/-
'!=' of an event and itself.
-/
namespace Go.Proofs.Ytndnfhhdflmfcaa
open Go Go.RowKit Ieee

theorem eqI (d : Nat) (a : Int) (W : World) : (Op.equalIn (d + 1) 3 (.int .i64 a) (.int .i64 a)).run Try.prog W = .ok true W := by
  simp [Op.equalIn, run_underlying Try.underlying3]
theorem eqF (d : Nat) (x : Nat) (W : World) (hx : feq .f32 x x = true) : (Op.equalIn (d + 1) 31 (.float .f32 x) (.float .f32 x)).run Try.prog W = .ok true W := by
  unfold feq at hx
  simp [Op.equalIn, run_underlying Try.underlying31, Op.floatEq, hx]
theorem eqEv (d : Nat) (a b c e f : Int) (x : Nat) (W : World) (hx : feq .f32 x x = true) : (Op.equalIn (d + 2) 48 (.agg #[.int .i64 a, .int .i64 b, .int .i64 c, .int .i64 e, .int .i64 f, .float .f32 x]) (.agg #[.int .i64 a, .int .i64 b, .int .i64 c, .int .i64 e, .int .i64 f, .float .f32 x])).run Try.prog W = .ok true W := by
  have h1 : Try.prog.stoodInHeld 48 = false := by kernel_rfl
  have p0 : ∀ W, (part 3 #[.int .i64 a, .int .i64 b, .int .i64 c, .int .i64 e, .int .i64 f, .float .f32 x] 0).run Try.prog W = .ok (.int .i64 a) W := fun _ => by kernel_rfl
  have p1 : ∀ W, (part 3 #[.int .i64 a, .int .i64 b, .int .i64 c, .int .i64 e, .int .i64 f, .float .f32 x] 1).run Try.prog W = .ok (.int .i64 b) W := fun _ => by kernel_rfl
  have p2 : ∀ W, (part 3 #[.int .i64 a, .int .i64 b, .int .i64 c, .int .i64 e, .int .i64 f, .float .f32 x] 2).run Try.prog W = .ok (.int .i64 c) W := fun _ => by kernel_rfl
  have p3 : ∀ W, (part 3 #[.int .i64 a, .int .i64 b, .int .i64 c, .int .i64 e, .int .i64 f, .float .f32 x] 3).run Try.prog W = .ok (.int .i64 e) W := fun _ => by kernel_rfl
  have p4 : ∀ W, (part 3 #[.int .i64 a, .int .i64 b, .int .i64 c, .int .i64 e, .int .i64 f, .float .f32 x] 4).run Try.prog W = .ok (.int .i64 f) W := fun _ => by kernel_rfl
  have p5 : ∀ W, (part 31 #[.int .i64 a, .int .i64 b, .int .i64 c, .int .i64 e, .int .i64 f, .float .f32 x] 5).run Try.prog W = .ok (.float .f32 x) W := fun _ => by kernel_rfl
  have qi := fun v W => eqI d v W
  have qf := fun W => eqF d x W hx
  clear hx
  generalize hcs : (#[.int .i64 a, .int .i64 b, .int .i64 c, .int .i64 e, .int .i64 f, .float .f32 x] : Array Value) = cs at *
  rw [Op.equalIn]
  have hp : ∀ W, (program).run Try.prog W = .ok Try.prog W := fun _ => rfl
  simp only [Sem.run_bind, run_underlying Try.underlying48, Result.andThen_ok, hp, h1, Bool.false_eq_true, if_false]
  simp only [← Array.forIn_toList, List.forIn_cons, List.forIn_nil, Sem.run_bind, Result.andThen_ok, p0, p1, p2, p3, p4, p5, qi, qf, Sem.run_pure, ne_eq, String.reduceEq, not_false_eq_true, if_true, Bool.not_true, Bool.false_eq_true, if_false]
theorem neqEv (v : Ev) (W : World) (hx : feq .f32 v.2.2.2.2.2 v.2.2.2.2.2 = true) : (Go.binOp .neq 48 (.agg #[.int .i64 v.1, .int .i64 v.2.1, .int .i64 v.2.2.1, .int .i64 v.2.2.2.1, .int .i64 v.2.2.2.2.1, .float .f32 v.2.2.2.2.2]) (.agg #[.int .i64 v.1, .int .i64 v.2.1, .int .i64 v.2.2.1, .int .i64 v.2.2.2.1, .int .i64 v.2.2.2.2.1, .float .f32 v.2.2.2.2.2])).run Try.prog W = .ok (.bool false) W := by
  have h := eqEv 9998 v.1 v.2.1 v.2.2.1 v.2.2.2.1 v.2.2.2.2.1 v.2.2.2.2.2 W hx
  simp only [binOp, Op.equal, Op.maxDepth, Sem.run_bind]
  rw [show (10000 : Nat) = 9998 + 2 from rfl, h]
  rfl
end Go.Proofs.Ytndnfhhdflmfcaa

/-
The law FnOrdered returns true for all codes. No condition.
-/
namespace Go.Proofs.Ytndnfhhdflmfcaa.lawOrdered
open Go Go.RowKit Go.ChangeShapes Go.WideShapes Ieee

theorem ask_of {most : Int} {s : Sh} {bs : List Bd} {evs : List Ev} (h : ScOk most s bs evs) (hm : most ≤ 2000) : ScAsk s bs evs :=
  ⟨⟨h.sh.l0, Int.le_trans h.sh.l1 hm, h.sh.v0, h.sh.v1, h.sh.lim, h.sh.cw, h.sh.rw⟩, ⟨Nat.le_trans h.bods.1 (by decide), fun i hi => ⟨(h.bods.2 i hi).1, Nat.le_trans (h.bods.2 i hi).2 (by decide)⟩⟩, ⟨Nat.le_trans h.evs.1 (by decide), h.evs.2⟩⟩
set_option maxRecDepth 100000 in
set_option maxHeartbeats 400000 in
theorem order_any (s : Sh) (B : Option Addr) (cb : Nat) (bs : List Bd) (E : Option Addr) (ce lo hi : Nat) (evs : List Ev) (w : World) (h : ScIn w lo hi B cb bs E ce evs) (hok : ScAsk s bs evs) (hl : evs.length ≤ 19) :
    Calls Try.prog 18 #[.agg #[.int .i64 s.1, .int .i64 s.2.1, .float .f32 s.2.2.1, .float .f32 s.2.2.2, .slice B bs.length cb, .slice E evs.length ce]] w (OrdP evs w) := by
  have HB : Hid (Below w.heap.size w (w.alloc (.cells #[.int .i64 s.1, .int .i64 s.2.1, .float .f32 s.2.2.1, .float .f32 s.2.2.2, .slice B bs.length cb, .slice E evs.length ce] 44))) := (Below.refl w.heap.size w).alloc (Nat.le_refl _) _
  have HN := Lib.hid (heap_alloc_new w (.cells #[.int .i64 s.1, .int .i64 s.2.1, .float .f32 s.2.2.1, .float .f32 s.2.2.2, .slice B bs.length cb, .slice E evs.length ce] 44))
  have H := Lib.hid (h.below HB.out)
  have HK := Lib.hid hok
  clear h hok
  go_enter Try.func18, Try.ntmps18
  go_wp2_with fail
  generalize w.alloc (.cells #[.int .i64 s.1, .int .i64 s.2.1, .float .f32 s.2.2.1, .float .f32 s.2.2.2, .slice B bs.length cb, .slice E evs.length ce] 44) = W at *
  refine (isScore_any s B cb bs E ce lo hi evs W H.out HK.out).mono ?_
  rintro r W2 ⟨rfl, hb⟩
  have HB2 := Lib.hid (HB.out.trans (hb.mono HB.out.size))
  have HN2 := Lib.hid ((hb.block w.heap.size (lt_of_some HN.out)).trans HN.out)
  have H2 := Lib.hid (H.out.below hb)
  have HT : Hid (Timed evs) := HK.out.evs.timed (by have := HK.out.sh.l1; omega)
  clear hb H HN HB
  obtain ⟨c0, c1, c2, c3, c4, c5⟩ := sc_cells HN2.out
  go_wp2_with fail
  refine (ordered_any s B cb bs E ce lo hi evs W2 H2.out.evs H2.out.hh HT.out hl).mono ?_
  intro q W3 hp
  unfold OrdP at hp
  obtain ⟨A', c', rfl, ho, hb⟩ := hp
  have HP : Hid (OwnE W3 w.heap.size W3.heap.size A' c' (sortedE evs) ∧ Below w.heap.size w W3) := ⟨⟨owns_lower ho.1 HB2.out.size, ho.2⟩, HB2.out.trans (hb.mono HB2.out.size)⟩
  clear ho hb c0 c1 c2 c3 c4 c5
  go_wp2_with fail
  go_ret
  exact ⟨A', c', rfl, HP.out⟩

/-- What stays: the score's box, its events, the sorted ones. -/
structure OSt (w W : World) (q : Nat) (s : Sh) (B : Option Addr) (cb : Nat) (bs : List Bd) (E : Option Addr) (ce : Nat) (evs : List Ev) (A : Option Addr) (c : Nat) (L : List Ev) : Prop where
  box : W.heap[q]? = some (.cells #[.int .i64 s.1, .int .i64 s.2.1, .float .f32 s.2.2.1, .float .f32 s.2.2.2, .slice B bs.length cb, .slice E evs.length ce] 44 (0, 0))
  evs : ∃ lo hi, OwnE W lo hi E ce evs ∧ hi ≤ W.heap.size
  srt : ∃ lo hi, OwnE W lo hi A c L ∧ hi ≤ W.heap.size
  bel : Below w.heap.size w W
section
variable {w W W' : World} {q : Nat} {s : Sh} {B : Option Addr} {cb : Nat} {bs : List Bd} {E : Option Addr} {ce : Nat} {evs : List Ev} {A : Option Addr} {c : Nat} {L : List Ev}
theorem OSt.below (h : OSt w W q s B cb bs E ce evs A c L) (hb : Below W.heap.size W W') : OSt w W' q s B cb bs E ce evs A c L := by
  obtain ⟨l1, h1, a1, b1⟩ := h.evs
  obtain ⟨l2, h2, a2, b2⟩ := h.srt
  exact ⟨(hb.block _ (lt_of_some h.box)).trans h.box, ⟨l1, h1, a1.below hb b1, Nat.le_trans b1 hb.size⟩, ⟨l2, h2, a2.below hb b2, Nat.le_trans b2 hb.size⟩, h.bel.trans (hb.mono h.bel.size)⟩
theorem OSt.drewN (h : OSt w W q s B cb bs E ce evs A c L) (n : Nat) : OSt w (W.drewN n) q s B cb bs E ce evs A c L := h.below (below_drewN (Below.refl _ _) n)
theorem OSt.ev (h : OSt w W q s B cb bs E ce evs A c L) {i : Nat} (hi : i < evs.length) : ∃ b, E = some ⟨b, 0, none⟩ ∧ b < W.heap.size ∧ evs.length ≤ ce ∧ ce ≤ maxLen ∧ W.cell? ⟨b, i * 6, none⟩ = some (.int .i64 (eAt evs i).1) ∧ W.cell? ⟨b, i * 6 + 1, none⟩ = some (.int .i64 (eAt evs i).2.1) ∧ W.cell? ⟨b, i * 6 + 2, none⟩ = some (.int .i64 (eAt evs i).2.2.1) ∧
      W.cell? ⟨b, i * 6 + 3, none⟩ = some (.int .i64 (eAt evs i).2.2.2.1) ∧ W.cell? ⟨b, i * 6 + 4, none⟩ = some (.int .i64 (eAt evs i).2.2.2.2.1) ∧ W.cell? ⟨b, i * 6 + 5, none⟩ = some (.float .f32 (eAt evs i).2.2.2.2.2) := by
  obtain ⟨l1, h1, a1, b1⟩ := h.evs
  obtain ⟨b, e, _, _, p, p1, p2, hc⟩ := a1.cells (by omega)
  exact ⟨b, e, p, p1, p2, hc i hi⟩
theorem OSt.so (h : OSt w W q s B cb bs E ce evs A c L) {i : Nat} (hi : i < L.length) : ∃ b, A = some ⟨b, 0, none⟩ ∧ b < W.heap.size ∧ L.length ≤ c ∧ c ≤ maxLen ∧ W.cell? ⟨b, i * 6, none⟩ = some (.int .i64 (eAt L i).1) ∧ W.cell? ⟨b, i * 6 + 1, none⟩ = some (.int .i64 (eAt L i).2.1) ∧ W.cell? ⟨b, i * 6 + 2, none⟩ = some (.int .i64 (eAt L i).2.2.1) ∧
      W.cell? ⟨b, i * 6 + 3, none⟩ = some (.int .i64 (eAt L i).2.2.2.1) ∧ W.cell? ⟨b, i * 6 + 4, none⟩ = some (.int .i64 (eAt L i).2.2.2.2.1) ∧ W.cell? ⟨b, i * 6 + 5, none⟩ = some (.float .f32 (eAt L i).2.2.2.2.2) := by
  obtain ⟨l1, h1, a1, b1⟩ := h.srt
  obtain ⟨b, e, _, _, p, p1, p2, hc⟩ := a1.cells (by omega)
  exact ⟨b, e, p, p1, p2, hc i hi⟩
end

set_option maxRecDepth 100000 in
set_option maxHeartbeats 3200000 in
theorem walk (A : Option Addr) (cp : Nat) (bs : List Int) (w : World) (mx : bs.length ≤ maxLen) (hrd : Rd w A (bs.map (.int .u8))) (hwf : ∀ i, i < bs.length → 0 ≤ bs.getD i 0 ∧ bs.getD i 0 ≤ 255) :
    Calls Try.prog 4 #[.slice A bs.length cp] w fun e w' => e = .returned (.bool true) ∧ Below w.heap.size w w' := by
  unfold maxLen at mx
  by_cases hm : 1048576 < bs.length
  · go_enter Try.func4, Try.ntmps4
    go_wp2
    go_ret
    exact ⟨rfl, Below.refl _ _⟩
  go_enter Try.func4, Try.ntmps4
  go_wp2_with fail
  refine (makeScore_any A cp bs 8 w hrd (by omega) (by omega)).mono ?_
  intro r W1 hp
  obtain ⟨⟨s, B, cb, bds, E, ce, evs, rfl, hin, hok⟩, hb1⟩ := hp
  have hb2 : Below W1.heap.size W1 (W1.alloc (.cells #[.int .i64 s.1, .int .i64 s.2.1, .float .f32 s.2.2.1, .float .f32 s.2.2.2, .slice B bds.length cb, .slice E evs.length ce] 44)) := (Below.refl W1.heap.size W1).alloc (Nat.le_refl _) _
  have HN := Lib.hid (heap_alloc_new W1 (.cells #[.int .i64 s.1, .int .i64 s.2.1, .float .f32 s.2.2.1, .float .f32 s.2.2.2, .slice B bds.length cb, .slice E evs.length ce] 44))
  have H := Lib.hid (hin.below hb2)
  have HB := Lib.hid (hb1.trans (hb2.mono hb1.size))
  have HK := Lib.hid hok
  have hl1 := hok.sh.l0
  have hl2 := hok.sh.l1
  have hel := hok.evs.1
  clear hin hb1 hb2 hok hrd hwf
  unfold scV
  go_wp2_with fail
  generalize W1.alloc (.cells #[.int .i64 s.1, .int .i64 s.2.1, .float .f32 s.2.2.1, .float .f32 s.2.2.2, .slice B bds.length cb, .slice E evs.length ce] 44) = W2 at *
  generalize hW : W1.heap.size = q at *
  clear hW
  refine (order_any s B cb bds E ce _ _ evs W2 H.out (ask_of HK.out (by decide)) (by omega)).mono ?_
  intro r W3 hp
  unfold OrdP at hp
  obtain ⟨A', c', rfl, ho, hb⟩ := hp
  have S0 : Hid (OSt w W3 q s B cb bds E ce evs A' c' (sortedE evs)) := ⟨(hb.block q (lt_of_some HN.out)).trans HN.out, ⟨_, _, (H.out.below hb).evs, (H.out.below hb).hh⟩, ⟨_, _, ho, Nat.le_refl _⟩, HB.out.trans (hb.mono HB.out.size)⟩
  clear HN H HB ho hb
  have hsl := sortedE_len evs
  have HO := Lib.hid (sortedE_inOrder evs)
  have HT := Lib.hid (fun x => ofTime_sorted x evs)
  generalize sortedE evs = L at *
  have HL := Lib.hid hsl
  rw [hsl]
  clear hsl
  obtain ⟨c0, c1, c2, c3, c4, c5⟩ := sc_cells S0.out.box
  go_wp2_with fail
  clear c0 c1 c2 c3 c4 c5
  go_loopw [5] (fun i wr => ∃ k : Nat, i = .int .i64 (k : Int) ∧ 1 ≤ k ∧ Hid (OSt w wr q s B cb bds E ce evs A' c' L)) (fun i _ => evs.length - (intOf i).toNat)
  case atStart => exact ⟨1, rfl, by omega, S0⟩
  case round =>
    clear S0
    obtain ⟨k, rfl, hk1, hS⟩ := hrel
    by_cases hlt : k < evs.length
    · obtain ⟨b, rfl, hb1, hb2, hb3, e0, _⟩ := hS.out.so (i := k) (by have := HL.out; omega)
      obtain ⟨b', hb', _, _, _, d0, _⟩ := hS.out.so (i := k - 1) (by have := HL.out; omega)
      have eb : b = b' := by injection hb' with x; injection x
      subst eb
      have hle := HO.out (k - 1) (by omega)
      rw [show k - 1 + 1 = k by omega] at hle
      generalize (eAt L (k - 1)).1 = x1 at *
      generalize (eAt L k).1 = x2 at *
      have j1 : (k : Int) < (evs.length : Int) := by omega
      have j2 : (k : Int) - 1 < (evs.length : Int) := by omega
      have j3 : 0 ≤ (k : Int) - 1 := by omega
      have j4 : ((k : Int) - 1).toNat = k - 1 := by omega
      have j5 : decide (x2 < x1) = false := by simp; omega
      clear hb'
      go_wp2_with fail
      go_quiet (fail)
      go_wp2_with fail
      have S1 := Lib.hid (hS.out.drewN nq)
      clear hS d0 e0
      go_roundw
      case rel => exact ⟨k + 1, by go_num, by omega, S1⟩
      case measure => simp [intOf]; omega
    · have S2 := Lib.hid hS.out
      go_wp2_with fail
      clear hS hlt hk1
      go_loopw [6] (fun i wr => ∃ x : Int, i = .int .i64 x ∧ 0 ≤ x ∧ Hid (OSt w wr q s B cb bds E ce evs A' c' L)) (fun i _ => (s.1 + 1 - intOf i).toNat)
      case atStart => exact ⟨0, rfl, by omega, S2⟩
      case round =>
        clear S2
        obtain ⟨x, rfl, hx0, hS⟩ := hrel
        obtain ⟨c0, c1, c2, c3, c4, c5⟩ := sc_cells hS.out.box
        by_cases hlt : x ≤ s.1
        · go_wp2_with fail
          have S1 := Lib.hid hS.out
          clear hS c0 c1 c2 c3 c4 c5
          go_loopw [7, 50] (fun kk i wr => ∃ (k m : Nat), kk = .int .i64 (k : Int) ∧ i = .int .i64 (m : Int) ∧ k ≤ evs.length ∧ m ≤ evs.length ∧ Hid (ofTime x (evs.drop m) = ofTime x (L.drop k)) ∧ Hid (OSt w wr q s B cb bds E ce evs A' c' L)) (fun _ i _ => evs.length - (intOf i).toNat)
          case atStart => exact ⟨0, 0, rfl, rfl, by omega, by omega, (HT.out x).symm, S1⟩
          case round =>
            clear S1
            obtain ⟨k, m, rfl, rfl, hk, hm', hR, hS⟩ := hrel
            by_cases hlm : m < evs.length
            · obtain ⟨b, rfl, hb1, hb2, hb3, e0, e1, e2, e3, e4, e5⟩ := hS.out.ev hlm
              have hof := ofTime_drop (x := x) hlm
              have hev := HK.out.evs.at_ hlm
              have hff := hev.f
              obtain ⟨v, hv⟩ : ∃ v, eAt evs m = v := ⟨_, rfl⟩
              rw [hv] at hof hff e0 e1 e2 e3 e4 e5
              have HOF := Lib.hid hof
              have HFF := Lib.hid hff
              clear hof hev hff hv
              have S2 : Hid (OSt w (wr.alloc (.cells (evC v) 48)) q s B cb bds (some ⟨b, 0, none⟩) ce evs A' c' L) := hS.out.below ((Below.refl wr.heap.size wr).alloc (Nat.le_refl _) _)
              have N2 := Lib.hid (heap_alloc_new wr (.cells (evC v) 48))
              have Z2 : Hid ((wr.alloc (.cells (evC v) 48)).heap.size = wr.heap.size + 1) := by show (wr.alloc _).heap.size = _; simp
              clear hS
              by_cases hx : v.1 = x
              · subst hx
                have HR : Hid (ofTime v.1 (L.drop k) = v :: ofTime v.1 (evs.drop (m + 1))) := Lib.hid (by rw [← hR.out, HOF.out, if_pos rfl])
                clear hR HOF
                unfold evC at S2 N2 Z2
                go_wp2_with fail
                generalize wr.alloc (.cells #[.int .i64 v.1, .int .i64 v.2.1, .int .i64 v.2.2.1, .int .i64 v.2.2.2.1, .int .i64 v.2.2.2.2.1, .float .f32 v.2.2.2.2.2] 48) = W at *
                generalize wr.heap.size = G at *
                obtain ⟨n0, n1, n2, n3, n4, n5⟩ := sc_cells N2.out
                clear e0 e1 e2 e3 e4 e5 Z2
                go_loop [7] (fun kk => ∃ k2 : Nat, kk = .int .i64 (k2 : Int) ∧ k2 ≤ evs.length ∧ Hid (ofTime v.1 (L.drop k2) = v :: ofTime v.1 (evs.drop (m + 1)))) (fun kk => evs.length - (intOf kk).toNat)
                case atStart => exact ⟨k, rfl, hk, HR⟩
                case round =>
                  clear HR
                  obtain ⟨k2, rfl, hk2, hR⟩ := hrel
                  by_cases hkn : k2 < evs.length
                  · obtain ⟨g, rfl, _, hg2, hg3, d0, d1, d2, d3, d4, d5⟩ := S2.out.so (i := k2) (by have := HL.out; omega)
                    have hd := ofTime_drop (x := v.1) (L := L) (k := k2) (by have := HL.out; omega)
                    obtain ⟨u, hu⟩ : ∃ u, eAt L k2 = u := ⟨_, rfl⟩
                    rw [hu] at hd d0 d1 d2 d3 d4 d5
                    clear hu
                    by_cases hux : u.1 = v.1
                    · rw [if_pos hux, hR.out] at hd
                      injection hd with hd1 hd2
                      subst hd1
                      have HD := Lib.hid hd2
                      clear hd2 hux
                      have f1 : feq .f32 v.2.2.2.2.2 v.2.2.2.2.2 = true := (feq_iff HFF.out HFF.out).2 rfl
                      have hne := fun W => neqEv v W f1
                      have kn : ((k2 : Int) == (evs.length : Int)) = false := by simp; omega
                      have kn2 : (k2 : Int) < (evs.length : Int) := by omega
                      go_wp2_with fail
                      go_quiet (fail)
                      go_wp2_with fail
                      have S3 := Lib.hid (S2.out.drewN nq)
                      have HD2 := Lib.hid HD.out.symm
                      go_roundw
                      case rel => exact ⟨k2 + 1, m + 1, by go_num, by go_num, by omega, by omega, Lib.hid HD2.out.symm, S3⟩
                      case measure => simp [intOf]; omega
                    · rw [if_neg hux, hR.out] at hd
                      have HD := Lib.hid hd.symm
                      have hu1 : (u.1 != v.1) = true := by simpa using hux
                      have hu2 : (u.1 == v.1) = false := by simpa using hux
                      clear hd hR hux
                      go_wp2_with fail
                      go_round
                      case rel => exact ⟨k2 + 1, by go_num, by omega, HD⟩
                      case measure => simp [intOf]; omega
                  · exfalso
                    have hd := hR.out
                    rw [ofTime_end (by have := HL.out; omega)] at hd
                    cases hd
              · have HR : Hid (ofTime x (evs.drop (m + 1)) = ofTime x (L.drop k)) := Lib.hid (by rw [← hR.out, HOF.out, if_neg hx])
                have hx1 : (v.1 != x) = true := by simpa using hx
                have hx2 : (v.1 == x) = false := by simpa using hx
                clear hR HOF hx
                unfold evC at S2
                go_wp2_with fail
                go_roundw
                case rel => exact ⟨k, m + 1, rfl, by go_num, hk, by omega, HR, S2⟩
                case measure => simp [intOf]; omega
            · go_wp2_with fail
              go_roundw
              case rel => exact ⟨x + 1, by go_num, by omega, hS⟩
              case measure => simp [intOf]; omega
        · go_wp2_with fail
          go_ret
          exact ⟨rfl, hS.out.bel⟩

set_option maxRecDepth 100000 in
theorem lifted (os : Os) (started : os.Started) (H : Type) (enc : TypeId × Value → H) :
    ReturnsInHanded {} Try.checked os 4 .any (Rows.fnOrderedSpec.pre6 enc Try.prog Try.f4 Rows.fnOrderedRow.domain false) (Rows.fnOrderedSpec.post enc Try.prog Try.f4 false true false false) := by
  refine returnsInHanded_of_change (C := Try.checked) own started (by kernel_rfl) Try.func4
    (ChangeSpec.witness6 (enc := enc) (C := Try.checked) false ⟨#[], #[.slice none 0 0], []⟩ 8 (by kernel_rfl) (by kernel_rfl) (by kernel_rfl) (by kernel_rfl)) ?_
  intro W base args ds gs before hval0 hW hcnd _
  have hval : ∀ (j : Nat) t v, Try.f4.params[j]? = some t → args[j]? = some v → Value.okWide Try.prog W .any base t v := hval0
  have hW' := hW
  obtain ⟨p, q, hA0, hV, rfl, hfz, hnd⟩ := hW
  have hA : DataW.TrodAll enc Try.prog W 0 (fun _ => true) true Try.f4.params.toList args.toList ds p := hA0
  rw [Try.params4] at hA hval
  obtain ⟨v0, vs0, d0, ds0, p0, q0, hargs, rfl, rfl, h0, r0⟩ := trodAll_cons hA
  obtain ⟨rfl, rfl, rfl⟩ := trodAll_nil r0
  obtain rfl : args = #[v0] := by cases args; simp_all
  obtain ⟨rfl, rfl⟩ := trodVars_none hV
  obtain ⟨a0, len0, cap0, rfl⟩ := okWide_slice Try.underlying22 (hval 0 22 v0 rfl rfl)
  have lt0 : ∀ x ∈ p0, x.block < W.heap.size := by obtain ⟨m, hm⟩ := h0; exact DataW.trod_lt m _ _ _ hm
  obtain ⟨bs0, rfl, mx0, rd0, wf0⟩ := open_bytes rfl Try.underlying22 Try.underlying5 (by kernel_rfl) h0
  clear hA0 hval0
  refine (walk a0 cap0 bs0 W mx0 rd0 wf0).mono fun e W' ⟨he, bel⟩ => ?_
  subst he
  exact ⟨_, rfl, _, _, _, [], _, [], hW', trodAll_mk1 (shut_bool Try.underlying4 _), (trodAll_cons_mk (Below.trod laidOut (by kernel_rfl) (of_decide_eq_true (by kernel_rfl)) h0 bel lt0) trodAll_mk0), rfl, bel.frame _, fun h => by cases h⟩

theorem proved : Rows.FnOrderedSaid :=
  OpenClaim.holds_of_wide 4 Try.f4 rfl rfl rfl rfl rfl rfl rfl ⟨rfl, rfl, rfl, rfl, rfl⟩ rfl rfl rfl rfl rfl (by kernel_rfl) Try.func4 (by kernel_rfl)
    (of_decide_eq_true (by kernel_rfl)) (by unfold Func.isWrapper; first | (rw [if_pos (by decide +kernel)]; kernel_rfl) | (rw [if_neg (by decide +kernel)]; exact ⟨rfl, rfl⟩))
    (fun os started H enc _ => lifted os started H enc)
#print axioms proved
end Go.Proofs.Ytndnfhhdflmfcaa.lawOrdered
