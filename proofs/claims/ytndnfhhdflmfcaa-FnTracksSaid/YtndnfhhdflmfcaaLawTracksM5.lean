/-
Part 5 of 7 of the proof of the law FnTracks: it returns true for all codes. No condition.
-/
import Derived.Test.YtndnfhhdflmfcaaLawTracksM4
import Derived.BigRegion
import Derived.Deep.Cut
import Derived.Deep.CutBlock
import Derived.Deep.DeepCutAuto

/-
impl.player.remove: the voices for which a function does not hold.
(Printed by wip/tools/grem.py out of rem_base.txt.)
-/
namespace Go.Proofs.Ytndnfhhdflmfcaa
open Go Go.RowKit Ieee

/-- The elements that are kept, the first one being number i. -/
def keepF (f : Nat → Bool) : Nat → List Vm → List Vm
  | _, [] => []
  | i, m :: r => if f i then keepF f (i + 1) r else m :: keepF f (i + 1) r
theorem keepF_snoc (f : Nat → Bool) (L : List Vm) (m : Vm) (i : Nat) : keepF f i (L ++ [m]) = keepF f i L ++ (if f (i + L.length) then [] else [m]) := by
  induction L generalizing i with
  | nil => simp [keepF]
  | cons x L ih =>
    have e : i + (x :: L).length = i + 1 + L.length := by simp; omega
    rw [e]
    simp only [List.cons_append, keepF]
    rw [ih]
    by_cases h : f i = true
    · rw [if_pos h, if_pos h]
    · rw [if_neg h, if_neg h, List.cons_append]
theorem keepF_len (f : Nat → Bool) (L : List Vm) (i : Nat) : (keepF f i L).length ≤ L.length := by
  induction L generalizing i with
  | nil => exact Nat.le_refl _
  | cons x L ih =>
    have := ih (i + 1)
    simp only [keepF]
    split
    · simp; omega
    · simp; omega
theorem keepF_sub (f : Nat → Bool) (L : List Vm) (i : Nat) : (keepF f i L).Sublist L := by
  induction L generalizing i with
  | nil => exact List.Sublist.refl _
  | cons x L ih =>
    simp only [keepF]
    split
    · exact (ih (i + 1)).cons x
    · exact (ih (i + 1)).cons_cons x
theorem voC_one (m : Vm) : ∀ u ∈ voC m, u.oneCell' = true := fun u hu => by
  simp [voC] at hu
  rcases hu with rfl | rfl | rfl | rfl <;> rfl
theorem owns_of_ty {w w' : World} {lo n s : Nat} {e : TypeId} {v : Value} {xs : List Value} {r : Option Nat} (h : w.ownsRow lo e s v n xs) (hg : w.grownBy w' r) (hr : ∀ k, r = some k → ∃ cs t f, w.heap[k]? = some (.cells cs t f) ∧ e ≠ t) : w'.ownsRow lo e s v n xs :=
  owns_stay h fun k q => hg.block k (h.lt k q).2 (fun e2 => by
    obtain ⟨cs, hc⟩ := owns_ty h q
    obtain ⟨cs', t, f, h', hne⟩ := hr k e2.symm
    exact ty_ne hc h' hne rfl)

/-- Two rows to which one element each is appended, in whatever order: the copy of the voice (g7), the player (P), the tracks' row read (tb, at toff). -/
structure R2 (V W : World) (B g7 P tb toff : Nat) (vT : Value) (tn : Int) (KL : List Vm) (m : Vm) (nv nt : Bool) (v t : Value) (a b : Option Nat) : Prop where
  bel : Below B V W
  sz : B ≤ V.heap.size
  cp : W.heap[g7]? = some (.cells (voC m).toArray 93 (0, 0))
  pt : W.cell? ⟨P, 10, none⟩ = some vT
  tc : W.cell? ⟨tb, toff, none⟩ = some (.int .i64 tn)
  PB : P < B
  tB : tb < B
  vo : W.ownsRow B 93 4 v (KL.length + nv.toNat) (if nv then flatV KL ++ voC m else flatV KL)
  tro : W.ownsRow B 3 1 t (KL.length + nt.toNat) (if nt then trs KL ++ [.int .i64 m.v.tr] else trs KL)
  v7 : v.ownBlock ≠ some g7
  va : ∀ g, a = some g → W.heap[g]? = some (.cells (voC m).toArray 93 (0, 0)) ∧ v.ownBlock ≠ some g
  tb' : ∀ g, b = some g → W.heap[g]? = some (.cells #[.int .i64 m.v.tr] 3 (0, 0)) ∧ t.ownBlock ≠ some g
section
variable {V W W' : World} {B g7 P tb toff : Nat} {vT : Value} {tn : Int} {KL : List Vm} {m : Vm} {nv nt : Bool} {v t : Value} {a b : Option Nat}
theorem R2.size (h : R2 V W B g7 P tb toff vT tn KL m nv nt v t a b) : B ≤ W.heap.size := Nat.le_trans h.sz h.bel.size
/-- What the loads need. -/
theorem R2.held (h : R2 V W B g7 P tb toff vT tn KL m nv nt v t a b) : W.cell? ⟨g7, 0, none⟩ = some (.int .i64 m.v.body) ∧ W.cell? ⟨g7, 1, none⟩ = some (.slice m.M m.v.ms.length m.mc) ∧ W.cell? ⟨g7, 2, none⟩ = some (.slice (some ⟨m.S, 0, none⟩) m.v.ms.length m.v.ms.length) ∧ W.cell? ⟨g7, 3, none⟩ = some (.slice m.I m.v.xs.length m.ic) ∧
    W.cell? ⟨P, 10, none⟩ = some vT ∧ W.cell? ⟨tb, toff, none⟩ = some (.int .i64 tn) :=
  ⟨cell_of_row W g7 0 _ _ (0, 0) h.cp, cell_of_row W g7 1 _ _ (0, 0) h.cp, cell_of_row W g7 2 _ _ (0, 0) h.cp, cell_of_row W g7 3 _ _ (0, 0) h.cp, h.pt, h.tc⟩
theorem R2.alloc (h : R2 V W B g7 P tb toff vT tn KL m nv nt v t a b) (o : Obj) : R2 V (W.alloc o) B g7 P tb toff vT tn KL m nv nt v t a b := by
  have k : ∀ i, i < W.heap.size → (W.alloc o).heap[i]? = W.heap[i]? := fun i hi => Below.heap_alloc W o i hi
  have hz := h.size
  have c : ∀ i j, i < B → (W.alloc o).cell? ⟨i, j, none⟩ = W.cell? ⟨i, j, none⟩ := fun i j hi => World.cell?_of_block (k i (by omega))
  exact ⟨h.bel.alloc hz o, h.sz, (k _ (lt_of_some h.cp)).trans h.cp, (c _ _ h.PB).trans h.pt, (c _ _ h.tB).trans h.tc, h.PB, h.tB, h.vo.alloc o, h.tro.alloc o, h.v7, fun g e => ⟨(k _ (lt_of_some (h.va g e).1)).trans (h.va g e).1, (h.va g e).2⟩, fun g e => ⟨(k _ (lt_of_some (h.tb' g e).1)).trans (h.tb' g e).1, (h.tb' g e).2⟩⟩
theorem R2.op2 {g0 : Nat} (h : R2 V W B g7 P tb toff vT tn KL m false nt v t none b) (hg0 : W.heap.size = g0) : R2 V (W.alloc (.cells #[.int .i64 m.v.body, .slice m.M m.v.ms.length m.mc, .slice (some ⟨m.S, 0, none⟩) m.v.ms.length m.v.ms.length, .slice m.I m.v.xs.length m.ic] 93)) B g7 P tb toff vT tn KL m false nt v t (some g0) b := by
  subst hg0
  have q := h.alloc (.cells #[.int .i64 m.v.body, .slice m.M m.v.ms.length m.mc, .slice (some ⟨m.S, 0, none⟩) m.v.ms.length m.v.ms.length, .slice m.I m.v.xs.length m.ic] 93)
  exact ⟨q.bel, q.sz, q.cp, q.pt, q.tc, q.PB, q.tB, q.vo, q.tro, q.v7, fun g e => by
    injection e with e
    subst e
    exact ⟨heap_alloc_new W _, fun e2 => by have := (h.vo.lt _ e2).2; omega⟩, q.tb'⟩
theorem R2.op12 {g0 : Nat} (h : R2 V W B g7 P tb toff vT tn KL m nv false v t a none) (hg0 : W.heap.size = g0) : R2 V (W.alloc (.cells #[.int .i64 m.v.tr] 3)) B g7 P tb toff vT tn KL m nv false v t a (some g0) := by
  subst hg0
  have q := h.alloc (.cells #[.int .i64 m.v.tr] 3)
  exact ⟨q.bel, q.sz, q.cp, q.pt, q.tc, q.PB, q.tB, q.vo, q.tro, q.v7, q.va, fun g e => by
    injection e with e
    subst e
    exact ⟨heap_alloc_new W _, fun e2 => by have := (h.tro.lt _ e2).2; omega⟩⟩
theorem R2.vOwn {g : Nat} (h : R2 V W B g7 P tb toff vT tn KL m false nt v t (some g) b) : W.ownsRow B 93 4 v KL.length (flatV KL) := h.vo
theorem R2.tOwn {g : Nat} (h : R2 V W B g7 P tb toff vT tn KL m nv false v t a (some g)) : W.ownsRow B 3 1 t KL.length (trs KL) := h.tro
theorem R2.vNews {g : Nat} (h : R2 V W B g7 P tb toff vT tn KL m false nt v t (some g) b) : ∀ j u, (voC m)[j]? = some u → W.cell? ((⟨g, 0, none⟩ : Addr).add j) = some u :=
  World.news_of_block (cs := (voC m).toArray) (t := 93) (fr := (0, 0)) (h.va g rfl).1
theorem R2.tNews {g : Nat} (h : R2 V W B g7 P tb toff vT tn KL m nv false v t a (some g)) : ∀ j u, [Value.int .i64 m.v.tr][j]? = some u → W.cell? ((⟨g, 0, none⟩ : Addr).add j) = some u :=
  World.news_of_block (cs := #[.int .i64 m.v.tr]) (t := 3) (fr := (0, 0)) (h.tb' g rfl).1
theorem R2.op3 {g g' cap : Nat} (h : R2 V W B g7 P tb toff vT tn KL m false nt v t (some g) b) (hown : W'.ownsRow B 93 4 (.slice (some ⟨g', 0, none⟩) (KL.length + 1) cap) (KL.length + 1) (flatV KL ++ voC m)) (hg : W.grownBy W' v.ownBlock) (hat : v.ownBlock = some g' ∨ g' = W.heap.size) :
    R2 V W' B g7 P tb toff vT tn KL m true nt (.slice (some ⟨g', 0, none⟩) (KL.length + 1) cap) t none b := by
  have low : ∀ i, i < B → W'.heap[i]? = W.heap[i]? := fun i hi => hg.block i (by have := h.size; omega) (fun e => by have := (h.vo.lt i e.symm).1; omega)
  refine ⟨h.bel.trans ⟨hg.os, hg.tape, hg.output, hg.size, low⟩, h.sz, (hg.block _ (lt_of_some h.cp) (fun e => h.v7 e.symm)).trans h.cp, (World.cell?_of_block (low _ h.PB)).trans h.pt, (World.cell?_of_block (low _ h.tB)).trans h.tc, h.PB, h.tB, hown, owns_of_ty h.tro hg (fun k e => ?_), fun e => ?_, fun g e => (by cases e), fun k e => ?_⟩
  · obtain ⟨cs, hc⟩ := owns_ty h.vo e
    exact ⟨cs, _, _, hc, by decide⟩
  · have e2 : g' = g7 := by injection e
    rcases hat with hat | hat
    · exact h.v7 (by rw [hat, e2])
    · have := lt_of_some h.cp; omega
  · obtain ⟨h1, h2⟩ := h.tb' k e
    exact ⟨(hg.block _ (lt_of_some h1) (fun q => by
      obtain ⟨cs, hc⟩ := owns_ty h.vo q.symm
      exact ty_ne h1 hc (by decide) rfl)).trans h1, h2⟩
theorem R2.op13 {g g' cap : Nat} (h : R2 V W B g7 P tb toff vT tn KL m nv false v t a (some g)) (hown : W'.ownsRow B 3 1 (.slice (some ⟨g', 0, none⟩) (KL.length + 1) cap) (KL.length + 1) (trs KL ++ [.int .i64 m.v.tr])) (hg : W.grownBy W' t.ownBlock) (hat : t.ownBlock = some g' ∨ g' = W.heap.size) :
    R2 V W' B g7 P tb toff vT tn KL m nv true v (.slice (some ⟨g', 0, none⟩) (KL.length + 1) cap) a none := by
  have low : ∀ i, i < B → W'.heap[i]? = W.heap[i]? := fun i hi => hg.block i (by have := h.size; omega) (fun e => by have := (h.tro.lt i e.symm).1; omega)
  have far : ∀ (k : Nat) (cs : Array Value) (f : Nat × Nat), W.heap[k]? = some (.cells cs 93 f) → W'.heap[k]? = W.heap[k]? := fun k cs f hk => hg.block _ (lt_of_some hk) (fun q => by
      obtain ⟨cs', hc⟩ := owns_ty h.tro q.symm
      exact ty_ne hk hc (by decide) rfl)
  refine ⟨h.bel.trans ⟨hg.os, hg.tape, hg.output, hg.size, low⟩, h.sz, (far _ _ _ h.cp).trans h.cp, (World.cell?_of_block (low _ h.PB)).trans h.pt, (World.cell?_of_block (low _ h.tB)).trans h.tc, h.PB, h.tB, owns_of_ty h.vo hg (fun k e => ?_), hown, h.v7, fun k e => ?_, fun g e => (by cases e)⟩
  · obtain ⟨cs, hc⟩ := owns_ty h.tro e
    exact ⟨cs, _, _, hc, by decide⟩
  · obtain ⟨h1, h2⟩ := h.va k e
    exact ⟨(far _ _ _ h1).trans h1, h2⟩
end
theorem R2.start {V : World} {B g7 P tb toff : Nat} {vT : Value} {KL : List Vm} {m : Vm} {v t : Value} (h1 : B ≤ V.heap.size) (h2 : V.heap[g7]? = some (.cells (voC m).toArray 93 (0, 0))) (h3 : V.cell? ⟨P, 10, none⟩ = some vT) (h4 : V.cell? ⟨tb, toff, none⟩ = some (.int .i64 m.v.tr)) (h5 : P < B) (h6 : tb < B)
    (h7 : V.ownsRow B 93 4 v KL.length (flatV KL)) (h8 : V.ownsRow B 3 1 t KL.length (trs KL)) (h9 : v.ownBlock ≠ some g7) : R2 V V B g7 P tb toff vT m.v.tr KL m false false v t none none :=
  ⟨Below.refl _ _, h1, h2, h3, h4, h5, h6, h7, h8, h9, fun g e => (by cases e), fun g e => (by cases e)⟩
theorem R2.fin {V W : World} {B g7 P tb toff : Nat} {vT : Value} {tn : Int} {KL L : List Vm} {m : Vm} {v t : Value} {a b : Option Nat} (h : R2 V W B g7 P tb toff vT tn KL m true true v t a b) (hL : L = KL ++ [m]) :
    W.ownsRow B 93 4 v L.length (flatV L) ∧ W.ownsRow B 3 1 t L.length (trs L) := by
  have e : L.length = KL.length + 1 := by rw [hL]; simp
  rw [e, hL, ← flatV_snoc, ← trs_snoc]
  exact ⟨h.vo, h.tro⟩
theorem trs_at {L : List Vm} {i : Nat} {m : Vm} (h : L[i]? = some m) : (trs L)[i]? = some (.int .i64 m.v.tr) := by simp [trs, h]
theorem trs_len (L : List Vm) : (trs L).length = L.length * 1 := by simp [trs]
set_option maxRecDepth 100000 in
set_option maxHeartbeats 6400000 in
theorem remove1_any (f : Nat → Bool) {w0 : World} {base P done now : Nat} {c : Pc} {vV vT : Value} {ms : List Vm} {begun : Int} (w : World) (h : PlIn w0 w base P c done now vV vT ms begun) (hn : ms.length ≤ 16)
    (hc : ∀ i : Nat, i < ms.length → ∀ W, Below w.heap.size w W → Calls Try.prog 104 #[.int .i64 i] W fun e w' => e = .returned (.bool (f i)) ∧ ∃ n, W.drewN n = w') :
    Calls Try.prog 103 #[.pointer (some ⟨P, 0, none⟩), .func (.func 104) #[] #[]] w fun r w' => r = .returned (.tuple #[]) ∧ ∃ vV' vT', PlIn w0 w' base P c done now vV' vT' (keepF f 0 ms) begun ∧ w.grownBy w' (some P) := by
  have HC := Lib.hid hc
  have H := Lib.hid h
  clear hc
  obtain ⟨VA, vc, rfl⟩ := owns_form h.vrow
  obtain ⟨TA, tc, rfl⟩ := owns_form h.trow
  have hPl := lt_of_some h.box
  obtain ⟨W0, hW0⟩ : ∃ W0, (w.alloc (.cells #[] 93)).alloc (.cells #[] 3) = W0 := ⟨_, rfl⟩
  have HB0 : Hid (Below w.heap.size w W0) := by rw [← hW0]; exact ((Below.refl w.heap.size w).alloc (Nat.le_refl _) _).alloc (by simp) _
  have O1 : Hid (W0.ownsRow w.heap.size 93 4 (.slice (some ⟨w.heap.size, 0, none⟩) 0 0) 0 []) := by
    rw [← hW0]
    have := World.ownsRow.alloc (w := w.alloc (.cells #[] 93)) (base := w.heap.size) (e := 93) (size := 4) (v := .slice (some ⟨w.heap.size, 0, none⟩) 0 0) (n := 0) (xs := []) ⟨rfl, .inr ⟨w.heap.size, 0, #[], rfl, Nat.le_refl _, heap_alloc_new w _, Nat.le_refl _, by simp, rfl, rfl⟩⟩ (.cells #[] 3)
    exact this
  have O2 : Hid (W0.ownsRow w.heap.size 3 1 (.slice (some ⟨w.heap.size + 1, 0, none⟩) 0 0) 0 []) := by
    rw [← hW0]
    have hz : (w.alloc (.cells #[] 93)).heap.size = w.heap.size + 1 := by simp
    have hn := heap_alloc_new (w.alloc (.cells #[] 93)) (.cells #[] 3)
    rw [hz] at hn
    exact ⟨rfl, .inr ⟨w.heap.size + 1, 0, #[], rfl, by omega, hn, Nat.le_refl _, by simp, rfl, rfl⟩⟩
  have c9 := (pl_cells (h.new HB0.out).box).2.2.2.2.2.2.2.2.2.1
  clear h
  go_enter Try.func103, Try.ntmps103
  go_wp2_with fail
  clear hW0 c9
  go_loopw [4, 5, 15] (fun v t i wr => ∃ k : Nat, i = .int .i64 (k : Int) ∧ k ≤ ms.length ∧ Hid (wr.ownsRow w.heap.size 93 4 v (keepF f 0 (ms.take k)).length (flatV (keepF f 0 (ms.take k)))) ∧ Hid (wr.ownsRow w.heap.size 3 1 t (keepF f 0 (ms.take k)).length (trs (keepF f 0 (ms.take k)))) ∧ Hid (Below w.heap.size w wr)) (fun _ _ i _ => ms.length - (intOf i).toNat)
  case atStart => exact ⟨0, rfl, by omega, O1, O2, HB0⟩
  case round =>
    clear O1 O2 HB0
    obtain ⟨k, rfl, hk, hv, ht, hb⟩ := hrel
    by_cases hlt : k < ms.length
    · have H1 := Lib.hid (H.out.new hb.out)
      obtain ⟨m, hm⟩ : ∃ m, ms[k]? = some m := ⟨_, List.getElem?_eq_getElem hlt⟩
      obtain ⟨b, _, hVA, _, hbl, hv1, hv2, _, hcell⟩ := owns_cells H1.out.vrow (by omega) (flatV_len ms)
      injection hVA with q1 _ q2
      subst q1 q2
      obtain ⟨x0, x1, x2, x3⟩ := flatV_at hm
      have e0 := hcell _ _ x0
      have e1 := hcell _ _ x1
      have e2 := hcell _ _ x2
      have e3 := hcell _ _ x3
      obtain ⟨tb, _, hTA, _, htl, ht1, ht2, _, htc⟩ := owns_cells H1.out.trow (by omega) (trs_len ms)
      injection hTA with q1 _ q2
      subst q1 q2
      have e4 := htc _ _ (trs_at hm)
      have htl0 : tb < w.heap.size := (H.out.trow.lt tb rfl).2
      have HK : Hid (ms.take (k + 1) = ms.take k ++ [m]) := Lib.hid (by rw [List.take_add_one, hm]; rfl)
      have HKL : Hid ((ms.take k).length = k) := Lib.hid (by rw [List.length_take]; omega)
      have hc10 := (pl_cells H1.out.box).2.2.2.2.2.2.2.2.2.2.1
      have HTC := Lib.hid e4
      have H10 := Lib.hid hc10
      have hkl : (keepF f 0 (ms.take k)).length ≤ 16 := by have := keepF_len f (ms.take k) 0; have := List.length_take_le k ms; omega
      have HLEN := Lib.hid hkl
      obtain ⟨KL, hKL⟩ : ∃ KL, keepF f 0 (ms.take k) = KL := ⟨_, rfl⟩
      have HKe : Hid (keepF f 0 (ms.take (k + 1)) = KL ++ (if f k then [] else [m])) := Lib.hid (by rw [HK.out, keepF_snoc, HKL.out, Nat.zero_add, hKL])
      rw [hKL] at hv ht HLEN
      clear hcell htc x0 x1 x2 x3 hc10 hm e4 HK HKL hkl hKL
      have hsz := hb.out.size
      have B1 : Hid (Below w.heap.size w (wr.alloc (.cells (voC m).toArray 93))) := hb.out.alloc hsz _
      have N1 := Lib.hid (heap_alloc_new wr (.cells (voC m).toArray 93))
      have V1 : Hid ((wr.alloc (.cells (voC m).toArray 93)).ownsRow w.heap.size 93 4 u4 KL.length (flatV KL)) := hv.out.alloc _
      have T1 : Hid ((wr.alloc (.cells (voC m).toArray 93)).ownsRow w.heap.size 3 1 u5 KL.length (trs KL)) := ht.out.alloc _
      have V7 : Hid (u4.ownBlock ≠ some wr.heap.size) := Lib.hid (fun e => by have := (hv.out.lt _ e).2; omega)
      have P10 : Hid ((wr.alloc (.cells (voC m).toArray 93)).cell? ⟨P, 10, none⟩ = some (.slice (some ⟨tb, 0, none⟩) ms.length tc)) := Lib.hid ((World.cell?_of_block (Below.heap_alloc wr _ P (by omega))).trans H10.out)
      have T10 : Hid ((wr.alloc (.cells (voC m).toArray 93)).cell? ⟨tb, k, none⟩ = some (.int .i64 m.v.tr)) := Lib.hid ((World.cell?_of_block (Below.heap_alloc wr _ tb (by omega))).trans HTC.out)
      unfold voC at B1 N1 V1 T1 P10 T10
      go_wp2_with fail
      generalize wr.alloc (.cells [.int .i64 m.v.body, .slice m.M m.v.ms.length m.mc, .slice (some ⟨m.S, 0, none⟩) m.v.ms.length m.v.ms.length, .slice m.I m.v.xs.length m.ic].toArray 93) = W1 at *
      refine (HC.out k hlt W1 B1.out).mono ?_
      rintro q W2 ⟨rfl, nd, rfl⟩
      clear e0 e1 e2 e3
      cases hf : f k
      · rw [hf, if_neg (by simp)] at HKe
        clear hf
        go_wp2_with fail
        have S0 : Hid (R2 (W1.drewN (nd + 1)) (W1.drewN (nd + 1)) w.heap.size wr.heap.size P tb k (.slice (some ⟨tb, 0, none⟩) ms.length tc) m.v.tr KL m false false u4 u5 none none) := R2.start B1.out.size N1.out P10.out T10.out hPl htl0 V1.out T1.out V7.out
        have B2 : Hid (Below w.heap.size w (W1.drewN (nd + 1))) := below_drewN B1.out _
        clear N1 V1 T1 V7 P10 T10 B1
        refine wp_region_held_drew (S := fun w' => w'.cell? ⟨wr.heap.size, 0, none⟩ = some (.int .i64 m.v.body) ∧ w'.cell? ⟨wr.heap.size, 1, none⟩ = some (.slice m.M m.v.ms.length m.mc) ∧ w'.cell? ⟨wr.heap.size, 2, none⟩ = some (.slice (some ⟨m.S, 0, none⟩) m.v.ms.length m.v.ms.length) ∧ w'.cell? ⟨wr.heap.size, 3, none⟩ = some (.slice m.I m.v.xs.length m.ic) ∧
          w'.cell? ⟨P, 10, none⟩ = some (.slice (some ⟨tb, 0, none⟩) ms.length tc) ∧ w'.cell? ⟨tb, k, none⟩ = some (.int .i64 m.v.tr)) (by kernel_rfl) S0.out.held (fun hHeld => ?_)
        have hld : (W1.drewN nd).drew = W1.drewN (nd + 1) := rfl
        generalize (W1.drewN nd).drew = V at *
        subst hld
        generalize W1.drewN (nd + 1) = V at *
        have hz2 := B2.out.size
        have hkl2 : KL.length ≤ 16 := HLEN.out
        generalize wr.heap.size = g7 at *
        refine wpAnyH_take (i := 0) (oi := _) (v := ?_) rfl (by kernel_rfl) (by kernel_rfl) (by kernel_rfl) (fun _ _ _ h => h) (Or.inl ⟨by rfl, ?_⟩) (by assumption) ?_
        rotate_left
        · (intro w hSw; (try dsimp only at hSw); go_simp; try (with_reducible rfl))
        (try simp only [Act.put, List.setIfInBounds_toArray, List.set_cons_zero, List.set_cons_succ, List.getElem_toArray, List.getElem_cons_succ, List.getElem_cons_zero])
        refine wpAnyH_take (i := 1) (oi := _) (v := ?_) rfl (by kernel_rfl) (by kernel_rfl) (by kernel_rfl) (fun _ _ _ h => h) (Or.inl ⟨by rfl, ?_⟩) (by assumption) ?_
        rotate_left
        · (intro w hSw; (try dsimp only at hSw); go_simp; try (with_reducible rfl))
        (try simp only [Act.put, List.setIfInBounds_toArray, List.set_cons_zero, List.set_cons_succ, List.getElem_toArray, List.getElem_cons_succ, List.getElem_cons_zero])
        refine wpAnyH_take (i := 4) (oi := _) (v := ?_) rfl (by kernel_rfl) (by kernel_rfl) (by kernel_rfl) (fun _ _ _ h => h) (Or.inl ⟨by rfl, ?_⟩) (by assumption) ?_
        rotate_left
        · (intro w hSw; (try dsimp only at hSw); go_simp; try (with_reducible rfl))
        (try simp only [Act.put, List.setIfInBounds_toArray, List.set_cons_zero, List.set_cons_succ, List.getElem_toArray, List.getElem_cons_succ, List.getElem_cons_zero])
        refine wpAnyH_take (i := 5) (oi := _) (v := ?_) rfl (by kernel_rfl) (by kernel_rfl) (by kernel_rfl) (fun _ _ _ h => h) (Or.inl ⟨by rfl, ?_⟩) (by assumption) ?_
        rotate_left
        · (intro w hSw; (try dsimp only at hSw); go_simp; try (with_reducible rfl))
        (try simp only [Act.put, List.setIfInBounds_toArray, List.set_cons_zero, List.set_cons_succ, List.getElem_toArray, List.getElem_cons_succ, List.getElem_cons_zero])
        refine wpAnyH_take (i := 6) (oi := _) (v := ?_) rfl (by kernel_rfl) (by kernel_rfl) (by kernel_rfl) (fun _ _ _ h => h) (Or.inl ⟨by rfl, ?_⟩) (by assumption) ?_
        rotate_left
        · (intro w hSw; (try dsimp only at hSw); go_simp; try (with_reducible rfl))
        (try simp only [Act.put, List.setIfInBounds_toArray, List.set_cons_zero, List.set_cons_succ, List.getElem_toArray, List.getElem_cons_succ, List.getElem_cons_zero])
        refine wpAnyH_take (i := 7) (oi := _) (v := ?_) rfl (by kernel_rfl) (by kernel_rfl) (by kernel_rfl) (fun _ _ _ h => h) (Or.inl ⟨by rfl, ?_⟩) (by assumption) ?_
        rotate_left
        · (intro w hSw; (try dsimp only at hSw); go_simp; try (with_reducible rfl))
        (try simp only [Act.put, List.setIfInBounds_toArray, List.set_cons_zero, List.set_cons_succ, List.getElem_toArray, List.getElem_cons_succ, List.getElem_cons_zero])
        refine wpAnyH_take (i := 8) (oi := _) (v := ?_) rfl (by kernel_rfl) (by kernel_rfl) (by kernel_rfl) (fun _ _ _ h => h) (Or.inl ⟨by rfl, ?_⟩) (by assumption) ?_
        rotate_left
        · (intro w hSw; (try dsimp only at hSw); go_simp; try (with_reducible rfl))
        (try simp only [Act.put, List.setIfInBounds_toArray, List.set_cons_zero, List.set_cons_succ, List.getElem_toArray, List.getElem_cons_succ, List.getElem_cons_zero])
        refine wpAnyH_take (i := 9) (oi := _) (v := ?_) rfl (by kernel_rfl) (by kernel_rfl) (by kernel_rfl) (fun _ _ _ h => h) (Or.inl ⟨by rfl, ?_⟩) (by assumption) ?_
        rotate_left
        · (intro w hSw; (try dsimp only at hSw); go_simp; try (with_reducible rfl))
        (try simp only [Act.put, List.setIfInBounds_toArray, List.set_cons_zero, List.set_cons_succ, List.getElem_toArray, List.getElem_cons_succ, List.getElem_cons_zero])
        refine wpAnyH_take (i := 10) (oi := _) (v := ?_) rfl (by kernel_rfl) (by kernel_rfl) (by kernel_rfl) (fun _ _ _ h => h) (Or.inl ⟨by rfl, ?_⟩) (by assumption) ?_
        rotate_left
        · (intro w hSw; (try dsimp only at hSw); go_simp; try (with_reducible rfl))
        (try simp only [Act.put, List.setIfInBounds_toArray, List.set_cons_zero, List.set_cons_succ, List.getElem_toArray, List.getElem_cons_succ, List.getElem_cons_zero])
        refine wpAnyH_take (i := 11) (oi := _) (v := ?_) rfl (by kernel_rfl) (by kernel_rfl) (by kernel_rfl) (fun _ _ _ h => h) (Or.inl ⟨by rfl, ?_⟩) (by assumption) ?_
        rotate_left
        · (intro w hSw; (try dsimp only at hSw); go_simp; try (with_reducible rfl))
        (try simp only [Act.put, List.setIfInBounds_toArray, List.set_cons_zero, List.set_cons_succ, List.getElem_toArray, List.getElem_cons_succ, List.getElem_cons_zero])
        refine wpAnyH_ready (rs := [2, 12]) (by kernel_rfl) (by simp) ?_
        refine (AllReadyH.cons (o := _) rfl (fun K hK => ?_) (AllReadyH.cons (o := _) rfl (fun K hK => ?_) AllReadyH.nil))
        · go_simp
          have S12 := Lib.hid (S0.out.op2 (g0 := V.heap.size) rfl)
          refine hK.out _ _ ?_ (fun hHeldN => ?_)
          · exact S12.out.held
          clear hHeld hK K
          have hHeld := hHeldN
          clear hHeldN
          (try simp only [Act.put, List.setIfInBounds_toArray, List.set_cons_zero, List.set_cons_succ, List.getElem_toArray, List.getElem_cons_succ, List.getElem_cons_zero])
          refine wpAnyH_ready (rs := [3, 12]) (by kernel_rfl) (by simp) ?_
          refine (AllReadyH.cons (o := _) rfl (fun K hK => ?_) (AllReadyH.cons (o := _) rfl (fun K hK => ?_) AllReadyH.nil))
          · obtain ⟨i0, hi0, hz0, hz1, hz2⟩ := info_parts voice_info
            refine step_append_lies _ (by rfl) (.tmp 24) (.tmp 26) 89 (by rfl) w.heap.size 93 i0 _ 4 80 Try.underlying89 hi0 hz0 hz1 hz2 rfl (by omega) _ KL.length (flatV KL) (by rfl) S12.out.vOwn ⟨_, 0, none⟩ 1 1 (voC m) (by rfl) (by rfl) S12.out.vNews (voC_one m) (by omega) (by simp only [maxLen]; omega) (by omega) S12.out.size _ rfl ?_
            intro gg cap w4 hown4 hgrow hat hlt4
            have S13 := Lib.hid (S12.out.op3 hown4 hgrow hat)
            clear hown4 hgrow hat hlt4
            refine hK.out _ _ ?_ (fun hHeldN => ?_)
            · exact S13.out.held
            clear hHeld hK K
            have hHeld := hHeldN
            clear hHeldN
            (try simp only [Act.put, List.setIfInBounds_toArray, List.set_cons_zero, List.set_cons_succ, List.getElem_toArray, List.getElem_cons_succ, List.getElem_cons_zero])
            refine wpAnyH_ready (rs := [12]) (by kernel_rfl) (by simp) ?_
            refine (AllReadyH.cons (o := _) rfl (fun K hK => ?_) AllReadyH.nil)
            go_simp
            have S14 := Lib.hid (S13.out.op12 (g0 := w4.heap.size) rfl)
            refine hK.out _ _ ?_ (fun hHeldN => ?_)
            · exact S14.out.held
            clear hHeld hK K
            have hHeld := hHeldN
            clear hHeldN
            (try simp only [Act.put, List.setIfInBounds_toArray, List.set_cons_zero, List.set_cons_succ, List.getElem_toArray, List.getElem_cons_succ, List.getElem_cons_zero])
            refine wpAnyH_ready (rs := [13]) (by kernel_rfl) (by simp) ?_
            refine (AllReadyH.cons (o := _) rfl (fun K hK => ?_) AllReadyH.nil)
            obtain ⟨i0, hi0, hz0, hz1, hz2⟩ := info_parts int_info
            refine step_append_lies _ (by rfl) (.tmp 28) (.tmp 36) 36 (by rfl) w.heap.size 3 i0 _ 1 8 Try.underlying36 hi0 hz0 hz1 hz2 rfl (by omega) _ KL.length (trs KL) (by rfl) S14.out.tOwn ⟨_, 0, none⟩ 1 1 [.int .i64 m.v.tr] (by rfl) (by rfl) S14.out.tNews (by simp [Value.oneCell']) (by omega) (by simp only [maxLen]; omega) (by omega) S14.out.size _ rfl ?_
            intro gg cap w4 hown4 hgrow hat hlt4
            have S15 := Lib.hid (S14.out.op13 hown4 hgrow hat)
            clear hown4 hgrow hat hlt4
            refine hK.out _ _ ?_ (fun hHeldN => ?_)
            · exact S15.out.held
            clear hHeld hK K
            have hHeld := hHeldN
            clear hHeldN
            (try simp only [Act.put, List.setIfInBounds_toArray, List.set_cons_zero, List.set_cons_succ, List.getElem_toArray, List.getElem_cons_succ, List.getElem_cons_zero])
            have FN := Lib.hid (S15.out.fin HKe.out)
            have BN := Lib.hid (B2.out.trans S15.out.bel)
            refine wpAnyH_take (i := 14) (oi := _) (v := ?_) rfl (by kernel_rfl) (by kernel_rfl) (by kernel_rfl) (fun _ _ _ h => h) (Or.inl ⟨by rfl, ?_⟩) (by assumption) ?_
            rotate_left
            · (intro w hSw; (try dsimp only at hSw); go_simp; try (with_reducible rfl))
            (try simp only [Act.put, List.setIfInBounds_toArray, List.set_cons_zero, List.set_cons_succ, List.getElem_toArray, List.getElem_cons_succ, List.getElem_cons_zero])
            refine wpAnyH_take (i := 15) (oi := _) (v := ?_) rfl (by kernel_rfl) (by kernel_rfl) (by kernel_rfl) (fun _ _ _ h => h) (Or.inl ⟨by rfl, ?_⟩) (by assumption) ?_
            rotate_left
            · (intro w hSw; (try dsimp only at hSw); go_simp; try (with_reducible rfl))
            (try simp only [Act.put, List.setIfInBounds_toArray, List.set_cons_zero, List.set_cons_succ, List.getElem_toArray, List.getElem_cons_succ, List.getElem_cons_zero])
            refine wpAnyH_done (by kernel_rfl) ?_ _
            (try simp only [List.getElem_toArray, List.getElem_cons_succ, List.getElem_cons_zero, Act.put, List.setIfInBounds_toArray, List.set_cons_zero, List.set_cons_succ])
            go_wp2_with fail
            go_roundw
            case rel => exact ⟨k + 1, by go_num, by omega, FN.out.1, FN.out.2, BN⟩
            case measure => simp [intOf]; omega
          · go_simp
            have S16 := Lib.hid (S12.out.op12 (g0 := V.heap.size + 1) (by simp))
            refine hK.out _ _ ?_ (fun hHeldN => ?_)
            · exact S16.out.held
            clear hHeld hK K
            have hHeld := hHeldN
            clear hHeldN
            (try simp only [Act.put, List.setIfInBounds_toArray, List.set_cons_zero, List.set_cons_succ, List.getElem_toArray, List.getElem_cons_succ, List.getElem_cons_zero])
            refine wpAnyH_ready (rs := [3]) (by kernel_rfl) (by simp) ?_
            refine (AllReadyH.cons (o := _) rfl (fun K hK => ?_) AllReadyH.nil)
            obtain ⟨i0, hi0, hz0, hz1, hz2⟩ := info_parts voice_info
            refine step_append_lies _ (by rfl) (.tmp 24) (.tmp 26) 89 (by rfl) w.heap.size 93 i0 _ 4 80 Try.underlying89 hi0 hz0 hz1 hz2 rfl (by omega) _ KL.length (flatV KL) (by rfl) S16.out.vOwn ⟨_, 0, none⟩ 1 1 (voC m) (by rfl) (by rfl) S16.out.vNews (voC_one m) (by omega) (by simp only [maxLen]; omega) (by omega) S16.out.size _ rfl ?_
            intro gg cap w4 hown4 hgrow hat hlt4
            have S17 := Lib.hid (S16.out.op3 hown4 hgrow hat)
            clear hown4 hgrow hat hlt4
            refine hK.out _ _ ?_ (fun hHeldN => ?_)
            · exact S17.out.held
            clear hHeld hK K
            have hHeld := hHeldN
            clear hHeldN
            (try simp only [Act.put, List.setIfInBounds_toArray, List.set_cons_zero, List.set_cons_succ, List.getElem_toArray, List.getElem_cons_succ, List.getElem_cons_zero])
            refine wpAnyH_ready (rs := [13]) (by kernel_rfl) (by simp) ?_
            refine (AllReadyH.cons (o := _) rfl (fun K hK => ?_) AllReadyH.nil)
            obtain ⟨i0, hi0, hz0, hz1, hz2⟩ := info_parts int_info
            refine step_append_lies _ (by rfl) (.tmp 28) (.tmp 36) 36 (by rfl) w.heap.size 3 i0 _ 1 8 Try.underlying36 hi0 hz0 hz1 hz2 rfl (by omega) _ KL.length (trs KL) (by rfl) S17.out.tOwn ⟨_, 0, none⟩ 1 1 [.int .i64 m.v.tr] (by rfl) (by rfl) S17.out.tNews (by simp [Value.oneCell']) (by omega) (by simp only [maxLen]; omega) (by omega) S17.out.size _ rfl ?_
            intro gg cap w4 hown4 hgrow hat hlt4
            have S18 := Lib.hid (S17.out.op13 hown4 hgrow hat)
            clear hown4 hgrow hat hlt4
            refine hK.out _ _ ?_ (fun hHeldN => ?_)
            · exact S18.out.held
            clear hHeld hK K
            have hHeld := hHeldN
            clear hHeldN
            (try simp only [Act.put, List.setIfInBounds_toArray, List.set_cons_zero, List.set_cons_succ, List.getElem_toArray, List.getElem_cons_succ, List.getElem_cons_zero])
            have FN := Lib.hid (S18.out.fin HKe.out)
            have BN := Lib.hid (B2.out.trans S18.out.bel)
            refine wpAnyH_take (i := 14) (oi := _) (v := ?_) rfl (by kernel_rfl) (by kernel_rfl) (by kernel_rfl) (fun _ _ _ h => h) (Or.inl ⟨by rfl, ?_⟩) (by assumption) ?_
            rotate_left
            · (intro w hSw; (try dsimp only at hSw); go_simp; try (with_reducible rfl))
            (try simp only [Act.put, List.setIfInBounds_toArray, List.set_cons_zero, List.set_cons_succ, List.getElem_toArray, List.getElem_cons_succ, List.getElem_cons_zero])
            refine wpAnyH_take (i := 15) (oi := _) (v := ?_) rfl (by kernel_rfl) (by kernel_rfl) (by kernel_rfl) (fun _ _ _ h => h) (Or.inl ⟨by rfl, ?_⟩) (by assumption) ?_
            rotate_left
            · (intro w hSw; (try dsimp only at hSw); go_simp; try (with_reducible rfl))
            (try simp only [Act.put, List.setIfInBounds_toArray, List.set_cons_zero, List.set_cons_succ, List.getElem_toArray, List.getElem_cons_succ, List.getElem_cons_zero])
            refine wpAnyH_done (by kernel_rfl) ?_ _
            (try simp only [List.getElem_toArray, List.getElem_cons_succ, List.getElem_cons_zero, Act.put, List.setIfInBounds_toArray, List.set_cons_zero, List.set_cons_succ])
            go_wp2_with fail
            go_roundw
            case rel => exact ⟨k + 1, by go_num, by omega, FN.out.1, FN.out.2, BN⟩
            case measure => simp [intOf]; omega
        · go_simp
          have S19 := Lib.hid (S0.out.op12 (g0 := V.heap.size) rfl)
          refine hK.out _ _ ?_ (fun hHeldN => ?_)
          · exact S19.out.held
          clear hHeld hK K
          have hHeld := hHeldN
          clear hHeldN
          (try simp only [Act.put, List.setIfInBounds_toArray, List.set_cons_zero, List.set_cons_succ, List.getElem_toArray, List.getElem_cons_succ, List.getElem_cons_zero])
          refine wpAnyH_ready (rs := [2]) (by kernel_rfl) (by simp) ?_
          refine (AllReadyH.cons (o := _) rfl (fun K hK => ?_) AllReadyH.nil)
          go_simp
          have S20 := Lib.hid (S19.out.op2 (g0 := V.heap.size + 1) (by simp))
          refine hK.out _ _ ?_ (fun hHeldN => ?_)
          · exact S20.out.held
          clear hHeld hK K
          have hHeld := hHeldN
          clear hHeldN
          (try simp only [Act.put, List.setIfInBounds_toArray, List.set_cons_zero, List.set_cons_succ, List.getElem_toArray, List.getElem_cons_succ, List.getElem_cons_zero])
          refine wpAnyH_ready (rs := [3]) (by kernel_rfl) (by simp) ?_
          refine (AllReadyH.cons (o := _) rfl (fun K hK => ?_) AllReadyH.nil)
          obtain ⟨i0, hi0, hz0, hz1, hz2⟩ := info_parts voice_info
          refine step_append_lies _ (by rfl) (.tmp 24) (.tmp 26) 89 (by rfl) w.heap.size 93 i0 _ 4 80 Try.underlying89 hi0 hz0 hz1 hz2 rfl (by omega) _ KL.length (flatV KL) (by rfl) S20.out.vOwn ⟨_, 0, none⟩ 1 1 (voC m) (by rfl) (by rfl) S20.out.vNews (voC_one m) (by omega) (by simp only [maxLen]; omega) (by omega) S20.out.size _ rfl ?_
          intro gg cap w4 hown4 hgrow hat hlt4
          have S21 := Lib.hid (S20.out.op3 hown4 hgrow hat)
          clear hown4 hgrow hat hlt4
          refine hK.out _ _ ?_ (fun hHeldN => ?_)
          · exact S21.out.held
          clear hHeld hK K
          have hHeld := hHeldN
          clear hHeldN
          (try simp only [Act.put, List.setIfInBounds_toArray, List.set_cons_zero, List.set_cons_succ, List.getElem_toArray, List.getElem_cons_succ, List.getElem_cons_zero])
          refine wpAnyH_ready (rs := [13]) (by kernel_rfl) (by simp) ?_
          refine (AllReadyH.cons (o := _) rfl (fun K hK => ?_) AllReadyH.nil)
          obtain ⟨i0, hi0, hz0, hz1, hz2⟩ := info_parts int_info
          refine step_append_lies _ (by rfl) (.tmp 28) (.tmp 36) 36 (by rfl) w.heap.size 3 i0 _ 1 8 Try.underlying36 hi0 hz0 hz1 hz2 rfl (by omega) _ KL.length (trs KL) (by rfl) S21.out.tOwn ⟨_, 0, none⟩ 1 1 [.int .i64 m.v.tr] (by rfl) (by rfl) S21.out.tNews (by simp [Value.oneCell']) (by omega) (by simp only [maxLen]; omega) (by omega) S21.out.size _ rfl ?_
          intro gg cap w4 hown4 hgrow hat hlt4
          have S22 := Lib.hid (S21.out.op13 hown4 hgrow hat)
          clear hown4 hgrow hat hlt4
          refine hK.out _ _ ?_ (fun hHeldN => ?_)
          · exact S22.out.held
          clear hHeld hK K
          have hHeld := hHeldN
          clear hHeldN
          (try simp only [Act.put, List.setIfInBounds_toArray, List.set_cons_zero, List.set_cons_succ, List.getElem_toArray, List.getElem_cons_succ, List.getElem_cons_zero])
          have FN := Lib.hid (S22.out.fin HKe.out)
          have BN := Lib.hid (B2.out.trans S22.out.bel)
          refine wpAnyH_take (i := 14) (oi := _) (v := ?_) rfl (by kernel_rfl) (by kernel_rfl) (by kernel_rfl) (fun _ _ _ h => h) (Or.inl ⟨by rfl, ?_⟩) (by assumption) ?_
          rotate_left
          · (intro w hSw; (try dsimp only at hSw); go_simp; try (with_reducible rfl))
          (try simp only [Act.put, List.setIfInBounds_toArray, List.set_cons_zero, List.set_cons_succ, List.getElem_toArray, List.getElem_cons_succ, List.getElem_cons_zero])
          refine wpAnyH_take (i := 15) (oi := _) (v := ?_) rfl (by kernel_rfl) (by kernel_rfl) (by kernel_rfl) (fun _ _ _ h => h) (Or.inl ⟨by rfl, ?_⟩) (by assumption) ?_
          rotate_left
          · (intro w hSw; (try dsimp only at hSw); go_simp; try (with_reducible rfl))
          (try simp only [Act.put, List.setIfInBounds_toArray, List.set_cons_zero, List.set_cons_succ, List.getElem_toArray, List.getElem_cons_succ, List.getElem_cons_zero])
          refine wpAnyH_done (by kernel_rfl) ?_ _
          (try simp only [List.getElem_toArray, List.getElem_cons_succ, List.getElem_cons_zero, Act.put, List.setIfInBounds_toArray, List.set_cons_zero, List.set_cons_succ])
          go_wp2_with fail
          go_roundw
          case rel => exact ⟨k + 1, by go_num, by omega, FN.out.1, FN.out.2, BN⟩
          case measure => simp [intOf]; omega
      · rw [hf, if_pos rfl, List.append_nil] at HKe
        clear hf
        have HB2 : Hid (Below w.heap.size w (W1.drewN nd)) := below_drewN B1.out _
        have HV2 : Hid ((W1.drewN nd).ownsRow w.heap.size 93 4 u4 (keepF f 0 (ms.take (k + 1))).length (flatV (keepF f 0 (ms.take (k + 1))))) := Lib.hid (by rw [HKe.out]; exact V1.out)
        have HT2 : Hid ((W1.drewN nd).ownsRow w.heap.size 3 1 u5 (keepF f 0 (ms.take (k + 1))).length (trs (keepF f 0 (ms.take (k + 1))))) := Lib.hid (by rw [HKe.out]; exact T1.out)
        clear N1 V1 T1 V7 P10 T10 B1 HKe
        go_wp2_with fail
        go_roundw
        case rel => exact ⟨k + 1, by go_num, by omega, HV2, HT2, HB2⟩
        case measure => simp [intOf]; omega
    · obtain rfl : k = ms.length := by omega
      have HV2 := Lib.hid hv.out
      have HT2 := Lib.hid ht.out
      have HB2 := Lib.hid hb.out
      rw [List.take_length] at HV2 HT2
      clear hv ht hb
      have H1 := Lib.hid (H.out.new HB2.out)
      have hv3 := owns_lower (lo' := base) HV2.out (Nat.le_trans H.out.hs H.out.bel.size)
      have ht3 := owns_lower (lo' := base) HT2.out (Nat.le_trans H.out.hs H.out.bel.size)
      have hvo : ∀ m ∈ keepF f 0 ms, VmIn wr base c.fb m := fun m hm => H1.out.vo m ((keepF_sub f ms 0).subset hm)
      have hap : Apart (keepF f 0 ms) := List.Pairwise.sublist (keepF_sub f ms 0) H1.out.apart
      have HN := Lib.hid (H1.out.setRows hv3 ht3 hvo hap)
      have c9 := (pl_cells H1.out.box).2.2.2.2.2.2.2.2.2.1
      have c10 := (pl_cells H1.out.box).2.2.2.2.2.2.2.2.2.2.1
      have f9 := free_cells H1.out.box 9
      have f10 := free_cells H1.out.box 10
      clear hv3 ht3 hvo hap
      obtain ⟨VA', vc', rfl⟩ := owns_form HV2.out
      obtain ⟨TA', tc', rfl⟩ := owns_form HT2.out
      go_wp2_with fail
      go_end0
      exact ⟨rfl, _, _, HN.out, grown_trans (grown_trans ⟨HB2.out.os, HB2.out.tape, HB2.out.output, HB2.out.size, fun i hi _ => HB2.out.block i hi⟩ (grown_set _ _)) (grown_set _ _)⟩
set_option maxRecDepth 100000 in
set_option maxHeartbeats 6400000 in
theorem remove2_any (pb eb : Nat) (f : Nat → Bool) {w0 : World} {base P done now : Nat} {c : Pc} {vV vT : Value} {ms : List Vm} {begun : Int} (w : World) (h : PlIn w0 w base P c done now vV vT ms begun) (hn : ms.length ≤ 16)
    (hc : ∀ i : Nat, i < ms.length → ∀ W, Below w.heap.size w W → Calls Try.prog 105 #[.int .i64 i, .pointer (some ⟨pb, 0, none⟩), .pointer (some ⟨eb, 0, none⟩)] W fun e w' => e = .returned (.bool (f i)) ∧ ∃ n, W.drewN n = w') :
    Calls Try.prog 103 #[.pointer (some ⟨P, 0, none⟩), .func (.func 105) #[] #[.pointer (some ⟨pb, 0, none⟩), .pointer (some ⟨eb, 0, none⟩)]] w fun r w' => r = .returned (.tuple #[]) ∧ ∃ vV' vT', PlIn w0 w' base P c done now vV' vT' (keepF f 0 ms) begun ∧ w.grownBy w' (some P) := by
  have HC := Lib.hid hc
  have H := Lib.hid h
  clear hc
  obtain ⟨VA, vc, rfl⟩ := owns_form h.vrow
  obtain ⟨TA, tc, rfl⟩ := owns_form h.trow
  have hPl := lt_of_some h.box
  obtain ⟨W0, hW0⟩ : ∃ W0, (w.alloc (.cells #[] 93)).alloc (.cells #[] 3) = W0 := ⟨_, rfl⟩
  have HB0 : Hid (Below w.heap.size w W0) := by rw [← hW0]; exact ((Below.refl w.heap.size w).alloc (Nat.le_refl _) _).alloc (by simp) _
  have O1 : Hid (W0.ownsRow w.heap.size 93 4 (.slice (some ⟨w.heap.size, 0, none⟩) 0 0) 0 []) := by
    rw [← hW0]
    have := World.ownsRow.alloc (w := w.alloc (.cells #[] 93)) (base := w.heap.size) (e := 93) (size := 4) (v := .slice (some ⟨w.heap.size, 0, none⟩) 0 0) (n := 0) (xs := []) ⟨rfl, .inr ⟨w.heap.size, 0, #[], rfl, Nat.le_refl _, heap_alloc_new w _, Nat.le_refl _, by simp, rfl, rfl⟩⟩ (.cells #[] 3)
    exact this
  have O2 : Hid (W0.ownsRow w.heap.size 3 1 (.slice (some ⟨w.heap.size + 1, 0, none⟩) 0 0) 0 []) := by
    rw [← hW0]
    have hz : (w.alloc (.cells #[] 93)).heap.size = w.heap.size + 1 := by simp
    have hn := heap_alloc_new (w.alloc (.cells #[] 93)) (.cells #[] 3)
    rw [hz] at hn
    exact ⟨rfl, .inr ⟨w.heap.size + 1, 0, #[], rfl, by omega, hn, Nat.le_refl _, by simp, rfl, rfl⟩⟩
  have c9 := (pl_cells (h.new HB0.out).box).2.2.2.2.2.2.2.2.2.1
  clear h
  go_enter Try.func103, Try.ntmps103
  go_wp2_with fail
  clear hW0 c9
  go_loopw [4, 5, 15] (fun v t i wr => ∃ k : Nat, i = .int .i64 (k : Int) ∧ k ≤ ms.length ∧ Hid (wr.ownsRow w.heap.size 93 4 v (keepF f 0 (ms.take k)).length (flatV (keepF f 0 (ms.take k)))) ∧ Hid (wr.ownsRow w.heap.size 3 1 t (keepF f 0 (ms.take k)).length (trs (keepF f 0 (ms.take k)))) ∧ Hid (Below w.heap.size w wr)) (fun _ _ i _ => ms.length - (intOf i).toNat)
  case atStart => exact ⟨0, rfl, by omega, O1, O2, HB0⟩
  case round =>
    clear O1 O2 HB0
    obtain ⟨k, rfl, hk, hv, ht, hb⟩ := hrel
    by_cases hlt : k < ms.length
    · have H1 := Lib.hid (H.out.new hb.out)
      obtain ⟨m, hm⟩ : ∃ m, ms[k]? = some m := ⟨_, List.getElem?_eq_getElem hlt⟩
      obtain ⟨b, _, hVA, _, hbl, hv1, hv2, _, hcell⟩ := owns_cells H1.out.vrow (by omega) (flatV_len ms)
      injection hVA with q1 _ q2
      subst q1 q2
      obtain ⟨x0, x1, x2, x3⟩ := flatV_at hm
      have e0 := hcell _ _ x0
      have e1 := hcell _ _ x1
      have e2 := hcell _ _ x2
      have e3 := hcell _ _ x3
      obtain ⟨tb, _, hTA, _, htl, ht1, ht2, _, htc⟩ := owns_cells H1.out.trow (by omega) (trs_len ms)
      injection hTA with q1 _ q2
      subst q1 q2
      have e4 := htc _ _ (trs_at hm)
      have htl0 : tb < w.heap.size := (H.out.trow.lt tb rfl).2
      have HK : Hid (ms.take (k + 1) = ms.take k ++ [m]) := Lib.hid (by rw [List.take_add_one, hm]; rfl)
      have HKL : Hid ((ms.take k).length = k) := Lib.hid (by rw [List.length_take]; omega)
      have hc10 := (pl_cells H1.out.box).2.2.2.2.2.2.2.2.2.2.1
      have HTC := Lib.hid e4
      have H10 := Lib.hid hc10
      have hkl : (keepF f 0 (ms.take k)).length ≤ 16 := by have := keepF_len f (ms.take k) 0; have := List.length_take_le k ms; omega
      have HLEN := Lib.hid hkl
      obtain ⟨KL, hKL⟩ : ∃ KL, keepF f 0 (ms.take k) = KL := ⟨_, rfl⟩
      have HKe : Hid (keepF f 0 (ms.take (k + 1)) = KL ++ (if f k then [] else [m])) := Lib.hid (by rw [HK.out, keepF_snoc, HKL.out, Nat.zero_add, hKL])
      rw [hKL] at hv ht HLEN
      clear hcell htc x0 x1 x2 x3 hc10 hm e4 HK HKL hkl hKL
      have hsz := hb.out.size
      have B1 : Hid (Below w.heap.size w (wr.alloc (.cells (voC m).toArray 93))) := hb.out.alloc hsz _
      have N1 := Lib.hid (heap_alloc_new wr (.cells (voC m).toArray 93))
      have V1 : Hid ((wr.alloc (.cells (voC m).toArray 93)).ownsRow w.heap.size 93 4 u4 KL.length (flatV KL)) := hv.out.alloc _
      have T1 : Hid ((wr.alloc (.cells (voC m).toArray 93)).ownsRow w.heap.size 3 1 u5 KL.length (trs KL)) := ht.out.alloc _
      have V7 : Hid (u4.ownBlock ≠ some wr.heap.size) := Lib.hid (fun e => by have := (hv.out.lt _ e).2; omega)
      have P10 : Hid ((wr.alloc (.cells (voC m).toArray 93)).cell? ⟨P, 10, none⟩ = some (.slice (some ⟨tb, 0, none⟩) ms.length tc)) := Lib.hid ((World.cell?_of_block (Below.heap_alloc wr _ P (by omega))).trans H10.out)
      have T10 : Hid ((wr.alloc (.cells (voC m).toArray 93)).cell? ⟨tb, k, none⟩ = some (.int .i64 m.v.tr)) := Lib.hid ((World.cell?_of_block (Below.heap_alloc wr _ tb (by omega))).trans HTC.out)
      unfold voC at B1 N1 V1 T1 P10 T10
      go_wp2_with fail
      generalize wr.alloc (.cells [.int .i64 m.v.body, .slice m.M m.v.ms.length m.mc, .slice (some ⟨m.S, 0, none⟩) m.v.ms.length m.v.ms.length, .slice m.I m.v.xs.length m.ic].toArray 93) = W1 at *
      refine (HC.out k hlt W1 B1.out).mono ?_
      rintro q W2 ⟨rfl, nd, rfl⟩
      clear e0 e1 e2 e3
      cases hf : f k
      · rw [hf, if_neg (by simp)] at HKe
        clear hf
        go_wp2_with fail
        have S0 : Hid (R2 (W1.drewN (nd + 1)) (W1.drewN (nd + 1)) w.heap.size wr.heap.size P tb k (.slice (some ⟨tb, 0, none⟩) ms.length tc) m.v.tr KL m false false u4 u5 none none) := R2.start B1.out.size N1.out P10.out T10.out hPl htl0 V1.out T1.out V7.out
        have B2 : Hid (Below w.heap.size w (W1.drewN (nd + 1))) := below_drewN B1.out _
        clear N1 V1 T1 V7 P10 T10 B1
        refine wp_region_held_drew (S := fun w' => w'.cell? ⟨wr.heap.size, 0, none⟩ = some (.int .i64 m.v.body) ∧ w'.cell? ⟨wr.heap.size, 1, none⟩ = some (.slice m.M m.v.ms.length m.mc) ∧ w'.cell? ⟨wr.heap.size, 2, none⟩ = some (.slice (some ⟨m.S, 0, none⟩) m.v.ms.length m.v.ms.length) ∧ w'.cell? ⟨wr.heap.size, 3, none⟩ = some (.slice m.I m.v.xs.length m.ic) ∧
          w'.cell? ⟨P, 10, none⟩ = some (.slice (some ⟨tb, 0, none⟩) ms.length tc) ∧ w'.cell? ⟨tb, k, none⟩ = some (.int .i64 m.v.tr)) (by kernel_rfl) S0.out.held (fun hHeld => ?_)
        have hld : (W1.drewN nd).drew = W1.drewN (nd + 1) := rfl
        generalize (W1.drewN nd).drew = V at *
        subst hld
        generalize W1.drewN (nd + 1) = V at *
        have hz2 := B2.out.size
        have hkl2 : KL.length ≤ 16 := HLEN.out
        generalize wr.heap.size = g7 at *
        refine wpAnyH_take (i := 0) (oi := _) (v := ?_) rfl (by kernel_rfl) (by kernel_rfl) (by kernel_rfl) (fun _ _ _ h => h) (Or.inl ⟨by rfl, ?_⟩) (by assumption) ?_
        rotate_left
        · (intro w hSw; (try dsimp only at hSw); go_simp; try (with_reducible rfl))
        (try simp only [Act.put, List.setIfInBounds_toArray, List.set_cons_zero, List.set_cons_succ, List.getElem_toArray, List.getElem_cons_succ, List.getElem_cons_zero])
        refine wpAnyH_take (i := 1) (oi := _) (v := ?_) rfl (by kernel_rfl) (by kernel_rfl) (by kernel_rfl) (fun _ _ _ h => h) (Or.inl ⟨by rfl, ?_⟩) (by assumption) ?_
        rotate_left
        · (intro w hSw; (try dsimp only at hSw); go_simp; try (with_reducible rfl))
        (try simp only [Act.put, List.setIfInBounds_toArray, List.set_cons_zero, List.set_cons_succ, List.getElem_toArray, List.getElem_cons_succ, List.getElem_cons_zero])
        refine wpAnyH_take (i := 4) (oi := _) (v := ?_) rfl (by kernel_rfl) (by kernel_rfl) (by kernel_rfl) (fun _ _ _ h => h) (Or.inl ⟨by rfl, ?_⟩) (by assumption) ?_
        rotate_left
        · (intro w hSw; (try dsimp only at hSw); go_simp; try (with_reducible rfl))
        (try simp only [Act.put, List.setIfInBounds_toArray, List.set_cons_zero, List.set_cons_succ, List.getElem_toArray, List.getElem_cons_succ, List.getElem_cons_zero])
        refine wpAnyH_take (i := 5) (oi := _) (v := ?_) rfl (by kernel_rfl) (by kernel_rfl) (by kernel_rfl) (fun _ _ _ h => h) (Or.inl ⟨by rfl, ?_⟩) (by assumption) ?_
        rotate_left
        · (intro w hSw; (try dsimp only at hSw); go_simp; try (with_reducible rfl))
        (try simp only [Act.put, List.setIfInBounds_toArray, List.set_cons_zero, List.set_cons_succ, List.getElem_toArray, List.getElem_cons_succ, List.getElem_cons_zero])
        refine wpAnyH_take (i := 6) (oi := _) (v := ?_) rfl (by kernel_rfl) (by kernel_rfl) (by kernel_rfl) (fun _ _ _ h => h) (Or.inl ⟨by rfl, ?_⟩) (by assumption) ?_
        rotate_left
        · (intro w hSw; (try dsimp only at hSw); go_simp; try (with_reducible rfl))
        (try simp only [Act.put, List.setIfInBounds_toArray, List.set_cons_zero, List.set_cons_succ, List.getElem_toArray, List.getElem_cons_succ, List.getElem_cons_zero])
        refine wpAnyH_take (i := 7) (oi := _) (v := ?_) rfl (by kernel_rfl) (by kernel_rfl) (by kernel_rfl) (fun _ _ _ h => h) (Or.inl ⟨by rfl, ?_⟩) (by assumption) ?_
        rotate_left
        · (intro w hSw; (try dsimp only at hSw); go_simp; try (with_reducible rfl))
        (try simp only [Act.put, List.setIfInBounds_toArray, List.set_cons_zero, List.set_cons_succ, List.getElem_toArray, List.getElem_cons_succ, List.getElem_cons_zero])
        refine wpAnyH_take (i := 8) (oi := _) (v := ?_) rfl (by kernel_rfl) (by kernel_rfl) (by kernel_rfl) (fun _ _ _ h => h) (Or.inl ⟨by rfl, ?_⟩) (by assumption) ?_
        rotate_left
        · (intro w hSw; (try dsimp only at hSw); go_simp; try (with_reducible rfl))
        (try simp only [Act.put, List.setIfInBounds_toArray, List.set_cons_zero, List.set_cons_succ, List.getElem_toArray, List.getElem_cons_succ, List.getElem_cons_zero])
        refine wpAnyH_take (i := 9) (oi := _) (v := ?_) rfl (by kernel_rfl) (by kernel_rfl) (by kernel_rfl) (fun _ _ _ h => h) (Or.inl ⟨by rfl, ?_⟩) (by assumption) ?_
        rotate_left
        · (intro w hSw; (try dsimp only at hSw); go_simp; try (with_reducible rfl))
        (try simp only [Act.put, List.setIfInBounds_toArray, List.set_cons_zero, List.set_cons_succ, List.getElem_toArray, List.getElem_cons_succ, List.getElem_cons_zero])
        refine wpAnyH_take (i := 10) (oi := _) (v := ?_) rfl (by kernel_rfl) (by kernel_rfl) (by kernel_rfl) (fun _ _ _ h => h) (Or.inl ⟨by rfl, ?_⟩) (by assumption) ?_
        rotate_left
        · (intro w hSw; (try dsimp only at hSw); go_simp; try (with_reducible rfl))
        (try simp only [Act.put, List.setIfInBounds_toArray, List.set_cons_zero, List.set_cons_succ, List.getElem_toArray, List.getElem_cons_succ, List.getElem_cons_zero])
        refine wpAnyH_take (i := 11) (oi := _) (v := ?_) rfl (by kernel_rfl) (by kernel_rfl) (by kernel_rfl) (fun _ _ _ h => h) (Or.inl ⟨by rfl, ?_⟩) (by assumption) ?_
        rotate_left
        · (intro w hSw; (try dsimp only at hSw); go_simp; try (with_reducible rfl))
        (try simp only [Act.put, List.setIfInBounds_toArray, List.set_cons_zero, List.set_cons_succ, List.getElem_toArray, List.getElem_cons_succ, List.getElem_cons_zero])
        refine wpAnyH_ready (rs := [2, 12]) (by kernel_rfl) (by simp) ?_
        refine (AllReadyH.cons (o := _) rfl (fun K hK => ?_) (AllReadyH.cons (o := _) rfl (fun K hK => ?_) AllReadyH.nil))
        · go_simp
          have S12 := Lib.hid (S0.out.op2 (g0 := V.heap.size) rfl)
          refine hK.out _ _ ?_ (fun hHeldN => ?_)
          · exact S12.out.held
          clear hHeld hK K
          have hHeld := hHeldN
          clear hHeldN
          (try simp only [Act.put, List.setIfInBounds_toArray, List.set_cons_zero, List.set_cons_succ, List.getElem_toArray, List.getElem_cons_succ, List.getElem_cons_zero])
          refine wpAnyH_ready (rs := [3, 12]) (by kernel_rfl) (by simp) ?_
          refine (AllReadyH.cons (o := _) rfl (fun K hK => ?_) (AllReadyH.cons (o := _) rfl (fun K hK => ?_) AllReadyH.nil))
          · obtain ⟨i0, hi0, hz0, hz1, hz2⟩ := info_parts voice_info
            refine step_append_lies _ (by rfl) (.tmp 24) (.tmp 26) 89 (by rfl) w.heap.size 93 i0 _ 4 80 Try.underlying89 hi0 hz0 hz1 hz2 rfl (by omega) _ KL.length (flatV KL) (by rfl) S12.out.vOwn ⟨_, 0, none⟩ 1 1 (voC m) (by rfl) (by rfl) S12.out.vNews (voC_one m) (by omega) (by simp only [maxLen]; omega) (by omega) S12.out.size _ rfl ?_
            intro gg cap w4 hown4 hgrow hat hlt4
            have S13 := Lib.hid (S12.out.op3 hown4 hgrow hat)
            clear hown4 hgrow hat hlt4
            refine hK.out _ _ ?_ (fun hHeldN => ?_)
            · exact S13.out.held
            clear hHeld hK K
            have hHeld := hHeldN
            clear hHeldN
            (try simp only [Act.put, List.setIfInBounds_toArray, List.set_cons_zero, List.set_cons_succ, List.getElem_toArray, List.getElem_cons_succ, List.getElem_cons_zero])
            refine wpAnyH_ready (rs := [12]) (by kernel_rfl) (by simp) ?_
            refine (AllReadyH.cons (o := _) rfl (fun K hK => ?_) AllReadyH.nil)
            go_simp
            have S14 := Lib.hid (S13.out.op12 (g0 := w4.heap.size) rfl)
            refine hK.out _ _ ?_ (fun hHeldN => ?_)
            · exact S14.out.held
            clear hHeld hK K
            have hHeld := hHeldN
            clear hHeldN
            (try simp only [Act.put, List.setIfInBounds_toArray, List.set_cons_zero, List.set_cons_succ, List.getElem_toArray, List.getElem_cons_succ, List.getElem_cons_zero])
            refine wpAnyH_ready (rs := [13]) (by kernel_rfl) (by simp) ?_
            refine (AllReadyH.cons (o := _) rfl (fun K hK => ?_) AllReadyH.nil)
            obtain ⟨i0, hi0, hz0, hz1, hz2⟩ := info_parts int_info
            refine step_append_lies _ (by rfl) (.tmp 28) (.tmp 36) 36 (by rfl) w.heap.size 3 i0 _ 1 8 Try.underlying36 hi0 hz0 hz1 hz2 rfl (by omega) _ KL.length (trs KL) (by rfl) S14.out.tOwn ⟨_, 0, none⟩ 1 1 [.int .i64 m.v.tr] (by rfl) (by rfl) S14.out.tNews (by simp [Value.oneCell']) (by omega) (by simp only [maxLen]; omega) (by omega) S14.out.size _ rfl ?_
            intro gg cap w4 hown4 hgrow hat hlt4
            have S15 := Lib.hid (S14.out.op13 hown4 hgrow hat)
            clear hown4 hgrow hat hlt4
            refine hK.out _ _ ?_ (fun hHeldN => ?_)
            · exact S15.out.held
            clear hHeld hK K
            have hHeld := hHeldN
            clear hHeldN
            (try simp only [Act.put, List.setIfInBounds_toArray, List.set_cons_zero, List.set_cons_succ, List.getElem_toArray, List.getElem_cons_succ, List.getElem_cons_zero])
            have FN := Lib.hid (S15.out.fin HKe.out)
            have BN := Lib.hid (B2.out.trans S15.out.bel)
            refine wpAnyH_take (i := 14) (oi := _) (v := ?_) rfl (by kernel_rfl) (by kernel_rfl) (by kernel_rfl) (fun _ _ _ h => h) (Or.inl ⟨by rfl, ?_⟩) (by assumption) ?_
            rotate_left
            · (intro w hSw; (try dsimp only at hSw); go_simp; try (with_reducible rfl))
            (try simp only [Act.put, List.setIfInBounds_toArray, List.set_cons_zero, List.set_cons_succ, List.getElem_toArray, List.getElem_cons_succ, List.getElem_cons_zero])
            refine wpAnyH_take (i := 15) (oi := _) (v := ?_) rfl (by kernel_rfl) (by kernel_rfl) (by kernel_rfl) (fun _ _ _ h => h) (Or.inl ⟨by rfl, ?_⟩) (by assumption) ?_
            rotate_left
            · (intro w hSw; (try dsimp only at hSw); go_simp; try (with_reducible rfl))
            (try simp only [Act.put, List.setIfInBounds_toArray, List.set_cons_zero, List.set_cons_succ, List.getElem_toArray, List.getElem_cons_succ, List.getElem_cons_zero])
            refine wpAnyH_done (by kernel_rfl) ?_ _
            (try simp only [List.getElem_toArray, List.getElem_cons_succ, List.getElem_cons_zero, Act.put, List.setIfInBounds_toArray, List.set_cons_zero, List.set_cons_succ])
            go_wp2_with fail
            go_roundw
            case rel => exact ⟨k + 1, by go_num, by omega, FN.out.1, FN.out.2, BN⟩
            case measure => simp [intOf]; omega
          · go_simp
            have S16 := Lib.hid (S12.out.op12 (g0 := V.heap.size + 1) (by simp))
            refine hK.out _ _ ?_ (fun hHeldN => ?_)
            · exact S16.out.held
            clear hHeld hK K
            have hHeld := hHeldN
            clear hHeldN
            (try simp only [Act.put, List.setIfInBounds_toArray, List.set_cons_zero, List.set_cons_succ, List.getElem_toArray, List.getElem_cons_succ, List.getElem_cons_zero])
            refine wpAnyH_ready (rs := [3]) (by kernel_rfl) (by simp) ?_
            refine (AllReadyH.cons (o := _) rfl (fun K hK => ?_) AllReadyH.nil)
            obtain ⟨i0, hi0, hz0, hz1, hz2⟩ := info_parts voice_info
            refine step_append_lies _ (by rfl) (.tmp 24) (.tmp 26) 89 (by rfl) w.heap.size 93 i0 _ 4 80 Try.underlying89 hi0 hz0 hz1 hz2 rfl (by omega) _ KL.length (flatV KL) (by rfl) S16.out.vOwn ⟨_, 0, none⟩ 1 1 (voC m) (by rfl) (by rfl) S16.out.vNews (voC_one m) (by omega) (by simp only [maxLen]; omega) (by omega) S16.out.size _ rfl ?_
            intro gg cap w4 hown4 hgrow hat hlt4
            have S17 := Lib.hid (S16.out.op3 hown4 hgrow hat)
            clear hown4 hgrow hat hlt4
            refine hK.out _ _ ?_ (fun hHeldN => ?_)
            · exact S17.out.held
            clear hHeld hK K
            have hHeld := hHeldN
            clear hHeldN
            (try simp only [Act.put, List.setIfInBounds_toArray, List.set_cons_zero, List.set_cons_succ, List.getElem_toArray, List.getElem_cons_succ, List.getElem_cons_zero])
            refine wpAnyH_ready (rs := [13]) (by kernel_rfl) (by simp) ?_
            refine (AllReadyH.cons (o := _) rfl (fun K hK => ?_) AllReadyH.nil)
            obtain ⟨i0, hi0, hz0, hz1, hz2⟩ := info_parts int_info
            refine step_append_lies _ (by rfl) (.tmp 28) (.tmp 36) 36 (by rfl) w.heap.size 3 i0 _ 1 8 Try.underlying36 hi0 hz0 hz1 hz2 rfl (by omega) _ KL.length (trs KL) (by rfl) S17.out.tOwn ⟨_, 0, none⟩ 1 1 [.int .i64 m.v.tr] (by rfl) (by rfl) S17.out.tNews (by simp [Value.oneCell']) (by omega) (by simp only [maxLen]; omega) (by omega) S17.out.size _ rfl ?_
            intro gg cap w4 hown4 hgrow hat hlt4
            have S18 := Lib.hid (S17.out.op13 hown4 hgrow hat)
            clear hown4 hgrow hat hlt4
            refine hK.out _ _ ?_ (fun hHeldN => ?_)
            · exact S18.out.held
            clear hHeld hK K
            have hHeld := hHeldN
            clear hHeldN
            (try simp only [Act.put, List.setIfInBounds_toArray, List.set_cons_zero, List.set_cons_succ, List.getElem_toArray, List.getElem_cons_succ, List.getElem_cons_zero])
            have FN := Lib.hid (S18.out.fin HKe.out)
            have BN := Lib.hid (B2.out.trans S18.out.bel)
            refine wpAnyH_take (i := 14) (oi := _) (v := ?_) rfl (by kernel_rfl) (by kernel_rfl) (by kernel_rfl) (fun _ _ _ h => h) (Or.inl ⟨by rfl, ?_⟩) (by assumption) ?_
            rotate_left
            · (intro w hSw; (try dsimp only at hSw); go_simp; try (with_reducible rfl))
            (try simp only [Act.put, List.setIfInBounds_toArray, List.set_cons_zero, List.set_cons_succ, List.getElem_toArray, List.getElem_cons_succ, List.getElem_cons_zero])
            refine wpAnyH_take (i := 15) (oi := _) (v := ?_) rfl (by kernel_rfl) (by kernel_rfl) (by kernel_rfl) (fun _ _ _ h => h) (Or.inl ⟨by rfl, ?_⟩) (by assumption) ?_
            rotate_left
            · (intro w hSw; (try dsimp only at hSw); go_simp; try (with_reducible rfl))
            (try simp only [Act.put, List.setIfInBounds_toArray, List.set_cons_zero, List.set_cons_succ, List.getElem_toArray, List.getElem_cons_succ, List.getElem_cons_zero])
            refine wpAnyH_done (by kernel_rfl) ?_ _
            (try simp only [List.getElem_toArray, List.getElem_cons_succ, List.getElem_cons_zero, Act.put, List.setIfInBounds_toArray, List.set_cons_zero, List.set_cons_succ])
            go_wp2_with fail
            go_roundw
            case rel => exact ⟨k + 1, by go_num, by omega, FN.out.1, FN.out.2, BN⟩
            case measure => simp [intOf]; omega
        · go_simp
          have S19 := Lib.hid (S0.out.op12 (g0 := V.heap.size) rfl)
          refine hK.out _ _ ?_ (fun hHeldN => ?_)
          · exact S19.out.held
          clear hHeld hK K
          have hHeld := hHeldN
          clear hHeldN
          (try simp only [Act.put, List.setIfInBounds_toArray, List.set_cons_zero, List.set_cons_succ, List.getElem_toArray, List.getElem_cons_succ, List.getElem_cons_zero])
          refine wpAnyH_ready (rs := [2]) (by kernel_rfl) (by simp) ?_
          refine (AllReadyH.cons (o := _) rfl (fun K hK => ?_) AllReadyH.nil)
          go_simp
          have S20 := Lib.hid (S19.out.op2 (g0 := V.heap.size + 1) (by simp))
          refine hK.out _ _ ?_ (fun hHeldN => ?_)
          · exact S20.out.held
          clear hHeld hK K
          have hHeld := hHeldN
          clear hHeldN
          (try simp only [Act.put, List.setIfInBounds_toArray, List.set_cons_zero, List.set_cons_succ, List.getElem_toArray, List.getElem_cons_succ, List.getElem_cons_zero])
          refine wpAnyH_ready (rs := [3]) (by kernel_rfl) (by simp) ?_
          refine (AllReadyH.cons (o := _) rfl (fun K hK => ?_) AllReadyH.nil)
          obtain ⟨i0, hi0, hz0, hz1, hz2⟩ := info_parts voice_info
          refine step_append_lies _ (by rfl) (.tmp 24) (.tmp 26) 89 (by rfl) w.heap.size 93 i0 _ 4 80 Try.underlying89 hi0 hz0 hz1 hz2 rfl (by omega) _ KL.length (flatV KL) (by rfl) S20.out.vOwn ⟨_, 0, none⟩ 1 1 (voC m) (by rfl) (by rfl) S20.out.vNews (voC_one m) (by omega) (by simp only [maxLen]; omega) (by omega) S20.out.size _ rfl ?_
          intro gg cap w4 hown4 hgrow hat hlt4
          have S21 := Lib.hid (S20.out.op3 hown4 hgrow hat)
          clear hown4 hgrow hat hlt4
          refine hK.out _ _ ?_ (fun hHeldN => ?_)
          · exact S21.out.held
          clear hHeld hK K
          have hHeld := hHeldN
          clear hHeldN
          (try simp only [Act.put, List.setIfInBounds_toArray, List.set_cons_zero, List.set_cons_succ, List.getElem_toArray, List.getElem_cons_succ, List.getElem_cons_zero])
          refine wpAnyH_ready (rs := [13]) (by kernel_rfl) (by simp) ?_
          refine (AllReadyH.cons (o := _) rfl (fun K hK => ?_) AllReadyH.nil)
          obtain ⟨i0, hi0, hz0, hz1, hz2⟩ := info_parts int_info
          refine step_append_lies _ (by rfl) (.tmp 28) (.tmp 36) 36 (by rfl) w.heap.size 3 i0 _ 1 8 Try.underlying36 hi0 hz0 hz1 hz2 rfl (by omega) _ KL.length (trs KL) (by rfl) S21.out.tOwn ⟨_, 0, none⟩ 1 1 [.int .i64 m.v.tr] (by rfl) (by rfl) S21.out.tNews (by simp [Value.oneCell']) (by omega) (by simp only [maxLen]; omega) (by omega) S21.out.size _ rfl ?_
          intro gg cap w4 hown4 hgrow hat hlt4
          have S22 := Lib.hid (S21.out.op13 hown4 hgrow hat)
          clear hown4 hgrow hat hlt4
          refine hK.out _ _ ?_ (fun hHeldN => ?_)
          · exact S22.out.held
          clear hHeld hK K
          have hHeld := hHeldN
          clear hHeldN
          (try simp only [Act.put, List.setIfInBounds_toArray, List.set_cons_zero, List.set_cons_succ, List.getElem_toArray, List.getElem_cons_succ, List.getElem_cons_zero])
          have FN := Lib.hid (S22.out.fin HKe.out)
          have BN := Lib.hid (B2.out.trans S22.out.bel)
          refine wpAnyH_take (i := 14) (oi := _) (v := ?_) rfl (by kernel_rfl) (by kernel_rfl) (by kernel_rfl) (fun _ _ _ h => h) (Or.inl ⟨by rfl, ?_⟩) (by assumption) ?_
          rotate_left
          · (intro w hSw; (try dsimp only at hSw); go_simp; try (with_reducible rfl))
          (try simp only [Act.put, List.setIfInBounds_toArray, List.set_cons_zero, List.set_cons_succ, List.getElem_toArray, List.getElem_cons_succ, List.getElem_cons_zero])
          refine wpAnyH_take (i := 15) (oi := _) (v := ?_) rfl (by kernel_rfl) (by kernel_rfl) (by kernel_rfl) (fun _ _ _ h => h) (Or.inl ⟨by rfl, ?_⟩) (by assumption) ?_
          rotate_left
          · (intro w hSw; (try dsimp only at hSw); go_simp; try (with_reducible rfl))
          (try simp only [Act.put, List.setIfInBounds_toArray, List.set_cons_zero, List.set_cons_succ, List.getElem_toArray, List.getElem_cons_succ, List.getElem_cons_zero])
          refine wpAnyH_done (by kernel_rfl) ?_ _
          (try simp only [List.getElem_toArray, List.getElem_cons_succ, List.getElem_cons_zero, Act.put, List.setIfInBounds_toArray, List.set_cons_zero, List.set_cons_succ])
          go_wp2_with fail
          go_roundw
          case rel => exact ⟨k + 1, by go_num, by omega, FN.out.1, FN.out.2, BN⟩
          case measure => simp [intOf]; omega
      · rw [hf, if_pos rfl, List.append_nil] at HKe
        clear hf
        have HB2 : Hid (Below w.heap.size w (W1.drewN nd)) := below_drewN B1.out _
        have HV2 : Hid ((W1.drewN nd).ownsRow w.heap.size 93 4 u4 (keepF f 0 (ms.take (k + 1))).length (flatV (keepF f 0 (ms.take (k + 1))))) := Lib.hid (by rw [HKe.out]; exact V1.out)
        have HT2 : Hid ((W1.drewN nd).ownsRow w.heap.size 3 1 u5 (keepF f 0 (ms.take (k + 1))).length (trs (keepF f 0 (ms.take (k + 1))))) := Lib.hid (by rw [HKe.out]; exact T1.out)
        clear N1 V1 T1 V7 P10 T10 B1 HKe
        go_wp2_with fail
        go_roundw
        case rel => exact ⟨k + 1, by go_num, by omega, HV2, HT2, HB2⟩
        case measure => simp [intOf]; omega
    · obtain rfl : k = ms.length := by omega
      have HV2 := Lib.hid hv.out
      have HT2 := Lib.hid ht.out
      have HB2 := Lib.hid hb.out
      rw [List.take_length] at HV2 HT2
      clear hv ht hb
      have H1 := Lib.hid (H.out.new HB2.out)
      have hv3 := owns_lower (lo' := base) HV2.out (Nat.le_trans H.out.hs H.out.bel.size)
      have ht3 := owns_lower (lo' := base) HT2.out (Nat.le_trans H.out.hs H.out.bel.size)
      have hvo : ∀ m ∈ keepF f 0 ms, VmIn wr base c.fb m := fun m hm => H1.out.vo m ((keepF_sub f ms 0).subset hm)
      have hap : Apart (keepF f 0 ms) := List.Pairwise.sublist (keepF_sub f ms 0) H1.out.apart
      have HN := Lib.hid (H1.out.setRows hv3 ht3 hvo hap)
      have c9 := (pl_cells H1.out.box).2.2.2.2.2.2.2.2.2.1
      have c10 := (pl_cells H1.out.box).2.2.2.2.2.2.2.2.2.2.1
      have f9 := free_cells H1.out.box 9
      have f10 := free_cells H1.out.box 10
      clear hv3 ht3 hvo hap
      obtain ⟨VA', vc', rfl⟩ := owns_form HV2.out
      obtain ⟨TA', tc', rfl⟩ := owns_form HT2.out
      go_wp2_with fail
      go_end0
      exact ⟨rfl, _, _, HN.out, grown_trans (grown_trans ⟨HB2.out.os, HB2.out.tape, HB2.out.output, HB2.out.size, fun i hi _ => HB2.out.block i hi⟩ (grown_set _ _)) (grown_set _ _)⟩
end Go.Proofs.Ytndnfhhdflmfcaa

/-
impl.player.happen: a strike.
-/
namespace Go.Proofs.Ytndnfhhdflmfcaa
open Go Go.RowKit Ieee

/-- The boxes of happen's parameters. -/
structure HIn (w : World) (P pb eb : Nat) (e : Ev) : Prop where
  bp : w.heap[pb]? = some (.cells #[.pointer (some ⟨P, 0, none⟩)] 84 (0, 0))
  be : w.heap[eb]? = some (.cells #[.int .i64 e.1, .int .i64 e.2.1, .int .i64 e.2.2.1, .int .i64 e.2.2.2.1, .int .i64 e.2.2.2.2.1, .float .f32 e.2.2.2.2.2] 48 (0, 0))
section
variable {w w' : World} {P pb eb : Nat} {e : Ev}
theorem HIn.new (h : HIn w P pb eb e) (hb : Below w.heap.size w w') : HIn w' P pb eb e := ⟨(hb.block _ (lt_of_some h.bp)).trans h.bp, (hb.block _ (lt_of_some h.be)).trans h.be⟩
theorem HIn.drewN (h : HIn w P pb eb e) (n : Nat) : HIn (w.drewN n) P pb eb e := ⟨h.bp, h.be⟩
theorem HIn.alloc (h : HIn w P pb eb e) (o : Obj) : HIn (w.alloc o) P pb eb e := h.new ((Below.refl w.heap.size w).alloc (Nat.le_refl _) o)
theorem HIn.grown {r : Option Nat} (h : HIn w P pb eb e) (hg : w.grownBy w' r) (hr : ∀ k, r = some k → ∃ cs t f, w.heap[k]? = some (.cells cs t f) ∧ 84 ≠ t ∧ 48 ≠ t) : HIn w' P pb eb e := by
  refine ⟨(hg.block _ (lt_of_some h.bp) (fun q => ?_)).trans h.bp, (hg.block _ (lt_of_some h.be) (fun q => ?_)).trans h.be⟩
  · obtain ⟨cs, t, f, h1, h2, _⟩ := hr _ q.symm
    exact ty_ne h.bp h1 h2 rfl
  · obtain ⟨cs, t, f, h1, _, h2⟩ := hr _ q.symm
    exact ty_ne h.be h1 h2 rfl
theorem HIn.setP (h : HIn w P pb eb e) {cs : Array Value} {f : Nat × Nat} (hP : w.heap[P]? = some (.cells cs 91 f)) (i : Nat) (v : Value) : HIn (w.setCell ⟨P, i, none⟩ v) P pb eb e :=
  h.grown (grown_set _ _) fun k q => by
    injection q with q
    subst q
    exact ⟨cs, _, f, hP, by decide, by decide⟩
end
def bmOf (bs : List Bd) (i : Int) : List MW := (bodAt bs i.toNat).2.2
/-- What happen does. -/
def HapP (w0 : World) (P : Nat) (c : Pc) (done now : Nat) (ms : List Vm) (begun : Int) (e : Ev) (r : Ending) (w' : World) : Prop :=
  r = .returned (.tuple #[]) ∧ ∃ vV' vT' ms' b', PlIn w0 w' w0.heap.size P c done now vV' vT' ms' b' ∧ (⟨ms'.map Vm.v, b'⟩ : Pl) = (⟨ms.map Vm.v, begun⟩ : Pl).happen (bmOf c.bs) c.s.2.1 e
theorem keepF_zero (L : List Vm) : keepF (fun i => i == 0) 0 L = L.drop 1 := by
  cases L with
  | nil => rfl
  | cons m L =>
    have key : ∀ (L : List Vm) (i : Nat), 0 < i → keepF (fun i => i == 0) i L = L := by
      intro L
      induction L with
      | nil => intro i _; rfl
      | cons x L ih =>
        intro i hi
        simp only [keepF]
        rw [if_neg (by simp; omega), ih (i + 1) (by omega)]
    simp only [keepF]
    rw [key L 1 (by omega)]
    simp
set_option maxHeartbeats 400000 in
theorem isFirst_any (i : Nat) (W : World) (hi : i ≤ 100) : Calls Try.prog 104 #[.int .i64 i] W fun e w' => e = .returned (.bool (i == 0)) ∧ ∃ n, W.drewN n = w' := by
  by_cases h : i = 0
  · subst h
    go_enter Try.func104, Try.ntmps104
    go_wp2_with fail
    go_ret
    exact ⟨rfl, 0, rfl⟩
  · have h1 : ((i : Int) == 0) = false := by simp; omega
    have h2 : (i == 0) = false := by simp; omega
    have H2 := Lib.hid h2
    clear h2
    go_enter Try.func104, Try.ntmps104
    go_wp2_with fail
    go_ret
    exact ⟨by rw [H2.out]; rfl, 0, rfl⟩

/-- A new voice. -/
theorem new_voice {W : World} {base lo hi g n1 : Nat} {MB IA : Option Addr} {mcb ic kn n f : Nat} {mds : List MW} {ys : List Nat} {e : Ev} {begun : Int} {F : Nat → Value} {fb : Nat → Prop} (h1 : OwnM W lo hi MB mcb mds) (h2 : base ≤ lo) (h3 : W.rowIs g 72 mds.length F) (h4 : base ≤ g ∧ hi ≤ g ∧ (∀ i, F i = .complex .f32 0 0))
    (h5 : W.ownsRow n1 31 1 (.slice IA ys.length ic) ys.length (f32s ys)) (h6 : base ≤ n1) (h7 : ys = forcedW kn n f) (h8 : 0 < n ∧ kn = e.2.2.2.1.toNat ∧ n = e.2.2.2.2.1.toNat ∧ f = e.2.2.2.2.2) (h9 : ∀ b, fb b → b < n1) : VmIn W base fb ⟨Vp.new mds e begun, MB, mcb, g, IA, ic⟩ := by
  obtain ⟨h4, h4', h4''⟩ := h4
  obtain ⟨h8, rfl, rfl, rfl⟩ := h8
  subst h7
  have hl := forcedW_len e.2.2.2.1.toNat e.2.2.2.2.1.toNat e.2.2.2.2.2
  refine ⟨owns_lower h1.1 h2, fun k q => Nat.lt_of_lt_of_le (h1.2 k q) h4', h3.congr fun i hi' => ?_, h4, RdT.of h5 h6 h9, ?_⟩
  · have hi'' : i < mds.length := hi'
    rw [h4'']
    simp [Vp.new, sAt, List.getD, hi'', sV]
  · rcases h5.2 with ⟨_, q⟩ | ⟨G, cap, cur, q, _, _, q4, q5, _⟩
    · rw [hl] at q; omega
    · injection q with _ _ q3
      show (forcedW _ _ _).length ≤ ic ∧ ic ≤ maxLen
      subst q3
      exact ⟨q4, q5⟩
/-- What the walk of a strike carries. -/
structure SIn (w0 w : World) (P pb eb : Nat) (c : Pc) (done now : Nat) (ms : List Vm) (begun : Int) (e : Ev) (vV vT : Value) : Prop where
  pl : PlIn w0 w w0.heap.size P c done now vV vT ms begun
  hi : HIn w P pb eb e
theorem SIn.new {w0 w w' : World} {P pb eb : Nat} {c : Pc} {done now : Nat} {ms : List Vm} {begun : Int} {e : Ev} {vV vT : Value} (h : SIn w0 w P pb eb c done now ms begun e vV vT) (hb : Below w.heap.size w w') : SIn w0 w' P pb eb c done now ms begun e vV vT := ⟨h.pl.new hb, h.hi.new hb⟩

set_option maxRecDepth 100000 in
set_option maxHeartbeats 6400000 in
theorem strike_any {w0 w : World} {P done now t : Nat} {c : Pc} {vV vT : Value} {ms : List Vm} {begun L : Int} {lo : Nat} (e : Ev) (h : PlIn w0 w w0.heap.size P c done now vV vT ms begun) (hbods : BodsIn w0 lo w0.heap.size c.B c.bs) (hbo : BodsOk c.bs 4 3) (he : EvOk L c.bs.length e) (hk : e.2.1 = 1)
    (hv1 : 1 ≤ c.s.2.1) (hv2 : c.s.2.1 ≤ 8) (hms : (ms.length : Int) ≤ c.s.2.1) (hb0 : 0 ≤ begun) (hb1 : begun ≤ 100) :
    Calls Try.prog 78 #[.pointer (some ⟨P, 0, none⟩), .agg #[.int .i64 e.1, .int .i64 e.2.1, .int .i64 e.2.2.1, .int .i64 e.2.2.2.1, .int .i64 e.2.2.2.2.1, .float .f32 e.2.2.2.2.2]] w (HapP w0 P c done now ms begun e) := by
  obtain ⟨at', kd, bo, sh, co, fo'⟩ := e
  simp only at hk
  subst hk
  have hW := Lib.hid (SIn.mk (h.alloc (.cells #[.pointer (some ⟨P, 0, none⟩)] 84) |>.alloc (.cells #[.int .i64 at', .int .i64 1, .int .i64 bo, .int .i64 sh, .int .i64 co, .float .f32 fo'] 48))
    (pb := w.heap.size) (eb := w.heap.size + 1) (e := (at', 1, bo, sh, co, fo')) ⟨(Below.heap_alloc _ _ _ (by simp)).trans (heap_alloc_new w _), by
      have := heap_alloc_new (w.alloc (.cells #[.pointer (some ⟨P, 0, none⟩)] 84)) (.cells #[.int .i64 at', .int .i64 1, .int .i64 bo, .int .i64 sh, .int .i64 co, .float .f32 fo'] 48)
      rwa [show (w.alloc (.cells #[.pointer (some ⟨P, 0, none⟩)] 84)).heap.size = w.heap.size + 1 by simp] at this⟩)
  have HB := Lib.hid hbods
  have HBo := Lib.hid hbo
  have HE := Lib.hid he
  clear h hbods hbo he
  go_enter Try.func78, Try.ntmps78
  go_wp2_with fail
  generalize (w.alloc (.cells #[.pointer (some ⟨P, 0, none⟩)] 84)).alloc (.cells #[.int .i64 at', .int .i64 1, .int .i64 bo, .int .i64 sh, .int .i64 co, .float .f32 fo'] 48) = W at *
  generalize w.heap.size + 1 = eb at *
  generalize w.heap.size = pb at *
  obtain ⟨VA, vc, rfl⟩ := owns_form hW.out.pl.vrow
  have c0 := cell_of_row W pb 0 _ _ (0, 0) hW.out.hi.bp
  have cP := pl_cells hW.out.pl.box
  have c9 := cP.2.2.2.2.2.2.2.2.2.1
  have c1 := cP.2.1
  clear cP
  go_quiet (fail)
  have hW1 := Lib.hid (hW.out.new (below_drewN (Below.refl _ _) nq))
  clear c0 c1 c9 hW
  go_upto_if 24 with fail
  go_cut [] from 14 (fun wx => ∃ vV' vT' ms', Hid (SIn w0 wx P pb eb c done now ms' begun (at', 1, bo, sh, co, fo') vV' vT') ∧ Hid (ms' = if c.s.2.1 ≤ (ms.length : Int) then ms.drop 1 else ms))
  case first =>
    have c0 := cell_of_row _ pb 0 _ _ (0, 0) hW1.out.hi.bp
    by_cases hfull : c.s.2.1 ≤ (ms.length : Int)
    · have hd : decide (c.s.2.1 ≤ (ms.length : Int)) = true := by simpa using hfull
      have HF : Hid ((if c.s.2.1 ≤ (ms.length : Int) then ms.drop 1 else ms) = ms.drop 1) := Lib.hid (if_pos hfull)
      go_wp2_with fail
      refine (remove1_any (fun i => i == 0) _ hW1.out.pl (by omega) (fun i hi W' _ => isFirst_any i W' (by omega))).mono ?_
      rintro r W2 ⟨rfl, vV', vT', hp, hg⟩
      rw [keepF_zero] at hp
      have HS : Hid (SIn w0 W2 P pb eb c done now (ms.drop 1) begun (at', 1, bo, sh, co, fo') vV' vT') := ⟨hp, hW1.out.hi.grown hg fun k q => by
        injection q with q
        subst q
        exact ⟨_, _, _, hW1.out.pl.box, by decide, by decide⟩⟩
      clear hp hg c0
      go_wp2_with fail
      go_meet
      case rel => exact ⟨_, _, _, HS, Lib.hid HF.out.symm⟩
    · have hd : decide (c.s.2.1 ≤ (ms.length : Int)) = false := by simpa using hfull
      have HF : Hid ((if c.s.2.1 ≤ (ms.length : Int) then ms.drop 1 else ms) = ms) := Lib.hid (if_neg hfull)
      go_wp2_with fail
      go_meet
      case rel => exact ⟨_, _, ms, hW1, Lib.hid HF.out.symm⟩
  case rest =>
    clear hW1
    obtain ⟨vV2, vT2, ms', HS, HM⟩ := hcut
    have hml : ms'.length ≤ 8 := by
      rw [HM.out]
      split
      · simp; omega
      · omega
    have hsh : (0 ≤ sh ∧ sh < 3) ∧ 1 ≤ co ∧ co ≤ 9 := by
      rcases HE.out.kind with ⟨_, h⟩ | ⟨h, _⟩ | ⟨h, _⟩
      · exact h
      · exact absurd h (by simp)
      · exact absurd h (by simp)
    obtain ⟨kn, rfl⟩ : ∃ k : Nat, sh = k := ⟨sh.toNat, by omega⟩
    obtain ⟨n, rfl⟩ : ∃ k : Nat, co = k := ⟨co.toNat, by omega⟩
    have e3 := cell_of_row _ eb 3 _ _ (0, 0) HS.out.hi.be
    have e4 := cell_of_row _ eb 4 _ _ (0, 0) HS.out.hi.be
    go_wp2_with fail
    refine (shape_any kn n _ (by omega) (by omega)).mono ?_
    rintro r W3 ⟨ts, rfl, hrow, hts, hb3⟩
    have HS3 := Lib.hid (HS.out.new hb3)
    obtain rfl := hts.1
    have HTS := Lib.hid hts
    have HRow : Hid (Rd W3 (some ⟨wc.heap.size, 0, none⟩) (f32s ts)) := Lib.hid (rowIs_rd hrow rfl)
    clear hrow hts hb3 HS e3 e4
    go_wp2_with fail
    have hbo0 : 0 ≤ bo := HE.out.b0
    have hbo1 : bo < (c.bs.length : Int) := HE.out.b1
    obtain ⟨bi, rfl⟩ : ∃ k : Nat, bo = k := ⟨bo.toNat, by omega⟩
    have hbi : bi < c.bs.length := by omega
    have hbl := HBo.out.1
    have HBW := Lib.hid (HB.out.below HS3.out.pl.bel)
    obtain ⟨bb, off, hBA, hbb, hbc⟩ := HBW.out.rd (by simp; omega)
    have hb6 := hbc bi (bodV (bodAt c.bs bi)) (by simp [bodAt, List.getD, List.getElem?_eq_getElem hbi])
    have HOM := Lib.hid (HBW.out.row bi hbi)
    have HMS := Lib.hid (HBo.out.2 bi hbi)
    have HBM : Hid (bmOf c.bs (bi : Int) = (bodAt c.bs bi).2.2) := rfl
    unfold bodV at hb6
    generalize bodAt c.bs bi = bd at *
    obtain ⟨MA, mc, mds⟩ := bd
    have hml4 : mds.length ≤ 4 := HMS.out.2
    have p4 := (pl_cells HS3.out.pl.box).2.2.2.2.1
    rw [hBA] at p4
    have HH : Hid (c.s.2.1 = c.s.2.1) := rfl
    have j1 : (bi : Int) < (c.bs.length : Int) := by omega
    have HC : Hid (∀ W', Below W3.heap.size W3 W' → W'.cell? ⟨pb, 0, none⟩ = some (.pointer (some ⟨P, 0, none⟩)) ∧ W'.cell? ⟨P, 4, none⟩ = some (.slice (some ⟨bb, off, none⟩) c.bs.length c.cb) ∧ W'.cell? ⟨eb, 2, none⟩ = some (.int .i64 bi) ∧ W'.cell? ⟨bb, off + bi, none⟩ = some (.slice MA mds.length mc)) := fun W' hb =>
      ⟨cell_of_row _ pb 0 _ _ (0, 0) (HS3.out.new hb).hi.bp, (World.cell?_of_block (hb.block _ (lt_of_some HS3.out.pl.box))).trans p4, cell_of_row _ eb 2 _ _ (0, 0) (HS3.out.new hb).hi.be, (World.cell?_of_block (hb.block _ hbb)).trans hb6⟩
    clear hbc hb6 p4 hbo0 hbo1
    refine wp_region_held_drew (S := fun w' => w'.cell? ⟨pb, 0, none⟩ = some (.pointer (some ⟨P, 0, none⟩)) ∧ w'.cell? ⟨P, 4, none⟩ = some (.slice (some ⟨bb, off, none⟩) c.bs.length c.cb) ∧ w'.cell? ⟨eb, 2, none⟩ = some (.int .i64 bi) ∧ w'.cell? ⟨bb, off + bi, none⟩ = some (.slice MA mds.length mc)) (by kernel_rfl) (HC.out W3 (Below.refl _ _)) (fun hHeld => ?_)
    refine wpAnyH_take (i := 0) (oi := _) (v := ?_) rfl (by kernel_rfl) (by kernel_rfl) (by kernel_rfl) (fun _ _ _ h => h) (Or.inl ⟨by rfl, ?_⟩) (by assumption) ?_
    rotate_left
    · (intro w hSw; (try dsimp only at hSw); go_simp; try (with_reducible rfl))
    (try simp only [Act.put, List.setIfInBounds_toArray, List.set_cons_zero, List.set_cons_succ, List.getElem_toArray, List.getElem_cons_succ, List.getElem_cons_zero])
    refine wpAnyH_take (i := 1) (oi := _) (v := ?_) rfl (by kernel_rfl) (by kernel_rfl) (by kernel_rfl) (fun _ _ _ h => h) (Or.inl ⟨by rfl, ?_⟩) (by assumption) ?_
    rotate_left
    · (intro w hSw; (try dsimp only at hSw); go_simp; try (with_reducible rfl))
    (try simp only [Act.put, List.setIfInBounds_toArray, List.set_cons_zero, List.set_cons_succ, List.getElem_toArray, List.getElem_cons_succ, List.getElem_cons_zero])
    refine wpAnyH_take (i := 2) (oi := _) (v := ?_) rfl (by kernel_rfl) (by kernel_rfl) (by kernel_rfl) (fun _ _ _ h => h) (Or.inl ⟨by rfl, ?_⟩) (by assumption) ?_
    rotate_left
    · (intro w hSw; (try dsimp only at hSw); go_simp; try (with_reducible rfl))
    (try simp only [Act.put, List.setIfInBounds_toArray, List.set_cons_zero, List.set_cons_succ, List.getElem_toArray, List.getElem_cons_succ, List.getElem_cons_zero])
    refine wpAnyH_take (i := 3) (oi := _) (v := ?_) rfl (by kernel_rfl) (by kernel_rfl) (by kernel_rfl) (fun _ _ _ h => h) (Or.inl ⟨by rfl, ?_⟩) (by assumption) ?_
    rotate_left
    · (intro w hSw; (try dsimp only at hSw); go_simp; try (with_reducible rfl))
    (try simp only [Act.put, List.setIfInBounds_toArray, List.set_cons_zero, List.set_cons_succ, List.getElem_toArray, List.getElem_cons_succ, List.getElem_cons_zero])
    refine wpAnyH_take (i := 4) (oi := _) (v := ?_) rfl (by kernel_rfl) (by kernel_rfl) (by kernel_rfl) (fun _ _ _ h => h) (Or.inl ⟨by rfl, ?_⟩) (by assumption) ?_
    rotate_left
    · (intro w hSw; (try dsimp only at hSw); go_simp; try (with_reducible rfl))
    (try simp only [Act.put, List.setIfInBounds_toArray, List.set_cons_zero, List.set_cons_succ, List.getElem_toArray, List.getElem_cons_succ, List.getElem_cons_zero])
    refine wpAnyH_take (i := 5) (oi := _) (v := ?_) rfl (by kernel_rfl) (by kernel_rfl) (by kernel_rfl) (fun _ _ _ h => h) (Or.inl ⟨by rfl, ?_⟩) (by assumption) ?_
    rotate_left
    · (intro w hSw; (try dsimp only at hSw); go_simp; try (with_reducible rfl))
    (try simp only [Act.put, List.setIfInBounds_toArray, List.set_cons_zero, List.set_cons_succ, List.getElem_toArray, List.getElem_cons_succ, List.getElem_cons_zero])
    refine wpAnyH_take (i := 6) (oi := _) (v := ?_) rfl (by kernel_rfl) (by kernel_rfl) (by kernel_rfl) (fun _ _ _ h => h) (Or.inl ⟨by rfl, ?_⟩) (by assumption) ?_
    rotate_left
    · (intro w hSw; (try dsimp only at hSw); go_simp; try (with_reducible rfl))
    (try simp only [Act.put, List.setIfInBounds_toArray, List.set_cons_zero, List.set_cons_succ, List.getElem_toArray, List.getElem_cons_succ, List.getElem_cons_zero])
    refine wpAnyH_take (i := 7) (oi := _) (v := ?_) rfl (by kernel_rfl) (by kernel_rfl) (by kernel_rfl) (fun _ _ _ h => h) (Or.inl ⟨by rfl, ?_⟩) (by assumption) ?_
    rotate_left
    · (intro w hSw; (try dsimp only at hSw); go_simp; try (with_reducible rfl))
    (try simp only [Act.put, List.setIfInBounds_toArray, List.set_cons_zero, List.set_cons_succ, List.getElem_toArray, List.getElem_cons_succ, List.getElem_cons_zero])
    refine wpAnyH_take (i := 8) (oi := _) (v := ?_) rfl (by kernel_rfl) (by kernel_rfl) (by kernel_rfl) (fun _ _ _ h => h) (Or.inl ⟨by rfl, ?_⟩) (by assumption) ?_
    rotate_left
    · (intro w hSw; (try dsimp only at hSw); go_simp; try (with_reducible rfl))
    (try simp only [Act.put, List.setIfInBounds_toArray, List.set_cons_zero, List.set_cons_succ, List.getElem_toArray, List.getElem_cons_succ, List.getElem_cons_zero])
    refine wpAnyH_take (i := 9) (oi := _) (v := ?_) rfl (by kernel_rfl) (by kernel_rfl) (by kernel_rfl) (fun _ _ _ h => h) (Or.inl ⟨by rfl, ?_⟩) (by assumption) ?_
    rotate_left
    · (intro w hSw; (try dsimp only at hSw); go_simp; try (with_reducible rfl))
    (try simp only [Act.put, List.setIfInBounds_toArray, List.set_cons_zero, List.set_cons_succ, List.getElem_toArray, List.getElem_cons_succ, List.getElem_cons_zero])
    refine wpAnyH_ready (rs := [10]) (by kernel_rfl) (by simp) ?_
    refine AllReadyH.cons (o := _) rfl (fun K hK => ?_) AllReadyH.nil
    go_simp
    refine (clone_any MA mc _ _ mds (W3.drewN 1) HOM.out (by omega)).mono ?_
    intro r W4 hp
    unfold CloneP at hp
    obtain ⟨MB, mcb, rfl, hoB, hbB⟩ := hp
    have HB4 := Lib.hid (below_of_drew hbB)
    have HO4 := Lib.hid hoB
    clear hoB hbB
    go_wp2_with fail
    refine hK.out _ _ ?_ (fun hHeldN => ?_)
    · exact HC.out W4 HB4.out
    clear hHeld hK K
    have hHeld := hHeldN
    clear hHeldN
    (try simp only [Act.put, List.setIfInBounds_toArray, List.set_cons_zero, List.set_cons_succ, List.getElem_toArray, List.getElem_cons_succ, List.getElem_cons_zero])
    refine wpAnyH_take (i := 11) (oi := _) (v := ?_) rfl (by kernel_rfl) (by kernel_rfl) (by kernel_rfl) (fun _ _ _ h => h) (Or.inl ⟨by rfl, ?_⟩) (by assumption) ?_
    rotate_left
    · (intro w hSw; (try dsimp only at hSw); go_simp; try (with_reducible rfl))
    (try simp only [Act.put, List.setIfInBounds_toArray, List.set_cons_zero, List.set_cons_succ, List.getElem_toArray, List.getElem_cons_succ, List.getElem_cons_zero])
    refine wpAnyH_done (by kernel_rfl) ?_ _
    (try simp only [List.getElem_toArray, List.getElem_cons_succ, List.getElem_cons_zero, Act.put, List.setIfInBounds_toArray, List.set_cons_zero, List.set_cons_succ])
    have HS4 := Lib.hid (HS3.out.new HB4.out)
    have HRow4 := Lib.hid (HRow.out.below HB4.out)
    have HAP : Hid (∀ a ∈ ms', (∀ k, a.mod.ownBlock = some k → k < W3.heap.size) ∧ a.S < W3.heap.size) := Lib.hid (fun a ha => ⟨fun k q => ((HS3.out.pl.vo a ha).mod.lt k q).2, (HS3.out.pl.vo a ha).sts.lt⟩)
    have hz34 : W3.heap.size ≤ W4.heap.size := HB4.out.size
    have hz03 : w0.heap.size ≤ W3.heap.size := HS3.out.pl.bel.size
    clear HC HBW hBA hbb HRow HOM HS3
    go_wp2_with fail
    obtain ⟨VA2, vc2, rfl⟩ := owns_form HS4.out.pl.vrow
    have hmk := fun W => run_make_row' (P := Try.prog) 76 72 (.complex .f32 0 0) 8 Try.underlying76 c64_info rfl .i64 .i64 mds.length (by omega) (by omega) W
    have HC : Hid (∀ W' cs, HIn W' P pb eb (at', 1, bi, kn, ts.length, fo') → W'.heap[P]? = some (.cells (plC c done now (.slice VA2 ms'.length vc2) cs begun) 91 (0, 0)) → W'.cell? ⟨pb, 0, none⟩ = some (.pointer (some ⟨P, 0, none⟩)) ∧ W'.cell? ⟨P, 9, none⟩ = some (.slice VA2 ms'.length vc2) ∧ W'.cell? ⟨eb, 2, none⟩ = some (.int .i64 bi) ∧ W'.cell? ⟨eb, 5, none⟩ = some (.float .f32 fo')) := Lib.hid (fun W' cs hb hx =>
      ⟨cell_of_row _ pb 0 _ _ (0, 0) hb.bp, (pl_cells hx).2.2.2.2.2.2.2.2.2.1, cell_of_row _ eb 2 _ _ (0, 0) hb.be, cell_of_row _ eb 5 _ _ (0, 0) hb.be⟩)
    have HS5 : Hid (SIn w0 W4.drew P pb eb c done now ms' begun (at', 1, bi, kn, ts.length, fo') (.slice VA2 ms'.length vc2) vT2) := HS4.out.new (below_drewN (Below.refl _ _) 1)
    have HO5 : Hid (OwnM W4.drew (W3.drewN 1).heap.size W4.drew.heap.size MB mcb mds) := HO4
    have HRow5 : Hid (Rd W4.drew (some ⟨wc.heap.size, 0, none⟩) (f32s ts)) := HRow4
    have hz5 : W3.heap.size ≤ W4.drew.heap.size := hz34
    have HMB : Hid (∀ k, (Value.slice MB mds.length mcb).ownBlock = some k → W3.heap.size ≤ k) := Lib.hid (fun k q => (HO4.out.1.lt k q).1)
    refine wp_region_last (fun w' => w'.cell? ⟨pb, 0, none⟩ = some (.pointer (some ⟨P, 0, none⟩)) ∧ w'.cell? ⟨P, 9, none⟩ = some (.slice VA2 ms'.length vc2) ∧ w'.cell? ⟨eb, 2, none⟩ = some (.int .i64 bi) ∧ w'.cell? ⟨eb, 5, none⟩ = some (.float .f32 fo')) 20 (by kernel_rfl) (HC.out _ _ HS5.out.hi HS5.out.pl.box) (fun hHeld => ?_)
    clear HS4 HO4 HRow4 hz34
    generalize W4.drew = W5 at *
    refine wpAnyX_take [0, 18, 19, 20] (i := 0) (oi := _) (v := ?_) rfl (by kernel_rfl) (by kernel_rfl) (by kernel_rfl) (by kernel_rfl) (fun _ _ _ h => h) (Or.inl ⟨by rfl, ?_⟩) (by assumption) ?_
    rotate_left
    · (intro w hSw; (try dsimp only at hSw); go_simp; try (with_reducible rfl))
    (try simp only [Act.put, List.setIfInBounds_toArray, List.set_cons_zero, List.set_cons_succ, List.getElem_toArray, List.getElem_cons_succ, List.getElem_cons_zero])
    refine wpAnyX_take [1, 2, 3, 4, 17, 20] (i := 1) (oi := _) (v := ?_) rfl (by kernel_rfl) (by kernel_rfl) (by kernel_rfl) (by kernel_rfl) (fun _ _ _ h => h) (Or.inl ⟨by rfl, ?_⟩) (by assumption) ?_
    rotate_left
    · (intro w hSw; (try dsimp only at hSw); go_simp; try (with_reducible rfl))
    (try simp only [Act.put, List.setIfInBounds_toArray, List.set_cons_zero, List.set_cons_succ, List.getElem_toArray, List.getElem_cons_succ, List.getElem_cons_zero])
    refine wpAnyX_take [2, 3, 4, 17, 20] (i := 2) (oi := _) (v := ?_) rfl (by kernel_rfl) (by kernel_rfl) (by kernel_rfl) (by kernel_rfl) (fun _ _ _ h => h) (Or.inl ⟨by rfl, ?_⟩) (by assumption) ?_
    rotate_left
    · (intro w hSw; (try dsimp only at hSw); go_simp; try (with_reducible rfl))
    (try simp only [Act.put, List.setIfInBounds_toArray, List.set_cons_zero, List.set_cons_succ, List.getElem_toArray, List.getElem_cons_succ, List.getElem_cons_zero])
    refine wpAnyX_take [3, 4, 17, 20] (i := 3) (oi := _) (v := ?_) rfl (by kernel_rfl) (by kernel_rfl) (by kernel_rfl) (by kernel_rfl) (fun _ _ _ h => h) (Or.inl ⟨by rfl, ?_⟩) (by assumption) ?_
    rotate_left
    · (intro w hSw; (try dsimp only at hSw); go_simp; try (with_reducible rfl))
    (try simp only [Act.put, List.setIfInBounds_toArray, List.set_cons_zero, List.set_cons_succ, List.getElem_toArray, List.getElem_cons_succ, List.getElem_cons_zero])
    refine wpAnyX_take [4, 17, 20] (i := 4) (oi := _) (v := ?_) rfl (by kernel_rfl) (by kernel_rfl) (by kernel_rfl) (by kernel_rfl) (fun _ _ _ h => h) (Or.inl ⟨by rfl, ?_⟩) (by assumption) ?_
    rotate_left
    · (intro w hSw; (try dsimp only at hSw); go_simp; try (with_reducible rfl))
    (try simp only [Act.put, List.setIfInBounds_toArray, List.set_cons_zero, List.set_cons_succ, List.getElem_toArray, List.getElem_cons_succ, List.getElem_cons_zero])
    refine wpAnyX_take [5, 6, 15, 16, 17, 20] (i := 5) (oi := _) (v := ?_) rfl (by kernel_rfl) (by kernel_rfl) (by kernel_rfl) (by kernel_rfl) (fun _ _ _ h => h) (Or.inl ⟨by rfl, ?_⟩) (by assumption) ?_
    rotate_left
    · (intro w hSw; (try dsimp only at hSw); go_simp; try (with_reducible rfl))
    (try simp only [Act.put, List.setIfInBounds_toArray, List.set_cons_zero, List.set_cons_succ, List.getElem_toArray, List.getElem_cons_succ, List.getElem_cons_zero])
    refine wpAnyX_take [6, 15, 16, 17, 20] (i := 6) (oi := _) (v := ?_) rfl (by kernel_rfl) (by kernel_rfl) (by kernel_rfl) (by kernel_rfl) (fun _ _ _ h => h) (Or.inl ⟨by rfl, ?_⟩) (by assumption) ?_
    rotate_left
    · (intro w hSw; (try dsimp only at hSw); go_simp; try (with_reducible rfl))
    (try simp only [Act.put, List.setIfInBounds_toArray, List.set_cons_zero, List.set_cons_succ, List.getElem_toArray, List.getElem_cons_succ, List.getElem_cons_zero])
    refine wpAnyX_take [7, 15, 16, 17, 20] (i := 7) (oi := _) (v := ?_) rfl (by kernel_rfl) (by kernel_rfl) (by kernel_rfl) (by kernel_rfl) (fun _ _ _ h => h) (Or.inl ⟨by rfl, ?_⟩) (by assumption) ?_
    rotate_left
    · (intro w hSw; (try dsimp only at hSw); go_simp; try (with_reducible rfl))
    (try simp only [Act.put, List.setIfInBounds_toArray, List.set_cons_zero, List.set_cons_succ, List.getElem_toArray, List.getElem_cons_succ, List.getElem_cons_zero])
    refine wpAnyX_take [8, 9, 10, 15, 16, 17, 20] (i := 8) (oi := _) (v := ?_) rfl (by kernel_rfl) (by kernel_rfl) (by kernel_rfl) (by kernel_rfl) (fun _ _ _ h => h) (Or.inl ⟨by rfl, ?_⟩) (by assumption) ?_
    rotate_left
    · (intro w hSw; (try dsimp only at hSw); go_simp; try (with_reducible rfl))
    (try simp only [Act.put, List.setIfInBounds_toArray, List.set_cons_zero, List.set_cons_succ, List.getElem_toArray, List.getElem_cons_succ, List.getElem_cons_zero])
    refine wpAnyX_take [9, 10, 15, 16, 17, 20] (i := 9) (oi := _) (v := ?_) rfl (by kernel_rfl) (by kernel_rfl) (by kernel_rfl) (by kernel_rfl) (fun _ _ _ h => h) (Or.inl ⟨by rfl, ?_⟩) (by assumption) ?_
    rotate_left
    · (intro w hSw; (try dsimp only at hSw); go_simp; try (with_reducible rfl))
    (try simp only [Act.put, List.setIfInBounds_toArray, List.set_cons_zero, List.set_cons_succ, List.getElem_toArray, List.getElem_cons_succ, List.getElem_cons_zero])
    refine wpAnyX_take [11, 14, 15, 16, 17, 20] (i := 11) (oi := _) (v := ?_) rfl (by kernel_rfl) (by kernel_rfl) (by kernel_rfl) (by kernel_rfl) (fun _ _ _ h => h) (Or.inl ⟨by rfl, ?_⟩) (by assumption) ?_
    rotate_left
    · (intro w hSw; (try dsimp only at hSw); go_simp; try (with_reducible rfl))
    (try simp only [Act.put, List.setIfInBounds_toArray, List.set_cons_zero, List.set_cons_succ, List.getElem_toArray, List.getElem_cons_succ, List.getElem_cons_zero])
    refine wpAnyX_take [12, 13, 14, 15, 16, 17, 20] (i := 12) (oi := _) (v := ?_) rfl (by kernel_rfl) (by kernel_rfl) (by kernel_rfl) (by kernel_rfl) (fun _ _ _ h => h) (Or.inl ⟨by rfl, ?_⟩) (by assumption) ?_
    rotate_left
    · (intro w hSw; (try dsimp only at hSw); go_simp; try (with_reducible rfl))
    (try simp only [Act.put, List.setIfInBounds_toArray, List.set_cons_zero, List.set_cons_succ, List.getElem_toArray, List.getElem_cons_succ, List.getElem_cons_zero])
    refine wpAnyX_take [13, 14, 15, 16, 17, 20] (i := 13) (oi := _) (v := ?_) rfl (by kernel_rfl) (by kernel_rfl) (by kernel_rfl) (by kernel_rfl) (fun _ _ _ h => h) (Or.inl ⟨by rfl, ?_⟩) (by assumption) ?_
    rotate_left
    · (intro w hSw; (try dsimp only at hSw); go_simp; try (with_reducible rfl))
    (try simp only [Act.put, List.setIfInBounds_toArray, List.set_cons_zero, List.set_cons_succ, List.getElem_toArray, List.getElem_cons_succ, List.getElem_cons_zero])
    refine wpAnyX_ready2 (i := 10) (j := 14) (by kernel_rfl) rfl rfl (fun K hK => ?_) (fun K hK => ?_)
    · go_simp
      have R5 := World.rowIs_made W5 (.complex .f32 0 0) mds.length 72
      have b5 : Below W5.heap.size W5 (W5.alloc (.cells (madeCells #[.complex .f32 0 0] mds.length) 72)) := (Below.refl W5.heap.size W5).alloc (Nat.le_refl _) _
      have HS6 := Lib.hid (HS5.out.new b5)
      have HRow6 := Lib.hid (HRow5.out.below b5)
      have HO6 := Lib.hid (HO5.out.below b5 (Nat.le_refl _))
      have HR6 := Lib.hid R5
      have hz6 := b5.size
      clear R5 b5 HS5 HRow5 HO5
      refine hK.out _ _ ?_ (fun hHeldN => ?_)
      · exact HC.out _ _ HS6.out.hi HS6.out.pl.box
      clear hHeld hK K
      have hHeld := hHeldN
      clear hHeldN
      (try simp only [Act.put, List.setIfInBounds_toArray, List.set_cons_zero, List.set_cons_succ, List.getElem_toArray, List.getElem_cons_succ, List.getElem_cons_zero])
      generalize W5.alloc (.cells (madeCells #[.complex .f32 0 0] mds.length) 72) = W6 at *
      refine wpAnyX_ready (i := 14) (o := _) (by kernel_rfl) rfl (fun K hK => ?_)
      go_simp
      refine (forced_any (some ⟨wc.heap.size, 0, none⟩) ts.length fo' ts W6 HRow6.out (by omega)).mono ?_
      rintro r W7 ⟨IA, ic, ys, rfl, hoy, hfy, hb7⟩
      have hys := forced_is (by omega) (by omega) (by omega) HE.out.f HE.out.big HTS.out hfy
      subst hys
      have HS7 := Lib.hid (HS6.out.new hb7)
      have HV : Hid (VmIn W7 w0.heap.size c.fb ⟨Vp.new mds (at', 1, bi, kn, ts.length, fo') begun, MB, mcb, W5.heap.size, IA, ic⟩) :=
        new_voice (HO6.out.below hb7 hz6) (by show w0.heap.size ≤ W3.heap.size; omega) (HR6.out.of_block (hb7.block _ HR6.out.lt)) ⟨by omega, Nat.le_refl _, fun _ => rfl⟩ hoy (by omega) rfl ⟨by omega, by simp, by simp, rfl⟩ (fun b hb => Nat.lt_of_lt_of_le (HS6.out.pl.fbs b hb) HS6.out.pl.kp.1)
      clear hoy hfy hb7 HS6 HRow6 HO6 HR6
      have hg3 : W3.heap.size ≤ W5.heap.size := hz5
      generalize W5.heap.size = g at *
      go_wp2_with fail
      refine hK.out _ _ ?_ (fun hHeldN => ?_)
      · exact HC.out _ _ HS7.out.hi HS7.out.pl.box
      clear hHeld hK K
      have hHeld := hHeldN
      clear hHeldN
      (try simp only [Act.put, List.setIfInBounds_toArray, List.set_cons_zero, List.set_cons_succ, List.getElem_toArray, List.getElem_cons_succ, List.getElem_cons_zero])
      obtain ⟨M, hM⟩ : ∃ M : Vm, M = ⟨Vp.new mds (at', 1, bi, kn, ts.length, fo') begun, MB, mcb, g, IA, ic⟩ := ⟨_, rfl⟩
      have hMv : voC M = [.int .i64 bi, .slice MB mds.length mcb, .slice (some ⟨g, 0, none⟩) mds.length mds.length, .slice IA (forcedW kn ts.length fo').length ic] := by rw [hM]; rfl
      have HMv := Lib.hid hMv
      have HMt : Hid (M.v.tr = begun) := Lib.hid (by rw [hM]; rfl)
      have HMn : Hid (M.v = Vp.new mds (at', 1, bi, kn, ts.length, fo') begun) := Lib.hid (by rw [hM])
      have HMa : Hid (∀ a ∈ ms', (∀ k, a.mod.ownBlock = some k → M.mod.ownBlock ≠ some k) ∧ a.S ≠ M.S) := Lib.hid (fun a ha => by
        obtain ⟨q1, q2⟩ := HAP.out a ha
        rw [hM]
        exact ⟨fun k e1 e2 => by have := q1 k e1; have := HMB.out k e2; omega, fun e => by have e' : a.S = g := e; omega⟩)
      rw [← hM] at HV
      clear hM hMv HAP HMB
      refine wpAnyX_take [15, 16, 17, 20] (i := 15) (oi := _) (v := ?_) rfl (by kernel_rfl) (by kernel_rfl) (by kernel_rfl) (by kernel_rfl) (fun _ _ _ h => h) (Or.inl ⟨by rfl, ?_⟩) (by assumption) ?_
      rotate_left
      · (intro w hSw; (try dsimp only at hSw); go_simp; try (with_reducible rfl))
      (try simp only [Act.put, List.setIfInBounds_toArray, List.set_cons_zero, List.set_cons_succ, List.getElem_toArray, List.getElem_cons_succ, List.getElem_cons_zero])
      refine wpAnyX_ready (i := 16) (o := _) (by kernel_rfl) rfl (fun K hK => ?_)
      go_simp
      have b8 : Below W7.heap.size W7 (W7.alloc (.cells #[.int .i64 bi, .slice MB mds.length mcb, .slice (some ⟨g, 0, none⟩) mds.length mds.length, .slice IA (forcedW kn ts.length fo').length ic] 93)) := (Below.refl W7.heap.size W7).alloc (Nat.le_refl _) _
      have HS8 := Lib.hid (HS7.out.new b8)
      have HV8 := Lib.hid (HV.out.new b8)
      have N8 := Lib.hid (heap_alloc_new W7 (.cells #[.int .i64 bi, .slice MB mds.length mcb, .slice (some ⟨g, 0, none⟩) mds.length mds.length, .slice IA (forcedW kn ts.length fo').length ic] 93))
      have Z8 : Hid ((W7.alloc (.cells #[.int .i64 bi, .slice MB mds.length mcb, .slice (some ⟨g, 0, none⟩) mds.length mds.length, .slice IA (forcedW kn ts.length fo').length ic] 93)).heap.size = W7.heap.size + 1) := Lib.hid (by show (W7.alloc _).heap.size = _; simp)
      clear b8 HS7 HV
      refine hK.out _ _ ?_ (fun hHeldN => ?_)
      · exact HC.out _ _ HS8.out.hi HS8.out.pl.box
      clear hHeld hK K
      have hHeld := hHeldN
      clear hHeldN
      (try simp only [Act.put, List.setIfInBounds_toArray, List.set_cons_zero, List.set_cons_succ, List.getElem_toArray, List.getElem_cons_succ, List.getElem_cons_zero])
      generalize W7.alloc (.cells #[.int .i64 bi, .slice MB mds.length mcb, .slice (some ⟨g, 0, none⟩) mds.length mds.length, .slice IA (forcedW kn ts.length fo').length ic] 93) = W8 at *
      have hz8 : w0.heap.size ≤ W8.heap.size := HS8.out.pl.bel.size
      obtain ⟨i0, hi0, hz0, hz1, hz2⟩ := info_parts voice_info
      refine wpAnyX_ready (i := 17) (o := _) (by kernel_rfl) rfl (fun K hK => ?_)
      refine step_append_lies _ (by rfl) (.tmp 50) (.tmp 62) 89 (by rfl) w0.heap.size 93 i0 _ 4 80 Try.underlying89 hi0 hz0 hz1 hz2 rfl (by omega) (.slice VA2 ms'.length vc2) ms'.length (flatV ms') (by rfl) HS8.out.pl.vrow ⟨W7.heap.size, 0, none⟩ 1 1 [.int .i64 bi, .slice MB mds.length mcb, .slice (some ⟨g, 0, none⟩) mds.length mds.length, .slice IA (forcedW kn ts.length fo').length ic] (by rfl) (by rfl) (World.news_of_block (t := 93) (fr := (0, 0)) N8.out) (by rw [← HMv.out]; exact voC_one M) (by omega) (by simp only [maxLen]; omega) (by omega) hz8 _ rfl ?_
      intro gg cap W9 hown9 hgrow9 hat9 hlt9
      rw [← HMv.out] at hown9
      have HP9 : Hid (W9.heap[P]? = some (.cells (plC c done now (.slice VA2 ms'.length vc2) vT2 begun) 91 (0, 0))) := Lib.hid ((HS8.out.pl.boxV hgrow9).trans HS8.out.pl.box)
      have HI9 : Hid (HIn W9 P pb eb (at', 1, bi, kn, ts.length, fo')) := Lib.hid (HS8.out.hi.grown hgrow9 fun k q => by
        obtain ⟨cs, hc⟩ := owns_ty HS8.out.pl.vrow q
        exact ⟨cs, _, _, hc, by decide, by decide⟩)
      have HG := Lib.hid (HS8.out.pl.addVoice HV8.out HMa.out hown9 hgrow9)
      have HI10 := Lib.hid (HI9.out.setP HP9.out 9 (.slice (some ⟨gg, 0, none⟩) (ms'.length + 1) cap))
      have f9 := free_cells HP9.out 9
      clear hown9 hgrow9 hat9 hlt9 HS8 HV8 N8 Z8 HMa
      refine hK.out _ _ ?_ (fun hHeldN => ?_)
      · exact HC.out _ _ HI9.out HP9.out
      clear hHeld hK K
      have hHeld := hHeldN
      clear hHeldN
      (try simp only [Act.put, List.setIfInBounds_toArray, List.set_cons_zero, List.set_cons_succ, List.getElem_toArray, List.getElem_cons_succ, List.getElem_cons_zero])
      refine wpAnyX_take [18, 19, 20] (i := 18) (oi := _) (v := ?_) rfl (by kernel_rfl) (by kernel_rfl) (by kernel_rfl) (by kernel_rfl) (fun _ _ _ h => h) (Or.inl ⟨by rfl, ?_⟩) (by assumption) ?_
      rotate_left
      · (intro w hSw; (try dsimp only at hSw); go_simp; try (with_reducible rfl))
      (try simp only [Act.put, List.setIfInBounds_toArray, List.set_cons_zero, List.set_cons_succ, List.getElem_toArray, List.getElem_cons_succ, List.getElem_cons_zero])
      refine wpAnyX_take [19, 20] (i := 19) (oi := _) (v := ?_) rfl (by kernel_rfl) (by kernel_rfl) (by kernel_rfl) (by kernel_rfl) (fun _ _ _ h => h) (Or.inl ⟨by rfl, ?_⟩) (by assumption) ?_
      rotate_left
      · (intro w hSw; (try dsimp only at hSw); go_simp; try (with_reducible rfl))
      (try simp only [Act.put, List.setIfInBounds_toArray, List.set_cons_zero, List.set_cons_succ, List.getElem_toArray, List.getElem_cons_succ, List.getElem_cons_zero])
      refine wpAnyX_last (o := _) (by kernel_rfl) rfl (fun K hK => ?_)
      go_simp
      refine hK.out _ _ ?_
      clear hK K
      (try simp only [Act.put, List.setIfInBounds_toArray, List.set_cons_zero, List.set_cons_succ, List.getElem_toArray, List.getElem_cons_succ, List.getElem_cons_zero])
      refine wpAnyX_done (by kernel_rfl) ?_ _
      clear f9 HP9 HI9 hHeld
      generalize W9.setCell ⟨P, 9, none⟩ (.slice (some ⟨gg, 0, none⟩) (ms'.length + 1) cap) = W10 at *
      go_wp2_with fail
      obtain ⟨TA2, tc2, rfl⟩ := owns_form HG.out.trow
      have HC2 : Hid (∀ W' v, HIn W' P pb eb (at', 1, bi, kn, ts.length, fo') → W'.heap[P]? = some (.cells (plC c done now v (.slice TA2 ms'.length tc2) begun) 91 (0, 0)) → W'.cell? ⟨pb, 0, none⟩ = some (.pointer (some ⟨P, 0, none⟩)) ∧ W'.cell? ⟨P, 10, none⟩ = some (.slice TA2 ms'.length tc2) ∧ W'.cell? ⟨P, 11, none⟩ = some (.int .i64 begun)) := Lib.hid (fun W' v hb hx =>
        ⟨cell_of_row _ pb 0 _ _ (0, 0) hb.bp, (pl_cells hx).2.2.2.2.2.2.2.2.2.2.1, (pl_cells hx).2.2.2.2.2.2.2.2.2.2.2⟩)
      have HG1 : Hid (PlG w0 W10.drew w0.heap.size P c done now (.slice (some ⟨gg, 0, none⟩) (ms'.length + 1) cap) (.slice TA2 ms'.length tc2) (ms' ++ [M]) ms'.length (trs ms') begun) := Lib.hid (HG.out.drewN 1)
      have HI11 : Hid (HIn W10.drew P pb eb (at', 1, bi, kn, ts.length, fo')) := Lib.hid (HI10.out.drewN 1)
      refine wp_region_last (fun w' => w'.cell? ⟨pb, 0, none⟩ = some (.pointer (some ⟨P, 0, none⟩)) ∧ w'.cell? ⟨P, 10, none⟩ = some (.slice TA2 ms'.length tc2) ∧ w'.cell? ⟨P, 11, none⟩ = some (.int .i64 begun)) 13 (by kernel_rfl) (HC2.out _ _ HI11.out HG1.out.box) (fun hHeld => ?_)
      clear HG HI10
      generalize W10.drew = W11 at *
      refine wpAnyX_take [0, 11, 12, 13] (i := 0) (oi := _) (v := ?_) rfl (by kernel_rfl) (by kernel_rfl) (by kernel_rfl) (by kernel_rfl) (fun _ _ _ h => h) (Or.inl ⟨by rfl, ?_⟩) (by assumption) ?_
      rotate_left
      · (intro w hSw; (try dsimp only at hSw); go_simp; try (with_reducible rfl))
      (try simp only [Act.put, List.setIfInBounds_toArray, List.set_cons_zero, List.set_cons_succ, List.getElem_toArray, List.getElem_cons_succ, List.getElem_cons_zero])
      refine wpAnyX_take [1, 2, 3, 4, 10, 13] (i := 1) (oi := _) (v := ?_) rfl (by kernel_rfl) (by kernel_rfl) (by kernel_rfl) (by kernel_rfl) (fun _ _ _ h => h) (Or.inl ⟨by rfl, ?_⟩) (by assumption) ?_
      rotate_left
      · (intro w hSw; (try dsimp only at hSw); go_simp; try (with_reducible rfl))
      (try simp only [Act.put, List.setIfInBounds_toArray, List.set_cons_zero, List.set_cons_succ, List.getElem_toArray, List.getElem_cons_succ, List.getElem_cons_zero])
      refine wpAnyX_take [2, 3, 4, 10, 13] (i := 2) (oi := _) (v := ?_) rfl (by kernel_rfl) (by kernel_rfl) (by kernel_rfl) (by kernel_rfl) (fun _ _ _ h => h) (Or.inl ⟨by rfl, ?_⟩) (by assumption) ?_
      rotate_left
      · (intro w hSw; (try dsimp only at hSw); go_simp; try (with_reducible rfl))
      (try simp only [Act.put, List.setIfInBounds_toArray, List.set_cons_zero, List.set_cons_succ, List.getElem_toArray, List.getElem_cons_succ, List.getElem_cons_zero])
      refine wpAnyX_take [3, 4, 10, 13] (i := 3) (oi := _) (v := ?_) rfl (by kernel_rfl) (by kernel_rfl) (by kernel_rfl) (by kernel_rfl) (fun _ _ _ h => h) (Or.inl ⟨by rfl, ?_⟩) (by assumption) ?_
      rotate_left
      · (intro w hSw; (try dsimp only at hSw); go_simp; try (with_reducible rfl))
      (try simp only [Act.put, List.setIfInBounds_toArray, List.set_cons_zero, List.set_cons_succ, List.getElem_toArray, List.getElem_cons_succ, List.getElem_cons_zero])
      refine wpAnyX_take [4, 10, 13] (i := 4) (oi := _) (v := ?_) rfl (by kernel_rfl) (by kernel_rfl) (by kernel_rfl) (by kernel_rfl) (fun _ _ _ h => h) (Or.inl ⟨by rfl, ?_⟩) (by assumption) ?_
      rotate_left
      · (intro w hSw; (try dsimp only at hSw); go_simp; try (with_reducible rfl))
      (try simp only [Act.put, List.setIfInBounds_toArray, List.set_cons_zero, List.set_cons_succ, List.getElem_toArray, List.getElem_cons_succ, List.getElem_cons_zero])
      refine wpAnyX_take [5, 6, 7, 8, 9, 10, 13] (i := 5) (oi := _) (v := ?_) rfl (by kernel_rfl) (by kernel_rfl) (by kernel_rfl) (by kernel_rfl) (fun _ _ _ h => h) (Or.inl ⟨by rfl, ?_⟩) (by assumption) ?_
      rotate_left
      · (intro w hSw; (try dsimp only at hSw); go_simp; try (with_reducible rfl))
      (try simp only [Act.put, List.setIfInBounds_toArray, List.set_cons_zero, List.set_cons_succ, List.getElem_toArray, List.getElem_cons_succ, List.getElem_cons_zero])
      refine wpAnyX_take [6, 7, 8, 9, 10, 13] (i := 6) (oi := _) (v := ?_) rfl (by kernel_rfl) (by kernel_rfl) (by kernel_rfl) (by kernel_rfl) (fun _ _ _ h => h) (Or.inl ⟨by rfl, ?_⟩) (by assumption) ?_
      rotate_left
      · (intro w hSw; (try dsimp only at hSw); go_simp; try (with_reducible rfl))
      (try simp only [Act.put, List.setIfInBounds_toArray, List.set_cons_zero, List.set_cons_succ, List.getElem_toArray, List.getElem_cons_succ, List.getElem_cons_zero])
      refine wpAnyX_take [7, 8, 9, 10, 13] (i := 7) (oi := _) (v := ?_) rfl (by kernel_rfl) (by kernel_rfl) (by kernel_rfl) (by kernel_rfl) (fun _ _ _ h => h) (Or.inl ⟨by rfl, ?_⟩) (by assumption) ?_
      rotate_left
      · (intro w hSw; (try dsimp only at hSw); go_simp; try (with_reducible rfl))
      (try simp only [Act.put, List.setIfInBounds_toArray, List.set_cons_zero, List.set_cons_succ, List.getElem_toArray, List.getElem_cons_succ, List.getElem_cons_zero])
      refine wpAnyX_take [8, 9, 10, 13] (i := 8) (oi := _) (v := ?_) rfl (by kernel_rfl) (by kernel_rfl) (by kernel_rfl) (by kernel_rfl) (fun _ _ _ h => h) (Or.inl ⟨by rfl, ?_⟩) (by assumption) ?_
      rotate_left
      · (intro w hSw; (try dsimp only at hSw); go_simp; try (with_reducible rfl))
      (try simp only [Act.put, List.setIfInBounds_toArray, List.set_cons_zero, List.set_cons_succ, List.getElem_toArray, List.getElem_cons_succ, List.getElem_cons_zero])
      refine wpAnyX_ready (i := 9) (o := _) (by kernel_rfl) rfl (fun K hK => ?_)
      go_simp
      have b12 : Below W11.heap.size W11 (W11.alloc (.cells #[.int .i64 begun] 3)) := (Below.refl W11.heap.size W11).alloc (Nat.le_refl _) _
      have HG2 := Lib.hid (HG1.out.new b12)
      have HI12 := Lib.hid (HI11.out.new b12)
      have N12 := Lib.hid (heap_alloc_new W11 (.cells #[.int .i64 begun] 3))
      clear b12 HG1 HI11
      refine hK.out _ _ ?_ (fun hHeldN => ?_)
      · exact HC2.out _ _ HI12.out HG2.out.box
      clear hHeld hK K
      have hHeld := hHeldN
      clear hHeldN
      (try simp only [Act.put, List.setIfInBounds_toArray, List.set_cons_zero, List.set_cons_succ, List.getElem_toArray, List.getElem_cons_succ, List.getElem_cons_zero])
      generalize W11.alloc (.cells #[.int .i64 begun] 3) = W12 at *
      have hz12 : w0.heap.size ≤ W12.heap.size := HG2.out.bel.size
      clear hi0 hz0 hz1 hz2 i0
      obtain ⟨i0, hi0, hz0, hz1, hz2⟩ := info_parts int_info
      refine wpAnyX_ready (i := 10) (o := _) (by kernel_rfl) rfl (fun K hK => ?_)
      refine step_append_lies _ (by rfl) (.tmp 70) (.tmp 75) 36 (by rfl) w0.heap.size 3 i0 _ 1 8 Try.underlying36 hi0 hz0 hz1 hz2 rfl (by omega) (.slice TA2 ms'.length tc2) ms'.length (trs ms') (by rfl) HG2.out.trow ⟨W11.heap.size, 0, none⟩ 1 1 [.int .i64 begun] (by rfl) (by rfl) (World.news_of_block (t := 3) (fr := (0, 0)) N12.out) (by simp [Value.oneCell']) (by omega) (by simp only [maxLen]; omega) (by omega) hz12 _ rfl ?_
      intro g2 cap2 W13 hown13 hgrow13 hat13 hlt13
      have HP13 : Hid (W13.heap[P]? = some (.cells (plC c done now (.slice (some ⟨gg, 0, none⟩) (ms'.length + 1) cap) (.slice TA2 ms'.length tc2) begun) 91 (0, 0))) := Lib.hid ((HG2.out.boxT hgrow13).trans HG2.out.box)
      have HI13 : Hid (HIn W13 P pb eb (at', 1, bi, kn, ts.length, fo')) := Lib.hid (HI12.out.grown hgrow13 fun k q => by
        obtain ⟨cs, hc⟩ := owns_ty HG2.out.trow q
        exact ⟨cs, _, _, hc, by decide, by decide⟩)
      have HG3 : Hid (PlIn w0 (W13.setCell ⟨P, 10, none⟩ (.slice (some ⟨g2, 0, none⟩) (ms'.length + 1) cap2)) w0.heap.size P c done now (.slice (some ⟨gg, 0, none⟩) (ms'.length + 1) cap) (.slice (some ⟨g2, 0, none⟩) (ms'.length + 1) cap2) (ms' ++ [M]) begun) := Lib.hid (by
        have e1 : (ms' ++ [M]).length = ms'.length + 1 := by simp
        have e2 : trs (ms' ++ [M]) = trs ms' ++ [.int .i64 begun] := by rw [← trs_snoc, HMt.out]
        show PlG _ _ _ _ _ _ _ _ _ _ (ms' ++ [M]).length (trs (ms' ++ [M])) _
        rw [e1, e2]
        exact HG2.out.addTrack hown13 hgrow13)
      have HI14 := Lib.hid (HI13.out.setP HP13.out 10 (.slice (some ⟨g2, 0, none⟩) (ms'.length + 1) cap2))
      have f10 := free_cells HP13.out 10
      clear hown13 hgrow13 hat13 hlt13 HG2 HI12 N12
      refine hK.out _ _ ?_ (fun hHeldN => ?_)
      · exact HC2.out _ _ HI13.out HP13.out
      clear hHeld hK K
      have hHeld := hHeldN
      clear hHeldN
      (try simp only [Act.put, List.setIfInBounds_toArray, List.set_cons_zero, List.set_cons_succ, List.getElem_toArray, List.getElem_cons_succ, List.getElem_cons_zero])
      refine wpAnyX_take [11, 12, 13] (i := 11) (oi := _) (v := ?_) rfl (by kernel_rfl) (by kernel_rfl) (by kernel_rfl) (by kernel_rfl) (fun _ _ _ h => h) (Or.inl ⟨by rfl, ?_⟩) (by assumption) ?_
      rotate_left
      · (intro w hSw; (try dsimp only at hSw); go_simp; try (with_reducible rfl))
      (try simp only [Act.put, List.setIfInBounds_toArray, List.set_cons_zero, List.set_cons_succ, List.getElem_toArray, List.getElem_cons_succ, List.getElem_cons_zero])
      refine wpAnyX_take [12, 13] (i := 12) (oi := _) (v := ?_) rfl (by kernel_rfl) (by kernel_rfl) (by kernel_rfl) (by kernel_rfl) (fun _ _ _ h => h) (Or.inl ⟨by rfl, ?_⟩) (by assumption) ?_
      rotate_left
      · (intro w hSw; (try dsimp only at hSw); go_simp; try (with_reducible rfl))
      (try simp only [Act.put, List.setIfInBounds_toArray, List.set_cons_zero, List.set_cons_succ, List.getElem_toArray, List.getElem_cons_succ, List.getElem_cons_zero])
      refine wpAnyX_last (o := _) (by kernel_rfl) rfl (fun K hK => ?_)
      go_simp
      refine hK.out _ _ ?_
      clear hK K
      (try simp only [Act.put, List.setIfInBounds_toArray, List.set_cons_zero, List.set_cons_succ, List.getElem_toArray, List.getElem_cons_succ, List.getElem_cons_zero])
      refine wpAnyX_done (by kernel_rfl) ?_ _
      clear f10 HP13 HI13 hHeld
      generalize W13.setCell ⟨P, 10, none⟩ (.slice (some ⟨g2, 0, none⟩) (ms'.length + 1) cap2) = W14 at *
      have d0 := cell_of_row _ pb 0 _ _ (0, 0) HI14.out.bp
      have d11 := (pl_cells HG3.out.box).2.2.2.2.2.2.2.2.2.2.2
      have f11 := free_cells HG3.out.box 11
      go_wp2_with fail
      go_end0
      refine ⟨rfl, _, _, ms' ++ [M], begun + 1, HG3.out.setBegun (begun + 1), ?_⟩
      rw [List.map_append, HM.out]
      show (⟨_ ++ [M.v], begun + 1⟩ : Pl) = _
      rw [HMn.out]
      unfold Pl.happen
      rw [if_pos rfl, HBM.out]
      simp only [List.length_map]
      split
      · rw [List.map_drop]
      · rfl
    · go_simp
      refine (forced_any (some ⟨wc.heap.size, 0, none⟩) ts.length fo' ts W5 HRow5.out (by omega)).mono ?_
      rintro r W6 ⟨IA, ic, ys, rfl, hoy, hfy, hb6⟩
      have hys := forced_is (by omega) (by omega) (by omega) HE.out.f HE.out.big HTS.out hfy
      subst hys
      have hz6 := hb6.size
      have HS6 := Lib.hid (HS5.out.new hb6)
      have HO6 := Lib.hid (HO5.out.below hb6 (Nat.le_refl _))
      have HY6 := Lib.hid hoy
      have HFB : Hid (∀ b, c.fb b → b < W5.heap.size) := Lib.hid (fun b hb => Nat.lt_of_lt_of_le (HS5.out.pl.fbs b hb) HS5.out.pl.kp.1)
      clear hoy hfy hb6 HS5 HRow5 HO5
      go_wp2_with fail
      refine hK.out _ _ ?_ (fun hHeldN => ?_)
      · exact HC.out _ _ HS6.out.hi HS6.out.pl.box
      clear hHeld hK K
      have hHeld := hHeldN
      clear hHeldN
      (try simp only [Act.put, List.setIfInBounds_toArray, List.set_cons_zero, List.set_cons_succ, List.getElem_toArray, List.getElem_cons_succ, List.getElem_cons_zero])
      refine wpAnyX_ready (i := 10) (o := _) (by kernel_rfl) rfl (fun K hK => ?_)
      go_simp
      have R7 := World.rowIs_made W6 (.complex .f32 0 0) mds.length 72
      have b7 : Below W6.heap.size W6 (W6.alloc (.cells (madeCells #[.complex .f32 0 0] mds.length) 72)) := (Below.refl W6.heap.size W6).alloc (Nat.le_refl _) _
      have HS7 := Lib.hid (HS6.out.new b7)
      have HV : Hid (VmIn (W6.alloc (.cells (madeCells #[.complex .f32 0 0] mds.length) 72)) w0.heap.size c.fb ⟨Vp.new mds (at', 1, bi, kn, ts.length, fo') begun, MB, mcb, W6.heap.size, IA, ic⟩) :=
        new_voice (HO6.out.below b7 hz6) (by show w0.heap.size ≤ W3.heap.size; omega) R7 ⟨by omega, hz6, fun _ => rfl⟩ (HY6.out.alloc _) (by omega) rfl ⟨by omega, by simp, by simp, rfl⟩ HFB.out
      have hg3 : W3.heap.size ≤ W6.heap.size := by omega
      clear R7 b7 HS6 HO6 HY6
      refine hK.out _ _ ?_ (fun hHeldN => ?_)
      · exact HC.out _ _ HS7.out.hi HS7.out.pl.box
      clear hHeld hK K
      have hHeld := hHeldN
      clear hHeldN
      (try simp only [Act.put, List.setIfInBounds_toArray, List.set_cons_zero, List.set_cons_succ, List.getElem_toArray, List.getElem_cons_succ, List.getElem_cons_zero])
      generalize W6.alloc (.cells (madeCells #[.complex .f32 0 0] mds.length) 72) = W7 at *
      generalize W6.heap.size = g at *
      obtain ⟨M, hM⟩ : ∃ M : Vm, M = ⟨Vp.new mds (at', 1, bi, kn, ts.length, fo') begun, MB, mcb, g, IA, ic⟩ := ⟨_, rfl⟩
      have hMv : voC M = [.int .i64 bi, .slice MB mds.length mcb, .slice (some ⟨g, 0, none⟩) mds.length mds.length, .slice IA (forcedW kn ts.length fo').length ic] := by rw [hM]; rfl
      have HMv := Lib.hid hMv
      have HMt : Hid (M.v.tr = begun) := Lib.hid (by rw [hM]; rfl)
      have HMn : Hid (M.v = Vp.new mds (at', 1, bi, kn, ts.length, fo') begun) := Lib.hid (by rw [hM])
      have HMa : Hid (∀ a ∈ ms', (∀ k, a.mod.ownBlock = some k → M.mod.ownBlock ≠ some k) ∧ a.S ≠ M.S) := Lib.hid (fun a ha => by
        obtain ⟨q1, q2⟩ := HAP.out a ha
        rw [hM]
        exact ⟨fun k e1 e2 => by have := q1 k e1; have := HMB.out k e2; omega, fun e => by have e' : a.S = g := e; omega⟩)
      rw [← hM] at HV
      clear hM hMv HAP HMB
      refine wpAnyX_take [15, 16, 17, 20] (i := 15) (oi := _) (v := ?_) rfl (by kernel_rfl) (by kernel_rfl) (by kernel_rfl) (by kernel_rfl) (fun _ _ _ h => h) (Or.inl ⟨by rfl, ?_⟩) (by assumption) ?_
      rotate_left
      · (intro w hSw; (try dsimp only at hSw); go_simp; try (with_reducible rfl))
      (try simp only [Act.put, List.setIfInBounds_toArray, List.set_cons_zero, List.set_cons_succ, List.getElem_toArray, List.getElem_cons_succ, List.getElem_cons_zero])
      refine wpAnyX_ready (i := 16) (o := _) (by kernel_rfl) rfl (fun K hK => ?_)
      go_simp
      have b8 : Below W7.heap.size W7 (W7.alloc (.cells #[.int .i64 bi, .slice MB mds.length mcb, .slice (some ⟨g, 0, none⟩) mds.length mds.length, .slice IA (forcedW kn ts.length fo').length ic] 93)) := (Below.refl W7.heap.size W7).alloc (Nat.le_refl _) _
      have HS8 := Lib.hid (HS7.out.new b8)
      have HV8 := Lib.hid (HV.out.new b8)
      have N8 := Lib.hid (heap_alloc_new W7 (.cells #[.int .i64 bi, .slice MB mds.length mcb, .slice (some ⟨g, 0, none⟩) mds.length mds.length, .slice IA (forcedW kn ts.length fo').length ic] 93))
      have Z8 : Hid ((W7.alloc (.cells #[.int .i64 bi, .slice MB mds.length mcb, .slice (some ⟨g, 0, none⟩) mds.length mds.length, .slice IA (forcedW kn ts.length fo').length ic] 93)).heap.size = W7.heap.size + 1) := Lib.hid (by show (W7.alloc _).heap.size = _; simp)
      clear b8 HS7 HV
      refine hK.out _ _ ?_ (fun hHeldN => ?_)
      · exact HC.out _ _ HS8.out.hi HS8.out.pl.box
      clear hHeld hK K
      have hHeld := hHeldN
      clear hHeldN
      (try simp only [Act.put, List.setIfInBounds_toArray, List.set_cons_zero, List.set_cons_succ, List.getElem_toArray, List.getElem_cons_succ, List.getElem_cons_zero])
      generalize W7.alloc (.cells #[.int .i64 bi, .slice MB mds.length mcb, .slice (some ⟨g, 0, none⟩) mds.length mds.length, .slice IA (forcedW kn ts.length fo').length ic] 93) = W8 at *
      have hz8 : w0.heap.size ≤ W8.heap.size := HS8.out.pl.bel.size
      obtain ⟨i0, hi0, hz0, hz1, hz2⟩ := info_parts voice_info
      refine wpAnyX_ready (i := 17) (o := _) (by kernel_rfl) rfl (fun K hK => ?_)
      refine step_append_lies _ (by rfl) (.tmp 50) (.tmp 62) 89 (by rfl) w0.heap.size 93 i0 _ 4 80 Try.underlying89 hi0 hz0 hz1 hz2 rfl (by omega) (.slice VA2 ms'.length vc2) ms'.length (flatV ms') (by rfl) HS8.out.pl.vrow ⟨W7.heap.size, 0, none⟩ 1 1 [.int .i64 bi, .slice MB mds.length mcb, .slice (some ⟨g, 0, none⟩) mds.length mds.length, .slice IA (forcedW kn ts.length fo').length ic] (by rfl) (by rfl) (World.news_of_block (t := 93) (fr := (0, 0)) N8.out) (by rw [← HMv.out]; exact voC_one M) (by omega) (by simp only [maxLen]; omega) (by omega) hz8 _ rfl ?_
      intro gg cap W9 hown9 hgrow9 hat9 hlt9
      rw [← HMv.out] at hown9
      have HP9 : Hid (W9.heap[P]? = some (.cells (plC c done now (.slice VA2 ms'.length vc2) vT2 begun) 91 (0, 0))) := Lib.hid ((HS8.out.pl.boxV hgrow9).trans HS8.out.pl.box)
      have HI9 : Hid (HIn W9 P pb eb (at', 1, bi, kn, ts.length, fo')) := Lib.hid (HS8.out.hi.grown hgrow9 fun k q => by
        obtain ⟨cs, hc⟩ := owns_ty HS8.out.pl.vrow q
        exact ⟨cs, _, _, hc, by decide, by decide⟩)
      have HG := Lib.hid (HS8.out.pl.addVoice HV8.out HMa.out hown9 hgrow9)
      have HI10 := Lib.hid (HI9.out.setP HP9.out 9 (.slice (some ⟨gg, 0, none⟩) (ms'.length + 1) cap))
      have f9 := free_cells HP9.out 9
      clear hown9 hgrow9 hat9 hlt9 HS8 HV8 N8 Z8 HMa
      refine hK.out _ _ ?_ (fun hHeldN => ?_)
      · exact HC.out _ _ HI9.out HP9.out
      clear hHeld hK K
      have hHeld := hHeldN
      clear hHeldN
      (try simp only [Act.put, List.setIfInBounds_toArray, List.set_cons_zero, List.set_cons_succ, List.getElem_toArray, List.getElem_cons_succ, List.getElem_cons_zero])
      refine wpAnyX_take [18, 19, 20] (i := 18) (oi := _) (v := ?_) rfl (by kernel_rfl) (by kernel_rfl) (by kernel_rfl) (by kernel_rfl) (fun _ _ _ h => h) (Or.inl ⟨by rfl, ?_⟩) (by assumption) ?_
      rotate_left
      · (intro w hSw; (try dsimp only at hSw); go_simp; try (with_reducible rfl))
      (try simp only [Act.put, List.setIfInBounds_toArray, List.set_cons_zero, List.set_cons_succ, List.getElem_toArray, List.getElem_cons_succ, List.getElem_cons_zero])
      refine wpAnyX_take [19, 20] (i := 19) (oi := _) (v := ?_) rfl (by kernel_rfl) (by kernel_rfl) (by kernel_rfl) (by kernel_rfl) (fun _ _ _ h => h) (Or.inl ⟨by rfl, ?_⟩) (by assumption) ?_
      rotate_left
      · (intro w hSw; (try dsimp only at hSw); go_simp; try (with_reducible rfl))
      (try simp only [Act.put, List.setIfInBounds_toArray, List.set_cons_zero, List.set_cons_succ, List.getElem_toArray, List.getElem_cons_succ, List.getElem_cons_zero])
      refine wpAnyX_last (o := _) (by kernel_rfl) rfl (fun K hK => ?_)
      go_simp
      refine hK.out _ _ ?_
      clear hK K
      (try simp only [Act.put, List.setIfInBounds_toArray, List.set_cons_zero, List.set_cons_succ, List.getElem_toArray, List.getElem_cons_succ, List.getElem_cons_zero])
      refine wpAnyX_done (by kernel_rfl) ?_ _
      clear f9 HP9 HI9 hHeld
      generalize W9.setCell ⟨P, 9, none⟩ (.slice (some ⟨gg, 0, none⟩) (ms'.length + 1) cap) = W10 at *
      go_wp2_with fail
      obtain ⟨TA2, tc2, rfl⟩ := owns_form HG.out.trow
      have HC2 : Hid (∀ W' v, HIn W' P pb eb (at', 1, bi, kn, ts.length, fo') → W'.heap[P]? = some (.cells (plC c done now v (.slice TA2 ms'.length tc2) begun) 91 (0, 0)) → W'.cell? ⟨pb, 0, none⟩ = some (.pointer (some ⟨P, 0, none⟩)) ∧ W'.cell? ⟨P, 10, none⟩ = some (.slice TA2 ms'.length tc2) ∧ W'.cell? ⟨P, 11, none⟩ = some (.int .i64 begun)) := Lib.hid (fun W' v hb hx =>
        ⟨cell_of_row _ pb 0 _ _ (0, 0) hb.bp, (pl_cells hx).2.2.2.2.2.2.2.2.2.2.1, (pl_cells hx).2.2.2.2.2.2.2.2.2.2.2⟩)
      have HG1 : Hid (PlG w0 W10.drew w0.heap.size P c done now (.slice (some ⟨gg, 0, none⟩) (ms'.length + 1) cap) (.slice TA2 ms'.length tc2) (ms' ++ [M]) ms'.length (trs ms') begun) := Lib.hid (HG.out.drewN 1)
      have HI11 : Hid (HIn W10.drew P pb eb (at', 1, bi, kn, ts.length, fo')) := Lib.hid (HI10.out.drewN 1)
      refine wp_region_last (fun w' => w'.cell? ⟨pb, 0, none⟩ = some (.pointer (some ⟨P, 0, none⟩)) ∧ w'.cell? ⟨P, 10, none⟩ = some (.slice TA2 ms'.length tc2) ∧ w'.cell? ⟨P, 11, none⟩ = some (.int .i64 begun)) 13 (by kernel_rfl) (HC2.out _ _ HI11.out HG1.out.box) (fun hHeld => ?_)
      clear HG HI10
      generalize W10.drew = W11 at *
      refine wpAnyX_take [0, 11, 12, 13] (i := 0) (oi := _) (v := ?_) rfl (by kernel_rfl) (by kernel_rfl) (by kernel_rfl) (by kernel_rfl) (fun _ _ _ h => h) (Or.inl ⟨by rfl, ?_⟩) (by assumption) ?_
      rotate_left
      · (intro w hSw; (try dsimp only at hSw); go_simp; try (with_reducible rfl))
      (try simp only [Act.put, List.setIfInBounds_toArray, List.set_cons_zero, List.set_cons_succ, List.getElem_toArray, List.getElem_cons_succ, List.getElem_cons_zero])
      refine wpAnyX_take [1, 2, 3, 4, 10, 13] (i := 1) (oi := _) (v := ?_) rfl (by kernel_rfl) (by kernel_rfl) (by kernel_rfl) (by kernel_rfl) (fun _ _ _ h => h) (Or.inl ⟨by rfl, ?_⟩) (by assumption) ?_
      rotate_left
      · (intro w hSw; (try dsimp only at hSw); go_simp; try (with_reducible rfl))
      (try simp only [Act.put, List.setIfInBounds_toArray, List.set_cons_zero, List.set_cons_succ, List.getElem_toArray, List.getElem_cons_succ, List.getElem_cons_zero])
      refine wpAnyX_take [2, 3, 4, 10, 13] (i := 2) (oi := _) (v := ?_) rfl (by kernel_rfl) (by kernel_rfl) (by kernel_rfl) (by kernel_rfl) (fun _ _ _ h => h) (Or.inl ⟨by rfl, ?_⟩) (by assumption) ?_
      rotate_left
      · (intro w hSw; (try dsimp only at hSw); go_simp; try (with_reducible rfl))
      (try simp only [Act.put, List.setIfInBounds_toArray, List.set_cons_zero, List.set_cons_succ, List.getElem_toArray, List.getElem_cons_succ, List.getElem_cons_zero])
      refine wpAnyX_take [3, 4, 10, 13] (i := 3) (oi := _) (v := ?_) rfl (by kernel_rfl) (by kernel_rfl) (by kernel_rfl) (by kernel_rfl) (fun _ _ _ h => h) (Or.inl ⟨by rfl, ?_⟩) (by assumption) ?_
      rotate_left
      · (intro w hSw; (try dsimp only at hSw); go_simp; try (with_reducible rfl))
      (try simp only [Act.put, List.setIfInBounds_toArray, List.set_cons_zero, List.set_cons_succ, List.getElem_toArray, List.getElem_cons_succ, List.getElem_cons_zero])
      refine wpAnyX_take [4, 10, 13] (i := 4) (oi := _) (v := ?_) rfl (by kernel_rfl) (by kernel_rfl) (by kernel_rfl) (by kernel_rfl) (fun _ _ _ h => h) (Or.inl ⟨by rfl, ?_⟩) (by assumption) ?_
      rotate_left
      · (intro w hSw; (try dsimp only at hSw); go_simp; try (with_reducible rfl))
      (try simp only [Act.put, List.setIfInBounds_toArray, List.set_cons_zero, List.set_cons_succ, List.getElem_toArray, List.getElem_cons_succ, List.getElem_cons_zero])
      refine wpAnyX_take [5, 6, 7, 8, 9, 10, 13] (i := 5) (oi := _) (v := ?_) rfl (by kernel_rfl) (by kernel_rfl) (by kernel_rfl) (by kernel_rfl) (fun _ _ _ h => h) (Or.inl ⟨by rfl, ?_⟩) (by assumption) ?_
      rotate_left
      · (intro w hSw; (try dsimp only at hSw); go_simp; try (with_reducible rfl))
      (try simp only [Act.put, List.setIfInBounds_toArray, List.set_cons_zero, List.set_cons_succ, List.getElem_toArray, List.getElem_cons_succ, List.getElem_cons_zero])
      refine wpAnyX_take [6, 7, 8, 9, 10, 13] (i := 6) (oi := _) (v := ?_) rfl (by kernel_rfl) (by kernel_rfl) (by kernel_rfl) (by kernel_rfl) (fun _ _ _ h => h) (Or.inl ⟨by rfl, ?_⟩) (by assumption) ?_
      rotate_left
      · (intro w hSw; (try dsimp only at hSw); go_simp; try (with_reducible rfl))
      (try simp only [Act.put, List.setIfInBounds_toArray, List.set_cons_zero, List.set_cons_succ, List.getElem_toArray, List.getElem_cons_succ, List.getElem_cons_zero])
      refine wpAnyX_take [7, 8, 9, 10, 13] (i := 7) (oi := _) (v := ?_) rfl (by kernel_rfl) (by kernel_rfl) (by kernel_rfl) (by kernel_rfl) (fun _ _ _ h => h) (Or.inl ⟨by rfl, ?_⟩) (by assumption) ?_
      rotate_left
      · (intro w hSw; (try dsimp only at hSw); go_simp; try (with_reducible rfl))
      (try simp only [Act.put, List.setIfInBounds_toArray, List.set_cons_zero, List.set_cons_succ, List.getElem_toArray, List.getElem_cons_succ, List.getElem_cons_zero])
      refine wpAnyX_take [8, 9, 10, 13] (i := 8) (oi := _) (v := ?_) rfl (by kernel_rfl) (by kernel_rfl) (by kernel_rfl) (by kernel_rfl) (fun _ _ _ h => h) (Or.inl ⟨by rfl, ?_⟩) (by assumption) ?_
      rotate_left
      · (intro w hSw; (try dsimp only at hSw); go_simp; try (with_reducible rfl))
      (try simp only [Act.put, List.setIfInBounds_toArray, List.set_cons_zero, List.set_cons_succ, List.getElem_toArray, List.getElem_cons_succ, List.getElem_cons_zero])
      refine wpAnyX_ready (i := 9) (o := _) (by kernel_rfl) rfl (fun K hK => ?_)
      go_simp
      have b12 : Below W11.heap.size W11 (W11.alloc (.cells #[.int .i64 begun] 3)) := (Below.refl W11.heap.size W11).alloc (Nat.le_refl _) _
      have HG2 := Lib.hid (HG1.out.new b12)
      have HI12 := Lib.hid (HI11.out.new b12)
      have N12 := Lib.hid (heap_alloc_new W11 (.cells #[.int .i64 begun] 3))
      clear b12 HG1 HI11
      refine hK.out _ _ ?_ (fun hHeldN => ?_)
      · exact HC2.out _ _ HI12.out HG2.out.box
      clear hHeld hK K
      have hHeld := hHeldN
      clear hHeldN
      (try simp only [Act.put, List.setIfInBounds_toArray, List.set_cons_zero, List.set_cons_succ, List.getElem_toArray, List.getElem_cons_succ, List.getElem_cons_zero])
      generalize W11.alloc (.cells #[.int .i64 begun] 3) = W12 at *
      have hz12 : w0.heap.size ≤ W12.heap.size := HG2.out.bel.size
      clear hi0 hz0 hz1 hz2 i0
      obtain ⟨i0, hi0, hz0, hz1, hz2⟩ := info_parts int_info
      refine wpAnyX_ready (i := 10) (o := _) (by kernel_rfl) rfl (fun K hK => ?_)
      refine step_append_lies _ (by rfl) (.tmp 70) (.tmp 75) 36 (by rfl) w0.heap.size 3 i0 _ 1 8 Try.underlying36 hi0 hz0 hz1 hz2 rfl (by omega) (.slice TA2 ms'.length tc2) ms'.length (trs ms') (by rfl) HG2.out.trow ⟨W11.heap.size, 0, none⟩ 1 1 [.int .i64 begun] (by rfl) (by rfl) (World.news_of_block (t := 3) (fr := (0, 0)) N12.out) (by simp [Value.oneCell']) (by omega) (by simp only [maxLen]; omega) (by omega) hz12 _ rfl ?_
      intro g2 cap2 W13 hown13 hgrow13 hat13 hlt13
      have HP13 : Hid (W13.heap[P]? = some (.cells (plC c done now (.slice (some ⟨gg, 0, none⟩) (ms'.length + 1) cap) (.slice TA2 ms'.length tc2) begun) 91 (0, 0))) := Lib.hid ((HG2.out.boxT hgrow13).trans HG2.out.box)
      have HI13 : Hid (HIn W13 P pb eb (at', 1, bi, kn, ts.length, fo')) := Lib.hid (HI12.out.grown hgrow13 fun k q => by
        obtain ⟨cs, hc⟩ := owns_ty HG2.out.trow q
        exact ⟨cs, _, _, hc, by decide, by decide⟩)
      have HG3 : Hid (PlIn w0 (W13.setCell ⟨P, 10, none⟩ (.slice (some ⟨g2, 0, none⟩) (ms'.length + 1) cap2)) w0.heap.size P c done now (.slice (some ⟨gg, 0, none⟩) (ms'.length + 1) cap) (.slice (some ⟨g2, 0, none⟩) (ms'.length + 1) cap2) (ms' ++ [M]) begun) := Lib.hid (by
        have e1 : (ms' ++ [M]).length = ms'.length + 1 := by simp
        have e2 : trs (ms' ++ [M]) = trs ms' ++ [.int .i64 begun] := by rw [← trs_snoc, HMt.out]
        show PlG _ _ _ _ _ _ _ _ _ _ (ms' ++ [M]).length (trs (ms' ++ [M])) _
        rw [e1, e2]
        exact HG2.out.addTrack hown13 hgrow13)
      have HI14 := Lib.hid (HI13.out.setP HP13.out 10 (.slice (some ⟨g2, 0, none⟩) (ms'.length + 1) cap2))
      have f10 := free_cells HP13.out 10
      clear hown13 hgrow13 hat13 hlt13 HG2 HI12 N12
      refine hK.out _ _ ?_ (fun hHeldN => ?_)
      · exact HC2.out _ _ HI13.out HP13.out
      clear hHeld hK K
      have hHeld := hHeldN
      clear hHeldN
      (try simp only [Act.put, List.setIfInBounds_toArray, List.set_cons_zero, List.set_cons_succ, List.getElem_toArray, List.getElem_cons_succ, List.getElem_cons_zero])
      refine wpAnyX_take [11, 12, 13] (i := 11) (oi := _) (v := ?_) rfl (by kernel_rfl) (by kernel_rfl) (by kernel_rfl) (by kernel_rfl) (fun _ _ _ h => h) (Or.inl ⟨by rfl, ?_⟩) (by assumption) ?_
      rotate_left
      · (intro w hSw; (try dsimp only at hSw); go_simp; try (with_reducible rfl))
      (try simp only [Act.put, List.setIfInBounds_toArray, List.set_cons_zero, List.set_cons_succ, List.getElem_toArray, List.getElem_cons_succ, List.getElem_cons_zero])
      refine wpAnyX_take [12, 13] (i := 12) (oi := _) (v := ?_) rfl (by kernel_rfl) (by kernel_rfl) (by kernel_rfl) (by kernel_rfl) (fun _ _ _ h => h) (Or.inl ⟨by rfl, ?_⟩) (by assumption) ?_
      rotate_left
      · (intro w hSw; (try dsimp only at hSw); go_simp; try (with_reducible rfl))
      (try simp only [Act.put, List.setIfInBounds_toArray, List.set_cons_zero, List.set_cons_succ, List.getElem_toArray, List.getElem_cons_succ, List.getElem_cons_zero])
      refine wpAnyX_last (o := _) (by kernel_rfl) rfl (fun K hK => ?_)
      go_simp
      refine hK.out _ _ ?_
      clear hK K
      (try simp only [Act.put, List.setIfInBounds_toArray, List.set_cons_zero, List.set_cons_succ, List.getElem_toArray, List.getElem_cons_succ, List.getElem_cons_zero])
      refine wpAnyX_done (by kernel_rfl) ?_ _
      clear f10 HP13 HI13 hHeld
      generalize W13.setCell ⟨P, 10, none⟩ (.slice (some ⟨g2, 0, none⟩) (ms'.length + 1) cap2) = W14 at *
      have d0 := cell_of_row _ pb 0 _ _ (0, 0) HI14.out.bp
      have d11 := (pl_cells HG3.out.box).2.2.2.2.2.2.2.2.2.2.2
      have f11 := free_cells HG3.out.box 11
      go_wp2_with fail
      go_end0
      refine ⟨rfl, _, _, ms' ++ [M], begun + 1, HG3.out.setBegun (begun + 1), ?_⟩
      rw [List.map_append, HM.out]
      show (⟨_ ++ [M.v], begun + 1⟩ : Pl) = _
      rw [HMn.out]
      unfold Pl.happen
      rw [if_pos rfl, HBM.out]
      simp only [List.length_map]
      split
      · rw [List.map_drop]
      · rfl
end Go.Proofs.Ytndnfhhdflmfcaa

/-
impl.player.happen: a stop.
-/
namespace Go.Proofs.Ytndnfhhdflmfcaa
open Go Go.RowKit Ieee

set_option maxRecDepth 100000 in
set_option maxHeartbeats 800000 in
theorem isBodyAt_any {w0 W : World} {P pb eb done now : Nat} {c : Pc} {ms : List Vm} {begun : Int} {e : Ev} {vV vT : Value} (h : SIn w0 W P pb eb c done now ms begun e vV vT) (i : Nat) (m : Vm) (hm : ms[i]? = some m) (hn : ms.length ≤ 16) :
    Calls Try.prog 105 #[.int .i64 i, .pointer (some ⟨pb, 0, none⟩), .pointer (some ⟨eb, 0, none⟩)] W fun r w' => r = .returned (.bool (m.v.body == e.2.2.1)) ∧ ∃ n, W.drewN n = w' := by
  have hi : i < ms.length := by
    rcases Nat.lt_or_ge i ms.length with h1 | h1
    · exact h1
    · rw [List.getElem?_eq_none h1] at hm; cases hm
  obtain ⟨b, vc, rfl, _, hbl, hv1, hv2, _, hcell⟩ := owns_cells h.pl.vrow (by omega) (flatV_len ms)
  have e0 := hcell _ _ (flatV_at hm).1
  have c0 := cell_of_row W pb 0 _ _ (0, 0) h.hi.bp
  have c9 := (pl_cells h.pl.box).2.2.2.2.2.2.2.2.2.1
  have c2 := cell_of_row W eb 2 _ _ (0, 0) h.hi.be
  have j1 : (i : Int) < (ms.length : Int) := by omega
  clear hcell h hm
  generalize m.v.body = x at *
  generalize e.2.2.1 = y at *
  go_enter Try.func105, Try.ntmps105
  go_wp2_with fail
  go_quiet (fail)
  go_wp2_with fail
  go_ret
  exact ⟨rfl, _, rfl⟩
theorem keepF_filter (g : Vm → Bool) (f : Nat → Bool) : ∀ (L : List Vm) (i : Nat), (∀ j m, L[j]? = some m → f (i + j) = g m) → keepF f i L = L.filter fun m => !g m := by
  intro L
  induction L with
  | nil => intro i _; rfl
  | cons x L ih =>
    intro i h
    have h0 : f i = g x := h 0 x rfl
    have hr := ih (i + 1) (fun j m hj => by
      have := h (j + 1) m (by simpa using hj)
      rwa [show i + (j + 1) = i + 1 + j by omega] at this)
    simp only [keepF, List.filter_cons, h0, hr]
    cases g x <;> simp
theorem filter_body (ms : List Vm) (y : Int) : (ms.filter fun m => !(m.v.body == y)).map Vm.v = (ms.map Vm.v).filter fun v => !(v.body == y) := by
  rw [List.filter_map]; rfl
set_option maxRecDepth 100000 in
set_option maxHeartbeats 1600000 in
theorem stop_any {w0 w : World} {P done now : Nat} {c : Pc} {vV vT : Value} {ms : List Vm} {begun : Int} (e : Ev) (h : PlIn w0 w w0.heap.size P c done now vV vT ms begun) (hk : e.2.1 = 3) (hms : ms.length ≤ 16) :
    Calls Try.prog 78 #[.pointer (some ⟨P, 0, none⟩), .agg #[.int .i64 e.1, .int .i64 e.2.1, .int .i64 e.2.2.1, .int .i64 e.2.2.2.1, .int .i64 e.2.2.2.2.1, .float .f32 e.2.2.2.2.2]] w (HapP w0 P c done now ms begun e) := by
  obtain ⟨at', kd, bo, sh, co, fo'⟩ := e
  simp only at hk
  subst hk
  have hW := Lib.hid (SIn.mk (h.alloc (.cells #[.pointer (some ⟨P, 0, none⟩)] 84) |>.alloc (.cells #[.int .i64 at', .int .i64 3, .int .i64 bo, .int .i64 sh, .int .i64 co, .float .f32 fo'] 48))
    (pb := w.heap.size) (eb := w.heap.size + 1) (e := (at', 3, bo, sh, co, fo')) ⟨(Below.heap_alloc _ _ _ (by simp)).trans (heap_alloc_new w _), by
      have := heap_alloc_new (w.alloc (.cells #[.pointer (some ⟨P, 0, none⟩)] 84)) (.cells #[.int .i64 at', .int .i64 3, .int .i64 bo, .int .i64 sh, .int .i64 co, .float .f32 fo'] 48)
      rwa [show (w.alloc (.cells #[.pointer (some ⟨P, 0, none⟩)] 84)).heap.size = w.heap.size + 1 by simp] at this⟩)
  clear h
  have c0 := cell_of_row _ _ 0 _ _ (0, 0) hW.out.hi.bp
  go_enter Try.func78, Try.ntmps78
  go_wp2_with fail
  generalize (w.alloc (.cells #[.pointer (some ⟨P, 0, none⟩)] 84)).alloc (.cells #[.int .i64 at', .int .i64 3, .int .i64 bo, .int .i64 sh, .int .i64 co, .float .f32 fo'] 48) = W at *
  generalize w.heap.size + 1 = eb at *
  generalize w.heap.size = pb at *
  clear c0
  refine (remove2_any pb eb (fun i => (ms[i]?.map fun m => m.v.body == bo).getD false) W hW.out.pl hms (fun i hi W' hb => ?_)).mono ?_
  · have hm : ms[i]? = some ms[i] := List.getElem?_eq_getElem hi
    refine (isBodyAt_any (hW.out.new hb) i ms[i] hm hms).mono ?_
    rintro r w' ⟨rfl, n, rfl⟩
    exact ⟨by rw [hm]; rfl, n, rfl⟩
  rintro r W2 ⟨rfl, vV', vT', hp, hg⟩
  rw [keepF_filter (fun m => m.v.body == bo) _ ms 0 (fun j m hj => by rw [Nat.zero_add, hj]; rfl)] at hp
  have HP := Lib.hid hp
  clear hp hg
  go_wp2_with fail
  go_end0
  refine ⟨rfl, vV', vT', _, begun, HP.out, ?_⟩
  rw [filter_body]
  rfl
end Go.Proofs.Ytndnfhhdflmfcaa

/-
impl.DampBody at a valid body and a factor from 0 to 1.
-/
namespace Go.Proofs.Ytndnfhhdflmfcaa
open Go Go.RowKit Ieee

/-- The first k modes are damped. -/
def Damped (f : Nat) (ms : List MW) (k : Nat) (L : List MW) : Prop := L.length = ms.length ∧ ∀ i, i < ms.length → mAt L i = if i < k then dampM f (mAt ms i) else mAt ms i
theorem Damped.zero (f : Nat) (ms : List MW) : Damped f ms 0 ms := ⟨rfl, fun i _ => by rw [if_neg (by omega)]⟩
theorem mAt_set {L : List MW} {k i : Nat} {m : MW} (hk : k < L.length) : mAt (L.set k m) i = if i = k then m else mAt L i := by
  unfold mAt
  simp only [List.getD, List.getElem?_set]
  by_cases e : i = k
  · subst e; simp [hk]
  · rw [if_neg (fun h => e h.symm), if_neg e]
theorem Damped.set {f : Nat} {ms L : List MW} {k : Nat} (h : Damped f ms k L) (hk : k < ms.length) : Damped f ms (k + 1) (L.set k (dampM f (mAt ms k))) := by
  refine ⟨by simpa using h.1, fun i hi => ?_⟩
  rw [mAt_set (by rw [h.1]; exact hk)]
  by_cases e : i = k
  · subst e; rw [if_pos rfl, if_pos (by omega)]
  · rw [if_neg e, h.2 i hi]
    by_cases e' : i < k
    · rw [if_pos e', if_pos (by omega)]
    · rw [if_neg e', if_neg (by omega)]
theorem Damped.done {f : Nat} {ms L : List MW} (h : Damped f ms ms.length L) : L = ms.map (dampM f) := by
  refine List.ext_getElem (by simpa using h.1) fun i h1 h2 => ?_
  have hi : i < ms.length := by rw [← h.1]; exact h1
  have := h.2 i hi
  rw [if_pos hi] at this
  simpa [mAt, List.getD, List.getElem?_eq_getElem h1, List.getElem?_eq_getElem hi] using this
theorem flatM_set (L : List MW) (k p q : Nat) (hk : k < L.length) : flatM (L.set k (p, q, (mAt L k).2.2)) = (flatM L).set (k * 2) (.complex .f32 p q) := by
  induction L generalizing k with
  | nil => simp at hk
  | cons m L ih =>
    cases k with
    | zero => simp [flatM, modeV, mAt]
    | succ k =>
      have := ih k (by simpa using hk)
      have e : (k + 1) * 2 = k * 2 + 1 + 1 := by omega
      rw [e]
      simp only [flatM, modeV, List.set_cons_succ, List.flatMap_cons, List.cons_append, List.nil_append] at this ⊢
      have em : mAt (m :: L) (k + 1) = mAt L k := by simp [mAt, List.getD]
      rw [em, this]
/-- A pole is stored in a row of modes. -/
theorem OwnM.setPole {w : World} {lo hi b c k p q : Nat} {L : List MW} (h : OwnM w lo hi (some ⟨b, 0, none⟩) c L) (hk : k < L.length) :
    OwnM (w.setCell ⟨b, k * 2, none⟩ (.complex .f32 p q)) lo hi (some ⟨b, 0, none⟩) c (L.set k (p, q, (mAt L k).2.2)) := by
  obtain ⟨⟨h1, h2⟩, h3⟩ := h
  rcases h2 with ⟨h2, _⟩ | ⟨g, cap, cur, e1, e2, e3, e4, e5, e6, e7⟩
  · cases h2
  injection e1 with q1 q2 q3
  injection q1 with q1
  injection q1 with q1
  subst q1 q3
  have hl : (L.set k (p, q, (mAt L k).2.2)).length = L.length := by simp
  refine ⟨⟨by rw [flatM_len], .inr ⟨b, c, cur.setIfInBounds (k * 2) (.complex .f32 p q), by rw [hl], e2, ?_, by rw [hl]; exact e4, e5, by simpa using e6, ?_⟩⟩, fun j hj => h3 j (by simpa [Value.ownBlock] using hj)⟩
  · simp [World.setCell, Array.getElem?_modify, e3]
  · rw [hl, flatM_set L k p q hk, ← e7]
    apply List.ext_getElem?
    intro i
    simp only [List.getElem?_take, List.getElem?_set, Array.toList_setIfInBounds, List.length_take]
    have hsz : cur.toList.length = c * 2 := by simpa using e6
    by_cases hi : i < L.length * 2
    · simp only [hi, if_true]
      by_cases e : k * 2 = i
      · subst e
        rw [if_pos rfl, if_pos rfl, if_pos (by omega), if_pos (by omega)]
      · rw [if_neg e, if_neg e]
    · simp only [hi, if_false]
      rw [if_neg (by omega)]
theorem OwnM.frozen {w : World} {lo hi b c : Nat} {L : List MW} (h : OwnM w lo hi (some ⟨b, 0, none⟩) c L) (k : Nat) : w.frozen? ⟨b, k, none⟩ = false := by
  obtain ⟨⟨h1, h2⟩, h3⟩ := h
  rcases h2 with ⟨h2, _⟩ | ⟨g, cap, cur, e1, e2, e3, e4, e5, e6, e7⟩
  · cases h2
  injection e1 with q1 q2 q3
  injection q1 with q1
  injection q1 with q1
  subst q1
  unfold World.frozen?; simp only [e3]; simp

/-- The words of a damped pole are numbers. -/
theorem damp_fin {f : Nat} {m : MW} (hm : ModeOk m.1 m.2.1 m.2.2.1 m.2.2.2) (hf : FacOk f) : fin .f32 (fo .mul .f32 m.1 f) ∧ fin .f32 (fo .mul .f32 m.2.1 f) := by
  have := damp_ok hm hf
  exact ⟨fin_of_wid this.fa, fin_of_wid this.fb⟩
end Go.Proofs.Ytndnfhhdflmfcaa

/-
impl.player.happen: voices damped.
-/
namespace Go.Proofs.Ytndnfhhdflmfcaa
open Go Go.RowKit Ieee

/-- A voice whose modes are others, as many. -/
def Vm.withM (m : Vm) (C : List MW) : Vm := { m with v := { m.v with ms := C } }
theorem withM_self (m : Vm) : m.withM m.v.ms = m := rfl
theorem withM_voC {m : Vm} {C : List MW} (h : C.length = m.v.ms.length) : voC (m.withM C) = voC m := by
  unfold voC Vm.withM
  simp only [h]
theorem withM_mod {m : Vm} {C : List MW} (h : C.length = m.v.ms.length) : (m.withM C).mod = m.mod := by
  unfold Vm.mod Vm.withM
  simp only [h]
theorem map_set_same {α β : Type} (f : α → β) (L : List α) (i : Nat) (x y : α) (h : L[i]? = some x) (hf : f y = f x) : (L.set i y).map f = L.map f := by
  refine List.ext_getElem? fun j => ?_
  rw [List.getElem?_map, List.getElem?_map, List.getElem?_set]
  by_cases e : i = j
  · subst e
    rw [if_pos rfl, h]
    have hi : i < L.length := by
      rcases Nat.lt_or_ge i L.length with h1 | h1
      · exact h1
      · rw [List.getElem?_eq_none h1] at h; cases h
    rw [if_pos hi]
    simp [hf]
  · rw [if_neg e]
theorem flatV_set {L : List Vm} {i : Nat} {x y : Vm} (h : L[i]? = some x) (hf : voC y = voC x) : flatV (L.set i y) = flatV L := by
  unfold flatV
  rw [List.flatMap_def, List.flatMap_def, map_set_same voC L i x y h hf]
theorem trs_set {L : List Vm} {i : Nat} {x y : Vm} (h : L[i]? = some x) (hf : y.v.tr = x.v.tr) : trs (L.set i y) = trs L := map_set_same _ L i x y h (by rw [hf])
theorem apart_set {L : List Vm} {i : Nat} {x y : Vm} (h : L[i]? = some x) (h1 : y.mod = x.mod) (h2 : y.S = x.S) (ha : Apart L) : Apart (L.set i y) := by
  have key : ∀ K : List Vm, Apart K ↔ (K.map fun m => (m.mod, m.S)).Pairwise fun a b => (∀ k, a.1.ownBlock = some k → b.1.ownBlock ≠ some k) ∧ a.2 ≠ b.2 := fun K => by
    rw [List.pairwise_map]; rfl
  rw [key] at ha ⊢
  rwa [map_set_same (fun m : Vm => (m.mod, m.S)) L i x y h (by simp only [h1, h2])]
theorem apart_ne {L : List Vm} {i j : Nat} {x y : Vm} (ha : Apart L) (hi : L[i]? = some x) (hj : L[j]? = some y) (hne : i ≠ j) : (∀ k, x.mod.ownBlock = some k → y.mod.ownBlock ≠ some k) ∧ x.S ≠ y.S := by
  have hil : i < L.length := by
    rcases Nat.lt_or_ge i L.length with h1 | h1
    · exact h1
    · rw [List.getElem?_eq_none h1] at hi; cases hi
  have hjl : j < L.length := by
    rcases Nat.lt_or_ge j L.length with h1 | h1
    · exact h1
    · rw [List.getElem?_eq_none h1] at hj; cases hj
  rw [List.getElem?_eq_getElem hil] at hi
  rw [List.getElem?_eq_getElem hjl] at hj
  injection hi with hi
  injection hj with hj
  subst hi hj
  rcases Nat.lt_or_ge i j with h1 | h1
  · exact List.pairwise_iff_getElem.1 ha i j hil hjl h1
  · have := List.pairwise_iff_getElem.1 ha j i hjl hil (by omega)
    exact ⟨fun k e1 e2 => this.1 k e2 e1, fun e => this.2 e.symm⟩
/-- A pole is stored. -/
theorem PlG.setPole {w0 w : World} {base P done now : Nat} {c : Pc} {vV vT : Value} {ms : List Vm} {begun : Int} (h : PlIn w0 w base P c done now vV vT ms begun) {i k b p q : Nat} {m : Vm} (hm : ms[i]? = some m) (hk : k < m.v.ms.length) (hM : m.M = some ⟨b, 0, none⟩) :
    PlIn w0 (w.setCell ⟨b, k * 2, none⟩ (.complex .f32 p q)) base P c done now vV vT (ms.set i (m.withM (m.v.ms.set k (p, q, (mAt m.v.ms k).2.2)))) begun := by
  have hmem : m ∈ ms := List.mem_of_getElem? hm
  have hv := h.vo m hmem
  have hob : m.mod.ownBlock = some b := by unfold Vm.mod; rw [hM]; rfl
  obtain ⟨cs, hcs⟩ := owns_ty hv.mod hob
  have hb0 := (hv.mod.lt b hob).1
  have hs := h.hs
  have hg : w.grownBy (w.setCell ⟨b, k * 2, none⟩ (.complex .f32 p q)) (some b) := grown_set _ _
  have kk : ∀ (j : Nat) (cs : Array Value) (t : TypeId) (f : Nat × Nat), w.heap[j]? = some (.cells cs t f) → t ≠ 74 → (w.setCell ⟨b, k * 2, none⟩ (.complex .f32 p q)).heap[j]? = w.heap[j]? := fun j cs t f hj ht => hg.block j (lt_of_some hj) (by intro e; injection e with e; exact ty_ne hj hcs ht e)
  have hl : (m.v.ms.set k (p, q, (mAt m.v.ms k).2.2)).length = m.v.ms.length := by simp
  have hvc := withM_voC hl
  have hset : (ms.set i (m.withM (m.v.ms.set k (p, q, (mAt m.v.ms k).2.2)))).length = ms.length := by simp
  show PlG _ _ _ _ _ _ _ _ _ _ (ms.set i _).length (trs (ms.set i _)) _
  rw [hset, trs_set (y := m.withM (m.v.ms.set k (p, q, (mAt m.v.ms k).2.2))) hm rfl]
  refine ⟨⟨hg.os.trans h.bel.os, hg.tape.trans h.bel.tape, hg.output.trans h.bel.output, Nat.le_trans h.bel.size hg.size, fun j hj => (hg.block j (by have := h.bel.size; omega) (by intro e; injection e with e; omega)).trans (h.bel.block j hj)⟩, h.hs, h.P0, (kk P _ _ _ h.box (by decide)).trans h.box, ?_, ?_, ?_, ?_, apart_set hm (withM_mod hl) rfl h.apart, h.kp.grown hg fun k q => by injection q with q; subst q; exact ⟨_, _, _, hcs, .inr (.inr (.inr (.inl rfl)))⟩, h.fbs⟩
  · exact owns_stay h.ev fun j e => by
      obtain ⟨cs, hc⟩ := owns_ty h.ev e
      exact kk j _ _ _ hc (by decide)
  · rw [hset, flatV_set hm hvc]
    exact owns_stay h.vrow fun j e => by
      obtain ⟨cs, hc⟩ := owns_ty h.vrow e
      exact kk j _ _ _ hc (by decide)
  · exact owns_stay h.trow fun j e => by
      obtain ⟨cs, hc⟩ := owns_ty h.trow e
      exact kk j _ _ _ hc (by decide)
  · intro x hx
    obtain ⟨j, hj⟩ := List.getElem?_of_mem hx
    rw [List.getElem?_set] at hj
    have rest : ∀ y, VmIn w base c.fb y → (y.mod.ownBlock ≠ some b) → VmIn (w.setCell ⟨b, k * 2, none⟩ (.complex .f32 p q)) base c.fb y := fun y hy hne =>
      hy.keep (fun z e => hg.block z (hy.mod.lt z e).2 (by intro e2; injection e2 with e2; exact hne (by rw [e, e2]))) (by
        obtain ⟨cs, hc⟩ := rowIs_ty hy.sts
        exact kk _ _ _ _ hc (by decide)) (fun z cs _ hz => kk z _ _ _ hz (by decide))
    by_cases e : i = j
    · subst e
      rw [if_pos rfl] at hj
      split at hj
      · injection hj with hj
        subst hj
        have hO : OwnM w base w.heap.size (some ⟨b, 0, none⟩) m.mc m.v.ms := by
          have := hv.mod
          unfold Vm.mod at this
          rw [hM] at this
          exact ⟨this, fun z e => (this.lt z e).2⟩
        have hO2 := (hO.setPole (p := p) (q := q) hk).1
        refine ⟨?_, fun z e => hv.mS z (by rw [← withM_mod hl]; exact e), ?_, hv.S0, ?_, hv.ic⟩
        · show World.ownsRow _ base _ 2 (.slice m.M _ m.mc) _ _
          rw [hM]; exact hO2
        · have hst := hv.sts
          have hb : (w.setCell ⟨b, k * 2, none⟩ (.complex .f32 p q)).heap[m.S]? = w.heap[m.S]? := by
            obtain ⟨cs, hc⟩ := rowIs_ty hst
            exact kk _ _ _ _ hc (by decide)
          show World.rowIs _ m.S _ (m.v.ms.set k _).length _
          rw [hl]
          exact hst.of_block hb
        · exact hv.inp.keep (fun z cs _ hz => kk z _ _ _ hz (by decide))
      · cases hj
    · rw [if_neg e] at hj
      exact rest x (h.vo x (List.mem_of_getElem? hj)) (fun e2 => (apart_ne h.apart hm hj e).1 b hob e2)
end Go.Proofs.Ytndnfhhdflmfcaa

/-
impl.player.happen: the walk of a damp.
-/
namespace Go.Proofs.Ytndnfhhdflmfcaa
open Go Go.RowKit Ieee

/-- What a damp does to a voice. -/
def dV (y : Int) (f : Nat) (v : Vp) : Vp := if v.body = y then v.damp f else v
/-- A voice's modes, damped up to mode k where its body is y. -/
def DampTo (y : Int) (f : Nat) (v : Vp) (k : Nat) (C : List MW) : Prop := if v.body = y then Damped f v.ms k C else C = v.ms
theorem DampTo.zero (y : Int) (f : Nat) (v : Vp) : DampTo y f v 0 v.ms := by
  unfold DampTo
  split
  · exact Damped.zero _ _
  · rfl
theorem DampTo.len {y : Int} {f k : Nat} {v : Vp} {C : List MW} (h : DampTo y f v k C) : C.length = v.ms.length := by
  unfold DampTo at h
  split at h
  · exact h.1
  · rw [h]
theorem DampTo.done {y : Int} {f : Nat} {m : Vm} {C : List MW} (h : DampTo y f m.v m.v.ms.length C) : (m.withM C).v = dV y f m.v := by
  unfold DampTo at h
  unfold dV
  by_cases e : m.v.body = y
  · rw [if_pos e] at h ⊢
    rw [h.done]; rfl
  · rw [if_neg e] at h ⊢
    rw [h]; rfl
/-- The first i voices have been damped. -/
def DmAll (y : Int) (f : Nat) (ms : List Vm) (i : Nat) (L : List Vm) : Prop := L.length = ms.length ∧ ∀ j x, L[j]? = some x → ∃ m, ms[j]? = some m ∧ x.v = if j < i then dV y f m.v else m.v
theorem DmAll.zero (y : Int) (f : Nat) (ms : List Vm) : DmAll y f ms 0 ms := ⟨rfl, fun j x h => ⟨x, h, by rw [if_neg (by omega)]⟩⟩
theorem DmAll.set {y : Int} {f i : Nat} {ms L : List Vm} {x z : Vm} (h : DmAll y f ms i L) (hx : L[i]? = some x) (hz : z.v = dV y f x.v) : DmAll y f ms (i + 1) (L.set i z) := by
  refine ⟨by simpa using h.1, fun j u hu => ?_⟩
  rw [List.getElem?_set] at hu
  by_cases e : i = j
  · subst e
    rw [if_pos rfl] at hu
    split at hu
    · injection hu with hu
      subst hu
      obtain ⟨m, h1, h2⟩ := h.2 i x hx
      rw [if_neg (by omega)] at h2
      exact ⟨m, h1, by rw [if_pos (by omega), hz, h2]⟩
    · cases hu
  · rw [if_neg e] at hu
    obtain ⟨m, h1, h2⟩ := h.2 j u hu
    refine ⟨m, h1, ?_⟩
    rw [h2]
    by_cases e' : j < i
    · rw [if_pos e', if_pos (by omega)]
    · rw [if_neg e', if_neg (by omega)]
theorem DmAll.done {y : Int} {f : Nat} {ms L : List Vm} (h : DmAll y f ms ms.length L) : L.map Vm.v = (ms.map Vm.v).map (dV y f) := by
  refine List.ext_getElem? fun j => ?_
  rw [List.getElem?_map, List.getElem?_map, List.getElem?_map]
  rcases Nat.lt_or_ge j L.length with hj | hj
  · obtain ⟨m, h1, h2⟩ := h.2 j L[j] (List.getElem?_eq_getElem hj)
    rw [List.getElem?_eq_getElem hj, h1]
    rw [if_pos (by have := h.1; omega)] at h2
    simp [h2]
  · rw [List.getElem?_eq_none hj, List.getElem?_eq_none (by have := h.1; omega)]
    rfl
theorem SIn.drewN {w0 w : World} {P pb eb : Nat} {c : Pc} {done now : Nat} {ms : List Vm} {begun : Int} {e : Ev} {vV vT : Value} (h : SIn w0 w P pb eb c done now ms begun e vV vT) (n : Nat) : SIn w0 (w.drewN n) P pb eb c done now ms begun e vV vT := h.new (below_drewN (Below.refl _ _) n)
/-- A pole is stored: all else stays. -/
theorem SIn.setPole {w0 w : World} {P pb eb done now : Nat} {c : Pc} {vV vT : Value} {L : List Vm} {begun : Int} {e : Ev} {i k b p q : Nat} {x : Vm} {C : List MW} (h : SIn w0 w P pb eb c done now (L.set i (x.withM C)) begun e vV vT) (hi : i < L.length) (hk : k < C.length) (hM : x.M = some ⟨b, 0, none⟩) :
    SIn w0 (w.setCell ⟨b, k * 2, none⟩ (.complex .f32 p q)) P pb eb c done now (L.set i (x.withM (C.set k (p, q, (mAt C k).2.2)))) begun e vV vT := by
  have hm : (L.set i (x.withM C))[i]? = some (x.withM C) := by simp [hi]
  have h1 := h.pl.setPole (p := p) (q := q) (b := b) (k := k) hm hk hM
  rw [List.set_set] at h1
  refine ⟨h1, h.hi.grown (grown_set _ _) fun z q => ?_⟩
  injection q with q
  subst q
  have hv := (h.pl.vo (x.withM C) (List.mem_of_getElem? hm)).mod
  obtain ⟨cs, hc⟩ := owns_ty hv (k := b) (by unfold Vm.mod Vm.withM; simp only [hM]; rfl)
  exact ⟨cs, _, _, hc, by decide, by decide⟩
/-- The modes of a voice in a player. -/
theorem SIn.own {w0 w : World} {P pb eb done now : Nat} {c : Pc} {vV vT : Value} {L : List Vm} {begun : Int} {e : Ev} {i : Nat} {x : Vm} {C : List MW} (h : SIn w0 w P pb eb c done now (L.set i (x.withM C)) begun e vV vT) (hi : i < L.length) : OwnM w w0.heap.size w.heap.size x.M x.mc C := by
  have hm : (L.set i (x.withM C))[i]? = some (x.withM C) := by simp [hi]
  have hv := (h.pl.vo (x.withM C) (List.mem_of_getElem? hm)).mod
  exact ⟨hv, fun z e => (hv.lt z e).2⟩

set_option maxRecDepth 100000 in
set_option maxHeartbeats 6400000 in
theorem damp_any {w0 w : World} {P done now : Nat} {c : Pc} {vV vT : Value} {ms : List Vm} {begun : Int} (e : Ev) (h : PlIn w0 w w0.heap.size P c done now vV vT ms begun) (hk : e.2.1 = 2) (hf : FacOk e.2.2.2.2.2) (hms : ms.length ≤ 16) (hmo : ∀ m ∈ ms, ModesOk m.v.ms ∧ m.v.ms.length ≤ 4) :
    Calls Try.prog 78 #[.pointer (some ⟨P, 0, none⟩), .agg #[.int .i64 e.1, .int .i64 e.2.1, .int .i64 e.2.2.1, .int .i64 e.2.2.2.1, .int .i64 e.2.2.2.2.1, .float .f32 e.2.2.2.2.2]] w (HapP w0 P c done now ms begun e) := by
  obtain ⟨at', kd, bo, sh, co, fo'⟩ := e
  simp only at hk
  subst hk
  have hW := Lib.hid (SIn.mk (h.alloc (.cells #[.pointer (some ⟨P, 0, none⟩)] 84) |>.alloc (.cells #[.int .i64 at', .int .i64 2, .int .i64 bo, .int .i64 sh, .int .i64 co, .float .f32 fo'] 48))
    (pb := w.heap.size) (eb := w.heap.size + 1) (e := (at', 2, bo, sh, co, fo')) ⟨(Below.heap_alloc _ _ _ (by simp)).trans (heap_alloc_new w _), by
      have := heap_alloc_new (w.alloc (.cells #[.pointer (some ⟨P, 0, none⟩)] 84)) (.cells #[.int .i64 at', .int .i64 2, .int .i64 bo, .int .i64 sh, .int .i64 co, .float .f32 fo'] 48)
      rwa [show (w.alloc (.cells #[.pointer (some ⟨P, 0, none⟩)] 84)).heap.size = w.heap.size + 1 by simp] at this⟩)
  have HMO := Lib.hid hmo
  have HF : Hid (FacOk fo') := hf
  clear h hmo hf
  obtain ⟨VA, vc, rfl⟩ := owns_form hW.out.pl.vrow
  have c0 := cell_of_row _ _ 0 _ _ (0, 0) hW.out.hi.bp
  have cP := pl_cells hW.out.pl.box
  have c9 := cP.2.2.2.2.2.2.2.2.2.1
  clear cP
  go_enter Try.func78, Try.ntmps78
  go_wp2_with fail
  clear c0 c9
  generalize (w.alloc (.cells #[.pointer (some ⟨P, 0, none⟩)] 84)).alloc (.cells #[.int .i64 at', .int .i64 2, .int .i64 bo, .int .i64 sh, .int .i64 co, .float .f32 fo'] 48) = W at *
  generalize w.heap.size + 1 = eb at *
  generalize w.heap.size = pb at *
  go_loopw [93] (fun i wr => ∃ (k : Nat) (L : List Vm), i = .int .i64 (k : Int) ∧ k ≤ ms.length ∧ Hid (DmAll bo fo' ms k L) ∧ Hid (SIn w0 wr P pb eb c done now L begun (at', 2, bo, sh, co, fo') (.slice VA ms.length vc) vT)) (fun i _ => ms.length - (intOf i).toNat)
  case atStart => exact ⟨0, ms, rfl, by omega, DmAll.zero _ _ _, hW.out⟩
  case round =>
    clear hW
    obtain ⟨i, L, rfl, hi, HD, HS⟩ := hrel
    by_cases hlt : i < ms.length
    · have hLl : i < L.length := by rw [HD.out.1]; exact hlt
      obtain ⟨x, hx⟩ : ∃ x, L[i]? = some x := ⟨L[i], List.getElem?_eq_getElem hLl⟩
      have HX := Lib.hid hx
      obtain ⟨m0, hm0, hxv⟩ := HD.out.2 i x hx
      rw [if_neg (by omega)] at hxv
      have HXM : Hid (ModesOk x.v.ms ∧ x.v.ms.length ≤ 4) := by
        rw [hxv]; exact HMO.out m0 (List.mem_of_getElem? hm0)
      have HL : Hid (L.length = ms.length) := HD.out.1
      have hvr := HS.out.pl.vrow
      rw [HL.out] at hvr
      obtain ⟨b, vc', hbe, _, hbl, hv1, hv2, _, hcell⟩ := owns_cells hvr (by omega) (by rw [flatV_len, HL.out])
      injection hbe with q1 _ q3
      subst q1 q3
      have e0 := hcell _ _ (flatV_at hx).1
      have e1 := hcell _ _ (flatV_at hx).2.1
      have e2 := hcell _ _ (flatV_at hx).2.2.1
      have e3 := hcell _ _ (flatV_at hx).2.2.2
      have HC : Hid (∀ W', Below wr.heap.size wr W' → SIn w0 W' P pb eb c done now (L.set i (x.withM x.v.ms)) begun (at', 2, bo, sh, co, fo') (.slice (some ⟨b, 0, none⟩) ms.length vc) vT) := fun W' hb => by
        rw [withM_self, show L.set i x = L from by
          refine List.ext_getElem? fun j => ?_
          rw [List.getElem?_set]
          by_cases e : i = j
          · subst e; rw [if_pos rfl, if_pos hLl, HX.out]
          · rw [if_neg e]]
        exact HS.out.new hb
      have hn4 : x.v.ms.length ≤ 4 := HXM.out.2
      have HSa := Lib.hid (HC.out (wr.alloc (.cells #[.int .i64 x.v.body, .slice x.M x.v.ms.length x.mc, .slice (some ⟨x.S, 0, none⟩) x.v.ms.length x.v.ms.length, .slice x.I x.v.xs.length x.ic] 93)) ((Below.refl _ _).alloc (Nat.le_refl _) _))
      have HVa := Lib.hid (heap_alloc_new wr (.cells #[.int .i64 x.v.body, .slice x.M x.v.ms.length x.mc, .slice (some ⟨x.S, 0, none⟩) x.v.ms.length x.v.ms.length, .slice x.I x.v.xs.length x.ic] 93))
      have c81 := cell_of_row _ _ 1 _ _ (0, 0) HVa.out
      clear hcell hvr hx hm0 hxv
      go_wp2_with fail
      clear e0 e1 e2 e3 c81
      generalize wr.alloc (.cells #[.int .i64 x.v.body, .slice x.M x.v.ms.length x.mc, .slice (some ⟨x.S, 0, none⟩) x.v.ms.length x.v.ms.length, .slice x.I x.v.xs.length x.ic] 93) = Wa at *
      clear HS HC
      have hvb : wr.heap.size = wr.heap.size := rfl
      generalize wr.heap.size = vb at *
      go_loopw [100] (fun j wr => ∃ (k : Nat) (C : List MW), j = .int .i64 (k : Int) ∧ k ≤ x.v.ms.length ∧ Hid (DampTo bo fo' x.v k C) ∧ Hid (SIn w0 wr P pb eb c done now (L.set i (x.withM C)) begun (at', 2, bo, sh, co, fo') (.slice (some ⟨b, 0, none⟩) ms.length vc) vT) ∧
        Hid (wr.heap[vb]? = some (.cells #[.int .i64 x.v.body, .slice x.M x.v.ms.length x.mc, .slice (some ⟨x.S, 0, none⟩) x.v.ms.length x.v.ms.length, .slice x.I x.v.xs.length x.ic] 93 (0, 0)))) (fun j _ => x.v.ms.length - (intOf j).toNat)
      case atStart => exact ⟨0, x.v.ms, rfl, by omega, DampTo.zero _ _ _, HSa.out, HVa.out⟩
      case round =>
        clear HSa HVa
        obtain ⟨k, C, rfl, hk, HD2, HS2, HV2⟩ := hrel
        have HCl : Hid (C.length = x.v.ms.length) := HD2.out.len
        by_cases hlt2 : k < x.v.ms.length
        · have c80 := cell_of_row _ _ 0 _ _ (0, 0) HV2.out
          have c82 := cell_of_row _ eb 2 _ _ (0, 0) HS2.out.hi.be
          by_cases hbo : x.v.body = bo
          · have hd : (x.v.body == bo) = true := by simpa using hbo
            have HBO := Lib.hid hbo
            clear hbo
            have hDm : Damped fo' x.v.ms k C := by have := HD2.out; unfold DampTo at this; rwa [if_pos HBO.out] at this
            have hm : mAt C k = mAt x.v.ms k := by have := hDm.2 k hlt2; rwa [if_neg (by omega)] at this
            have HO := Lib.hid (HS2.out.own hLl)
            have hkC : k < C.length := by rw [HCl.out]; exact hlt2
            obtain ⟨mb, hMe, _, _, hlc, hmx, hmcell⟩ := HO.out.cells (by omega)
            have HME := Lib.hid hMe
            rw [hMe] at HV2
            have f0 : ∀ n, (wr.drewN n).frozen? ⟨mb, k * 2, none⟩ = false := fun n => by
              have h0 := HO.out
              rw [HME.out] at h0
              exact h0.frozen (k * 2)
            have ec : wr.cell? ⟨mb, k * 2, none⟩ = some (.complex .f32 (mAt x.v.ms k).1 (mAt x.v.ms k).2.1) := by rw [← hm]; exact (hmcell k hkC).1
            have T := Lib.hid (fun W => implScaleS_any (mAt x.v.ms k).1 (mAt x.v.ms k).2.1 fo' W (damp_fin (HXM.out.1.at_ hlt2) HF.out).1 (damp_fin (HXM.out.1.at_ hlt2) HF.out).2)
            have HD3 : Hid (DampTo bo fo' x.v (k + 1) (C.set k (dampM fo' (mAt x.v.ms k)))) := by
              show DampTo _ _ _ _ _
              unfold DampTo
              rw [if_pos HBO.out]
              exact hDm.set hlt2
            have HS3 : Hid (∀ n, SIn w0 ((wr.drewN n).setCell ⟨mb, k * 2, none⟩ (.complex .f32 (fo .mul .f32 (mAt x.v.ms k).1 fo') (fo .mul .f32 (mAt x.v.ms k).2.1 fo'))) P pb eb c done now (L.set i (x.withM (C.set k (dampM fo' (mAt x.v.ms k))))) begun (at', 2, bo, sh, co, fo') (.slice (some ⟨b, 0, none⟩) ms.length vc) vT) := fun n => by
              have := (HS2.out.drewN n).setPole (p := fo .mul .f32 (mAt x.v.ms k).1 fo') (q := fo .mul .f32 (mAt x.v.ms k).2.1 fo') hLl hkC HME.out
              rw [hm] at this
              exact this
            have HV3 : Hid (∀ n v, ((wr.drewN n).setCell ⟨mb, k * 2, none⟩ v).heap[vb]? = some (.cells #[.int .i64 x.v.body, .slice (some ⟨mb, 0, none⟩) x.v.ms.length x.mc, .slice (some ⟨x.S, 0, none⟩) x.v.ms.length x.v.ms.length, .slice x.I x.v.xs.length x.ic] 93 (0, 0))) := fun n v => by
              obtain ⟨cs, hc⟩ := owns_ty HO.out.1 (k := mb) (by rw [HME.out]; rfl)
              exact (Below.heap_setCell _ _ _ _ (by intro e; exact ty_ne HV2.out hc (by decide) e)).trans HV2.out
            have c81 := cell_of_row _ _ 1 _ _ (0, 0) HV2.out
            have c85 := cell_of_row _ eb 5 _ _ (0, 0) HS2.out.hi.be
            clear hmcell hm hDm hMe
            generalize (mAt x.v.ms k).1 = p at *
            generalize (mAt x.v.ms k).2.1 = q at *
            go_wp2_with fail
            go_region_with (first
              | (go_at_call 36
                 refine (T.out _).mono ?_
                 rintro e w' ⟨rfl, nq, rfl⟩))
            all_goals
             go_wp2_with fail
             go_roundw
             case rel =>
              refine ⟨k + 1, _, by go_num, by omega, HD3.out, HS3.out _, ?_⟩
              have := HV3.out
              rw [← HME.out] at this
              exact this _ _
             case measure => simp [intOf]; omega
          · have hd : (x.v.body == bo) = false := by simpa using hbo
            have HBO := Lib.hid hbo
            clear hbo
            have HD3 : Hid (DampTo bo fo' x.v (k + 1) C) := by
              have := HD2.out
              show DampTo _ _ _ _ _
              unfold DampTo at this ⊢
              rw [if_neg HBO.out] at this ⊢
              exact this
            go_wp2_with fail
            go_roundw
            case rel => exact ⟨k + 1, C, by go_num, by omega, HD3.out, HS2.out, HV2.out⟩
            case measure => simp [intOf]; omega
        · have hkn : x.v.ms.length = k := by omega
          have HD3 : Hid (DampTo bo fo' x.v x.v.ms.length C) := by
            have := HD2.out
            rw [← hkn] at this
            exact this
          have HDn : Hid (DmAll bo fo' ms (i + 1) (L.set i (x.withM C))) := HD.out.set HX.out HD3.out.done
          clear HD2 HD3
          subst hkn
          go_wp2_with fail
          go_roundw
          case rel => exact ⟨i + 1, _, by go_num, by omega, HDn.out, HS2.out⟩
          case measure => simp [intOf]; omega
    · have hkn : ms.length = i := by omega
      subst hkn
      have HDn : Hid (L.map Vm.v = (ms.map Vm.v).map (dV bo fo')) := HD.out.done
      go_wp2_with fail
      go_end0
      exact ⟨rfl, _, vT, L, begun, HS.out.pl, by rw [HDn.out]; rfl⟩
end Go.Proofs.Ytndnfhhdflmfcaa

/-
impl.player.happen at any event; impl.player.arrive.
-/
namespace Go.Proofs.Ytndnfhhdflmfcaa
open Go Go.RowKit Ieee

/-- What is known of a player: its voices are valid, no more than it may have. -/
structure PvOk (t : Nat) (most : Int) (p : Pl) : Prop where
  vs : ∀ v ∈ p.vs, VpOk t v
  len : (p.vs.length : Int) ≤ most
  b0 : 0 ≤ p.begun
theorem PvOk.mono {t t' : Nat} {most : Int} {p : Pl} (h : PvOk t most p) (ht : t ≤ t') : PvOk t' most p := ⟨fun v hv => (h.vs v hv).mono ht, h.len, h.b0⟩
/-- What is known of a player's constants. -/
structure PcOk (L most : Int) (c : Pc) : Prop where
  bods : BodsOk c.bs 4 3
  v1 : 1 ≤ c.s.2.1
  v8 : c.s.2.1 ≤ 8
  evs : ∀ e ∈ c.L, EvOk L c.bs.length e
  len : c.L.length ≤ 19
  most : most = c.s.2.1
theorem eAt_mem {L : List Ev} {i : Nat} (h : i < L.length) : eAt L i ∈ L := by
  unfold eAt
  simp only [List.getD, List.getElem?_eq_getElem h]
  exact List.getElem_mem h
theorem Pl.happen_ok {t : Nat} {most L : Int} {bs : List Bd} {p : Pl} {e : Ev} (h : PvOk t most p) (hm : 1 ≤ most) (hb : BodsOk bs 4 3) (he : EvOk L bs.length e) : PvOk t most (p.happen (bmOf bs) most e) := by
  unfold Pl.happen
  have h0 := h.b0
  have hl := h.len
  by_cases h1 : e.2.1 = 1
  · rw [if_pos h1]
    have hbi : e.2.2.1.toNat < bs.length := by have := he.b0; have := he.b1; omega
    have hn : VpOk t (Vp.new (bmOf bs e.2.2.1) e p.begun) := VpOk.new (hb.2 _ hbi).1 (hb.2 _ hbi).2 he h1
    by_cases hf : most ≤ (p.vs.length : Int)
    · rw [if_pos hf]
      refine ⟨fun v hv => ?_, ?_, ?_⟩
      · rcases List.mem_append.1 hv with hv | hv
        · exact h.vs v (List.mem_of_mem_drop hv)
        · rw [List.mem_singleton.1 hv]; exact hn
      · simp; omega
      · show 0 ≤ p.begun + 1
        omega
    · rw [if_neg hf]
      refine ⟨fun v hv => ?_, ?_, ?_⟩
      · rcases List.mem_append.1 hv with hv | hv
        · exact h.vs v hv
        · rw [List.mem_singleton.1 hv]; exact hn
      · simp; omega
      · show 0 ≤ p.begun + 1
        omega
  · rw [if_neg h1]
    by_cases h2 : e.2.1 = 2
    · rw [if_pos h2]
      have hf : FacOk e.2.2.2.2.2 := by
        rcases he.kind with ⟨q, _⟩ | ⟨_, _, _, _, q⟩ | ⟨q, _⟩
        · omega
        · exact q
        · omega
      refine ⟨fun v hv => ?_, by simpa using hl, h0⟩
      obtain ⟨u, hu, rfl⟩ := List.mem_map.1 hv
      by_cases hx : u.body = e.2.2.1
      · rw [if_pos hx]; exact (h.vs u hu).damp hf
      · rw [if_neg hx]; exact h.vs u hu
    · rw [if_neg h2]
      refine ⟨fun v hv => h.vs v (List.mem_filter.1 hv).1, ?_, h0⟩
      have := List.length_filter_le (fun v : Vp => !(v.body == e.2.2.1)) p.vs
      show ((p.vs.filter fun v => !(v.body == e.2.2.1)).length : Int) ≤ most
      omega
theorem Pl.happen_begun {bm : Int → List MW} {most : Int} {p : Pl} {e : Ev} : (p.happen bm most e).begun ≤ p.begun + 1 := by
  unfold Pl.happen
  split
  · exact Int.le_refl _
  · split
    · show p.begun ≤ p.begun + 1
      omega
    · show p.begun ≤ p.begun + 1
      omega
theorem happen_any {w0 w : World} {P done now t : Nat} {c : Pc} {vV vT : Value} {ms : List Vm} {begun L most : Int} {lo : Nat} (e : Ev) (h : PlIn w0 w w0.heap.size P c done now vV vT ms begun) (hbods : BodsIn w0 lo w0.heap.size c.B c.bs) (hc : PcOk L most c) (he : EvOk L c.bs.length e) (hp : PvOk t most ⟨ms.map Vm.v, begun⟩) (hb1 : begun ≤ 100) :
    Calls Try.prog 78 #[.pointer (some ⟨P, 0, none⟩), .agg #[.int .i64 e.1, .int .i64 e.2.1, .int .i64 e.2.2.1, .int .i64 e.2.2.2.1, .int .i64 e.2.2.2.2.1, .float .f32 e.2.2.2.2.2]] w (HapP w0 P c done now ms begun e) := by
  have hl : (ms.length : Int) ≤ c.s.2.1 := by have := hp.len; rw [hc.most] at this; simpa using this
  have h8 := hc.v8
  rcases he.kind with ⟨q, _⟩ | ⟨q, _, _, _, hf⟩ | ⟨q, _⟩
  · exact strike_any (t := t) e h hbods hc.bods he q hc.v1 hc.v8 hl hp.b0 hb1
  · exact damp_any e h q hf (by omega) (fun m hm => ⟨(hp.vs m.v (List.mem_map_of_mem hm)).ms, (hp.vs m.v (List.mem_map_of_mem hm)).lm⟩)
  · exact stop_any e h q (by omega)

theorem drop_eAt {L : List Ev} {i : Nat} (h : i < L.length) : L.drop i = eAt L i :: L.drop (i + 1) := by
  rw [List.drop_eq_getElem_cons h]
  simp [eAt, List.getD, List.getElem?_eq_getElem h]
/-- What arrive does. -/
def ArrP (w0 : World) (P : Nat) (c : Pc) (done now : Nat) (ms : List Vm) (begun : Int) (r : Ending) (w' : World) : Prop :=
  r = .returned (.tuple #[]) ∧ ∃ d' vV' vT' ms' b', PlIn w0 w' w0.heap.size P c d' now vV' vT' ms' b' ∧ done ≤ d' ∧ d' ≤ c.L.length ∧
    arriveP (bmOf c.bs) c.s.2.1 now (c.L.drop done) ⟨ms.map Vm.v, begun⟩ = (d' - done, ⟨ms'.map Vm.v, b'⟩)
/-- Where the walk of arrive is. -/
structure AIn (w0 w : World) (P : Nat) (c : Pc) (done now t : Nat) (most : Int) (p0 : Pl) (d : Nat) (ms : List Vm) (begun : Int) (vV vT : Value) : Prop where
  pl : PlIn w0 w w0.heap.size P c d now vV vT ms begun
  d0 : done ≤ d
  d1 : d ≤ c.L.length
  ok : PvOk t most ⟨ms.map Vm.v, begun⟩
  bd : begun ≤ d
  eq : arriveP (bmOf c.bs) c.s.2.1 now (c.L.drop done) p0 = ((arriveP (bmOf c.bs) c.s.2.1 now (c.L.drop d) ⟨ms.map Vm.v, begun⟩).1 + (d - done), (arriveP (bmOf c.bs) c.s.2.1 now (c.L.drop d) ⟨ms.map Vm.v, begun⟩).2)

set_option maxRecDepth 100000 in
set_option maxHeartbeats 6400000 in
theorem arrive_any {w0 w : World} {P done now t : Nat} {c : Pc} {vV vT : Value} {ms : List Vm} {begun L most : Int} {lo : Nat} (h : PlIn w0 w w0.heap.size P c done now vV vT ms begun) (hbods : BodsIn w0 lo w0.heap.size c.B c.bs) (hc : PcOk L most c) (hp : PvOk t most ⟨ms.map Vm.v, begun⟩) (hd : done ≤ c.L.length) (hb : begun ≤ done) :
    Calls Try.prog 48 #[.pointer (some ⟨P, 0, none⟩)] w (ArrP w0 P c done now ms begun) := by
  have HC := Lib.hid hc
  have HB := Lib.hid hbods
  have hlen : c.L.length ≤ 19 := hc.len
  have HA : Hid (AIn w0 w P c done now t most ⟨ms.map Vm.v, begun⟩ done ms begun vV vT) := ⟨h, Nat.le_refl _, hd, hp, hb, by simp⟩
  clear h hbods hc hp hd hb
  go_enter Try.func48, Try.ntmps48
  go_wp2_with fail
  go_loopw [] (fun wr => ∃ (d : Nat) (ms' : List Vm) (b' : Int) (vV' vT' : Value), Hid (AIn w0 wr P c done now t most ⟨ms.map Vm.v, begun⟩ d ms' b' vV' vT')) (fun wr => c.L.length - (intOf ((wr.cell? ⟨P, 7, none⟩).getD (.int .i64 0))).toNat)
  case atStart => exact ⟨done, ms, begun, vV, vT, HA⟩
  case round =>
    clear HA
    obtain ⟨d, ms', b', vV', vT', HA⟩ := hrel
    have hd1 : d ≤ c.L.length := HA.out.d1
    have cP := pl_cells HA.out.pl.box
    have c6 := cP.2.2.2.2.2.2.1
    have c7 := cP.2.2.2.2.2.2.2.1
    have c8 := cP.2.2.2.2.2.2.2.2.1
    have H7 := Lib.hid c7
    clear cP
    by_cases hlt : d < c.L.length
    · have j1 : (d : Int) < (c.L.length : Int) := by omega
      obtain ⟨b, hA, _, _, hbw, hlc, hcm, hcell⟩ := (OwnE.of HA.out.pl.ev).cells (by omega)
      obtain ⟨e0, e1, e2, e3, e4, e5⟩ := hcell d hlt
      rw [hA] at c6
      have HE : Hid (EvOk L c.bs.length (eAt c.L d)) := HC.out.evs _ (eAt_mem hlt)
      have HDr := Lib.hid (drop_eAt hlt)
      by_cases hnow : (eAt c.L d).1 = (now : Int)
      · have hdd : ((eAt c.L d).1 == (now : Int)) = true := by simpa using hnow
        have HNOW := Lib.hid hnow
        clear hcell hnow
        go_wp2_with fail
        go_quiet (fail)
        go_wp2_with fail
        have HA1 : Hid (PlIn w0 (wr.drewN nq).drew w0.heap.size P c d now vV' vT' ms' b') := (HA.out.pl.drewN nq).drewN 1
        have HAo := Lib.hid HA.out.ok
        have hbd : b' ≤ d := HA.out.bd
        have HAe := Lib.hid HA.out.eq
        have hd0 : done ≤ d := HA.out.d0
        have HEQ : Hid (c.A = some ⟨b, 0, none⟩) := hA
        have HM : Hid (intOf ((wr.cell? ⟨P, 7, none⟩).getD (.int .i64 0)) = (d : Int)) := Lib.hid (by rw [H7.out]; rfl)
        have HCC : Hid (∀ W' vV vT ms b', PlIn w0 W' w0.heap.size P c d now vV vT ms b' → W'.cell? ⟨P, 6, none⟩ = some (.slice (some ⟨b, 0, none⟩) c.L.length c.c) ∧ W'.cell? ⟨P, 7, none⟩ = some (.int .i64 d) ∧
            W'.cell? ⟨b, d * 6, none⟩ = some (.int .i64 (eAt c.L d).1) ∧ W'.cell? ⟨b, d * 6 + 1, none⟩ = some (.int .i64 (eAt c.L d).2.1) ∧ W'.cell? ⟨b, d * 6 + 2, none⟩ = some (.int .i64 (eAt c.L d).2.2.1) ∧
            W'.cell? ⟨b, d * 6 + 3, none⟩ = some (.int .i64 (eAt c.L d).2.2.2.1) ∧ W'.cell? ⟨b, d * 6 + 4, none⟩ = some (.int .i64 (eAt c.L d).2.2.2.2.1) ∧ W'.cell? ⟨b, d * 6 + 5, none⟩ = some (.float .f32 (eAt c.L d).2.2.2.2.2)) := Lib.hid (fun W' vV vT ms b' hp => by
          have cP := pl_cells hp.box
          have c6 := cP.2.2.2.2.2.2.1
          rw [HEQ.out] at c6
          obtain ⟨b2, hA2, _, _, _, _, _, hcell2⟩ := (OwnE.of hp.ev).cells (by omega)
          rw [HEQ.out] at hA2
          injection hA2 with hA2
          injection hA2 with hA2
          subst hA2
          exact ⟨c6, cP.2.2.2.2.2.2.2.1, hcell2 d hlt⟩)
        clear c6 c7 c8 e0 e1 e2 e3 e4 e5 hA HA H7 hdd
        refine wp_region_held_drew (S := fun W' => W'.cell? ⟨P, 6, none⟩ = some (.slice (some ⟨b, 0, none⟩) c.L.length c.c) ∧ W'.cell? ⟨P, 7, none⟩ = some (.int .i64 d) ∧
            W'.cell? ⟨b, d * 6, none⟩ = some (.int .i64 (eAt c.L d).1) ∧ W'.cell? ⟨b, d * 6 + 1, none⟩ = some (.int .i64 (eAt c.L d).2.1) ∧ W'.cell? ⟨b, d * 6 + 2, none⟩ = some (.int .i64 (eAt c.L d).2.2.1) ∧
            W'.cell? ⟨b, d * 6 + 3, none⟩ = some (.int .i64 (eAt c.L d).2.2.2.1) ∧ W'.cell? ⟨b, d * 6 + 4, none⟩ = some (.int .i64 (eAt c.L d).2.2.2.2.1) ∧ W'.cell? ⟨b, d * 6 + 5, none⟩ = some (.float .f32 (eAt c.L d).2.2.2.2.2)) (by kernel_rfl) (HCC.out _ _ _ _ _ HA1.out) (fun hHeld => ?_)
        generalize hev : eAt c.L d = ev at *
        generalize (wr.drewN nq).drew = W1 at *
        refine wpAnyH_take (i := 0) (oi := _) (v := ?_) rfl (by kernel_rfl) (by kernel_rfl) (by kernel_rfl) (fun _ _ _ h => h) (Or.inl ⟨by rfl, ?_⟩) (by assumption) ?_
        rotate_left
        · (intro w hSw; (try dsimp only at hSw); go_simp; try (with_reducible rfl))
        (try simp only [Act.put, List.setIfInBounds_toArray, List.set_cons_zero, List.set_cons_succ, List.getElem_toArray, List.getElem_cons_succ, List.getElem_cons_zero])
        refine wpAnyH_take (i := 1) (oi := _) (v := ?_) rfl (by kernel_rfl) (by kernel_rfl) (by kernel_rfl) (fun _ _ _ h => h) (Or.inl ⟨by rfl, ?_⟩) (by assumption) ?_
        rotate_left
        · (intro w hSw; (try dsimp only at hSw); go_simp; try (with_reducible rfl))
        (try simp only [Act.put, List.setIfInBounds_toArray, List.set_cons_zero, List.set_cons_succ, List.getElem_toArray, List.getElem_cons_succ, List.getElem_cons_zero])
        refine wpAnyH_take (i := 2) (oi := _) (v := ?_) rfl (by kernel_rfl) (by kernel_rfl) (by kernel_rfl) (fun _ _ _ h => h) (Or.inl ⟨by rfl, ?_⟩) (by assumption) ?_
        rotate_left
        · (intro w hSw; (try dsimp only at hSw); go_simp; try (with_reducible rfl))
        (try simp only [Act.put, List.setIfInBounds_toArray, List.set_cons_zero, List.set_cons_succ, List.getElem_toArray, List.getElem_cons_succ, List.getElem_cons_zero])
        refine wpAnyH_take (i := 3) (oi := _) (v := ?_) rfl (by kernel_rfl) (by kernel_rfl) (by kernel_rfl) (fun _ _ _ h => h) (Or.inl ⟨by rfl, ?_⟩) (by assumption) ?_
        rotate_left
        · (intro w hSw; (try dsimp only at hSw); go_simp; try (with_reducible rfl))
        (try simp only [Act.put, List.setIfInBounds_toArray, List.set_cons_zero, List.set_cons_succ, List.getElem_toArray, List.getElem_cons_succ, List.getElem_cons_zero])
        refine wpAnyH_take (i := 4) (oi := _) (v := ?_) rfl (by kernel_rfl) (by kernel_rfl) (by kernel_rfl) (fun _ _ _ h => h) (Or.inl ⟨by rfl, ?_⟩) (by assumption) ?_
        rotate_left
        · (intro w hSw; (try dsimp only at hSw); go_simp; try (with_reducible rfl))
        (try simp only [Act.put, List.setIfInBounds_toArray, List.set_cons_zero, List.set_cons_succ, List.getElem_toArray, List.getElem_cons_succ, List.getElem_cons_zero])
        refine wpAnyH_take (i := 5) (oi := _) (v := ?_) rfl (by kernel_rfl) (by kernel_rfl) (by kernel_rfl) (fun _ _ _ h => h) (Or.inl ⟨by rfl, ?_⟩) (by assumption) ?_
        rotate_left
        · (intro w hSw; (try dsimp only at hSw); go_simp; try (with_reducible rfl))
        (try simp only [Act.put, List.setIfInBounds_toArray, List.set_cons_zero, List.set_cons_succ, List.getElem_toArray, List.getElem_cons_succ, List.getElem_cons_zero])
        refine wpAnyH_take (i := 6) (oi := _) (v := ?_) rfl (by kernel_rfl) (by kernel_rfl) (by kernel_rfl) (fun _ _ _ h => h) (Or.inl ⟨by rfl, ?_⟩) (by assumption) ?_
        rotate_left
        · (intro w hSw; (try dsimp only at hSw); go_simp; try (with_reducible rfl))
        (try simp only [Act.put, List.setIfInBounds_toArray, List.set_cons_zero, List.set_cons_succ, List.getElem_toArray, List.getElem_cons_succ, List.getElem_cons_zero])
        refine wpAnyH_take (i := 7) (oi := _) (v := ?_) rfl (by kernel_rfl) (by kernel_rfl) (by kernel_rfl) (fun _ _ _ h => h) (Or.inl ⟨by rfl, ?_⟩) (by assumption) ?_
        rotate_left
        · (intro w hSw; (try dsimp only at hSw); go_simp; try (with_reducible rfl))
        (try simp only [Act.put, List.setIfInBounds_toArray, List.set_cons_zero, List.set_cons_succ, List.getElem_toArray, List.getElem_cons_succ, List.getElem_cons_zero])
        refine wpAnyH_take (i := 8) (oi := _) (v := ?_) rfl (by kernel_rfl) (by kernel_rfl) (by kernel_rfl) (fun _ _ _ h => h) (Or.inl ⟨by rfl, ?_⟩) (by assumption) ?_
        rotate_left
        · (intro w hSw; (try dsimp only at hSw); go_simp; try (with_reducible rfl))
        (try simp only [Act.put, List.setIfInBounds_toArray, List.set_cons_zero, List.set_cons_succ, List.getElem_toArray, List.getElem_cons_succ, List.getElem_cons_zero])
        refine wpAnyH_take (i := 9) (oi := _) (v := ?_) rfl (by kernel_rfl) (by kernel_rfl) (by kernel_rfl) (fun _ _ _ h => h) (Or.inl ⟨by rfl, ?_⟩) (by assumption) ?_
        rotate_left
        · (intro w hSw; (try dsimp only at hSw); go_simp; try (with_reducible rfl))
        (try simp only [Act.put, List.setIfInBounds_toArray, List.set_cons_zero, List.set_cons_succ, List.getElem_toArray, List.getElem_cons_succ, List.getElem_cons_zero])
        refine wpAnyH_take (i := 10) (oi := _) (v := ?_) rfl (by kernel_rfl) (by kernel_rfl) (by kernel_rfl) (fun _ _ _ h => h) (Or.inl ⟨by rfl, ?_⟩) (by assumption) ?_
        rotate_left
        · (intro w hSw; (try dsimp only at hSw); go_simp; try (with_reducible rfl))
        (try simp only [Act.put, List.setIfInBounds_toArray, List.set_cons_zero, List.set_cons_succ, List.getElem_toArray, List.getElem_cons_succ, List.getElem_cons_zero])
        refine wpAnyH_ready (rs := [11]) (by kernel_rfl) (by simp) ?_
        refine AllReadyH.cons (o := _) rfl (fun K hK => ?_) AllReadyH.nil
        go_simp
        refine (happen_any (t := t) ev HA1.out HB.out HC.out HE.out HAo.out (by omega)).mono ?_
        rintro r W2 ⟨rfl, vV2, vT2, ms2, b2, hp2, he2⟩
        have HP2 := Lib.hid hp2
        have HE2 := Lib.hid he2
        clear hp2 he2
        go_wp2_with fail
        refine hK.out _ _ ?_ (fun hHeldN => ?_)
        · exact HCC.out _ _ _ _ _ HP2.out
        clear hHeld hK K
        have hHeld := hHeldN
        clear hHeldN
        (try simp only [Act.put, List.setIfInBounds_toArray, List.set_cons_zero, List.set_cons_succ, List.getElem_toArray, List.getElem_cons_succ, List.getElem_cons_zero])
        refine wpAnyH_done (by kernel_rfl) ?_ _
        (try simp only [List.getElem_toArray, List.getElem_cons_succ, List.getElem_cons_zero, Act.put, List.setIfInBounds_toArray, List.set_cons_zero, List.set_cons_succ])
        have HP3 := Lib.hid (HP2.out.setDone (d + 1))
        have HM2 : Hid ((W2.setCell ⟨P, 7, none⟩ (.int .i64 ((d : Int) + 1))).cell? ⟨P, 7, none⟩ = some (.int .i64 ((d : Int) + 1))) := (pl_cells HP3.out.box).2.2.2.2.2.2.2.1
        have c7 := (pl_cells HP2.out.box).2.2.2.2.2.2.2.1
        have f7 := free_cells HP2.out.box 7
        have HBB : Hid (b2 ≤ b' + 1) := by
          have := Pl.happen_begun (bm := bmOf c.bs) (most := c.s.2.1) (p := ⟨ms'.map Vm.v, b'⟩) (e := ev)
          rw [← HE2.out] at this
          exact this
        have HOK : Hid (PvOk t most ⟨ms2.map Vm.v, b2⟩) := by
          have := Pl.happen_ok (most := most) HAo.out (by rw [HC.out.most]; exact HC.out.v1) HC.out.bods HE.out
          rw [HC.out.most, ← HE2.out, ← HC.out.most] at this
          exact this
        go_wp2_with fail
        go_roundw
        case rel =>
          refine ⟨d + 1, ms2, b2, vV2, vT2, ⟨HP3.out, by omega, by omega, HOK.out, by have := HBB.out; omega, ?_⟩⟩
          rw [HAe.out, HDr.out]
          simp only [arriveP, if_pos HNOW.out, ← HE2.out]
          simp only [Prod.mk.injEq, and_true]
          omega
        case measure =>
          rw [HM.out, HM2.out]
          simp [intOf]
          omega
      · have hdd : ((eAt c.L d).1 == (now : Int)) = false := by simpa using hnow
        have HNOW := Lib.hid hnow
        clear hcell hnow
        go_wp2_with fail
        go_quiet (fail)
        go_wp2_with fail
        go_end0
        refine ⟨rfl, d, vV', vT', ms', b', HA.out.pl.drewN _, HA.out.d0, HA.out.d1, ?_⟩
        rw [HA.out.eq, HDr.out]
        simp only [arriveP, if_neg HNOW.out]
        simp
    · have hdl : c.L.length = d := by omega
      have j1 : ¬ (d : Int) < (c.L.length : Int) := by omega
      have j2 : decide ((d : Int) < (c.L.length : Int)) = false := by simpa using j1
      go_wp2_with fail
      go_quiet (fail)
      go_wp2_with fail
      go_end0
      refine ⟨rfl, d, vV', vT', ms', b', HA.out.pl.drewN _, HA.out.d0, HA.out.d1, ?_⟩
      rw [HA.out.eq, show c.L.drop d = [] from List.drop_eq_nil_of_le (by omega)]
      simp [arriveP]
end Go.Proofs.Ytndnfhhdflmfcaa

/-
A player whose voice takes a step.
-/
namespace Go.Proofs.Ytndnfhhdflmfcaa
open Go Go.RowKit Ieee

/-- A cell of an own row is stored. -/
theorem owns_put {w : World} {lo n k b c j : Nat} {e : TypeId} {xs : List Value} (h : w.ownsRow lo e k (.slice (some ⟨b, 0, none⟩) n c) n xs) (hj : j < n * k) (v : Value) : (w.setCell ⟨b, j, none⟩ v).ownsRow lo e k (.slice (some ⟨b, 0, none⟩) n c) n (xs.set j v) := by
  obtain ⟨h1, h2⟩ := h
  refine ⟨by simpa using h1, ?_⟩
  rcases h2 with ⟨h2, _⟩ | ⟨g, cap, cur, e1, e2, e3, e4, e5, e6, e7⟩
  · cases h2
  injection e1 with q1 q2 q3
  injection q1 with q1
  injection q1 with q1
  subst q1 q3
  refine .inr ⟨b, c, cur.setIfInBounds j v, rfl, e2, ?_, e4, e5, by simpa using e6, ?_⟩
  · simp [World.setCell, Array.getElem?_modify, e3]
  · rw [← e7]
    apply List.ext_getElem?
    intro i
    have hsz : cur.toList.length = c * k := by simpa using e6
    have hle : n * k ≤ c * k := Nat.mul_le_mul_right k e4
    simp only [List.getElem?_take, List.getElem?_set, Array.toList_setIfInBounds, List.length_take]
    by_cases hi : i < n * k
    · simp only [hi, if_true]
      by_cases e : j = i
      · subst e
        rw [if_pos rfl, if_pos rfl, if_pos (by omega), if_pos (by omega)]
      · rw [if_neg e, if_neg e]
    · simp only [hi, if_false]
      rw [if_neg (by omega)]
/-- A voice after a step at an input. -/
def Vm.stepM (m : Vm) (X : Nat) : Vm := { m with v := { m.v with ss := nextS m.v.ms m.v.ss X } }
/-- A voice whose input goes on. -/
def Vm.tailM (m : Vm) (I : Option Addr) (ic : Nat) : Vm := { m with v := { m.v with xs := m.v.xs.drop 1 }, I := I, ic := ic }
theorem map_set_upd {α β : Type} (f : α → β) (L : List α) (i : Nat) (y : α) : (L.set i y).map f = (L.map f).set i (f y) := by simp
theorem flatV_set_in {L : List Vm} {i : Nat} {x y : Vm} {u : Value} (h : L[i]? = some x) (hy : voC y = (voC x).set 3 u) : flatV (L.set i y) = (flatV L).set (i * 4 + 3) u := by
  induction L generalizing i with
  | nil => simp at h
  | cons m L ih =>
    cases i with
    | zero =>
      injection h with h
      subst h
      simp only [flatV, List.set_cons_zero, List.flatMap_cons, hy]
      simp [voC]
    | succ i =>
      have := ih (i := i) (by simpa using h)
      simp only [flatV, List.set_cons_succ, List.flatMap_cons] at this ⊢
      rw [this, show (i + 1) * 4 + 3 = i * 4 + 3 + 1 + 1 + 1 + 1 by omega]
      simp [voC]
/-- One voice of a player takes a turn. -/
theorem PlG.turn {w0 w w' : World} {base P done now : Nat} {c : Pc} {vV vT : Value} {ms : List Vm} {begun : Int} (h : PlIn w0 w base P c done now vV vT ms begun) {i g : Nat} {x y : Vm} {cs : Array Value} {t : TypeId} {f : Nat × Nat} (hx : ms[i]? = some x)
    (hg : w.grownBy w' (some g)) (hc : w.heap[g]? = some (.cells cs t f)) (t1 : 91 ≠ t) (t2 : 48 ≠ t) (t3 : 3 ≠ t) (t4 : PT t) (hb : base ≤ g)
    (hv : w'.ownsRow base 93 4 vV ms.length (flatV (ms.set i y))) (hy : VmIn w' base c.fb y) (ho : ∀ j z, ms[j]? = some z → i ≠ j → VmIn w' base c.fb z) (e1 : y.mod = x.mod) (e2 : y.S = x.S) (e3 : y.v.tr = x.v.tr) :
    PlIn w0 w' base P c done now vV vT (ms.set i y) begun := by
  have hs := h.hs
  have kk : ∀ (j : Nat) (cs' : Array Value) (t' : TypeId) (f' : Nat × Nat), w.heap[j]? = some (.cells cs' t' f') → t' ≠ t → w'.heap[j]? = w.heap[j]? := fun j cs' t' f' hj ht => hg.block j (lt_of_some hj) (by intro e; injection e with e; exact ty_ne hj hc ht e)
  have hset : (ms.set i y).length = ms.length := by simp
  show PlG _ _ _ _ _ _ _ _ _ _ (ms.set i _).length (trs (ms.set i _)) _
  rw [hset, trs_set (y := y) hx e3]
  refine ⟨⟨hg.os.trans h.bel.os, hg.tape.trans h.bel.tape, hg.output.trans h.bel.output, Nat.le_trans h.bel.size hg.size, fun j hj => (hg.block j (by have := h.bel.size; omega) (by intro e; injection e with e; omega)).trans (h.bel.block j hj)⟩, h.hs, h.P0, (kk P _ _ _ h.box t1).trans h.box, ?_, ?_, ?_, ?_, apart_set hx e1 e2 h.apart, h.kp.grown hg fun k q => by injection q with q; subst q; exact ⟨_, _, _, hc, t4⟩, h.fbs⟩
  · exact owns_stay h.ev fun j e => by
      obtain ⟨cs, hc⟩ := owns_ty h.ev e
      exact kk j _ _ _ hc t2
  · rw [hset]; exact hv
  · exact owns_stay h.trow fun j e => by
      obtain ⟨cs, hc⟩ := owns_ty h.trow e
      exact kk j _ _ _ hc t3
  · intro z hz
    obtain ⟨j, hj⟩ := List.getElem?_of_mem hz
    rw [List.getElem?_set] at hj
    by_cases e : i = j
    · subst e
      rw [if_pos rfl] at hj
      split at hj
      · injection hj with hj
        subst hj
        exact hy
      · cases hj
    · rw [if_neg e] at hj
      exact ho j z hj e
/-- A voice's states take a step. -/
theorem PlG.setStates {w0 w w' : World} {base P done now : Nat} {c : Pc} {vV vT : Value} {ms : List Vm} {begun : Int} (h : PlIn w0 w base P c done now vV vT ms begun) {i X : Nat} {x : Vm} (hx : ms[i]? = some x) (hg : w.grownBy w' (some x.S))
    (hr : w'.rowIs x.S 72 x.v.ms.length (fun i => sV (sAt (nextS x.v.ms x.v.ss X) i))) : PlIn w0 w' base P c done now vV vT (ms.set i (x.stepM X)) begun := by
  have hv := h.vo x (List.mem_of_getElem? hx)
  obtain ⟨cs, hc⟩ := rowIs_ty hv.sts
  have ho : ∀ j z, ms[j]? = some z → i ≠ j → VmIn w' base c.fb z := fun j z hj hne => (h.vo z (List.mem_of_getElem? hj)).other hg hc (fun e => (apart_ne h.apart hx hj hne).2 e.symm)
  refine h.turn (y := x.stepM X) hx hg hc (by decide) (by decide) (by decide) (.inr (.inr (.inr (.inr rfl)))) hv.S0 ?_ ?_ ho rfl rfl rfl
  · rw [flatV_set (y := x.stepM X) hx rfl]
    exact owns_stay h.vrow fun j e => by
      obtain ⟨cs', hc'⟩ := owns_ty h.vrow e
      exact hg.block j (lt_of_some hc') (by intro q; injection q with q; exact ty_ne hc' hc (by decide) q)
  · refine ⟨owns_stay hv.mod fun k e => ?_, hv.mS, hr, hv.S0, hv.inp.keep fun b cs' _ hb => ?_, hv.ic⟩
    · obtain ⟨cs', hc'⟩ := owns_ty hv.mod e
      exact hg.block k (lt_of_some hc') (by intro q; injection q with q; exact ty_ne hc' hc (by decide) q)
    · exact hg.block b (lt_of_some hb) (by intro q; injection q with q; exact ty_ne hb hc (by decide) q)
/-- A voice's input goes on. -/
theorem PlG.setInput {w0 w : World} {base P done now b vc : Nat} {c : Pc} {vT : Value} {ms : List Vm} {begun : Int} (h : PlIn w0 w base P c done now (.slice (some ⟨b, 0, none⟩) ms.length vc) vT ms begun) {i ic : Nat} {I : Option Addr} {x : Vm} (hx : ms[i]? = some x)
    (hI : RdT w base c.fb I (x.v.xs.drop 1)) (hic : x.v.xs.length - 1 ≤ ic ∧ ic ≤ maxLen) :
    PlIn w0 (w.setCell ⟨b, i * 4 + 3, none⟩ (.slice I (x.v.xs.length - 1) ic)) base P c done now (.slice (some ⟨b, 0, none⟩) ms.length vc) vT (ms.set i (x.tailM I ic)) begun := by
  have hil : i < ms.length := by
    rcases Nat.lt_or_ge i ms.length with h1 | h1
    · exact h1
    · rw [List.getElem?_eq_none h1] at hx; cases hx
  have hv := h.vo x (List.mem_of_getElem? hx)
  obtain ⟨cs, hc⟩ := owns_ty h.vrow (k := b) rfl
  have hb := (h.vrow.lt b rfl).1
  have hg : w.grownBy (w.setCell ⟨b, i * 4 + 3, none⟩ (.slice I (x.v.xs.length - 1) ic)) (some b) := grown_set _ _
  have hx' := hv.grown hg hc (by decide) (by decide) (by decide)
  refine h.turn (y := x.tailM I ic) hx hg hc (by decide) (by decide) (by decide) (.inr (.inl rfl)) hb ?_ ?_ (fun j z hj _ => (h.vo z (List.mem_of_getElem? hj)).grown hg hc (by decide) (by decide) (by decide)) rfl rfl rfl
  · rw [flatV_set_in (u := .slice I (x.v.xs.length - 1) ic) hx (by simp [voC, Vm.tailM])]
    exact owns_put h.vrow (by omega) _
  · refine ⟨hx'.mod, hx'.mS, hx'.sts, hx'.S0, hI.keep fun j cs' _ hj => ?_, by simpa [Vm.tailM] using hic⟩
    exact hg.block j (lt_of_some hj) (by intro q; injection q with q; exact ty_ne hj hc (by decide) q)
/-- A row of numbers that no input lies in is turned. -/
theorem PlG.outGrown {w0 w w' : World} {base P done now : Nat} {c : Pc} {vV vT : Value} {ms : List Vm} {begun : Int} (h : PlIn w0 w base P c done now vV vT ms begun) {r : Option Nat} {B : Nat} (hg : w.grownBy w' r) (hr : ∀ k, r = some k → base ≤ k ∧ B ≤ k ∧ ∃ cs, w.heap[k]? = some (.cells cs 31 (0, 0)))
    (hI : ∀ m ∈ ms, ∀ b off, m.I = some ⟨b, off, none⟩ → 0 < m.v.xs.length → b < B) (hW : c.wk.heap.size ≤ B) : PlIn w0 w' base P c done now vV vT ms begun := by
  have hs := h.hs
  have kk : ∀ (j : Nat) (cs' : Array Value) (t' : TypeId) (f' : Nat × Nat), w.heap[j]? = some (.cells cs' t' f') → t' ≠ 31 → w'.heap[j]? = w.heap[j]? := fun j cs' t' f' hj ht => hg.block j (lt_of_some hj) (by
    intro e
    obtain ⟨_, _, cs, hc⟩ := hr j e.symm
    exact ty_ne hj hc ht rfl)
  refine ⟨⟨hg.os.trans h.bel.os, hg.tape.trans h.bel.tape, hg.output.trans h.bel.output, Nat.le_trans h.bel.size hg.size, fun j hj => (hg.block j (by have := h.bel.size; omega) (by intro e; have := (hr j e.symm).1; omega)).trans (h.bel.block j hj)⟩, h.hs, h.P0, (kk P _ _ _ h.box (by decide)).trans h.box, ?_, ?_, ?_, ?_, h.apart, ⟨Nat.le_trans h.kp.1 hg.size, fun j cs t f hj ht => (hg.block j (lt_of_some (h.kp.2 j cs t f hj ht)) (fun q => by have := (hr j q.symm).2.1; have := lt_of_some hj; omega)).trans (h.kp.2 j cs t f hj ht)⟩, h.fbs⟩
  · exact owns_stay h.ev fun j e => by
      obtain ⟨cs, hc⟩ := owns_ty h.ev e
      exact kk j _ _ _ hc (by decide)
  · exact owns_stay h.vrow fun j e => by
      obtain ⟨cs, hc⟩ := owns_ty h.vrow e
      exact kk j _ _ _ hc (by decide)
  · exact owns_stay h.trow fun j e => by
      obtain ⟨cs, hc⟩ := owns_ty h.trow e
      exact kk j _ _ _ hc (by decide)
  · intro m hm
    have hv := h.vo m hm
    refine ⟨owns_stay hv.mod fun k e => ?_, hv.mS, hv.sts.of_block ?_, hv.S0, fun hl => ?_, hv.ic⟩
    · obtain ⟨cs, hc⟩ := owns_ty hv.mod e
      exact kk k _ _ _ hc (by decide)
    · obtain ⟨cs, hc⟩ := rowIs_ty hv.sts
      exact kk _ _ _ _ hc (by decide)
    · obtain ⟨b, off, cs, e, h1, hb, hcc⟩ := hv.inp hl
      have hlt := hI m hm b off e hl
      exact ⟨b, off, cs, e, h1, (hg.block b (lt_of_some hb) (by intro q; have := (hr b q.symm).2.1; omega)).trans hb, hcc⟩
/-- The tail of an input. -/
theorem RdT.tail {w : World} {base b off : Nat} {fb : Nat → Prop} {xs : List Nat} (h : RdT w base fb (some ⟨b, off, none⟩) xs) : RdT w base fb (some ⟨b, off + 1, none⟩) (xs.drop 1) := fun hl => by
  have hl' : 0 < xs.length := by simp at hl; omega
  obtain ⟨b', off', cs, e, h1, hb, hc⟩ := h hl'
  injection e with e
  injection e with e1 e2
  subst e1 e2
  refine ⟨b, off + 1, cs, rfl, h1, hb, fun k u hu => ?_⟩
  rw [show off + 1 + k = off + (k + 1) by omega]
  refine hc (k + 1) u ?_
  simp only [f32s, List.map_drop, List.getElem?_drop] at hu
  rw [Nat.add_comm k 1]; exact hu
theorem RdT.none {w : World} {base : Nat} {fb : Nat → Prop} (I : Option Addr) {xs : List Nat} (h : xs.length ≤ 1) : RdT w base fb I (xs.drop 1) := fun hl => by simp at hl; omega
end Go.Proofs.Ytndnfhhdflmfcaa
