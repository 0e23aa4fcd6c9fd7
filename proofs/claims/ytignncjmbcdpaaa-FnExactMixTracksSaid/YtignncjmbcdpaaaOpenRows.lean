/-
A slice of slices of single precision that came in.
-/
import Derived.Test.YtignncjmbcdpaaaOpen
namespace Go.Proofs.Ytignncjmbcdpaaa
open Go Go.RowKit Ieee

/-- A row: where it lies, its capacity, its words. -/
abbrev Row := Option Addr × Nat × List Nat
def rowV (r : Row) : Value := .slice r.1 r.2.2.length r.2.1
def rowAt (rs : List Row) (i : Nat) : Row := rs.getD i (none, 0, [])
def RdSS (w : World) (A : Option Addr) (rs : List Row) : Prop := Rd w A (rs.map rowV) ∧ ∀ i, i < rs.length → Rd w (rowAt rs i).1 (f32s (rowAt rs i).2.2)
theorem RdSS.below {w w' : World} {A : Option Addr} {rs : List Row} (h : RdSS w A rs) (hb : Below w.heap.size w w') : RdSS w' A rs := ⟨h.1.below hb, fun i hi => (h.2 i hi).below hb⟩
theorem rowV_at {rs : List Row} {k : Nat} (h : k < rs.length) : (rs.map rowV)[k]? = some (rowV (rowAt rs k)) := by
  simp [rowAt, List.getD, List.getElem?_eq_getElem h]

section
variable {H : Type} {enc : TypeId × Value → H} {P : Program} {w : World} {base : Nat} {spare : Nat → Bool} {held : Bool} {t e q : TypeId}
theorem open_rows {v : Value} {d : DataW H} {ps : List MemPlace} {A : Option Addr} {len cap : Nat} (hv : v = .slice A len cap) (ht : P.underlying t = some (.slice e)) (he : P.underlying e = some (.slice q)) (hq : P.underlying q = some (.float .f32))
    (ce : P.cellsOf e = 1) (cq : P.cellsOf q = 1)
    (h : DataW.Trod enc P w base spare held t v d ps) : ∃ rs : List Row, rs.length = len ∧ len ≤ maxLen ∧ RdSS w A rs ∧ ∀ i, i < len → (rowAt rs i).2.2.length ≤ maxLen ∧ ∀ j, j < (rowAt rs i).2.2.length → wfk .f32 ((rowAt rs i).2.2.getD j 0) := by
  obtain ⟨fuel, hf⟩ := h
  subst hv
  rcases Deep.open_slice1 ht ce hf with ⟨hcs, _⟩ | ⟨a, l, c, m, n, V, D, Pl, hcs, hb, hl, hm, hmm, _, hx⟩
  · simp [Value.cells] at hcs
    obtain ⟨rfl, rfl, rfl⟩ := hcs
    exact ⟨[], rfl, by simp, ⟨fun h => by simp at h, fun i hi => by simp at hi⟩, fun i hi => absurd hi (Nat.not_lt_zero _)⟩
  · simp [Value.cells] at hcs
    obtain ⟨rfl, rfl, rfl⟩ := hcs
    have hlm : len ≤ m := by rw [hmm]; split <;> omega
    obtain ⟨F, hF⟩ := Deep.choose_lt (n := len) (p := fun i (r : Row) => V i = rowV r ∧ Rd w r.1 (f32s r.2.2) ∧ r.2.2.length ≤ maxLen ∧ ∀ j, j < r.2.2.length → wfk .f32 (r.2.2.getD j 0)) (fun i hi => by
      obtain ⟨_, h2⟩ := hx i (by omega)
      obtain ⟨A', l', c', hV⟩ : ∃ A' l' c', V i = .slice A' l' c' := by
        rcases Deep.open_slice1 he cq h2 with ⟨h3, _⟩ | ⟨a', l', c', _, _, _, _, _, h3, _⟩
        · exact ⟨none, 0, 0, by simpa using h3⟩
        · exact ⟨some a', l', c', by simpa using h3⟩
      have hT : DataW.Trod enc P w base spare held e (.slice A' l' c') (D i) (Pl i) := ⟨n, by rw [hV] at h2; simpa [Value.cells] using h2⟩
      obtain ⟨bs, hb1, hb2, hb3, hb4⟩ := open_floats rfl he hq cq hT
      exact ⟨(A', c', bs), by rw [hV]; simp [rowV, hb1], hb3, by simpa [hb1] using hb2, fun j hj => hb4 j (by simpa [hb1] using hj)⟩)
    have hat : ∀ i, i < len → rowAt ((List.range len).map F) i = F i := fun i hi => by simp [rowAt, List.getD, hi]
    refine ⟨(List.range len).map F, by simp, by omega, ⟨fun h0 => ?_, fun i hi => ?_⟩, fun i hi => ?_⟩
    · have h0 : 0 < len := by simpa using h0
      have hs : a.spot = none := by
        have := World.cell?_spot (hx 0 (by omega)).1
        simpa [Addr.add] using this
      have hcell := (hx 0 (by omega)).1
      rw [addr_add_spot a hs] at hcell
      refine ⟨a.block, a.off, ?_, cell_lt (p := ⟨a.block, a.off + 0, none⟩) hcell, fun j u hu => ?_⟩
      · obtain ⟨b, o, s⟩ := a
        subst hs; rfl
      · have hj : j < len := by
          rcases Nat.lt_or_ge j len with h1 | h1
          · exact h1
          · rw [List.getElem?_eq_none (by simpa using h1)] at hu; cases hu
        have h1 := (hx j (by omega)).1
        rw [addr_add_spot a hs, (hF j hj).1] at h1
        rw [h1]
        simpa [List.getElem?_range hj] using hu
    · have hi : i < len := by simpa using hi
      rw [hat i hi]; exact (hF i hi).2.1
    · rw [hat i hi]; exact (hF i hi).2.2
end
end Go.Proofs.Ytignncjmbcdpaaa
