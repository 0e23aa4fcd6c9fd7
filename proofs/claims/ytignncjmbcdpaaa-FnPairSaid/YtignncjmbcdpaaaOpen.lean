/-
Arguments opened: slices of floats, floats.
-/
import Derived.Test.YtignncjmbcdpaaaFloats2
import Derived.ProofKit
import Derived.OpenShut
import Derived.Deep.Slices
namespace Go.Proofs.Ytignncjmbcdpaaa
open Go Go.RowKit Go.ChangeShapes Go.WideShapes

theorem own : ownKnob Try.prog.godebug = none := by kernel_rfl
theorem laidOut : laidOutB Try.prog = true := by kernel_rfl

section
variable {H : Type} {enc : TypeId × Value → H} {P : Program} {w : World} {base fuel : Nat} {spare : Nat → Bool} {held : Bool} {t e : TypeId} {cs : List Value} {x : DataW H × List MemPlace}

theorem trod_float {k : FloatKind} (ht : P.underlying t = some (.float k)) (h : DataW.trod enc P w base spare held fuel t cs = some x) :
    ∃ b, cs = [.float k b] ∧ x = (.lit (.float k b), []) ∧ (Lit.float k b).wf = true := by
  cases fuel with
  | zero => simp [DataW.trod] at h
  | succ n =>
    unfold DataW.trod at h
    rw [ht] at h
    split at h <;> simp_all

theorem addr_add_spot (a : Addr) (hs : a.spot = none) (i : Nat) : a.add i = ⟨a.block, a.off + i, none⟩ := by
  obtain ⟨b, o, s⟩ := a
  subst hs
  unfold Addr.add
  by_cases h : i = 0
  · subst h; simp
  · simp [h]

theorem cell_lt {w : World} {p : Addr} {v : Value} (h : w.cell? p = some v) : p.block < w.heap.size := by
  unfold World.cell? at h
  rcases Nat.lt_or_ge p.block w.heap.size with h1 | h1
  · exact h1
  · rw [Array.getElem?_eq_none h1] at h; cases h

/-- A slice of floats that came in. -/
theorem open_floats {k : FloatKind} {v : Value} {d : DataW H} {ps : List MemPlace} {A : Option Addr} {len cap : Nat} (hv : v = .slice A len cap) (ht : P.underlying t = some (.slice e)) (he : P.underlying e = some (.float k)) (hc : P.cellsOf e = 1)
    (h : DataW.Trod enc P w base spare held t v d ps) : ∃ bs : List Nat, bs.length = len ∧ len ≤ maxLen ∧ Rd w A (bs.map (.float k)) ∧ ∀ i, i < len → wfk k (bs.getD i 0) := by
  obtain ⟨fuel, hf⟩ := h
  subst hv
  rcases Deep.open_slice1 ht hc hf with ⟨hcs, _⟩ | ⟨a, l, c, m, n, V, D, Pl, hcs, hb, hl, hm, hmm, _, hx⟩
  · simp [Value.cells] at hcs
    obtain ⟨rfl, rfl, rfl⟩ := hcs
    exact ⟨[], rfl, by simp, fun h => by simp at h, fun i hi => absurd hi (Nat.not_lt_zero _)⟩
  · simp [Value.cells] at hcs
    obtain ⟨rfl, rfl, rfl⟩ := hcs
    have hlm : len ≤ m := by rw [hmm]; split <;> omega
    obtain ⟨F, hF⟩ := Deep.choose_lt (n := len) (p := fun i b => V i = .float k b ∧ (Lit.float k b).wf = true) (fun i hi => by
      obtain ⟨_, h2⟩ := hx i (by omega)
      obtain ⟨b, h3, _, h4⟩ := trod_float he h2
      exact ⟨b, by simpa using h3, h4⟩)
    refine ⟨(List.range len).map F, by simp, by omega, fun h0 => ?_, fun i hi => ?_⟩
    · have h0 : 0 < len := by simpa using h0
      have hs : a.spot = none := by
        have := World.cell?_spot (hx 0 (by omega)).1
        simpa [Addr.add] using this
      have hcell := (hx 0 (by omega)).1
      rw [addr_add_spot a hs] at hcell
      refine ⟨a.block, a.off, ?_, cell_lt (p := ⟨a.block, a.off + 0, none⟩) hcell, fun j u hu => ?_⟩
      · obtain ⟨b, o, s⟩ := a
        subst hs; rfl
      · have hj : j < len := by
          rcases Nat.lt_or_ge j len with h1 | h1
          · exact h1
          · rw [List.getElem?_eq_none (by simpa using h1)] at hu; cases hu
        have h1 := (hx j (by omega)).1
        rw [addr_add_spot a hs, (hF j hj).1] at h1
        rw [h1]
        simpa [List.getElem?_range hj] using hu
    · have := (hF i hi).2
      have e1 : ((List.range len).map F).getD i 0 = F i := by simp [List.getD, hi]
      rw [e1]
      exact wfk_lit this

/-- A slice of bytes that came in. -/
theorem open_bytes {v : Value} {d : DataW H} {ps : List MemPlace} {A : Option Addr} {len cap : Nat} (hv : v = .slice A len cap) (ht : P.underlying t = some (.slice e)) (he : P.underlying e = some (.int .u8)) (hc : P.cellsOf e = 1)
    (h : DataW.Trod enc P w base spare held t v d ps) : ∃ bs : List Int, bs.length = len ∧ len ≤ maxLen ∧ Rd w A (bs.map (.int .u8)) ∧ ∀ i, i < len → 0 ≤ bs.getD i 0 ∧ bs.getD i 0 ≤ 255 := by
  obtain ⟨fuel, hf⟩ := h
  subst hv
  rcases Deep.open_slice1 ht hc hf with ⟨hcs, _⟩ | ⟨a, l, c, m, n, V, D, Pl, hcs, hb, hl, hm, hmm, _, hx⟩
  · simp [Value.cells] at hcs
    obtain ⟨rfl, rfl, rfl⟩ := hcs
    exact ⟨[], rfl, by simp, fun h => by simp at h, fun i hi => absurd hi (Nat.not_lt_zero _)⟩
  · simp [Value.cells] at hcs
    obtain ⟨rfl, rfl, rfl⟩ := hcs
    have hlm : len ≤ m := by rw [hmm]; split <;> omega
    obtain ⟨F, hF⟩ := Deep.choose_lt (n := len) (p := fun i b => V i = .int .u8 b ∧ (Lit.int .u8 b).wf = true) (fun i hi => by
      obtain ⟨_, h2⟩ := hx i (by omega)
      obtain ⟨b, h3, _, h4⟩ := DataW.trod_int he h2
      exact ⟨b, by simpa using h3, h4⟩)
    refine ⟨(List.range len).map F, by simp, by omega, fun h0 => ?_, fun i hi => ?_⟩
    · have h0 : 0 < len := by simpa using h0
      have hs : a.spot = none := by
        have := World.cell?_spot (hx 0 (by omega)).1
        simpa [Addr.add] using this
      have hcell := (hx 0 (by omega)).1
      rw [addr_add_spot a hs] at hcell
      refine ⟨a.block, a.off, ?_, cell_lt (p := ⟨a.block, a.off + 0, none⟩) hcell, fun j u hu => ?_⟩
      · obtain ⟨b, o, s⟩ := a
        subst hs; rfl
      · have hj : j < len := by
          rcases Nat.lt_or_ge j len with h1 | h1
          · exact h1
          · rw [List.getElem?_eq_none (by simpa using h1)] at hu; cases hu
        have h1 := (hx j (by omega)).1
        rw [addr_add_spot a hs, (hF j hj).1] at h1
        rw [h1]
        simpa [List.getElem?_range hj] using hu
    · have h1 := (hF i hi).2
      have e1 : ((List.range len).map F).getD i 0 = F i := by simp [List.getD, hi]
      rw [e1]
      simpa [Lit.wf, IntKind.min, IntKind.max, IntKind.signed, IntKind.bits] using h1
end
end Go.Proofs.Ytignncjmbcdpaaa
