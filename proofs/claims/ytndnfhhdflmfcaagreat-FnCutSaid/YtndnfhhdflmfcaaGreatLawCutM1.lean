/-
Part 1 of 8 of the proof of the law FnCut: it returns true for all codes. No condition.
-/
import Derived.Test.YtndnfhhdflmfcaaGreatRows
import Derived.WalkKit
import Derived.WalkSpells
import Derived.WalkLawsBesides
import Derived.Deep.Draws
import Derived.Deep.QuietTactic
import Derived.BigQuiet
import Derived.Lib.Hide
import Derived.Laws.BitsAllLaws
import Derived.Laws.BitsLemmas
import Derived.Laws.Externs
import Ieee.Arith
import Derived.Laws.FloatBits
import Derived.Deep.OwnRows
import Derived.Lib.MinMax
import Derived.Deep.RegionWith
import Derived.Deep.Cut

/-
Words for memory: a slice that reads as a list of cells; draws; frames. Nothing of any Go program stands here.
-/
namespace Go.Proofs.YtndnfhhdflmfcaaGreat
open Go.RowKit

/-- The slice at 'A' holds the cells 'xs' (one cell an element). -/
def Rd (w : World) (A : Option Addr) (xs : List Value) : Prop :=
  0 < xs.length → ∃ b off, A = some ⟨b, off, none⟩ ∧ b < w.heap.size ∧ ∀ k u, xs[k]? = some u → w.cell? ⟨b, off + k, none⟩ = some u

theorem Rd.at_ {w : World} {A : Option Addr} {xs : List Value} (h : Rd w A xs) {k : Nat} (hk : k < xs.length) :
    ∃ b off, A = some ⟨b, off, none⟩ ∧ b < w.heap.size ∧ w.cell? ⟨b, off + k, none⟩ = some xs[k] := by
  obtain ⟨b, off, e, hb, hc⟩ := h (by omega)
  exact ⟨b, off, e, hb, hc k _ (List.getElem?_eq_getElem hk)⟩

theorem Rd.below {w w' : World} {A : Option Addr} {xs : List Value} (h : Rd w A xs) (hb : Below w.heap.size w w') : Rd w' A xs := fun hl => by
  obtain ⟨b, off, e, hlt, hc⟩ := h hl
  exact ⟨b, off, e, Nat.lt_of_lt_of_le hlt hb.size, fun k u hu => (hb.cell (p := ⟨b, off + k, none⟩) hlt).trans (hc k u hu)⟩

theorem Rd.drewN {w : World} {A : Option Addr} {xs : List Value} (h : Rd w A xs) (n : Nat) : Rd (w.drewN n) A xs := h

theorem below_drewN {B : Nat} {a w : World} (h : Below B a w) (n : Nat) : Below B a (w.drewN n) := ⟨h.os, h.tape, h.output, h.size, h.block⟩

theorem ret_int {k : IntKind} {a b : Int} (h : a = b) : Ending.returned (.int k a) = .returned (.int k b) := by rw [h]
theorem ret_bool {a b : Bool} (h : a = b) : Ending.returned (.bool a) = .returned (.bool b) := by rw [h]

/-- Floats of single precision as cells. -/
abbrev f32s (bs : List Nat) : List Value := bs.map (.float .f32)
abbrev f64s (bs : List Nat) : List Value := bs.map (.float .f64)

end Go.Proofs.YtndnfhhdflmfcaaGreat

/-
Regions that draw their order and whose operations may draw from the tape what they yield (the bits of a NaN): one walk of the text's order, each operation's value known up to a predicate, serves every order.
(After the library's own Derived/Deep/Quiet.lean: there one value, here a predicate.)
-/
namespace Go.Proofs.YtndnfhhdflmfcaaGreat
open Go Go.RowKit

section
variable {P : Program} {ops : Array Oper} {md : Region.Mode} {C : World → Prop}

/-- What is asked once an operation has been carried out: a value of the kind 'R', and a world of the class. -/
def rUpon (P : Program) (C : World → Prop) (R : Value → Prop) : Result Next → Prop
  | .ok (.value u) w' => C w' ∧ R u
  | .ok .skip w' => C w' ∧ R undef
  | .ok (.enter f args) w' => Calls P f args w' (fun e w'' => ∃ v, e = .returned v ∧ R v ∧ C w'')
  | _ => False

def rAt (P : Program) (o : Oper) (a : Act) (C : World → Prop) (w : World) (R : Value → Prop) : Prop := rUpon P C R ((execOp a.eval o).run P w)

def rOper (P : Program) (o : Oper) (a : Act) (C : World → Prop) (R : Value → Prop) (next : Act → Prop) : Prop := (∀ w, C w → rAt P o a C w R) ∧ ∀ v, R v → next (a.put o.dst v)

/-- The walk in the order of the text. -/
def wpR (P : Program) (ops : Array Oper) (C : World → Prop) (Q : Act → Prop) : List (Value → Prop) → List Oper → Act → Prop
  | _, [], a => Q a
  | R :: Rs, o :: rest, a => if Region.wanted o (yielded ops a.tmps) then rOper P o a C R (wpR P ops C Q Rs rest) else wpR P ops C Q Rs rest (a.put o.dst undef)
  | [], _ :: _, _ => False

theorem wpR_nil {Q : Act → Prop} {Rs : List (Value → Prop)} {a : Act} (h : Q a) : wpR P ops C Q Rs [] a := by cases Rs <;> exact h
theorem wpR_step {Q : Act → Prop} {a : Act} {o : Oper} {rest : List Oper} {R : Value → Prop} {Rs : List (Value → Prop)}
    (h : ∀ K : Act → Prop, (∀ a, wpR P ops C Q Rs rest a → K a) → if Region.wanted o (yielded ops a.tmps) then rOper P o a C R K else K (a.put o.dst undef)) : wpR P ops C Q (R :: Rs) (o :: rest) a :=
  h _ (fun _ h => h)

/-- Operation number 'i' comes up in state 'a'. -/
def rOp (P : Program) (ops : Array Oper) (C : World → Prop) (R : Value → Prop) (i : Nat) (K : Act → Prop) (a : Act) : Prop :=
  match ops[i]? with
  | none => K a
  | some o => if Region.wanted o (yielded ops a.tmps) then rOper P o a C R K else K (a.put o.dst undef)

theorem rOper_mono {o : Oper} {a : Act} {R : Value → Prop} {K K' : Act → Prop} (h : ∀ a, K a → K' a) (hh : rOper P o a C R K) : rOper P o a C R K' :=
  ⟨hh.1, fun v hv => h _ (hh.2 v hv)⟩

theorem rOp_mono {i : Nat} {a : Act} {R : Value → Prop} {K K' : Act → Prop} (h : ∀ a, K a → K' a) (hh : rOp P ops C R i K a) : rOp P ops C R i K' a := by
  unfold rOp at *
  split
  · exact h _ (by simpa [*] using hh)
  · rename_i o ho
    simp only [ho] at hh
    split
    · rename_i hw; simp only [hw, if_true] at hh; exact rOper_mono h hh
    · rename_i hw; simp only [hw] at hh; exact h _ hh

/-- Whatever order is picked from here on. -/
def wpAnyR (P : Program) (md : Region.Mode) (ops : Array Oper) (C : World → Prop) (Rf : Nat → Value → Prop) (Q : Act → Prop) : Nat → Array Bool → Act → Prop
  | 0, listed, a => Region.ready md ops listed = [] ∧ Q a
  | fuel + 1, listed, a =>
    (Region.ready md ops listed = [] → Q a) ∧
    ∀ i ∈ Region.ready md ops listed, rOp P ops C (Rf i) i (wpAnyR P md ops C Rf Q fuel (listed.setIfInBounds i true)) a

theorem wp_of_r {o : Oper} {a : Act} {R : Value → Prop} {K : Act → Prop} {K' : Act → World → Prop} {Q' : Exit → Act → World → Prop} {w : World} (hw : C w) (h : ∀ a w', C w' → K a → K' a w')
    (hh : rOper P o a C R K) : o.wp P a w K' Q' := by
  obtain ⟨h1, h2⟩ := hh
  have h3 := h1 w hw
  unfold rAt at h3
  unfold Oper.wp
  generalize (execOp a.eval o).run P w = r at *
  cases r with
  | ok n w' =>
    cases n <;> simp only [rUpon] at h3 <;> simp only [Oper.upon]
    case value u => exact h _ _ h3.1 (h2 _ h3.2)
    case skip => exact h _ _ h3.1 (h2 _ h3.2)
    case enter f args => exact h3.mono fun e w'' ⟨v, he, hv, hw''⟩ => by subst he; exact h _ _ hw'' (h2 _ hv)
  | halt x w' => simp only [rUpon] at h3

theorem wpOp_of_rOp {i : Nat} {a : Act} {R : Value → Prop} {K : Act → Prop} {K' : Act → World → Prop} {Q' : Exit → Act → World → Prop} {w : World} (hC : C w) (h : ∀ a w', C w' → K a → K' a w')
    (hh : rOp P ops C R i K a) : wpOp P ops Q' i K' a w := by
  unfold rOp at hh
  unfold wpOp
  split
  · rename_i ho; simp only [ho] at hh; exact h _ _ hC hh
  · rename_i o ho
    simp only [ho] at hh
    split
    · rename_i hw; simp only [hw, if_true] at hh; exact .inl (wp_of_r hC h hh)
    · rename_i hw; simp only [hw] at hh; exact h _ _ hC hh

theorem wpAny_of_r {Rf : Nat → Value → Prop} {Q : Act → Prop} {Q' : Exit → Act → World → Prop} (hQ : ∀ a w, C w → Q a → Q' .normal a w) : ∀ (fuel : Nat) (listed : Array Bool) (a : Act) (w : World), C w →
    wpAnyR P md ops C Rf Q fuel listed a → wpAny P md ops Q' fuel listed a w
  | 0, _, _, _, hw, h => ⟨h.1, hQ _ _ hw h.2⟩
  | fuel + 1, _, _, _, hw, h => ⟨fun h0 => hQ _ _ hw (h.1 h0), fun i hi => wpOp_of_rOp hw (fun a' w' hw' => wpAny_of_r hQ fuel _ a' w' hw') (h.2 i hi)⟩

/-- In state 'a' operation 'o' leaves a value of the kind 'R': the kind 'Ri' where it is carried out, nothing else. -/
def YieldsR (P : Program) (ops : Array Oper) (C : World → Prop) (o : Oper) (Ri R : Value → Prop) (a : Act) : Prop :=
  (Region.wanted o (yielded ops a.tmps) = true ∧ R = Ri ∧ ∀ w, C w → rAt P o a C w R) ∨
  (Region.wanted o (yielded ops a.tmps) = false ∧ R = (· = undef))

theorem YieldsR.of_same {o : Oper} {Ri R : Value → Prop} {a a' : Act} (hy : YieldsR P ops C o Ri R a) (he : execOp a'.eval o = execOp a.eval o)
    (hw : Region.wanted o (yielded ops a'.tmps) = Region.wanted o (yielded ops a.tmps)) : YieldsR P ops C o Ri R a' := by
  unfold YieldsR rAt at *
  rw [he, hw]
  exact hy

theorem YieldsR.some_ {o : Oper} {Ri R : Value → Prop} {a : Act} (hC : ∃ w, C w) (hy : YieldsR P ops C o Ri R a) : ∃ v, R v := by
  obtain ⟨w, hw⟩ := hC
  rcases hy with ⟨_, rfl, h⟩ | ⟨_, rfl⟩
  · have h3 := h w hw
    unfold rAt at h3
    generalize (execOp a.eval o).run P w = r at *
    cases r with
    | ok n w' =>
      cases n <;> simp only [rUpon] at h3
      case value u => exact ⟨u, h3.2⟩
      case skip => exact ⟨undef, h3.2⟩
      case enter f args =>
        obtain ⟨e, w'', fr, ⟨v, _, hv, _⟩, _⟩ := h3 []
        exact ⟨v, hv⟩
    | halt x w' => simp only [rUpon] at h3
  · exact ⟨undef, rfl⟩

theorem YieldsR.rOp {i : Nat} {o : Oper} {Ri R : Value → Prop} {a : Act} (hi : ops[i]? = some o) (hy : YieldsR P ops C o Ri R a) {K : Act → Prop} (h : ∀ v, R v → K (a.put o.dst v)) : rOp P ops C Ri i K a := by
  unfold Proofs.YtndnfhhdflmfcaaGreat.rOp
  simp only [hi]
  rcases hy with ⟨hw, rfl, hv⟩ | ⟨hw, rfl⟩
  · simp only [hw, if_true]; exact ⟨hv, h⟩
  · simp only [hw, Bool.false_eq_true, if_false]; exact h _ rfl

theorem rOp_put {j : Nat} {oi oj : Oper} {Ri R Rj : Value → Prop} (hj : ops[j]? = some oj) (hap : oi.apart ops oj = true)
    (hsi : ∀ cs b, oi.op ≠ .select cs b) (hsj : ∀ cs b, oj.op ≠ .select cs b) {K : Act → Prop} {a : Act} (hR : ∃ v, R v)
    (hy : YieldsR P ops C oi Ri R a) (h : ∀ v, R v → rOp P ops C Rj j K (a.put oi.dst v)) :
    rOp P ops C Rj j (fun a' => YieldsR P ops C oi Ri R a' ∧ ∀ v, R v → K (a'.put oi.dst v)) a := by
  obtain ⟨h1, h2, h3⟩ := Oper.apart_spec hap
  have keep : ∀ (a : Act), YieldsR P ops C oi Ri R a → ∀ u, YieldsR P ops C oi Ri R (a.put oj.dst u) := fun a hy u =>
    hy.of_same (execOp_put oi hsi a oj.dst u h3) (wanted_put oi a oj.dst u h3)
  obtain ⟨v0, hv0⟩ := hR
  unfold rOp at *
  simp only [hj] at *
  split
  · rename_i hw
    have hh : ∀ v, R v → rOper P oj (a.put oi.dst v) C Rj K := fun v hv => by
      have := h v hv
      rw [wanted_put oj a oi.dst v h1, if_pos hw] at this
      exact this
    refine ⟨fun w hw' => ?_, fun u hu => ⟨keep a hy u, fun v hv => ?_⟩⟩
    · have := (hh v0 hv0).1 w hw'
      unfold rAt at *
      rwa [execOp_put oj hsj a oi.dst v0 h1] at this
    · rw [← Act.put_comm a v u h2]
      exact (hh v hv).2 u hu
  · rename_i hw
    refine ⟨keep a hy _, fun v hv => ?_⟩
    have := h v hv
    rw [wanted_put oj a oi.dst v h1, if_neg hw] at this
    rw [← Act.put_comm a v undef h2]
    exact this

theorem wpAnyR_first {Rf : Nat → Value → Prop} {Q : Act → Prop} {i : Nat} {oi : Oper} {R : Value → Prop} (hC : ∃ w, C w) (hi : ops[i]? = some oi) (hsel : ∀ (j : Nat) (o : Oper) cs b, ops[j]? = some o → o.op ≠ .select cs b) :
    ∀ (fuel : Nat) (listed : Array Bool) (a : Act),
      (∀ j oj, ops[j]? = some oj → j ≠ i → listed.getD j true = false → (∀ e ∈ oj.after, Region.binds md e = true → e.on ≠ i) → oi.apart ops oj = true) →
      i ∈ Region.ready md ops listed → YieldsR P ops C oi (Rf i) R a →
      (∀ v, R v → wpAnyR P md ops C Rf Q fuel (listed.setIfInBounds i true) (a.put oi.dst v)) → wpAnyR P md ops C Rf Q (fuel + 1) listed a := by
  intro fuel
  induction fuel with
  | zero =>
    intro listed a _ hr hy H
    refine ⟨fun h => (by rw [h] at hr; cases hr), fun j hj => ?_⟩
    by_cases hji : j = i
    · subst hji; exact hy.rOp hi H
    · have := ready_mono hj hji
      obtain ⟨v, hv⟩ := hy.some_ hC
      rw [(H v hv).1] at this
      cases this
  | succ fuel ih =>
    intro listed a hfree hr hy H
    refine ⟨fun h => (by rw [h] at hr; cases hr), fun j hj => ?_⟩
    by_cases hji : j = i
    · subst hji; exact hy.rOp hi H
    · have h1 := fun v hv => (H v hv).2 j (ready_mono hj hji)
      obtain ⟨hjun, oj, hoj, hall⟩ := mem_ready.1 hj
      have hnot : ∀ e ∈ oj.after, Region.binds md e = true → e.on ≠ i := fun e he hb heq => by
        have h1 := hall e he hb
        have h0 := (mem_ready.1 hr).1
        rw [heq] at h1
        rcases Nat.lt_or_ge i listed.size with h' | h'
        · simp [h'] at h0 h1; rw [h0] at h1; cases h1
        · simp [Array.getElem?_eq_none h'] at h1
      have h2 := rOp_put hoj (hfree j oj hoj hji hjun hnot) (fun cs b => hsel i oi cs b hi) (fun cs b => hsel j oj cs b hoj) (hy.some_ hC) hy h1
      have hfree' : ∀ k ok, ops[k]? = some ok → k ≠ i → (listed.setIfInBounds j true).getD k true = false →
          (∀ e ∈ ok.after, Region.binds md e = true → e.on ≠ i) → oi.apart ops ok = true := fun k ok hk hki hun hno => by
        refine hfree k ok hk hki ?_ hno
        by_cases hjk : j = k
        · subst hjk; exact hjun
        · rw [getD_set_ne true hjk] at hun; exact hun
      refine rOp_mono (fun a' h3 => ih (listed.setIfInBounds j true) a' hfree' (ready_mono hr (Ne.symm hji)) h3.1 fun v hv => ?_) h2
      rw [Array.setIfInBounds_comm _ _ hji]
      exact h3.2 v hv

theorem wpAnyR_lex {Rf : Nat → Value → Prop} {Q : Act → Prop} (hC : ∃ w, C w) (hs : Region.noSelect ops = true) : ∀ (l : List Oper) (Rs : List (Value → Prop)) (k : Nat) (listed : Array Bool) (a : Act), (∀ j, l[j]? = ops[k + j]?) →
    (∀ j R, Rs[j]? = some R → Rf (k + j) = R) →
    Region.lexFrom md ops l.length k listed = true → wpR P ops C Q Rs l a → wpAnyR P md ops C Rf Q l.length listed a
  | [], Rs, _, _, _, _, _, hB, h => ⟨by simpa [Region.lexFrom] using hB, by cases Rs <;> exact h⟩
  | o :: l, [], _, _, _, _, _, _, h => h.elim
  | o :: l, R :: Rs, k, listed, a, hl, hRs, hB, h => by
    have h0 : ops[k]? = some o := by simpa using (hl 0).symm
    have hRk : Rf k = R := by simpa using hRs 0 R rfl
    simp only [List.length_cons, Region.lexFrom, Bool.and_eq_true] at hB
    obtain ⟨⟨hr, hf⟩, hB'⟩ := hB
    have next : ∀ v, wpR P ops C Q Rs l (a.put o.dst v) → wpAnyR P md ops C Rf Q l.length (listed.setIfInBounds k true) (a.put o.dst v) := fun v hv =>
      wpAnyR_lex hC hs l Rs (k + 1) _ _ (fun j => by have := hl (j + 1); simpa [Nat.add_assoc, Nat.add_comm 1 j] using this)
        (fun j R' hj => by have := hRs (j + 1) R' (by simpa using hj); simpa [Nat.add_assoc, Nat.add_comm 1 j] using this) hB' hv
    unfold wpR at h
    by_cases hw : Region.wanted o (yielded ops a.tmps) = true
    · rw [if_pos hw] at h
      exact wpAnyR_first hC h0 (Region.noSelect_spec hs) l.length listed a (Region.free_spec h0 hf) (by simpa using hr) (R := R) (.inl ⟨hw, hRk.symm, h.1⟩) (fun v hv => next v (h.2 v hv))
    · rw [if_neg hw] at h
      exact wpAnyR_first hC h0 (Region.noSelect_spec hs) l.length listed a (Region.free_spec h0 hf) (by simpa using hr) (R := (· = undef)) (.inr ⟨by simpa using hw, rfl⟩) (fun v hv => by subst hv; exact next _ h)

/-- The region's law, at the class 'w after some draws'. -/
theorem wp_region_r {id : Nat} {Q : Exit → Act → World → Prop} {a : Act} {w : World} {l : List Oper} (Rs : List (Value → Prop)) (hm : P.follows .mixedOrders = true) (hB : Region.lexB .any l.toArray = true)
    (h : wpR P l.toArray (fun w' => ∃ n, w' = w.drewN n) (fun a' => ∀ w', (∃ n, w' = w.drewN n) → Q .normal a' w') Rs l a) : (Code.region id l.toArray true).wp P Q a w := by
  simp only [Region.lexB, Bool.and_eq_true] at hB
  refine wp_region_any hm (wpAny_of_r (C := fun w' => ∃ n, w' = w.drewN n) (Rf := fun i => (Rs[i]?).getD fun _ => True) (Q := fun a' => ∀ w', (∃ n, w' = w.drewN n) → Q .normal a' w') (fun _ w' hw' h => h w' hw') _ _ _ _ ⟨1, rfl⟩ ?_)
  have := wpAnyR_lex (C := fun w' => ∃ n, w' = w.drewN n) (md := .any) (Rf := fun i => (Rs[i]?).getD fun _ => True) ⟨w, 0, rfl⟩ hB.1 l Rs 0 (Array.replicate l.toArray.size false) a (by simp) (fun j R hj => by simp [hj]) (by simpa using hB.2) h
  simpa using this

theorem wp_region_rx {id : Nat} {Q : Exit → Act → World → Prop} {a : Act} {w : World} {l : List Oper} (hm : P.follows .mixedOrders = true) (hB : Region.lexB .any l.toArray = true)
    (h : ∃ Rs, wpR P l.toArray (fun w' => ∃ n, w' = w.drewN n) (fun a' => ∀ w', (∃ n, w' = w.drewN n) → Q .normal a' w') Rs l a) : (Code.region id l.toArray true).wp P Q a w :=
  let ⟨Rs, h⟩ := h
  wp_region_r Rs hm hB h

@[go_sem] theorem drewN_some (w : World) (n : Nat) : (∃ m, w.drewN n = w.drewN m) = True := eq_true ⟨n, rfl⟩

@[go_sem] theorem drewN_some1 (w : World) (n a : Nat) : (∃ m, w.drewN (n + a) = w.drewN (n + m)) = True := eq_true ⟨a, rfl⟩
@[go_sem] theorem drewN_some2 (w : World) (n a b : Nat) : (∃ m, w.drewN (n + a + b) = w.drewN (n + m)) = True := eq_true ⟨a + b, by rw [Nat.add_assoc]⟩
@[go_sem] theorem drewN_some3 (w : World) (n a b c : Nat) : (∃ m, w.drewN (n + a + b + c) = w.drewN (n + m)) = True := eq_true ⟨a + b + c, by rw [Nat.add_assoc, Nat.add_assoc, Nat.add_assoc]⟩

section
variable {w : World} {Q : Act → Prop} {a : Act} {o : Oper} {rest : List Oper} {Rs : List (Value → Prop)}
/-- An operation that its guard leaves out. -/
theorem wpR_skip (h : ∀ K : Act → Prop, (∀ a, wpR P ops (fun w' => ∃ n, w' = w.drewN n) Q Rs rest a → K a) → Region.wanted o (yielded ops a.tmps) = false ∧ K (a.put o.dst undef)) :
    wpR P ops (fun w' => ∃ n, w' = w.drewN n) Q ((fun _ => True) :: Rs) (o :: rest) a := by
  obtain ⟨h1, h2⟩ := h (wpR P ops (fun w' => ∃ n, w' = w.drewN n) Q Rs rest) (fun _ h => h)
  unfold wpR
  rw [h1]
  simpa using h2
/-- An operation of one value. -/
theorem wpR_val {v : Value} (h : ∀ K : Act → Prop, (∀ a, wpR P ops (fun w' => ∃ n, w' = w.drewN n) Q Rs rest a → K a) →
      (Region.wanted o (yielded ops a.tmps) = true ∧ ∀ n, rAt P o a (fun w' => ∃ n, w' = w.drewN n) (w.drewN n) (· = v)) ∧ K (a.put o.dst v)) :
    wpR P ops (fun w' => ∃ n, w' = w.drewN n) Q ((· = v) :: Rs) (o :: rest) a := by
  obtain ⟨⟨h0, h1⟩, h2⟩ := h (wpR P ops (fun w' => ∃ n, w' = w.drewN n) Q Rs rest) (fun _ h => h)
  unfold wpR
  rw [if_pos h0]
  exact ⟨fun w' ⟨n, hw⟩ => hw ▸ h1 n, fun u hu => hu ▸ h2⟩
/-- An operation whose value is known by a predicate. -/
theorem wpR_any {R : Value → Prop} (h : ∀ K : Act → Prop, (∀ a, wpR P ops (fun w' => ∃ n, w' = w.drewN n) Q Rs rest a → K a) →
      (Region.wanted o (yielded ops a.tmps) = true ∧ ∀ n, rAt P o a (fun w' => ∃ n, w' = w.drewN n) (w.drewN n) R) ∧ ∀ v, R v → K (a.put o.dst v)) :
    wpR P ops (fun w' => ∃ n, w' = w.drewN n) Q (R :: Rs) (o :: rest) a := by
  obtain ⟨⟨h0, h1⟩, h2⟩ := h (wpR P ops (fun w' => ∃ n, w' = w.drewN n) Q Rs rest) (fun _ h => h)
  unfold wpR
  rw [if_pos h0]
  exact ⟨fun w' ⟨n, hw⟩ => hw ▸ h1 n, fun u hu => h2 u hu⟩
end
/-- A callee of one value that may draw. -/
theorem rcall {f : FuncId} {args : Array Value} {w : World} {n m : Nat} {v : Value} (h : Calls P f args (w.drewN (n + m)) fun e w' => e = .returned v ∧ ∃ j, (w.drewN (n + m)).drewN j = w') :
    Calls P f args (w.drewN (n + m)) fun e w' => ∃ u, e = .returned u ∧ u = v ∧ ∃ j, w' = w.drewN (n + j) :=
  h.mono fun _ _ ⟨he, j, hj⟩ => ⟨v, he, rfl, m + j, by rw [← hj, World.drewN_drewN, Nat.add_assoc]⟩
theorem rcall0 {f : FuncId} {args : Array Value} {w : World} {m : Nat} {v : Value} (h : Calls P f args (w.drewN m) fun e w' => e = .returned v ∧ ∃ j, (w.drewN m).drewN j = w') :
    Calls P f args (w.drewN m) fun e w' => ∃ u, e = .returned u ∧ u = v ∧ ∃ j, w' = w.drewN j :=
  h.mono fun _ _ ⟨he, j, hj⟩ => ⟨v, he, rfl, m + j, by rw [← hj, World.drewN_drewN]⟩
/-- A callee of one value that draws nothing. -/
theorem rcall_same {f : FuncId} {args : Array Value} {w : World} {n m : Nat} {v : Value} (h : Calls P f args (w.drewN (n + m)) fun e w' => e = .returned v ∧ w.drewN (n + m) = w') :
    Calls P f args (w.drewN (n + m)) fun e w' => ∃ u, e = .returned u ∧ u = v ∧ ∃ j, w' = w.drewN (n + j) :=
  h.mono fun _ _ ⟨he, hj⟩ => ⟨v, he, rfl, m, hj.symm⟩
theorem rcall_same0 {f : FuncId} {args : Array Value} {w : World} {m : Nat} {v : Value} (h : Calls P f args (w.drewN m) fun e w' => e = .returned v ∧ w.drewN m = w') :
    Calls P f args (w.drewN m) fun e w' => ∃ u, e = .returned u ∧ u = v ∧ ∃ j, w' = w.drewN j :=
  h.mono fun _ _ ⟨he, hj⟩ => ⟨v, he, rfl, m, hj.symm⟩
attribute [go_sem] rAt rUpon
end
end Go.Proofs.YtndnfhhdflmfcaaGreat

/-
The drawing of bytes: spec.l01New, spec.l01Byte, spec.l01Below.
-/
namespace Go.Proofs.YtndnfhhdflmfcaaGreat
open Go Go.RowKit

/-- The slice at 'A', in a block below 'L', holds the cells 'xs'. -/
def RdL (w : World) (L : Nat) (A : Option Addr) (xs : List Value) : Prop :=
  0 < xs.length → ∃ b off, A = some ⟨b, off, none⟩ ∧ b < L ∧ ∀ k u, xs[k]? = some u → w.cell? ⟨b, off + k, none⟩ = some u
theorem RdL.rd {w : World} {L : Nat} {A : Option Addr} {xs : List Value} (h : RdL w L A xs) (hL : L ≤ w.heap.size) : Rd w A xs := fun hl => by
  obtain ⟨b, off, e, hb, hc⟩ := h hl
  exact ⟨b, off, e, by omega, hc⟩
theorem Rd.rdL {w : World} {A : Option Addr} {xs : List Value} (h : Rd w A xs) : RdL w w.heap.size A xs := h
theorem RdL.keep {w w' : World} {L : Nat} {A : Option Addr} {xs : List Value} (h : RdL w L A xs) (hk : ∀ i, i < L → w'.heap[i]? = w.heap[i]?) : RdL w' L A xs := fun hl => by
  obtain ⟨b, off, e, hb, hc⟩ := h hl
  exact ⟨b, off, e, hb, fun k u hu => (World.cell?_of_block (w := w) (hk b hb)).trans (hc k u hu)⟩

/-- The cells of the cursor. -/
def curCells (A : Option Addr) (n c : Nat) (i h : Int) : Obj := .cells #[.slice A n c, .int .i64 i, .int .i64 h] 74 (0, 0)
/-- A cursor over bytes lies in block 'g'. -/
def Cur (w : World) (g : Nat) : Prop :=
  ∃ (A : Option Addr) (n c : Nat) (bs : List Int) (i h : Int), w.heap[g]? = some (curCells A n c i h) ∧ bs.length = n ∧ n ≤ 1048576 ∧ RdL w g A (bs.map (.int .u8)) ∧ 0 ≤ i ∧ i ≤ n

theorem Cur.lt {w : World} {g : Nat} (h : Cur w g) : g < w.heap.size := by
  obtain ⟨A, n, c, bs, i, h, hb, _⟩ := h
  rcases Nat.lt_or_ge g w.heap.size with h1 | h1
  · exact h1
  · rw [Array.getElem?_eq_none h1] at hb; cases hb

/-- A step of the cursor: it alone has turned, and what is new. -/
def CurStep (w w' : World) (g : Nat) : Prop := Cur w' g ∧ w.grownBy w' (some g)

theorem and_255 (x : Int) : 0 ≤ bits .and .i64 x 255 ∧ bits .and .i64 x 255 ≤ 255 := by
  have e : (BitVec.ofInt 64 x &&& BitVec.ofInt 64 255).toNat = (BitVec.ofInt 64 x).toNat % 256 := by
    rw [BitVec.toNat_and]
    have : (BitVec.ofInt 64 255).toNat = 2 ^ 8 - 1 := by decide
    rw [this, Nat.and_two_pow_sub_one_eq_mod]
  have e' : bits .and .i64 x 255 = IntKind.i64.wrap ((BitVec.ofInt 64 x &&& BitVec.ofInt 64 255).toNat : Int) := rfl
  rw [e', e, IntKind.wrap_i64]
  omega

theorem Cur.set2 {w : World} {g : Nat} {A : Option Addr} {n c : Nat} {i h : Int} (hb : w.heap[g]? = some (curCells A n c i h)) (h' : Int) : (w.setCell ⟨g, 2, none⟩ (.int .i64 h')).heap[g]? = some (curCells A n c i h') := by
  simp [World.setCell, Array.getElem?_modify, hb, curCells]
theorem Cur.set1 {w : World} {g : Nat} {A : Option Addr} {n c : Nat} {i h : Int} (hb : w.heap[g]? = some (curCells A n c i h)) (i' : Int) : (w.setCell ⟨g, 1, none⟩ (.int .i64 i')).heap[g]? = some (curCells A n c i' h) := by
  simp [World.setCell, Array.getElem?_modify, hb, curCells]
theorem cur_cells {w : World} {g : Nat} {A : Option Addr} {n c : Nat} {i h : Int} (hb : w.heap[g]? = some (curCells A n c i h)) :
    w.cell? ⟨g, 0, none⟩ = some (.slice A n c) ∧ w.cell? ⟨g, 1, none⟩ = some (.int .i64 i) ∧ w.cell? ⟨g, 2, none⟩ = some (.int .i64 h) ∧ w.frozen? ⟨g, 1, none⟩ = false ∧ w.frozen? ⟨g, 2, none⟩ = false :=
  ⟨cell_of_row w g 0 _ _ (0, 0) hb, cell_of_row w g 1 _ _ (0, 0) hb, cell_of_row w g 2 _ _ (0, 0) hb, by unfold World.frozen?; simp only [hb, curCells]; simp, by unfold World.frozen?; simp only [hb, curCells]; simp⟩
theorem grown_set {w : World} {g : Nat} (o : Nat) (v : Value) : w.grownBy (w.setCell ⟨g, o, none⟩ v) (some g) :=
  ⟨rfl, rfl, rfl, by simp [World.setCell], fun i hi hne => Below.heap_setCell _ _ _ _ (fun e => hne (by rw [e]))⟩
theorem grown_drewN {w w' : World} {row : Option Nat} (h : w.grownBy w' row) (n : Nat) : w.grownBy (w'.drewN n) row := ⟨h.os, h.tape, h.output, h.size, h.block⟩
theorem grown_trans {a b c : World} {row : Option Nat} (h : a.grownBy b row) (k : b.grownBy c row) : a.grownBy c row :=
  ⟨k.os.trans h.os, k.tape.trans h.tape, k.output.trans h.output, Nat.le_trans h.size k.size, fun i hi hne => (k.block i (Nat.lt_of_lt_of_le hi h.size) hne).trans (h.block i hi hne)⟩

set_option maxHeartbeats 1000000 in
theorem byte_any (g : Nat) (w : World) (h : Cur w g) :
    Calls Tryz.prog 60 #[.pointer (some ⟨g, 0, none⟩)] w fun e w' => ∃ x : Int, e = .returned (.int .i64 x) ∧ (0 ≤ x ∧ x ≤ 255) ∧ CurStep w w' g := by
  have hlt := h.lt
  obtain ⟨A, n, c, bs, i, h, hb, hl, hm, hr, hi, hi'⟩ := h
  obtain ⟨c0, c1, c2, f1, f2⟩ := cur_cells hb
  have Hb := Lib.hid hb
  have Hl := Lib.hid hl
  clear hb hl
  go_enter Tryz.func60, Tryz.ntmps60
  go_wp2
  generalize wrap64 (wrap64 (h * 6364136223846793005) + 1442695040888963407) = h'
  have Hb1 := Lib.hid (Cur.set2 Hb.out h')
  obtain ⟨c0', c1', c2', f1', f2'⟩ := cur_cells Hb1.out
  have Hg := Lib.hid (grown_set (w := w) (g := g) 2 (.int .i64 h'))
  have hr' := Lib.hid (hr.keep (w' := w.setCell ⟨g, 2, none⟩ (.int .i64 h')) fun i hi => Below.heap_setCell _ _ _ _ (by show i ≠ g; omega))
  clear c0 c1 c2 f1 f2 Hb hr
  generalize w.setCell ⟨g, 2, none⟩ (.int .i64 h') = W at *
  obtain ⟨j, rfl⟩ := Int.eq_ofNat_of_zero_le hi
  by_cases hj : j < n
  · obtain ⟨b, off, rfl, hb', hc⟩ := hr'.out (by rw [List.length_map, Hl.out]; omega)
    have e1 := hc j _ (List.getElem?_eq_getElem (by rw [List.length_map, Hl.out]; exact hj))
    simp only [List.getElem_map] at e1
    clear hc
    have g1 : (j : Int) < (n : Int) := by omega
    refine wp_region_rx (by kernel_rfl) (by kernel_rfl) ?_; apply Exists.intro
    repeat (first | (apply wpR_val; intro K hK; go_simp; refine ⟨rfl, hK _ ?_⟩; clear hK K) | (apply wpR_skip; intro K hK; go_simp; refine hK _ ?_; clear hK K))
    apply wpR_nil (Rs := []); rintro _ ⟨nq, rfl⟩
    go_wp2
    refine wp_region_rx (by kernel_rfl) (by kernel_rfl) ?_; apply Exists.intro
    repeat (first | (apply wpR_val; intro K hK; go_simp; refine ⟨rfl, hK _ ?_⟩; clear hK K) | (apply wpR_skip; intro K hK; go_simp; refine hK _ ?_; clear hK K))
    apply wpR_nil (Rs := []); rintro _ ⟨nq, rfl⟩
    go_wp2
    refine wp_region_rx (by kernel_rfl) (by kernel_rfl) ?_; apply Exists.intro
    repeat (first | (apply wpR_val; intro K hK; go_simp; refine ⟨rfl, hK _ ?_⟩; clear hK K) | (apply wpR_skip; intro K hK; go_simp; refine hK _ ?_; clear hK K))
    apply wpR_nil (Rs := []); rintro _ ⟨nq, rfl⟩
    go_wp2
    go_ret
    refine ⟨_, rfl, and_255 _, ⟨_, n, c, bs, (j : Int) + 1, h', Cur.set1 Hb1.out _, Hl.out, hm, ?_, by omega, by omega⟩, ?_⟩
    · exact hr'.out.keep (fun i hi => Below.heap_setCell _ _ _ _ (by show i ≠ g; omega))
    · exact grown_trans Hg.out (grown_drewN (grown_set _ _) _)
  · have g1 : ¬ (j : Int) < (n : Int) := by omega
    refine wp_region_rx (by kernel_rfl) (by kernel_rfl) ?_; apply Exists.intro
    repeat (first | (apply wpR_val; intro K hK; go_simp; refine ⟨rfl, hK _ ?_⟩; clear hK K) | (apply wpR_skip; intro K hK; go_simp; refine hK _ ?_; clear hK K))
    apply wpR_nil (Rs := []); rintro _ ⟨nq, rfl⟩
    go_wp2
    refine wp_region_rx (by kernel_rfl) (by kernel_rfl) ?_; apply Exists.intro
    repeat (first | (apply wpR_val; intro K hK; go_simp; refine ⟨rfl, hK _ ?_⟩; clear hK K) | (apply wpR_skip; intro K hK; go_simp; refine hK _ ?_; clear hK K))
    apply wpR_nil (Rs := []); rintro _ ⟨nq, rfl⟩
    go_wp2
    go_ret
    exact ⟨_, rfl, and_255 _, ⟨_, n, c, bs, j, h', Hb1.out, Hl.out, hm, hr'.out, by omega, by omega⟩, grown_drewN (grown_drewN Hg.out _) _⟩

theorem CurStep.trans {w w1 w2 : World} {g : Nat} (h : CurStep w w1 g) (k : CurStep w1 w2 g) : CurStep w w2 g := ⟨k.1, grown_trans h.2 k.2⟩

set_option maxHeartbeats 1000000 in
theorem below_any (g : Nat) (n : Int) (w : World) (h : Cur w g) (h0 : 0 < n) (h1 : n ≤ 4294967296) :
    Calls Tryz.prog 25 #[.pointer (some ⟨g, 0, none⟩), .int .i64 n] w fun e w' => ∃ x : Int, e = .returned (.int .i64 x) ∧ (0 ≤ x ∧ x < n) ∧ CurStep w w' g := by
  have hn0 : ¬ n ≤ 0 := by omega
  have hz : n ≠ 0 := by omega
  have hz' : (n == 0) = false := by simp; omega
  by_cases hn : n ≤ 256
  · go_enter Tryz.func25, Tryz.ntmps25
    go_wp2_with fail
    refine (byte_any g _ h).mono ?_
    rintro e w1 ⟨x, rfl, hx, hs⟩
    obtain ⟨hx1, hx2⟩ := hx
    go_wp2_with fail
    go_ret
    exact ⟨_, rfl, ⟨Int.emod_nonneg _ hz, Int.emod_lt_of_pos _ h0⟩, hs⟩
  · go_enter Tryz.func25, Tryz.ntmps25
    go_wp2_with fail
    refine (byte_any g _ h).mono ?_
    rintro e w1 ⟨x1, rfl, ⟨a1, b1⟩, s1⟩
    go_wp2_with fail
    refine (byte_any g _ s1.1).mono ?_
    rintro e w2 ⟨x2, rfl, ⟨a2, b2⟩, s2⟩
    go_wp2_with fail
    refine (byte_any g _ s2.1).mono ?_
    rintro e w3 ⟨x3, rfl, ⟨a3, b3⟩, s3⟩
    go_wp2_with fail
    refine (byte_any g _ s3.1).mono ?_
    rintro e w4 ⟨x4, rfl, ⟨a4, b4⟩, s4⟩
    go_wp2_with fail
    go_ret
    exact ⟨_, rfl, ⟨Int.emod_nonneg _ hz, Int.emod_lt_of_pos _ h0⟩, ((s1.trans s2).trans s3).trans s4⟩

theorem Cur.new (w : World) {A : Option Addr} {c : Nat} {bs : List Int} (hm : bs.length ≤ 1048576) (hr : Rd w A (bs.map (.int .u8))) (h : Int) :
    Cur (w.alloc (.cells #[.slice A bs.length c, .int .i64 0, .int .i64 h] 74)) w.heap.size :=
  ⟨A, bs.length, c, bs, 0, h, heap_alloc_new w _, rfl, hm, hr.rdL.keep (fun _ hi => Below.heap_alloc _ _ _ hi), by omega, by omega⟩

set_option maxRecDepth 100000 in
set_option maxHeartbeats 1000000 in
theorem new_any (A : Option Addr) (c : Nat) (bs : List Int) (w : World) (hr : Rd w A (bs.map (.int .u8))) (hm : bs.length ≤ 1048576) :
    Calls Tryz.prog 12 #[.slice A bs.length c] w fun e w' => ∃ g, e = .returned (.pointer (some ⟨g, 0, none⟩)) ∧ w.heap.size ≤ g ∧ Cur w' g ∧ Below w.heap.size w w' := by
  go_enter Tryz.func12, Tryz.ntmps12
  go_wp2
  go_loop [3, 4] (fun h i => ∃ (k : Nat) (v : Int), k ≤ bs.length ∧ i = .int .i64 k ∧ h = .int .i64 v) (fun _ i => bs.length - (intOf i).toNat)
  case atStart => exact ⟨0, _, by omega, rfl, rfl⟩
  case round =>
    obtain ⟨k, v, hk, rfl, rfl⟩ := hrel
    by_cases hlt : k < bs.length
    · obtain ⟨b, off, rfl, hb', hc⟩ := hr (by simp; omega)
      have e1 := hc k _ (List.getElem?_eq_getElem (by simpa using hlt))
      simp only [List.getElem_map] at e1
      clear hc
      by_cases h4 : k < 4000
      · go_wp2
        go_round
        case rel => exact ⟨k + 1, _, by omega, by go_num, rfl⟩
        case measure => simp [intOf]; omega
      · go_wp2
        go_ret
        exact ⟨_, rfl, Nat.le_refl _, Cur.new w hm hr v, (Below.refl _ _).alloc (Nat.le_refl _) _⟩
    · go_wp2
      go_ret
      exact ⟨_, rfl, Nat.le_refl _, Cur.new w hm hr v, (Below.refl _ _).alloc (Nat.le_refl _) _⟩
end Go.Proofs.YtndnfhhdflmfcaaGreat

/-
Floats up to the bits of a NaN: what an operation gives, as a function of its operands; the walk's equations.
-/
namespace Go.Proofs.YtndnfhhdflmfcaaGreat
open Go Go.RowKit

/-! ### NaN -/
def isN (k : FloatKind) (b : Nat) : Bool := (k.format.read b).isNaN
def qn (k : FloatKind) : Nat := match k with | .f32 => 2143289344 | .f64 => 9221120237041090560
/-- The word, a NaN made the one NaN. -/
def nrm (k : FloatKind) (b : Nat) : Nat := if isN k b = true then qn k else b

theorem isN_qn (k : FloatKind) : isN k (qn k) = true := by cases k <;> decide +kernel
theorem nrm_of_nan {k : FloatKind} {b : Nat} (h : isN k b = true) : nrm k b = qn k := by simp [nrm, h]
theorem nrm_of_num {k : FloatKind} {b : Nat} (h : isN k b = false) : nrm k b = b := by simp [nrm, h]
theorem isN_nrm (k : FloatKind) (b : Nat) : isN k (nrm k b) = isN k b := by
  cases h : isN k b
  · rw [nrm_of_num h, h]
  · rw [nrm_of_nan h, isN_qn]
theorem nrm_nrm (k : FloatKind) (b : Nat) : nrm k (nrm k b) = nrm k b := by
  cases h : isN k b
  · rw [nrm_of_num h, nrm_of_num h]
  · rw [nrm_of_nan h, nrm_of_nan (isN_qn k)]

theorem isN_read {k : FloatKind} {b : Nat} (h : isN k b = true) : ∃ s t, k.format.read b = .nan s t := by
  unfold isN at h
  cases hr : k.format.read b with
  | nan s t => exact ⟨s, t, rfl⟩
  | number s m e => rw [hr] at h; cases h
  | infinity s => rw [hr] at h; cases h

theorem word_mod (f : Ieee.Format) (neg : Bool) {rung : Nat} (h : rung < f.signWeight) : f.word neg rung % f.signWeight = rung := by
  unfold Ieee.Format.word
  split
  · rw [Nat.add_mod_left, Nat.mod_eq_of_lt h]
  · exact Nat.mod_eq_of_lt h

theorem word_not_nan (f : Ieee.Format) (neg : Bool) {rung : Nat} (h : rung ≤ f.infRung) : (f.read (f.word neg rung)).isNaN = false := by
  have hlt := f.infRung_lt
  unfold Ieee.Format.read
  simp only [word_mod f neg (show rung < f.signWeight by omega)]
  split
  · rfl
  · split
    · rfl
    · rw [if_pos (by omega)]; rfl

theorem write_not_nan (f : Ieee.Format) (d : Ieee.Datum) (h : d.isNaN = false) : (f.read (f.write d)).isNaN = false := by
  cases d with
  | number neg mag place =>
    unfold Ieee.Format.write Ieee.Format.nearest
    dsimp only
    split
    · exact word_not_nan f _ (Nat.zero_le _)
    · exact word_not_nan f _ (Nat.min_le_right ..)
  | infinity neg => exact word_not_nan f _ (Nat.le_refl _)
  | nan neg t => cases h

theorem sum_not_nan {a b d : Ieee.Datum} (h : a.sum b = some d) : d.isNaN = false := by
  unfold Ieee.Datum.sum at h
  split at h <;> first | (cases h; done) | skip
  · split at h <;> cases h; rfl
  all_goals cases h; rfl
theorem product_not_nan {a b d : Ieee.Datum} (h : a.product b = some d) : d.isNaN = false := by
  unfold Ieee.Datum.product at h
  split at h <;> first | (cases h; done) | skip
  all_goals first | (cases h; rfl) | (split at h <;> cases h; rfl)
theorem quotient_not_nan {n : Nat} {a b d : Ieee.Datum} (h : Ieee.Datum.quotient n a b = some d) : d.isNaN = false := by
  unfold Ieee.Datum.quotient at h
  split at h <;> first | (cases h; done) | skip
  · cases h; rfl
  · cases h; rfl
  · split at h
    · split at h <;> cases h; rfl
    · cases h; rfl

theorem map_write_not_nan {f : Ieee.Format} {o : Option Ieee.Datum} {r : Nat} (ho : ∀ d, o = some d → d.isNaN = false) (h : o.map f.write = some r) : (f.read r).isNaN = false := by
  cases o with
  | none => cases h
  | some d => cases h; exact write_not_nan f d (ho d rfl)

/-- A valid operation gives no NaN. -/
theorem floatBits_not_nan {op : BinOp} {k : FloatKind} {x y r : Nat} (h : floatBits op k x y = some r) : isN k r = false := by
  unfold floatBits at h
  split at h
  · exact map_write_not_nan (fun _ => sum_not_nan) h
  · exact map_write_not_nan (fun _ => sum_not_nan) h
  · exact map_write_not_nan (fun _ => product_not_nan) h
  · exact map_write_not_nan (fun _ => quotient_not_nan) h
  · cases h

theorem floatBits_nan_l {op : BinOp} {k : FloatKind} {x y : Nat} (h : isN k x = true) : floatBits op k x y = none := by
  obtain ⟨s, t, hx⟩ := isN_read h
  unfold floatBits
  split
  · simp [Ieee.Format.add, hx, Ieee.Datum.sum]
  · simp [Ieee.Format.sub, hx, Ieee.Datum.sum]
  · simp [Ieee.Format.mul, hx, Ieee.Datum.product]
  · simp [Ieee.Format.div, hx, Ieee.Datum.quotient]
  · rfl
theorem floatBits_nan_r {op : BinOp} {k : FloatKind} {x y : Nat} (h : isN k y = true) : floatBits op k x y = none := by
  obtain ⟨s, t, hy⟩ := isN_read h
  unfold floatBits
  split
  · simp only [Ieee.Format.add, hy]; cases k.format.read x <;> simp [Ieee.Datum.sum]
  · simp only [Ieee.Format.sub, hy, Ieee.Datum.opposite]; cases k.format.read x <;> simp [Ieee.Datum.sum]
  · simp only [Ieee.Format.mul, hy]; cases k.format.read x <;> simp [Ieee.Datum.product]
  · simp only [Ieee.Format.div, hy]; cases k.format.read x <;> simp [Ieee.Datum.quotient]
  · rfl

/-! ### What an operation gives -/
/-- .. a NaN being the one NaN. -/
def fo (op : BinOp) (k : FloatKind) (x y : Nat) : Nat := (floatBits op k x y).getD (qn k)
/-- .. in a world, to the bit. -/
def fR (op : BinOp) (k : FloatKind) (x y : Nat) (w : World) : Nat :=
  match floatBits op k x y with
  | some r => r
  | none => (Question.nanBits k x y).cut (w.tape w.drawn (.nanBits k x y))
/-- How often the tape is asked. -/
def fN (op : BinOp) (k : FloatKind) (x y : Nat) : Nat := match floatBits op k x y with | some _ => 0 | none => 1

theorem cut_nan (q : Question) (k : FloatKind) (t : Nat) (hq : (∃ x y, q = .nanBits k x y) ∨ ∃ b, q = .nanConv k b) : isN k (q.cut t) = true := by
  cases k with
  | f32 =>
    have e : q.cut t = (t % 2) * 2 ^ 31 + 0x7f800000 + 1 + (t / 2) % (2 ^ 23 - 1) := by
      rcases hq with ⟨x, y, rfl⟩ | ⟨b, rfl⟩ <;> rfl
    rw [e]
    have h1 : t / 2 % (2 ^ 23 - 1) < 2 ^ 23 - 1 := Nat.mod_lt _ (by decide)
    generalize t / 2 % (2 ^ 23 - 1) = v at *
    have hm : (t % 2 * 2 ^ 31 + 0x7f800000 + 1 + v) % 2 ^ 31 = 0x7f800000 + 1 + v := by omega
    show (Ieee.single.read _).isNaN = true
    unfold Ieee.Format.read
    simp only [show Ieee.single.signWeight = 2 ^ 31 from by decide +kernel, show Ieee.single.binade = 2 ^ 23 from by decide +kernel, show Ieee.single.infRung = 0x7f800000 from by decide +kernel, hm]
    rw [if_neg (by omega), if_neg (by omega), if_neg (by omega)]; rfl
  | f64 =>
    have e : q.cut t = (t % 2) * 2 ^ 63 + 0x7ff0000000000000 + 1 + (t / 2) % (2 ^ 52 - 1) := by
      rcases hq with ⟨x, y, rfl⟩ | ⟨b, rfl⟩ <;> rfl
    rw [e]
    have h1 : t / 2 % (2 ^ 52 - 1) < 2 ^ 52 - 1 := Nat.mod_lt _ (by decide)
    generalize t / 2 % (2 ^ 52 - 1) = v at *
    have hm : (t % 2 * 2 ^ 63 + 0x7ff0000000000000 + 1 + v) % 2 ^ 63 = 0x7ff0000000000000 + 1 + v := by omega
    show (Ieee.double.read _).isNaN = true
    unfold Ieee.Format.read
    simp only [show Ieee.double.signWeight = 2 ^ 63 from by decide +kernel, show Ieee.double.binade = 2 ^ 52 from by decide +kernel, show Ieee.double.infRung = 0x7ff0000000000000 from by decide +kernel, hm]
    rw [if_neg (by omega), if_neg (by omega), if_neg (by omega)]; rfl

theorem nrm_fR (op : BinOp) (k : FloatKind) (x y : Nat) (w : World) : nrm k (fR op k x y w) = fo op k x y := by
  unfold fR fo
  cases h : floatBits op k x y with
  | some r => exact nrm_of_num (floatBits_not_nan h)
  | none => exact nrm_of_nan (cut_nan _ k _ (.inl ⟨x, y, rfl⟩))
theorem nrm_fo (op : BinOp) (k : FloatKind) (x y : Nat) : nrm k (fo op k x y) = fo op k x y := by
  unfold fo
  cases h : floatBits op k x y with
  | some r => exact nrm_of_num (floatBits_not_nan h)
  | none => exact nrm_of_nan (isN_qn k)
theorem fo_nrm_l (op : BinOp) (k : FloatKind) (x y : Nat) : fo op k (nrm k x) y = fo op k x y := by
  cases h : isN k x
  · rw [nrm_of_num h]
  · rw [nrm_of_nan h]; unfold fo; rw [floatBits_nan_l (isN_qn k), floatBits_nan_l h]
theorem fo_nrm_r (op : BinOp) (k : FloatKind) (x y : Nat) : fo op k x (nrm k y) = fo op k x y := by
  cases h : isN k y
  · rw [nrm_of_num h]
  · rw [nrm_of_nan h]; unfold fo; rw [floatBits_nan_r (isN_qn k), floatBits_nan_r h]
theorem fo_congr {op : BinOp} {k : FloatKind} {x y x' y' : Nat} (hx : nrm k x = nrm k x') (hy : nrm k y = nrm k y') : fo op k x y = fo op k x' y' := by
  rw [← fo_nrm_l, hx, fo_nrm_l, ← fo_nrm_r, hy, fo_nrm_r]

/-! ### Comparisons -/
def flt (k : FloatKind) (x y : Nat) : Bool := k.format.order x y == some .lt
def feq (k : FloatKind) (x y : Nat) : Bool := k.format.order x y == some .eq
def fgt (k : FloatKind) (x y : Nat) : Bool := k.format.order x y == some .gt
def fle (k : FloatKind) (x y : Nat) : Bool := k.format.order x y == some .lt || k.format.order x y == some .eq
def fge (k : FloatKind) (x y : Nat) : Bool := k.format.order x y == some .gt || k.format.order x y == some .eq

theorem order_nan_l {k : FloatKind} {x y : Nat} (h : isN k x = true) : k.format.order x y = none := by
  obtain ⟨s, t, hx⟩ := isN_read h
  simp [Ieee.Format.order, hx, Ieee.Datum.order]
theorem order_nan_r {k : FloatKind} {x y : Nat} (h : isN k y = true) : k.format.order x y = none := by
  obtain ⟨s, t, hy⟩ := isN_read h
  simp only [Ieee.Format.order, hy]; cases k.format.read x <;> simp [Ieee.Datum.order]
theorem order_nrm_l (k : FloatKind) (x y : Nat) : k.format.order (nrm k x) y = k.format.order x y := by
  cases h : isN k x
  · rw [nrm_of_num h]
  · rw [nrm_of_nan h, order_nan_l h, order_nan_l (isN_qn k)]
theorem order_nrm_r (k : FloatKind) (x y : Nat) : k.format.order x (nrm k y) = k.format.order x y := by
  cases h : isN k y
  · rw [nrm_of_num h]
  · rw [nrm_of_nan h, order_nan_r h, order_nan_r (isN_qn k)]
theorem order_congr {k : FloatKind} {x y x' y' : Nat} (hx : nrm k x = nrm k x') (hy : nrm k y = nrm k y') : k.format.order x y = k.format.order x' y' := by
  rw [← order_nrm_l, hx, order_nrm_l, ← order_nrm_r, hy, order_nrm_r]
theorem flt_congr {k : FloatKind} {x y x' y' : Nat} (hx : nrm k x = nrm k x') (hy : nrm k y = nrm k y') : flt k x y = flt k x' y' := by unfold flt; rw [order_congr hx hy]
theorem feq_congr {k : FloatKind} {x y x' y' : Nat} (hx : nrm k x = nrm k x') (hy : nrm k y = nrm k y') : feq k x y = feq k x' y' := by unfold feq; rw [order_congr hx hy]
theorem fgt_congr {k : FloatKind} {x y x' y' : Nat} (hx : nrm k x = nrm k x') (hy : nrm k y = nrm k y') : fgt k x y = fgt k x' y' := by unfold fgt; rw [order_congr hx hy]
theorem fle_congr {k : FloatKind} {x y x' y' : Nat} (hx : nrm k x = nrm k x') (hy : nrm k y = nrm k y') : fle k x y = fle k x' y' := by unfold fle; rw [order_congr hx hy]
theorem fge_congr {k : FloatKind} {x y x' y' : Nat} (hx : nrm k x = nrm k x') (hy : nrm k y = nrm k y') : fge k x y = fge k x' y' := by unfold fge; rw [order_congr hx hy]

/-- A number is equal to itself, a NaN is not. -/
theorem feq_self (k : FloatKind) (x : Nat) : feq k x x = !isN k x := by
  unfold feq isN Ieee.Format.order
  cases h : k.format.read x with
  | number s m e => simp [Ieee.Datum.order, Ieee.Datum.isNaN]
  | infinity s => simp [Ieee.Datum.order, Ieee.Datum.isNaN]
  | nan s t => simp [Ieee.Datum.order, Ieee.Datum.isNaN]

/-! ### Conversions between the widths -/
def cR (s : FloatKind) (b : Nat) (k : FloatKind) (w : World) : Nat :=
  match floatToFloatBits s b k with
  | some r => r
  | none => if isN s b = true then (Question.nanConv k b).cut (w.tape w.drawn (.nanConv k b)) else (Question.floatToFloat b).cut (w.tape w.drawn (.floatToFloat b))
def cN (s : FloatKind) (b : Nat) (k : FloatKind) : Nat := match floatToFloatBits s b k with | some _ => 0 | none => 1
/-- What widening or narrowing gives, a NaN being the one NaN. -/
def cv (s : FloatKind) (b : Nat) (k : FloatKind) : Nat := (floatToFloatBits s b k).getD (qn k)
abbrev wid (b : Nat) : Nat := cv .f32 b .f64

/-! ### The walk's equations -/
section
variable {P : Program} (w : World)

theorem run_fbin {op : BinOp} (t : TypeId) (k : FloatKind) (x y : Nat) (hop : op = .add ∨ op = .sub ∨ op = .mul ∨ op = .quo) :
    (binOp op t (.float k x) (.float k y)).run P w = .ok (.float k (fR op k x y w)) (w.drewN (fN op k x y)) := by
  cases h : floatBits op k x y with
  | some r =>
    rw [run_float_arith w op t k x y r h]
    simp [fR, fN, h, World.drewN_zero]
  | none =>
    unfold floatBits at h
    rcases hop with rfl | rfl | rfl | rfl <;> simp only at h <;>
      simp [binOp, Op.floatArith, h, fR, fN, floatBits, Question.forced] <;> rfl
@[go_sem] theorem run_fadd (t : TypeId) (k : FloatKind) (x y : Nat) : (binOp .add t (.float k x) (.float k y)).run P w = .ok (.float k (fR .add k x y w)) (w.drewN (fN .add k x y)) := run_fbin w t k x y (by simp)
@[go_sem] theorem run_fsub (t : TypeId) (k : FloatKind) (x y : Nat) : (binOp .sub t (.float k x) (.float k y)).run P w = .ok (.float k (fR .sub k x y w)) (w.drewN (fN .sub k x y)) := run_fbin w t k x y (by simp)
@[go_sem] theorem run_fmul (t : TypeId) (k : FloatKind) (x y : Nat) : (binOp .mul t (.float k x) (.float k y)).run P w = .ok (.float k (fR .mul k x y w)) (w.drewN (fN .mul k x y)) := run_fbin w t k x y (by simp)
@[go_sem] theorem run_fquo (t : TypeId) (k : FloatKind) (x y : Nat) : (binOp .quo t (.float k x) (.float k y)).run P w = .ok (.float k (fR .quo k x y w)) (w.drewN (fN .quo k x y)) := run_fbin w t k x y (by simp)

@[go_sem high] theorem bin_flss (t : TypeId) (k : FloatKind) (a b : Nat) : binOp .lss t (.float k a) (.float k b) = pure (.bool (flt k a b)) := binOp_float_cmp_lss t k a b
@[go_sem high] theorem bin_fleq (t : TypeId) (k : FloatKind) (a b : Nat) : binOp .leq t (.float k a) (.float k b) = pure (.bool (fle k a b)) := binOp_float_cmp_leq t k a b
@[go_sem high] theorem bin_fgtr (t : TypeId) (k : FloatKind) (a b : Nat) : binOp .gtr t (.float k a) (.float k b) = pure (.bool (fgt k a b)) := binOp_float_cmp_gtr t k a b
@[go_sem high] theorem bin_fgeq (t : TypeId) (k : FloatKind) (a b : Nat) : binOp .geq t (.float k a) (.float k b) = pure (.bool (fge k a b)) := binOp_float_cmp_geq t k a b
@[go_sem high] theorem bin_feql (t : TypeId) (k : FloatKind) (a b : Nat) : binOp .eql t (.float k a) (.float k b) = pure (.bool (feq k a b)) := binOp_float_cmp_eql t k a b
@[go_sem high] theorem bin_fneq (t : TypeId) (k : FloatKind) (a b : Nat) : binOp .neq t (.float k a) (.float k b) = pure (.bool (!feq k a b)) := binOp_float_cmp_neq t k a b

@[go_sem] theorem run_fneg (k : FloatKind) (b : Nat) : (Op.unary .neg (.float k b)).run P w = .ok (.float k (Op.negFloat k b)) w := rfl

theorem run_conv (s k : FloatKind) (b : Nat) : (Conv.floatToFloat s b k).run P w = .ok (.float k (cR s b k w)) (w.drewN (cN s b k)) := by
  cases h : floatToFloatBits s b k with
  | some r =>
    rw [run_floatToFloat w h]
    simp [cR, cN, h, World.drewN_zero]
  | none =>
    have h' := h
    unfold floatToFloatBits at h
    by_cases hs : s = k
    · rw [if_pos hs] at h; cases h
    · rw [if_neg hs] at h
      have hd : s.format.read b = s.decode b := rfl
      cases hr : s.decode b with
      | nan sg t =>
        have hn : isN s b = true := by unfold isN; rw [hd, hr]; rfl
        simp [Conv.floatToFloat, hs, hr, cR, cN, h', hn, Question.forced]; rfl
      | infinity sg => rw [hr] at h; cases h
      | number sg m e =>
        have hn : isN s b = false := by unfold isN; rw [hd, hr]; rfl
        rw [hr] at h
        simp only at h
        split at h
        · rename_i hi
          simp [Conv.floatToFloat, hs, hr, cR, cN, h', hn, hi, Question.forced]; rfl
        · cases h
@[go_sem] theorem run_cvt (src dst : TypeId) (s k : FloatKind) (b : Nat) (hs : (P.underlying src).isSome = true) (hd : P.underlying dst = some (.float k)) :
    (convert src dst (.float s b)).run P w = .ok (.float k (cR s b k w)) (w.drewN (cN s b k)) := by
  obtain ⟨u, hs'⟩ := Option.isSome_iff_exists.1 hs
  cases u <;> simp [convert, run_underlying hs', run_underlying hd, run_conv]
end
end Go.Proofs.YtndnfhhdflmfcaaGreat

/-
Binary floating point: what is written is read back; a number that the format has is not turned by writing it. (Plain arithmetic: no program stands here.)
-/
namespace Go.Proofs.YtndnfhhdflmfcaaGreat
open Ieee

theorem log2_mul_pow (m k : Nat) (h : m ≠ 0) : (m * 2 ^ k).log2 = m.log2 + k := by
  induction k with
  | zero => simp
  | succ k ih =>
    have h2 : m * 2 ^ k ≠ 0 := Nat.mul_ne_zero h (by have := Nat.two_pow_pos k; omega)
    rw [Nat.pow_succ, ← Nat.mul_assoc, Nat.mul_comm _ 2, Nat.log2_two_mul h2, ih]; omega

theorem cut_even_zero (neg : Bool) (n : Nat) : Toward.even.cut neg n 0 = n := by
  simp [Toward.cut, Nat.mod_one]

/-- A multiple of the gap is cut exactly. -/
theorem cut_even_mul (neg : Bool) (n d : Nat) (hn : n ≠ 0) : Toward.even.cut neg (n * 2 ^ d) d = n := by
  have hl : min d ((n * 2 ^ d).log2 + 2) = d := by rw [log2_mul_pow n d hn]; omega
  have hp := Nat.two_pow_pos d
  simp only [Toward.cut, hl, Nat.shiftLeft_eq, Nat.one_mul, Nat.mul_div_cancel _ hp, Nat.mul_mod_left]
  have e1 : decide (2 ^ d < 2 * 0) = false := by simp
  have e2 : (2 ^ d == 2 * 0) = false := by simp
  rw [e1, e2]; simp

/-- Scaling a number and what is dropped of it alike changes nothing. -/
theorem cut_even_scale (neg : Bool) (n d k : Nat) (hn : n ≠ 0) : Toward.even.cut neg (n * 2 ^ k) (d + k) = Toward.even.cut neg n d := by
  have hl := log2_mul_pow n k hn
  have hm : min (d + k) ((n * 2 ^ k).log2 + 2) = min d (n.log2 + 2) + k := by rw [hl]; omega
  simp only [Toward.cut, hm, Nat.shiftLeft_eq, Nat.one_mul, Nat.pow_add]
  generalize 2 ^ min d (n.log2 + 2) = g
  have hp := Nat.two_pow_pos k
  have hd : n * 2 ^ k / (g * 2 ^ k) = n / g := Nat.mul_div_mul_right _ _ hp
  have hr : n * 2 ^ k % (g * 2 ^ k) = n % g * 2 ^ k := Nat.mul_mod_mul_right _ _ _
  rw [hd, hr]
  have c1 : decide (g * 2 ^ k < 2 * (n % g * 2 ^ k)) = decide (g < 2 * (n % g)) := by
    rw [← Nat.mul_assoc]; simp [Nat.mul_lt_mul_right hp]
  have c2 : (g * 2 ^ k == 2 * (n % g * 2 ^ k)) = (g == 2 * (n % g)) := by
    rw [← Nat.mul_assoc, Bool.eq_iff_iff]; simp [Nat.mul_left_inj (Nat.ne_of_gt hp)]
  rw [c1, c2]

section
variable (f : Format)

/-- The place of the last digit kept. -/
def lastOf (mag : Nat) (place : Int) : Int := max (place + mag.log2 - f.fractionBits) f.leastPlace

theorem nearest_eq (neg : Bool) (mag : Nat) (place : Int) (h : mag ≠ 0) : f.nearest neg mag place =
    f.word neg (min ((lastOf f mag place - f.leastPlace).toNat * f.binade + Toward.even.cut neg (mag <<< (place - lastOf f mag place).toNat) (lastOf f mag place - place).toNat) f.infRung) := by
  simp [Format.nearest, h, lastOf]

theorem lastOf_scale (mag : Nat) (place : Int) (k : Nat) (h : mag ≠ 0) : lastOf f (mag * 2 ^ k) (place - k) = lastOf f mag place := by
  unfold lastOf
  rw [log2_mul_pow mag k h]
  have : place - (k : Int) + ((mag.log2 + k : Nat) : Int) - (f.fractionBits : Int) = place + (mag.log2 : Int) - f.fractionBits := by omega
  rw [this]

/-- The word nearest to a number goes by its value alone. -/
theorem nearest_scale (neg : Bool) (mag : Nat) (place : Int) (k : Nat) : f.nearest neg (mag * 2 ^ k) (place - k) = f.nearest neg mag place := by
  by_cases h : mag = 0
  · subst h; simp [Format.nearest]
  · have hk : mag * 2 ^ k ≠ 0 := Nat.mul_ne_zero h (by have := Nat.two_pow_pos k; omega)
    rw [nearest_eq f neg _ _ hk, nearest_eq f neg _ _ h, lastOf_scale f mag place k h]
    generalize lastOf f mag place = L
    congr 3
    by_cases h1 : place ≤ L
    · rw [show (place - (k : Int) - L).toNat = 0 by omega, show (place - L).toNat = 0 by omega, show (L - (place - (k : Int))).toNat = (L - place).toNat + k by omega]
      simp only [Nat.shiftLeft_zero]
      exact cut_even_scale neg mag _ k h
    · by_cases h2 : place - k ≤ L
      · obtain ⟨d, hd⟩ : ∃ d : Nat, (d : Int) = L - (place - k) := ⟨(L - (place - k)).toNat, by omega⟩
        rw [show (place - (k : Int) - L).toNat = 0 by omega, show (L - (place - (k : Int))).toNat = d by omega, show (L - place).toNat = 0 by omega, show (place - L).toNat = k - d by omega]
        have e : mag * 2 ^ k = mag * 2 ^ (k - d) * 2 ^ d := by rw [Nat.mul_assoc, ← Nat.pow_add]; congr 2; omega
        rw [e]
        simp only [Nat.shiftLeft_eq, cut_even_zero, Nat.pow_zero, Nat.mul_one]
        exact cut_even_mul neg _ d (Nat.mul_ne_zero h (by have := Nat.two_pow_pos (k - d); omega))
      · rw [show (L - (place - (k : Int))).toNat = 0 by omega, show (L - place).toNat = 0 by omega]
        simp only [Nat.shiftLeft_eq, cut_even_zero]
        rw [Nat.mul_assoc, ← Nat.pow_add]
        congr 2; omega

/-- A number that the format has: its word, read, is that number in the format's own way of writing it. -/
theorem read_nearest_exact (neg : Bool) (mag : Nat) (place : Int) (h : mag ≠ 0) (hx : lastOf f mag place ≤ place)
    (hr : (lastOf f mag place - f.leastPlace).toNat * f.binade + mag * 2 ^ (place - lastOf f mag place).toNat < f.infRung) :
    f.read (f.nearest neg mag place) = .number neg (mag * 2 ^ (place - lastOf f mag place).toNat) (lastOf f mag place) := by
  rw [nearest_eq f neg _ _ h]
  have hL : f.leastPlace ≤ lastOf f mag place := by unfold lastOf; omega
  have hM2 : mag * 2 ^ (place - lastOf f mag place).toNat < 2 * f.binade := by
    have : (mag * 2 ^ (place - lastOf f mag place).toNat).log2 ≤ f.fractionBits := by
      rw [log2_mul_pow _ _ h]; unfold lastOf at hx ⊢; omega
    have h0 : mag * 2 ^ (place - lastOf f mag place).toNat ≠ 0 := Nat.mul_ne_zero h (by have := Nat.two_pow_pos (place - lastOf f mag place).toNat; omega)
    have := (Nat.log2_lt h0).1 (Nat.lt_succ_of_le this)
    unfold Format.binade
    rw [Nat.pow_succ] at this; omega
  have hM1 : f.leastPlace < lastOf f mag place → f.binade ≤ mag * 2 ^ (place - lastOf f mag place).toNat := fun hlt => by
    have h0 : mag * 2 ^ (place - lastOf f mag place).toNat ≠ 0 := Nat.mul_ne_zero h (by have := Nat.two_pow_pos (place - lastOf f mag place).toNat; omega)
    have : f.fractionBits ≤ (mag * 2 ^ (place - lastOf f mag place).toNat).log2 := by
      rw [log2_mul_pow _ _ h]; unfold lastOf at hx hlt ⊢; omega
    exact (Nat.le_log2 h0).1 this
  rw [show (lastOf f mag place - place).toNat = 0 by omega, cut_even_zero, Nat.shiftLeft_eq]
  generalize hLn : lastOf f mag place = L at *
  generalize mag * 2 ^ (place - L).toNat = M at *
  obtain ⟨j, hj⟩ : ∃ j : Nat, L = f.leastPlace + j := ⟨(L - f.leastPlace).toNat, by omega⟩
  rw [show (L - f.leastPlace).toNat = j by omega] at hr ⊢
  rw [Nat.min_eq_left (Nat.le_of_lt hr)]
  have hlt := f.infRung_lt
  have hsw : j * f.binade + M < f.signWeight := by omega
  have hneg : (f.word neg (j * f.binade + M) / f.signWeight % 2 == 1) = neg := by
    unfold Format.word
    cases neg
    · simp [Nat.div_eq_of_lt hsw]
    · have hp : 0 < f.signWeight := by omega
      simp only [if_true]
      rw [Nat.add_comm, Nat.add_div_right _ hp, Nat.div_eq_of_lt hsw]; rfl
  have hmod : f.word neg (j * f.binade + M) % f.signWeight = j * f.binade + M := by
    unfold Format.word
    split
    · rw [Nat.add_mod_left, Nat.mod_eq_of_lt hsw]
    · exact Nat.mod_eq_of_lt hsw
  have hb : 0 < f.binade := Nat.two_pow_pos _
  unfold Format.read
  simp only [hneg, hmod]
  by_cases hsub : j * f.binade + M < f.binade
  · have hj0 : j = 0 := by
      rcases Nat.eq_zero_or_pos j with h0 | h0
      · exact h0
      · have : f.binade ≤ j * f.binade := Nat.le_mul_of_pos_left _ h0
        omega
    rw [if_pos hsub, hj, hj0]; simp
  · rw [if_neg hsub, if_pos hr]
    have hMb : f.binade ≤ M := by
      by_cases hj0 : j = 0
      · subst hj0; omega
      · exact hM1 (by omega)
    have hdiv : (j * f.binade + M) / f.binade = j + 1 := by
      rw [Nat.add_comm, Nat.add_mul_div_right _ _ hb, show M / f.binade = 1 from by
        rw [Nat.div_eq_iff hb]; omega]; omega
    have hmod' : (j * f.binade + M) % f.binade = M - f.binade := by
      rw [Nat.add_comm, Nat.add_mul_mod_self_right, Nat.mod_eq_sub_mod hMb, Nat.mod_eq_of_lt (by omega)]
    rw [hdiv, hmod', hj]
    congr 1
    · omega

theorem read_word (neg : Bool) (rung : Nat) (h : rung < f.infRung) : f.read (f.word neg rung) =
    if rung < f.binade then .number neg rung f.leastPlace else .number neg (f.binade + rung % f.binade) (f.leastPlace + (rung / f.binade - 1 : Nat)) := by
  have hlt := f.infRung_lt
  have hsw : rung < f.signWeight := by omega
  have hneg : (f.word neg rung / f.signWeight % 2 == 1) = neg := by
    unfold Format.word
    cases neg
    · simp [Nat.div_eq_of_lt hsw]
    · have hp : 0 < f.signWeight := by omega
      simp only [if_true]
      rw [Nat.add_comm, Nat.add_div_right _ hp, Nat.div_eq_of_lt hsw]; rfl
  have hmod : f.word neg rung % f.signWeight = rung := by
    unfold Format.word
    split
    · rw [Nat.add_mod_left, Nat.mod_eq_of_lt hsw]
    · exact Nat.mod_eq_of_lt hsw
  unfold Format.read
  simp only [hneg, hmod]
  split <;> rfl

theorem binade_le (hf : 1 ≤ f.exponentBits) : f.binade ≤ f.infRung := by
  unfold Format.infRung
  have h1 : 2 ^ 1 ≤ 2 ^ f.exponentBits := Nat.pow_le_pow_right (by omega) hf
  exact Nat.le_mul_of_pos_left _ (by omega)

/-- What a word that is a number reads as lies within the format. -/
theorem read_bounds (hf : 1 ≤ f.exponentBits) {b : Nat} {neg : Bool} {mag : Nat} {place : Int} (h : f.read b = .number neg mag place) :
    f.leastPlace ≤ place ∧ mag < 2 * f.binade ∧ (f.leastPlace < place → f.binade ≤ mag) ∧ (place - f.leastPlace).toNat * f.binade + mag < f.infRung ∧
      (place - f.leastPlace).toNat * f.binade + mag = b % f.signWeight ∧ neg = (b / f.signWeight % 2 == 1) := by
  unfold Format.read at h
  simp only at h
  have hb : 0 < f.binade := Nat.two_pow_pos _
  split at h
  · rename_i hlt
    injection h with h1 h2 h3
    subst h2 h3
    have := binade_le f hf
    refine ⟨Int.le_refl _, by omega, fun h => by omega, by simp; omega, by simp, h1.symm⟩
  · split at h
    · rename_i hge hlt
      injection h with h1 h2 h3
      subst h2 h3
      have hm := Nat.mod_lt (b % f.signWeight) hb
      have hd := Nat.div_add_mod (b % f.signWeight) f.binade
      have hq : 1 ≤ b % f.signWeight / f.binade := (Nat.one_le_div_iff hb).2 (by omega)
      obtain ⟨q, hq'⟩ : ∃ q, b % f.signWeight / f.binade = q + 1 := ⟨b % f.signWeight / f.binade - 1, by omega⟩
      rw [hq'] at hd ⊢
      have e : f.binade * (q + 1) = q * f.binade + f.binade := by rw [Nat.mul_comm, Nat.add_mul, Nat.one_mul]
      refine ⟨by omega, by omega, fun _ => by omega, ?_, ?_, h1.symm⟩
      · rw [show (f.leastPlace + ((q + 1 - 1 : Nat) : Int) - f.leastPlace).toNat = q by omega]; omega
      · rw [show (f.leastPlace + ((q + 1 - 1 : Nat) : Int) - f.leastPlace).toNat = q by omega]; omega
    · split at h <;> cases h

theorem lastOf_read (hf : 1 ≤ f.exponentBits) {b : Nat} {neg : Bool} {mag : Nat} {place : Int} (h : f.read b = .number neg mag place) (h0 : mag ≠ 0) : lastOf f mag place = place := by
  obtain ⟨h1, h2, h3, _⟩ := read_bounds f hf h
  have hlt : mag.log2 < f.fractionBits + 1 := (Nat.log2_lt h0).2 (by unfold Format.binade at h2; rw [Nat.pow_succ]; omega)
  unfold lastOf
  by_cases hp : f.leastPlace < place
  · have : f.fractionBits ≤ mag.log2 := (Nat.le_log2 h0).2 (h3 hp)
    omega
  · omega

theorem zero_place (hf : 1 ≤ f.exponentBits) {b : Nat} {neg : Bool} {place : Int} (h : f.read b = .number neg 0 place) : place = f.leastPlace := by
  obtain ⟨h1, h2, h3, _⟩ := read_bounds f hf h
  have hb : 0 < f.binade := Nat.two_pow_pos _
  by_cases hp : f.leastPlace < place
  · have := h3 hp; omega
  · omega

theorem word_of_parts {b : Nat} (hb : b < 2 ^ f.width) : f.word (b / f.signWeight % 2 == 1) (b % f.signWeight) = b := by
  have two : 2 ^ f.width = 2 * f.signWeight := by
    unfold Format.width Format.signWeight
    rw [Nat.add_assoc, Nat.add_comm 1, Nat.pow_succ, Nat.mul_comm]
  have hp : 0 < f.signWeight := Nat.two_pow_pos _
  rw [two] at hb
  have hd := Nat.div_add_mod b f.signWeight
  have hq : b / f.signWeight < 2 := (Nat.div_lt_iff_lt_mul hp).2 hb
  unfold Format.word
  generalize b % f.signWeight = r at *
  generalize b / f.signWeight = q at *
  rcases (by omega : q = 0 ∨ q = 1) with h | h
  · rw [h] at hd ⊢; simp at hd; simpa using hd
  · rw [h] at hd ⊢; simp at hd; simpa using hd

/-- What is read is written back as it was. -/
theorem write_read (hf : 1 ≤ f.exponentBits) {b : Nat} (hb : b < 2 ^ f.width) (hn : (f.read b).isNaN = false) : f.write (f.read b) = b := by
  cases hr : f.read b with
  | nan s t => rw [hr] at hn; cases hn
  | number neg mag place =>
    obtain ⟨h1, h2, h3, h4, h5, h6⟩ := read_bounds f hf hr
    show f.nearest neg mag place = b
    by_cases h0 : mag = 0
    · subst h0
      have := zero_place f hf hr
      rw [this] at h5
      simp only [Format.nearest, if_true]
      rw [← word_of_parts f hb, ← h6, ← h5]; simp
    · rw [nearest_eq f _ _ _ h0, lastOf_read f hf hr h0, Int.sub_self]
      simp only [Int.toNat_zero, Nat.shiftLeft_zero, cut_even_zero]
      rw [Nat.min_eq_left (Nat.le_of_lt h4), h5, h6, word_of_parts f hb]
  | infinity s =>
    unfold Format.read at hr
    simp only at hr
    split at hr
    · cases hr
    · split at hr
      · cases hr
      · split at hr
        · rename_i h
          injection hr with h1
          show f.word s f.infRung = b
          rw [← h1, ← h, word_of_parts f hb]
        · cases hr

theorem read_infinity (hf : 1 ≤ f.exponentBits) (s : Bool) : f.read (f.word s f.infRung) = .infinity s := by
  have hsw := f.infRung_lt
  have hneg : (f.word s f.infRung / f.signWeight % 2 == 1) = s := by
    unfold Format.word
    cases s
    · simp [Nat.div_eq_of_lt hsw]
    · have hp : 0 < f.signWeight := by omega
      simp only [if_true]
      rw [Nat.add_comm, Nat.add_div_right _ hp, Nat.div_eq_of_lt hsw]; rfl
  have hmod : f.word s f.infRung % f.signWeight = f.infRung := by
    unfold Format.word
    split
    · rw [Nat.add_mod_left, Nat.mod_eq_of_lt hsw]
    · exact Nat.mod_eq_of_lt hsw
  have hb := binade_le f hf
  unfold Format.read
  simp only [hneg, hmod]
  rw [if_neg (by omega), if_neg (by omega)]; simp
end

/-! ### The two widths -/
theorem widen_read {b : Nat} {neg : Bool} {mag : Nat} {place : Int} (h : single.read b = .number neg mag place) :
    ∃ k : Nat, double.read (double.write (.number neg mag place)) = .number neg (mag * 2 ^ k) (place - k) := by
  obtain ⟨h1, h2, h3, h4, h5, h6⟩ := read_bounds single (by decide) h
  by_cases h0 : mag = 0
  · subst h0
    have hp := zero_place single (by decide) h
    refine ⟨925, ?_⟩
    rw [hp]
    cases neg <;> decide +kernel
  · have e1 : single.leastPlace = -149 := by decide +kernel
    have e2 : single.binade = 8388608 := by decide +kernel
    have e3 : single.infRung = 2139095040 := by decide +kernel
    have d1 : double.leastPlace = -1074 := by decide +kernel
    have d2 : double.binade = 4503599627370496 := by decide +kernel
    have d3 : double.infRung = 9218868437227405312 := by decide +kernel
    rw [e1] at h1 h3 h4
    rw [e2] at h2 h3 h4
    rw [e3] at h4
    have hlog : mag.log2 < 24 := (Nat.log2_lt h0).2 (by omega)
    have hpl : place ≤ 105 := by omega
    have hlast : lastOf double mag place = place + mag.log2 - 52 := by
      unfold lastOf
      rw [d1, show (double.fractionBits : Int) = 52 from rfl]; omega
    have hself := Nat.lt_log2_self (n := mag)
    have hk : (place - lastOf double mag place).toNat = 52 - mag.log2 := by rw [hlast]; omega
    have hM : mag * 2 ^ (52 - mag.log2) < 9007199254740992 := by
      have : mag * 2 ^ (52 - mag.log2) < 2 ^ (mag.log2 + 1) * 2 ^ (52 - mag.log2) := Nat.mul_lt_mul_of_pos_right hself (Nat.two_pow_pos _)
      rw [← Nat.pow_add, show mag.log2 + 1 + (52 - mag.log2) = 53 by omega] at this
      exact this
    refine ⟨52 - mag.log2, ?_⟩
    have hj : (lastOf double mag place - double.leastPlace).toNat ≤ 1151 := by rw [hlast, d1]; omega
    have hall : (lastOf double mag place - double.leastPlace).toNat * double.binade + mag * 2 ^ (place - lastOf double mag place).toNat < double.infRung := by
      rw [hk]
      have := Nat.mul_le_mul_right double.binade hj
      generalize double.binade = B at *
      generalize double.infRung = I at *
      generalize (lastOf double mag place - double.leastPlace).toNat * B = X at *
      omega
    have key := read_nearest_exact double neg mag place h0 (by rw [hlast]; omega) hall
    rw [hk, hlast] at key
    rw [show place - ((52 - mag.log2 : Nat) : Int) = place + mag.log2 - 52 by omega]
    exact key
end Go.Proofs.YtndnfhhdflmfcaaGreat

/-
Floats: the two widths, signs, absolute values, 'the same number'.
-/
namespace Go.Proofs.YtndnfhhdflmfcaaGreat
open Go Go.RowKit Ieee

/-- A word fits its kind. -/
def wfk (k : FloatKind) (b : Nat) : Prop := b < 2 ^ k.format.width
theorem wfk_32 {b : Nat} : wfk .f32 b ↔ b < 4294967296 := Iff.rfl
theorem wfk_64 {b : Nat} : wfk .f64 b ↔ b < 18446744073709551616 := Iff.rfl
theorem wfk_lit {k : FloatKind} {b : Nat} (h : (Lit.float k b).wf = true) : wfk k b := by
  cases k <;> simpa [Lit.wf, wfk_32, wfk_64] using h
theorem eb_ge (k : FloatKind) : 1 ≤ k.format.exponentBits := by cases k <;> decide

theorem floatBits_lt {op : BinOp} {k : FloatKind} {x y r : Nat} (h : floatBits op k x y = some r) : wfk k r := wfk_lit (floatBits_wf h)
theorem cut_nan_lt (q : Question) (k : FloatKind) (t : Nat) (hq : (∃ x y, q = .nanBits k x y) ∨ ∃ b, q = .nanConv k b) : wfk k (q.cut t) := by
  cases k with
  | f32 =>
    have e : q.cut t = (t % 2) * 2 ^ 31 + 0x7f800000 + 1 + (t / 2) % (2 ^ 23 - 1) := by rcases hq with ⟨x, y, rfl⟩ | ⟨b, rfl⟩ <;> rfl
    rw [e, wfk_32]; omega
  | f64 =>
    have e : q.cut t = (t % 2) * 2 ^ 63 + 0x7ff0000000000000 + 1 + (t / 2) % (2 ^ 52 - 1) := by rcases hq with ⟨x, y, rfl⟩ | ⟨b, rfl⟩ <;> rfl
    rw [e, wfk_64]; omega
theorem fR_lt (op : BinOp) (k : FloatKind) (x y : Nat) (w : World) : wfk k (fR op k x y w) := by
  unfold fR
  cases h : floatBits op k x y with
  | some r => exact floatBits_lt h
  | none => exact cut_nan_lt _ k _ (.inl ⟨x, y, rfl⟩)
theorem qn_lt (k : FloatKind) : wfk k (qn k) := by
  cases k
  · rw [wfk_32]; decide
  · rw [wfk_64]; decide
theorem fo_lt (op : BinOp) (k : FloatKind) (x y : Nat) : wfk k (fo op k x y) := by
  unfold fo
  cases h : floatBits op k x y with
  | some r => exact floatBits_lt h
  | none => exact qn_lt k
theorem nrm_lt {k : FloatKind} {b : Nat} (h : wfk k b) : wfk k (nrm k b) := by unfold nrm; split; exact qn_lt k; exact h
theorem write_lt' (k : FloatKind) (d : Datum) : wfk k (k.format.write d) := k.format.write_lt d
theorem cR_lt {s k : FloatKind} {b : Nat} (h : wfk s b) (w : World) : wfk k (cR s b k w) := by
  unfold cR
  cases hc : floatToFloatBits s b k with
  | some r =>
    refine wfk_lit (floatToFloatBits_wf ?_ hc)
    cases s <;> simpa [Lit.wf, wfk_32, wfk_64] using h
  | none =>
    dsimp only
    split
    · exact cut_nan_lt _ k _ (.inr ⟨b, rfl⟩)
    · have : (Question.floatToFloat b).cut (w.tape w.drawn (.floatToFloat b)) < 2 ^ 32 := Nat.mod_lt _ (by decide)
      cases k
      · rw [wfk_32]; omega
      · rw [wfk_64]; omega

/-! ### Widening and narrowing -/
theorem f2f_nan {s k : FloatKind} {b : Nat} (hs : s ≠ k) (h : isN s b = true) : floatToFloatBits s b k = none := by
  obtain ⟨sg, t, hr⟩ := isN_read h
  have hr' : s.decode b = .nan sg t := hr
  simp [floatToFloatBits, hs, hr']
theorem f2f_not_nan {s k : FloatKind} {b r : Nat} (hs : s ≠ k) (h : floatToFloatBits s b k = some r) : isN k r = false ∧ isN s b = false := by
  have hb : isN s b = false := by
    cases hh : isN s b
    · rfl
    · rw [f2f_nan hs hh] at h; cases h
  refine ⟨?_, hb⟩
  unfold floatToFloatBits at h
  rw [if_neg hs] at h
  cases hr : s.decode b with
  | nan sg t => rw [hr] at h; cases h
  | infinity sg => rw [hr] at h; cases h; exact write_not_nan _ _ rfl
  | number sg m e =>
    rw [hr] at h
    simp only at h
    split at h
    · cases h
    · cases h; exact write_not_nan _ _ rfl

/-- A conversion that is no overflow gives what it gives, up to a NaN's bits. -/
theorem nrm_cR {s k : FloatKind} {b : Nat} {w : World} (hs : s ≠ k) (h : floatToFloatBits s b k = none → isN s b = true) : nrm k (cR s b k w) = cv s b k := by
  unfold cR cv
  cases hc : floatToFloatBits s b k with
  | some r => exact nrm_of_num (f2f_not_nan hs hc).1
  | none =>
    simp only [h hc, if_true]
    exact nrm_of_nan (cut_nan _ k _ (.inr ⟨b, rfl⟩))
theorem cv_nrm {s k : FloatKind} (hs : s ≠ k) (b : Nat) : cv s (nrm s b) k = cv s b k := by
  cases h : isN s b
  · rw [nrm_of_num h]
  · rw [nrm_of_nan h]; unfold cv; rw [f2f_nan hs h, f2f_nan hs (isN_qn s)]
theorem cv_congr {s k : FloatKind} {a b : Nat} (hs : s ≠ k) (h : nrm s a = nrm s b) : cv s a k = cv s b k := by rw [← cv_nrm hs, h, cv_nrm hs]
theorem nrm_cv {s k : FloatKind} (hs : s ≠ k) (b : Nat) : nrm k (cv s b k) = cv s b k := by
  unfold cv
  cases hc : floatToFloatBits s b k with
  | some r => exact nrm_of_num (f2f_not_nan hs hc).1
  | none => exact nrm_of_nan (isN_qn k)

theorem widen_some {b : Nat} (h : isN .f32 b = false) : floatToFloatBits .f32 b .f64 = some (double.write (single.read b)) := by
  unfold floatToFloatBits
  rw [if_neg (by decide)]
  have hd : FloatKind.f32.decode b = single.read b := rfl
  rw [hd]
  cases hr : single.read b with
  | nan s t =>
    unfold isN at h
    have : FloatKind.f32.format.read b = single.read b := rfl
    rw [this, hr] at h; cases h
  | infinity s => rfl
  | number s m e =>
    obtain ⟨k, hk⟩ := widen_read hr
    have : FloatKind.f64.decode (FloatKind.f64.encode (.number s m e)) = double.read (double.write (.number s m e)) := rfl
    simp only [this, hk, Datum.isInfinity]
    rfl
/-- Widening never asks for anything but a NaN's bits. -/
theorem nrm_wid (b : Nat) (w : World) : nrm .f64 (cR .f32 b .f64 w) = wid b := nrm_cR (by decide) (fun h => by
  cases hb : isN .f32 b
  · rw [widen_some hb] at h; cases h
  · rfl)
theorem wid_lt (b : Nat) : wfk .f64 (wid b) := by
  unfold wid cv
  cases hb : isN .f32 b
  · rw [widen_some hb]; exact write_lt' .f64 _
  · rw [f2f_nan (by decide) hb]; exact qn_lt _
theorem isN_wid (b : Nat) : isN .f64 (wid b) = isN .f32 b := by
  unfold wid cv
  cases hb : isN .f32 b
  · have := widen_some hb
    rw [this]; exact (f2f_not_nan (by decide) this).1
  · rw [f2f_nan (by decide) hb]; exact isN_qn _
theorem wid_inf {b : Nat} {s : Bool} (h : single.read b = .infinity s) : double.read (wid b) = .infinity s := by
  have hb : isN .f32 b = false := by
    show (single.read b).isNaN = false
    rw [h]; rfl
  unfold wid cv
  rw [widen_some hb, h]
  exact read_infinity double (by decide) s
theorem wid_num {b : Nat} {s : Bool} {m : Nat} {e : Int} (h : single.read b = .number s m e) : ∃ k : Nat, double.read (wid b) = .number s (m * 2 ^ k) (e - k) := by
  have hb : isN .f32 b = false := by
    show (single.read b).isNaN = false
    rw [h]; rfl
  unfold wid cv
  rw [widen_some hb, h]
  exact widen_read h

/-! ### Signs -/
theorem read_parts (f : Format) (b b' : Nat) (hq : b' / f.signWeight % 2 = 1 - b / f.signWeight % 2) (hr : b' % f.signWeight = b % f.signWeight) : f.read b' = (f.read b).opposite := by
  have hn : (b' / f.signWeight % 2 == 1) = !(b / f.signWeight % 2 == 1) := by
    rw [hq]
    rcases (by omega : b / f.signWeight % 2 = 0 ∨ b / f.signWeight % 2 = 1) with h | h <;> rw [h] <;> rfl
  unfold Format.read
  simp only [hn, hr]
  split
  · rfl
  · split
    · rfl
    · split <;> rfl

theorem xor_sign (n b : Nat) : (b ^^^ 2 ^ n) / 2 ^ n % 2 = 1 - b / 2 ^ n % 2 ∧ (b ^^^ 2 ^ n) % 2 ^ n = b % 2 ^ n := by
  have hp := Nat.two_pow_pos n
  constructor
  · rw [Nat.xor_div_two_pow, Nat.div_self hp]
    rcases Nat.mod_two_eq_zero_or_one (b / 2 ^ n) with h | h
    · have : (b / 2 ^ n ^^^ 1) % 2 = 1 := by rw [Nat.xor_mod_two_eq_one]; simp [h]
      omega
    · have : ¬ (b / 2 ^ n ^^^ 1) % 2 = 1 := by rw [Nat.xor_mod_two_eq_one]; simp [h]
      omega
  · rw [Nat.xor_mod_two_pow, Nat.mod_self, Nat.xor_zero]

theorem read_neg (k : FloatKind) (b : Nat) : k.format.read (Op.negFloat k b) = (k.format.read b).opposite := by
  unfold Op.negFloat
  exact read_parts _ _ _ (xor_sign _ b).1 (xor_sign _ b).2
theorem isN_neg (k : FloatKind) (b : Nat) : isN k (Op.negFloat k b) = isN k b := by
  unfold isN
  rw [read_neg]; cases k.format.read b <;> rfl
theorem neg_lt {k : FloatKind} {b : Nat} (h : wfk k b) : wfk k (Op.negFloat k b) := by
  unfold Op.negFloat wfk
  refine Nat.xor_lt_two_pow h ?_
  cases k <;> decide

/-- The absolute value, as the reference takes it. -/
def absB (b : Nat) : Nat := if flt .f64 b 0 = true then Op.negFloat .f64 b else if feq .f64 b 0 = true then 0 else b

theorem read_zero64 : FloatKind.f64.format.read 0 = .number false 0 (-1074) := by decide +kernel
theorem read_zero32 : FloatKind.f32.format.read 0 = .number false 0 (-149) := by decide +kernel

theorem signed_cases (s : Bool) (m u : Nat) : ∃ n : Nat, (n = 0 ↔ m = 0) ∧ signed s m u = if s = true then -(n : Int) else (n : Int) := by
  refine ⟨m * 2 ^ u, ⟨fun h => ?_, by rintro rfl; simp⟩, ?_⟩
  · have hp := Nat.two_pow_pos u
    rcases Nat.mul_eq_zero.1 h with h | h
    · exact h
    · omega
  · unfold signed; rw [Nat.shiftLeft_eq]
theorem signed_lt (s : Bool) (m u : Nat) : (signed s m u < 0) ↔ (s = true ∧ m ≠ 0) := by
  obtain ⟨n, h0, h⟩ := signed_cases s m u
  rw [h]
  cases s <;> simp <;> omega
theorem signed_eq (s : Bool) (m u : Nat) : (signed s m u = 0) ↔ m = 0 := by
  obtain ⟨n, h0, h⟩ := signed_cases s m u
  rw [h]
  cases s <;> simp <;> omega

theorem order_zero {k : FloatKind} {b : Nat} {s : Bool} {m : Nat} {e : Int} (h : k.format.read b = .number s m e) (h0 : ∃ p, k.format.read 0 = .number false 0 p) :
    k.format.order b 0 = some (if m = 0 then .eq else if s = true then .lt else .gt) := by
  obtain ⟨p, hp⟩ := h0
  have z : ∀ u, signed false 0 u = 0 := fun u => by simp [signed]
  unfold Format.order
  rw [h, hp]
  simp only [Datum.order, z]
  congr 1
  by_cases hm : m = 0
  · rw [if_pos hm, (signed_eq s m _).2 hm]; rfl
  · rw [if_neg hm]
    have hne : signed s m (e - min e p).toNat ≠ 0 := fun h => hm ((signed_eq _ _ _).1 h)
    cases s
    · have : ¬ signed false m (e - min e p).toNat < 0 := fun h => by have := (signed_lt _ _ _).1 h; simp at this
      simp only [Bool.false_eq_true, if_false, compare, compareOfLessAndEq]
      rw [if_neg this, if_neg hne]
    · have : signed true m (e - min e p).toNat < 0 := (signed_lt _ _ _).2 ⟨rfl, hm⟩
      simp only [if_true, compare, compareOfLessAndEq]
      rw [if_pos this]
theorem zero_read (k : FloatKind) : ∃ p, k.format.read 0 = .number false 0 p := by
  cases k
  · exact ⟨_, read_zero32⟩
  · exact ⟨_, read_zero64⟩
theorem order_zero_inf {k : FloatKind} {b : Nat} {s : Bool} (h : k.format.read b = .infinity s) : k.format.order b 0 = some (if s = true then .lt else .gt) := by
  obtain ⟨p, hp⟩ := zero_read k
  unfold Format.order
  rw [h, hp]
  rfl

/-- |b| as a datum. -/
def absD : Datum → Datum
  | .number _ m e => .number false m e
  | .infinity _ => .infinity false
  | d => d

theorem absB_read (b : Nat) : ∃ m e, (FloatKind.f64.format.read (absB b) = absD (FloatKind.f64.format.read b)) ∨
    (FloatKind.f64.format.read (absB b) = .number false 0 (-1074) ∧ ∃ s, FloatKind.f64.format.read b = .number s 0 (-1074) ∧ m = 0 ∧ e = (-1074 : Int)) := by
  refine ⟨0, -1074, ?_⟩
  unfold absB
  cases hr : FloatKind.f64.format.read b with
  | nan s t =>
    have hn : isN .f64 b = true := by unfold isN; rw [hr]; rfl
    have h1 : flt .f64 b 0 = false := by unfold flt; rw [order_nan_l hn]; rfl
    have h2 : feq .f64 b 0 = false := by unfold feq; rw [order_nan_l hn]; rfl
    left
    rw [h1, h2]; simp [hr, absD]
  | infinity s =>
    have ho := order_zero_inf hr
    left
    cases s
    · have h1 : flt .f64 b 0 = false := by unfold flt; rw [ho]; rfl
      have h2 : feq .f64 b 0 = false := by unfold feq; rw [ho]; rfl
      rw [h1, h2]; simp [hr, absD]
    · have h1 : flt .f64 b 0 = true := by unfold flt; rw [ho]; rfl
      rw [if_pos h1, read_neg, hr]; rfl
  | number s m e =>
    have ho := order_zero hr (zero_read _)
    by_cases hm : m = 0
    · subst hm
      have he : e = -1074 := zero_place _ (by decide) hr
      subst he
      right
      have h1 : flt .f64 b 0 = false := by unfold flt; rw [ho]; rfl
      have h2 : feq .f64 b 0 = true := by unfold feq; rw [ho]; rfl
      rw [h1, h2]
      exact ⟨read_zero64, s, rfl, rfl, rfl⟩
    · left
      rw [if_neg hm] at ho
      cases s
      · have h1 : flt .f64 b 0 = false := by unfold flt; rw [ho]; rfl
        have h2 : feq .f64 b 0 = false := by unfold feq; rw [ho]; rfl
        rw [h1, h2]; simp [hr, absD]
      · have h1 : flt .f64 b 0 = true := by unfold flt; rw [ho]; rfl
        rw [if_pos h1, read_neg, hr]; rfl

theorem read_absB (b : Nat) : double.read (absB b) = absD (double.read b) := by
  obtain ⟨m, e, h | ⟨h, s, hb, _⟩⟩ := absB_read b
  · exact h
  · show FloatKind.f64.format.read _ = absD (FloatKind.f64.format.read b)
    rw [h, hb]; rfl
theorem absB_lt {b : Nat} (h : wfk .f64 b) : wfk .f64 (absB b) := by
  unfold absB
  split
  · exact neg_lt h
  · split
    · rw [wfk_64]; decide
    · exact h
theorem isN_absB (b : Nat) : isN .f64 (absB b) = isN .f64 b := by
  show (double.read (absB b)).isNaN = (double.read b).isNaN
  rw [read_absB]; cases double.read b <;> rfl
theorem absB_congr {a b : Nat} (h : nrm .f64 a = nrm .f64 b) : nrm .f64 (absB a) = nrm .f64 (absB b) := by
  cases ha : isN .f64 a
  · have hb : isN .f64 b = false := by rw [← isN_nrm, ← h, isN_nrm]; exact ha
    rw [nrm_of_num ha, nrm_of_num hb] at h
    rw [h]
  · have hb : isN .f64 b = true := by rw [← isN_nrm, ← h, isN_nrm]; exact ha
    rw [nrm_of_nan (by rw [isN_absB]; exact ha), nrm_of_nan (by rw [isN_absB]; exact hb)]

/-- The absolute value of a number of single precision, as the program takes it: the sign bit struck. -/
theorem read_abs32 (b : Nat) : single.read (b % 2147483648) = absD (match single.read b with | .nan _ t => .nan false t | d => d) := by
  have hs : single.signWeight = 2147483648 := by decide +kernel
  unfold Format.read
  simp only [hs, Nat.mod_mod]
  have : b % 2147483648 / 2147483648 = 0 := Nat.div_eq_of_lt (Nat.mod_lt _ (by decide))
  simp only [this]
  split
  · rfl
  · split
    · rfl
    · split <;> rfl

/-- The reference's way to the absolute value, through double precision, comes to the same. -/
theorem narrow_abs {b : Nat} (hn : isN .f32 b = false) : floatToFloatBits .f64 (absB (wid b)) .f32 = some (b % 2147483648) := by
  have habs := read_abs32 b
  have hwr : single.write (single.read (b % 2147483648)) = b % 2147483648 := write_read single (by decide) (by
    have : single.width = 32 := by decide
    rw [this]; omega) (by
    rw [habs]
    unfold isN at hn
    have e : FloatKind.f32.format.read b = single.read b := rfl
    rw [e] at hn
    cases hr : single.read b with
    | nan s t => rw [hr] at hn; cases hn
    | number s m e => rfl
    | infinity s => rfl)
  unfold floatToFloatBits
  rw [if_neg (by decide)]
  have hd : FloatKind.f64.decode (absB (wid b)) = absD (double.read (wid b)) := read_absB _
  rw [hd]
  cases hr : single.read b with
  | nan s t =>
    unfold isN at hn
    have e : FloatKind.f32.format.read b = single.read b := rfl
    rw [e, hr] at hn; cases hn
  | infinity s =>
    rw [wid_inf hr]
    rw [hr] at habs
    show some (single.write (.infinity false)) = _
    rw [← hwr, habs]; rfl
  | number s m e =>
    obtain ⟨k, hk⟩ := wid_num hr
    rw [hr] at habs
    have henc : FloatKind.f32.encode (.number false (m * 2 ^ k) (e - k)) = b % 2147483648 := by
      show single.nearest false (m * 2 ^ k) (e - k) = _
      rw [nearest_scale, ← hwr, habs]; rfl
    have hdec : FloatKind.f32.decode (b % 2147483648) = .number false m e := by show single.read _ = _; rw [habs]; rfl
    rw [hk]
    simp only [absD, henc, hdec, Datum.isInfinity]
    rfl
theorem nrm_narrow_abs {b r : Nat} (hr : nrm .f64 r = wid b) (w : World) : nrm .f32 (cR .f64 (absB r) .f32 w) = nrm .f32 (b % 2147483648) := by
  have hrw : nrm .f64 r = nrm .f64 (wid b) := by rw [hr, nrm_cv (by decide)]
  have hab := absB_congr hrw
  cases hn : isN .f32 b
  · have hs := narrow_abs hn
    have hw : isN .f64 (wid b) = false := by rw [isN_wid]; exact hn
    have hr0 : isN .f64 r = false := by rw [← isN_nrm, hrw, isN_nrm]; exact hw
    rw [nrm_of_num hr0, nrm_of_num hw] at hrw
    subst hrw
    rw [nrm_cR (by decide) (fun h => by rw [hs] at h; cases h)]
    unfold cv
    rw [hs]
    exact (nrm_of_num (f2f_not_nan (by decide) hs).1).symm
  · have hw : isN .f64 (wid b) = true := by rw [isN_wid]; exact hn
    have hr0 : isN .f64 r = true := by rw [← isN_nrm, hrw, isN_nrm]; exact hw
    rw [nrm_cR (by decide) (fun _ => by rw [isN_absB]; exact hr0)]
    unfold cv
    rw [f2f_nan (by decide) (by rw [isN_absB]; exact hr0)]
    show qn .f32 = _
    refine (nrm_of_nan ?_).symm
    obtain ⟨s, t, hb⟩ := isN_read hn
    have hb' : single.read b = .nan s t := hb
    show (single.read _).isNaN = true
    rw [read_abs32 b, hb']; rfl

/-- Narrowing takes back what widening gives. -/
theorem narrow_wid {b : Nat} (h : wfk .f32 b) (hn : isN .f32 b = false) : floatToFloatBits .f64 (wid b) .f32 = some b := by
  have hwr : single.write (single.read b) = b := write_read single (by decide) h hn
  unfold floatToFloatBits
  rw [if_neg (by decide)]
  have hd : FloatKind.f64.decode (wid b) = double.read (wid b) := rfl
  rw [hd]
  cases hr : single.read b with
  | nan s t =>
    unfold isN at hn
    have e : FloatKind.f32.format.read b = single.read b := rfl
    rw [e, hr] at hn; cases hn
  | infinity s =>
    rw [wid_inf hr]
    rw [hr] at hwr
    show some (single.write (.infinity s)) = _
    rw [hwr]
  | number s m e =>
    obtain ⟨k, hk⟩ := wid_num hr
    have henc : FloatKind.f32.encode (.number s (m * 2 ^ k) (e - k)) = b := by
      show single.nearest s (m * 2 ^ k) (e - k) = _
      rw [nearest_scale, ← hwr, hr]; rfl
    have hdec : FloatKind.f32.decode b = .number s m e := hr
    rw [hk]
    simp only [henc, hdec, Datum.isInfinity]
    rfl

/-- A float known up to the bits of a NaN. -/
def isF (k : FloatKind) (z : Nat) (v : Value) : Prop := ∃ r, v = .float k r ∧ nrm k r = z ∧ wfk k r
theorem isF_wid {b : Nat} (h : wfk .f32 b) (w : World) : isF .f64 (wid b) (.float .f64 (cR .f32 b .f64 w)) := ⟨_, rfl, nrm_wid b w, cR_lt h w⟩
theorem isF_op (op : BinOp) (k : FloatKind) (x y : Nat) (w : World) : isF k (fo op k x y) (.float k (fR op k x y w)) := ⟨_, rfl, nrm_fR op k x y w, fR_lt op k x y w⟩

/-! ### The same number -/
def sameB (k : FloatKind) (a b : Nat) : Bool := decide (nrm k a = nrm k b)
end Go.Proofs.YtndnfhhdflmfcaaGreat

/-
Complex numbers in the walk: == and conversions between the widths.
-/
namespace Go.Proofs.YtndnfhhdflmfcaaGreat
open Go Go.RowKit Ieee

section
variable {P : Program} (w : World)
@[go_sem high] theorem run_ceql (t : TypeId) (k : FloatKind) (a b c d : Nat) : (binOp .eql t (.complex k a b) (.complex k c d)).run P w = .ok (.bool (feq k a c && feq k b d)) w := run_eql_complex w t k a b c d
@[go_sem high] theorem run_cneq (t : TypeId) (k : FloatKind) (a b c d : Nat) : (binOp .neq t (.complex k a b) (.complex k c d)).run P w = .ok (.bool !(feq k a c && feq k b d)) w := run_neq_complex w t k a b c d
theorem run_ccv (s k : FloatKind) (a b : Nat) : (Conv.complexToComplex s a b k).run P w = .ok (.complex k (cR s a k w) (cR s b k (w.drewN (cN s a k)))) ((w.drewN (cN s a k)).drewN (cN s b k)) := by
  have h1 := run_conv (P := P) w s k a
  have h2 := run_conv (P := P) (w.drewN (cN s a k)) s k b
  simp [Conv.complexToComplex, h1, h2]
@[go_sem] theorem run_ccvt (src dst : TypeId) (s k : FloatKind) (a b : Nat) (hs : (P.underlying src).isSome = true) (hd : P.underlying dst = some (.complex k)) :
    (convert src dst (.complex s a b)).run P w = .ok (.complex k (cR s a k w) (cR s b k (w.drewN (cN s a k)))) ((w.drewN (cN s a k)).drewN (cN s b k)) := by
  obtain ⟨u, hs'⟩ := Option.isSome_iff_exists.1 hs
  cases u <;> simp [convert, run_underlying hs', run_underlying hd, run_ccv]
end
end Go.Proofs.YtndnfhhdflmfcaaGreat

/-
spec.l1Any and what it calls: any number; spec.MakeModerate.
-/
namespace Go.Proofs.YtndnfhhdflmfcaaGreat
open Go Go.RowKit Ieee

theorem CurStep.drewN {w w' : World} {g : Nat} (h : CurStep w w' g) (n : Nat) : CurStep w (w'.drewN n) g := ⟨h.1, grown_drewN h.2 n⟩

set_option maxHeartbeats 400000 in
theorem once_any (g : Nat) (n : Int) (w : World) (h : Cur w g) (h0 : 0 < n) (h1 : n ≤ 4294967296) :
    Calls Tryz.prog 87 #[.pointer (some ⟨g, 0, none⟩), .int .i64 n] w fun e w' => ∃ b : Bool, e = .returned (.bool b) ∧ CurStep w w' g := by
  go_enter Tryz.func87, Tryz.ntmps87
  go_wp2_with fail
  refine (below_any g n _ h h0 h1).mono ?_
  rintro e w' ⟨x, rfl, _, hs⟩
  go_wp2_with fail
  go_ret
  exact ⟨_, rfl, hs⟩

set_option maxHeartbeats 1000000 in
theorem odd_any (g : Nat) (w : World) (h : Cur w g) :
    Calls Tryz.prog 120 #[.pointer (some ⟨g, 0, none⟩)] w fun e w' => ∃ b : Nat, e = .returned (.float .f64 b) ∧ wfk .f64 b ∧ CurStep w w' g := by
  go_enter Tryz.func120, Tryz.ntmps120
  go_wp2_with fail
  refine (below_any g 12 _ h (by omega) (by omega)).mono ?_
  rintro e w' ⟨x, rfl, hx, hs⟩
  go_wp2_with fail
  all_goals
    go_ret
    refine ⟨_, rfl, ?_, ?_⟩
    · first | exact fR_lt _ _ _ _ _ | (rw [wfk_64]; decide)
    · first | exact hs | exact hs.drewN _

set_option maxHeartbeats 1000000 in
theorem some_any (g : Nat) (w : World) (h : Cur w g) :
    Calls Tryz.prog 63 #[.pointer (some ⟨g, 0, none⟩)] w fun e w' => ∃ b : Nat, e = .returned (.float .f64 b) ∧ wfk .f64 b ∧ CurStep w w' g := by
  go_enter Tryz.func63, Tryz.ntmps63
  go_wp2_with fail
  refine (below_any g 4 _ h (by omega) (by omega)).mono ?_
  rintro e w1 ⟨x, rfl, hx, hs⟩
  go_wp2_with fail
  · refine (below_any g _ _ hs.1 (by omega) (by omega)).mono ?_
    rintro e w2 ⟨y, rfl, hy, hs2⟩
    go_wp2_with fail
    go_ret
    exact ⟨_, rfl, fR_lt _ _ _ _ _, (hs.trans hs2).drewN _⟩
  · refine (below_any g _ _ hs.1 (by omega) (by omega)).mono ?_
    rintro e w2 ⟨y, rfl, hy, hs2⟩
    go_wp2_with fail
    go_ret
    exact ⟨_, rfl, fR_lt _ _ _ _ _, (hs.trans hs2).drewN _⟩
  · refine (below_any g _ _ hs.1 (by omega) (by omega)).mono ?_
    rintro e w2 ⟨y, rfl, hy, hs2⟩
    go_wp2_with fail
    go_ret
    exact ⟨_, rfl, fR_lt _ _ _ _ _, (hs.trans hs2).drewN _⟩
  · refine (below_any g _ _ hs.1 (by omega) (by omega)).mono ?_
    rintro e w2 ⟨y, rfl, hy, hs2⟩
    go_wp2_with fail
    go_ret
    exact ⟨_, rfl, wfk_lit (floatOfInt_wf .f64 _), hs.trans hs2⟩

set_option maxHeartbeats 1000000 in
theorem any_any (g : Nat) (w : World) (h : Cur w g) :
    Calls Tryz.prog 108 #[.pointer (some ⟨g, 0, none⟩)] w fun e w' => ∃ b : Nat, e = .returned (.float .f64 b) ∧ wfk .f64 b ∧ CurStep w w' g := by
  go_enter Tryz.func108, Tryz.ntmps108
  go_wp2_with fail
  refine (once_any g 9 _ h (by omega) (by omega)).mono ?_
  rintro e w1 ⟨b1, rfl, h1⟩
  cases b1
  · go_wp2_with fail
    refine (some_any g _ h1.1).mono ?_
    rintro e w2 ⟨x, rfl, hx, h2⟩
    have h2 := h1.trans h2
    clear h1
    go_wp2_with fail
    refine (once_any g 9 _ h2.1 (by omega) (by omega)).mono ?_
    rintro e w3 ⟨b2, rfl, h3⟩
    have h3 := h2.trans h3
    clear h2
    cases b2
    · go_wp2_with fail
      refine (once_any g 9 _ h3.1 (by omega) (by omega)).mono ?_
      rintro e w4 ⟨b3, rfl, h4⟩
      have h4 := h3.trans h4
      clear h3
      cases b3
      · go_wp2_with fail
        go_ret
        exact ⟨_, rfl, hx, h4⟩
      · go_wp2_with fail
        refine (below_any g 250 _ h4.1 (by omega) (by omega)).mono ?_
        rintro e w5 ⟨k, rfl, hk, h5⟩
        have h5 := h4.trans h5
        clear h4
        have H5 := Lib.hid h5
        clear h5
        go_wp2_with fail
        go_loopw [3, 5] (fun x k wr => ∃ (b : Nat) (j : Int), x = .float .f64 b ∧ wfk .f64 b ∧ k = .int .i64 j ∧ (0 ≤ j ∧ j ≤ 250) ∧ Hid (CurStep w wr g)) (fun _ k _ => (intOf k).toNat)
        case atStart => exact ⟨_, k, rfl, hx, rfl, by omega, H5⟩
        case round =>
          obtain ⟨b, j, rfl, hb, rfl, hj, HC⟩ := hrel
          by_cases hp : 0 < j
          · go_wp2_with fail
            go_roundw
            case rel => exact ⟨_, j - 1, rfl, fR_lt _ _ _ _ _, by go_num, by omega, HC.out.drewN _⟩
            case measure => simp [intOf]; omega
          · go_wp2
            go_ret
            exact ⟨_, rfl, ‹_›, HC.out⟩
    · go_wp2_with fail
      refine (below_any g 250 _ h3.1 (by omega) (by omega)).mono ?_
      rintro e w5 ⟨k, rfl, hk, h5⟩
      have h5 := h3.trans h5
      clear h3
      have H5 := Lib.hid h5
      clear h5
      go_wp2_with fail
      go_loopw [3, 4] (fun x k wr => ∃ (b : Nat) (j : Int), x = .float .f64 b ∧ wfk .f64 b ∧ k = .int .i64 j ∧ (0 ≤ j ∧ j ≤ 250) ∧ Hid (CurStep w wr g)) (fun _ k _ => (intOf k).toNat)
      case atStart => exact ⟨_, k, rfl, hx, rfl, by omega, H5⟩
      case round =>
        clear H5
        obtain ⟨b, j, rfl, hb, rfl, hj, HC⟩ := hrel
        by_cases hp : 0 < j
        · go_wp2_with fail
          go_roundw
          case rel => exact ⟨_, j - 1, rfl, fR_lt _ _ _ _ _, by go_num, by omega, HC.out.drewN _⟩
          case measure => simp [intOf]; omega
        · have h3 := HC.out
          clear HC
          go_wp2_with fail
          refine (once_any g 9 _ h3.1 (by omega) (by omega)).mono ?_
          rintro e w4 ⟨b3, rfl, h4⟩
          have h4 := h3.trans h4
          clear h3
          cases b3
          · go_wp2_with fail
            go_ret
            exact ⟨_, rfl, hb, h4⟩
          · go_wp2_with fail
            refine (below_any g 250 _ h4.1 (by omega) (by omega)).mono ?_
            rintro e w5 ⟨k, rfl, hk, h5⟩
            have h5 := h4.trans h5
            clear h4
            have H5 := Lib.hid h5
            clear h5
            go_wp2_with fail
            go_loopw [3, 5] (fun x k wr => ∃ (b : Nat) (j : Int), x = .float .f64 b ∧ wfk .f64 b ∧ k = .int .i64 j ∧ (0 ≤ j ∧ j ≤ 250) ∧ Hid (CurStep w wr g)) (fun _ k _ => (intOf k).toNat)
            case atStart => exact ⟨_, k, rfl, hb, rfl, by omega, H5⟩
            case round =>
              obtain ⟨b, j, rfl, hb, rfl, hj, HC⟩ := hrel
              by_cases hp : 0 < j
              · go_wp2_with fail
                go_roundw
                case rel => exact ⟨_, j - 1, rfl, fR_lt _ _ _ _ _, by go_num, by omega, HC.out.drewN _⟩
                case measure => simp [intOf]; omega
              · go_wp2
                go_ret
                exact ⟨_, rfl, ‹_›, HC.out⟩
  · go_wp2_with fail
    refine (odd_any g _ h1.1).mono ?_
    rintro e w2 ⟨x, rfl, hx, h2⟩
    have h2 := h1.trans h2
    clear h1
    go_wp2_with fail
    go_ret
    exact ⟨_, rfl, hx, h2⟩
end Go.Proofs.YtndnfhhdflmfcaaGreat

/-
'Are they the same number?': laws.sameFloat, spec.l8Same, impl.same64, impl.same32.
-/
namespace Go.Proofs.YtndnfhhdflmfcaaGreat
open Go Go.RowKit Ieee

/-- 1 in double precision. -/
def one64 : Nat := 4607182418800017408
theorem one_read : double.read one64 = .number false 4503599627370496 (-52) := by decide +kernel

theorem quo_one_some {a : Nat} (h : isN .f64 a = false) : ∃ r, floatBits .quo .f64 one64 a = some r := by
  unfold floatBits
  show ∃ r, (Datum.quotient _ (double.read one64) (double.read a)).map _ = some r
  rw [one_read]
  have h' : (double.read a).isNaN = false := h
  cases hr : double.read a with
  | nan s t => rw [hr] at h'; cases h'
  | infinity s => exact ⟨_, rfl⟩
  | number s m e =>
    unfold Datum.quotient
    by_cases hm : m = 0
    · subst hm; exact ⟨_, rfl⟩
    · simp only [if_neg hm]; exact ⟨_, rfl⟩
theorem fN_one {a : Nat} (h : isN .f64 a = false) : fN .quo .f64 one64 a = 0 := by
  obtain ⟨r, hr⟩ := quo_one_some h
  simp [fN, hr]

theorem feq_zero {a : Nat} (hw : wfk .f64 a) (h : feq .f64 a 0 = true) : a = 0 ∨ a = 9223372036854775808 := by
  cases hr : FloatKind.f64.format.read a with
  | nan s t =>
    unfold feq at h
    rw [order_nan_l (by unfold isN; rw [hr]; rfl)] at h; cases h
  | infinity s =>
    unfold feq at h
    rw [order_zero_inf hr] at h; cases s <;> cases h
  | number s m e =>
    unfold feq at h
    rw [order_zero hr (zero_read _)] at h
    by_cases hm : m = 0
    · subst hm
      have hp := zero_place FloatKind.f64.format (by decide) hr
      obtain ⟨_, _, _, _, h5, h6⟩ := read_bounds FloatKind.f64.format (by decide) hr
      rw [hp] at h5
      have hs : FloatKind.f64.format.signWeight = 9223372036854775808 := by decide +kernel
      rw [hs] at h5
      rw [wfk_64] at hw
      simp at h5
      omega
    · rw [if_neg hm] at h; cases s <;> cases h
theorem sign_zero (w : World) : fgt .f64 (fR .quo .f64 one64 0 w) 0 = true ∧ fgt .f64 (fR .quo .f64 one64 9223372036854775808 w) 0 = false := by
  have h1 : floatBits .quo .f64 one64 0 = some 9218868437227405312 := by decide +kernel
  have h2 : floatBits .quo .f64 one64 9223372036854775808 = some 18442240474082181120 := by decide +kernel
  constructor
  · unfold fR; rw [h1]
    show fgt .f64 9218868437227405312 0 = true
    decide +kernel
  · unfold fR; rw [h2]
    show fgt .f64 18442240474082181120 0 = false
    decide +kernel
theorem same_zero {a b : Nat} (ha : wfk .f64 a) (hb : wfk .f64 b) (h : feq .f64 a 0 = true) (h' : feq .f64 b 0 = true) (w w' : World) :
    (fgt .f64 (fR .quo .f64 one64 a w) 0 == fgt .f64 (fR .quo .f64 one64 b w') 0) = sameB .f64 a b := by
  have e0 : isN .f64 0 = false := by decide +kernel
  have e1 : isN .f64 9223372036854775808 = false := by decide +kernel
  unfold sameB
  rcases feq_zero ha h with rfl | rfl <;> rcases feq_zero hb h' with rfl | rfl <;>
    simp only [nrm_of_num e0, nrm_of_num e1, (sign_zero _).1, (sign_zero _).2] <;> decide

theorem feq_nan {k : FloatKind} {a b : Nat} (h : feq k a b = true) : isN k a = false ∧ isN k b = false := by
  constructor
  · cases hh : isN k a
    · rfl
    · unfold feq at h; rw [order_nan_l hh] at h; cases h
  · cases hh : isN k b
    · rfl
    · unfold feq at h; rw [order_nan_r hh] at h; cases h
/-- Of two numbers that are equal and not both zero, the words are one. -/
theorem feq_word {k : FloatKind} {a b : Nat} (ha : wfk k a) (hb : wfk k b) (h : feq k a b = true) (h0 : feq k a 0 = false ∨ feq k b 0 = false) : a = b := by
  have na := (feq_nan h).1
  have nb := (feq_nan h).2
  have wa := write_read k.format (eb_ge k) ha na
  have wb := write_read k.format (eb_ge k) hb nb
  have ho : k.format.order a b = some .eq := by simpa [feq] using h
  unfold Format.order at ho
  rw [← wa, ← wb]
  cases hr : k.format.read a with
  | nan s t => unfold isN at na; rw [hr] at na; cases na
  | infinity s =>
    cases hr' : k.format.read b with
    | nan s t => unfold isN at nb; rw [hr'] at nb; cases nb
    | infinity t =>
      rw [hr, hr'] at ho
      cases s <;> cases t <;> first | rfl | exact absurd ho (by decide)
    | number t n j =>
      rw [hr, hr'] at ho
      cases s <;> cases ho
  | number s m i =>
    cases hr' : k.format.read b with
    | nan s t => unfold isN at nb; rw [hr'] at nb; cases nb
    | infinity t =>
      rw [hr, hr'] at ho
      cases t <;> cases ho
    | number t n j =>
      rw [hr, hr'] at ho
      have hz : m ≠ 0 ∨ n ≠ 0 := by
        rcases h0 with h0 | h0
        · left; rintro rfl
          unfold feq at h0; rw [order_zero hr (zero_read k)] at h0; cases h0
        · right; rintro rfl
          unfold feq at h0; rw [order_zero hr' (zero_read k)] at h0; cases h0
      simp only [Datum.order, Option.some.injEq] at ho
      have he : signed s m (i - min i j).toNat = signed t n (j - min i j).toNat := by
        simp only [compare, compareOfLessAndEq] at ho
        split at ho
        · cases ho
        · split at ho
          · assumption
          · cases ho
      have hs : s = t ∧ m * 2 ^ (i - min i j).toNat = n * 2 ^ (j - min i j).toNat := by
        simp only [signed, Nat.shiftLeft_eq] at he
        have pm : m ≠ 0 → 0 < m * 2 ^ (i - min i j).toNat := fun h => Nat.mul_pos (by omega) (Nat.two_pow_pos _)
        have pn : n ≠ 0 → 0 < n * 2 ^ (j - min i j).toNat := fun h => Nat.mul_pos (by omega) (Nat.two_pow_pos _)
        generalize m * 2 ^ (i - min i j).toNat = x at *
        generalize n * 2 ^ (j - min i j).toNat = y at *
        cases s <;> cases t <;> simp at he ⊢ <;> omega
      show k.format.nearest s m i = k.format.nearest t n j
      have e1 := nearest_scale k.format s m i (i - min i j).toNat
      have e2 := nearest_scale k.format t n j (j - min i j).toNat
      rw [← e1, ← e2, hs.1, hs.2]
      congr 1
      omega
theorem same_num {a b : Nat} (ha : wfk .f64 a) (hb : wfk .f64 b) (na : isN .f64 a = false) (nb : isN .f64 b = false) (h0 : feq .f64 a 0 = false ∨ feq .f64 b 0 = false) : feq .f64 a b = sameB .f64 a b := by
  unfold sameB
  rw [nrm_of_num na, nrm_of_num nb]
  by_cases h : a = b
  · subst h; rw [feq_self, na]; simp
  · rw [decide_eq_false h]
    cases hf : feq .f64 a b
    · rfl
    · exact absurd (feq_word ha hb hf h0) h
theorem same_nan_l {k : FloatKind} {a b : Nat} (h : isN k a = true) : sameB k a b = isN k b := by
  unfold sameB
  rw [nrm_of_nan h]
  cases hb : isN k b
  · rw [nrm_of_num hb, decide_eq_false]
    intro e; rw [← e, isN_qn] at hb; cases hb
  · rw [nrm_of_nan hb]; simp
theorem same_nan_r {k : FloatKind} {a b : Nat} (ha : isN k a = false) (h : isN k b = true) : sameB k a b = false := by
  unfold sameB
  rw [nrm_of_nan h, nrm_of_num ha, decide_eq_false]
  intro e; rw [e, isN_qn] at ha; cases ha

set_option maxHeartbeats 400000 in
theorem l8Same_any (a b : Nat) (w : World) (ha : wfk .f64 a) (hb : wfk .f64 b) :
    Calls Tryz.prog 22 #[.float .f64 a, .float .f64 b] w fun e w' => e = .returned (.bool (sameB .f64 a b)) ∧ w = w' := by
  have fa := feq_self .f64 a
  have fb := feq_self .f64 b
  cases na : isN .f64 a
  · rw [na] at fa
    cases nb : isN .f64 b
    · rw [nb] at fb
      have n1 := Lib.hid (fN_one na)
      have n2 := Lib.hid (fN_one nb)
      have s0 := Lib.hid (fun h h' w w' => same_zero ha hb h h' w w')
      have s1 := Lib.hid (same_num ha hb na nb)
      clear na nb ha hb
      cases za : feq .f64 a 0
      · go_enter Tryz.func22, Tryz.ntmps22
        go_wp2
        go_ret
        exact ⟨ret_bool (s1.out (.inl za)), rfl⟩
      · cases zb : feq .f64 b 0
        · go_enter Tryz.func22, Tryz.ntmps22
          go_wp2
          go_ret
          exact ⟨ret_bool (s1.out (.inr zb)), rfl⟩
        · go_enter Tryz.func22, Tryz.ntmps22
          go_wp2
          go_ret
          exact ⟨ret_bool (s0.out za zb _ _), by show w = w.drewN (fN .quo .f64 one64 a + fN .quo .f64 one64 b); rw [n1.out, n2.out]; rfl⟩
    · rw [nb] at fb
      have s1 := Lib.hid (same_nan_r na nb)
      clear na nb ha hb
      go_enter Tryz.func22, Tryz.ntmps22
      go_wp2
      go_ret
      exact ⟨ret_bool s1.out.symm, rfl⟩
  · rw [na] at fa
    have s1 := Lib.hid (same_nan_l (b := b) na)
    clear na ha hb
    generalize isN .f64 b = nb at *
    go_enter Tryz.func22, Tryz.ntmps22
    go_wp2
    go_ret
    exact ⟨ret_bool (by rw [s1.out]), rfl⟩

/-- Of two words of single precision that are the same. -/
theorem wid_same {a b : Nat} (h : nrm .f32 a = nrm .f32 b) (w w' : World) : nrm .f64 (cR .f32 a .f64 w) = nrm .f64 (cR .f32 b .f64 w') := by
  rw [nrm_wid, nrm_wid]; exact cv_congr (by decide) h

/-! ### The program's own -/
theorem run_f64bits (b : Nat) (w : World) : (callFunc 101 #[.float .f64 b]).run Tryz.prog w = .ok (.value (.int .u64 b)) w := by
  rw [run_callFunc_extern Tryz.func101 (by kernel_rfl) (by kernel_rfl) (by kernel_rfl) (e := Extern.MathFloatBits.float64bits) (by kernel_rfl)]; rfl

def signB (b : Nat) : Bool := decide (9223372036854775808 ≤ b)

theorem sign_wrap {b : Nat} (hb : wfk .f64 b) : decide (wrap64 (b : Int) < 0) = signB b := by
  rw [wfk_64] at hb
  unfold wrap64 signB
  rw [decide_eq_decide]
  omega

set_option maxHeartbeats 400000 in
theorem signbit_any (b : Nat) (w : World) (hb : wfk .f64 b) :
    Calls Tryz.prog 77 #[.float .f64 b] w fun e w' => e = .returned (.bool (signB b)) ∧ w = w' := by
  have hf := fun w => run_f64bits b w
  go_enter Tryz.func77, Tryz.ntmps77
  go_wp2
  go_ret
  exact ⟨ret_bool (sign_wrap hb), rfl⟩

/-- Of two words of single precision: their widened words are the same where they are. -/
theorem same_wid {a b : Nat} (ha : wfk .f32 a) (hb : wfk .f32 b) : sameB .f64 (wid a) (wid b) = sameB .f32 a b := by
  cases na : isN .f32 a
  · cases nb : isN .f32 b
    · unfold sameB
      rw [nrm_of_num na, nrm_of_num nb, nrm_cv (by decide), nrm_cv (by decide), decide_eq_decide]
      constructor
      · intro h
        have h1 := narrow_wid ha na
        have h2 := narrow_wid hb nb
        rw [show wid a = wid b from h, h2] at h1
        exact (Option.some.inj h1).symm
      · rintro rfl; rfl
    · rw [same_nan_r na nb, same_nan_r (by rw [isN_wid]; exact na) (by rw [isN_wid]; exact nb)]
  · rw [same_nan_l na, same_nan_l (by rw [isN_wid]; exact na), isN_wid]

theorem same_of_wid {x y r1 r2 : Nat} (hx : wfk .f32 x) (hy : wfk .f32 y) (h1 : nrm .f64 r1 = wid x) (h2 : nrm .f64 r2 = wid y) : sameB .f64 r1 r2 = sameB .f32 x y := by
  rw [← same_wid hx hy]
  unfold sameB
  rw [h1, h2, nrm_cv (by decide), nrm_cv (by decide)]

theorem l8Same_wid {x y r1 r2 : Nat} (hx : wfk .f32 x) (hy : wfk .f32 y) (w1 : wfk .f64 r1) (w2 : wfk .f64 r2) (h1 : nrm .f64 r1 = wid x) (h2 : nrm .f64 r2 = wid y) (w : World) :
    Calls Tryz.prog 22 #[.float .f64 r1, .float .f64 r2] w fun e w' => e = .returned (.bool (sameB .f32 x y)) ∧ w = w' :=
  (l8Same_any r1 r2 w w1 w2).mono fun e w' ⟨he, hw⟩ => ⟨he.trans (by rw [same_of_wid hx hy h1 h2]), hw⟩

end Go.Proofs.YtndnfhhdflmfcaaGreat

/-
Slices of single precision: laws.toFloat32S, laws.eqFloat32S.
-/
namespace Go.Proofs.YtndnfhhdflmfcaaGreat
open Go Go.RowKit Ieee

theorem run_store_float (P : Program) (w : World) (a : Addr) (m : Mode) (k : FloatKind) (b : Nat) : (store a (.float k b) m).run P w = stored P w a (.float k b) m := run_store P w a _ m rfl
attribute [go_sem] run_store_float

theorem f32_info : (Tryz.prog.info? 23).map (fun i => (i.zero, i.size, i.bytes)) = some (some (.float .f32 0), 1, 4) := by kernel_rfl

/-- A block of the call's own, filled up to 'k'. -/
def Filled (w wr : World) (T n k : Nat) (vs : List Value) : Prop :=
  ∃ cs : Array Value, wr = w.alloc (.cells cs T) ∧ cs.size = n ∧ ∀ j, j < k → cs[j]? = vs[j]?

theorem Filled.start (w : World) (T n : Nat) (z : Value) (vs : List Value) : Filled w (w.alloc (.cells (madeCells #[z] n) T)) T n 0 vs :=
  ⟨_, rfl, size_madeCells _ _, fun _ h => absurd h (Nat.not_lt_zero _)⟩
theorem Filled.set_ {w wr : World} {T n k : Nat} {vs : List Value} {v : Value} (h : Filled w wr T n k vs) (hk : k < n) (hv : vs[k]? = some v) : Filled w (wr.setCell ⟨w.heap.size, k, none⟩ v) T n (k + 1) vs := by
  obtain ⟨cs, rfl, hs, hc⟩ := h
  refine ⟨cs.setIfInBounds k v, ?_, by simpa using hs, fun j hj => ?_⟩
  · exact World.setCell_alloc_at _ _ _ _ _ rfl
  · rw [Array.getElem?_setIfInBounds]
    split
    · rename_i e; subst e; rw [if_pos (by omega), hv]
    · exact hc j (by omega)
theorem Filled.cell {w wr : World} {T n k : Nat} {vs : List Value} (h : Filled w wr T n k vs) {j : Nat} (hj : j < n) : (∃ u, wr.cell? ⟨w.heap.size, j, none⟩ = some u) ∧ wr.frozen? ⟨w.heap.size, j, none⟩ = false := by
  obtain ⟨cs, rfl, hs, hc⟩ := h
  have hb : (w.alloc (.cells cs T)).heap[w.heap.size]? = some (.cells cs T (0, 0)) := heap_alloc_new w _
  constructor
  · exact ⟨cs[j], (cell_of_row _ _ j cs T (0, 0) hb).trans (Array.getElem?_eq_getElem (by omega))⟩
  · unfold World.frozen?
    simp only [hb]
    simp
/-- The world with one new block, of these cells. -/
def MadeRow (w w' : World) (T : Nat) (vs : List Value) : Prop := ∃ cs : Array Value, w' = w.alloc (.cells cs T) ∧ cs.toList = vs
theorem MadeRow.rd {w w' : World} {T : Nat} {vs : List Value} (h : MadeRow w w' T vs) : Rd w' (some ⟨w.heap.size, 0, none⟩) vs := fun _ => by
  obtain ⟨cs, rfl, rfl⟩ := h
  have hb : (w.alloc (.cells cs T)).heap[w.heap.size]? = some (.cells cs T (0, 0)) := heap_alloc_new w _
  refine ⟨w.heap.size, 0, rfl, by simp, fun k u hu => ?_⟩
  rw [Nat.zero_add, cell_of_row _ _ k cs T (0, 0) hb]
  simpa using hu
theorem MadeRow.below {w w' : World} {T : Nat} {vs : List Value} (h : MadeRow w w' T vs) : Below w.heap.size w w' := by
  obtain ⟨cs, rfl, _⟩ := h
  exact (Below.refl _ _).alloc (Nat.le_refl _) _
theorem MadeRow.size {w w' : World} {T : Nat} {vs : List Value} (h : MadeRow w w' T vs) : w'.heap.size = w.heap.size + 1 := by
  obtain ⟨cs, rfl, _⟩ := h
  simp
theorem Filled.done {w wr : World} {T n : Nat} {vs : List Value} (h : Filled w wr T n n vs) (hl : vs.length = n) : MadeRow w wr T vs := by
  obtain ⟨cs, rfl, hs, hc⟩ := h
  refine ⟨cs, rfl, ?_⟩
  apply List.ext_getElem?
  intro j
  by_cases hj : j < n
  · rw [← hc j hj]; simp
  · rw [List.getElem?_eq_none (by simp; omega), List.getElem?_eq_none (by omega)]
theorem Filled.below {w wr : World} {T n k : Nat} {vs : List Value} (h : Filled w wr T n k vs) : Below w.heap.size w wr := by
  obtain ⟨cs, rfl, _, _⟩ := h
  exact (Below.refl _ _).alloc (Nat.le_refl _) _

theorem f32s_at {l : List Nat} {k : Nat} (h : k < l.length) : (f32s l)[k]? = some (.float .f32 (l.getD k 0)) := by
  simp [f32s, List.getD, List.getElem?_eq_getElem h]

end Go.Proofs.YtndnfhhdflmfcaaGreat

/-
What spec.FirstDifference returns.
-/
namespace Go.Proofs.YtndnfhhdflmfcaaGreat
open Go Go.RowKit Ieee

/-- Both have an element there, the same one. -/
def AlikeAt (xs ys : List Nat) (k : Nat) : Prop := k < xs.length ∧ k < ys.length ∧ sameB .f32 (xs.getD k 0) (ys.getD k 0) = true
/-- The first difference. -/
def FirstDiff (xs ys : List Nat) (r : Int) : Prop :=
  (∃ k : Nat, r = k ∧ (k < xs.length ∨ k < ys.length) ∧ ¬ AlikeAt xs ys k ∧ ∀ j, j < k → AlikeAt xs ys j) ∨ (r = -1 ∧ ∀ j, j < xs.length ∨ j < ys.length → AlikeAt xs ys j)
theorem FirstDiff.unique {xs ys : List Nat} {r s : Int} (h : FirstDiff xs ys r) (h' : FirstDiff xs ys s) : r = s := by
  rcases h with ⟨k, rfl, hk, hn, hj⟩ | ⟨rfl, hj⟩ <;> rcases h' with ⟨k', rfl, hk', hn', hj'⟩ | ⟨rfl, hj'⟩
  · rcases Nat.lt_trichotomy k k' with h | h | h
    · exact absurd (hj' k h) hn
    · rw [h]
    · exact absurd (hj k' h) hn'
  · exact absurd (hj' k hk) hn
  · exact absurd (hj k' hk') hn'
  · rfl
def FdPost (xs ys : List Nat) (w : World) (e : Ending) (w' : World) : Prop := ∃ (r : Int) (n : Nat), e = .returned (.int .i64 r) ∧ FirstDiff xs ys r ∧ w.drewN n = w'

set_option maxHeartbeats 1000000 in
theorem spec_firstDiff (A B : Option Addr) (c d : Nat) (xs ys : List Nat) (w : World) (hr : Rd w A (f32s xs)) (hs : Rd w B (f32s ys)) (hm : xs.length ≤ 1048576) (hl : ys.length ≤ 1048576)
    (wx : ∀ i, i < xs.length → wfk .f32 (xs.getD i 0)) (wy : ∀ i, i < ys.length → wfk .f32 (ys.getD i 0)) :
    Calls Tryz.prog 24 #[.slice A xs.length c, .slice B ys.length d] w (FdPost xs ys w) := by
  go_enter Tryz.func24, Tryz.ntmps24
  go_wp2
  go_loopw [5] (fun i wr => ∃ k n : Nat, (∀ j, j < k → AlikeAt xs ys j) ∧ (k ≤ xs.length ∧ k ≤ ys.length) ∧ i = .int .i64 k ∧ wr = w.drewN n) (fun i _ => xs.length - (intOf i).toNat)
  case atStart => exact ⟨0, 0, fun _ h => absurd h (Nat.not_lt_zero _), by omega, rfl, rfl⟩
  case round =>
    obtain ⟨k, n, hj, hk, rfl, rfl⟩ := hrel
    have Hj := Lib.hid hj
    clear hj
    by_cases h1 : k < xs.length
    · have g0 : decide (k < xs.length) = true := by simp; omega
      have g1 : decide (xs.length ≤ k) = false := by simp; omega
      by_cases h2 : k < ys.length
      · obtain ⟨b, off, rfl, hb, hc⟩ := hr (by simp; omega)
        obtain ⟨b', off', rfl, hb', hc'⟩ := hs (by simp; omega)
        have e1 := hc k _ (f32s_at h1)
        have e2 := hc' k _ (f32s_at h2)
        clear hc hc'
        have v1 := fun w => isF_wid (wx k h1) w
        have v2 := fun w => isF_wid (wy k h2) w
        have W1 := wx k h1
        have W2 := wy k h2
        have Hd : Hid (AlikeAt xs ys k ↔ sameB .f32 (xs.getD k 0) (ys.getD k 0) = true) := ⟨fun h => h.2.2, fun h => ⟨h1, h2, h⟩⟩
        clear wx wy
        generalize xs.getD k 0 = x at *
        generalize ys.getD k 0 = y at *
        have g2 : decide (ys.length ≤ k) = false := by simp; omega
        have Hl := Lib.hid (fun r1 r2 (w1 : wfk .f64 r1) (w2 : wfk .f64 r2) h1 h2 => l8Same_wid (x := x) (y := y) W1 W2 w1 w2 h1 h2)
        clear W1 W2
        cases hsb : sameB .f32 x y <;> rw [hsb] at Hd Hl <;> clear hsb
        all_goals
          go_wp2
          refine wp_region_rx (by kernel_rfl) (by kernel_rfl) ?_; apply Exists.intro
          repeat (first | (apply wpR_val; intro K hK; go_simp; refine ⟨rfl, hK _ ?_⟩; clear hK K) | (apply wpR_skip; intro K hK; go_simp; refine hK _ ?_; clear hK K))
          apply wpR_any (R := isF .f64 (wid x)); intro K hK; go_simp; rintro _ ⟨r1, rfl, hr1, hw1⟩; refine hK _ ?_; clear hK K
          have Hr1 := Lib.hid hr1
          clear hr1
          repeat (first | (apply wpR_val; intro K hK; go_simp; refine ⟨rfl, hK _ ?_⟩; clear hK K) | (apply wpR_skip; intro K hK; go_simp; refine hK _ ?_; clear hK K))
          apply wpR_any (R := isF .f64 (wid y)); intro K hK; go_simp; rintro _ ⟨r2, rfl, hr2, hw2⟩; refine hK _ ?_; clear hK K
          have Hr2 := Lib.hid hr2
          clear hr2
          first
            | (apply wpR_val (v := .bool false); intro K hK; go_simp; refine ⟨fun m => rcall_same (Hl.out _ _ hw1 hw2 Hr1.out Hr2.out _), hK _ ?_⟩; clear hK K)
            | (apply wpR_val (v := .bool true); intro K hK; go_simp; refine ⟨fun m => rcall_same (Hl.out _ _ hw1 hw2 Hr1.out Hr2.out _), hK _ ?_⟩; clear hK K)
          repeat (first | (apply wpR_val; intro K hK; go_simp; refine ⟨rfl, hK _ ?_⟩; clear hK K) | (apply wpR_skip; intro K hK; go_simp; refine hK _ ?_; clear hK K))
          apply wpR_nil (Rs := []); rintro _ ⟨nq, rfl⟩
          go_wp2
        · go_ret
          exact ⟨k, _, rfl, .inl ⟨k, rfl, .inl h1, fun h => (by have h3 := Hd.out.1 h; simp at h3), Hj.out⟩, (World.drewN_drewN _ _ _).symm⟩
        · go_roundw
          case rel => exact ⟨k + 1, _, fun j hj => (by rcases Nat.lt_succ_iff_lt_or_eq.1 hj with h | rfl; exact Hj.out j h; exact Hd.out.2 (by simp)), by omega, by go_num, rfl⟩
          case measure => simp [intOf]; omega
      · have g2 : decide (ys.length ≤ k) = true := by simp; omega
        have Hd : Hid (¬ AlikeAt xs ys k) := fun h => h2 h.2.1
        go_wp2
        refine wp_region_rx (by kernel_rfl) (by kernel_rfl) ?_; apply Exists.intro
        repeat (first | (apply wpR_val; intro K hK; go_simp; refine ⟨rfl, hK _ ?_⟩; clear hK K) | (apply wpR_skip; intro K hK; go_simp; refine hK _ ?_; clear hK K))
        apply wpR_nil (Rs := []); rintro _ ⟨nq, rfl⟩
        go_wp2
        go_ret
        exact ⟨k, _, rfl, .inl ⟨k, rfl, .inl h1, Hd.out, Hj.out⟩, (World.drewN_drewN _ _ _).symm⟩
    · have g0 : decide (k < xs.length) = false := by simp; omega
      by_cases h2 : k < ys.length
      · have g1 : decide (xs.length ≤ k) = true := by simp; omega
        have g3 : decide (k < ys.length) = true := by simp; omega
        have Hd : Hid (¬ AlikeAt xs ys k) := fun h => h1 h.1
        go_wp2
        refine wp_region_rx (by kernel_rfl) (by kernel_rfl) ?_; apply Exists.intro
        repeat (first | (apply wpR_val; intro K hK; go_simp; refine ⟨rfl, hK _ ?_⟩; clear hK K) | (apply wpR_skip; intro K hK; go_simp; refine hK _ ?_; clear hK K))
        apply wpR_nil (Rs := []); rintro _ ⟨nq, rfl⟩
        go_wp2
        go_ret
        exact ⟨k, _, rfl, .inl ⟨k, rfl, .inr h2, Hd.out, Hj.out⟩, (World.drewN_drewN _ _ _).symm⟩
      · have g3 : decide (k < ys.length) = false := by simp; omega
        go_wp2
        go_ret
        exact ⟨-1, _, rfl, .inr ⟨rfl, fun j hj => Hj.out j (by omega)⟩, rfl⟩
end Go.Proofs.YtndnfhhdflmfcaaGreat

/-
spec.MakeSmall: samples that are finite and small.
-/
namespace Go.Proofs.YtndnfhhdflmfcaaGreat
open Go Go.RowKit Ieee

/-- A sample drawn: 'j' thousandths of 'm'. -/
def sm (m : Nat) (j : Int) : Nat := fo .quo .f32 (fo .mul .f32 m (floatOfInt .f32 j)) 1148846080
def SmallAt (m b : Nat) : Prop := ∃ j : Int, -1000 ≤ j ∧ j ≤ 1000 ∧ nrm .f32 b = sm m j ∧ wfk .f32 b

theorem smallAt_new {m : Nat} {i : Int} (h1 : -1000 ≤ i) (h2 : i ≤ 1000) (w w' : World) : SmallAt m (fR .quo .f32 (fR .mul .f32 m (floatOfInt .f32 i) w) 1148846080 w') :=
  ⟨i, h1, h2, by rw [nrm_fR]; exact fo_congr (by rw [nrm_fR, nrm_fo]) rfl, fR_lt _ _ _ _ _⟩
theorem small_snoc {m : Nat} {xs : List Nat} {x : Nat} (h : ∀ y ∈ xs, SmallAt m y) (hx : SmallAt m x) : ∀ y ∈ xs ++ [x], SmallAt m y := by
  intro y hy
  rcases List.mem_append.1 hy with h1 | h1
  · exact h y h1
  · simp at h1; subst h1; exact hx

theorem own_rd {w : World} {base n : Nat} {e : TypeId} {v : Value} {xs : List Value} (h : w.ownsRow base e 1 v n xs) : ∃ A cap, v = .slice A n cap ∧ xs.length = n ∧ Rd w A xs := by
  obtain ⟨hl, ⟨rfl, rfl⟩ | ⟨g, cap, cur, rfl, hb, hg, hn, hc, hs, ht⟩⟩ := h
  · exact ⟨none, 0, rfl, by simpa using hl, fun h => by simp at hl; simp [hl] at h⟩
  · refine ⟨some ⟨g, 0, none⟩, cap, rfl, by simpa using hl, fun h => ⟨g, 0, rfl, ?_, fun k u hu => ?_⟩⟩
    · rcases Nat.lt_or_ge g w.heap.size with h1 | h1
      · exact h1
      · rw [Array.getElem?_eq_none h1] at hg; cases hg
    · rw [Nat.zero_add, cell_of_row w g k _ _ (0, 0) hg]
      rw [← ht] at hu
      have : cur.toList[k]? = some u := by
        rw [List.getElem?_take] at hu
        split at hu
        · exact hu
        · cases hu
      simpa using this

theorem below_of_step {B : Nat} {w w' : World} {g : Nat} (h : CurStep w w' g) (hg : B ≤ g) (hB : B ≤ w.heap.size) : Below B w w' :=
  ⟨h.2.os, h.2.tape, h.2.output, h.2.size, fun k hk => h.2.block k (by omega) (fun e => by cases e; omega)⟩
theorem Cur.alloc {w : World} {g : Nat} (h : Cur w g) (o : Obj) : Cur (w.alloc o) g := by
  have hlt := h.lt
  obtain ⟨A, n, c, bs, i, h, hb, hl, hm, hr, h1, h2⟩ := h
  exact ⟨A, n, c, bs, i, h, (Below.heap_alloc w o g hlt).trans hb, hl, hm, hr.keep (fun j hj => Below.heap_alloc w o j (by omega)), h1, h2⟩
theorem Cur.drewN {w : World} {g : Nat} (h : Cur w g) (n : Nat) : Cur (w.drewN n) g := h
theorem Cur.grown {w w' : World} {g : Nat} {row : Option Nat} (h : Cur w g) (hg : w.grownBy w' row) (hr : ∀ k, row = some k → g < k) : Cur w' g := by
  have hlt := h.lt
  obtain ⟨A, n, c, bs, i, h, hb, hl, hm, hrd, h1, h2⟩ := h
  have ne : ∀ j, j ≤ g → some j ≠ row := fun j hj e => by have := hr j e.symm; omega
  exact ⟨A, n, c, bs, i, h, (hg.block g hlt (ne g (Nat.le_refl _))).trans hb, hl, hm, hrd.keep (fun j hj => hg.block j (by omega) (ne j (by omega))), h1, h2⟩
theorem owns_empty (w : World) (e : TypeId) : (w.alloc (.cells #[] e)).ownsRow w.heap.size e 1 (.slice (some ⟨w.heap.size, 0, none⟩) 0 0) 0 [] :=
  ⟨rfl, .inr ⟨w.heap.size, 0, #[], rfl, Nat.le_refl _, heap_alloc_new w _, Nat.le_refl _, by simp, rfl, rfl⟩⟩
/-- The state of a loop that draws and gathers: the cursor in block 'g', the row gathered in a block from 'B' on. -/
structure Gath (w0 wr : World) (g B : Nat) (T : TypeId) (v : Value) (vs : List Value) : Prop where
  cur : Cur wr g
  own : wr.ownsRow B T 1 v vs.length vs
  below : Below w0.heap.size w0 wr
  size : B ≤ wr.heap.size
  gB : g < B
  wg : w0.heap.size ≤ g
theorem Gath.step {w0 w w' : World} {g B : Nat} {T : TypeId} {v : Value} {vs : List Value} (h : Gath w0 w g B T v vs) (s : CurStep w w' g) : Gath w0 w' g B T v vs :=
  ⟨s.1, h.own.kept s.2 (by
      cases hv : v.ownBlock with
      | none => exact .inl rfl
      | some j => right; intro e; injection e with e; have := (h.own.lt j hv).1; have := h.gB; omega),
    h.below.trans (below_of_step s h.wg h.below.size), Nat.le_trans h.size s.2.size, h.gB, h.wg⟩
theorem Gath.drewN {w0 w : World} {g B : Nat} {T : TypeId} {v : Value} {vs : List Value} (h : Gath w0 w g B T v vs) (n : Nat) : Gath w0 (w.drewN n) g B T v vs :=
  ⟨h.cur, h.own, below_drewN h.below n, h.size, h.gB, h.wg⟩
theorem Cur.below {w w' : World} {g B : Nat} (h : Cur w g) (hb : Below B w w') (hg : g < B) : Cur w' g := by
  obtain ⟨A, n, c, bs, i, h, hbl, hl, hm, hrd, h1, h2⟩ := h
  exact ⟨A, n, c, bs, i, h, (hb.block g hg).trans hbl, hl, hm, hrd.keep (fun j hj => hb.block j (by omega)), h1, h2⟩
theorem Gath.app {w0 w w' : World} {g B : Nat} {T : TypeId} {v v' : Value} {vs : List Value} {x : Value} (h : Gath w0 w g B T v vs) (hown : w'.ownsRow B T 1 v' (vs.length + 1) (vs ++ [x]))
    (hb : Below B w w') : Gath w0 w' g B T v' (vs ++ [x]) :=
  ⟨h.cur.below hb h.gB, by simpa using hown, h.below.trans (hb.mono (by have := h.gB; have := h.wg; omega)), Nat.le_trans h.size hb.size, h.gB, h.wg⟩

/-- 'out = append(out, u)': one element onto a row of the call's own. -/
theorem wpList_app1 {P : Program} {w0 : World} {ops : Array Oper} {rest : List Oper} {o : Oper} {a : Act} {Q : Exit → Act → World → Prop} (hgd : o.guard = none) (s x : Operand) (t : TypeId)
    (ho : o.op = .call { callee := .builtin .append, args := #[s, x], argTypes := #[t, t] })
    (B : Nat) (e : TypeId) (z : Value) (bytes : Nat) (ht : P.underlying t = some (.slice e)) (hinfo : (P.info? e).map (fun i => (i.zero, i.size, i.bytes)) = some (some z, 1, bytes)) (hzs : z.cells.size = 1)
    (v : Value) (n : Nat) (xs : List Value) (u : Value) (hs : a.eval s = v) (hx : a.eval x = .slice (some ⟨w0.heap.size, 0, none⟩) 1 1) (hu : u.oneCell' = true) (hown : w0.ownsRow B e 1 v n xs) (hB : B ≤ w0.heap.size)
    (h63 : n + 1 ≤ 1048576) (hby : bytes ≤ 1024)
    (h : ∀ v' w', w'.ownsRow B e 1 v' (n + 1) (xs ++ [u]) → Below B w0 w' → wpList P ops Q rest (a.put o.dst v') w') : wpList P ops Q (o :: rest) a (w0.alloc (.cells #[u] e)) := by
  obtain ⟨i, hi, hzz⟩ := Option.map_eq_some_iff.1 hinfo
  simp only [Prod.mk.injEq] at hzz
  obtain ⟨hz, hsz, hb⟩ := hzz
  refine wpList_append_own _ hgd s x t ho B e i z 1 bytes ht hi hz hsz hb hzs (by decide) v n xs hs (hown.alloc _) ⟨w0.heap.size, 0, none⟩ 1 1 [u] hx rfl ?_ ?_ ?_ ?_ ?_ ?_
  · intro j y hy
    have hb' : (w0.alloc (.cells #[u] e)).heap[w0.heap.size]? = some (.cells #[u] e (0, 0)) := heap_alloc_new w0 _
    match j, hy with
    | 0, hy =>
      simp at hy; subst hy
      exact (cell_of_row _ _ 0 _ _ (0, 0) hb').trans (by simp)
  · intro y hy; simp at hy; subst hy; exact hu
  · simp only [maxLen]; omega
  · have := Nat.mul_le_mul h63 hby; omega
  · simp; omega
  · intro v' w' h2 h3 _
    refine h v' w' h2 ?_
    have h4 : Below B w0 (w0.alloc (.cells #[u] e)) := (Below.refl _ _).alloc hB _
    exact h4.grown h3 (Nat.le_trans hB h4.size) (fun k hk => (hown.lt k hk).1)

end Go.Proofs.YtndnfhhdflmfcaaGreat

/-
Rounding: what an operation of binary floating point gives, as rational numbers: errors, thresholds, order. (Plain arithmetic: no program stands here.)
-/
namespace Go.Proofs.YtndnfhhdflmfcaaGreat
open Go Ieee

/-! ### Powers of two -/
def pw (e : Int) : Rat := (2 : Rat) ^ e
theorem pw_pos (e : Int) : 0 < pw e := Rat.zpow_pos (by decide)
theorem pw_add (a b : Int) : pw (a + b) = pw a * pw b := Rat.zpow_add (by decide) a b
theorem pw_zero : pw 0 = 1 := Rat.zpow_zero 2
theorem pw_nat (n : Nat) : pw (n : Int) = ((2 ^ n : Nat) : Rat) := by
  unfold pw
  rw [Rat.zpow_natCast, Rat.natCast_pow]; rfl
theorem pw_sub (a b : Int) : pw (a - b) * pw b = pw a := by rw [← pw_add]; congr 1; omega
theorem pw_nat_ge (n : Nat) : 1 ≤ pw (n : Int) := by
  rw [pw_nat]
  have : (1 : Nat) ≤ 2 ^ n := Nat.two_pow_pos n
  exact_mod_cast this
theorem pw_mono {a b : Int} (h : a ≤ b) : pw a ≤ pw b := by
  obtain ⟨n, rfl⟩ : ∃ n : Nat, b = a + n := ⟨(b - a).toNat, by omega⟩
  rw [pw_add]
  have h1 := pw_nat_ge n
  have h2 := pw_pos a
  have := Rat.mul_le_mul_of_nonneg_left h1 (Rat.le_of_lt h2)
  grind
theorem pw_succ (a : Int) : pw (a + 1) = 2 * pw a := by
  rw [pw_add]
  have : pw 1 = 2 := Rat.zpow_one 2
  grind

/-- A magnitude's value. -/
def mval (m : Nat) (e : Int) : Rat := (m : Rat) * pw e
theorem mval_nonneg (m : Nat) (e : Int) : 0 ≤ mval m e := Rat.mul_nonneg Rat.natCast_nonneg (Rat.le_of_lt (pw_pos e))
theorem mval_scale (m k : Nat) (e : Int) : mval (m * 2 ^ k) (e - k) = mval m e := by
  unfold mval
  rw [Rat.natCast_mul, ← pw_nat, Rat.mul_assoc, ← pw_add]
  congr 2; omega
theorem mval_scale' (m k : Nat) (e : Int) : mval (m * 2 ^ k) e = mval m (e + k) := by
  have := mval_scale m k (e + k)
  rwa [show e + (k : Int) - k = e by omega] at this
theorem mval_le {a b : Nat} {e : Int} (h : a ≤ b) : mval a e ≤ mval b e :=
  Rat.mul_le_mul_of_nonneg_right (Rat.natCast_le_natCast.2 h) (Rat.le_of_lt (pw_pos e))
theorem mval_lt {a b : Nat} {e : Int} (h : a < b) : mval a e < mval b e :=
  Rat.mul_lt_mul_of_pos_right (Rat.natCast_lt_natCast.2 h) (pw_pos e)
theorem le_of_mval {a b : Nat} {e : Int} (h : mval a e ≤ mval b e) : a ≤ b := by
  rcases Nat.lt_or_ge b a with h1 | h1
  · exact absurd (mval_lt (e := e) h1) (Rat.not_lt.2 h)
  · exact h1
theorem mval_zero (e : Int) : mval 0 e = 0 := by unfold mval; simp
theorem mval_eq_zero {m : Nat} {e : Int} (h : mval m e = 0) : m = 0 := by
  rcases Nat.eq_zero_or_pos m with h1 | h1
  · exact h1
  · have := mval_lt (e := e) h1
    rw [mval_zero, h] at this
    exact absurd this (by grind)

/-- The value of a datum; of what is no number, 0. -/
def dval : Datum → Rat
  | .number s m e => if s = true then -mval m e else mval m e
  | _ => 0

/-! ### One cut -/
theorem cut_spec (neg : Bool) (n d : Nat) :
    2 * (Toward.even.cut neg n d * 2 ^ d) ≤ 2 * n + 2 ^ d ∧ 2 * n ≤ 2 * (Toward.even.cut neg n d * 2 ^ d) + 2 ^ d ∧
    (∀ j, j * 2 ^ d ≤ n → j ≤ Toward.even.cut neg n d) ∧ (∀ j, n ≤ j * 2 ^ d → Toward.even.cut neg n d ≤ j) := by
  have hself := Nat.lt_log2_self (n := n)
  by_cases hd : d ≤ n.log2 + 2
  · have hm : min d (n.log2 + 2) = d := by omega
    have hp := Nat.two_pow_pos d
    have hda := Nat.div_add_mod n (2 ^ d)
    have hr := Nat.mod_lt n hp
    have hc : ∃ m : Nat, Toward.even.cut neg n d = n / 2 ^ d + m ∧ m ≤ 1 ∧ (m = 0 → 2 * (n % 2 ^ d) ≤ 2 ^ d) ∧ (m = 1 → 2 ^ d ≤ 2 * (n % 2 ^ d)) := by
      refine ⟨(decide (2 ^ d < 2 * (n % 2 ^ d)) || (2 ^ d == 2 * (n % 2 ^ d) && n / 2 ^ d % 2 == 1)).toNat, ?_, ?_, ?_, ?_⟩
      · simp only [Toward.cut, hm, Nat.shiftLeft_eq, Nat.one_mul]
      · cases (decide (2 ^ d < 2 * (n % 2 ^ d)) || (2 ^ d == 2 * (n % 2 ^ d) && n / 2 ^ d % 2 == 1)) <;> simp
      · intro h
        have : (decide (2 ^ d < 2 * (n % 2 ^ d)) || (2 ^ d == 2 * (n % 2 ^ d) && n / 2 ^ d % 2 == 1)) = false := by
          cases hb : (decide (2 ^ d < 2 * (n % 2 ^ d)) || (2 ^ d == 2 * (n % 2 ^ d) && n / 2 ^ d % 2 == 1))
          · rfl
          · rw [hb] at h; cases h
        simp at this; omega
      · intro h
        have : (decide (2 ^ d < 2 * (n % 2 ^ d)) || (2 ^ d == 2 * (n % 2 ^ d) && n / 2 ^ d % 2 == 1)) = true := by
          cases hb : (decide (2 ^ d < 2 * (n % 2 ^ d)) || (2 ^ d == 2 * (n % 2 ^ d) && n / 2 ^ d % 2 == 1))
          · rw [hb] at h; cases h
          · rfl
        simp at this; omega
    obtain ⟨m, hc, hm1, hm2, hm3⟩ := hc
    rw [hc]
    generalize 2 ^ d = g at *
    generalize n % g = r at *
    generalize n / g = q at *
    have e1 : (q + m) * g = g * q + m * g := by rw [Nat.add_mul, Nat.mul_comm]
    refine ⟨?_, ?_, ?_, ?_⟩
    · rw [e1]
      rcases (by omega : m = 0 ∨ m = 1) with rfl | rfl
      · omega
      · have := hm3 rfl; omega
    · rw [e1]
      rcases (by omega : m = 0 ∨ m = 1) with rfl | rfl
      · have := hm2 rfl; omega
      · omega
    · intro j hj
      rcases Nat.lt_or_ge q j with h | h
      · exfalso
        have : (q + 1) * g ≤ j * g := Nat.mul_le_mul_right g h
        rw [Nat.add_mul, Nat.one_mul, Nat.mul_comm] at this
        omega
      · omega
    · intro j hj
      rcases Nat.lt_or_ge j (q + m) with h | h
      · exfalso
        rcases (by omega : m = 0 ∨ m = 1) with rfl | rfl
        · have : (j + 1) * g ≤ q * g := Nat.mul_le_mul_right g h
          rw [Nat.add_mul, Nat.one_mul, Nat.mul_comm q] at this
          omega
        · have : j * g ≤ q * g := Nat.mul_le_mul_right g (by omega)
          rw [Nat.mul_comm q] at this
          have := hm3 rfl
          omega
      · exact h
  · have hm : min d (n.log2 + 2) = n.log2 + 2 := by omega
    have hlt : 2 * n < 2 ^ (n.log2 + 2) := by rw [show n.log2 + 2 = (n.log2 + 1) + 1 from rfl, Nat.pow_succ]; omega
    have hle : 2 ^ (n.log2 + 2) ≤ 2 ^ d := Nat.pow_le_pow_right (by omega) (by omega)
    have hc : Toward.even.cut neg n d = 0 := by
      simp only [Toward.cut, hm, Nat.shiftLeft_eq, Nat.one_mul]
      rw [Nat.div_eq_of_lt (by omega), Nat.mod_eq_of_lt (by omega)]
      have h1 : decide (2 ^ (n.log2 + 2) < 2 * n) = false := by simp; omega
      have h2 : (2 ^ (n.log2 + 2) == 2 * n) = false := by simp; omega
      rw [h1, h2]; rfl
    rw [hc]
    refine ⟨by omega, by omega, fun j hj => ?_, fun j _ => Nat.zero_le _⟩
    rcases Nat.eq_zero_or_pos j with h | h
    · omega
    · have : 1 * 2 ^ d ≤ j * 2 ^ d := Nat.mul_le_mul_right _ h
      omega

section
variable (f : Format)

/-- What stands at a rung. -/
theorem read_rung (neg : Bool) (j c : Nat) (hc : c ≤ 2 * f.binade) (hj : j = 0 ∨ f.binade ≤ c) (hR : j * f.binade + c < f.infRung) :
    ∃ m e, f.read (f.word neg (j * f.binade + c)) = .number neg m e ∧ mval m e = mval c (f.leastPlace + j) := by
  have hb : 0 < f.binade := Nat.two_pow_pos _
  rw [read_word f neg _ hR]
  by_cases hlt : j * f.binade + c < f.binade
  · have hj0 : j = 0 := by
      rcases Nat.eq_zero_or_pos j with h | h
      · exact h
      · have := Nat.le_mul_of_pos_left f.binade h; omega
    subst hj0
    rw [if_pos hlt]
    exact ⟨_, _, rfl, by simp⟩
  · rw [if_neg hlt]
    refine ⟨_, _, rfl, ?_⟩
    have hcb : f.binade ≤ c := by
      rcases hj with rfl | h
      · omega
      · exact h
    rcases Nat.lt_or_ge c (2 * f.binade) with h | h
    · have hdiv : (j * f.binade + c) / f.binade = j + 1 := by
        rw [Nat.add_comm, Nat.add_mul_div_right _ _ hb, show c / f.binade = 1 from by rw [Nat.div_eq_iff hb]; omega]; omega
      have hmod : (j * f.binade + c) % f.binade = c - f.binade := by
        rw [Nat.add_comm, Nat.add_mul_mod_self_right, Nat.mod_eq_sub_mod hcb, Nat.mod_eq_of_lt (by omega)]
      rw [hdiv, hmod]
      congr 1
      omega
    · have hc2 : c = 2 * f.binade := by omega
      subst hc2
      have e : j * f.binade + 2 * f.binade = (j + 2) * f.binade := by rw [Nat.add_mul]
      rw [e, Nat.mul_div_cancel _ hb, Nat.mul_mod_left]
      have := mval_scale' f.binade 1 (f.leastPlace + j)
      rw [Nat.pow_one, Nat.mul_comm] at this
      rw [this]
      congr 1
      omega

/-- The half of the last place's unit. -/
def half (mag : Nat) (place : Int) : Rat := pw (lastOf f mag place) / 2

/-- 'q': a power of two that the format can bear, and more. -/
def Bears (q : Int) : Prop := (q - f.fractionBits - f.leastPlace).toNat + 2 < 2 ^ f.exponentBits - 1

theorem log2_le_of_mval {mag : Nat} {place q : Int} (h0 : mag ≠ 0) (h : mval mag place ≤ pw q) : place + mag.log2 ≤ q := by
  rcases Int.lt_or_le q (place + mag.log2) with hlt | hle
  · exfalso
    have h1 : mval (2 ^ mag.log2) place ≤ mval mag place := mval_le (Nat.log2_self_le h0)
    have h2 : mval (2 ^ mag.log2) place = pw (place + mag.log2) := by
      unfold mval; rw [← pw_nat, ← pw_add]; congr 1; omega
    have h3 : pw (q + 1) ≤ pw (place + mag.log2) := pw_mono (by omega)
    rw [pw_succ] at h3
    have := pw_pos q
    grind
  · exact hle

/-- **ROUNDING.** A number that the format can bear is written as a number that is within half a unit of its last place; and on the same side of every number of the format. -/
theorem nearest_spec (neg : Bool) (mag : Nat) (place q : Int) (h0 : mag ≠ 0) (hq : Bears f q) (hv : mval mag place ≤ pw q) :
    ∃ m e, f.read (f.nearest neg mag place) = .number neg m e ∧
      mval m e ≤ mval mag place + half f mag place ∧ mval mag place ≤ mval m e + half f mag place ∧
      (∀ (b : Nat) s m' e', 1 ≤ f.exponentBits → f.read b = .number s m' e' → (mval m' e' ≤ mval mag place → mval m' e' ≤ mval m e) ∧ (mval mag place ≤ mval m' e' → mval m e ≤ mval m' e')) := by
  have hlog := log2_le_of_mval h0 hv
  have hsl := Nat.log2_self_le h0
  have hself := Nat.lt_log2_self (n := mag)
  rw [nearest_eq f neg mag place h0]
  have hLdef : lastOf f mag place = max (place + mag.log2 - f.fractionBits) f.leastPlace := rfl
  unfold half
  generalize lastOf f mag place = L at *
  obtain ⟨j, hj⟩ : ∃ j : Nat, L = f.leastPlace + j := ⟨(L - f.leastPlace).toNat, by omega⟩
  -- n, d: the number in units of 2^(L - d)
  obtain ⟨d, hd⟩ : ∃ d : Nat, (L - place).toNat = d := ⟨_, rfl⟩
  obtain ⟨up, hup⟩ : ∃ up : Nat, (place - L).toNat = up := ⟨_, rfl⟩
  rw [hd, hup, Nat.shiftLeft_eq, show (L - f.leastPlace).toNat = j by omega]
  have hn0 : mag * 2 ^ up ≠ 0 := Nat.mul_ne_zero h0 (by have := Nat.two_pow_pos up; omega)
  have hval : mval mag place = mval (mag * 2 ^ up) (L - d) := by
    rw [mval_scale']; congr 1; omega
  have hlogn : (mag * 2 ^ up).log2 = mag.log2 + up := log2_mul_pow mag up h0
  obtain ⟨c1, c2, c3, c4⟩ := cut_spec neg (mag * 2 ^ up) d
  have hnb : mag * 2 ^ up < 2 * f.binade * 2 ^ d := by
    have h1 := Nat.lt_log2_self (n := mag * 2 ^ up)
    rw [hlogn] at h1
    have h2 : 2 * f.binade * 2 ^ d = 2 ^ (f.fractionBits + 1 + d) := by
      unfold Format.binade; rw [Nat.pow_add, Nat.pow_succ, Nat.mul_comm 2]
    rw [h2]
    exact Nat.lt_of_lt_of_le h1 (Nat.pow_le_pow_right (by omega) (by omega))
  have hlo : f.leastPlace < L → f.binade * 2 ^ d ≤ mag * 2 ^ up := fun h => by
    have h1 := Nat.log2_self_le hn0
    rw [hlogn] at h1
    have h2 : f.binade * 2 ^ d = 2 ^ (f.fractionBits + d) := by unfold Format.binade; rw [Nat.pow_add]
    rw [h2]
    exact Nat.le_trans (Nat.pow_le_pow_right (by omega) (by omega)) h1
  generalize hn : mag * 2 ^ up = n at *
  have hcb : Toward.even.cut neg n d ≤ 2 * f.binade := c4 _ (by omega)
  have hcl : j = 0 ∨ f.binade ≤ Toward.even.cut neg n d := by
    rcases Nat.eq_zero_or_pos j with h | h
    · exact .inl h
    · exact .inr (c3 _ (hlo (by omega)))
  generalize hc : Toward.even.cut neg n d = c at *
  have hR : j * f.binade + c < f.infRung := by
    unfold Bears at hq
    have : j + 2 < 2 ^ f.exponentBits - 1 ∨ j = 0 := by
      rcases Nat.eq_zero_or_pos j with h | h
      · exact .inr h
      · left; omega
    have hjj : j + 2 < 2 ^ f.exponentBits - 1 := by
      rcases this with h | h
      · exact h
      · omega
    have h1 : (j + 3) * f.binade ≤ (2 ^ f.exponentBits - 1) * f.binade := Nat.mul_le_mul_right _ hjj
    have hbp : 0 < f.binade := Nat.two_pow_pos _
    unfold Format.infRung
    rw [Nat.add_mul] at h1
    omega
  rw [Nat.min_eq_left (Nat.le_of_lt hR)]
  obtain ⟨m, e, hr, hme⟩ := read_rung f neg j c hcb hcl hR
  have hW : mval m e = mval (c * 2 ^ d) (L - d) := by rw [hme, mval_scale', ← hj]; congr 1; omega
  have hpL : pw L = mval (2 ^ d) (L - d) := by
    unfold mval; rw [← pw_nat, ← pw_add]; congr 1; omega
  refine ⟨m, e, hr, ?_, ?_, ?_⟩
  · rw [hW, hval, hpL]
    have h1 := mval_le (e := L - d) c1
    unfold mval at *
    simp only [Rat.natCast_add, Rat.natCast_mul] at h1 ⊢
    grind
  · rw [hW, hval, hpL]
    have h1 := mval_le (e := L - d) c2
    unfold mval at *
    simp only [Rat.natCast_add, Rat.natCast_mul] at h1 ⊢
    grind
  · intro b s m' e' heb hb
    obtain ⟨b1, b2, b3, _⟩ := read_bounds f heb hb
    by_cases hL : L ≤ e'
    · obtain ⟨k, hk⟩ : ∃ k : Nat, e' = L + k := ⟨(e' - L).toNat, by omega⟩
      have hz : mval m' e' = mval (m' * 2 ^ k * 2 ^ d) (L - d) := by
        rw [mval_scale', mval_scale']; congr 1; omega
      constructor
      · intro h
        rw [hz, hval] at h
        have := c3 _ (le_of_mval h)
        rw [hz, hW]
        exact mval_le (Nat.mul_le_mul_right _ this)
      · intro h
        rw [hz, hval] at h
        have := c4 _ (le_of_mval h)
        rw [hz, hW]
        exact mval_le (Nat.mul_le_mul_right _ this)
    · have hlow := hlo (by omega)
      have hz : mval m' e' < mval (f.binade * 2 ^ d) (L - d) := by
        have h1 : mval m' e' < mval (2 * f.binade) e' := mval_lt b2
        have h2 : mval (2 * f.binade) e' ≤ mval f.binade L := by
          rw [Nat.mul_comm, ← Nat.pow_one 2, mval_scale']
          exact Rat.mul_le_mul_of_nonneg_left (pw_mono (by omega)) Rat.natCast_nonneg
        have h3 : mval (f.binade * 2 ^ d) (L - d) = mval f.binade L := by rw [mval_scale']; congr 1; omega
        grind
      have hcb' := c3 _ hlow
      have hv' : mval (f.binade * 2 ^ d) (L - d) ≤ mval mag place := by rw [hval]; exact mval_le hlow
      have hw' : mval (f.binade * 2 ^ d) (L - d) ≤ mval m e := by rw [hW]; exact mval_le (Nat.mul_le_mul_right _ hcb')
      constructor
      · intro _; grind
      · intro h; exfalso; grind

/-- Half a unit of the last place, in terms of the number. -/
theorem half_le (mag : Nat) (place : Int) (h0 : mag ≠ 0) : half f mag place ≤ mval mag place * pw (-f.fractionBits - 1) + pw (f.leastPlace - 1) := by
  unfold half
  have h1 : mval (2 ^ mag.log2) place ≤ mval mag place := mval_le (Nat.log2_self_le h0)
  have h2 : mval (2 ^ mag.log2) place = pw (place + mag.log2) := by
    unfold mval; rw [← pw_nat, ← pw_add]; congr 1; omega
  have p1 := pw_pos (f.leastPlace - 1)
  have p2 := pw_pos (-f.fractionBits - 1 : Int)
  have h3 := Rat.mul_le_mul_of_nonneg_right h1 (Rat.le_of_lt p2)
  have hL : lastOf f mag place = place + mag.log2 - f.fractionBits ∨ lastOf f mag place = f.leastPlace := by unfold lastOf; omega
  have h4 := mval_nonneg mag place
  have h5 := Rat.mul_nonneg h4 (Rat.le_of_lt p2)
  rcases hL with hL | hL
  · have : pw (lastOf f mag place) = 2 * (pw (place + mag.log2) * pw (-f.fractionBits - 1)) := by
      rw [hL, ← pw_add, ← pw_succ]; congr 1; omega
    rw [h2] at h3
    grind
  · have : pw (lastOf f mag place) = 2 * pw (f.leastPlace - 1) := by rw [hL, ← pw_succ]; congr 1; omega
    grind
end
end Go.Proofs.YtndnfhhdflmfcaaGreat

/-
Floats as rational numbers: the operations, the comparisons, the conversions. (Plain arithmetic: no program stands here.)
-/
namespace Go.Proofs.YtndnfhhdflmfcaaGreat
open Go Ieee

def ab (x : Rat) : Rat := max x (-x)
theorem ab_nonneg (x : Rat) : 0 ≤ ab x := by unfold ab; grind
theorem ab_le {x y : Rat} (h : x ≤ y) (h' : -x ≤ y) : ab x ≤ y := by unfold ab; grind
theorem le_ab (x : Rat) : x ≤ ab x ∧ -x ≤ ab x := by unfold ab; constructor <;> grind
theorem ab_of_nonneg {x : Rat} (h : 0 ≤ x) : ab x = x := by unfold ab; grind
theorem ab_neg (x : Rat) : ab (-x) = ab x := by unfold ab; grind
theorem ab_add (x y : Rat) : ab (x + y) ≤ ab x + ab y := by unfold ab; grind
theorem ab_mul (x y : Rat) : ab (x * y) = ab x * ab y := by
  have h : ∀ x y : Rat, 0 ≤ x → ab (x * y) = ab x * ab y := fun x y hx => by
    rw [ab_of_nonneg hx]
    rcases Rat.le_total (a := 0) (b := y) with hy | hy
    · rw [ab_of_nonneg hy, ab_of_nonneg (Rat.mul_nonneg hx hy)]
    · have hn : 0 ≤ x * -y := Rat.mul_nonneg hx (by grind)
      rw [← ab_neg y, ab_of_nonneg (x := -y) (by grind), ← ab_neg, ab_of_nonneg (x := -(x * y)) (by grind)]
      grind
  rcases Rat.le_total (a := 0) (b := x) with hx | hx
  · exact h x y hx
  · have := h (-x) y (by grind)
    rw [← ab_neg x, ← this, ← ab_neg (x * y)]
    congr 1
    grind

theorem dval_num (s : Bool) (m : Nat) (e : Int) : dval (.number s m e) = if s = true then -mval m e else mval m e := rfl

/-- A word that is a number; its value. -/
def fin (k : FloatKind) (b : Nat) : Prop := ∃ s m e, k.format.read b = .number s m e
def fv (k : FloatKind) (b : Nat) : Rat := dval (k.format.read b)
def uu (k : FloatKind) : Rat := match k with | .f32 => pw (-24) | .f64 => pw (-53)
def eta (k : FloatKind) : Rat := match k with | .f32 => pw (-150) | .f64 => pw (-1075)
def top (k : FloatKind) : Rat := match k with | .f32 => pw 120 | .f64 => pw 1000

theorem fin_num {k : FloatKind} {b : Nat} (h : fin k b) : isN k b = false := by
  obtain ⟨s, m, e, h⟩ := h
  unfold isN; rw [h]; rfl
theorem nrm_fin {k : FloatKind} {b : Nat} (h : fin k b) : nrm k b = b := nrm_of_num (fin_num h)

/-- 'r' is 'v' rounded. -/
def RoundOf (k : FloatKind) (v : Rat) (r : Nat) : Prop :=
  fin k r ∧ ab (fv k r - v) ≤ uu k * ab v + eta k ∧ ∀ b, fin k b → (fv k b ≤ v → fv k b ≤ fv k r) ∧ (v ≤ fv k b → fv k r ≤ fv k b)

/-- A number of the format is not turned by rounding. -/
theorem RoundOf.exact {k : FloatKind} {v : Rat} {r b : Nat} (h : RoundOf k v r) (hb : fin k b) (hv : fv k b = v) : fv k r = v := by
  obtain ⟨_, _, h3⟩ := h
  have h4 := h3 b hb
  have h5 := h4.1 (by rw [hv]; exact Rat.le_refl)
  have h6 := h4.2 (by rw [hv]; exact Rat.le_refl)
  rw [hv] at h5 h6
  exact Rat.le_antisymm h6 h5

theorem bears_top (k : FloatKind) : ∃ q : Int, top k = pw q ∧ Bears k.format q := by
  cases k
  · exact ⟨120, rfl, by unfold Bears; decide +kernel⟩
  · exact ⟨1000, rfl, by unfold Bears; decide +kernel⟩
theorem half_uu (k : FloatKind) {mag : Nat} {place : Int} (h0 : mag ≠ 0) : half k.format mag place ≤ uu k * mval mag place + eta k := by
  have h := half_le k.format mag place h0
  cases k
  · have e1 : pw (-(FloatKind.f32.format.fractionBits : Int) - 1) = uu .f32 := rfl
    have e2 : pw (FloatKind.f32.format.leastPlace - 1) = eta .f32 := by unfold eta; congr 1
    rw [e1, e2] at h
    rw [Rat.mul_comm]; exact h
  · have e1 : pw (-(FloatKind.f64.format.fractionBits : Int) - 1) = uu .f64 := rfl
    have e2 : pw (FloatKind.f64.format.leastPlace - 1) = eta .f64 := by unfold eta; congr 1
    rw [e1, e2] at h
    rw [Rat.mul_comm]; exact h
theorem uu_nonneg (k : FloatKind) : 0 ≤ uu k := by cases k <;> exact Rat.le_of_lt (pw_pos _)
theorem eta_nonneg (k : FloatKind) : 0 ≤ eta k := by cases k <;> exact Rat.le_of_lt (pw_pos _)

theorem dval_ab (s : Bool) (m : Nat) (e : Int) : ab (dval (.number s m e)) = mval m e := by
  have := mval_nonneg m e
  cases s
  · exact ab_of_nonneg this
  · show ab (-mval m e) = _
    rw [ab_neg, ab_of_nonneg this]

/-- **WRITING A NUMBER.** -/
theorem write_spec (k : FloatKind) (s : Bool) (m : Nat) (e : Int) (h : ab (dval (.number s m e)) ≤ top k) : RoundOf k (dval (.number s m e)) (k.format.write (.number s m e)) := by
  obtain ⟨q, hq, hB⟩ := bears_top k
  have he := eta_nonneg k
  have hu := uu_nonneg k
  by_cases h0 : m = 0
  · subst h0
    have hr : k.format.read (k.format.write (.number s 0 e)) = .number s 0 k.format.leastPlace := by
      have : k.format.write (.number s 0 e) = k.format.word s 0 := by simp [Format.write, Format.nearest]
      rw [this, read_word k.format s 0 (by cases k <;> decide +kernel), if_pos (show 0 < k.format.binade from Nat.two_pow_pos _)]
    have hv : fv k (k.format.write (.number s 0 e)) = 0 := by unfold fv; rw [hr]; cases s <;> simp [dval, mval_zero]
    have hd : dval (.number s 0 e) = 0 := by cases s <;> simp [dval, mval_zero]
    refine ⟨⟨_, _, _, hr⟩, ?_, fun b _ => ?_⟩
    · rw [hv, hd]
      have : ab (0 - 0 : Rat) = 0 := by rw [ab_of_nonneg] <;> grind
      rw [this, ab_of_nonneg Rat.le_refl]; grind
    · rw [hv, hd]; exact ⟨id, id⟩
  · rw [dval_ab, hq] at h
    obtain ⟨m', e', hr, h1, h2, h3⟩ := nearest_spec k.format s m e q h0 hB h
    have hw : k.format.write (.number s m e) = k.format.nearest s m e := rfl
    rw [hw]
    have hhalf := half_uu k (place := e) h0
    have n1 := mval_nonneg m e
    have n2 := mval_nonneg m' e'
    refine ⟨⟨_, _, _, hr⟩, ?_, ?_⟩
    · rw [dval_ab]
      unfold fv
      rw [hr]
      cases s
      · simp only [dval]; exact ab_le (by grind) (by grind)
      · simp only [dval]; exact ab_le (by grind) (by grind)
    · intro b hb
      obtain ⟨t, n, j, hb⟩ := hb
      have hT := h3 b t n j (eb_ge k) hb
      have n3 := mval_nonneg n j
      have pos : 0 < mval m e := by
        have := mval_lt (e := e) (Nat.pos_of_ne_zero h0)
        rwa [mval_zero] at this
      unfold fv
      rw [hr, hb]
      cases s <;> cases t <;> simp only [dval, Bool.false_eq_true, if_false, if_true]
      · exact hT
      · exact ⟨fun _ => by grind, fun h => by exfalso; grind⟩
      · exact ⟨fun h => by exfalso; grind, fun _ => by grind⟩
      · exact ⟨fun h => by have := hT.2 (by grind); grind, fun h => by have := hT.1 (by grind); grind⟩

theorem signed_val (s : Bool) (m : Nat) (i base : Int) (h : base ≤ i) : ((signed s m (i - base).toNat : Int) : Rat) * pw base = dval (.number s m i) := by
  have e : ((m <<< (i - base).toNat : Nat) : Rat) * pw base = mval m i := by
    rw [Nat.shiftLeft_eq]
    have := mval_scale' m (i - base).toNat base
    unfold mval at this ⊢
    rw [this]; congr 2; omega
  unfold signed dval
  cases s
  · simp only [Bool.false_eq_true, if_false]
    rw [← e, Rat.intCast_natCast]
  · simp only [if_true]
    rw [← e, Rat.intCast_neg, Rat.intCast_natCast]; grind

theorem sum_val (s t : Bool) (m n : Nat) (i j : Int) : ∃ s' m' e', (Datum.number s m i).sum (.number t n j) = some (.number s' m' e') ∧ dval (.number s' m' e') = dval (.number s m i) + dval (.number t n j) := by
  refine ⟨_, _, _, rfl, ?_⟩
  have h1 := signed_val s m i (min i j) (by omega)
  have h2 := signed_val t n j (min i j) (by omega)
  generalize signed s m (i - min i j).toNat = x at *
  generalize signed t n (j - min i j).toNat = y at *
  rw [← h1, ← h2, dval_num]
  unfold mval
  by_cases h0 : x + y = 0
  · have hy : ((y : Int) : Rat) = -(x : Rat) := by
      have : y = -x := by omega
      rw [this, Rat.intCast_neg]
    rw [if_pos h0, h0, hy]
    have e0 : ((Int.natAbs 0 : Nat) : Rat) = 0 := by simp
    rw [e0]
    split <;> grind
  · rw [if_neg h0]
    by_cases hneg : x + y < 0
    · have e1 : (((x + y).natAbs : Nat) : Rat) = -((x : Rat) + (y : Rat)) := by
        rw [← Rat.intCast_natCast, ← Rat.intCast_add, ← Rat.intCast_neg]
        congr 1; omega
      rw [e1]; simp only [hneg, decide_true, if_true]; grind
    · have e1 : (((x + y).natAbs : Nat) : Rat) = (x : Rat) + (y : Rat) := by
        rw [← Rat.intCast_natCast, ← Rat.intCast_add]
        congr 1; omega
      rw [e1]; simp only [hneg, decide_false, Bool.false_eq_true, if_false]; grind

theorem product_val (s t : Bool) (m n : Nat) (i j : Int) : dval (.number (s ^^ t) (m * n) (i + j)) = dval (.number s m i) * dval (.number t n j) := by
  have e : mval (m * n) (i + j) = mval m i * mval n j := by
    unfold mval; rw [Rat.natCast_mul, pw_add]; grind
  cases s <;> cases t <;> simp [dval, e] <;> grind

theorem fo_some {op : BinOp} {k : FloatKind} {a b r : Nat} (h : floatBits op k a b = some r) : fo op k a b = r := by unfold fo; rw [h]; rfl

theorem add_spec {k : FloatKind} {a b : Nat} (ha : fin k a) (hb : fin k b) (h : ab (fv k a + fv k b) ≤ top k) : RoundOf k (fv k a + fv k b) (fo .add k a b) := by
  obtain ⟨s, m, i, ha⟩ := ha
  obtain ⟨t, n, j, hb⟩ := hb
  obtain ⟨s', m', e', h1, h2⟩ := sum_val s t m n i j
  unfold fv at h ⊢
  rw [ha, hb] at h ⊢
  rw [← h2] at h ⊢
  have : fo .add k a b = k.format.write (.number s' m' e') := fo_some (by
    show ((k.format.read a).sum (k.format.read b)).map k.format.write = _
    rw [ha, hb, h1]; rfl)
  rw [this]
  exact write_spec k s' m' e' h

theorem dval_opposite (s : Bool) (m : Nat) (e : Int) : dval (.number (!s) m e) = -dval (.number s m e) := by
  cases s <;> simp [dval] <;> grind
theorem sub_spec {k : FloatKind} {a b : Nat} (ha : fin k a) (hb : fin k b) (h : ab (fv k a - fv k b) ≤ top k) : RoundOf k (fv k a - fv k b) (fo .sub k a b) := by
  obtain ⟨s, m, i, ha⟩ := ha
  obtain ⟨t, n, j, hb⟩ := hb
  obtain ⟨s', m', e', h1, h2⟩ := sum_val s (!t) m n i j
  rw [dval_opposite, ← Rat.sub_eq_add_neg] at h2
  unfold fv at h ⊢
  rw [ha, hb] at h ⊢
  rw [← h2] at h ⊢
  have : fo .sub k a b = k.format.write (.number s' m' e') := fo_some (by
    show ((k.format.read a).sum (k.format.read b).opposite).map k.format.write = _
    rw [ha, hb]
    show ((Datum.number s m i).sum (.number (!t) n j)).map _ = _
    rw [h1]; rfl)
  rw [this]
  exact write_spec k s' m' e' h

theorem mul_spec {k : FloatKind} {a b : Nat} (ha : fin k a) (hb : fin k b) (h : ab (fv k a * fv k b) ≤ top k) : RoundOf k (fv k a * fv k b) (fo .mul k a b) := by
  obtain ⟨s, m, i, ha⟩ := ha
  obtain ⟨t, n, j, hb⟩ := hb
  have h2 := product_val s t m n i j
  unfold fv at h ⊢
  rw [ha, hb] at h ⊢
  rw [← h2] at h ⊢
  have : fo .mul k a b = k.format.write (.number (s ^^ t) (m * n) (i + j)) := fo_some (by
    show ((k.format.read a).product (k.format.read b)).map k.format.write = _
    rw [ha, hb]; rfl)
  rw [this]
  exact write_spec k _ _ _ h

theorem zero_fin (k : FloatKind) : fin k 0 ∧ fv k 0 = 0 := by
  obtain ⟨p, hp⟩ := zero_read k
  exact ⟨⟨_, _, _, hp⟩, by unfold fv; rw [hp]; simp [dval, mval_zero]⟩

/-! ### Comparisons -/
theorem order_fin {k : FloatKind} {a b : Nat} (ha : fin k a) (hb : fin k b) : ∃ o, k.format.order a b = some o ∧ (o = .lt ↔ fv k a < fv k b) ∧ (o = .eq ↔ fv k a = fv k b) ∧ (o = .gt ↔ fv k b < fv k a) := by
  obtain ⟨s, m, i, ha⟩ := ha
  obtain ⟨t, n, j, hb⟩ := hb
  unfold fv Format.order
  rw [ha, hb]
  refine ⟨_, rfl, ?_⟩
  have h1 := signed_val s m i (min i j) (by omega)
  have h2 := signed_val t n j (min i j) (by omega)
  rw [← h1, ← h2]
  generalize signed s m (i - min i j).toNat = x at *
  generalize signed t n (j - min i j).toNat = y at *
  have hp := pw_pos (min i j)
  have lt : ∀ u v : Int, ((u : Rat) * pw (min i j) < (v : Rat) * pw (min i j)) ↔ u < v := fun u v => by
    rw [Rat.mul_lt_mul_right hp, Rat.intCast_lt_intCast]
  have eq : ∀ u v : Int, ((u : Rat) * pw (min i j) = (v : Rat) * pw (min i j)) ↔ u = v := fun u v => by
    constructor
    · intro h
      rcases Int.lt_trichotomy u v with h1 | h1 | h1
      · have := (lt u v).2 h1; grind
      · exact h1
      · have := (lt v u).2 h1; grind
    · rintro rfl; rfl
  rw [lt, lt, eq]
  simp only [compare, compareOfLessAndEq]
  by_cases h1 : x < y
  · rw [if_pos h1]; simp; omega
  · rw [if_neg h1]
    by_cases h2 : x = y
    · rw [if_pos h2]; simp; omega
    · rw [if_neg h2]; simp; omega
theorem flt_iff {k : FloatKind} {a b : Nat} (ha : fin k a) (hb : fin k b) : flt k a b = true ↔ fv k a < fv k b := by
  obtain ⟨o, ho, h1, h2, h3⟩ := order_fin ha hb
  unfold flt; rw [ho, ← h1]; simp
theorem feq_iff {k : FloatKind} {a b : Nat} (ha : fin k a) (hb : fin k b) : feq k a b = true ↔ fv k a = fv k b := by
  obtain ⟨o, ho, h1, h2, h3⟩ := order_fin ha hb
  unfold feq; rw [ho, ← h2]; simp
theorem fgt_iff {k : FloatKind} {a b : Nat} (ha : fin k a) (hb : fin k b) : fgt k a b = true ↔ fv k b < fv k a := by
  obtain ⟨o, ho, h1, h2, h3⟩ := order_fin ha hb
  unfold fgt; rw [ho, ← h3]; simp
theorem fle_iff {k : FloatKind} {a b : Nat} (ha : fin k a) (hb : fin k b) : fle k a b = true ↔ fv k a ≤ fv k b := by
  obtain ⟨o, ho, h1, h2, h3⟩ := order_fin ha hb
  unfold fle; rw [ho, Rat.le_iff_lt_or_eq, ← h1, ← h2]; simp
theorem fge_iff {k : FloatKind} {a b : Nat} (ha : fin k a) (hb : fin k b) : fge k a b = true ↔ fv k b ≤ fv k a := by
  obtain ⟨o, ho, h1, h2, h3⟩ := order_fin ha hb
  unfold fge; rw [ho, Rat.le_iff_lt_or_eq, ← h3, show (fv k b = fv k a) = (fv k a = fv k b) from propext ⟨Eq.symm, Eq.symm⟩, ← h2]; simp

/-! ### Signs, whole numbers, widths -/
theorem neg_fin {k : FloatKind} {a : Nat} (ha : fin k a) : fin k (Op.negFloat k a) ∧ fv k (Op.negFloat k a) = -fv k a := by
  obtain ⟨s, m, i, ha⟩ := ha
  have : k.format.read (Op.negFloat k a) = .number (!s) m i := by rw [read_neg, ha]; rfl
  exact ⟨⟨_, _, _, this⟩, by unfold fv; rw [this, ha, dval_opposite]⟩
theorem absB_fin {a : Nat} (ha : fin .f64 a) : fin .f64 (absB a) ∧ fv .f64 (absB a) = ab (fv .f64 a) := by
  obtain ⟨s, m, i, ha⟩ := ha
  have : FloatKind.f64.format.read (absB a) = .number false m i := by
    show double.read _ = _
    rw [read_absB, show double.read a = .number s m i from ha]; rfl
  exact ⟨⟨_, _, _, this⟩, by unfold fv; rw [this, ha, dval_ab]; rfl⟩
theorem abs32_fin {a : Nat} (ha : fin .f32 a) : fin .f32 (a % 2147483648) ∧ fv .f32 (a % 2147483648) = ab (fv .f32 a) := by
  obtain ⟨s, m, i, ha⟩ := ha
  have : FloatKind.f32.format.read (a % 2147483648) = .number false m i := by
    show single.read _ = _
    rw [read_abs32, show single.read a = .number s m i from ha]; rfl
  exact ⟨⟨_, _, _, this⟩, by unfold fv; rw [this, ha, dval_ab]; rfl⟩
theorem int_spec (k : FloatKind) (n : Int) (h : ab (n : Rat) ≤ top k) : RoundOf k (n : Rat) (floatOfInt k n) := by
  have e : dval (.number (decide (n < 0)) n.natAbs 0) = (n : Rat) := by
    rw [dval_num]
    unfold mval
    rw [pw_zero]
    by_cases hn : n < 0
    · simp only [hn, decide_true, if_true]
      have : (n : Rat) = -((n.natAbs : Nat) : Rat) := by rw [← Rat.intCast_natCast, ← Rat.intCast_neg]; congr 1; omega
      rw [this]; grind
    · simp only [hn, decide_false, Bool.false_eq_true, if_false]
      have : (n : Rat) = ((n.natAbs : Nat) : Rat) := by rw [← Rat.intCast_natCast]; congr 1; omega
      rw [this]; grind
  have := write_spec k (decide (n < 0)) n.natAbs 0 (by rw [e]; exact h)
  rw [e] at this
  exact this
/-- A whole number of not too many digits is not turned. -/
theorem int_exact (k : FloatKind) (n : Int) (h : n.natAbs < 2 * k.format.binade) : fin k (floatOfInt k n) ∧ fv k (floatOfInt k n) = (n : Rat) := by
  have hs := int_spec k n
  by_cases h0 : n = 0
  · subst h0
    have hz := zero_fin k
    have := hs (by
      have : ((0 : Int) : Rat) = 0 := by simp
      rw [this, ab_of_nonneg Rat.le_refl]; cases k <;> exact Rat.le_of_lt (pw_pos _))
    exact ⟨this.1, this.exact hz.1 (by rw [hz.2]; simp)⟩
  · have h0' : n.natAbs ≠ 0 := by omega
    have hlog : n.natAbs.log2 < k.format.fractionBits + 1 := (Nat.log2_lt h0').2 (by unfold Format.binade at h; rw [Nat.pow_succ]; omega)
    have hleast : k.format.leastPlace ≤ 0 := by cases k <;> decide +kernel
    have hlast : lastOf k.format n.natAbs 0 ≤ 0 := by unfold lastOf; omega
    have hM : n.natAbs * 2 ^ (0 - lastOf k.format n.natAbs 0).toNat < 2 * k.format.binade := by
      have hne : n.natAbs * 2 ^ (0 - lastOf k.format n.natAbs 0).toNat ≠ 0 := Nat.mul_ne_zero h0' (by have := Nat.two_pow_pos (0 - lastOf k.format n.natAbs 0).toNat; omega)
      have : (n.natAbs * 2 ^ (0 - lastOf k.format n.natAbs 0).toNat).log2 < k.format.fractionBits + 1 := by
        rw [log2_mul_pow _ _ h0']; unfold lastOf at hlast ⊢; omega
      have := (Nat.log2_lt hne).1 this
      unfold Format.binade; rw [Nat.pow_succ] at this; omega
    have hR : (lastOf k.format n.natAbs 0 - k.format.leastPlace).toNat * k.format.binade + n.natAbs * 2 ^ (0 - lastOf k.format n.natAbs 0).toNat < k.format.infRung := by
      have hj : (lastOf k.format n.natAbs 0 - k.format.leastPlace).toNat ≤ (-k.format.leastPlace).toNat := by omega
      have h2 := Nat.mul_le_mul_right k.format.binade hj
      have h3 : (-k.format.leastPlace).toNat * k.format.binade + 2 * k.format.binade ≤ k.format.infRung := by cases k <;> decide +kernel
      omega
    have key := read_nearest_exact k.format (decide (n < 0)) n.natAbs 0 h0' hlast hR
    have hk : k.format.read (floatOfInt k n) = _ := key
    refine ⟨⟨_, _, _, hk⟩, ?_⟩
    unfold fv
    rw [hk, dval_num, mval_scale']
    have e0 : lastOf k.format n.natAbs 0 + (((0 - lastOf k.format n.natAbs 0).toNat : Nat) : Int) = 0 := by omega
    rw [e0]
    unfold mval
    rw [pw_zero]
    by_cases hn : n < 0
    · simp only [hn, decide_true, if_true]
      have : (n : Rat) = -((n.natAbs : Nat) : Rat) := by rw [← Rat.intCast_natCast, ← Rat.intCast_neg]; congr 1; omega
      rw [this]; grind
    · simp only [hn, decide_false, Bool.false_eq_true, if_false]
      have : (n : Rat) = ((n.natAbs : Nat) : Rat) := by rw [← Rat.intCast_natCast]; congr 1; omega
      rw [this]; grind

theorem wid_fin {b : Nat} (h : fin .f32 b) : fin .f64 (wid b) ∧ fv .f64 (wid b) = fv .f32 b := by
  obtain ⟨s, m, e, h⟩ := h
  obtain ⟨k, hk⟩ := wid_num h
  have hk' : FloatKind.f64.format.read (wid b) = .number s (m * 2 ^ k) (e - k) := hk
  refine ⟨⟨_, _, _, hk'⟩, ?_⟩
  unfold fv
  rw [hk', h, dval_num, dval_num, mval_scale]
theorem top32_le : top .f32 ≤ top .f64 := pw_mono (by decide)
/-- Narrowing what is not too great. -/
theorem narrow_spec {b : Nat} (hb : fin .f64 b) (h : ab (fv .f64 b) ≤ top .f32) : ∃ r, floatToFloatBits .f64 b .f32 = some r ∧ RoundOf .f32 (fv .f64 b) r := by
  obtain ⟨s, m, e, hb⟩ := hb
  have hv : fv .f64 b = dval (.number s m e) := by unfold fv; rw [hb]
  rw [hv] at h ⊢
  have hs := write_spec .f32 s m e h
  refine ⟨_, ?_, hs⟩
  obtain ⟨⟨s', m', e', hr⟩, _⟩ := hs
  unfold floatToFloatBits
  rw [if_neg (by decide)]
  have hd : FloatKind.f64.decode b = .number s m e := hb
  have hd' : FloatKind.f32.decode (FloatKind.f32.encode (.number s m e)) = .number s' m' e' := hr
  rw [hd]
  simp only [hd', Datum.isInfinity]
  rfl
end Go.Proofs.YtndnfhhdflmfcaaGreat

/-
Quotients of floats as rational numbers. (Plain arithmetic: no program stands here.)
-/
namespace Go.Proofs.YtndnfhhdflmfcaaGreat
open Go Ieee

/-- 'r' is 'v' rounded, within two units of the last place's half. -/
def DivOf (k : FloatKind) (v : Rat) (r : Nat) : Prop :=
  fin k r ∧ ab (fv k r - v) ≤ 2 * uu k * ab v + eta k ∧ ∀ b, fin k b → (fv k b ≤ v → fv k b ≤ fv k r) ∧ (v ≤ fv k b → fv k r ≤ fv k b)
theorem DivOf.exact {k : FloatKind} {v : Rat} {r b : Nat} (h : DivOf k v r) (hb : fin k b) (hv : fv k b = v) : fv k r = v := by
  obtain ⟨_, _, h3⟩ := h
  have h4 := h3 b hb
  have h5 := h4.1 (by rw [hv]; exact Rat.le_refl)
  have h6 := h4.2 (by rw [hv]; exact Rat.le_refl)
  rw [hv] at h5 h6
  exact Rat.le_antisymm h6 h5

/-- The quotient that is written: its magnitude against the true one ('V': the true quotient in units of 2^p). -/
theorem quo_mag (fb m n : Nat) (hm : m ≠ 0) (hn : n ≠ 0) :
    let more := fb + 2 + n.log2 - m.log2
    let q := (m <<< more) / n
    let r := (m <<< more) % n
    n * q + r = m * 2 ^ more ∧ r < n ∧ 2 ^ (fb + 1) ≤ q := by
  intro more q r
  have hnp : 0 < n := Nat.pos_of_ne_zero hn
  refine ⟨by rw [← Nat.shiftLeft_eq]; exact Nat.div_add_mod _ _, Nat.mod_lt _ hnp, ?_⟩
  rw [Nat.le_div_iff_mul_le hnp, Nat.shiftLeft_eq]
  have h1 := Nat.log2_self_le hm
  have h2 := Nat.lt_log2_self (n := n)
  have h3 : 2 ^ m.log2 * 2 ^ more ≤ m * 2 ^ more := Nat.mul_le_mul_right _ h1
  have h4 : 2 ^ (fb + 1) * n ≤ 2 ^ (fb + 1) * 2 ^ (n.log2 + 1) := Nat.mul_le_mul_left _ (Nat.le_of_lt h2)
  rw [← Nat.pow_add] at h3 h4
  refine Nat.le_trans h4 (Nat.le_trans (Nat.pow_le_pow_right (by omega) ?_) h3)
  show fb + 1 + (n.log2 + 1) ≤ m.log2 + more
  omega

theorem rat_lt_or_le (a b : Rat) : a < b ∨ b ≤ a := by
  rcases Rat.le_total (a := b) (b := a) with h | h
  · exact .inr h
  · rcases Rat.le_iff_lt_or_eq.1 h with h | h
    · exact .inl h
    · exact .inr (by rw [h]; exact Rat.le_refl)

/-- **QUOTIENTS.** -/
theorem div_spec {k : FloatKind} {a b : Nat} (ha : fin k a) (hb : fin k b) (h0 : fv k b ≠ 0) (h : 2 * ab (fv k a / fv k b) ≤ top k) : DivOf k (fv k a / fv k b) (fo .quo k a b) := by
  obtain ⟨s, m, i, ha⟩ := ha
  obtain ⟨t, n, j, hb⟩ := hb
  have hva : fv k a = dval (.number s m i) := by unfold fv; rw [ha]
  have hvb : fv k b = dval (.number t n j) := by unfold fv; rw [hb]
  have hn : n ≠ 0 := by
    rintro rfl
    apply h0; rw [hvb, dval_num, mval_zero]; cases t <;> simp
  have he := eta_nonneg k
  have hu := uu_nonneg k
  by_cases hm : m = 0
  · subst hm
    have hv0 : fv k a = 0 := by rw [hva, dval_num, mval_zero]; cases s <;> simp
    have hz : fv k a / fv k b = 0 := by rw [hv0, Rat.div_def, Rat.zero_mul]
    have : ∃ p, fo .quo k a b = k.format.write (.number (s ^^ t) 0 p) := ⟨_, fo_some (by
      show (Datum.quotient _ (k.format.read a) (k.format.read b)).map k.format.write = _
      rw [ha, hb]
      unfold Datum.quotient
      simp only [if_neg hn, Nat.zero_shiftLeft, Nat.zero_div, Nat.zero_mod]
      rfl)⟩
    obtain ⟨p, hp⟩ := this
    have hd : dval (.number (s ^^ t) 0 p) = 0 := by rw [dval_num, mval_zero]; cases (s ^^ t) <;> simp
    have hs := write_spec k (s ^^ t) 0 p (by rw [hd, ab_of_nonneg Rat.le_refl]; cases k <;> exact Rat.le_of_lt (pw_pos _))
    rw [hd] at hs
    rw [hp, hz]
    refine ⟨hs.1, ?_, hs.2.2⟩
    have := hs.2.1
    have e : ab (0 : Rat) = 0 := ab_of_nonneg Rat.le_refl
    rw [e] at this ⊢
    grind
  · obtain ⟨more, hmore⟩ : ∃ x, k.format.fractionBits + 2 + n.log2 - m.log2 = x := ⟨_, rfl⟩
    have hq := quo_mag k.format.fractionBits m n hm hn
    simp only [hmore] at hq
    obtain ⟨q, hqd⟩ : ∃ x, (m <<< more) / n = x := ⟨_, rfl⟩
    obtain ⟨r, hrd⟩ : ∃ x, (m <<< more) % n = x := ⟨_, rfl⟩
    rw [hqd, hrd] at hq
    obtain ⟨q1, q2, q3⟩ := hq
    obtain ⟨p, hp⟩ : ∃ p : Int, p = i - j - more := ⟨_, rfl⟩
    have hfo : fo .quo k a b = k.format.write (.number (s ^^ t) (2 * q + (r != 0).toNat) (p - 1)) := fo_some (by
      show (Datum.quotient _ (k.format.read a) (k.format.read b)).map k.format.write = _
      rw [ha, hb]
      unfold Datum.quotient
      simp only [if_neg hn]
      rw [hmore, hqd, hrd, hp]
      rfl)
    -- the magnitudes
    obtain ⟨V, hV⟩ : ∃ V : Rat, V = mval m i / mval n j := ⟨_, rfl⟩
    have hnv : 0 < mval n j := by
      have := mval_lt (e := j) (Nat.pos_of_ne_zero hn)
      rwa [mval_zero] at this
    have hnn : mval n j ≠ 0 := by grind
    have hVn : V * mval n j = mval m i := by rw [hV]; exact Rat.div_mul_cancel hnn
    have hsgn : dval (.number s m i) / dval (.number t n j) = if (s ^^ t) = true then -V else V := by
      rw [dval_num, dval_num, Rat.div_def, hV, Rat.div_def]
      have inv_neg : (-mval n j)⁻¹ = -(mval n j)⁻¹ := by
        apply Rat.inv_eq_of_mul_eq_one
        have := Rat.mul_inv_cancel _ hnn
        grind
      cases s <;> cases t <;> simp [inv_neg] <;> grind
    have hnR : (0 : Rat) < (n : Rat) := Rat.natCast_pos.2 (Nat.pos_of_ne_zero hn)
    -- V in units of 2^p
    obtain ⟨y, hy⟩ : ∃ y : Rat, y * (n : Rat) = (r : Rat) := ⟨(r : Rat) / n, Rat.div_mul_cancel (by grind)⟩
    have hVu : V = ((q : Rat) + y) * pw p := by
      have e1 : ((q : Rat) + y) * (n : Rat) = ((m * 2 ^ more : Nat) : Rat) := by
        rw [← q1, Rat.natCast_add, Rat.natCast_mul]; grind
      have e2 : mval m i = ((m * 2 ^ more : Nat) : Rat) * pw (p + j) := by
        have := mval_scale m more i
        unfold mval at this ⊢
        rw [← this]; congr 2; omega
      have e3 : (((q : Rat) + y) * pw p) * mval n j = mval m i := by
        rw [e2, ← e1, pw_add]; unfold mval; grind
      have e4 : V * mval n j = (((q : Rat) + y) * pw p) * mval n j := by rw [hVn, e3]
      rcases rat_lt_or_le V (((q : Rat) + y) * pw p) with hl | hl
      · have := Rat.mul_lt_mul_of_pos_right hl hnv; grind
      · rcases Rat.le_iff_lt_or_eq.1 hl with hl | hl
        · have := Rat.mul_lt_mul_of_pos_right hl hnv; grind
        · exact hl.symm
    have hy0 : 0 ≤ y := by
      rcases rat_lt_or_le y 0 with hl | hl
      · have := Rat.mul_lt_mul_of_pos_right hl hnR
        have h5 : (0 : Rat) ≤ (r : Rat) := Rat.natCast_nonneg
        grind
      · exact hl
    have hy1 : y < 1 := by
      rcases rat_lt_or_le y 1 with hl | hl
      · exact hl
      · have := Rat.mul_le_mul_of_nonneg_right hl (Rat.le_of_lt hnR)
        have h5 : (r : Rat) < (n : Rat) := Rat.natCast_lt_natCast.2 q2
        grind
    have hyr : r = 0 → y = 0 := by
      rintro rfl
      rcases Rat.le_iff_lt_or_eq.1 hy0 with hl | hl
      · have := Rat.mul_lt_mul_of_pos_right hl hnR
        simp at hy; grind
      · exact hl.symm
    have hpp := pw_pos p
    have hhalf : pw p = 2 * pw (p - 1) := by rw [← pw_succ]; congr 1; omega
    have hpq := pw_pos (p - 1)
    -- what is written
    obtain ⟨Q, hQ⟩ : ∃ Q, Q = 2 * q + (r != 0).toNat := ⟨_, rfl⟩
    have hQv : mval Q (p - 1) ≤ V + pw (p - 1) ∧ V ≤ mval Q (p - 1) + pw (p - 1) ∧ (r = 0 → mval Q (p - 1) = V) ∧ (r ≠ 0 → mval Q (p - 1) = (q : Rat) * pw p + pw (p - 1)) := by
      have hyp : y * pw p ≤ pw p := by
        have := Rat.mul_le_mul_of_nonneg_right (Rat.le_of_lt hy1) (Rat.le_of_lt hpp); grind
      have hyp0 : 0 ≤ y * pw p := Rat.mul_nonneg hy0 (Rat.le_of_lt hpp)
      by_cases hr0 : r = 0
      · have hy := hyr hr0
        have hb : (r != 0).toNat = 0 := by rw [hr0]; rfl
        have e : mval Q (p - 1) = V := by
          rw [hQ, hb, hVu, hy]; unfold mval; rw [Nat.add_zero, Rat.natCast_mul]
          rw [hhalf]; simp; grind
        refine ⟨by grind, by grind, fun _ => e, fun h => absurd hr0 h⟩
      · have hb : (r != 0).toNat = 1 := by simp [hr0]
        have e : mval Q (p - 1) = (q : Rat) * pw p + pw (p - 1) := by
          rw [hQ, hb]; unfold mval; rw [Rat.natCast_add, Rat.natCast_mul]
          rw [hhalf]; simp; grind
        refine ⟨by rw [e, hVu]; grind, by rw [e, hVu]; grind, fun h => absurd h hr0, fun _ => e⟩
    -- q is great
    have hqp : pw (k.format.fractionBits + 1 : Nat) * pw p ≤ (q : Rat) * pw p := by
      rw [pw_nat]
      exact Rat.mul_le_mul_of_nonneg_right (Rat.natCast_le_natCast.2 q3) (Rat.le_of_lt hpp)
    have hqV : (q : Rat) * pw p ≤ V := by
      rw [hVu]
      have := Rat.mul_nonneg hy0 (Rat.le_of_lt hpp)
      grind
    have huV : pw (p - 1) ≤ uu k / 2 * V := by
      have e : uu k * (pw (k.format.fractionBits + 1 : Nat)) = 1 := by
        cases k
        · show pw (-24) * pw ((24 : Nat) : Int) = 1
          rw [← pw_add]; exact pw_zero
        · show pw (-53) * pw ((53 : Nat) : Int) = 1
          rw [← pw_add]; exact pw_zero
      have h1 : pw (k.format.fractionBits + 1 : Nat) * pw p ≤ V := by grind
      have h2 := Rat.mul_le_mul_of_nonneg_left h1 hu
      have h3 : uu k * (pw (k.format.fractionBits + 1 : Nat) * pw p) = pw p := by rw [← Rat.mul_assoc, e]; grind
      rw [h3, hhalf] at h2
      grind
    have hV0 : 0 ≤ V := by
      have h5 : (0 : Rat) ≤ (q : Rat) := Rat.natCast_nonneg
      have := Rat.mul_nonneg h5 (Rat.le_of_lt hpp)
      grind
    have hu1 : uu k ≤ 1 / 8 := by cases k <;> (show pw _ ≤ _; unfold pw; grind)
    have habV : ab (fv k a / fv k b) = V := by
      rw [hva, hvb, hsgn]
      split
      · rw [ab_neg, ab_of_nonneg hV0]
      · exact ab_of_nonneg hV0
    rw [habV] at h
    have huV2 : uu k / 2 * V ≤ V / 16 := by
      have := Rat.mul_le_mul_of_nonneg_right hu1 hV0
      grind
    have hws := write_spec k (s ^^ t) Q (p - 1) (by rw [dval_ab]; grind)
    rw [hfo, ← hQ]
    generalize hR : k.format.write (.number (s ^^ t) Q (p - 1)) = R at *
    obtain ⟨w1, w2, w3⟩ := hws
    rw [dval_ab] at w2
    have hdv : fv k a / fv k b = if (s ^^ t) = true then -V else V := by rw [hva, hvb, hsgn]
    refine ⟨w1, ?_, ?_⟩
    · rw [habV, hdv]
      rw [dval_num] at w2
      have hx := le_ab (fv k R - if (s ^^ t) = true then -mval Q (p - 1) else mval Q (p - 1))
      have h7 : uu k * mval Q (p - 1) ≤ uu k * V + uu k / 2 * V / 8 := by
        have h8 : mval Q (p - 1) ≤ V + uu k / 2 * V := by grind
        have h9 := Rat.mul_le_mul_of_nonneg_left h8 hu
        have h10 : 0 ≤ uu k / 2 * V := Rat.mul_nonneg (by grind) hV0
        have h11 := Rat.mul_le_mul_of_nonneg_right hu1 h10
        grind
      have h12 : 0 ≤ uu k * V := Rat.mul_nonneg hu hV0
      cases hst : (s ^^ t)
      · rw [hst] at hx w2
        simp only [Bool.false_eq_true, if_false] at hx w2 ⊢
        exact ab_le (by grind) (by grind)
      · rw [hst] at hx w2
        simp only [if_true] at hx w2 ⊢
        exact ab_le (by grind) (by grind)
    · intro z hz
      have hT := w3 z hz
      obtain ⟨s', m', e', hz⟩ := hz
      have hzv : fv k z = dval (.number s' m' e') := by unfold fv; rw [hz]
      obtain ⟨b1, b2, _⟩ := read_bounds k.format (eb_ge k) hz
      -- magnitudes on the same side of V are on the same side of Q
      have side : (mval m' e' ≤ V → mval m' e' ≤ mval Q (p - 1)) ∧ (V ≤ mval m' e' → mval Q (p - 1) ≤ mval m' e') := by
        by_cases hr0 : r = 0
        · rw [hQv.2.2.1 hr0]; exact ⟨id, id⟩
        · have e := hQv.2.2.2 hr0
          rw [e]
          by_cases hep : p ≤ e'
          · obtain ⟨c, hc⟩ : ∃ c : Nat, e' = p + c := ⟨(e' - p).toNat, by omega⟩
            have hzm : mval m' e' = ((m' * 2 ^ c : Nat) : Rat) * pw p := by
              have := mval_scale' m' c p
              rw [hc, ← this]; rfl
            rw [hzm, hVu]
            generalize m' * 2 ^ c = N
            constructor
            · intro h
              have : N ≤ q := by
                rcases Nat.lt_or_ge q N with h1 | h1
                · exfalso
                  have h2 : ((q + 1 : Nat) : Rat) ≤ (N : Rat) := Rat.natCast_le_natCast.2 h1
                  have h3 := Rat.mul_le_mul_of_nonneg_right h2 (Rat.le_of_lt hpp)
                  have h4 := Rat.mul_lt_mul_of_pos_right hy1 hpp
                  rw [Rat.natCast_add] at h3
                  simp at h3
                  grind
                · exact h1
              have h2 := Rat.mul_le_mul_of_nonneg_right (Rat.natCast_le_natCast.2 this) (Rat.le_of_lt hpp)
              grind
            · intro h
              have hypos : 0 < y := by
                rcases Rat.le_iff_lt_or_eq.1 hy0 with hl | hl
                · exact hl
                · exfalso
                  rw [← hl, Rat.zero_mul] at hy
                  have : ((0 : Nat) : Rat) = (r : Rat) := hy
                  have := Rat.natCast_inj.1 this
                  omega
              have : q + 1 ≤ N := by
                rcases Nat.lt_or_ge q N with h1 | h1
                · exact h1
                · exfalso
                  have h2 : (N : Rat) ≤ (q : Rat) := Rat.natCast_le_natCast.2 h1
                  have h3 := Rat.mul_le_mul_of_nonneg_right h2 (Rat.le_of_lt hpp)
                  have h4 := Rat.mul_pos hypos hpp
                  grind
              have h2 := Rat.mul_le_mul_of_nonneg_right (Rat.natCast_le_natCast.2 this) (Rat.le_of_lt hpp)
              rw [Rat.natCast_add] at h2
              simp at h2
              grind
          · have hzlt : mval m' e' < (q : Rat) * pw p := by
              have h1 : mval m' e' < mval (2 * k.format.binade) e' := mval_lt b2
              have h2 : mval (2 * k.format.binade) e' ≤ pw (k.format.fractionBits + 1 : Nat) * pw p := by
                have : 2 * k.format.binade = 2 ^ (k.format.fractionBits + 1) := by unfold Format.binade; rw [Nat.pow_succ, Nat.mul_comm]
                rw [this]
                unfold mval
                rw [← pw_nat]
                exact Rat.mul_le_mul_of_nonneg_left (pw_mono (by omega)) (Rat.le_of_lt (pw_pos _))
              grind
            constructor
            · intro _; grind
            · intro h; exfalso; grind
      have n1 := mval_nonneg m' e'
      have n2 := mval_nonneg Q (p - 1)
      have Vpos : 0 < V := by
        have h5 := pw_pos (k.format.fractionBits + 1 : Nat)
        have := Rat.mul_pos h5 hpp
        grind
      rw [dval_num] at hT
      rw [hzv] at hT
      rw [hdv, hzv]
      rw [dval_num] at hT ⊢
      cases hst : (s ^^ t) <;> cases s' <;> rw [hst] at hT <;> simp only [Bool.false_eq_true, if_false, if_true] at hT ⊢
      · exact ⟨fun h => hT.1 (side.1 h), fun h => hT.2 (side.2 h)⟩
      · exact ⟨fun h => hT.1 (by grind), fun h => by exfalso; grind⟩
      · exact ⟨fun h => by exfalso; grind, fun h => hT.2 (by grind)⟩
      · exact ⟨fun h => hT.1 (by have := side.2 (by grind); grind), fun h => hT.2 (by have := side.1 (by grind); grind)⟩
end Go.Proofs.YtndnfhhdflmfcaaGreat

/-
The samples that spec.MakeSmall draws are finite, and not greater than told. (Plain arithmetic.)
-/
namespace Go.Proofs.YtndnfhhdflmfcaaGreat
open Go Ieee

theorem nrm_fin_eq {k : FloatKind} {b z : Nat} (h : nrm k b = z) (hz : fin k z) : b = z := by
  cases hn : isN k b
  · rw [nrm_of_num hn] at h; exact h
  · have := fin_num hz
    rw [← h, isN_nrm, hn] at this; cases this
theorem fin_of_read {k : FloatKind} {b : Nat} {s : Bool} {m : Nat} {e : Int} (h : k.format.read b = .number s m e) : fin k b ∧ fv k b = dval (.number s m e) :=
  ⟨⟨s, m, e, h⟩, by unfold fv; rw [h]⟩
theorem ab_tri (x y : Rat) : ab x ≤ ab (x - y) + ab y := by
  have := ab_add (x - y) y
  rwa [show x - y + y = x by grind] at this
theorem thousand : fin .f32 1148846080 ∧ fv .f32 1148846080 = 1000 := by
  have h : FloatKind.f32.format.read 1148846080 = .number false 16384000 (-14) := by decide +kernel
  obtain ⟨h1, h2⟩ := fin_of_read h
  refine ⟨h1, ?_⟩
  rw [h2, dval_num]
  unfold mval pw
  simp only [Bool.false_eq_true, if_false]
  grind
theorem consts32 : uu .f32 = 1 / 16777216 ∧ eta .f32 ≤ 1 / 2 ^ 149 ∧ top .f32 = 2 ^ 120 := by
  refine ⟨?_, ?_, ?_⟩ <;> (simp only [uu, eta, top]; unfold pw; grind)

theorem consts64 : uu .f64 = 1 / 2 ^ 53 ∧ eta .f64 ≤ 1 / 2 ^ 200 ∧ (2 : Rat) ^ 200 ≤ top .f64 := by
  have h1 : pw (-1075) ≤ pw (-200) := pw_mono (by omega)
  have h2 : pw 200 ≤ pw 1000 := pw_mono (by omega)
  have e1 : pw (-200) = 1 / 2 ^ 200 := by unfold pw; grind
  have e2 : pw 200 = 2 ^ 200 := by unfold pw; grind
  refine ⟨?_, ?_, ?_⟩
  · simp only [uu]; unfold pw; grind
  · show pw (-1075) ≤ _; grind
  · show _ ≤ pw 1000; grind
theorem ab_div_pos (x : Rat) {c : Rat} (hc : 0 < c) : ab (x / c) = ab x / c := by
  have hi : 0 < c⁻¹ := Rat.inv_pos.2 hc
  rw [Rat.div_def, Rat.div_def, ab_mul, ab_of_nonneg (x := c⁻¹) (by grind)]

theorem sm_spec {m : Nat} {j : Int} {X : Rat} (hm : fin .f32 m) (hX : ab (fv .f32 m) ≤ X) (h61 : X ≤ 2 ^ 61) (h1 : -1000 ≤ j) (h2 : j ≤ 1000) :
    fin .f32 (sm m j) ∧ ab (fv .f32 (sm m j)) ≤ X + X / 1048576 + 1 / 2 ^ 100 := by
  obtain ⟨cu, ce, ct⟩ := consts32
  have hj : ab (j : Rat) ≤ 1000 := by
    have a1 : (j : Rat) ≤ ((1000 : Int) : Rat) := Rat.intCast_le_intCast.2 h2
    have a2 : ((-1000 : Int) : Rat) ≤ (j : Rat) := Rat.intCast_le_intCast.2 h1
    refine ab_le ?_ ?_
    · simpa using a1
    · have : ((-1000 : Int) : Rat) = -1000 := by simp
      grind
  have hX0 : 0 ≤ X := Rat.le_trans (ab_nonneg _) hX
  -- the whole number
  obtain ⟨f1, f2⟩ := int_exact .f32 j (by
    have e : FloatKind.f32.format.binade = 8388608 := by decide +kernel
    rw [e]; omega)
  -- the product
  obtain ⟨M, hM⟩ : ∃ M, fv .f32 m * (j : Rat) = M := ⟨_, rfl⟩
  have p0 : ab M ≤ X * 1000 := by
    rw [← hM, ab_mul]
    have a1 := Rat.mul_le_mul_of_nonneg_right hX (ab_nonneg (j : Rat))
    have a2 := Rat.mul_le_mul_of_nonneg_left hj hX0
    grind
  have hp := mul_spec hm f1 (by rw [f2, hM, ct]; grind)
  rw [f2, hM] at hp
  obtain ⟨g1, g2, _⟩ := hp
  have g3 := ab_tri (fv .f32 (fo .mul .f32 m (floatOfInt .f32 j))) M
  rw [cu] at g2
  generalize hP : fv .f32 (fo .mul .f32 m (floatOfInt .f32 j)) = P at *
  have g4 : ab P ≤ X * 1000 + X / 16384 + 1 / 2 ^ 149 := by grind
  -- the quotient
  have tp := thousand
  have hq : ab (P / 1000) = ab P / 1000 := ab_div_pos P (by grind)
  have hd := div_spec g1 tp.1 (by rw [tp.2]; grind) (by rw [tp.2, hP, hq, ct]; grind)
  rw [tp.2, hP] at hd
  obtain ⟨d1, d2, _⟩ := hd
  have d3 := ab_tri (fv .f32 (sm m j)) (P / 1000)
  have d4 : ab (fv .f32 (sm m j) - P / 1000) ≤ 2 * uu .f32 * ab (P / 1000) + eta .f32 := d2
  rw [cu] at d4
  refine ⟨d1, ?_⟩
  rw [hq] at d3 d4
  grind
theorem small_spec {m b : Nat} {X : Rat} (hm : fin .f32 m) (hX : ab (fv .f32 m) ≤ X) (h61 : X ≤ 2 ^ 61) (h : SmallAt m b) : fin .f32 b ∧ ab (fv .f32 b) ≤ X + X / 1048576 + 1 / 2 ^ 100 := by
  obtain ⟨j, h1, h2, h3, _⟩ := h
  have hs := sm_spec hm hX h61 h1 h2
  obtain rfl := nrm_fin_eq h3 hs.1
  exact hs
end Go.Proofs.YtndnfhhdflmfcaaGreat

/-
Numbers that the format has: operations whose exact result is one of them are exact. (Plain arithmetic.)
-/
namespace Go.Proofs.YtndnfhhdflmfcaaGreat
open Go Ieee

theorem rep_word (k : FloatKind) (s : Bool) (m : Nat) (e : Int) (hm : m < 2 * k.format.binade) (he : k.format.leastPlace ≤ e) (ht : mval m e ≤ top k) :
    ∃ b, fin k b ∧ fv k b = dval (.number s m e) := by
  by_cases h0 : m = 0
  · subst h0
    refine ⟨0, (zero_fin k).1, ?_⟩
    rw [(zero_fin k).2, dval_num, mval_zero]; cases s <;> simp
  · obtain ⟨q, hq, hB⟩ := bears_top k
    rw [hq] at ht
    have hlog := log2_le_of_mval h0 ht
    have hl : m.log2 < k.format.fractionBits + 1 := (Nat.log2_lt h0).2 (by unfold Format.binade at hm; rw [Nat.pow_succ]; omega)
    have hlast : lastOf k.format m e ≤ e := by unfold lastOf; omega
    have hM : m * 2 ^ (e - lastOf k.format m e).toNat < 2 * k.format.binade := by
      have hne : m * 2 ^ (e - lastOf k.format m e).toNat ≠ 0 := Nat.mul_ne_zero h0 (by have := Nat.two_pow_pos (e - lastOf k.format m e).toNat; omega)
      have : (m * 2 ^ (e - lastOf k.format m e).toNat).log2 < k.format.fractionBits + 1 := by
        rw [log2_mul_pow _ _ h0]; unfold lastOf at hlast ⊢; omega
      have := (Nat.log2_lt hne).1 this
      unfold Format.binade; rw [Nat.pow_succ] at this; omega
    have hj : (lastOf k.format m e - k.format.leastPlace).toNat + 3 ≤ 2 ^ k.format.exponentBits - 1 := by
      unfold Bears at hB
      unfold lastOf at *
      omega
    have hR : (lastOf k.format m e - k.format.leastPlace).toNat * k.format.binade + m * 2 ^ (e - lastOf k.format m e).toNat < k.format.infRung := by
      have h1 := Nat.mul_le_mul_right k.format.binade hj
      rw [Nat.add_mul] at h1
      unfold Format.infRung
      have : 0 < k.format.binade := Nat.two_pow_pos _
      omega
    have key := read_nearest_exact k.format s m e h0 hlast hR
    refine ⟨_, ⟨_, _, _, key⟩, ?_⟩
    unfold fv
    rw [key, dval_num, dval_num, mval_scale']
    have : lastOf k.format m e + (((e - lastOf k.format m e).toNat : Nat) : Int) = e := by omega
    rw [this]

/-- 'v' is a number of few digits: a whole number of units of 2^e. -/
def Few (k : FloatKind) (v : Rat) : Prop := ∃ (n e : Int), v = (n : Rat) * pw e ∧ n.natAbs < 2 * k.format.binade ∧ k.format.leastPlace ≤ e
theorem few_word {k : FloatKind} {v : Rat} (h : Few k v) (ht : ab v ≤ top k) : ∃ b, fin k b ∧ fv k b = v := by
  obtain ⟨n, e, hv, hn, he⟩ := h
  have key : dval (.number (decide (n < 0)) n.natAbs e) = v := by
    rw [hv, dval_num]
    unfold mval
    by_cases h : n < 0
    · simp only [h, decide_true, if_true]
      have : (n : Rat) = -((n.natAbs : Nat) : Rat) := by rw [← Rat.intCast_natCast, ← Rat.intCast_neg]; congr 1; omega
      rw [this]; grind
    · simp only [h, decide_false, Bool.false_eq_true, if_false]
      have : (n : Rat) = ((n.natAbs : Nat) : Rat) := by rw [← Rat.intCast_natCast]; congr 1; omega
      rw [this]
  obtain ⟨b, hb, hbv⟩ := rep_word k (decide (n < 0)) n.natAbs e hn he (by rw [← dval_ab (decide (n < 0)), key]; exact ht)
  exact ⟨b, hb, by rw [hbv, key]⟩
/-- **EXACT OPERATIONS.** -/
theorem RoundOf.few {k : FloatKind} {v : Rat} {r : Nat} (h : RoundOf k v r) (hv : Few k v) (ht : ab v ≤ top k) : fv k r = v := by
  obtain ⟨b, hb, hbv⟩ := few_word hv ht
  exact h.exact hb hbv
theorem DivOf.few {k : FloatKind} {v : Rat} {r : Nat} (h : DivOf k v r) (hv : Few k v) (ht : ab v ≤ top k) : fv k r = v := by
  obtain ⟨b, hb, hbv⟩ := few_word hv ht
  exact h.exact hb hbv
theorem few_pw {k : FloatKind} {e : Int} (he : k.format.leastPlace ≤ e) : Few k (pw e) :=
  ⟨1, e, by simp, by show 1 < 2 * k.format.binade; have : 0 < k.format.binade := Nat.two_pow_pos _; omega, he⟩
end Go.Proofs.YtndnfhhdflmfcaaGreat

/-
laws.at, laws.power, laws.same.
-/
namespace Go.Proofs.YtndnfhhdflmfcaaGreat
open Go Go.RowKit Ieee

/-- What laws.at returns. -/
def atL (bs : List Int) (i : Nat) : Int := if i < bs.length then bs.getD i 0 else ((i * 37 + bs.length * 11 : Nat) : Int) % 256
theorem atL_bound {bs : List Int} (hb : ∀ i, i < bs.length → 0 ≤ bs.getD i 0 ∧ bs.getD i 0 ≤ 255) (i : Nat) : 0 ≤ atL bs i ∧ atL bs i ≤ 255 := by
  unfold atL
  split
  · exact hb i ‹_›
  · omega

set_option maxHeartbeats 400000 in
theorem at_any (A : Option Addr) (c : Nat) (bs : List Int) (i : Nat) (w : World) (hr : Rd w A (bs.map (.int .u8))) (hm : bs.length ≤ 1048576) (hi : i ≤ 1000) (hb : ∀ i, i < bs.length → 0 ≤ bs.getD i 0 ∧ bs.getD i 0 ≤ 255) :
    Calls Tryz.prog 6 #[.slice A bs.length c, .int .i64 i] w fun e w' => e = .returned (.int .i64 (atL bs i)) ∧ w = w' := by
  by_cases h : i < bs.length
  · obtain ⟨b, off, rfl, hb1, hc⟩ := hr (by simp; omega)
    have e1 := hc i (.int .u8 (bs.getD i 0)) (by simp [List.getD, List.getElem?_eq_getElem h])
    have hv := hb i h
    have He : Hid (atL bs i = bs.getD i 0) := if_pos h
    clear hc hr hb
    generalize bs.getD i 0 = x at *
    go_enter Tryz.func6, Tryz.ntmps6
    go_wp2
    go_ret
    exact ⟨by rw [He.out]; go_num, rfl⟩
  · have He : Hid (atL bs i = ((i * 37 + bs.length * 11 : Nat) : Int) % 256) := if_neg h
    have h2 : bs.length ≤ i := by omega
    clear hb hr
    go_enter Tryz.func6, Tryz.ntmps6
    go_wp2
    go_ret
    exact ⟨by rw [He.out]; go_num, rfl⟩

theorem two_fin : fin .f64 4611686018427387904 ∧ fv .f64 4611686018427387904 = 2 := by
  have h : FloatKind.f64.format.read 4611686018427387904 = .number false 4503599627370496 (-51) := by decide +kernel
  obtain ⟨h1, h2⟩ := fin_of_read h
  refine ⟨h1, ?_⟩
  rw [h2, dval_num]
  unfold mval pw
  simp only [Bool.false_eq_true, if_false]
  grind
theorem one_fin : fin .f64 4607182418800017408 ∧ fv .f64 4607182418800017408 = 1 := by
  obtain ⟨h1, h2⟩ := fin_of_read (k := .f64) one_read
  refine ⟨h1, ?_⟩
  show fv .f64 one64 = 1
  rw [h2, dval_num]
  unfold mval pw
  simp only [Bool.false_eq_true, if_false]
  grind
theorem half_step {r : Nat} {e : Int} (hr : fin .f64 r) (hv : fv .f64 r = pw e) (h1 : -900 ≤ e) (h2 : e ≤ 900) (w : World) :
    fin .f64 (fR .quo .f64 r 4611686018427387904 w) ∧ fv .f64 (fR .quo .f64 r 4611686018427387904 w) = pw (e - 1) := by
  obtain ⟨t1, t2⟩ := two_fin
  have hp : pw e / 2 = pw (e - 1) := by
    have := pw_succ (e - 1)
    rw [show e - 1 + 1 = e by omega] at this
    rw [this]; grind
  have hpos := pw_pos e
  have hle : pw e ≤ pw 1000 := pw_mono (by omega)
  have hd := div_spec hr t1 (by rw [t2]; grind) (by rw [t2, hv, hp, ab_of_nonneg (Rat.le_of_lt (pw_pos _)), ← hp]; show _ ≤ pw 1000; grind)
  rw [t2, hv, hp] at hd
  have hx := hd.few (few_pw (by have : FloatKind.f64.format.leastPlace = -1074 := by decide +kernel
                                omega)) (by rw [ab_of_nonneg (Rat.le_of_lt (pw_pos _))]; exact pw_mono (show e - 1 ≤ 1000 by omega))
  have hn := nrm_fin_eq (nrm_fR .quo .f64 r 4611686018427387904 w) hd.1
  rw [hn]
  exact ⟨hd.1, hx⟩

set_option maxHeartbeats 100000 in
theorem same_aid (A B : Option Addr) (c d : Nat) (xs ys : List Nat) (w : World) (Hr : Rd w A (f32s xs)) (Hs : Rd w B (f32s ys)) (hm : xs.length ≤ 1048576) (hl : ys.length ≤ 1048576)
    (Wx : Hid (∀ i, i < xs.length → wfk .f32 (xs.getD i 0))) (Wy : Hid (∀ i, i < ys.length → wfk .f32 (ys.getD i 0)))  (H : Hid (FirstDiff xs ys (-1))) :
    Calls Tryz.prog 10 #[.slice A xs.length c, .slice B ys.length d] w fun e w' => ∃ n, e = .returned (.bool true) ∧ w.drewN n = w' := by
  go_enter Tryz.func10, Tryz.ntmps10
  go_wp2_with fail
  refine (spec_firstDiff A B c d xs ys _ Hr Hs hm hl Wx.out Wy.out).mono ?_
  intro e w' h
  obtain ⟨r, n, rfl, hfd, rfl⟩ := h
  have hr := hfd.unique H.out
  clear hfd
  subst hr
  go_wp2_with fail
  go_ret
  exact ⟨_, rfl, rfl⟩
theorem same_true (A B : Option Addr) (c d : Nat) (xs ys : List Nat) (w : World) (hr : Rd w A (f32s xs)) (hs : Rd w B (f32s ys)) (hm : xs.length ≤ 1048576) (hl : ys.length ≤ 1048576)
    (wx : ∀ i, i < xs.length → wfk .f32 (xs.getD i 0)) (wy : ∀ i, i < ys.length → wfk .f32 (ys.getD i 0)) (hlen : xs.length = ys.length) (ha : ∀ i, i < xs.length → sameB .f32 (xs.getD i 0) (ys.getD i 0) = true) :
    Calls Tryz.prog 10 #[.slice A xs.length c, .slice B ys.length d] w fun e w' => ∃ n, e = .returned (.bool true) ∧ w.drewN n = w' :=
  same_aid A B c d xs ys w hr hs hm hl wx wy (Or.inr ⟨rfl, fun j hj => ⟨by omega, by omega, ha j (by omega)⟩⟩)
theorem rd_one (w : World) (T : TypeId) (b n : Nat) (h : n = w.heap.size) : Rd (w.alloc (.cells #[.float .f32 b] T)) (some ⟨n, 0, none⟩) (f32s [b]) := by
  subst h; exact MadeRow.rd (T := T) ⟨#[.float .f32 b], rfl, rfl⟩
theorem same_one (A B : Option Addr) (c d x : Nat) (w : World) (hr : Rd w A (f32s [x])) (hs : Rd w B (f32s [x])) (hw : wfk .f32 x) :
    Calls Tryz.prog 10 #[.slice A 1 c, .slice B 1 d] w fun e w' => ∃ n, e = .returned (.bool true) ∧ w.drewN n = w' := by
  have h1 : ∀ i, i < [x].length → wfk .f32 ([x].getD i 0) := fun i hi => by
    have : i = 0 := by simpa using hi
    subst this; exact hw
  exact same_true A B c d [x] [x] w hr hs (by simp) (by simp) h1 h1 rfl (fun i _ => by simp [sameB])
theorem Rd.alloc {w : World} {A : Option Addr} {xs : List Value} (h : Rd w A xs) (o : Obj) : Rd (w.alloc o) A xs := h.below ((Below.refl w.heap.size w).alloc (Nat.le_refl _) o)
theorem rd_cell {w : World} {b off : Nat} {xs : List Nat} {k : Nat} (h : Rd w (some ⟨b, off, none⟩) (f32s xs)) (hk : k < xs.length) : w.cell? ⟨b, off + k, none⟩ = some (.float .f32 (xs.getD k 0)) := by
  obtain ⟨b', off', hA, _, hc⟩ := h (by simp; omega)
  cases hA
  exact hc k _ (f32s_at hk)
end Go.Proofs.YtndnfhhdflmfcaaGreat

/-
spec.MakeMode: a mode that is valid.
-/
namespace Go.Proofs.YtndnfhhdflmfcaaGreat
open Go Go.RowKit Ieee

@[go_sem] theorem run_store_complex (P : Program) (w : World) (a : Addr) (m : Go.Mode) (k : FloatKind) (x y : Nat) : (store a (.complex k x y) m).run P w = stored P w a (.complex k x y) m := run_store P w a _ m rfl
theorem alloc_drewN (w : World) (n : Nat) (o : Obj) : (w.drewN n).alloc o = (w.alloc o).drewN n := rfl
theorem setCell_drewN (w : World) (n : Nat) (a : Addr) (v : Value) : (w.drewN n).setCell a v = (w.setCell a v).drewN n := by
  unfold World.setCell; rfl
theorem int_wf (k : FloatKind) (n : Int) : wfk k (floatOfInt k n) := wfk_lit (floatOfInt_wf k n)

set_option maxHeartbeats 1000000 in
theorem turn_any (g : Nat) (w : World) (h : Cur w g) :
    Calls Tryz.prog 86 #[.pointer (some ⟨g, 0, none⟩)] w fun e w' => ∃ a b : Nat, e = .returned (.complex .f32 a b) ∧ wfk .f32 a ∧ wfk .f32 b ∧ CurStep w w' g := by
  go_enter Tryz.func86, Tryz.ntmps86
  go_wp2_with fail
  refine (below_any g 10 _ h (by omega) (by omega)).mono ?_
  rintro e w1 ⟨x, rfl, hx, hs⟩
  go_wp2_with fail
  all_goals first
    | (go_ret; exact ⟨_, _, rfl, by rw [wfk_32]; decide, by rw [wfk_32]; decide, hs⟩)
    | (refine (below_any g 23 _ hs.1 (by omega) (by omega)).mono ?_
       rintro e w2 ⟨y, rfl, hy, hs2⟩
       go_wp2_with fail
       refine (below_any g 23 _ (hs2.drewN _).1 (by omega) (by omega)).mono ?_
       rintro e w3 ⟨z, rfl, hz, hs3⟩
       go_wp2_with fail
       go_ret
       exact ⟨_, _, rfl, fR_lt _ _ _ _ _, fR_lt _ _ _ _ _, ((hs.trans (hs2.drewN _)).trans hs3).drewN _⟩)

set_option maxHeartbeats 400000 in
theorem single_any (g : Nat) (w : World) (h : Cur w g) :
    Calls Tryz.prog 89 #[.pointer (some ⟨g, 0, none⟩)] w fun e w' => ∃ a b : Nat, e = .returned (.complex .f32 a b) ∧ wfk .f32 a ∧ wfk .f32 b ∧ CurStep w w' g := by
  go_enter Tryz.func89, Tryz.ntmps89
  go_wp2_with fail
  refine (any_any g _ h).mono ?_
  rintro e w1 ⟨a, rfl, ha, h1⟩
  go_wp2_with fail
  refine (any_any g _ (h1.drewN _).1).mono ?_
  rintro e w2 ⟨b, rfl, hb, h2⟩
  go_wp2_with fail
  go_ret
  exact ⟨_, _, rfl, cR_lt ha _, cR_lt hb _, ((h1.drewN _).trans h2).drewN _⟩

set_option maxHeartbeats 400000 in
theorem pickInt_any (g : Nat) (A : Option Addr) (c : Nat) (xs : List Int) (w : World) (h : Cur w g) (hr : Rd w A (xs.map (.int .i64))) (h0 : 0 < xs.length) (h1 : xs.length ≤ 1000) (hA : ∀ a, A = some a → a.block ≠ g) :
    Calls Tryz.prog 26 #[.pointer (some ⟨g, 0, none⟩), .slice A xs.length c] w fun e w' => ∃ v : Int, e = .returned (.int .i64 v) ∧ CurStep w w' g := by
  go_enter Tryz.func26, Tryz.ntmps26
  go_wp2_with fail
  refine (below_any g xs.length _ h (by omega) (by omega)).mono ?_
  rintro e w1 ⟨x, rfl, hx, hs⟩
  obtain ⟨b, off, rfl, hb, hc⟩ := hr (by simp; omega)
  have hne := hA _ rfl
  obtain ⟨k, rfl⟩ : ∃ k : Nat, x = k := ⟨x.toNat, by omega⟩
  have hk : k < xs.length := by omega
  have e0 := hc k (.int .i64 (xs.getD k 0)) (by simp [List.getD, List.getElem?_eq_getElem hk])
  have e1 : w1.cell? ⟨b, off + k, none⟩ = some (.int .i64 (xs.getD k 0)) := by
    rw [← e0]; exact World.cell?_of_block (hs.2.block b hb (by intro e; injection e with e; exact hne e))
  clear hc e0
  generalize xs.getD k 0 = v at *
  go_wp2
  go_ret
  exact ⟨_, rfl, hs⟩

set_option maxHeartbeats 400000 in
theorem specScale_any (a b x : Nat) (w : World) : Calls Tryz.prog 88 #[.complex .f32 a b, .float .f32 x] w fun e w' => ∃ p q n, e = .returned (.complex .f32 p q) ∧ wfk .f32 p ∧ wfk .f32 q ∧ w.drewN n = w' := by
  go_enter Tryz.func88, Tryz.ntmps88
  go_wp2_with fail
  go_ret
  exact ⟨_, _, _, rfl, fR_lt _ _ _ _ _, fR_lt _ _ _ _ _, rfl⟩

/-- The state of spec.l2Mode: the result's block, the mode's block. -/
structure MSt (w W : World) (g R M : Nat) : Prop where
  cur : Cur W g
  gr : w.grownBy W (some g)
  r : W.heap[R]? = some (.cells #[.complex .f32 0 0, .complex .f32 0 0] 87 (0, 0))
  gR : R ≠ g
  gM : M ≠ g
  RM : R ≠ M
  hR : w.heap.size ≤ R
  hM : w.heap.size ≤ M
  m : ∃ a b c d, (wfk .f32 a ∧ wfk .f32 b ∧ wfk .f32 c ∧ wfk .f32 d) ∧ W.heap[M]? = some (.cells #[.complex .f32 a b, .complex .f32 c d] 87 (0, 0))
theorem lt_of_some {W : World} {i : Nat} {o : Obj} (h : W.heap[i]? = some o) : i < W.heap.size := by
  rcases Nat.lt_or_ge i W.heap.size with h1 | h1
  · exact h1
  · rw [Array.getElem?_eq_none h1] at h; cases h
theorem MSt.step {w W W' : World} {g R M : Nat} (h : MSt w W g R M) (s : CurStep W W' g) : MSt w W' g R M := by
  obtain ⟨a, b, c, d, hw, hm⟩ := h.m
  have kR := s.2.block R (lt_of_some h.r) (by intro e; injection e with e; exact h.gR e)
  have kM := s.2.block M (lt_of_some hm) (by intro e; injection e with e; exact h.gM e)
  exact ⟨s.1, grown_trans h.gr s.2, kR.trans h.r, h.gR, h.gM, h.RM, h.hR, h.hM, a, b, c, d, hw, kM.trans hm⟩
theorem MSt.drewN {w W : World} {g R M : Nat} (h : MSt w W g R M) (n : Nat) : MSt w (W.drewN n) g R M :=
  ⟨h.cur, grown_drewN h.gr n, h.r, h.gR, h.gM, h.RM, h.hR, h.hM, h.m⟩
theorem MSt.alloc {w W : World} {g R M : Nat} (h : MSt w W g R M) (o : Obj) : MSt w (W.alloc o) g R M := by
  obtain ⟨a, b, c, d, hw, hm⟩ := h.m
  have k : ∀ i, i < W.heap.size → (W.alloc o).heap[i]? = W.heap[i]? := fun i hi => Below.heap_alloc W o i hi
  exact ⟨h.cur.alloc o, grown_trans h.gr ⟨rfl, rfl, rfl, by simp, fun i hi _ => k i hi⟩, (k _ (lt_of_some h.r)).trans h.r, h.gR, h.gM, h.RM, h.hR, h.hM, a, b, c, d, hw, (k _ (lt_of_some hm)).trans hm⟩
theorem cur_set {W : World} {g : Nat} (h : Cur W g) (i o : Nat) (v : Value) (hi : i ≠ g) (hl : g < i) : Cur (W.setCell ⟨i, o, none⟩ v) g := by
  have k : ∀ j, j ≠ i → (W.setCell ⟨i, o, none⟩ v).heap[j]? = W.heap[j]? := fun j hj => Below.heap_setCell _ _ _ _ hj
  obtain ⟨A, n, c, bs, x, y, hb, hl', hm, hrd, h1, h2⟩ := h
  exact ⟨A, n, c, bs, x, y, (k g (fun e => hi e.symm)).trans hb, hl', hm, hrd.keep (fun j hj => k j (by omega)), h1, h2⟩
theorem grown_set' {w W : World} {g i o : Nat} {v : Value} (h : w.grownBy W (some g)) (hi : w.heap.size ≤ i) : w.grownBy (W.setCell ⟨i, o, none⟩ v) (some g) :=
  ⟨h.os, h.tape, h.output, by simpa using h.size, fun j hj hne => (Below.heap_setCell _ _ _ _ (by show j ≠ i; omega)).trans (h.block j hj hne)⟩
theorem m_cells {W : World} {M : Nat} {x y : Value} (h : W.heap[M]? = some (.cells #[x, y] 87 (0, 0))) :
    W.cell? ⟨M, 0, none⟩ = some x ∧ W.cell? ⟨M, 1, none⟩ = some y ∧ W.frozen? ⟨M, 0, none⟩ = false ∧ W.frozen? ⟨M, 1, none⟩ = false :=
  ⟨cell_of_row W M 0 _ _ (0, 0) h, cell_of_row W M 1 _ _ (0, 0) h, by unfold World.frozen?; simp only [h]; simp, by unfold World.frozen?; simp only [h]; simp⟩
theorem MSt.done {w W : World} {g R M : Nat} (h : MSt w W g R M) (hg : g < w.heap.size) (x y : Value) : CurStep w ((W.setCell ⟨R, 0, none⟩ x).setCell ⟨R, 1, none⟩ y) g :=
  ⟨cur_set (cur_set h.cur _ _ _ h.gR (by have := h.hR; omega)) _ _ _ h.gR (by have := h.hR; omega), grown_set' (grown_set' h.gr h.hR) h.hR⟩
theorem MSt.set0 {w W : World} {g R M : Nat} (h : MSt w W g R M) (hg : g < w.heap.size) {x y : Nat} (hx : wfk .f32 x) (hy : wfk .f32 y) : MSt w (W.setCell ⟨M, 0, none⟩ (.complex .f32 x y)) g R M := by
  obtain ⟨a, b, c, d, hw, hm⟩ := h.m
  refine ⟨cur_set h.cur _ _ _ h.gM (by have := h.hM; omega), grown_set' h.gr h.hM, (Below.heap_setCell _ _ _ _ h.RM).trans h.r, h.gR, h.gM, h.RM, h.hR, h.hM, x, y, c, d, ⟨hx, hy, hw.2.2.1, hw.2.2.2⟩, ?_⟩
  simp [World.setCell, Array.getElem?_modify, hm]
theorem MSt.set1 {w W : World} {g R M : Nat} (h : MSt w W g R M) (hg : g < w.heap.size) {x y : Nat} (hx : wfk .f32 x) (hy : wfk .f32 y) : MSt w (W.setCell ⟨M, 1, none⟩ (.complex .f32 x y)) g R M := by
  obtain ⟨a, b, c, d, hw, hm⟩ := h.m
  refine ⟨cur_set h.cur _ _ _ h.gM (by have := h.hM; omega), grown_set' h.gr h.hM, (Below.heap_setCell _ _ _ _ h.RM).trans h.r, h.gR, h.gM, h.RM, h.hR, h.hM, a, b, x, y, ⟨hw.1, hw.2.1, hx, hy⟩, ?_⟩
  simp [World.setCell, Array.getElem?_modify, hm]

theorem MSt.res {w W : World} {g R M : Nat} (h : MSt w W g R M) (x y : Value) : ((W.setCell ⟨R, 0, none⟩ x).setCell ⟨R, 1, none⟩ y).heap[R]? = some (.cells #[x, y] 87 (0, 0)) := by
  simp [World.setCell, Array.getElem?_modify, h.r]
theorem MSt.same {w W W' : World} {g R M : Nat} (h : MSt w W g R M) (hh : W'.heap = W.heap) (ho : W'.os = W.os) (ht : W'.tape = W.tape) (hu : W'.output = W.output) : MSt w W' g R M := by
  obtain ⟨A, n, c, bs, x, y, hb, hl', hm, hrd, h1, h2⟩ := h.cur
  refine ⟨⟨A, n, c, bs, x, y, by rw [hh]; exact hb, hl', hm, hrd.keep (fun j _ => by rw [hh]), h1, h2⟩,
    ⟨ho.trans h.gr.os, ht.trans h.gr.tape, hu.trans h.gr.output, by rw [hh]; exact h.gr.size, fun i hi hn => by rw [hh]; exact h.gr.block i hi hn⟩, by rw [hh]; exact h.r, h.gR, h.gM, h.RM, h.hR, h.hM, by rw [hh]; exact h.m⟩
theorem MSt.after {w W W' Wc : World} {g R M : Nat} (s : CurStep Wc W' g) (h : MSt w W g R M) (hh : Wc.heap = W.heap) (ho : Wc.os = W.os) (ht : Wc.tape = W.tape) (hu : Wc.output = W.output) : MSt w W' g R M :=
  MSt.step (h.same hh ho ht hu) s
theorem rd_ints (W : World) (T : TypeId) (W' : World) (xs : List Int) (h : W'.heap = (W.alloc (.cells (xs.map (.int .i64)).toArray T)).heap) : Rd W' (some ⟨W.heap.size, 0, none⟩) (xs.map (.int .i64)) := by
  have h1 : Rd (W.alloc (.cells (xs.map (.int .i64)).toArray T)) (some ⟨W.heap.size, 0, none⟩) (xs.map (.int .i64)) := MadeRow.rd (T := T) ⟨_, rfl, by simp⟩
  intro hl
  obtain ⟨b, off, e, hb, hc⟩ := h1 hl
  exact ⟨b, off, e, by rw [h]; exact hb, fun k u hu => (World.cell?_of_block (by rw [h])).trans (hc k u hu)⟩
section
attribute [local go_sem] alloc_drewN setCell_drewN
set_option maxRecDepth 100000 in
set_option maxHeartbeats 600000 in
theorem mode_any (g : Nat) (w : World) (h : Cur w g) :
    Calls Tryz.prog 61 #[.pointer (some ⟨g, 0, none⟩)] w fun e w' => ∃ a b c d : Nat, e = .returned (.agg #[.complex .f32 a b, .complex .f32 c d]) ∧ wfk .f32 a ∧ wfk .f32 b ∧ wfk .f32 c ∧ wfk .f32 d ∧ CurStep w w' g := by
  have hlt := h.lt
  go_enter Tryz.func61, Tryz.ntmps61
  go_wp2_with fail
  have c0 := fun o => h.alloc o
  refine (turn_any g _ (c0 _)).mono ?_
  rintro e w1 ⟨a1, b1, rfl, ha1, hb1, s1⟩
  go_wp2_with fail
  refine (below_any g 65 _ s1.1 (by omega) (by omega)).mono ?_
  rintro e w2 ⟨x, rfl, hx, s2⟩
  go_wp2_with fail
  refine (below_any g 65 _ (s2.drewN _).1 (by omega) (by omega)).mono ?_
  rintro e w3 ⟨y, rfl, hy, s3⟩
  have s4 := (s1.trans (s2.drewN _)).trans s3
  have hR3 : w3.heap[w.heap.size]? = some (.cells #[.complex .f32 0 0, .complex .f32 0 0] 87 (0, 0)) :=
    (s4.2.block w.heap.size (by simp) (by intro e; injection e with e; omega)).trans (heap_alloc_new w _)
  have hsz : w.heap.size < w3.heap.size := lt_of_some hR3
  have S0 : ∀ p q, wfk .f32 p → wfk .f32 q → MSt w (w3.alloc (.cells #[.complex .f32 a1 b1, .complex .f32 p q] 87)) g w.heap.size w3.heap.size := fun p q hp hq =>
    ⟨s4.1.alloc _, ⟨s4.2.os, s4.2.tape, s4.2.output, by have := s4.2.size; simp at this ⊢; omega, fun i hi hne => by
        have h1 := s4.2.block i (by simp; omega) hne
        exact ((Below.heap_alloc w3 _ i (by omega)).trans h1).trans (Below.heap_alloc w _ i hi)⟩,
      (Below.heap_alloc w3 _ _ hsz).trans hR3, by omega, by omega, by omega, Nat.le_refl _, by omega, a1, b1, p, q, ⟨ha1, hb1, hp, hq⟩, heap_alloc_new w3 _⟩
  have HS0 := Lib.hid S0
  clear S0 s1 s2 s3 s4 hR3 c0 h
  go_wp2_with fail
  have S1 := (HS0.out _ _ (fR_lt .quo .f32 (floatOfInt .f32 (x - 32)) 1090519040 w2) (fR_lt .quo .f32 (floatOfInt .f32 (y - 32)) 1090519040 w3)).drewN (fN .quo .f32 (floatOfInt .f32 (y - 32)) 1090519040)
  clear HS0
  generalize (w3.alloc (.cells #[.complex .f32 a1 b1, .complex .f32 (fR .quo .f32 (floatOfInt .f32 (x - 32)) 1090519040 w2) (fR .quo .f32 (floatOfInt .f32 (y - 32)) 1090519040 w3)] 87)).drewN (fN .quo .f32 (floatOfInt .f32 (y - 32)) 1090519040) = W at *
  generalize w3.heap.size = M at *
  have Hg := Lib.hid hlt
  clear hlt hsz ha1 hb1
  refine (once_any g 3 _ S1.cur (by omega) (by omega)).mono ?_
  rintro e W1 ⟨b1, rfl, s1⟩
  have S2 := S1.step s1
  clear S1 s1
  go_upto_if 19 with fail
  go_cut [] from 20 (fun wx => MSt w wx g w.heap.size M)
  case first =>
    cases b1
    · go_wp2_with fail
      go_meet
      exact S2
    · obtain ⟨a, b, c, d, ⟨w1, w2, w3, w4⟩, hm⟩ := S2.m
      obtain ⟨c0, c1, f0, f1⟩ := m_cells hm
      have c2 := fun o => (m_cells ((Below.heap_alloc W1 o M (lt_of_some hm)).trans hm)).1
      have hML : M < W1.heap.size := lt_of_some hm
      have hML' : ¬ M = W1.heap.size := by omega
      have HS2 := Lib.hid S2
      clear S2 hm
      go_wp2_with fail
      have HN : Hid (∀ a : Addr, some (⟨W1.heap.size, 0, none⟩ : Addr) = some a → a.block ≠ g) := fun a ha => by
        cases ha
        have := HS2.out.cur.lt
        show W1.heap.size ≠ g
        omega
      go_region_with (first
        | (go_at_call 26
           have S3 := HS2.out.alloc (.cells #[.int .i64 999, .int .i64 990, .int .i64 500, .int .i64 1000] 3)
           refine (pickInt_any g _ 4 [999, 990, 500, 1000] _ ?_ ?_ (by simp) (by simp) ?_).mono ?_
           · exact (S3.same rfl rfl rfl rfl).cur
           · exact rd_ints W1 3 _ [999, 990, 500, 1000] rfl
           · exact HN.out
           rintro e W4 ⟨v, rfl, s4⟩
           have S4 := MSt.after s4 S3 rfl rfl rfl rfl
           obtain ⟨a', b', c', d', ⟨w1', w2', w3', w4'⟩, hm'⟩ := S4.m
           obtain ⟨c0', c1', f0', f1'⟩ := m_cells hm'
           have HS4 := Lib.hid S4
           clear S4 hm' s4 S3)
        | (go_at_call 88
           refine (specScale_any _ _ _ _).mono ?_
           rintro e w' ⟨p, q, n, rfl, w5, w6, rfl⟩))
      all_goals
        go_wp2_with fail
        go_meet
        exact (HS4.out.set0 Hg.out ‹wfk .f32 p› ‹wfk .f32 q›).same rfl rfl rfl rfl
  case rest =>
    clear S2
    go_wp2_with fail
    refine (once_any g 25 _ hcut.cur (by omega) (by omega)).mono ?_
    rintro e W1 ⟨b2, rfl, s1⟩
    have S2 := hcut.step s1
    clear hcut s1
    go_upto_if 30 with fail
    go_cut [] from 31 (fun wx => MSt w wx g w.heap.size M)
    case first =>
      cases b2
      · go_wp2_with fail
        go_meet
        exact S2
      · go_wp2_with fail
        refine (single_any g _ S2.cur).mono ?_
        rintro e W3 ⟨p, q, rfl, hp, hq, s3⟩
        have S3 := S2.step s3
        clear s3 S2
        obtain ⟨a, b, c, d, _, hm⟩ := S3.m
        obtain ⟨c0, c1, f0, f1⟩ := m_cells hm
        have HS3 := Lib.hid S3
        clear S3 hm
        go_wp2_with fail
        go_meet
        exact HS3.out.set0 Hg.out hp hq
    case rest =>
      clear S2
      go_wp2_with fail
      refine (once_any g 25 _ hcut.cur (by omega) (by omega)).mono ?_
      rintro e W1 ⟨b3, rfl, s1⟩
      have S2 := hcut.step s1
      clear hcut s1
      go_upto_if 35 with fail
      go_cut [] from 36 (fun wx => MSt w wx g w.heap.size M)
      case first =>
        cases b3
        · go_wp2_with fail
          go_meet
          exact S2
        · go_wp2_with fail
          refine (single_any g _ S2.cur).mono ?_
          rintro e W3 ⟨p, q, rfl, hp, hq, s3⟩
          have S3 := S2.step s3
          clear s3 S2
          obtain ⟨a, b, c, d, _, hm⟩ := S3.m
          obtain ⟨c0, c1, f0, f1⟩ := m_cells hm
          have HS3 := Lib.hid S3
          clear S3 hm
          go_wp2_with fail
          go_meet
          exact HS3.out.set1 Hg.out hp hq
      case rest =>
        clear S2
        obtain ⟨a, b, c, d, ⟨w1, w2, w3, w4⟩, hm⟩ := hcut.m
        obtain ⟨c0, c1, f0, f1⟩ := m_cells hm
        obtain ⟨r0, r1, g0, g1⟩ := m_cells hcut.r
        have HS := Lib.hid hcut
        clear hcut hm
        go_wp2_with fail
        refine bodyPost_ret (results_cell_row rfl _ _ w.heap.size 87 #[.complex .f32 a b, .complex .f32 c d] (0, 0) _ rfl (HS.out.res _ _) Tryz.underlying87 rfl (by kernel_rfl)) rfl ?_
        exact ⟨a, b, c, d, rfl, w1, w2, w3, w4, HS.out.done Hg.out _ _⟩
end
end Go.Proofs.YtndnfhhdflmfcaaGreat
