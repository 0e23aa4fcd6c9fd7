/-
Regions that draw their order and whose operations may draw from the tape what they yield (the bits of a NaN): one walk of the text's order, each operation's value known up to a predicate, serves every order.
(After the library's own Derived/Deep/Quiet.lean: there one value, here a predicate.)
-/
import Derived.Test.YtignncjmbcdpaaaWords
namespace Go.Proofs.Ytignncjmbcdpaaa
open Go Go.RowKit

section
variable {P : Program} {ops : Array Oper} {md : Region.Mode} {C : World → Prop}

/-- What is asked once an operation has been carried out: a value of the kind 'R', and a world of the class. -/
def rUpon (P : Program) (C : World → Prop) (R : Value → Prop) : Result Next → Prop
  | .ok (.value u) w' => C w' ∧ R u
  | .ok .skip w' => C w' ∧ R undef
  | .ok (.enter f args) w' => Calls P f args w' (fun e w'' => ∃ v, e = .returned v ∧ R v ∧ C w'')
  | _ => False

def rAt (P : Program) (o : Oper) (a : Act) (C : World → Prop) (w : World) (R : Value → Prop) : Prop := rUpon P C R ((execOp a.eval o).run P w)

def rOper (P : Program) (o : Oper) (a : Act) (C : World → Prop) (R : Value → Prop) (next : Act → Prop) : Prop := (∀ w, C w → rAt P o a C w R) ∧ ∀ v, R v → next (a.put o.dst v)

/-- The walk in the order of the text. -/
def wpR (P : Program) (ops : Array Oper) (C : World → Prop) (Q : Act → Prop) : List (Value → Prop) → List Oper → Act → Prop
  | _, [], a => Q a
  | R :: Rs, o :: rest, a => if Region.wanted o (yielded ops a.tmps) then rOper P o a C R (wpR P ops C Q Rs rest) else wpR P ops C Q Rs rest (a.put o.dst undef)
  | [], _ :: _, _ => False

theorem wpR_nil {Q : Act → Prop} {Rs : List (Value → Prop)} {a : Act} (h : Q a) : wpR P ops C Q Rs [] a := by cases Rs <;> exact h
theorem wpR_step {Q : Act → Prop} {a : Act} {o : Oper} {rest : List Oper} {R : Value → Prop} {Rs : List (Value → Prop)}
    (h : ∀ K : Act → Prop, (∀ a, wpR P ops C Q Rs rest a → K a) → if Region.wanted o (yielded ops a.tmps) then rOper P o a C R K else K (a.put o.dst undef)) : wpR P ops C Q (R :: Rs) (o :: rest) a :=
  h _ (fun _ h => h)

/-- Operation number 'i' comes up in state 'a'. -/
def rOp (P : Program) (ops : Array Oper) (C : World → Prop) (R : Value → Prop) (i : Nat) (K : Act → Prop) (a : Act) : Prop :=
  match ops[i]? with
  | none => K a
  | some o => if Region.wanted o (yielded ops a.tmps) then rOper P o a C R K else K (a.put o.dst undef)

theorem rOper_mono {o : Oper} {a : Act} {R : Value → Prop} {K K' : Act → Prop} (h : ∀ a, K a → K' a) (hh : rOper P o a C R K) : rOper P o a C R K' :=
  ⟨hh.1, fun v hv => h _ (hh.2 v hv)⟩

theorem rOp_mono {i : Nat} {a : Act} {R : Value → Prop} {K K' : Act → Prop} (h : ∀ a, K a → K' a) (hh : rOp P ops C R i K a) : rOp P ops C R i K' a := by
  unfold rOp at *
  split
  · exact h _ (by simpa [*] using hh)
  · rename_i o ho
    simp only [ho] at hh
    split
    · rename_i hw; simp only [hw, if_true] at hh; exact rOper_mono h hh
    · rename_i hw; simp only [hw] at hh; exact h _ hh

/-- Whatever order is picked from here on. -/
def wpAnyR (P : Program) (md : Region.Mode) (ops : Array Oper) (C : World → Prop) (Rf : Nat → Value → Prop) (Q : Act → Prop) : Nat → Array Bool → Act → Prop
  | 0, listed, a => Region.ready md ops listed = [] ∧ Q a
  | fuel + 1, listed, a =>
    (Region.ready md ops listed = [] → Q a) ∧
    ∀ i ∈ Region.ready md ops listed, rOp P ops C (Rf i) i (wpAnyR P md ops C Rf Q fuel (listed.setIfInBounds i true)) a

theorem wp_of_r {o : Oper} {a : Act} {R : Value → Prop} {K : Act → Prop} {K' : Act → World → Prop} {Q' : Exit → Act → World → Prop} {w : World} (hw : C w) (h : ∀ a w', C w' → K a → K' a w')
    (hh : rOper P o a C R K) : o.wp P a w K' Q' := by
  obtain ⟨h1, h2⟩ := hh
  have h3 := h1 w hw
  unfold rAt at h3
  unfold Oper.wp
  generalize (execOp a.eval o).run P w = r at *
  cases r with
  | ok n w' =>
    cases n <;> simp only [rUpon] at h3 <;> simp only [Oper.upon]
    case value u => exact h _ _ h3.1 (h2 _ h3.2)
    case skip => exact h _ _ h3.1 (h2 _ h3.2)
    case enter f args => exact h3.mono fun e w'' ⟨v, he, hv, hw''⟩ => by subst he; exact h _ _ hw'' (h2 _ hv)
  | halt x w' => simp only [rUpon] at h3

theorem wpOp_of_rOp {i : Nat} {a : Act} {R : Value → Prop} {K : Act → Prop} {K' : Act → World → Prop} {Q' : Exit → Act → World → Prop} {w : World} (hC : C w) (h : ∀ a w', C w' → K a → K' a w')
    (hh : rOp P ops C R i K a) : wpOp P ops Q' i K' a w := by
  unfold rOp at hh
  unfold wpOp
  split
  · rename_i ho; simp only [ho] at hh; exact h _ _ hC hh
  · rename_i o ho
    simp only [ho] at hh
    split
    · rename_i hw; simp only [hw, if_true] at hh; exact .inl (wp_of_r hC h hh)
    · rename_i hw; simp only [hw] at hh; exact h _ _ hC hh

theorem wpAny_of_r {Rf : Nat → Value → Prop} {Q : Act → Prop} {Q' : Exit → Act → World → Prop} (hQ : ∀ a w, C w → Q a → Q' .normal a w) : ∀ (fuel : Nat) (listed : Array Bool) (a : Act) (w : World), C w →
    wpAnyR P md ops C Rf Q fuel listed a → wpAny P md ops Q' fuel listed a w
  | 0, _, _, _, hw, h => ⟨h.1, hQ _ _ hw h.2⟩
  | fuel + 1, _, _, _, hw, h => ⟨fun h0 => hQ _ _ hw (h.1 h0), fun i hi => wpOp_of_rOp hw (fun a' w' hw' => wpAny_of_r hQ fuel _ a' w' hw') (h.2 i hi)⟩

/-- In state 'a' operation 'o' leaves a value of the kind 'R': the kind 'Ri' where it is carried out, nothing else. -/
def YieldsR (P : Program) (ops : Array Oper) (C : World → Prop) (o : Oper) (Ri R : Value → Prop) (a : Act) : Prop :=
  (Region.wanted o (yielded ops a.tmps) = true ∧ R = Ri ∧ ∀ w, C w → rAt P o a C w R) ∨
  (Region.wanted o (yielded ops a.tmps) = false ∧ R = (· = undef))

theorem YieldsR.of_same {o : Oper} {Ri R : Value → Prop} {a a' : Act} (hy : YieldsR P ops C o Ri R a) (he : execOp a'.eval o = execOp a.eval o)
    (hw : Region.wanted o (yielded ops a'.tmps) = Region.wanted o (yielded ops a.tmps)) : YieldsR P ops C o Ri R a' := by
  unfold YieldsR rAt at *
  rw [he, hw]
  exact hy

theorem YieldsR.some_ {o : Oper} {Ri R : Value → Prop} {a : Act} (hC : ∃ w, C w) (hy : YieldsR P ops C o Ri R a) : ∃ v, R v := by
  obtain ⟨w, hw⟩ := hC
  rcases hy with ⟨_, rfl, h⟩ | ⟨_, rfl⟩
  · have h3 := h w hw
    unfold rAt at h3
    generalize (execOp a.eval o).run P w = r at *
    cases r with
    | ok n w' =>
      cases n <;> simp only [rUpon] at h3
      case value u => exact ⟨u, h3.2⟩
      case skip => exact ⟨undef, h3.2⟩
      case enter f args =>
        obtain ⟨e, w'', fr, ⟨v, _, hv, _⟩, _⟩ := h3 []
        exact ⟨v, hv⟩
    | halt x w' => simp only [rUpon] at h3
  · exact ⟨undef, rfl⟩

theorem YieldsR.rOp {i : Nat} {o : Oper} {Ri R : Value → Prop} {a : Act} (hi : ops[i]? = some o) (hy : YieldsR P ops C o Ri R a) {K : Act → Prop} (h : ∀ v, R v → K (a.put o.dst v)) : rOp P ops C Ri i K a := by
  unfold Proofs.Ytignncjmbcdpaaa.rOp
  simp only [hi]
  rcases hy with ⟨hw, rfl, hv⟩ | ⟨hw, rfl⟩
  · simp only [hw, if_true]; exact ⟨hv, h⟩
  · simp only [hw, Bool.false_eq_true, if_false]; exact h _ rfl

theorem rOp_put {j : Nat} {oi oj : Oper} {Ri R Rj : Value → Prop} (hj : ops[j]? = some oj) (hap : oi.apart ops oj = true)
    (hsi : ∀ cs b, oi.op ≠ .select cs b) (hsj : ∀ cs b, oj.op ≠ .select cs b) {K : Act → Prop} {a : Act} (hR : ∃ v, R v)
    (hy : YieldsR P ops C oi Ri R a) (h : ∀ v, R v → rOp P ops C Rj j K (a.put oi.dst v)) :
    rOp P ops C Rj j (fun a' => YieldsR P ops C oi Ri R a' ∧ ∀ v, R v → K (a'.put oi.dst v)) a := by
  obtain ⟨h1, h2, h3⟩ := Oper.apart_spec hap
  have keep : ∀ (a : Act), YieldsR P ops C oi Ri R a → ∀ u, YieldsR P ops C oi Ri R (a.put oj.dst u) := fun a hy u =>
    hy.of_same (execOp_put oi hsi a oj.dst u h3) (wanted_put oi a oj.dst u h3)
  obtain ⟨v0, hv0⟩ := hR
  unfold rOp at *
  simp only [hj] at *
  split
  · rename_i hw
    have hh : ∀ v, R v → rOper P oj (a.put oi.dst v) C Rj K := fun v hv => by
      have := h v hv
      rw [wanted_put oj a oi.dst v h1, if_pos hw] at this
      exact this
    refine ⟨fun w hw' => ?_, fun u hu => ⟨keep a hy u, fun v hv => ?_⟩⟩
    · have := (hh v0 hv0).1 w hw'
      unfold rAt at *
      rwa [execOp_put oj hsj a oi.dst v0 h1] at this
    · rw [← Act.put_comm a v u h2]
      exact (hh v hv).2 u hu
  · rename_i hw
    refine ⟨keep a hy _, fun v hv => ?_⟩
    have := h v hv
    rw [wanted_put oj a oi.dst v h1, if_neg hw] at this
    rw [← Act.put_comm a v undef h2]
    exact this

theorem wpAnyR_first {Rf : Nat → Value → Prop} {Q : Act → Prop} {i : Nat} {oi : Oper} {R : Value → Prop} (hC : ∃ w, C w) (hi : ops[i]? = some oi) (hsel : ∀ (j : Nat) (o : Oper) cs b, ops[j]? = some o → o.op ≠ .select cs b) :
    ∀ (fuel : Nat) (listed : Array Bool) (a : Act),
      (∀ j oj, ops[j]? = some oj → j ≠ i → listed.getD j true = false → (∀ e ∈ oj.after, Region.binds md e = true → e.on ≠ i) → oi.apart ops oj = true) →
      i ∈ Region.ready md ops listed → YieldsR P ops C oi (Rf i) R a →
      (∀ v, R v → wpAnyR P md ops C Rf Q fuel (listed.setIfInBounds i true) (a.put oi.dst v)) → wpAnyR P md ops C Rf Q (fuel + 1) listed a := by
  intro fuel
  induction fuel with
  | zero =>
    intro listed a _ hr hy H
    refine ⟨fun h => (by rw [h] at hr; cases hr), fun j hj => ?_⟩
    by_cases hji : j = i
    · subst hji; exact hy.rOp hi H
    · have := ready_mono hj hji
      obtain ⟨v, hv⟩ := hy.some_ hC
      rw [(H v hv).1] at this
      cases this
  | succ fuel ih =>
    intro listed a hfree hr hy H
    refine ⟨fun h => (by rw [h] at hr; cases hr), fun j hj => ?_⟩
    by_cases hji : j = i
    · subst hji; exact hy.rOp hi H
    · have h1 := fun v hv => (H v hv).2 j (ready_mono hj hji)
      obtain ⟨hjun, oj, hoj, hall⟩ := mem_ready.1 hj
      have hnot : ∀ e ∈ oj.after, Region.binds md e = true → e.on ≠ i := fun e he hb heq => by
        have h1 := hall e he hb
        have h0 := (mem_ready.1 hr).1
        rw [heq] at h1
        rcases Nat.lt_or_ge i listed.size with h' | h'
        · simp [h'] at h0 h1; rw [h0] at h1; cases h1
        · simp [Array.getElem?_eq_none h'] at h1
      have h2 := rOp_put hoj (hfree j oj hoj hji hjun hnot) (fun cs b => hsel i oi cs b hi) (fun cs b => hsel j oj cs b hoj) (hy.some_ hC) hy h1
      have hfree' : ∀ k ok, ops[k]? = some ok → k ≠ i → (listed.setIfInBounds j true).getD k true = false →
          (∀ e ∈ ok.after, Region.binds md e = true → e.on ≠ i) → oi.apart ops ok = true := fun k ok hk hki hun hno => by
        refine hfree k ok hk hki ?_ hno
        by_cases hjk : j = k
        · subst hjk; exact hjun
        · rw [getD_set_ne true hjk] at hun; exact hun
      refine rOp_mono (fun a' h3 => ih (listed.setIfInBounds j true) a' hfree' (ready_mono hr (Ne.symm hji)) h3.1 fun v hv => ?_) h2
      rw [Array.setIfInBounds_comm _ _ hji]
      exact h3.2 v hv

theorem wpAnyR_lex {Rf : Nat → Value → Prop} {Q : Act → Prop} (hC : ∃ w, C w) (hs : Region.noSelect ops = true) : ∀ (l : List Oper) (Rs : List (Value → Prop)) (k : Nat) (listed : Array Bool) (a : Act), (∀ j, l[j]? = ops[k + j]?) →
    (∀ j R, Rs[j]? = some R → Rf (k + j) = R) →
    Region.lexFrom md ops l.length k listed = true → wpR P ops C Q Rs l a → wpAnyR P md ops C Rf Q l.length listed a
  | [], Rs, _, _, _, _, _, hB, h => ⟨by simpa [Region.lexFrom] using hB, by cases Rs <;> exact h⟩
  | o :: l, [], _, _, _, _, _, _, h => h.elim
  | o :: l, R :: Rs, k, listed, a, hl, hRs, hB, h => by
    have h0 : ops[k]? = some o := by simpa using (hl 0).symm
    have hRk : Rf k = R := by simpa using hRs 0 R rfl
    simp only [List.length_cons, Region.lexFrom, Bool.and_eq_true] at hB
    obtain ⟨⟨hr, hf⟩, hB'⟩ := hB
    have next : ∀ v, wpR P ops C Q Rs l (a.put o.dst v) → wpAnyR P md ops C Rf Q l.length (listed.setIfInBounds k true) (a.put o.dst v) := fun v hv =>
      wpAnyR_lex hC hs l Rs (k + 1) _ _ (fun j => by have := hl (j + 1); simpa [Nat.add_assoc, Nat.add_comm 1 j] using this)
        (fun j R' hj => by have := hRs (j + 1) R' (by simpa using hj); simpa [Nat.add_assoc, Nat.add_comm 1 j] using this) hB' hv
    unfold wpR at h
    by_cases hw : Region.wanted o (yielded ops a.tmps) = true
    · rw [if_pos hw] at h
      exact wpAnyR_first hC h0 (Region.noSelect_spec hs) l.length listed a (Region.free_spec h0 hf) (by simpa using hr) (R := R) (.inl ⟨hw, hRk.symm, h.1⟩) (fun v hv => next v (h.2 v hv))
    · rw [if_neg hw] at h
      exact wpAnyR_first hC h0 (Region.noSelect_spec hs) l.length listed a (Region.free_spec h0 hf) (by simpa using hr) (R := (· = undef)) (.inr ⟨by simpa using hw, rfl⟩) (fun v hv => by subst hv; exact next _ h)

/-- The region's law, at the class 'w after some draws'. -/
theorem wp_region_r {id : Nat} {Q : Exit → Act → World → Prop} {a : Act} {w : World} {l : List Oper} (Rs : List (Value → Prop)) (hm : P.follows .mixedOrders = true) (hB : Region.lexB .any l.toArray = true)
    (h : wpR P l.toArray (fun w' => ∃ n, w' = w.drewN n) (fun a' => ∀ w', (∃ n, w' = w.drewN n) → Q .normal a' w') Rs l a) : (Code.region id l.toArray true).wp P Q a w := by
  simp only [Region.lexB, Bool.and_eq_true] at hB
  refine wp_region_any hm (wpAny_of_r (C := fun w' => ∃ n, w' = w.drewN n) (Rf := fun i => (Rs[i]?).getD fun _ => True) (Q := fun a' => ∀ w', (∃ n, w' = w.drewN n) → Q .normal a' w') (fun _ w' hw' h => h w' hw') _ _ _ _ ⟨1, rfl⟩ ?_)
  have := wpAnyR_lex (C := fun w' => ∃ n, w' = w.drewN n) (md := .any) (Rf := fun i => (Rs[i]?).getD fun _ => True) ⟨w, 0, rfl⟩ hB.1 l Rs 0 (Array.replicate l.toArray.size false) a (by simp) (fun j R hj => by simp [hj]) (by simpa using hB.2) h
  simpa using this

theorem wp_region_rx {id : Nat} {Q : Exit → Act → World → Prop} {a : Act} {w : World} {l : List Oper} (hm : P.follows .mixedOrders = true) (hB : Region.lexB .any l.toArray = true)
    (h : ∃ Rs, wpR P l.toArray (fun w' => ∃ n, w' = w.drewN n) (fun a' => ∀ w', (∃ n, w' = w.drewN n) → Q .normal a' w') Rs l a) : (Code.region id l.toArray true).wp P Q a w :=
  let ⟨Rs, h⟩ := h
  wp_region_r Rs hm hB h

@[go_sem] theorem drewN_some (w : World) (n : Nat) : (∃ m, w.drewN n = w.drewN m) = True := eq_true ⟨n, rfl⟩

@[go_sem] theorem drewN_some1 (w : World) (n a : Nat) : (∃ m, w.drewN (n + a) = w.drewN (n + m)) = True := eq_true ⟨a, rfl⟩
@[go_sem] theorem drewN_some2 (w : World) (n a b : Nat) : (∃ m, w.drewN (n + a + b) = w.drewN (n + m)) = True := eq_true ⟨a + b, by rw [Nat.add_assoc]⟩
@[go_sem] theorem drewN_some3 (w : World) (n a b c : Nat) : (∃ m, w.drewN (n + a + b + c) = w.drewN (n + m)) = True := eq_true ⟨a + b + c, by rw [Nat.add_assoc, Nat.add_assoc, Nat.add_assoc]⟩

section
variable {w : World} {Q : Act → Prop} {a : Act} {o : Oper} {rest : List Oper} {Rs : List (Value → Prop)}
/-- An operation that its guard leaves out. -/
theorem wpR_skip (h : ∀ K : Act → Prop, (∀ a, wpR P ops (fun w' => ∃ n, w' = w.drewN n) Q Rs rest a → K a) → Region.wanted o (yielded ops a.tmps) = false ∧ K (a.put o.dst undef)) :
    wpR P ops (fun w' => ∃ n, w' = w.drewN n) Q ((fun _ => True) :: Rs) (o :: rest) a := by
  obtain ⟨h1, h2⟩ := h (wpR P ops (fun w' => ∃ n, w' = w.drewN n) Q Rs rest) (fun _ h => h)
  unfold wpR
  rw [h1]
  simpa using h2
/-- An operation of one value. -/
theorem wpR_val {v : Value} (h : ∀ K : Act → Prop, (∀ a, wpR P ops (fun w' => ∃ n, w' = w.drewN n) Q Rs rest a → K a) →
      (Region.wanted o (yielded ops a.tmps) = true ∧ ∀ n, rAt P o a (fun w' => ∃ n, w' = w.drewN n) (w.drewN n) (· = v)) ∧ K (a.put o.dst v)) :
    wpR P ops (fun w' => ∃ n, w' = w.drewN n) Q ((· = v) :: Rs) (o :: rest) a := by
  obtain ⟨⟨h0, h1⟩, h2⟩ := h (wpR P ops (fun w' => ∃ n, w' = w.drewN n) Q Rs rest) (fun _ h => h)
  unfold wpR
  rw [if_pos h0]
  exact ⟨fun w' ⟨n, hw⟩ => hw ▸ h1 n, fun u hu => hu ▸ h2⟩
/-- An operation whose value is known by a predicate. -/
theorem wpR_any {R : Value → Prop} (h : ∀ K : Act → Prop, (∀ a, wpR P ops (fun w' => ∃ n, w' = w.drewN n) Q Rs rest a → K a) →
      (Region.wanted o (yielded ops a.tmps) = true ∧ ∀ n, rAt P o a (fun w' => ∃ n, w' = w.drewN n) (w.drewN n) R) ∧ ∀ v, R v → K (a.put o.dst v)) :
    wpR P ops (fun w' => ∃ n, w' = w.drewN n) Q (R :: Rs) (o :: rest) a := by
  obtain ⟨⟨h0, h1⟩, h2⟩ := h (wpR P ops (fun w' => ∃ n, w' = w.drewN n) Q Rs rest) (fun _ h => h)
  unfold wpR
  rw [if_pos h0]
  exact ⟨fun w' ⟨n, hw⟩ => hw ▸ h1 n, fun u hu => h2 u hu⟩
end
/-- A callee of one value that may draw. -/
theorem rcall {f : FuncId} {args : Array Value} {w : World} {n m : Nat} {v : Value} (h : Calls P f args (w.drewN (n + m)) fun e w' => e = .returned v ∧ ∃ j, (w.drewN (n + m)).drewN j = w') :
    Calls P f args (w.drewN (n + m)) fun e w' => ∃ u, e = .returned u ∧ u = v ∧ ∃ j, w' = w.drewN (n + j) :=
  h.mono fun _ _ ⟨he, j, hj⟩ => ⟨v, he, rfl, m + j, by rw [← hj, World.drewN_drewN, Nat.add_assoc]⟩
theorem rcall0 {f : FuncId} {args : Array Value} {w : World} {m : Nat} {v : Value} (h : Calls P f args (w.drewN m) fun e w' => e = .returned v ∧ ∃ j, (w.drewN m).drewN j = w') :
    Calls P f args (w.drewN m) fun e w' => ∃ u, e = .returned u ∧ u = v ∧ ∃ j, w' = w.drewN j :=
  h.mono fun _ _ ⟨he, j, hj⟩ => ⟨v, he, rfl, m + j, by rw [← hj, World.drewN_drewN]⟩
/-- A callee of one value that draws nothing. -/
theorem rcall_same {f : FuncId} {args : Array Value} {w : World} {n m : Nat} {v : Value} (h : Calls P f args (w.drewN (n + m)) fun e w' => e = .returned v ∧ w.drewN (n + m) = w') :
    Calls P f args (w.drewN (n + m)) fun e w' => ∃ u, e = .returned u ∧ u = v ∧ ∃ j, w' = w.drewN (n + j) :=
  h.mono fun _ _ ⟨he, hj⟩ => ⟨v, he, rfl, m, hj.symm⟩
theorem rcall_same0 {f : FuncId} {args : Array Value} {w : World} {m : Nat} {v : Value} (h : Calls P f args (w.drewN m) fun e w' => e = .returned v ∧ w.drewN m = w') :
    Calls P f args (w.drewN m) fun e w' => ∃ u, e = .returned u ∧ u = v ∧ ∃ j, w' = w.drewN j :=
  h.mono fun _ _ ⟨he, hj⟩ => ⟨v, he, rfl, m, hj.symm⟩
attribute [go_sem] rAt rUpon
end
end Go.Proofs.Ytignncjmbcdpaaa
