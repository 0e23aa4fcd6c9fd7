/-
Floats up to the bits of a NaN: what an operation gives, as a function of its operands; the walk's equations.
-/
import Derived.Test.YtignncjmbcdpaaaWords
import Derived.Laws.Externs
namespace Go.Proofs.Ytignncjmbcdpaaa
open Go Go.RowKit

/-! ### NaN -/
def isN (k : FloatKind) (b : Nat) : Bool := (k.format.read b).isNaN
def qn (k : FloatKind) : Nat := match k with | .f32 => 2143289344 | .f64 => 9221120237041090560
/-- The word, a NaN made the one NaN. -/
def nrm (k : FloatKind) (b : Nat) : Nat := if isN k b = true then qn k else b

theorem isN_qn (k : FloatKind) : isN k (qn k) = true := by cases k <;> decide +kernel
theorem nrm_of_nan {k : FloatKind} {b : Nat} (h : isN k b = true) : nrm k b = qn k := by simp [nrm, h]
theorem nrm_of_num {k : FloatKind} {b : Nat} (h : isN k b = false) : nrm k b = b := by simp [nrm, h]
theorem isN_nrm (k : FloatKind) (b : Nat) : isN k (nrm k b) = isN k b := by
  cases h : isN k b
  · rw [nrm_of_num h, h]
  · rw [nrm_of_nan h, isN_qn]
theorem nrm_nrm (k : FloatKind) (b : Nat) : nrm k (nrm k b) = nrm k b := by
  cases h : isN k b
  · rw [nrm_of_num h, nrm_of_num h]
  · rw [nrm_of_nan h, nrm_of_nan (isN_qn k)]

theorem isN_read {k : FloatKind} {b : Nat} (h : isN k b = true) : ∃ s t, k.format.read b = .nan s t := by
  unfold isN at h
  cases hr : k.format.read b with
  | nan s t => exact ⟨s, t, rfl⟩
  | number s m e => rw [hr] at h; cases h
  | infinity s => rw [hr] at h; cases h

theorem word_mod (f : Ieee.Format) (neg : Bool) {rung : Nat} (h : rung < f.signWeight) : f.word neg rung % f.signWeight = rung := by
  unfold Ieee.Format.word
  split
  · rw [Nat.add_mod_left, Nat.mod_eq_of_lt h]
  · exact Nat.mod_eq_of_lt h

theorem word_not_nan (f : Ieee.Format) (neg : Bool) {rung : Nat} (h : rung ≤ f.infRung) : (f.read (f.word neg rung)).isNaN = false := by
  have hlt := f.infRung_lt
  unfold Ieee.Format.read
  simp only [word_mod f neg (show rung < f.signWeight by omega)]
  split
  · rfl
  · split
    · rfl
    · rw [if_pos (by omega)]; rfl

theorem write_not_nan (f : Ieee.Format) (d : Ieee.Datum) (h : d.isNaN = false) : (f.read (f.write d)).isNaN = false := by
  cases d with
  | number neg mag place =>
    unfold Ieee.Format.write Ieee.Format.nearest
    dsimp only
    split
    · exact word_not_nan f _ (Nat.zero_le _)
    · exact word_not_nan f _ (Nat.min_le_right ..)
  | infinity neg => exact word_not_nan f _ (Nat.le_refl _)
  | nan neg t => cases h

theorem sum_not_nan {a b d : Ieee.Datum} (h : a.sum b = some d) : d.isNaN = false := by
  unfold Ieee.Datum.sum at h
  split at h <;> first | (cases h; done) | skip
  · split at h <;> cases h; rfl
  all_goals cases h; rfl
theorem product_not_nan {a b d : Ieee.Datum} (h : a.product b = some d) : d.isNaN = false := by
  unfold Ieee.Datum.product at h
  split at h <;> first | (cases h; done) | skip
  all_goals first | (cases h; rfl) | (split at h <;> cases h; rfl)
theorem quotient_not_nan {n : Nat} {a b d : Ieee.Datum} (h : Ieee.Datum.quotient n a b = some d) : d.isNaN = false := by
  unfold Ieee.Datum.quotient at h
  split at h <;> first | (cases h; done) | skip
  · cases h; rfl
  · cases h; rfl
  · split at h
    · split at h <;> cases h; rfl
    · cases h; rfl

theorem map_write_not_nan {f : Ieee.Format} {o : Option Ieee.Datum} {r : Nat} (ho : ∀ d, o = some d → d.isNaN = false) (h : o.map f.write = some r) : (f.read r).isNaN = false := by
  cases o with
  | none => cases h
  | some d => cases h; exact write_not_nan f d (ho d rfl)

/-- A valid operation gives no NaN. -/
theorem floatBits_not_nan {op : BinOp} {k : FloatKind} {x y r : Nat} (h : floatBits op k x y = some r) : isN k r = false := by
  unfold floatBits at h
  split at h
  · exact map_write_not_nan (fun _ => sum_not_nan) h
  · exact map_write_not_nan (fun _ => sum_not_nan) h
  · exact map_write_not_nan (fun _ => product_not_nan) h
  · exact map_write_not_nan (fun _ => quotient_not_nan) h
  · cases h

theorem floatBits_nan_l {op : BinOp} {k : FloatKind} {x y : Nat} (h : isN k x = true) : floatBits op k x y = none := by
  obtain ⟨s, t, hx⟩ := isN_read h
  unfold floatBits
  split
  · simp [Ieee.Format.add, hx, Ieee.Datum.sum]
  · simp [Ieee.Format.sub, hx, Ieee.Datum.sum]
  · simp [Ieee.Format.mul, hx, Ieee.Datum.product]
  · simp [Ieee.Format.div, hx, Ieee.Datum.quotient]
  · rfl
theorem floatBits_nan_r {op : BinOp} {k : FloatKind} {x y : Nat} (h : isN k y = true) : floatBits op k x y = none := by
  obtain ⟨s, t, hy⟩ := isN_read h
  unfold floatBits
  split
  · simp only [Ieee.Format.add, hy]; cases k.format.read x <;> simp [Ieee.Datum.sum]
  · simp only [Ieee.Format.sub, hy, Ieee.Datum.opposite]; cases k.format.read x <;> simp [Ieee.Datum.sum]
  · simp only [Ieee.Format.mul, hy]; cases k.format.read x <;> simp [Ieee.Datum.product]
  · simp only [Ieee.Format.div, hy]; cases k.format.read x <;> simp [Ieee.Datum.quotient]
  · rfl

/-! ### What an operation gives -/
/-- .. a NaN being the one NaN. -/
def fo (op : BinOp) (k : FloatKind) (x y : Nat) : Nat := (floatBits op k x y).getD (qn k)
/-- .. in a world, to the bit. -/
def fR (op : BinOp) (k : FloatKind) (x y : Nat) (w : World) : Nat :=
  match floatBits op k x y with
  | some r => r
  | none => (Question.nanBits k x y).cut (w.tape w.drawn (.nanBits k x y))
/-- How often the tape is asked. -/
def fN (op : BinOp) (k : FloatKind) (x y : Nat) : Nat := match floatBits op k x y with | some _ => 0 | none => 1

theorem cut_nan (q : Question) (k : FloatKind) (t : Nat) (hq : (∃ x y, q = .nanBits k x y) ∨ ∃ b, q = .nanConv k b) : isN k (q.cut t) = true := by
  cases k with
  | f32 =>
    have e : q.cut t = (t % 2) * 2 ^ 31 + 0x7f800000 + 1 + (t / 2) % (2 ^ 23 - 1) := by
      rcases hq with ⟨x, y, rfl⟩ | ⟨b, rfl⟩ <;> rfl
    rw [e]
    have h1 : t / 2 % (2 ^ 23 - 1) < 2 ^ 23 - 1 := Nat.mod_lt _ (by decide)
    generalize t / 2 % (2 ^ 23 - 1) = v at *
    have hm : (t % 2 * 2 ^ 31 + 0x7f800000 + 1 + v) % 2 ^ 31 = 0x7f800000 + 1 + v := by omega
    show (Ieee.single.read _).isNaN = true
    unfold Ieee.Format.read
    simp only [show Ieee.single.signWeight = 2 ^ 31 from by decide +kernel, show Ieee.single.binade = 2 ^ 23 from by decide +kernel, show Ieee.single.infRung = 0x7f800000 from by decide +kernel, hm]
    rw [if_neg (by omega), if_neg (by omega), if_neg (by omega)]; rfl
  | f64 =>
    have e : q.cut t = (t % 2) * 2 ^ 63 + 0x7ff0000000000000 + 1 + (t / 2) % (2 ^ 52 - 1) := by
      rcases hq with ⟨x, y, rfl⟩ | ⟨b, rfl⟩ <;> rfl
    rw [e]
    have h1 : t / 2 % (2 ^ 52 - 1) < 2 ^ 52 - 1 := Nat.mod_lt _ (by decide)
    generalize t / 2 % (2 ^ 52 - 1) = v at *
    have hm : (t % 2 * 2 ^ 63 + 0x7ff0000000000000 + 1 + v) % 2 ^ 63 = 0x7ff0000000000000 + 1 + v := by omega
    show (Ieee.double.read _).isNaN = true
    unfold Ieee.Format.read
    simp only [show Ieee.double.signWeight = 2 ^ 63 from by decide +kernel, show Ieee.double.binade = 2 ^ 52 from by decide +kernel, show Ieee.double.infRung = 0x7ff0000000000000 from by decide +kernel, hm]
    rw [if_neg (by omega), if_neg (by omega), if_neg (by omega)]; rfl

theorem nrm_fR (op : BinOp) (k : FloatKind) (x y : Nat) (w : World) : nrm k (fR op k x y w) = fo op k x y := by
  unfold fR fo
  cases h : floatBits op k x y with
  | some r => exact nrm_of_num (floatBits_not_nan h)
  | none => exact nrm_of_nan (cut_nan _ k _ (.inl ⟨x, y, rfl⟩))
theorem nrm_fo (op : BinOp) (k : FloatKind) (x y : Nat) : nrm k (fo op k x y) = fo op k x y := by
  unfold fo
  cases h : floatBits op k x y with
  | some r => exact nrm_of_num (floatBits_not_nan h)
  | none => exact nrm_of_nan (isN_qn k)
theorem fo_nrm_l (op : BinOp) (k : FloatKind) (x y : Nat) : fo op k (nrm k x) y = fo op k x y := by
  cases h : isN k x
  · rw [nrm_of_num h]
  · rw [nrm_of_nan h]; unfold fo; rw [floatBits_nan_l (isN_qn k), floatBits_nan_l h]
theorem fo_nrm_r (op : BinOp) (k : FloatKind) (x y : Nat) : fo op k x (nrm k y) = fo op k x y := by
  cases h : isN k y
  · rw [nrm_of_num h]
  · rw [nrm_of_nan h]; unfold fo; rw [floatBits_nan_r (isN_qn k), floatBits_nan_r h]
theorem fo_congr {op : BinOp} {k : FloatKind} {x y x' y' : Nat} (hx : nrm k x = nrm k x') (hy : nrm k y = nrm k y') : fo op k x y = fo op k x' y' := by
  rw [← fo_nrm_l, hx, fo_nrm_l, ← fo_nrm_r, hy, fo_nrm_r]

/-! ### Comparisons -/
def flt (k : FloatKind) (x y : Nat) : Bool := k.format.order x y == some .lt
def feq (k : FloatKind) (x y : Nat) : Bool := k.format.order x y == some .eq
def fgt (k : FloatKind) (x y : Nat) : Bool := k.format.order x y == some .gt
def fle (k : FloatKind) (x y : Nat) : Bool := k.format.order x y == some .lt || k.format.order x y == some .eq
def fge (k : FloatKind) (x y : Nat) : Bool := k.format.order x y == some .gt || k.format.order x y == some .eq

theorem order_nan_l {k : FloatKind} {x y : Nat} (h : isN k x = true) : k.format.order x y = none := by
  obtain ⟨s, t, hx⟩ := isN_read h
  simp [Ieee.Format.order, hx, Ieee.Datum.order]
theorem order_nan_r {k : FloatKind} {x y : Nat} (h : isN k y = true) : k.format.order x y = none := by
  obtain ⟨s, t, hy⟩ := isN_read h
  simp only [Ieee.Format.order, hy]; cases k.format.read x <;> simp [Ieee.Datum.order]
theorem order_nrm_l (k : FloatKind) (x y : Nat) : k.format.order (nrm k x) y = k.format.order x y := by
  cases h : isN k x
  · rw [nrm_of_num h]
  · rw [nrm_of_nan h, order_nan_l h, order_nan_l (isN_qn k)]
theorem order_nrm_r (k : FloatKind) (x y : Nat) : k.format.order x (nrm k y) = k.format.order x y := by
  cases h : isN k y
  · rw [nrm_of_num h]
  · rw [nrm_of_nan h, order_nan_r h, order_nan_r (isN_qn k)]
theorem order_congr {k : FloatKind} {x y x' y' : Nat} (hx : nrm k x = nrm k x') (hy : nrm k y = nrm k y') : k.format.order x y = k.format.order x' y' := by
  rw [← order_nrm_l, hx, order_nrm_l, ← order_nrm_r, hy, order_nrm_r]
theorem flt_congr {k : FloatKind} {x y x' y' : Nat} (hx : nrm k x = nrm k x') (hy : nrm k y = nrm k y') : flt k x y = flt k x' y' := by unfold flt; rw [order_congr hx hy]
theorem feq_congr {k : FloatKind} {x y x' y' : Nat} (hx : nrm k x = nrm k x') (hy : nrm k y = nrm k y') : feq k x y = feq k x' y' := by unfold feq; rw [order_congr hx hy]
theorem fgt_congr {k : FloatKind} {x y x' y' : Nat} (hx : nrm k x = nrm k x') (hy : nrm k y = nrm k y') : fgt k x y = fgt k x' y' := by unfold fgt; rw [order_congr hx hy]
theorem fle_congr {k : FloatKind} {x y x' y' : Nat} (hx : nrm k x = nrm k x') (hy : nrm k y = nrm k y') : fle k x y = fle k x' y' := by unfold fle; rw [order_congr hx hy]
theorem fge_congr {k : FloatKind} {x y x' y' : Nat} (hx : nrm k x = nrm k x') (hy : nrm k y = nrm k y') : fge k x y = fge k x' y' := by unfold fge; rw [order_congr hx hy]

/-- A number is equal to itself, a NaN is not. -/
theorem feq_self (k : FloatKind) (x : Nat) : feq k x x = !isN k x := by
  unfold feq isN Ieee.Format.order
  cases h : k.format.read x with
  | number s m e => simp [Ieee.Datum.order, Ieee.Datum.isNaN]
  | infinity s => simp [Ieee.Datum.order, Ieee.Datum.isNaN]
  | nan s t => simp [Ieee.Datum.order, Ieee.Datum.isNaN]

/-! ### Conversions between the widths -/
def cR (s : FloatKind) (b : Nat) (k : FloatKind) (w : World) : Nat :=
  match floatToFloatBits s b k with
  | some r => r
  | none => if isN s b = true then (Question.nanConv k b).cut (w.tape w.drawn (.nanConv k b)) else (Question.floatToFloat b).cut (w.tape w.drawn (.floatToFloat b))
def cN (s : FloatKind) (b : Nat) (k : FloatKind) : Nat := match floatToFloatBits s b k with | some _ => 0 | none => 1
/-- What widening or narrowing gives, a NaN being the one NaN. -/
def cv (s : FloatKind) (b : Nat) (k : FloatKind) : Nat := (floatToFloatBits s b k).getD (qn k)
abbrev wid (b : Nat) : Nat := cv .f32 b .f64

/-! ### The walk's equations -/
section
variable {P : Program} (w : World)

theorem run_fbin {op : BinOp} (t : TypeId) (k : FloatKind) (x y : Nat) (hop : op = .add ∨ op = .sub ∨ op = .mul ∨ op = .quo) :
    (binOp op t (.float k x) (.float k y)).run P w = .ok (.float k (fR op k x y w)) (w.drewN (fN op k x y)) := by
  cases h : floatBits op k x y with
  | some r =>
    rw [run_float_arith w op t k x y r h]
    simp [fR, fN, h, World.drewN_zero]
  | none =>
    unfold floatBits at h
    rcases hop with rfl | rfl | rfl | rfl <;> simp only at h <;>
      simp [binOp, Op.floatArith, h, fR, fN, floatBits, Question.forced] <;> rfl
@[go_sem] theorem run_fadd (t : TypeId) (k : FloatKind) (x y : Nat) : (binOp .add t (.float k x) (.float k y)).run P w = .ok (.float k (fR .add k x y w)) (w.drewN (fN .add k x y)) := run_fbin w t k x y (by simp)
@[go_sem] theorem run_fsub (t : TypeId) (k : FloatKind) (x y : Nat) : (binOp .sub t (.float k x) (.float k y)).run P w = .ok (.float k (fR .sub k x y w)) (w.drewN (fN .sub k x y)) := run_fbin w t k x y (by simp)
@[go_sem] theorem run_fmul (t : TypeId) (k : FloatKind) (x y : Nat) : (binOp .mul t (.float k x) (.float k y)).run P w = .ok (.float k (fR .mul k x y w)) (w.drewN (fN .mul k x y)) := run_fbin w t k x y (by simp)
@[go_sem] theorem run_fquo (t : TypeId) (k : FloatKind) (x y : Nat) : (binOp .quo t (.float k x) (.float k y)).run P w = .ok (.float k (fR .quo k x y w)) (w.drewN (fN .quo k x y)) := run_fbin w t k x y (by simp)

@[go_sem high] theorem bin_flss (t : TypeId) (k : FloatKind) (a b : Nat) : binOp .lss t (.float k a) (.float k b) = pure (.bool (flt k a b)) := binOp_float_cmp_lss t k a b
@[go_sem high] theorem bin_fleq (t : TypeId) (k : FloatKind) (a b : Nat) : binOp .leq t (.float k a) (.float k b) = pure (.bool (fle k a b)) := binOp_float_cmp_leq t k a b
@[go_sem high] theorem bin_fgtr (t : TypeId) (k : FloatKind) (a b : Nat) : binOp .gtr t (.float k a) (.float k b) = pure (.bool (fgt k a b)) := binOp_float_cmp_gtr t k a b
@[go_sem high] theorem bin_fgeq (t : TypeId) (k : FloatKind) (a b : Nat) : binOp .geq t (.float k a) (.float k b) = pure (.bool (fge k a b)) := binOp_float_cmp_geq t k a b
@[go_sem high] theorem bin_feql (t : TypeId) (k : FloatKind) (a b : Nat) : binOp .eql t (.float k a) (.float k b) = pure (.bool (feq k a b)) := binOp_float_cmp_eql t k a b
@[go_sem high] theorem bin_fneq (t : TypeId) (k : FloatKind) (a b : Nat) : binOp .neq t (.float k a) (.float k b) = pure (.bool (!feq k a b)) := binOp_float_cmp_neq t k a b

@[go_sem] theorem run_fneg (k : FloatKind) (b : Nat) : (Op.unary .neg (.float k b)).run P w = .ok (.float k (Op.negFloat k b)) w := rfl

theorem run_conv (s k : FloatKind) (b : Nat) : (Conv.floatToFloat s b k).run P w = .ok (.float k (cR s b k w)) (w.drewN (cN s b k)) := by
  cases h : floatToFloatBits s b k with
  | some r =>
    rw [run_floatToFloat w h]
    simp [cR, cN, h, World.drewN_zero]
  | none =>
    have h' := h
    unfold floatToFloatBits at h
    by_cases hs : s = k
    · rw [if_pos hs] at h; cases h
    · rw [if_neg hs] at h
      have hd : s.format.read b = s.decode b := rfl
      cases hr : s.decode b with
      | nan sg t =>
        have hn : isN s b = true := by unfold isN; rw [hd, hr]; rfl
        simp [Conv.floatToFloat, hs, hr, cR, cN, h', hn, Question.forced]; rfl
      | infinity sg => rw [hr] at h; cases h
      | number sg m e =>
        have hn : isN s b = false := by unfold isN; rw [hd, hr]; rfl
        rw [hr] at h
        simp only at h
        split at h
        · rename_i hi
          simp [Conv.floatToFloat, hs, hr, cR, cN, h', hn, hi, Question.forced]; rfl
        · cases h
@[go_sem] theorem run_cvt (src dst : TypeId) (s k : FloatKind) (b : Nat) (hs : (P.underlying src).isSome = true) (hd : P.underlying dst = some (.float k)) :
    (convert src dst (.float s b)).run P w = .ok (.float k (cR s b k w)) (w.drewN (cN s b k)) := by
  obtain ⟨u, hs'⟩ := Option.isSome_iff_exists.1 hs
  cases u <;> simp [convert, run_underlying hs', run_underlying hd, run_conv]
end
end Go.Proofs.Ytignncjmbcdpaaa
