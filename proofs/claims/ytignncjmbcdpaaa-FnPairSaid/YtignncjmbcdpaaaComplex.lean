/-
Complex numbers in the walk: == and conversions between the widths.
-/
import Derived.Test.YtignncjmbcdpaaaFloats2
namespace Go.Proofs.Ytignncjmbcdpaaa
open Go Go.RowKit Ieee

section
variable {P : Program} (w : World)
@[go_sem high] theorem run_ceql (t : TypeId) (k : FloatKind) (a b c d : Nat) : (binOp .eql t (.complex k a b) (.complex k c d)).run P w = .ok (.bool (feq k a c && feq k b d)) w := run_eql_complex w t k a b c d
@[go_sem high] theorem run_cneq (t : TypeId) (k : FloatKind) (a b c d : Nat) : (binOp .neq t (.complex k a b) (.complex k c d)).run P w = .ok (.bool !(feq k a c && feq k b d)) w := run_neq_complex w t k a b c d
theorem run_ccv (s k : FloatKind) (a b : Nat) : (Conv.complexToComplex s a b k).run P w = .ok (.complex k (cR s a k w) (cR s b k (w.drewN (cN s a k)))) ((w.drewN (cN s a k)).drewN (cN s b k)) := by
  have h1 := run_conv (P := P) w s k a
  have h2 := run_conv (P := P) (w.drewN (cN s a k)) s k b
  simp [Conv.complexToComplex, h1, h2]
@[go_sem] theorem run_ccvt (src dst : TypeId) (s k : FloatKind) (a b : Nat) (hs : (P.underlying src).isSome = true) (hd : P.underlying dst = some (.complex k)) :
    (convert src dst (.complex s a b)).run P w = .ok (.complex k (cR s a k w) (cR s b k (w.drewN (cN s a k)))) ((w.drewN (cN s a k)).drewN (cN s b k)) := by
  obtain ⟨u, hs'⟩ := Option.isSome_iff_exists.1 hs
  cases u <;> simp [convert, run_underlying hs', run_underlying hd, run_ccv]
end
end Go.Proofs.Ytignncjmbcdpaaa
