/-
Numbers that the format has: operations whose exact result is one of them are exact. (Plain arithmetic.)
-/
import Derived.Test.YtignncjmbcdpaaaSmallVal
namespace Go.Proofs.Ytignncjmbcdpaaa
open Go Ieee

theorem rep_word (k : FloatKind) (s : Bool) (m : Nat) (e : Int) (hm : m < 2 * k.format.binade) (he : k.format.leastPlace ≤ e) (ht : mval m e ≤ top k) :
    ∃ b, fin k b ∧ fv k b = dval (.number s m e) := by
  by_cases h0 : m = 0
  · subst h0
    refine ⟨0, (zero_fin k).1, ?_⟩
    rw [(zero_fin k).2, dval_num, mval_zero]; cases s <;> simp
  · obtain ⟨q, hq, hB⟩ := bears_top k
    rw [hq] at ht
    have hlog := log2_le_of_mval h0 ht
    have hl : m.log2 < k.format.fractionBits + 1 := (Nat.log2_lt h0).2 (by unfold Format.binade at hm; rw [Nat.pow_succ]; omega)
    have hlast : lastOf k.format m e ≤ e := by unfold lastOf; omega
    have hM : m * 2 ^ (e - lastOf k.format m e).toNat < 2 * k.format.binade := by
      have hne : m * 2 ^ (e - lastOf k.format m e).toNat ≠ 0 := Nat.mul_ne_zero h0 (by have := Nat.two_pow_pos (e - lastOf k.format m e).toNat; omega)
      have : (m * 2 ^ (e - lastOf k.format m e).toNat).log2 < k.format.fractionBits + 1 := by
        rw [log2_mul_pow _ _ h0]; unfold lastOf at hlast ⊢; omega
      have := (Nat.log2_lt hne).1 this
      unfold Format.binade; rw [Nat.pow_succ] at this; omega
    have hj : (lastOf k.format m e - k.format.leastPlace).toNat + 3 ≤ 2 ^ k.format.exponentBits - 1 := by
      unfold Bears at hB
      unfold lastOf at *
      omega
    have hR : (lastOf k.format m e - k.format.leastPlace).toNat * k.format.binade + m * 2 ^ (e - lastOf k.format m e).toNat < k.format.infRung := by
      have h1 := Nat.mul_le_mul_right k.format.binade hj
      rw [Nat.add_mul] at h1
      unfold Format.infRung
      have : 0 < k.format.binade := Nat.two_pow_pos _
      omega
    have key := read_nearest_exact k.format s m e h0 hlast hR
    refine ⟨_, ⟨_, _, _, key⟩, ?_⟩
    unfold fv
    rw [key, dval_num, dval_num, mval_scale']
    have : lastOf k.format m e + (((e - lastOf k.format m e).toNat : Nat) : Int) = e := by omega
    rw [this]

/-- 'v' is a number of few digits: a whole number of units of 2^e. -/
def Few (k : FloatKind) (v : Rat) : Prop := ∃ (n e : Int), v = (n : Rat) * pw e ∧ n.natAbs < 2 * k.format.binade ∧ k.format.leastPlace ≤ e
theorem few_word {k : FloatKind} {v : Rat} (h : Few k v) (ht : ab v ≤ top k) : ∃ b, fin k b ∧ fv k b = v := by
  obtain ⟨n, e, hv, hn, he⟩ := h
  have key : dval (.number (decide (n < 0)) n.natAbs e) = v := by
    rw [hv, dval_num]
    unfold mval
    by_cases h : n < 0
    · simp only [h, decide_true, if_true]
      have : (n : Rat) = -((n.natAbs : Nat) : Rat) := by rw [← Rat.intCast_natCast, ← Rat.intCast_neg]; congr 1; omega
      rw [this]; grind
    · simp only [h, decide_false, Bool.false_eq_true, if_false]
      have : (n : Rat) = ((n.natAbs : Nat) : Rat) := by rw [← Rat.intCast_natCast]; congr 1; omega
      rw [this]
  obtain ⟨b, hb, hbv⟩ := rep_word k (decide (n < 0)) n.natAbs e hn he (by rw [← dval_ab (decide (n < 0)), key]; exact ht)
  exact ⟨b, hb, by rw [hbv, key]⟩
/-- **EXACT OPERATIONS.** -/
theorem RoundOf.few {k : FloatKind} {v : Rat} {r : Nat} (h : RoundOf k v r) (hv : Few k v) (ht : ab v ≤ top k) : fv k r = v := by
  obtain ⟨b, hb, hbv⟩ := few_word hv ht
  exact h.exact hb hbv
theorem DivOf.few {k : FloatKind} {v : Rat} {r : Nat} (h : DivOf k v r) (hv : Few k v) (ht : ab v ≤ top k) : fv k r = v := by
  obtain ⟨b, hb, hbv⟩ := few_word hv ht
  exact h.exact hb hbv
theorem few_pw {k : FloatKind} {e : Int} (he : k.format.leastPlace ≤ e) : Few k (pw e) :=
  ⟨1, e, by simp, by show 1 < 2 * k.format.binade; have : 0 < k.format.binade := Nat.two_pow_pos _; omega, he⟩
end Go.Proofs.Ytignncjmbcdpaaa
