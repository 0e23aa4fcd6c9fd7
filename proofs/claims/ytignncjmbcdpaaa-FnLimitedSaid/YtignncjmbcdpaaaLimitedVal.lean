/-
What FnLimited asks of its numbers. (Plain arithmetic.)
-/
import Derived.Test.YtignncjmbcdpaaaLimiter
import Derived.Test.YtignncjmbcdpaaaAids
namespace Go.Proofs.Ytignncjmbcdpaaa
open Go Ieee

def rel (q : Int) : Nat := fo .quo .f32 (floatOfInt .f32 q) 1082130432
theorem rel_cases {q : Int} (h0 : 0 ≤ q) (h1 : q ≤ 4) : rel q = 0 ∨ rel q = 1048576000 ∨ rel q = 1056964608 ∨ rel q = 1061158912 ∨ rel q = 1065353216 := by
  have : q = 0 ∨ q = 1 ∨ q = 2 ∨ q = 3 ∨ q = 4 := by omega
  rcases this with rfl | rfl | rfl | rfl | rfl
  · left; decide +kernel
  · right; left; decide +kernel
  · right; right; left; decide +kernel
  · right; right; right; left; decide +kernel
  · right; right; right; right; decide +kernel
theorem word_fin (b m : Nat) (e : Int) (v : Rat) (h : single.read b = .number false m e) (hv : (m : Rat) * pw e = v) : fin .f32 b ∧ fv .f32 b = v := by
  obtain ⟨h1, h2⟩ := fin_of_read (k := .f32) h
  exact ⟨h1, by rw [h2, dval_num, ← hv]; rfl⟩
theorem rel_ok {q : Int} (h0 : 0 ≤ q) (h1 : q ≤ 4) : fin .f32 (rel q) ∧ wfk .f32 (rel q) ∧ 0 ≤ fv .f32 (rel q) ∧ fv .f32 (rel q) ≤ 1 ∧ signB (wid (rel q)) = false ∧ fge .f32 (rel q) 0 = true ∧ fle .f32 (rel q) 1065353216 = true := by
  have key : ∀ (b m : Nat) (e : Int) (v : Rat), single.read b = .number false m e → (m : Rat) * pw e = v → b < 4294967296 → 0 ≤ v → v ≤ 1 → signB (wid b) = false → fge .f32 b 0 = true → fle .f32 b 1065353216 = true →
      fin .f32 b ∧ wfk .f32 b ∧ 0 ≤ fv .f32 b ∧ fv .f32 b ≤ 1 ∧ signB (wid b) = false ∧ fge .f32 b 0 = true ∧ fle .f32 b 1065353216 = true := by
    intro b m e v h hv hb v0 v1 hs g1 g2
    obtain ⟨a1, a2⟩ := word_fin b m e v h hv
    exact ⟨a1, by rw [wfk_32]; exact hb, by rw [a2]; exact v0, by rw [a2]; exact v1, hs, g1, g2⟩
  rcases rel_cases h0 h1 with h | h | h | h | h <;> rw [h]
  · exact key 0 0 (-149) 0 (by decide +kernel) (by grind) (by omega) (by grind) (by grind) (by decide +kernel) (by decide +kernel) (by decide +kernel)
  · exact key 1048576000 8388608 (-25) (1/4) (by decide +kernel) (by unfold pw; grind) (by omega) (by grind) (by grind) (by decide +kernel) (by decide +kernel) (by decide +kernel)
  · exact key 1056964608 8388608 (-24) (1/2) (by decide +kernel) (by unfold pw; grind) (by omega) (by grind) (by grind) (by decide +kernel) (by decide +kernel) (by decide +kernel)
  · exact key 1061158912 12582912 (-24) (3/4) (by decide +kernel) (by unfold pw; grind) (by omega) (by grind) (by grind) (by decide +kernel) (by decide +kernel) (by decide +kernel)
  · exact key 1065353216 8388608 (-23) 1 (by decide +kernel) (by unfold pw; grind) (by omega) (by grind) (by grind) (by decide +kernel) (by decide +kernel) (by decide +kernel)

/-- The ceilings, and the greatest samples. -/
def CeilOk (c : Nat) : Prop := fin .f32 c ∧ wfk .f32 c ∧ 1 / 2 ^ 41 ≤ fv .f32 c ∧ fv .f32 c ≤ 2 ^ 41 ∧ fgt .f32 c 0 = true
def MostOk (m : Nat) : Prop := fin .f32 m ∧ ab (fv .f32 m) ≤ 2 ^ 60 - 2 ^ 50
theorem ceil_ok {j : Nat} (hj : j < 4) : CeilOk ([1056964608, 1065353216, 730643660, 1399379109].getD j 0) := by
  have key : ∀ (b m : Nat) (e : Int), single.read b = .number false m e → b < 4294967296 → 1 / 2 ^ 41 ≤ (m : Rat) * pw e → (m : Rat) * pw e ≤ 2 ^ 41 → fgt .f32 b 0 = true → CeilOk b := by
    intro b m e h hb v0 v1 g
    obtain ⟨a1, a2⟩ := word_fin b m e _ h rfl
    exact ⟨a1, by rw [wfk_32]; exact hb, by rw [a2]; exact v0, by rw [a2]; exact v1, g⟩
  match j, hj with
  | 0, _ => exact key 1056964608 8388608 (-24) (by decide +kernel) (by omega) (by unfold pw; grind) (by unfold pw; grind) (by decide +kernel)
  | 1, _ => exact key 1065353216 8388608 (-23) (by decide +kernel) (by omega) (by unfold pw; grind) (by unfold pw; grind) (by decide +kernel)
  | 2, _ => exact key 730643660 9223372 (-63) (by decide +kernel) (by omega) (by unfold pw; grind) (by unfold pw; grind) (by decide +kernel)
  | 3, _ => exact key 1399379109 15258789 16 (by decide +kernel) (by omega) (by unfold pw; grind) (by unfold pw; grind) (by decide +kernel)
theorem most_ok {j : Nat} (hj : j < 4) : MostOk ([1048576000, 1073741824, 1232348160, 1566444395].getD j 0) := by
  have key : ∀ (b m : Nat) (e : Int), single.read b = .number false m e → (m : Rat) * pw e ≤ 2 ^ 60 - 2 ^ 50 → MostOk b := by
    intro b m e h v1
    obtain ⟨a1, a2⟩ := word_fin b m e _ h rfl
    refine ⟨a1, ?_⟩
    rw [a2, ab_of_nonneg (Rat.mul_nonneg Rat.natCast_nonneg (Rat.le_of_lt (pw_pos _)))]; exact v1
  match j, hj with
  | 0, _ => exact key 1048576000 8388608 (-25) (by decide +kernel) (by unfold pw; grind)
  | 1, _ => exact key 1073741824 8388608 (-22) (by decide +kernel) (by unfold pw; grind)
  | 2, _ => exact key 1232348160 16000000 (-4) (by decide +kernel) (by unfold pw; grind)
  | 3, _ => exact key 1566444395 14551915 36 (by decide +kernel) (by unfold pw; grind)

theorem sample_ok {m x : Nat} (hm : MostOk m) (h : SmallAt m x) : fin .f32 x ∧ ab (fv .f32 x) ≤ 2 ^ 60 := by
  have := small_spec hm.1 hm.2 (by grind) h
  exact ⟨this.1, by grind⟩

theorem env_ok {xs : List Nat} {r : Nat} (hx : ∀ i, i < xs.length → fin .f32 (xs.getD i 0) ∧ ab (fv .f32 (xs.getD i 0)) ≤ 2 ^ 60) (hr : fin .f32 r) (hr0 : 0 ≤ fv .f32 r) (hr1 : fv .f32 r ≤ 1) (k : Nat) (hk : k ≤ xs.length) :
    fin .f32 (envAt xs r k) ∧ 0 ≤ fv .f32 (envAt xs r k) ∧ fv .f32 (envAt xs r k) ≤ 2 ^ 60 ∧ ∀ C : Rat, 0 ≤ C → (∀ i, i < k → ab (fv .f32 (xs.getD i 0)) ≤ C) → fv .f32 (envAt xs r k) ≤ C := by
  induction k with
  | zero =>
    have z := zero_fin .f32
    refine ⟨z.1, ?_, ?_, fun C hC _ => ?_⟩ <;> (show _ ≤ _; simp only [envAt]; rw [z.2]; try grind)
  | succ k ih =>
    obtain ⟨e1, e2, e3, e4⟩ := ih (by omega)
    obtain ⟨x1, x2⟩ := hx k (by omega)
    obtain ⟨g1, g2, g3, g4⟩ := limE_spec e1 e2 e3 x1 x2 (by grind) hr hr0 hr1
    refine ⟨g1, Rat.le_trans (ab_nonneg _) g2, g3, fun C hC h => g4 C (h k (by omega)) (e4 C hC fun i hi => h i (by omega))⟩

/-- No sample of the first 'k' is greater than the ceiling. -/
def lowB (xs : List Nat) (c k : Nat) : Bool := (xs.take k).all fun x => fle .f32 x c && fle .f32 (Op.negFloat .f32 x) c
theorem lowB_snoc {xs : List Nat} {c k : Nat} (h : k < xs.length) : lowB xs c (k + 1) = (lowB xs c k && (fle .f32 (xs.getD k 0) c && fle .f32 (Op.negFloat .f32 (xs.getD k 0)) c)) := by
  unfold lowB
  have : xs.take (k + 1) = xs.take k ++ [xs.getD k 0] := by
    rw [List.take_add_one]; congr 1
    simp [List.getD, List.getElem?_eq_getElem h]
  rw [this]; simp
theorem lowB_le {xs : List Nat} {c k : Nat} (hc : fin .f32 c) (hx : ∀ i, i < xs.length → fin .f32 (xs.getD i 0)) (hk : k ≤ xs.length) (h : lowB xs c k = true) : ∀ i, i < k → ab (fv .f32 (xs.getD i 0)) ≤ fv .f32 c := by
  intro i hi
  have hm : xs.getD i 0 ∈ xs.take k := by
    have hl : i < xs.length := by omega
    rw [List.mem_take_iff_getElem]
    exact ⟨i, by omega, by simp [List.getD, List.getElem?_eq_getElem hl]⟩
  have := List.all_eq_true.1 h _ hm
  rw [Bool.and_eq_true] at this
  obtain ⟨n1, n2⟩ := neg_fin (hx i (by omega))
  have a1 := (fle_iff (hx i (by omega)) hc).1 this.1
  have a2 := (fle_iff n1 hc).1 this.2
  rw [n2] at a2
  exact ab_le a1 a2

theorem out_ok {xs ys : List Nat} {c r n i : Nat} (hx : ∀ i, i < xs.length → fin .f32 (xs.getD i 0) ∧ ab (fv .f32 (xs.getD i 0)) ≤ 2 ^ 60) (hr : fin .f32 r) (hr0 : 0 ≤ fv .f32 r) (hr1 : fv .f32 r ≤ 1) (hc : CeilOk c)
    (hn : n ≤ xs.length) (h : limited xs c r ys n) (hi : i < n) :
    fin .f32 (ys.getD i 0) ∧ ab (fv .f32 (ys.getD i 0)) ≤ fv .f32 c + fv .f32 c / 4194304 ∧ (lowB xs c (i + 1) = true → ys.getD i 0 = xs.getD i 0) := by
  obtain ⟨c1, c2, c3, c4, c5⟩ := hc
  obtain ⟨e1, e2, e3, e4⟩ := env_ok hx hr hr0 hr1 i (by omega)
  obtain ⟨x1, x2⟩ := hx i (by omega)
  obtain ⟨s1, s2, s3⟩ := limS_spec e1 e2 e3 x1 x2 (by grind) hr hr0 hr1 c1 c3 c4
  have hy := nrm_fin_eq (h.2 i hi).1 s1
  rw [hy]
  refine ⟨s1, s2, fun hl => s3 ?_ ?_⟩
  · exact lowB_le c1 (fun i hi => (hx i hi).1) (by omega) hl i (by omega)
  · exact e4 _ (by grind) fun j hj => lowB_le c1 (fun i hi => (hx i hi).1) (by omega) hl j (by omega)

theorem bound_ok {c v p : Nat} (hc : CeilOk c) (hv : fin .f32 v) (hb : ab (fv .f32 v) ≤ fv .f32 c + fv .f32 c / 4194304) (hp : fin .f64 p) (hpv : fv .f64 p = pw (-22)) (w1 w2 w3 w4 : World) :
    fle .f64 (cR .f32 v .f64 w1) (fR .mul .f64 (cR .f32 c .f64 w2) (fR .add .f64 4607182418800017408 p w3) w4) = true ∧
    fle .f64 (Op.negFloat .f64 (cR .f32 v .f64 w1)) (fR .mul .f64 (cR .f32 c .f64 w2) (fR .add .f64 4607182418800017408 p w3) w4) = true := by
  obtain ⟨c1, c2, c3, c4, c5⟩ := hc
  obtain ⟨o1, o2⟩ := one_fin
  obtain ⟨k1, k2, k3⟩ := consts64
  rw [cR_wid_fin hv, cR_wid_fin c1]
  obtain ⟨v1, v2⟩ := wid_fin hv
  obtain ⟨d1, d2⟩ := wid_fin c1
  have ep : pw (-22) = 1 / 4194304 := by unfold pw; grind
  have hs : 1 + pw (-22) = ((4194305 : Int) : Rat) * pw (-22) := by rw [ep]; grind
  have ha := add_spec o1 hp (by rw [o2, hpv, ab_of_nonneg (by rw [ep]; grind), ep]; grind)
  have hav := ha.few (by rw [o2, hpv]; exact ⟨4194305, -22, hs, by decide +kernel, by decide +kernel⟩) (by rw [o2, hpv, ab_of_nonneg (by rw [ep]; grind), ep]; grind)
  rw [nrm_fin_eq (nrm_fR .add .f64 4607182418800017408 p w3) ha.1]
  rw [o2, hpv, ep] at hav
  have hm := mul_spec d1 ha.1 (by rw [d2, hav, ab_of_nonneg (by grind)]; grind)
  rw [nrm_fin_eq (nrm_fR .mul .f64 (wid c) (fo .add .f64 4607182418800017408 p) w4) hm.1]
  rw [d2, hav] at hm
  have e : fv .f32 c * (1 + 1 / 4194304) = fv .f32 c + fv .f32 c / 4194304 := by grind
  rw [e] at hm
  obtain ⟨b1, b2⟩ := le_ab (fv .f32 v)
  obtain ⟨n1, n2⟩ := neg_fin v1
  refine ⟨(fle_iff v1 hm.1).2 ?_, (fle_iff n1 hm.1).2 ?_⟩
  · exact (hm.2.2 _ v1).1 (by rw [v2]; grind)
  · exact (hm.2.2 _ n1).1 (by rw [n2, v2]; grind)
end Go.Proofs.Ytignncjmbcdpaaa
