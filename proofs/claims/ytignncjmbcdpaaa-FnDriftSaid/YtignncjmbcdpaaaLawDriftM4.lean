/-
Part 4 of 4 of the proof of the law FnDrift: it returns true for all codes. No condition.
-/
import Derived.Test.YtignncjmbcdpaaaLawDriftM3

/-
A late input rings late, in equal numbers. (Plain arithmetic.)
-/
namespace Go.Proofs.Ytignncjmbcdpaaa
open Go Ieee

def EqvS (s t : Nat × Nat) : Prop := Eqv .f32 s.1 t.1 ∧ Eqv .f32 s.2 t.2
theorem prod_top {x y L : Rat} (hx : ab x ≤ L) (hy : ab y ≤ 1 + 1 / 2 ^ 40) (hL : 1 ≤ L) (hL2 : L ≤ 2 ^ 112) : ab (x * y) ≤ top .f64 := by
  have ht := top210
  rw [ab_mul]
  have h1 := Rat.mul_le_mul_of_nonneg_left hy (ab_nonneg x)
  grind
theorem sub_top {x y L : Rat} (hx : ab x ≤ L * (1 + 1 / 2 ^ 30)) (hy : ab y ≤ L * (1 + 1 / 2 ^ 30)) (hL : 1 ≤ L) (hL2 : L ≤ 2 ^ 112) : ab (x - y) ≤ top .f64 ∧ ab (x + y) ≤ top .f64 := by
  have ht := top210
  obtain ⟨x1, x2⟩ := le_ab x
  obtain ⟨y1, y2⟩ := le_ab y
  exact ⟨ab_le (by grind) (by grind), ab_le (by grind) (by grind)⟩
theorem times_eqv {a b c d a' b' : Nat} {L : Rat} (W : World) (ha : Eqv .f32 a a') (hb : Eqv .f32 b b') (fc : fin .f32 c) (fd : fin .f32 d) (wc : wfk .f32 c) (wd : wfk .f32 d) (la : ab (fv .f32 a) ≤ L) (lb : ab (fv .f32 b) ≤ L) (hL : 1 ≤ L) (hL2 : L ≤ 2 ^ 112)
    (hc : ab (fv .f32 c) ≤ 1 + 1 / 2 ^ 40) (hd : ab (fv .f32 d) ≤ 1 + 1 / 2 ^ 40) : Eqv .f32 (sRe a b c d) (sRe a' b' c d) ∧ Eqv .f32 (sIm a b c d) (sIm a' b' c d) := by
  obtain ⟨M, _, _, _, _⟩ := wide_mild ha.fa hb.fa fc fd la lb hL hL2 hc hd
  have A := ha.wid
  have B := hb.wid
  have C := (Eqv.refl fc wc).wid
  have D := (Eqv.refl fd wd).wid
  have la' : ab (fv .f64 (wid a)) ≤ L := by rw [(wid_fin ha.fa).2]; exact la
  have lb' : ab (fv .f64 (wid b)) ≤ L := by rw [(wid_fin hb.fa).2]; exact lb
  have hc' : ab (fv .f64 (wid c)) ≤ 1 + 1 / 2 ^ 40 := by rw [(wid_fin fc).2]; exact hc
  have hd' : ab (fv .f64 (wid d)) ≤ 1 + 1 / 2 ^ 40 := by rw [(wid_fin fd).2]; exact hd
  have P1 := A.mul C (prod_top la' hc' hL hL2)
  have P2 := B.mul D (prod_top lb' hd' hL hL2)
  have P3 := A.mul D (prod_top la' hd' hL hL2)
  have P4 := B.mul C (prod_top lb' hc' hL hL2)
  have e1 := (part_mul A.fa C.fa la' hL hL2 hc').2
  have e2 := (part_mul B.fa D.fa lb' hL hL2 hd').2
  have e3 := (part_mul A.fa D.fa la' hL hL2 hd').2
  have e4 := (part_mul B.fa C.fa lb' hL hL2 hc').2
  exact ⟨(P1.sub P2 (sub_top e1 e2 hL hL2).1).nar M.tr W, (P3.add P4 (sub_top e3 e4 hL hL2).2).nar M.ti W⟩
theorem pole_le {m : MW} (hm : ModeOk m.1 m.2.1 m.2.2.1 m.2.2.2) : ab (fv .f32 m.1) ≤ 1 + 1 / 2 ^ 40 ∧ ab (fv .f32 m.2.1) ≤ 1 + 1 / 2 ^ 40 := by
  have hsq := hm.square
  have q1 := sq_nonneg (fv .f32 m.1)
  have q2 := sq_nonneg (fv .f32 m.2.1)
  exact ⟨ab_le_of_sq (by grind) (by grind), ab_le_of_sq (by grind) (by grind)⟩
theorem add_top {s g : Nat} {L : Rat} (hs : ab (fv .f32 s) ≤ L * (9 / 4)) (hg : ab (fv .f32 g) ≤ 8193) (hL : 2 ^ 14 ≤ L) (hL2 : L ≤ 2 ^ 112) : ab (fv .f32 s + fv .f32 g) ≤ top .f32 := by
  have ht2 := top32
  have g1 := ab_add (fv .f32 s) (fv .f32 g)
  grind
theorem gain_part {g x : Nat} (fg : fin .f32 g) (fx : fin .f32 x) (hg : ab (fv .f32 g) ≤ 1024) (hx : ab (fv .f32 x) ≤ 8) : ab (fv .f32 (fo .mul .f32 g x)) ≤ 8193 := by
  obtain ⟨u1, u2, _⟩ := consts32
  have ht2 := top32
  have n1 := ab_nonneg (fv .f32 g)
  have h1 := Rat.mul_le_mul_of_nonneg_left hx n1
  have h2 : ab (fv .f32 g * fv .f32 x) ≤ 8192 := by rw [ab_mul]; grind
  have hm := mul_spec fg fx (by grind)
  have e := hm.2.1
  rw [u1] at e
  have t := ab_tri (fv .f32 (fo .mul .f32 g x)) (fv .f32 g * fv .f32 x)
  grind
theorem step_eqv {m : MW} {s t : Nat × Nat} {x : Nat} {L : Rat} (W : World) (hm : ModeOk m.1 m.2.1 m.2.2.1 m.2.2.2) (hs : StOk L s) (h : EqvS s t) (fx : fin .f32 x) (hx : ab (fv .f32 x) ≤ 8) (hL : 2 ^ 14 ≤ L) (hL2 : L ≤ 2 ^ 112) :
    EqvS (stepW m s x) (stepW m t x) := by
  obtain ⟨p1, p2⟩ := pole_le hm
  obtain ⟨_, n1, n2, c1, c2⟩ := wide_mild hs.f1 hs.f2 (fin_of_wid hm.fa) (fin_of_wid hm.fb) hs.b1 hs.b2 (by grind) hL2 p1 p2
  have S := (step_ok hm hs fx hx hL hL2).2
  obtain ⟨e1, e2⟩ := times_eqv W h.1 h.2 (fin_of_wid hm.fa) (fin_of_wid hm.fb) hm.wa hm.wb hs.b1 hs.b2 (by grind) hL2 p1 p2
  have g1 := gain_part (fin_of_wid hm.fc) fx (gain_le hm.fc hm.gain.1) hx
  have g2 := gain_part (fin_of_wid hm.fd) fx (gain_le hm.fd hm.gain.2) hx
  exact ⟨e1.add (Eqv.refl S.g1 (fo_lt _ _ _ _)) (add_top c1 g1 hL hL2), e2.add (Eqv.refl S.g2 (fo_lt _ _ _ _)) (add_top c2 g2 hL hL2)⟩

/-- A state of zeros stays so without an input. -/
theorem rest_eqv {m : MW} (W : World) (hm : ModeOk m.1 m.2.1 m.2.2.1 m.2.2.2) : EqvS (stepW m (0, 0) 0) (0, 0) := by
  obtain ⟨z1, z2⟩ := zero_fin .f32
  have z3 : ab (fv .f32 0) ≤ 8 := by rw [z2, ab_of_nonneg Rat.le_refl]; grind
  have hs : StOk (2 ^ 14) (0, 0) := zero_ok (by grind)
  obtain ⟨hs', S⟩ := step_ok hm hs z1 z3 (Rat.le_refl) (by grind)
  obtain ⟨p1, p2⟩ := pole_le hm
  obtain ⟨w1, w2⟩ := wid_fin z1
  rw [z2] at w2
  have fa := hm.fa
  have fb := hm.fb
  have zt : ab (0 : Rat) ≤ top .f64 := by rw [ab_of_nonneg Rat.le_refl]; exact top_pos _
  have zt2 : ab (0 : Rat) ≤ top .f32 := by rw [ab_of_nonneg Rat.le_refl]; exact top_pos _
  have mz : ∀ {c : Nat}, fin .f64 c → fin .f64 (fo .mul .f64 (wid 0) c) ∧ fv .f64 (fo .mul .f64 (wid 0) c) = 0 := fun {c} hc => by
    have e : fv .f64 (wid 0) * fv .f64 c = 0 := by rw [w2, Rat.zero_mul]
    have r := mul_spec w1 hc (by rw [e]; exact zt)
    exact ⟨r.1, round_zero r e⟩
  have re : fv .f64 (mulRe (wid 0) (wid 0) (wid m.1) (wid m.2.1)) = 0 := by
    have e : fv .f64 (fo .mul .f64 (wid 0) (wid m.1)) - fv .f64 (fo .mul .f64 (wid 0) (wid m.2.1)) = 0 := by rw [(mz fa).2, (mz fb).2]; grind
    exact round_zero (sub_spec (mz fa).1 (mz fb).1 (by rw [e]; exact zt)) e
  have im : fv .f64 (mulIm (wid 0) (wid 0) (wid m.1) (wid m.2.1)) = 0 := by
    have e : fv .f64 (fo .mul .f64 (wid 0) (wid m.2.1)) + fv .f64 (fo .mul .f64 (wid 0) (wid m.1)) = 0 := by rw [(mz fa).2, (mz fb).2]; grind
    exact round_zero (add_spec (mz fb).1 (mz fa).1 (by rw [e]; exact zt)) e
  have M := S.mild
  have R1 := (nar_ok M.fr M.tr).2
  have R2 := (nar_ok M.fi M.ti).2
  have v1 := round_zero R1 re
  have v2 := round_zero R2 im
  have g : ∀ {c : Nat}, fin .f32 c → fv .f32 (fo .mul .f32 c 0) = 0 := fun {c} hc => by
    have e : fv .f32 c * fv .f32 0 = 0 := by rw [z2, Rat.mul_zero]
    exact round_zero (mul_spec hc z1 (by rw [e]; exact zt2)) e
  have k1 : fv .f32 (stepW m (0, 0) 0).1 = 0 := by
    have e : fv .f32 (sRe 0 0 m.1 m.2.1) + fv .f32 (fo .mul .f32 m.2.2.1 0) = 0 := by
      rw [show fv .f32 (sRe 0 0 m.1 m.2.1) = 0 from v1, g (fin_of_wid hm.fc)]; grind
    exact round_zero (add_spec R1.1 S.g1 (by rw [e]; exact zt2)) e
  have k2 : fv .f32 (stepW m (0, 0) 0).2 = 0 := by
    have e : fv .f32 (sIm 0 0 m.1 m.2.1) + fv .f32 (fo .mul .f32 m.2.2.2 0) = 0 := by
      rw [show fv .f32 (sIm 0 0 m.1 m.2.1) = 0 from v2, g (fin_of_wid hm.fd)]; grind
    exact round_zero (add_spec R2.1 S.g2 (by rw [e]; exact zt2)) e
  exact ⟨⟨S.n1, z1, hs'.w1, by rw [wfk_32]; omega, by rw [k1, z2]⟩, ⟨S.n2, z1, hs'.w2, by rw [wfk_32]; omega, by rw [k2, z2]⟩⟩

theorem low_late {xs : List Nat} (h : Low xs) : Low (0 :: xs) := fun i hi => by
  cases i with
  | zero =>
    obtain ⟨z1, z2⟩ := zero_fin .f32
    exact ⟨z1, by show ab (fv .f32 0) ≤ 8; rw [z2, ab_of_nonneg Rat.le_refl]; grind⟩
  | succ i =>
    simp at hi
    have := h i hi
    simpa using this
theorem inAt_late (xs : List Nat) (i : Nat) : inAt (0 :: xs) (i + 1) = inAt xs i := by
  unfold inAt
  simp
theorem inAt_late0 (xs : List Nat) : inAt (0 :: xs) 0 = 0 := by unfold inAt; simp
theorem late_states {ms : List MW} {xs : List Nat} (W : World) (hm : ModesOk ms) (hx : Low xs) (i : Nat) (hi : i ≤ 60) : ∀ k, k < ms.length → EqvS (sAt (stAt ms (0 :: xs) (i + 1)) k) (sAt (stAt ms xs i) k) := by
  induction i with
  | zero =>
    intro k hk
    have e0 : sAt (stAt ms (0 :: xs) 0) k = (0, 0) := by simp [stAt, sAt, List.getD, hk]
    have e1 : sAt (stAt ms xs 0) k = (0, 0) := by simp [stAt, sAt, List.getD, hk]
    have e : sAt (stAt ms (0 :: xs) (0 + 1)) k = stepW (mAt ms k) (sAt (stAt ms (0 :: xs) 0) k) (inAt (0 :: xs) 0) := nextS_at (by rw [stAt_len]; exact hk)
    rw [e, e0, e1, inAt_late0]
    exact rest_eqv W (hm.at_ hk)
  | succ i ih =>
    intro k hk
    have h := ih (by omega) k hk
    have e : sAt (stAt ms (0 :: xs) (i + 1 + 1)) k = stepW (mAt ms k) (sAt (stAt ms (0 :: xs) (i + 1)) k) (inAt (0 :: xs) (i + 1)) := nextS_at (by rw [stAt_len]; exact hk)
    have e' : sAt (stAt ms xs (i + 1)) k = stepW (mAt ms k) (sAt (stAt ms xs i) k) (inAt xs i) := nextS_at (by rw [stAt_len]; exact hk)
    rw [e, e', inAt_late]
    obtain ⟨x1, x2⟩ := hx.at_ i
    exact step_eqv W (hm.at_ hk) (states_ok hm (low_late hx) (i + 1) (by omega) k hk) h x1 x2 (pw3_lo _) (pw3_hi _ (by omega))
theorem out_eqv {ms : List MW} {ss ts : List (Nat × Nat)} {x : Nat} (h : ∀ k, k < ms.length → EqvS (stepW (mAt ms k) (sAt ss k) x) (stepW (mAt ms k) (sAt ts k) x) ∧ ab (fv .f32 (stepW (mAt ms k) (sAt ss k) x).1) ≤ 2 ^ 114) (k : Nat) (hk : k ≤ ms.length) (h5 : k ≤ 5) :
    Eqv .f32 (outAt ms ss x k) (outAt ms ts x k) ∧ ab (fv .f32 (outAt ms ss x k)) ≤ (k : Rat) * 2 ^ 115 := by
  induction k with
  | zero =>
    obtain ⟨z1, z2⟩ := zero_fin .f32
    refine ⟨Eqv.refl z1 (by show (0 : Nat) < 4294967296; omega), ?_⟩
    show ab (fv .f32 0) ≤ _
    rw [z2, ab_of_nonneg Rat.le_refl]; simp
  | succ k ih =>
    obtain ⟨e, b⟩ := ih (by omega) (by omega)
    obtain ⟨hs, hb⟩ := h k (by omega)
    have hk5 : (k : Rat) ≤ 5 := by
      have := Rat.natCast_le_natCast.2 (show k ≤ 5 by omega)
      simpa using this
    have hk0 : (0 : Rat) ≤ (k : Rat) := Rat.natCast_nonneg
    have ht2 := top32
    obtain ⟨u1, u2, u3⟩ := consts32
    have t1 := ab_add (fv .f32 (outAt ms ss x k)) (fv .f32 (stepW (mAt ms k) (sAt ss k) x).1)
    have t2 : ab (fv .f32 (outAt ms ss x k) + fv .f32 (stepW (mAt ms k) (sAt ss k) x).1) ≤ top .f32 := by grind
    refine ⟨e.add hs.1 t2, ?_⟩
    have r := (add_spec e.fa hs.1.fa t2).2.1
    rw [u1] at r
    have t3 := ab_tri (fv .f32 (fo .add .f32 (outAt ms ss x k) (stepW (mAt ms k) (sAt ss k) x).1)) (fv .f32 (outAt ms ss x k) + fv .f32 (stepW (mAt ms k) (sAt ss k) x).1)
    have ec : ((k + 1 : Nat) : Rat) = (k : Rat) + 1 := by simp
    rw [ec]
    show ab (fv .f32 (fo .add .f32 (outAt ms ss x k) (stepW (mAt ms k) (sAt ss k) x).1)) ≤ _
    grind
/-- **A LATE INPUT RINGS LATE.** -/
theorem late_out {ms : List MW} {xs ys zs : List Nat} {n : Nat} (W : World) (hm : ModesOk ms) (h5 : ms.length ≤ 5) (hx : Low xs) (hn : n ≤ 60) (hy : Rung ms xs ys n) (hz : Rung ms (0 :: xs) zs (n + 1)) : ∀ i, i < n → feq .f32 (zs.getD (i + 1) 0) (ys.getD i 0) = true := fun i hi => by
  obtain ⟨x1, x2⟩ := hx.at_ i
  have hst := late_states W hm hx i (by omega)
  have key := out_eqv (ms := ms) (ss := stAt ms (0 :: xs) (i + 1)) (ts := stAt ms xs i) (x := inAt xs i) (fun k hk => by
    have s0 := states_ok hm (low_late hx) (i + 1) (by omega) k hk
    refine ⟨step_eqv W (hm.at_ hk) s0 (hst k hk) x1 x2 (pw3_lo _) (pw3_hi _ (by omega)), ?_⟩
    have b := (step_ok (hm.at_ hk) s0 x1 x2 (pw3_lo _) (pw3_hi _ (by omega))).1.b1
    have := pw3_hi (i + 1) (by omega)
    have b' : ab (fv .f32 (stepW (mAt ms k) (sAt (stAt ms (0 :: xs) (i + 1)) k) (inAt xs i)).1) ≤ pw3 (i + 1) * 3 := b
    grind) ms.length (Nat.le_refl _) h5
  have e1 := (hz.2 (i + 1) (by omega)).1
  have e2 := (hy.2 i hi).1
  rw [inAt_late] at e1
  have f1 := nrm_fin_eq e1 key.1.fa
  have f2 := nrm_fin_eq e2 key.1.fb
  rw [f1, f2]
  exact (feq_iff key.1.fa key.1.fb).2 key.1.v
end Go.Proofs.Ytignncjmbcdpaaa

/-
One step of a mode: the errors in single and in double precision. (Plain arithmetic.)
-/
namespace Go.Proofs.Ytignncjmbcdpaaa
open Go Ieee

/-- Two products, their sum, narrowed. -/
theorem err_nar {p q s r P Q S : Rat} (hp : ab (p - P) ≤ ab P / 2 ^ 53 + 1 / 2 ^ 200) (hq : ab (q - Q) ≤ ab Q / 2 ^ 53 + 1 / 2 ^ 200) (hs : ab (s - (p + q)) ≤ ab (p + q) / 2 ^ 53 + 1 / 2 ^ 200)
    (hr : ab (r - s) ≤ ab s / 2 ^ 24 + 1 / 2 ^ 149) (hS : ab P + ab Q ≤ S) : ab (r - (P + Q)) ≤ S / 2 ^ 24 + S / 2 ^ 40 + 1 / 2 ^ 147 := by
  have t1 := ab_tri p P
  have t2 := ab_tri q Q
  have t3 := ab_add p q
  have t4 := ab_tri s (p + q)
  have t5 := ab_add (r - s) (s - (p + q))
  have t6 := ab_add (r - (p + q)) ((p - P) + (q - Q))
  have t7 := ab_add (p - P) (q - Q)
  have e1 : r - s + (s - (p + q)) = r - (p + q) := by grind
  have e2 : r - (p + q) + ((p - P) + (q - Q)) = r - (P + Q) := by grind
  rw [e1] at t5
  rw [e2] at t6
  have n1 := ab_nonneg P
  have n2 := ab_nonneg Q
  clear e1 e2
  generalize ab (p - P) = x1 at *
  generalize ab (q - Q) = x2 at *
  generalize ab (s - (p + q)) = x3 at *
  generalize ab (r - s) = x4 at *
  generalize ab (r - (p + q)) = x5 at *
  generalize ab (p - P + (q - Q)) = x6 at *
  generalize ab (r - (P + Q)) = x7 at *
  generalize ab (p + q) = x8 at *
  generalize ab p = x9 at *
  generalize ab q = x10 at *
  generalize ab s = x11 at *
  generalize ab P = x12 at *
  generalize ab Q = x13 at *
  grind
/-- Two products and their sum. -/
theorem err_dbl {p q s P Q S : Rat} (hp : ab (p - P) ≤ ab P / 2 ^ 53 + 1 / 2 ^ 200) (hq : ab (q - Q) ≤ ab Q / 2 ^ 53 + 1 / 2 ^ 200) (hs : ab (s - (p + q)) ≤ ab (p + q) / 2 ^ 53 + 1 / 2 ^ 200)
    (hS : ab P + ab Q ≤ S) : ab (s - (P + Q)) ≤ S / 2 ^ 51 + 1 / 2 ^ 197 := by
  have t1 := ab_tri p P
  have t2 := ab_tri q Q
  have t3 := ab_add p q
  have t6 := ab_add (s - (p + q)) ((p - P) + (q - Q))
  have t7 := ab_add (p - P) (q - Q)
  have e2 : s - (p + q) + ((p - P) + (q - Q)) = s - (P + Q) := by grind
  rw [e2] at t6
  have n1 := ab_nonneg P
  have n2 := ab_nonneg Q
  clear e2
  generalize ab (p - P) = x1 at *
  generalize ab (q - Q) = x2 at *
  generalize ab (s - (p + q)) = x3 at *
  generalize ab (p - P + (q - Q)) = x6 at *
  generalize ab (s - (P + Q)) = x7 at *
  generalize ab (p + q) = x8 at *
  generalize ab p = x9 at *
  generalize ab q = x10 at *
  generalize ab P = x12 at *
  generalize ab Q = x13 at *
  grind
/-- A part and a gain's part times an input, added. -/
theorem err_add {r g z V G S W μ τ : Rat} (hμ : 0 ≤ μ) (hμ1 : μ ≤ 1 / 2 ^ 24) (hτ : 0 ≤ τ) (hr : ab (r - V) ≤ S * μ + S / 2 ^ 16 * μ + τ * 4) (hV : ab V ≤ S) (hg : ab (g - G) ≤ μ * ab G + τ) (hG : ab G ≤ W) (hz : ab (z - (r + g)) ≤ μ * ab (r + g) + τ) (hS : 0 ≤ S) (hτ1 : τ ≤ 1) :
    ab (z - (V + G)) ≤ (S + W) * μ * 3 + τ * 8 := by
  have t1 := ab_tri r V
  have t2 := ab_tri g G
  have t3 := ab_add r g
  have t4 := ab_add (z - (r + g)) ((r - V) + (g - G))
  have t5 := ab_add (r - V) (g - G)
  have e : z - (r + g) + ((r - V) + (g - G)) = z - (V + G) := by grind
  rw [e] at t4
  clear e
  have n1 := ab_nonneg V
  have n2 := ab_nonneg G
  have n3 := ab_nonneg (r + g)
  generalize ab (r - V) = x1 at *
  generalize ab (g - G) = x2 at *
  generalize ab (z - (r + g)) = x3 at *
  generalize ab (r - V + (g - G)) = x4 at *
  generalize ab (z - (V + G)) = x5 at *
  generalize ab (r + g) = x6 at *
  generalize ab r = x7 at *
  generalize ab g = x8 at *
  generalize ab V = x9 at *
  generalize ab G = x10 at *
  have hW : 0 ≤ W := by grind
  have m1 := Rat.mul_nonneg hμ hS
  have m2 := Rat.mul_nonneg hμ hW
  have m3 : x6 ≤ S + W + (S * μ + S / 2 ^ 16 * μ + τ * 4) + (μ * x10 + τ) := by grind
  have m4 : μ * x10 ≤ μ * W := Rat.mul_le_mul_of_nonneg_left hG hμ
  have m5 := Rat.mul_le_mul_of_nonneg_left m3 hμ
  have m6 : μ * (μ * S) ≤ μ * S / 2 ^ 24 := by
    have := Rat.mul_le_mul_of_nonneg_right hμ1 m1
    grind
  have m7 : μ * (μ * W) ≤ μ * W / 2 ^ 24 := by
    have := Rat.mul_le_mul_of_nonneg_right hμ1 m2
    grind
  have m8 : μ * τ ≤ τ / 2 ^ 24 := by
    have := Rat.mul_le_mul_of_nonneg_right hμ1 hτ
    grind
  have m9 : μ * (μ * x10) ≤ μ * (μ * W) := Rat.mul_le_mul_of_nonneg_left m4 hμ
  grind
end Go.Proofs.Ytignncjmbcdpaaa

/-
One step of a mode against the exact one. (Plain arithmetic.)
-/
namespace Go.Proofs.Ytignncjmbcdpaaa
open Go Ieee

theorem ModeOk.ball {m : MW} (hm : ModeOk m.1 m.2.1 m.2.2.1 m.2.2.2) : B2 (fv .f32 m.1) (fv .f32 m.2.1) rho := B2.pole hm.square
/-- The size of a mode's gain. -/
def gam (m : MW) : Rat := ab (fv .f32 m.2.2.1) + ab (fv .f32 m.2.2.2)
theorem gam_nonneg (m : MW) : 0 ≤ gam m := by
  have := ab_nonneg (fv .f32 m.2.2.1)
  have := ab_nonneg (fv .f32 m.2.2.2)
  unfold gam; grind
/-- The exact step. -/
def exRe (m : MW) (A B x : Rat) : Rat := A * fv .f32 m.1 - B * fv .f32 m.2.1 + fv .f32 m.2.2.1 * x
def exIm (m : MW) (A B x : Rat) : Rat := A * fv .f32 m.2.1 + B * fv .f32 m.1 + fv .f32 m.2.2.2 * x
theorem ex_ball {m : MW} (hm : ModeOk m.1 m.2.1 m.2.2.1 m.2.2.2) {A B R x : Rat} (h : B2 A B R) : B2 (exRe m A B x) (exIm m A B x) (R * rho + gam m * ab x) :=
  (h.mul hm.ball).add ((B2.l1 _ _).scale x)

theorem gain_err {g x : Nat} (fg : fin .f32 g) (fx : fin .f32 x) (hg : ab (fv .f32 g) ≤ 1024) (hx : ab (fv .f32 x) ≤ 128) :
    fin .f32 (fo .mul .f32 g x) ∧ ab (fv .f32 (fo .mul .f32 g x) - fv .f32 g * fv .f32 x) ≤ 1 / 2 ^ 24 * ab (fv .f32 g * fv .f32 x) + 1 / 2 ^ 149 ∧ ab (fv .f32 (fo .mul .f32 g x)) ≤ 2 ^ 18 := by
  obtain ⟨u1, u2, _⟩ := consts32
  have ht2 := top32
  have h1 := Rat.mul_le_mul_of_nonneg_left hx (ab_nonneg (fv .f32 g))
  have h2 : ab (fv .f32 g * fv .f32 x) ≤ 2 ^ 17 := by rw [ab_mul]; grind
  have hm := mul_spec fg fx (by grind)
  have e := hm.2.1
  rw [u1] at e
  have t := ab_tri (fv .f32 (fo .mul .f32 g x)) (fv .f32 g * fv .f32 x)
  exact ⟨hm.1, by grind, by grind⟩
theorem prod64 {a c : Nat} {L : Rat} (fa : fin .f64 a) (fc : fin .f64 c) (h : ab (fv .f64 a * fv .f64 c) ≤ L) (hL : L ≤ 2 ^ 150) :
    fin .f64 (fo .mul .f64 a c) ∧ ab (fv .f64 (fo .mul .f64 a c) - fv .f64 a * fv .f64 c) ≤ ab (fv .f64 a * fv .f64 c) / 2 ^ 53 + 1 / 2 ^ 200 ∧ ab (fv .f64 (fo .mul .f64 a c)) ≤ L * 2 + 1 := by
  obtain ⟨k1, k2, k3⟩ := consts64
  have hm := mul_spec fa fc (by grind)
  have e := hm.2.1
  rw [k1] at e
  have t := ab_tri (fv .f64 (fo .mul .f64 a c)) (fv .f64 a * fv .f64 c)
  have n := ab_nonneg (fv .f64 a * fv .f64 c)
  exact ⟨hm.1, by grind, by grind⟩
/-- One part in double precision: two products and their sum. -/
theorem sum64 {p q : Nat} {L : Rat} (fp : fin .f64 p) (fq : fin .f64 q) (hp : ab (fv .f64 p) ≤ L) (hq : ab (fv .f64 q) ≤ L) (hL : L ≤ 2 ^ 160) :
    fin .f64 (fo .sub .f64 p q) ∧ fin .f64 (fo .add .f64 p q) ∧ ab (fv .f64 (fo .sub .f64 p q) - (fv .f64 p + -fv .f64 q)) ≤ ab (fv .f64 p + -fv .f64 q) / 2 ^ 53 + 1 / 2 ^ 200 ∧
      ab (fv .f64 (fo .add .f64 p q) - (fv .f64 p + fv .f64 q)) ≤ ab (fv .f64 p + fv .f64 q) / 2 ^ 53 + 1 / 2 ^ 200 := by
  obtain ⟨k1, k2, k3⟩ := consts64
  obtain ⟨p1, p2⟩ := le_ab (fv .f64 p)
  obtain ⟨q1, q2⟩ := le_ab (fv .f64 q)
  have b1 : ab (fv .f64 p - fv .f64 q) ≤ L * 2 := ab_le (by grind) (by grind)
  have b2 : ab (fv .f64 p + fv .f64 q) ≤ L * 2 := ab_le (by grind) (by grind)
  have s1 := sub_spec fp fq (by grind)
  have s2 := add_spec fp fq (by grind)
  have e1 := s1.2.1
  have e2 := s2.2.1
  rw [k1] at e1 e2
  have e : fv .f64 p + -fv .f64 q = fv .f64 p - fv .f64 q := by grind
  rw [e]
  exact ⟨s1.1, s2.1, by grind, by grind⟩
/-- A product of complex numbers in double precision. -/
theorem times64 {a b c d : Nat} {R : Rat} (fa : fin .f64 a) (fb : fin .f64 b) (fc : fin .f64 c) (fd : fin .f64 d) (h : B2 (fv .f64 a) (fv .f64 b) R) (g : B2 (fv .f64 c) (fv .f64 d) rho) (hR : R ≤ 2 ^ 100) :
    fin .f64 (mulRe a b c d) ∧ fin .f64 (mulIm a b c d) ∧ ab (fv .f64 (mulRe a b c d) - (fv .f64 a * fv .f64 c + -(fv .f64 b * fv .f64 d))) ≤ R * rho / 2 ^ 51 + 1 / 2 ^ 197 ∧
      ab (fv .f64 (mulIm a b c d) - (fv .f64 a * fv .f64 d + fv .f64 b * fv .f64 c)) ≤ R * rho / 2 ^ 51 + 1 / 2 ^ 197 := by
  obtain ⟨S1, S2⟩ := h.prods g
  have hr : R * rho ≤ 2 ^ 101 := by
    have := h.1
    unfold rho; grind
  have n1 := ab_nonneg (fv .f64 a * fv .f64 c)
  have n2 := ab_nonneg (fv .f64 b * fv .f64 d)
  have n3 := ab_nonneg (fv .f64 a * fv .f64 d)
  have n4 := ab_nonneg (fv .f64 b * fv .f64 c)
  obtain ⟨f1, e1, b1⟩ := prod64 fa fc (L := 2 ^ 101) (by grind) (by grind)
  obtain ⟨f2, e2, b2⟩ := prod64 fb fd (L := 2 ^ 101) (by grind) (by grind)
  obtain ⟨f3, e3, b3⟩ := prod64 fa fd (L := 2 ^ 101) (by grind) (by grind)
  obtain ⟨f4, e4, b4⟩ := prod64 fb fc (L := 2 ^ 101) (by grind) (by grind)
  obtain ⟨g1, _, x1, _⟩ := sum64 f1 f2 (L := 2 ^ 110) (by grind) (by grind) (by grind)
  obtain ⟨_, g2, _, x2⟩ := sum64 f3 f4 (L := 2 ^ 110) (by grind) (by grind) (by grind)
  have e2' : ab (-fv .f64 (fo .mul .f64 b d) - -(fv .f64 b * fv .f64 d)) ≤ ab (-(fv .f64 b * fv .f64 d)) / 2 ^ 53 + 1 / 2 ^ 200 := by
    rw [ab_neg, show -fv .f64 (fo .mul .f64 b d) - -(fv .f64 b * fv .f64 d) = -(fv .f64 (fo .mul .f64 b d) - fv .f64 b * fv .f64 d) by grind, ab_neg]; exact e2
  exact ⟨g1, g2, err_dbl e1 e2' x1 (by rw [ab_neg]; exact S1), err_dbl e3 e4 x2 S2⟩
end Go.Proofs.Ytignncjmbcdpaaa

/-
impl.widened.
-/
namespace Go.Proofs.Ytignncjmbcdpaaa
open Go Go.RowKit Ieee

set_option maxRecDepth 100000 in
set_option maxHeartbeats 1000000 in
theorem widened_any (A : Option Addr) (c lo hi : Nat) (ms : List MW) (w : World) (h : OwnM w lo hi A c ms) (hh : hi ≤ w.heap.size) (hok : ModesOk ms) (hl : ms.length ≤ 16) :
    Calls Try.prog 109 #[.agg #[.slice A ms.length c]] w fun e w' => ∃ (A' : Option Addr) (c' : Nat), e = .returned (.slice A' ms.length c') ∧ OwnD w' w.heap.size w'.heap.size A' c' (ms.map widM) ∧ Below w.heap.size w w' := by
  have HB : Hid (Below w.heap.size w ((w.alloc (.cells #[.slice A ms.length c] 69)).alloc (.cells #[] 131))) := ((Below.refl w.heap.size w).alloc (Nat.le_refl _) _).alloc (by simp) _
  have H0 := Lib.hid h
  have HK := Lib.hid hok
  have hBd : ((w.alloc (.cells #[.slice A ms.length c] 69)).alloc (.cells #[] 131)).heap[w.heap.size]? = some (.cells #[.slice A ms.length c] 69 (0, 0)) := (Below.heap_alloc _ _ _ (by simp)).trans (heap_alloc_new w _)
  have c0 := cell_of_row _ w.heap.size 0 _ _ (0, 0) hBd
  have own0 : ((w.alloc (.cells #[.slice A ms.length c] 69)).alloc (.cells #[] 131)).ownsRow w.heap.size 131 2 (.slice (some ⟨w.heap.size + 1, 0, none⟩) 0 0) 0 (flatD (([] : List MW).map widM)) := by
    have hn := heap_alloc_new (w.alloc (.cells #[.slice A ms.length c] 69)) (.cells #[] 131)
    refine ⟨by simp [flatD], .inr ⟨w.heap.size + 1, 0, #[], rfl, by omega, by simpa using hn, Nat.le_refl _, by simp [maxLen], by simp, by simp [flatD]⟩⟩
  clear h hok hBd
  go_enter Try.func109, Try.ntmps109
  go_wp2_with fail
  generalize (w.alloc (.cells #[.slice A ms.length c] 69)).alloc (.cells #[] 131) = W at *
  go_loopw [3, 10] (fun v i wr => ∃ (k : Nat) (L : List MW), i = .int .i64 (k : Int) ∧ k ≤ ms.length ∧ Hid (L = ms.take k) ∧ wr.ownsRow w.heap.size 131 2 v k (flatD (L.map widM)) ∧ Below w.heap.size w wr) (fun _ i _ => ms.length - (intOf i).toNat)
  case atStart => exact ⟨0, [], rfl, by omega, rfl, own0, HB.out⟩
  case round =>
    clear own0 c0
    obtain ⟨k, L, rfl, hk, HL, hown, hbel⟩ := hrel
    by_cases hlt : k < ms.length
    · obtain ⟨b, rfl, hb1, hb2, hlc, hmx, hcell⟩ := (H0.out.below hbel hh).cells (by omega)
      obtain ⟨e1, e2⟩ := hcell k hlt
      have hmk := HK.out.at_ hlt
      have HLx : Hid (L ++ [mAt ms k] = ms.take (k + 1)) := by
        show L ++ [mAt ms k] = ms.take (k + 1)
        rw [HL.out, List.take_add_one, List.getElem?_eq_getElem hlt]
        simp [mAt, List.getD, List.getElem?_eq_getElem hlt]
      have hmod : Hid (modeD (widM (mAt ms k)) = [.complex .f64 (wid (mAt ms k).1) (wid (mAt ms k).2.1), .complex .f64 (wid (mAt ms k).2.2.1) (wid (mAt ms k).2.2.2)]) := rfl
      have e1' : wr.cell? ⟨b, k * 2, none⟩ = some (.complex .f32 (mAt ms k).1 (mAt ms k).2.1) := e1
      have e2' : wr.cell? ⟨b, k * 2 + 1, none⟩ = some (.complex .f32 (mAt ms k).2.2.1 (mAt ms k).2.2.2) := e2
      have T1 := Lib.hid (fun W => widenFin_any (mAt ms k).1 (mAt ms k).2.1 W hmk.fa hmk.fb)
      have T2 := Lib.hid (fun W => widenFin_any (mAt ms k).2.2.1 (mAt ms k).2.2.2 W hmk.fc hmk.fd)
      clear e1 e2 hcell hmk
      obtain ⟨a, ha⟩ : ∃ a, (mAt ms k).1 = a := ⟨_, rfl⟩
      obtain ⟨b0, hb⟩ : ∃ b, (mAt ms k).2.1 = b := ⟨_, rfl⟩
      obtain ⟨c0, hc⟩ : ∃ c, (mAt ms k).2.2.1 = c := ⟨_, rfl⟩
      obtain ⟨d0, hd⟩ : ∃ d, (mAt ms k).2.2.2 = d := ⟨_, rfl⟩
      rw [ha, hb] at e1' T1
      rw [hc, hd] at e2' T2
      rw [ha, hb, hc, hd] at hmod
      clear ha hb hc hd
      obtain ⟨a', ha⟩ : ∃ a', wid a = a' := ⟨_, rfl⟩
      obtain ⟨b', hb⟩ : ∃ b', wid b0 = b' := ⟨_, rfl⟩
      obtain ⟨c'', hc⟩ : ∃ c', wid c0 = c' := ⟨_, rfl⟩
      obtain ⟨d', hd⟩ : ∃ d', wid d0 = d' := ⟨_, rfl⟩
      rw [ha, hb] at T1
      rw [hc, hd] at T2
      rw [ha, hb, hc, hd] at hmod
      clear ha hb hc hd
      have hmB : Hid ((wr.alloc (.cells #[.complex .f32 a b0, .complex .f32 c0 d0] 52)).heap[wr.heap.size]? = some (.cells #[.complex .f32 a b0, .complex .f32 c0 d0] 52 (0, 0))) := heap_alloc_new wr _
      have HB1 : Hid (Below w.heap.size w (wr.alloc (.cells #[.complex .f32 a b0, .complex .f32 c0 d0] 52))) := hbel.alloc hbel.size _
      have HO1 : Hid ((wr.alloc (.cells #[.complex .f32 a b0, .complex .f32 c0 d0] 52)).ownsRow w.heap.size 131 2 u3 k (flatD (L.map widM))) := hown.alloc _
      have hms : wr.heap.size < (wr.alloc (.cells #[.complex .f32 a b0, .complex .f32 c0 d0] 52)).heap.size := by simp
      have hNG : Hid (∀ q, (u3 : Value).ownBlock = some q → q < wr.heap.size) := fun q hq => (hown.lt q hq).2
      have hws : w.heap.size ≤ wr.heap.size := hbel.size
      go_wp2_with fail
      generalize wr.alloc (.cells #[.complex .f32 a b0, .complex .f32 c0 d0] 52) = Wa at *
      obtain ⟨m0, m1, _, _⟩ := m_cells hmB.out
      generalize hmm : wr.heap.size = mb at *
      obtain ⟨wr1, hwr1⟩ : ∃ wr1, Wa.drew = wr1 := ⟨_, rfl⟩
      have hS : Wa.drew.cell? ⟨mb, 0, none⟩ = some (.complex .f32 a b0) ∧ Wa.drew.cell? ⟨mb, 1, none⟩ = some (.complex .f32 c0 d0) := ⟨m0, m1⟩
      have HOW : Hid (wr1.ownsRow w.heap.size 131 2 u3 k (flatD (L.map widM))) := by rw [← hwr1]; exact HO1.out
      have HAl : Hid ((wr1.alloc (.cells #[.complex .f64 a' b', .complex .f64 c'' d'] 131)).cell? ⟨mb, 0, none⟩ = some (.complex .f32 a b0) ∧ (wr1.alloc (.cells #[.complex .f64 a' b', .complex .f64 c'' d'] 131)).cell? ⟨mb, 1, none⟩ = some (.complex .f32 c0 d0)) := by
        rw [← hwr1]
        exact ⟨(World.cell?_of_block (Below.heap_alloc Wa.drew _ mb hms)).trans m0, (World.cell?_of_block (Below.heap_alloc Wa.drew _ mb hms)).trans m1⟩
      have BK : Hid (∀ (w4 : World) (gg : Nat), (wr1.alloc (.cells #[.complex .f64 a' b', .complex .f64 c'' d'] 131)).grownBy w4 (u3 : Value).ownBlock → Below w.heap.size w w4 ∧ (w4.cell? ⟨mb, 0, none⟩ = some (.complex .f32 a b0) ∧ w4.cell? ⟨mb, 1, none⟩ = some (.complex .f32 c0 d0))) := fun w4 gg hg => by
        have hsz : wr1.heap.size = Wa.heap.size := by rw [← hwr1]; rfl
        have hne : some mb ≠ (u3 : Value).ownBlock := fun e => by have := hNG.out _ e.symm; omega
        have k4 := hg.block mb (by simp; omega) hne
        have b1 : Below w.heap.size w wr1 := by
          rw [← hwr1]; exact below_drewN HB1.out 1
        refine ⟨(b1.alloc (by have := HB1.out.size; omega) _).grown hg (by have := HB1.out.size; simp; omega) (fun q hq => (HOW.out.lt q hq).1), (World.cell?_of_block k4).trans HAl.out.1, (World.cell?_of_block k4).trans HAl.out.2⟩
      have hb0 : w.heap.size ≤ wr1.heap.size := by rw [← hwr1]; exact HB1.out.size
      clear m0 m1 hown hbel e1' e2'
      refine wp_region_held_drew (S := fun w' => w'.cell? ⟨mb, 0, none⟩ = some (.complex .f32 a b0) ∧ w'.cell? ⟨mb, 1, none⟩ = some (.complex .f32 c0 d0)) (by kernel_rfl) hS (fun hHeld => ?_)
      rw [hwr1] at hHeld ⊢
      refine wpAnyH_take (i := 0) (oi := _) (v := ?_) rfl (by kernel_rfl) (by kernel_rfl) (by kernel_rfl) (fun _ _ _ h => h) (Or.inl ⟨by rfl, ?_⟩) (by assumption) ?_
      rotate_left
      · (intro w hSw; (try dsimp only at hSw); go_simp; try (with_reducible rfl))
      (try simp only [Act.put, List.setIfInBounds_toArray, List.set_cons_zero, List.set_cons_succ])
      refine wpAnyH_take (i := 1) (oi := _) (v := ?_) rfl (by kernel_rfl) (by kernel_rfl) (by kernel_rfl) (fun _ _ _ h => h) (Or.inl ⟨by rfl, ?_⟩) (by assumption) ?_
      rotate_left
      · (intro w hSw; (try dsimp only at hSw); go_simp; try (with_reducible rfl))
      (try simp only [Act.put, List.setIfInBounds_toArray, List.set_cons_zero, List.set_cons_succ])
      refine wpAnyH_take (i := 2) (oi := _) (v := ?_) rfl (by kernel_rfl) (by kernel_rfl) (by kernel_rfl) (fun _ _ _ h => h) (Or.inl ⟨by rfl, ?_⟩) (by assumption) ?_
      rotate_left
      · (intro w hSw; (try dsimp only at hSw); go_simp; try (with_reducible rfl))
      (try simp only [Act.put, List.setIfInBounds_toArray, List.set_cons_zero, List.set_cons_succ])
      refine wpAnyH_take (i := 4) (oi := _) (v := ?_) rfl (by kernel_rfl) (by kernel_rfl) (by kernel_rfl) (fun _ _ _ h => h) (Or.inl ⟨by rfl, ?_⟩) (by assumption) ?_
      rotate_left
      · (intro w hSw; (try dsimp only at hSw); go_simp; try (with_reducible rfl))
      (try simp only [Act.put, List.setIfInBounds_toArray, List.set_cons_zero, List.set_cons_succ])
      refine wpAnyH_take (i := 5) (oi := _) (v := ?_) rfl (by kernel_rfl) (by kernel_rfl) (by kernel_rfl) (fun _ _ _ h => h) (Or.inl ⟨by rfl, ?_⟩) (by assumption) ?_
      rotate_left
      · (intro w hSw; (try dsimp only at hSw); go_simp; try (with_reducible rfl))
      (try simp only [Act.put, List.setIfInBounds_toArray, List.set_cons_zero, List.set_cons_succ])
      refine wpAnyH_ready (rs := [3]) (by kernel_rfl) (by simp) ?_
      refine AllReadyH.cons (o := _) rfl (fun K hK => ?_) AllReadyH.nil
      go_simp
      refine (T1.out wr1).mono ?_
      rintro e w' ⟨rfl, rfl⟩
      go_wp2_with fail
      refine hK.out _ _ ?_ (fun hHelda => ?_)
      · exact hHeld
      clear hK K
      (try simp only [Act.put, List.setIfInBounds_toArray, List.set_cons_zero, List.set_cons_succ])
      refine wpAnyH_ready (rs := [6]) (by kernel_rfl) (by simp) ?_
      refine AllReadyH.cons (o := _) rfl (fun K hK => ?_) AllReadyH.nil
      go_simp
      refine (T2.out wr1).mono ?_
      rintro e w' ⟨rfl, rfl⟩
      go_wp2_with fail
      refine hK.out _ _ ?_ (fun hHeldb => ?_)
      · exact hHeld
      clear hK K
      (try simp only [Act.put, List.setIfInBounds_toArray, List.set_cons_zero, List.set_cons_succ])
      refine wpAnyH_take (i := 7) (oi := _) (v := ?_) rfl (by kernel_rfl) (by kernel_rfl) (by kernel_rfl) (fun _ _ _ h => h) (Or.inl ⟨by rfl, ?_⟩) (by assumption) ?_
      rotate_left
      · (intro w hSw; (try dsimp only at hSw); go_simp; try (with_reducible rfl))
      (try simp only [Act.put, List.setIfInBounds_toArray, List.set_cons_zero, List.set_cons_succ])
      refine wpAnyH_ready (rs := [8]) (by kernel_rfl) (by simp) ?_
      refine AllReadyH.cons (o := _) rfl (fun K hK => ?_) AllReadyH.nil
      go_simp
      refine hK.out _ _ ?_ (fun hHeldc => ?_)
      · exact HAl.out
      clear hK K
      (try simp only [Act.put, List.setIfInBounds_toArray, List.set_cons_zero, List.set_cons_succ])
      obtain ⟨i0, hi0, hz0, hz1, hz2'⟩ := info_parts wide_info
      refine wpAnyH_ready (rs := [9]) (by kernel_rfl) (by simp) ?_
      refine AllReadyH.cons (o := _) rfl (fun K hK => ?_) AllReadyH.nil
      refine step_append_lies _ (by rfl) (.tmp 14) (.tmp 22) 83 (by rfl) w.heap.size 131 i0 _ 2 32 Try.underlying83 hi0 hz0 hz1 hz2' rfl (by omega) u3 k (flatD (L.map widM)) (by rfl) (HOW.out.alloc _) ⟨wr1.heap.size, 0, none⟩ 1 1 [.complex .f64 a' b', .complex .f64 c'' d'] (by rfl) (by rfl) (World.news_of_block (cs := #[.complex .f64 a' b', .complex .f64 c'' d']) (t := 131) (fr := (0, 0)) (heap_alloc_new wr1 _)) (by simp [Value.oneCell']) (by omega) (by simp only [maxLen]; omega) (by omega) (by simp; omega) (wr1.heap.size + 1) (by simp) ?_
      intro gg cap w4 hown4 hgrow hat hlt4
      have B4 := Lib.hid (BK.out w4 gg hgrow)
      refine hK.out _ _ ?_ (fun hHeldd => ?_)
      · exact B4.out.2
      clear hK K
      (try simp only [Act.put, List.setIfInBounds_toArray, List.set_cons_zero, List.set_cons_succ])
      refine wpAnyH_take (i := 10) (oi := _) (v := ?_) rfl (by kernel_rfl) (by kernel_rfl) (by kernel_rfl) (fun _ _ _ h => h) (Or.inl ⟨by rfl, ?_⟩) (by assumption) ?_
      rotate_left
      · (intro w hSw; (try dsimp only at hSw); go_simp; try (with_reducible rfl))
      (try simp only [Act.put, List.setIfInBounds_toArray, List.set_cons_zero, List.set_cons_succ])
      refine wpAnyH_done (by kernel_rfl) ?_ _
      go_wp2_with fail
      go_roundw
      case rel =>
        refine ⟨k + 1, L ++ [mAt ms k], by go_num, by omega, HLx.out, ?_, B4.out.1⟩
        rw [List.map_append, List.map_cons, List.map_nil, ← flatD_snoc, hmod.out]
        exact hown4
      case measure => simp [intOf]; omega
    · have hkn : ms.length = k := by omega
      subst hkn
      have hL : L = ms := by rw [HL.out, List.take_length]
      subst hL
      go_wp2_with fail
      go_ret
      have hv : ∃ A' c', u3 = .slice A' L.length c' := by
        rcases hown.2 with ⟨rfl, h0⟩ | ⟨G, cap', cur', rfl, _⟩
        · exact ⟨none, 0, by rw [h0]⟩
        · exact ⟨_, _, rfl⟩
      obtain ⟨A', c', rfl⟩ := hv
      have hln : (L.map widM).length = L.length := by simp
      refine ⟨A', c', rfl, OwnD.of ?_, hbel⟩
      rw [hln]; exact hown
end Go.Proofs.Ytignncjmbcdpaaa

/-
impl.RingDouble at a valid body.
-/
namespace Go.Proofs.Ytignncjmbcdpaaa
open Go Go.RowKit Ieee

set_option maxRecDepth 100000 in
set_option maxHeartbeats 400000 in
theorem input_any (B : Option Addr) (d pb : Nat) (xs : List Nat) (i : Nat) (w : World) (hc : w.cell? ⟨pb, 0, none⟩ = some (.slice B xs.length d)) (hr : Rd w B (f32s xs)) (hm : xs.length ≤ 1048576) (hi : i ≤ 2000) :
    Calls Try.prog 116 #[.int .i64 i, .pointer (some ⟨pb, 0, none⟩)] w fun e w' => ∃ x m, e = .returned (.float .f64 x) ∧ nrm .f64 x = nrm .f64 (wid (inAt xs i)) ∧ w.drewN m = w' := by
  have T := Lib.hid (element_any B d xs i w hr hm hi)
  obtain ⟨y, hy⟩ : ∃ y, inAt xs i = y := ⟨_, rfl⟩
  rw [hy] at T ⊢
  clear hr hy
  go_enter Try.func116, Try.ntmps116
  go_wp2_with fail
  refine T.out.mono ?_
  rintro e w' ⟨rfl, rfl⟩
  go_wp2_with fail
  go_ret
  exact ⟨_, _, rfl, by rw [nrm_wid, nrm_cv (by decide)], rfl⟩

/-- The inputs of a body in double precision. -/
def inW (xs : List Nat) (i : Nat) : Nat := wid (inAt xs i)
set_option maxRecDepth 100000 in
set_option maxHeartbeats 800000 in
theorem ringDouble_any (A B : Option Addr) (c d lo hi : Nat) (ms : List MW) (xs : List Nat) (n : Nat) (w : World) (h : OwnM w lo hi A c ms) (hh : hi ≤ w.heap.size) (hok : ModesOk ms) (hl : ms.length ≤ 16)
    (hr : Rd w B (f32s xs)) (hm : xs.length ≤ 1048576) (hn : n ≤ 2000) :
    Calls Try.prog 66 #[.agg #[.slice A ms.length c], .slice B xs.length d, .int .i64 n] w fun e w' => ∃ (A' : Option Addr) (c' : Nat) (ys : List Nat), e = .returned (.tuple #[.slice A' ys.length c', .bool true]) ∧
      w'.ownsRow w.heap.size 30 1 (.slice A' ys.length c') ys.length (f64s ys) ∧ RungD (ms.map widM) (inW xs) ys n ∧ Below w.heap.size w w' := by
  have HB : Hid (Below w.heap.size w ((w.alloc (.cells #[.slice A ms.length c] 69)).alloc (.cells #[.slice B xs.length d] 23))) := ((Below.refl w.heap.size w).alloc (Nat.le_refl _) _).alloc (by simp) _
  have H : Hid (OwnM ((w.alloc (.cells #[.slice A ms.length c] 69)).alloc (.cells #[.slice B xs.length d] 23)) lo hi A c ms) := h.below HB.out hh
  have HR : Hid (Rd ((w.alloc (.cells #[.slice A ms.length c] 69)).alloc (.cells #[.slice B xs.length d] 23)) B (f32s xs)) := hr.below HB.out
  have HP : Hid (((w.alloc (.cells #[.slice A ms.length c] 69)).alloc (.cells #[.slice B xs.length d] 23)).heap[w.heap.size]? = some (.cells #[.slice A ms.length c] 69 (0, 0))) :=
    (Below.heap_alloc _ _ _ (by simp)).trans (heap_alloc_new w _)
  have HI : Hid (((w.alloc (.cells #[.slice A ms.length c] 69)).alloc (.cells #[.slice B xs.length d] 23)).heap[w.heap.size + 1]? = some (.cells #[.slice B xs.length d] 23 (0, 0))) := by
    show _ = _
    have := heap_alloc_new (w.alloc (.cells #[.slice A ms.length c] 69)) (.cells #[.slice B xs.length d] 23)
    simpa using this
  have hsz : w.heap.size + 1 < ((w.alloc (.cells #[.slice A ms.length c] 69)).alloc (.cells #[.slice B xs.length d] 23)).heap.size := by simp
  have hin : (decide ((0 : Int) ≤ (n : Int)) && decide ((n : Int) ≤ 2000)) = true := by simp; omega
  have HK := Lib.hid hok
  have c0 := cell_of_row _ w.heap.size 0 _ _ (0, 0) HP.out
  clear h hr hok
  go_enter Try.func66, Try.ntmps66
  go_wp2_with fail
  generalize (w.alloc (.cells #[.slice A ms.length c] 69)).alloc (.cells #[.slice B xs.length d] 23) = W at *
  refine (isBody_any A c lo hi ms _ H.out (by omega) HK.out hl).mono ?_
  rintro e W1 ⟨rfl, hb1⟩
  have hs1 := hb1.size
  have HP1 := Lib.hid ((hb1.block _ (by omega)).trans HP.out)
  have HI1 := Lib.hid ((hb1.block _ (by omega)).trans HI.out)
  have H1 := Lib.hid (H.out.below hb1 (by omega))
  have HR1 := Lib.hid (HR.out.below hb1)
  have HB1 : Hid (Below w.heap.size w W1) := HB.out.trans (hb1.mono (by omega))
  clear c0 H HR HP HI HB hb1
  have c1 := cell_of_row _ w.heap.size 0 _ _ (0, 0) HP1.out
  go_wp2_with fail
  refine (count_any n _).mono ?_
  rintro e w' ⟨rfl, rfl⟩
  rw [hin]
  go_wp2_with fail
  refine (widened_any A c lo hi ms W1 H1.out (by omega) HK.out hl).mono ?_
  rintro e W2 ⟨A2, c2, he, ho2, hb2⟩
  obtain ⟨ds, hds⟩ : ∃ ds, ms.map widM = ds := ⟨_, rfl⟩
  have hdl : ms.length = ds.length := by rw [← hds]; simp
  rw [hds] at ho2
  rw [hdl] at he
  have HDS := Lib.hid hds
  subst he
  have HO2 := Lib.hid ho2
  have HR2 := Lib.hid (HR1.out.below hb2)
  have hs2 := hb2.size
  have HI2 := Lib.hid ((hb2.block _ (by omega)).trans HI1.out)
  have HB2 : Hid (Below w.heap.size w W2) := HB1.out.trans (hb2.mono (by omega))
  have hdl16 : ds.length ≤ 16 := by omega
  clear ho2 hb2 c1 HP1 HI1 H1 HR1 HB1 hds
  go_wp2_with fail
  refine (ring_any A2 c2 _ _ ds (w.heap.size + 1) (inW xs) n W2 HO2.out (Nat.le_refl _) hdl16 hn (fun i W3 hi hb3 => input_any B d (w.heap.size + 1) xs i W3 (cell_of_row W3 (w.heap.size + 1) 0 _ _ (0, 0) ((hb3.block _ (by omega)).trans HI2.out)) (HR2.out.below hb3) hm (by omega))).mono ?_
  rintro e W4 ⟨A4, c4, ys, rfl, ho4, hr4, hb4⟩
  have HO4 := Lib.hid (owns_low (lo' := w.heap.size) ho4 (by omega))
  have HR4 := Lib.hid hr4
  have HB4 : Hid (Below w.heap.size w W4) := HB2.out.trans (hb4.mono (by omega))
  clear ho4 hr4 hb4
  go_wp2_with fail
  go_ret2
  exact ⟨A4, c4, ys, rfl, HO4.out, by rw [HDS.out]; exact HR4.out, HB4.out⟩
end Go.Proofs.Ytignncjmbcdpaaa

/-
One step of a mode in single and in double precision. (Plain arithmetic.)
-/
namespace Go.Proofs.Ytignncjmbcdpaaa
open Go Ieee

theorem nar_err {s r : Nat} {V S : Rat} (fs : fin .f64 s) (he : ab (fv .f64 s - V) ≤ S / 2 ^ 51 + 1 / 2 ^ 197) (hV : ab V ≤ S) (hS : S ≤ 2 ^ 102) (hr : r = nar s) :
    ab (fv .f64 s) ≤ top .f32 ∧ fin .f32 r ∧ ab (fv .f32 r - V) ≤ S * (1 / 2 ^ 24) + S / 2 ^ 16 * (1 / 2 ^ 24) + 1 / 2 ^ 149 * 4 ∧ ab (fv .f32 r) ≤ 2 ^ 104 := by
  obtain ⟨u1, u2, _⟩ := consts32
  have ht2 := top32
  have t := ab_tri (fv .f64 s) V
  have n := ab_nonneg V
  have hb : ab (fv .f64 s) ≤ S + S / 2 ^ 51 + 1 / 2 ^ 197 := by grind
  have htop : ab (fv .f64 s) ≤ top .f32 := by grind
  have h := (nar_ok fs htop).2
  have e := h.2.1
  rw [u1] at e
  have t2 := ab_add (fv .f32 (nar s) - fv .f64 s) (fv .f64 s - V)
  rw [show fv .f32 (nar s) - fv .f64 s + (fv .f64 s - V) = fv .f32 (nar s) - V by grind] at t2
  have t3 := ab_tri (fv .f32 (nar s)) V
  subst hr
  exact ⟨htop, h.1, by grind, by grind⟩
theorem add_err {r g : Nat} {V G S W : Rat} (fr : fin .f32 r) (fg : fin .f32 g) (hr : ab (fv .f32 r - V) ≤ S * (1 / 2 ^ 24) + S / 2 ^ 16 * (1 / 2 ^ 24) + 1 / 2 ^ 149 * 4) (hV : ab V ≤ S) (br : ab (fv .f32 r) ≤ 2 ^ 104)
    (hg : ab (fv .f32 g - G) ≤ 1 / 2 ^ 24 * ab G + 1 / 2 ^ 149) (hG : ab G ≤ W) (bg : ab (fv .f32 g) ≤ 2 ^ 18) :
    fin .f32 (fo .add .f32 r g) ∧ ab (fv .f32 (fo .add .f32 r g) - (V + G)) ≤ (S + W) / 2 ^ 22 + 1 / 2 ^ 146 := by
  obtain ⟨u1, u2, _⟩ := consts32
  have ht2 := top32
  have t := ab_add (fv .f32 r) (fv .f32 g)
  have h := add_spec fr fg (by grind)
  have e := h.2.1
  rw [u1] at e
  have nV := ab_nonneg V
  have nG := ab_nonneg G
  have k := err_add (μ := 1 / 2 ^ 24) (τ := 1 / 2 ^ 149) (by grind) (by grind) (by grind) hr hV hg hG (z := fv .f32 (fo .add .f32 r g)) (by grind) (by grind) (by grind)
  exact ⟨h.1, by grind⟩
theorem s32_step {m : MW} {s : Nat × Nat} {x : Nat} {R : Rat} (hm : ModeOk m.1 m.2.1 m.2.2.1 m.2.2.2) (f1 : fin .f32 s.1) (f2 : fin .f32 s.2) (w1 : wfk .f32 s.1) (w2 : wfk .f32 s.2)
    (hB : B2 (fv .f32 s.1) (fv .f32 s.2) R) (hR : R ≤ 2 ^ 100) (fx : fin .f32 x) (hx : ab (fv .f32 x) ≤ 128) :
    StepOk m s x ∧ ab (fv .f32 (stepW m s x).1 - exRe m (fv .f32 s.1) (fv .f32 s.2) (fv .f32 x)) ≤ (R * rho + gam m * ab (fv .f32 x)) / 2 ^ 22 + 1 / 2 ^ 146 ∧
      ab (fv .f32 (stepW m s x).2 - exIm m (fv .f32 s.1) (fv .f32 s.2) (fv .f32 x)) ≤ (R * rho + gam m * ab (fv .f32 x)) / 2 ^ 22 + 1 / 2 ^ 146 := by
  obtain ⟨a1, a2⟩ := wid_fin f1
  obtain ⟨b1, b2⟩ := wid_fin f2
  have c2 := (wid_fin (fin_of_wid hm.fa)).2
  have d2 := (wid_fin (fin_of_wid hm.fb)).2
  have hP := hm.ball
  obtain ⟨S1, S2⟩ := hB.prods hP
  obtain ⟨t1, t2, t3, t4⟩ := times64 a1 b1 hm.fa hm.fb (by rw [a2, b2]; exact hB) (by rw [c2, d2]; exact hP) hR
  rw [a2, b2, c2, d2] at t3 t4
  have hS : R * rho ≤ 2 ^ 102 := by
    have := hB.1
    unfold rho; grind
  have v1 := ab_add (fv .f32 s.1 * fv .f32 m.1) (-(fv .f32 s.2 * fv .f32 m.2.1))
  rw [ab_neg] at v1
  have v2 := ab_add (fv .f32 s.1 * fv .f32 m.2.1) (fv .f32 s.2 * fv .f32 m.1)
  obtain ⟨p1, p2, p3, p4⟩ := nar_err t1 t3 (by grind) hS (rfl : sRe s.1 s.2 m.1 m.2.1 = _)
  obtain ⟨q1, q2, q3, q4⟩ := nar_err t2 t4 (by grind) hS (rfl : sIm s.1 s.2 m.1 m.2.1 = _)
  obtain ⟨g1, g2, g3⟩ := gain_err (fin_of_wid hm.fc) fx (gain_le hm.fc hm.gain.1) hx
  obtain ⟨h1, h2, h3⟩ := gain_err (fin_of_wid hm.fd) fx (gain_le hm.fd hm.gain.2) hx
  have n1 := ab_nonneg (fv .f32 m.2.2.1)
  have n2 := ab_nonneg (fv .f32 m.2.2.2)
  have n3 := ab_nonneg (fv .f32 x)
  have W1 : ab (fv .f32 m.2.2.1 * fv .f32 x) ≤ gam m * ab (fv .f32 x) := by
    rw [ab_mul]; exact Rat.mul_le_mul_of_nonneg_right (by unfold gam; grind) n3
  have W2 : ab (fv .f32 m.2.2.2 * fv .f32 x) ≤ gam m * ab (fv .f32 x) := by
    rw [ab_mul]; exact Rat.mul_le_mul_of_nonneg_right (by unfold gam; grind) n3
  obtain ⟨z1, z2⟩ := add_err p2 g1 p3 (by grind) p4 g2 W1 g3
  obtain ⟨y1, y2⟩ := add_err q2 h1 q3 (by grind) q4 h2 W2 h3
  refine ⟨⟨⟨t1, t2, p1, q1⟩, w1, w2, g1, h1, z1, y1⟩, ?_, ?_⟩
  · have e : exRe m (fv .f32 s.1) (fv .f32 s.2) (fv .f32 x) = fv .f32 s.1 * fv .f32 m.1 + -(fv .f32 s.2 * fv .f32 m.2.1) + fv .f32 m.2.2.1 * fv .f32 x := by unfold exRe; grind
    rw [e]; exact z2
  · exact y2
theorem gain64 {g x : Nat} (fg : fin .f64 g) (fx : fin .f64 x) (hg : ab (fv .f64 g) ≤ 1024) (hx : ab (fv .f64 x) ≤ 128) :
    fin .f64 (fo .mul .f64 g x) ∧ ab (fv .f64 (fo .mul .f64 g x) - fv .f64 g * fv .f64 x) ≤ 1 / 2 ^ 51 * ab (fv .f64 g * fv .f64 x) + 1 / 2 ^ 199 ∧ ab (fv .f64 (fo .mul .f64 g x)) ≤ 2 ^ 18 := by
  obtain ⟨k1, k2, k3⟩ := consts64
  have h1 := Rat.mul_le_mul_of_nonneg_left hx (ab_nonneg (fv .f64 g))
  have h2 : ab (fv .f64 g * fv .f64 x) ≤ 2 ^ 17 := by rw [ab_mul]; grind
  have hm := mul_spec fg fx (by grind)
  have e := hm.2.1
  rw [k1] at e
  have n := ab_nonneg (fv .f64 g * fv .f64 x)
  have t := ab_tri (fv .f64 (fo .mul .f64 g x)) (fv .f64 g * fv .f64 x)
  exact ⟨hm.1, by grind, by grind⟩
theorem add64_err {r g : Nat} {V G S W : Rat} (fr : fin .f64 r) (fg : fin .f64 g) (hr : ab (fv .f64 r - V) ≤ S / 2 ^ 51 + 1 / 2 ^ 197) (hV : ab V ≤ S) (hS : S ≤ 2 ^ 102)
    (hg : ab (fv .f64 g - G) ≤ 1 / 2 ^ 51 * ab G + 1 / 2 ^ 199) (hG : ab G ≤ W) (bg : ab (fv .f64 g) ≤ 2 ^ 18) :
    fin .f64 (fo .add .f64 r g) ∧ ab (fv .f64 (fo .add .f64 r g) - (V + G)) ≤ (S + W) / 2 ^ 49 + 1 / 2 ^ 196 := by
  obtain ⟨k1, k2, k3⟩ := consts64
  have nV := ab_nonneg V
  have nG := ab_nonneg G
  have t0 := ab_tri (fv .f64 r) V
  have t := ab_add (fv .f64 r) (fv .f64 g)
  have n := ab_nonneg (fv .f64 r + fv .f64 g)
  have h := add_spec fr fg (by grind)
  have e := h.2.1
  rw [k1] at e
  have k := err_add (μ := 1 / 2 ^ 51) (τ := 1 / 2 ^ 199) (S := S) (by grind) (by grind) (by grind) (r := fv .f64 r) (V := V) (by grind) hV hg hG (z := fv .f64 (fo .add .f64 r g)) (by grind) (by grind) (by grind)
  exact ⟨h.1, by grind⟩
theorem s64_step {m : MW} {s : CW} {x : Nat} {R : Rat} (hm : ModeOk m.1 m.2.1 m.2.2.1 m.2.2.2) (f1 : fin .f64 s.1) (f2 : fin .f64 s.2)
    (hB : B2 (fv .f64 s.1) (fv .f64 s.2) R) (hR : R ≤ 2 ^ 100) (fx : fin .f32 x) (hx : ab (fv .f32 x) ≤ 128) :
    fin .f64 (stepD (widM m) s (wid x)).1 ∧ fin .f64 (stepD (widM m) s (wid x)).2 ∧
      ab (fv .f64 (stepD (widM m) s (wid x)).1 - exRe m (fv .f64 s.1) (fv .f64 s.2) (fv .f32 x)) ≤ (R * rho + gam m * ab (fv .f32 x)) / 2 ^ 49 + 1 / 2 ^ 196 ∧
      ab (fv .f64 (stepD (widM m) s (wid x)).2 - exIm m (fv .f64 s.1) (fv .f64 s.2) (fv .f32 x)) ≤ (R * rho + gam m * ab (fv .f32 x)) / 2 ^ 49 + 1 / 2 ^ 196 := by
  have c2 := (wid_fin (fin_of_wid hm.fa)).2
  have d2 := (wid_fin (fin_of_wid hm.fb)).2
  have gc := (wid_fin (fin_of_wid hm.fc)).2
  have gd := (wid_fin (fin_of_wid hm.fd)).2
  obtain ⟨x1, x2⟩ := wid_fin fx
  have hP := hm.ball
  obtain ⟨S1, S2⟩ := hB.prods hP
  obtain ⟨t1, t2, t3, t4⟩ := times64 f1 f2 hm.fa hm.fb hB (by rw [c2, d2]; exact hP) hR
  rw [c2, d2] at t3 t4
  have hS : R * rho ≤ 2 ^ 102 := by
    have := hB.1
    unfold rho; grind
  have v1 := ab_add (fv .f64 s.1 * fv .f32 m.1) (-(fv .f64 s.2 * fv .f32 m.2.1))
  rw [ab_neg] at v1
  have v2 := ab_add (fv .f64 s.1 * fv .f32 m.2.1) (fv .f64 s.2 * fv .f32 m.1)
  obtain ⟨g1, g2, g3⟩ := gain64 hm.fc x1 (by rw [gc]; exact gain_le hm.fc hm.gain.1) (by rw [x2]; exact hx)
  obtain ⟨h1, h2, h3⟩ := gain64 hm.fd x1 (by rw [gd]; exact gain_le hm.fd hm.gain.2) (by rw [x2]; exact hx)
  rw [gc, x2] at g2
  rw [gd, x2] at h2
  have n1 := ab_nonneg (fv .f32 m.2.2.1)
  have n2 := ab_nonneg (fv .f32 m.2.2.2)
  have n3 := ab_nonneg (fv .f32 x)
  have W1 : ab (fv .f32 m.2.2.1 * fv .f32 x) ≤ gam m * ab (fv .f32 x) := by
    rw [ab_mul]; exact Rat.mul_le_mul_of_nonneg_right (by unfold gam; grind) n3
  have W2 : ab (fv .f32 m.2.2.2 * fv .f32 x) ≤ gam m * ab (fv .f32 x) := by
    rw [ab_mul]; exact Rat.mul_le_mul_of_nonneg_right (by unfold gam; grind) n3
  obtain ⟨z1, z2⟩ := add64_err t1 g1 t3 (by grind) hS g2 W1 g3
  obtain ⟨y1, y2⟩ := add64_err t2 h1 t4 (by grind) hS h2 W2 h3
  refine ⟨z1, y1, ?_, y2⟩
  have e : exRe m (fv .f64 s.1) (fv .f64 s.2) (fv .f32 x) = fv .f64 s.1 * fv .f32 m.1 + -(fv .f64 s.2 * fv .f32 m.2.1) + fv .f32 m.2.2.1 * fv .f32 x := by unfold exRe; grind
  rw [e]; exact z2
end Go.Proofs.Ytignncjmbcdpaaa

/-
The states in single precision stay near those in double precision. (Plain arithmetic.)
-/
namespace Go.Proofs.Ytignncjmbcdpaaa
open Go Ieee

/-- After t steps, where the gain times what came in is U. -/
structure Near (s : Nat × Nat) (S : CW) (t U : Rat) : Prop where
  f1 : fin .f32 s.1
  f2 : fin .f32 s.2
  w1 : wfk .f32 s.1
  w2 : wfk .f32 s.2
  F1 : fin .f64 S.1
  F2 : fin .f64 S.2
  b1 : B2 (fv .f32 s.1) (fv .f32 s.2) (U + t * U / 2 ^ 20 + t / 2 ^ 130)
  b2 : B2 (fv .f64 S.1) (fv .f64 S.2) (U + t * U / 2 ^ 20 + t / 2 ^ 130)
  b3 : B2 (fv .f32 s.1 - fv .f64 S.1) (fv .f32 s.2 - fv .f64 S.2) (t * U * (9 / 8) / 2 ^ 21 + t / 2 ^ 120)
theorem near_zero : Near (0, 0) (0, 0) 0 0 := by
  obtain ⟨z1, z2⟩ := zero_fin .f32
  obtain ⟨y1, y2⟩ := zero_fin .f64
  have e : (0 : Rat) + 0 * 0 / 2 ^ 20 + 0 / 2 ^ 130 = 0 := by grind
  have e' : (0 : Rat) * 0 * (9 / 8) / 2 ^ 21 + 0 / 2 ^ 120 = 0 := by grind
  refine ⟨z1, z1, by show (0 : Nat) < 4294967296; omega, by show (0 : Nat) < 4294967296; omega, y1, y1, ?_, ?_, ?_⟩
  · show B2 (fv .f32 0) (fv .f32 0) _
    rw [e, z2]; exact B2.zero
  · show B2 (fv .f64 0) (fv .f64 0) _
    rw [e, y2]; exact B2.zero
  · show B2 (fv .f32 0 - fv .f64 0) (fv .f32 0 - fv .f64 0) _
    rw [e', z2, y2]
    have : (0 : Rat) - 0 = 0 := by grind
    rw [this]; exact B2.zero
theorem ball_of {x y a b R e : Rat} (h : B2 a b R) (hx : ab (x - a) ≤ e) (hy : ab (y - b) ≤ e) : B2 x y (R + e * (3 / 2)) := by
  have := h.add (B2.box hx hy)
  rw [show a + (x - a) = x by grind, show b + (y - b) = y by grind] at this
  exact this
theorem near_step {m : MW} {s : Nat × Nat} {S : CW} {x : Nat} {t U : Rat} (hm : ModeOk m.1 m.2.1 m.2.2.1 m.2.2.2) (h : Near s S t U) (fx : fin .f32 x) (hx : ab (fv .f32 x) ≤ 128) (ht : 0 ≤ t) (ht2 : t ≤ 300) (hU : 0 ≤ U) (hU2 : U ≤ 2 ^ 60) :
    StepOk m s x ∧ Near (stepW m s x) (stepD (widM m) S (wid x)) (t + 1) (U + gam m * ab (fv .f32 x)) := by
  obtain ⟨W, hW⟩ : ∃ W, gam m * ab (fv .f32 x) = W := ⟨_, rfl⟩
  have hW0 : 0 ≤ W := by rw [← hW]; exact Rat.mul_nonneg (gam_nonneg m) (ab_nonneg _)
  have tU0 := Rat.mul_nonneg ht hU
  have tW0 := Rat.mul_nonneg ht hW0
  have tU1 : t * U ≤ 300 * U := Rat.mul_le_mul_of_nonneg_right ht2 hU
  have tW1 : t * W ≤ 300 * W := Rat.mul_le_mul_of_nonneg_right ht2 hW0
  obtain ⟨R, hR⟩ : ∃ R, U + t * U / 2 ^ 20 + t / 2 ^ 130 = R := ⟨_, rfl⟩
  obtain ⟨E, hE⟩ : ∃ E, t * U * (9 / 8) / 2 ^ 21 + t / 2 ^ 120 = E := ⟨_, rfl⟩
  have b1 := h.b1
  have b2 := h.b2
  have b3 := h.b3
  rw [hR] at b1 b2
  rw [hE] at b3
  have hRb : R ≤ 2 ^ 100 := by grind
  obtain ⟨so, e1, e2⟩ := s32_step hm h.f1 h.f2 h.w1 h.w2 b1 hRb fx hx
  obtain ⟨G1, G2, e3, e4⟩ := s64_step hm h.F1 h.F2 b2 hRb fx hx
  have x1 := ex_ball (x := fv .f32 x) hm b1
  have x2 := ex_ball (x := fv .f32 x) hm b2
  rw [hW] at e1 e2 e3 e4 x1 x2
  have r0 : R * rho = R + R / 2 ^ 40 := by unfold rho; grind
  rw [r0] at e1 e2 e3 e4 x1 x2
  have y1 := ball_of x1 e1 e2
  have y2 := ball_of x2 e3 e4
  have d := b3.mul hm.ball
  have r1 : E * rho = E + E / 2 ^ 40 := by unfold rho; grind
  rw [r1] at d
  have d1 : B2 (exRe m (fv .f32 s.1) (fv .f32 s.2) (fv .f32 x) - exRe m (fv .f64 S.1) (fv .f64 S.2) (fv .f32 x)) (exIm m (fv .f32 s.1) (fv .f32 s.2) (fv .f32 x) - exIm m (fv .f64 S.1) (fv .f64 S.2) (fv .f32 x)) (E + E / 2 ^ 40) := by
    have q1 : exRe m (fv .f32 s.1) (fv .f32 s.2) (fv .f32 x) - exRe m (fv .f64 S.1) (fv .f64 S.2) (fv .f32 x) = (fv .f32 s.1 - fv .f64 S.1) * fv .f32 m.1 - (fv .f32 s.2 - fv .f64 S.2) * fv .f32 m.2.1 := by unfold exRe; grind
    have q2 : exIm m (fv .f32 s.1) (fv .f32 s.2) (fv .f32 x) - exIm m (fv .f64 S.1) (fv .f64 S.2) (fv .f32 x) = (fv .f32 s.1 - fv .f64 S.1) * fv .f32 m.2.1 + (fv .f32 s.2 - fv .f64 S.2) * fv .f32 m.1 := by unfold exIm; grind
    rw [q1, q2]; exact d
  have d2 := d1.add ((B2.box e1 e2).add (B2.box e3 e4).neg)
  have hN : Near (stepW m s x) (stepD (widM m) S (wid x)) (t + 1) (U + W) := by
    refine ⟨so.n1, so.n2, fo_lt _ _ _ _, fo_lt _ _ _ _, G1, G2, y1.le ?_, y2.le ?_, ?_⟩
    · rw [← hR]; grind
    · rw [← hR]; grind
    · have e5 : ∀ a b c d : Rat, a - c + ((b - a) + -(d - c)) = b - d := fun a b c d => by grind
      rw [e5, e5] at d2
      refine d2.le ?_
      rw [← hR, ← hE]
      grind
  rw [hW]
  exact ⟨so, hN⟩
end Go.Proofs.Ytignncjmbcdpaaa

/-
The outputs in single precision stay near those in double precision. (Plain arithmetic.)
-/
namespace Go.Proofs.Ytignncjmbcdpaaa
open Go Ieee

/-- Inputs that are finite and at most 128. -/
def LowX (xs : List Nat) : Prop := ∀ i, i < xs.length → fin .f32 (xs.getD i 0) ∧ ab (fv .f32 (xs.getD i 0)) ≤ 128
theorem LowX.at_ {xs : List Nat} (h : LowX xs) (i : Nat) : fin .f32 (inAt xs i) ∧ ab (fv .f32 (inAt xs i)) ≤ 128 := by
  unfold inAt
  split
  · exact h i ‹_›
  · obtain ⟨z1, z2⟩ := zero_fin .f32
    exact ⟨z1, by rw [z2, ab_of_nonneg Rat.le_refl]; grind⟩
/-- The sum of the sizes of the first i inputs. -/
def sumIn (xs : List Nat) : Nat → Rat
  | 0 => 0
  | i + 1 => sumIn xs i + ab (fv .f32 (inAt xs i))
theorem sumIn_nonneg (xs : List Nat) (i : Nat) : 0 ≤ sumIn xs i := by
  induction i with
  | zero => exact Rat.le_refl
  | succ i ih =>
    have := ab_nonneg (fv .f32 (inAt xs i))
    show 0 ≤ sumIn xs i + _
    grind
theorem sumIn_mono (xs : List Nat) {i j : Nat} (h : i ≤ j) : sumIn xs i ≤ sumIn xs j := by
  induction j with
  | zero =>
    obtain rfl : i = 0 := by omega
    exact Rat.le_refl
  | succ j ih =>
    rcases Nat.lt_or_ge j i with h1 | h1
    · obtain rfl : i = j + 1 := by omega
      exact Rat.le_refl
    · have := ab_nonneg (fv .f32 (inAt xs j))
      have h2 := ih h1
      show _ ≤ sumIn xs j + _
      grind
theorem sumIn_le {xs : List Nat} (h : LowX xs) (i : Nat) : sumIn xs i ≤ (i : Rat) * 128 := by
  induction i with
  | zero => show (0 : Rat) ≤ _; simp
  | succ i ih =>
    have := (h.at_ i).2
    have e : ((i + 1 : Nat) : Rat) = (i : Rat) + 1 := by simp
    rw [e]
    show sumIn xs i + _ ≤ _
    grind
theorem gam_le {m : MW} (hm : ModeOk m.1 m.2.1 m.2.2.1 m.2.2.2) : gam m ≤ 2048 := by
  have h1 := gain_le hm.fc hm.gain.1
  have h2 := gain_le hm.fd hm.gain.2
  unfold gam; grind
theorem dAt_map {ms : List MW} {k : Nat} (hk : k < ms.length) : dAt (ms.map widM) k = widM (mAt ms k) := by
  simp [dAt, mAt, List.getD, hk]
theorem near_all {ms : List MW} {xs : List Nat} (hm : ModesOk ms) (hx : LowX xs) (i : Nat) (hi : i ≤ 300) : ∀ k, k < ms.length → Near (sAt (stAt ms xs i) k) (sAt (stD (ms.map widM) (inW xs) i) k) (i : Rat) (gam (mAt ms k) * sumIn xs i) := by
  induction i with
  | zero =>
    intro k hk
    have e0 : sAt (stAt ms xs 0) k = (0, 0) := by simp [stAt, sAt, List.getD, hk]
    have e1 : sAt (stD (ms.map widM) (inW xs) 0) k = (0, 0) := by simp [stD, sAt, List.getD, hk]
    have e2 : gam (mAt ms k) * sumIn xs 0 = 0 := by show _ * (0 : Rat) = 0; grind
    have e3 : ((0 : Nat) : Rat) = 0 := by simp
    rw [e0, e1, e2, e3]
    exact near_zero
  | succ i ih =>
    intro k hk
    have h := ih (by omega) k hk
    have e : sAt (stAt ms xs (i + 1)) k = stepW (mAt ms k) (sAt (stAt ms xs i) k) (inAt xs i) := nextS_at (by rw [stAt_len]; exact hk)
    have e1 : sAt (stD (ms.map widM) (inW xs) (i + 1)) k = stepD (widM (mAt ms k)) (sAt (stD (ms.map widM) (inW xs) i) k) (wid (inAt xs i)) := by
      have := nextD_at (ms := ms.map widM) (x := inW xs i) (i := k) (ss := stD (ms.map widM) (inW xs) i) (by rw [stD_len]; simpa using hk)
      rw [dAt_map hk] at this
      exact this
    have e2 : gam (mAt ms k) * sumIn xs (i + 1) = gam (mAt ms k) * sumIn xs i + gam (mAt ms k) * ab (fv .f32 (inAt xs i)) := by
      show _ * (sumIn xs i + _) = _
      grind
    have e3 : ((i + 1 : Nat) : Rat) = (i : Rat) + 1 := by simp
    rw [e, e1, e2, e3]
    obtain ⟨x1, x2⟩ := hx.at_ i
    have g1 := gam_nonneg (mAt ms k)
    have g2 : gam (mAt ms k) ≤ 2048 := gam_le (hm.at_ hk)
    have s1 := sumIn_nonneg xs i
    have s2 := sumIn_le hx i
    have i1 : (i : Rat) ≤ 300 := by
      have := Rat.natCast_le_natCast.2 (show i ≤ 300 by omega)
      simpa using this
    have i0 : (0 : Rat) ≤ (i : Rat) := Rat.natCast_nonneg
    have u1 := mul_mono g2 (show sumIn xs i ≤ 38400 by grind) g1 (by grind)
    exact (near_step (hm.at_ hk) h x1 x2 i0 i1 (Rat.mul_nonneg g1 s1) (by grind)).2
theorem calm_x {ms : List MW} {xs : List Nat} (hm : ModesOk ms) (hx : LowX xs) (n : Nat) (hn : n ≤ 300) : Calm ms xs n := fun i hi k hk => by
  have h := near_all hm hx i (by omega) k hk
  obtain ⟨x1, x2⟩ := hx.at_ i
  have g1 := gam_nonneg (mAt ms k)
  have g2 : gam (mAt ms k) ≤ 2048 := gam_le (hm.at_ hk)
  have s1 := sumIn_nonneg xs i
  have s2 := sumIn_le hx i
  have i1 : (i : Rat) ≤ 300 := by
    have := Rat.natCast_le_natCast.2 (show i ≤ 300 by omega)
    simpa using this
  have i0 : (0 : Rat) ≤ (i : Rat) := Rat.natCast_nonneg
  have u1 := mul_mono g2 (show sumIn xs i ≤ 38400 by grind) g1 (by grind)
  exact (near_step (hm.at_ hk) h x1 x2 i0 i1 (Rat.mul_nonneg g1 s1) (by grind)).1
/-- The sum of the sizes of the first k gains. -/
def gsum (ms : List MW) : Nat → Rat
  | 0 => 0
  | k + 1 => gsum ms k + gam (mAt ms k)
theorem gsum_nonneg (ms : List MW) (k : Nat) : 0 ≤ gsum ms k := by
  induction k with
  | zero => exact Rat.le_refl
  | succ k ih =>
    have := gam_nonneg (mAt ms k)
    show 0 ≤ gsum ms k + _
    grind
/-- Sums of k outputs after t steps. -/
structure NearO (o O : Nat) (k t V : Rat) : Prop where
  f : fin .f32 o
  w : wfk .f32 o
  F : fin .f64 O
  W : wfk .f64 O
  b1 : ab (fv .f32 o) ≤ V + V / 2 ^ 10 + k * V / 2 ^ 20 + k / 2 ^ 110
  b2 : ab (fv .f64 O) ≤ V + V / 2 ^ 10 + k * V / 2 ^ 20 + k / 2 ^ 110
  b3 : ab (fv .f32 o - fv .f64 O) ≤ t * V * (9 / 8) / 2 ^ 21 + k * V / 2 ^ 22 + k / 2 ^ 110
theorem tiny64 {x y T E : Rat} (h : x ≤ 1 / 2 ^ 53 * y + E) (hy : y ≤ T * 2 + 1 / 2 ^ 100) (hE : E ≤ 1 / 2 ^ 200) (hT : 0 ≤ T) : x ≤ T / 2 ^ 50 + 1 / 2 ^ 130 := by grind
theorem tiny32 {x y T E : Rat} (h : x ≤ 1 / 16777216 * y + E) (hy : y ≤ T * 2 + 1 / 2 ^ 100) (hE : E ≤ 1 / 2 ^ 149) (hT : 0 ≤ T) : x ≤ T / 2 ^ 23 + 1 / 2 ^ 120 := by grind
theorem out_final {t V U k : Rat} (ht2 : t ≤ 300) (hV : 0 ≤ V) (hU : 0 ≤ U) (kU0 : 0 ≤ k * U) :
    (V + U) / 2 ^ 23 + 1 / 2 ^ 120 + (t * V * (9 / 8) / 2 ^ 21 + k * V / 2 ^ 22 + k / 2 ^ 110 + (t * U * (9 / 8) / 2 ^ 21 + t / 2 ^ 120)) + ((V + U) / 2 ^ 50 + 1 / 2 ^ 130) ≤
      t * (V + U) * (9 / 8) / 2 ^ 21 + (k + 1) * (V + U) / 2 ^ 22 + (k + 1) / 2 ^ 110 := by grind
theorem chain4 {z a b c d e f g h i R : Rat} (d3 : z ≤ a + e) (d1 : a ≤ b + c) (d2 : c ≤ d + f) (e3 : b ≤ g) (e4 : e ≤ h) (b3 : d ≤ i) (s3 : f ≤ R) {T : Rat} (hf : g + (i + R) + h ≤ T) : z ≤ T := by grind
theorem nearO_step {o O : Nat} {s : Nat × Nat} {S : CW} {k t V U : Rat} (h : NearO o O k t V) (g : Near s S t U) (hk : 0 ≤ k) (hk2 : k ≤ 16) (ht : 0 ≤ t) (ht2 : t ≤ 300) (hV : 0 ≤ V) (hV2 : V ≤ 2 ^ 60) (hU : 0 ≤ U) (hU2 : U ≤ 2 ^ 60) :
    NearO (fo .add .f32 o s.1) (fo .add .f64 O S.1) (k + 1) t (V + U) := by
  have kV0 := Rat.mul_nonneg hk hV
  have kU0 := Rat.mul_nonneg hk hU
  have tU0 := Rat.mul_nonneg ht hU
  have kV1 : k * V ≤ 16 * V := Rat.mul_le_mul_of_nonneg_right hk2 hV
  have tU1 : t * U ≤ 300 * U := Rat.mul_le_mul_of_nonneg_right ht2 hU
  have s1 := g.b1.parts.1
  have s2 := g.b2.parts.1
  have s3 := g.b3.parts.1
  have b1 := h.b1
  have b2 := h.b2
  have b3 := h.b3
  obtain ⟨u1, u2, _⟩ := consts32
  obtain ⟨k1, k2, k3⟩ := consts64
  have ht3 := top32
  have t1 := ab_add (fv .f32 o) (fv .f32 s.1)
  have t2 := ab_add (fv .f64 O) (fv .f64 S.1)
  have a1 := add_spec h.f g.f1 (by grind)
  have a2 := add_spec h.F g.F1 (by grind)
  have e1 := a1.2.1
  have e2 := a2.2.1
  rw [u1] at e1
  rw [k1] at e2
  have r1 := ab_tri (fv .f32 (fo .add .f32 o s.1)) (fv .f32 o + fv .f32 s.1)
  have r2 := ab_tri (fv .f64 (fo .add .f64 O S.1)) (fv .f64 O + fv .f64 S.1)
  refine ⟨a1.1, fo_lt _ _ _ _, a2.1, fo_lt _ _ _ _, by grind, by grind, ?_⟩
  have d1 := ab_add (fv .f32 (fo .add .f32 o s.1) - (fv .f32 o + fv .f32 s.1)) ((fv .f32 o - fv .f64 O) + (fv .f32 s.1 - fv .f64 S.1))
  have d2 := ab_add (fv .f32 o - fv .f64 O) (fv .f32 s.1 - fv .f64 S.1)
  have d3 := ab_add (fv .f32 (fo .add .f32 o s.1) - (fv .f32 o + fv .f32 s.1) + ((fv .f32 o - fv .f64 O) + (fv .f32 s.1 - fv .f64 S.1))) (-(fv .f64 (fo .add .f64 O S.1) - (fv .f64 O + fv .f64 S.1)))
  rw [ab_neg] at d3
  rw [show fv .f32 (fo .add .f32 o s.1) - (fv .f32 o + fv .f32 s.1) + ((fv .f32 o - fv .f64 O) + (fv .f32 s.1 - fv .f64 S.1)) + -(fv .f64 (fo .add .f64 O S.1) - (fv .f64 O + fv .f64 S.1)) = fv .f32 (fo .add .f32 o s.1) - fv .f64 (fo .add .f64 O S.1) by grind] at d3
  have q1 : ab (fv .f32 o + fv .f32 s.1) ≤ (V + U) * 2 + 1 / 2 ^ 100 := by clear d1 d2 d3 e1 e2 r1 r2; grind
  have q2 : ab (fv .f64 O + fv .f64 S.1) ≤ (V + U) * 2 + 1 / 2 ^ 100 := by clear d1 d2 d3 e1 e2 r1 r2; grind
  have e3 := tiny32 e1 q1 u2 (by grind)
  have e4 := tiny64 e2 q2 k2 (by grind)
  have hf := out_final (k := k) ht2 hV hU kU0
  clear a1 a2 u1 u2 k1 k2 k3 ht3 t1 t2 e1 e2 r1 r2 q1 q2 s1 s2 b1 b2
  exact chain4 d3 d1 d2 e3 e4 b3 s3 hf
end Go.Proofs.Ytignncjmbcdpaaa

/-
The drift of a body against its bound. (Plain arithmetic.)
-/
namespace Go.Proofs.Ytignncjmbcdpaaa
open Go Ieee

theorem nearO_all {ms : List MW} {xs : List Nat} (hm : ModesOk ms) (hl : ms.length ≤ 16) (hx : LowX xs) (i : Nat) (hi : i < 300) : ∀ k : Nat, k ≤ ms.length →
    NearO (outAt ms (stAt ms xs i) (inAt xs i) k) (outD (ms.map widM) (stD (ms.map widM) (inW xs) i) (inW xs i) k) (k : Rat) ((i + 1 : Nat) : Rat) (gsum ms k * sumIn xs (i + 1)) ∧ gsum ms k ≤ (k : Rat) * 2048 := by
  intro k
  induction k with
  | zero =>
    intro _
    obtain ⟨z1, z2⟩ := zero_fin .f32
    obtain ⟨y1, y2⟩ := zero_fin .f64
    have e : gsum ms 0 * sumIn xs (i + 1) = 0 := by show (0 : Rat) * _ = 0; grind
    have e3 : ((0 : Nat) : Rat) = 0 := by simp
    rw [e, e3]
    refine ⟨⟨z1, by show (0 : Nat) < 4294967296; omega, y1, by show (0 : Nat) < 18446744073709551616; omega, ?_, ?_, ?_⟩, by show (0 : Rat) ≤ _; grind⟩
    · show ab (fv .f32 0) ≤ _
      rw [z2, ab_of_nonneg Rat.le_refl]; grind
    · show ab (fv .f64 0) ≤ _
      rw [y2, ab_of_nonneg Rat.le_refl]; grind
    · show ab (fv .f32 0 - fv .f64 0) ≤ _
      rw [z2, y2, show (0 : Rat) - 0 = 0 by grind, ab_of_nonneg Rat.le_refl]; grind
  | succ k ih =>
    intro hk
    obtain ⟨h, hg⟩ := ih (by omega)
    have hn := near_all hm hx (i + 1) (by omega) k (by omega)
    have e : sAt (stAt ms xs (i + 1)) k = stepW (mAt ms k) (sAt (stAt ms xs i) k) (inAt xs i) := nextS_at (by rw [stAt_len]; omega)
    have e1 : sAt (stD (ms.map widM) (inW xs) (i + 1)) k = stepD (dAt (ms.map widM) k) (sAt (stD (ms.map widM) (inW xs) i) k) (inW xs i) :=
      nextD_at (ms := ms.map widM) (x := inW xs i) (i := k) (ss := stD (ms.map widM) (inW xs) i) (by rw [stD_len]; simp; omega)
    rw [e, e1] at hn
    have g1 := gam_nonneg (mAt ms k)
    have g2 : gam (mAt ms k) ≤ 2048 := gam_le (hm.at_ (by omega))
    have s1 := sumIn_nonneg xs (i + 1)
    have s2 := sumIn_le hx (i + 1)
    have i1 : ((i + 1 : Nat) : Rat) ≤ 300 := by
      have := Rat.natCast_le_natCast.2 (show i + 1 ≤ 300 by omega)
      simpa using this
    have i0 : (0 : Rat) ≤ ((i + 1 : Nat) : Rat) := Rat.natCast_nonneg
    have k1 : (k : Rat) ≤ 16 := by
      have := Rat.natCast_le_natCast.2 (show k ≤ 16 by omega)
      simpa using this
    have k0 : (0 : Rat) ≤ (k : Rat) := Rat.natCast_nonneg
    have G0 := gsum_nonneg ms k
    have ec : ((k + 1 : Nat) : Rat) = (k : Rat) + 1 := by simp
    have s3 : sumIn xs (i + 1) ≤ 38400 := by grind
    have u1 := mul_mono g2 s3 g1 (by grind)
    have u2 := mul_mono (show gsum ms k ≤ 32768 by grind) s3 G0 (by grind)
    have ev : gsum ms (k + 1) * sumIn xs (i + 1) = gsum ms k * sumIn xs (i + 1) + gam (mAt ms k) * sumIn xs (i + 1) := by
      show (gsum ms k + gam (mAt ms k)) * _ = _
      grind
    have st := nearO_step h hn k0 k1 i0 i1 (Rat.mul_nonneg G0 s1) (by grind) (Rat.mul_nonneg g1 s1) (by grind)
    rw [ev, ec]
    exact ⟨st, by show gsum ms k + gam (mAt ms k) ≤ _; grind⟩
theorem sumIn_top (xs : List Nat) (i : Nat) : sumIn xs i ≤ sumIn xs xs.length := by
  rcases Nat.lt_or_ge xs.length i with h | h
  · have key : ∀ j, sumIn xs (xs.length + j) = sumIn xs xs.length := by
      intro j
      induction j with
      | zero => rfl
      | succ j ih =>
        have e : inAt xs (xs.length + j) = 0 := by unfold inAt; rw [if_neg (by omega)]
        show sumIn xs (xs.length + j) + ab (fv .f32 (inAt xs (xs.length + j))) = _
        rw [ih, e, (zero_fin .f32).2, ab_of_nonneg Rat.le_refl]; grind
    obtain ⟨j, rfl⟩ : ∃ j, i = xs.length + j := ⟨i - xs.length, by omega⟩
    rw [key]; exact Rat.le_refl
  · exact sumIn_mono xs h

/-- The drift's bound, and the bound of the law. -/
def drBd (ms : List MW) (xs : List Nat) (n : Nat) : Rat := ((n : Rat) + (ms.length : Rat) + 1) * (gsum ms ms.length * sumIn xs xs.length) * (5 / 8) / 2 ^ 20 + 1 / 2 ^ 101
theorem drBd_nonneg (ms : List MW) (xs : List Nat) (n : Nat) : 0 ≤ drBd ms xs n := by
  have a : (0 : Rat) ≤ (n : Rat) := Rat.natCast_nonneg
  have b : (0 : Rat) ≤ (ms.length : Rat) := Rat.natCast_nonneg
  have c := Rat.mul_nonneg (show (0 : Rat) ≤ (n : Rat) + (ms.length : Rat) + 1 by grind) (Rat.mul_nonneg (gsum_nonneg ms ms.length) (sumIn_nonneg xs xs.length))
  unfold drBd; grind
/-- One difference. -/
theorem drift_at {ms : List MW} {xs : List Nat} {n i y Y : Nat} (hm : ModesOk ms) (hl : ms.length ≤ 16) (hx : LowX xs) (hxl : xs.length ≤ 64) (hn : n ≤ 299) (hi : i < n) (hy : nrm .f32 y = outAt ms (stAt ms xs i) (inAt xs i) ms.length)
    (hY : nrm .f64 Y = outD (ms.map widM) (stD (ms.map widM) (inW xs) i) (inW xs i) ms.length) :
    fin .f32 y ∧ fin .f64 Y ∧ fin .f64 (fo .sub .f64 Y (wid y)) ∧ ab (fv .f64 (fo .sub .f64 Y (wid y))) ≤ drBd ms xs n := by
  obtain ⟨h, hg⟩ := nearO_all hm hl hx i (by omega) ms.length (Nat.le_refl _)
  obtain rfl := nrm_fin_eq hy h.f
  obtain rfl := nrm_fin_eq hY h.F
  obtain ⟨V, hV⟩ : ∃ V, gsum ms ms.length * sumIn xs (i + 1) = V := ⟨_, rfl⟩
  obtain ⟨T, hT⟩ : ∃ T, gsum ms ms.length * sumIn xs xs.length = T := ⟨_, rfl⟩
  have G0 := gsum_nonneg ms ms.length
  have hVT : V ≤ T := by rw [← hV, ← hT]; exact Rat.mul_le_mul_of_nonneg_left (sumIn_top xs (i + 1)) G0
  have hV0 : 0 ≤ V := by rw [← hV]; exact Rat.mul_nonneg G0 (sumIn_nonneg _ _)
  have L0 : (0 : Rat) ≤ (ms.length : Rat) := Rat.natCast_nonneg
  have L1 : (ms.length : Rat) ≤ 16 := by
    have := Rat.natCast_le_natCast.2 hl
    simpa using this
  have s2 := sumIn_le hx (i + 1)
  have N1 : ((i + 1 : Nat) : Rat) ≤ (n : Rat) := Rat.natCast_le_natCast.2 (by omega)
  have N2 : (n : Rat) ≤ 299 := by
    have := Rat.natCast_le_natCast.2 hn
    simpa using this
  have I0 : (0 : Rat) ≤ ((i + 1 : Nat) : Rat) := Rat.natCast_nonneg
  have hV2 : V ≤ 2 ^ 60 := by
    have := mul_mono (show gsum ms ms.length ≤ 32768 by grind) (show sumIn xs (i + 1) ≤ 38400 by grind) G0 (by grind)
    rw [← hV]; grind
  have b1 := h.b1
  have b2 := h.b2
  have b3 := h.b3
  rw [hV] at b1 b2 b3
  obtain ⟨w1, w2⟩ := wid_fin h.f
  obtain ⟨k1, k2, k3⟩ := consts64
  have LV : (ms.length : Rat) * V ≤ 16 * V := Rat.mul_le_mul_of_nonneg_right L1 hV0
  have IV : ((i + 1 : Nat) : Rat) * V ≤ (n : Rat) * T := mul_mono N1 hVT I0 (by grind)
  have LT : (ms.length : Rat) * V ≤ (ms.length : Rat) * T := Rat.mul_le_mul_of_nonneg_left hVT L0
  generalize outAt ms (stAt ms xs i) (inAt xs i) ms.length = y at *
  generalize outD (ms.map widM) (stD (ms.map widM) (inW xs) i) (inW xs i) ms.length = Y at *
  have e : fv .f64 Y - fv .f64 (wid y) = -(fv .f32 y - fv .f64 Y) := by rw [w2]; grind
  have hd : ab (fv .f64 Y - fv .f64 (wid y)) = ab (fv .f32 y - fv .f64 Y) := by rw [e, ab_neg]
  have nd := ab_nonneg (fv .f32 y - fv .f64 Y)
  have hb3 : ab (fv .f32 y - fv .f64 Y) ≤ ((n : Rat) * T * (9 / 8) / 2 ^ 21 + (ms.length : Rat) * T / 2 ^ 22 + 1 / 2 ^ 105) := by
    clear b1 b2 k3 k2 k1 hd e; grind
  have IV2 : (n : Rat) * T ≤ 2 ^ 80 := by
    have hT2 : T ≤ 2 ^ 60 := by
      have := mul_mono (show gsum ms ms.length ≤ 32768 by grind) (show sumIn xs xs.length ≤ 2 ^ 40 by
        have a := sumIn_le hx xs.length
        have b : (xs.length : Rat) ≤ 64 := by
          have := Rat.natCast_le_natCast.2 hxl
          simpa using this
        grind) G0 (by grind)
      rw [← hT]; grind
    have := mul_mono N2 hT2 (by grind) (by grind)
    grind
  have sb := sub_spec h.F w1 (by rw [hd]; grind)
  have se := sb.2.1
  rw [hd, k1] at se
  have t := ab_tri (fv .f64 (fo .sub .f64 Y (wid y))) (fv .f64 Y - fv .f64 (wid y))
  rw [hd] at t
  refine ⟨h.f, h.F, sb.1, ?_⟩
  have fin1 : ab (fv .f64 (fo .sub .f64 Y (wid y))) ≤ ((n : Rat) * T * (9 / 8) / 2 ^ 21 + (ms.length : Rat) * T / 2 ^ 22 + 1 / 2 ^ 105) * (1 + 1 / 2 ^ 50) + 1 / 2 ^ 190 := by
    clear b1 b2 b3 IV LT LV hV2; grind
  refine Rat.le_trans fin1 ?_
  have n0 : (0 : Rat) ≤ (n : Rat) := Rat.natCast_nonneg
  have T0 : 0 ≤ T := Rat.le_trans hV0 hVT
  have nT := Rat.mul_nonneg n0 T0
  have lT := Rat.mul_nonneg L0 T0
  unfold drBd
  rw [hT]
  clear fin1 t se sb b1 b2 b3 hb3 IV LT LV IV2
  grind
end Go.Proofs.Ytignncjmbcdpaaa

/-
The law's bound of the drift, as the operations give it. (Plain arithmetic.)
-/
namespace Go.Proofs.Ytignncjmbcdpaaa
open Go Ieee

/-- A sum of nonnegative numbers, accumulated. -/
structure Acc (g : Nat) (G t : Rat) : Prop where
  f : fin .f64 g
  p : 0 ≤ fv .f64 g
  lo : G - t * G / 2 ^ 50 ≤ fv .f64 g + t / 2 ^ 190
  hi : fv .f64 g ≤ 2 * G + 2 * t
theorem acc_zero : Acc 0 0 0 := by
  obtain ⟨z1, z2⟩ := zero_fin .f64
  exact ⟨z1, by rw [z2]; exact Rat.le_refl, by rw [z2]; grind, by rw [z2]; grind⟩
theorem acc_step {g r : Nat} {G S V t : Rat} (h : Acc g G t) (ht : 0 ≤ t) (ht2 : t ≤ 64) (hG : 0 ≤ G) (hG2 : G ≤ 2 ^ 20) (hS : 0 ≤ S) (hS2 : S ≤ 2 ^ 20) (hV : 0 ≤ V) (lo : S - S / 2 ^ 52 ≤ V + 1 / 2 ^ 195) (hi : V ≤ 2 * S + 1)
    (hr : RoundOf .f64 (fv .f64 g + V) r) : Acc r (G + S) (t + 1) := by
  obtain ⟨k1, k2, k3⟩ := consts64
  have l1 := h.lo
  have l2 := h.hi
  have l3 := h.p
  have e := hr.2.1
  rw [k1, ab_of_nonneg (x := fv .f64 g + V) (by grind)] at e
  have a := le_ab (fv .f64 r - (fv .f64 g + V))
  have z := (hr.2.2 0 (zero_fin .f64).1).1 (by rw [(zero_fin .f64).2]; grind)
  rw [(zero_fin .f64).2] at z
  have tG := Rat.mul_nonneg ht hG
  have tS := Rat.mul_nonneg ht hS
  have tG2 : t * G ≤ 64 * G := Rat.mul_le_mul_of_nonneg_right ht2 hG
  have a1 := a.1
  have a2 := a.2
  clear a k1 k3
  refine ⟨hr.1, z, ?_, ?_⟩
  · have e1 : (fv .f64 g + V) - (fv .f64 g + V) / 2 ^ 53 - 1 / 2 ^ 200 ≤ fv .f64 r := by grind
    clear e a1 a2 hi l2 z k2
    grind
  · have e1 : fv .f64 r ≤ (fv .f64 g + V) + (fv .f64 g + V) / 2 ^ 53 + 1 / 2 ^ 200 := by grind
    clear e a1 a2 lo l1 z k2
    grind
theorem Acc.use {g : Nat} {G t : Rat} (h : Acc g G t) (ht : 0 ≤ t) (ht2 : t ≤ 64) (hG : 0 ≤ G) (hG2 : G ≤ 2 ^ 18) : G - G / 2 ^ 40 ≤ fv .f64 g + 1 / 2 ^ 180 ∧ fv .f64 g ≤ 2 ^ 20 := by
  have l1 := h.lo
  have l2 := h.hi
  have tG2 : t * G ≤ 64 * G := Rat.mul_le_mul_of_nonneg_right ht2 hG
  exact ⟨by clear l2; grind, by clear l1; grind⟩
/-- A product of nonnegative numbers is not much less. -/
theorem mul_low {a b : Nat} {T : Rat} (fa : fin .f64 a) (fb : fin .f64 b) (ha : 0 ≤ fv .f64 a) (hb : 0 ≤ fv .f64 b) (hT : fv .f64 a * fv .f64 b ≤ T) (hT2 : T ≤ 2 ^ 100) :
    fin .f64 (fo .mul .f64 a b) ∧ fv .f64 a * fv .f64 b - fv .f64 a * fv .f64 b / 2 ^ 52 - 1 / 2 ^ 200 ≤ fv .f64 (fo .mul .f64 a b) ∧ 0 ≤ fv .f64 (fo .mul .f64 a b) ∧ fv .f64 (fo .mul .f64 a b) ≤ 2 * T + 1 := by
  obtain ⟨k1, k2, k3⟩ := consts64
  have p := Rat.mul_nonneg ha hb
  have e0 := ab_of_nonneg p
  have hm := mul_spec fa fb (by rw [e0]; grind)
  have e := hm.2.1
  rw [k1, e0] at e
  have l := le_ab (fv .f64 (fo .mul .f64 a b) - fv .f64 a * fv .f64 b)
  have z := (hm.2.2 0 (zero_fin .f64).1).1 (by rw [(zero_fin .f64).2]; exact p)
  rw [(zero_fin .f64).2] at z
  exact ⟨hm.1, by grind, z, by grind⟩
theorem rhs_ok {N g s p q d : Nat} {Nr G X : Rat} (fN : fin .f64 N) (vN : fv .f64 N = Nr) (fg : fin .f64 g) (fs : fin .f64 s) (fp : fin .f64 p) (vp : fv .f64 p = 1 / 2 ^ 20) (fq : fin .f64 q) (vq : fv .f64 q = 1 / 2 ^ 100) (fd : fin .f64 d)
    (hN : 1 ≤ Nr) (hN2 : Nr ≤ 400) (hG0 : 0 ≤ G) (hX0 : 0 ≤ X) (g0 : 0 ≤ fv .f64 g) (s0 : 0 ≤ fv .f64 s) (hg : G - G / 2 ^ 40 ≤ fv .f64 g + 1 / 2 ^ 180) (hg2 : fv .f64 g ≤ 2 ^ 20) (hs : X - X / 2 ^ 40 ≤ fv .f64 s + 1 / 2 ^ 180) (hs2 : fv .f64 s ≤ 2 ^ 20)
    (hd : fv .f64 d ≤ Nr * (G * X) * (5 / 8) / 2 ^ 20 + 1 / 2 ^ 101) : fin .f64 (fo .mul .f64 N g) ∧ fin .f64 (fo .mul .f64 (fo .mul .f64 N g) s) ∧ fin .f64 (fo .mul .f64 (fo .mul .f64 (fo .mul .f64 N g) s) p) ∧
      fin .f64 (fo .add .f64 (fo .mul .f64 (fo .mul .f64 (fo .mul .f64 N g) s) p) q) ∧ fle .f64 d (fo .add .f64 (fo .mul .f64 (fo .mul .f64 (fo .mul .f64 N g) s) p) q) = true := by
  have n0 : 0 ≤ fv .f64 N := by rw [vN]; grind
  have gs0 := Rat.mul_nonneg g0 s0
  have b1 : fv .f64 N * fv .f64 g ≤ 2 ^ 30 := by
    have := mul_mono (show fv .f64 N ≤ 400 by rw [vN]; exact hN2) hg2 n0 (by grind)
    grind
  obtain ⟨f1, l1, z1, u1⟩ := mul_low fN fg n0 g0 b1 (by grind)
  have b2 : fv .f64 (fo .mul .f64 N g) * fv .f64 s ≤ 2 ^ 60 := by
    have := mul_mono u1 hs2 z1 (by grind)
    grind
  obtain ⟨f2, l2, z2, u2⟩ := mul_low f1 fs z1 s0 b2 (by grind)
  have b3 : fv .f64 (fo .mul .f64 (fo .mul .f64 N g) s) * fv .f64 p ≤ 2 ^ 62 := by rw [vp]; grind
  obtain ⟨f3, l3, z3, u3⟩ := mul_low f2 fp z2 (by rw [vp]; grind) b3 (by grind)
  rw [vp] at l3
  rw [vN] at l1
  -- the product of all three
  have c1 := Rat.mul_le_mul_of_nonneg_right l1 s0
  have c2 : (G - G / 2 ^ 40) * (X - X / 2 ^ 40) ≤ (fv .f64 g + 1 / 2 ^ 180) * (fv .f64 s + 1 / 2 ^ 180) := mul_mono hg hs (by grind) (by grind)
  have gx := Rat.mul_nonneg hG0 hX0
  have c3 : G * X * (1 - 1 / 2 ^ 38) ≤ fv .f64 g * fv .f64 s + 1 / 2 ^ 150 := by
    have e : (G - G / 2 ^ 40) * (X - X / 2 ^ 40) = G * X * ((1 - 1 / 2 ^ 40) * (1 - 1 / 2 ^ 40)) := by grind
    rw [e] at c2
    grind
  have c4 := Rat.mul_le_mul_of_nonneg_left c3 (show 0 ≤ Nr by grind)
  have ngx := Rat.mul_nonneg (show 0 ≤ Nr by grind) gx
  obtain ⟨k1, k2, k3⟩ := consts64
  have ha : fv .f64 (fo .mul .f64 (fo .mul .f64 (fo .mul .f64 N g) s) p) + fv .f64 q ≤ 2 ^ 70 := by rw [vq]; grind
  have e0 : ab (fv .f64 (fo .mul .f64 (fo .mul .f64 (fo .mul .f64 N g) s) p) + fv .f64 q) = fv .f64 (fo .mul .f64 (fo .mul .f64 (fo .mul .f64 N g) s) p) + fv .f64 q := ab_of_nonneg (by rw [vq]; grind)
  have ad := add_spec f3 fq (by rw [e0]; grind)
  have e := ad.2.1
  rw [e0, k1, vq] at e
  have le := (le_ab (fv .f64 (fo .add .f64 (fo .mul .f64 (fo .mul .f64 (fo .mul .f64 N g) s) p) q) - (fv .f64 (fo .mul .f64 (fo .mul .f64 (fo .mul .f64 N g) s) p) + 1 / 2 ^ 100))).2
  refine ⟨f1, f2, f3, ad.1, (fle_iff fd ad.1).2 ?_⟩
  generalize fv .f64 (fo .add .f64 (fo .mul .f64 (fo .mul .f64 (fo .mul .f64 N g) s) p) q) = R at *
  generalize fv .f64 (fo .mul .f64 (fo .mul .f64 (fo .mul .f64 N g) s) p) = t3 at *
  generalize fv .f64 (fo .mul .f64 (fo .mul .f64 N g) s) = t2 at *
  generalize fv .f64 (fo .mul .f64 N g) = t1 at *
  generalize fv .f64 g = gv at *
  generalize fv .f64 s = sv at *
  clear k1 k3 e0 ha b1 b2 b3 u1 u2 u3 z1 ad f1 f2 f3 hg hs c2 c3 hg2
  have d1 : Nr * (G * X) * (1 - 1 / 2 ^ 37) - sv / 2 ^ 200 - 1 / 2 ^ 141 ≤ t1 * sv := by grind
  have d2 : Nr * (G * X) * (1 - 1 / 2 ^ 36) - 1 / 2 ^ 140 ≤ t2 := by grind
  have d3 : Nr * (G * X) * (1 - 1 / 2 ^ 35) / 2 ^ 20 - 1 / 2 ^ 150 ≤ t3 := by grind
  have d4 : t3 + 1 / 2 ^ 100 - (t3 + 1 / 2 ^ 100) / 2 ^ 50 - 1 / 2 ^ 190 ≤ R := by grind
  have d5 : Nr * (G * X) * (1 - 1 / 2 ^ 34) / 2 ^ 20 + 1 / 2 ^ 101 ≤ R := by clear d1 d2 l1 l2 l3 c1 c4 e le; grind
  clear d1 d2 d3 d4 l1 l2 l3 c1 c4 e le
  grind
end Go.Proofs.Ytignncjmbcdpaaa

/-
impl.DriftOf at a valid body and a small input.
-/
namespace Go.Proofs.Ytignncjmbcdpaaa
open Go Go.RowKit Ieee

theorem f64s_at {ys : List Nat} {k : Nat} (h : k < ys.length) : (f64s ys)[k]? = some (.float .f64 (ys.getD k 0)) := by
  simp [f64s, List.getD, List.getElem?_eq_getElem h]
/-- What one round of the drift needs, its words without a body. -/
theorem drift_pack {ms : List MW} {xs ys Ys : List Nat} {n k : Nat} (hm : ModesOk ms) (hl : ms.length ≤ 16) (hx : LowX xs) (hxl : xs.length ≤ 64) (hn : n ≤ 299) (hk : k < n) (hy : Rung ms xs ys n) (hY : RungD (ms.map widM) (inW xs) Ys n) :
    ∃ y Y Z D Q : Nat, ys.getD k 0 = y ∧ Ys.getD k 0 = Y ∧ (∀ W, cR .f32 y .f64 W = Z) ∧ cN .f32 y .f64 = 0 ∧ (∀ W, fR .sub .f64 Y Z W = D) ∧ wfk .f64 D ∧ abs64 D = Q ∧ Hid (fin .f64 Q ∧ fv .f64 Q ≤ drBd ms xs n) := by
  obtain ⟨f1, f2, f3, f4⟩ := drift_at hm hl hx hxl hn hk (hy.2 k hk).1 (by have h := (hY.2 k hk).1; rw [List.length_map] at h; exact h)
  obtain ⟨q1, q2⟩ := abs64_fin f3
  obtain ⟨w1, w2⟩ := widFin (wid_fin f1).1
  exact ⟨_, _, wid (ys.getD k 0), fo .sub .f64 (Ys.getD k 0) (wid (ys.getD k 0)), _, rfl, rfl, w1, w2, fun W => rnd_eq f3 W, fo_lt _ _ _ _, rfl, q1, by rw [q2]; exact f4⟩

set_option maxRecDepth 100000 in
set_option maxHeartbeats 1000000 in
theorem driftOf_any (A B : Option Addr) (c d lo hi : Nat) (ms : List MW) (xs : List Nat) (n : Nat) (w : World) (h : OwnM w lo hi A c ms) (hh : hi ≤ w.heap.size) (hok : ModesOk ms) (hl : ms.length ≤ 16)
    (hr : Rd w B (f32s xs)) (hn : n ≤ 299) (hx : LowX xs) (hxl : xs.length ≤ 64) :
    Calls Try.prog 57 #[.agg #[.slice A ms.length c], .slice B xs.length d, .int .i64 n] w fun e w' => ∃ r, e = .returned (.tuple #[.float .f64 r, .bool true]) ∧ fin .f64 r ∧ fv .f64 r ≤ drBd ms xs n ∧ Below w.heap.size w w' := by
  have HB : Hid (Below w.heap.size w (w.alloc (.cells #[.slice A ms.length c] 69))) := (Below.refl w.heap.size w).alloc (Nat.le_refl _) _
  have H : Hid (OwnM (w.alloc (.cells #[.slice A ms.length c] 69)) lo hi A c ms) := h.below HB.out hh
  have HR : Hid (Rd (w.alloc (.cells #[.slice A ms.length c] 69)) B (f32s xs)) := hr.below HB.out
  have HP : Hid ((w.alloc (.cells #[.slice A ms.length c] 69)).heap[w.heap.size]? = some (.cells #[.slice A ms.length c] 69 (0, 0))) := heap_alloc_new w _
  have hsz : w.heap.size < (w.alloc (.cells #[.slice A ms.length c] 69)).heap.size := by simp
  have HK := Lib.hid hok
  have HX := Lib.hid hx
  have c0 := cell_of_row _ w.heap.size 0 _ _ (0, 0) HP.out
  clear h hr hok hx
  go_enter Try.func57, Try.ntmps57
  go_wp2_with fail
  generalize w.alloc (.cells #[.slice A ms.length c] 69) = W at *
  refine (ringBody_any A B c d lo hi ms xs n W H.out (by omega) HK.out hl HR.out (by omega) (by omega) (calm_x HK.out HX.out n (by omega))).mono ?_
  rintro e W1 ⟨A1, c1, ys, he, ho1, hr1, hb1⟩
  rw [hr1.1] at he ho1
  subst he
  have hs1 := hb1.size
  have HP1 := Lib.hid ((hb1.block _ hsz).trans HP.out)
  have H1 := Lib.hid (H.out.below hb1 (by omega))
  have HR1 := Lib.hid (HR.out.below hb1)
  have HB1 : Hid (Below w.heap.size w W1) := HB.out.trans (hb1.mono (by omega))
  have RY1 : Hid (Rd W1 A1 (f32s ys)) := by
    obtain ⟨_, _, q, _, rd⟩ := own_rd ho1
    injection q with q1 _ q2
    subst q1 q2
    exact rd
  have HY := Lib.hid hr1
  clear c0 H HR HP HB ho1 hr1 hb1
  have c1' := cell_of_row _ w.heap.size 0 _ _ (0, 0) HP1.out
  go_wp2_with fail
  refine (ringDouble_any A B c d lo hi ms xs n W1 H1.out (by omega) HK.out hl HR1.out (by omega) (by omega)).mono ?_
  rintro e W2 ⟨A2, c2, Ys, he, ho2, hr2, hb2⟩
  rw [hr2.1] at he ho2
  subst he
  have RY2 : Hid (Rd W2 A1 (f32s ys)) := RY1.out.below hb2
  have RZ2 : Hid (Rd W2 A2 (f64s Ys)) := by
    obtain ⟨_, _, q, _, rd⟩ := own_rd ho2
    injection q with q1 _ q2
    subst q1 q2
    exact rd
  have HZ := Lib.hid hr2
  have HB2 : Hid (Below w.heap.size w W2) := HB1.out.trans (hb2.mono (by omega))
  clear c1' H1 HR1 HP1 HB1 ho2 hr2 hb2 RY1
  go_wp2_with fail
  go_loopw [12, 34] (fun mo i wr => ∃ (k r m : Nat), i = .int .i64 (k : Int) ∧ k ≤ n ∧ mo = .float .f64 r ∧ Hid (fin .f64 r ∧ fv .f64 r ≤ drBd ms xs n) ∧ wr = W2.drewN m) (fun _ i _ => n - (intOf i).toNat)
  case atStart => exact ⟨0, 0, 0, rfl, by omega, rfl, ⟨(zero_fin .f64).1, by rw [(zero_fin .f64).2]; exact drBd_nonneg _ _ _⟩, (World.drewN_zero W2).symm⟩
  case round =>
    obtain ⟨k, r, m, rfl, hk, rfl, HM, rfl⟩ := hrel
    by_cases hlt : k < n
    · obtain ⟨b, off, rfl, hbk, hc⟩ := RY2.out (by simp; rw [HY.out.1]; omega)
      obtain ⟨b2, off2, rfl, hbk2, hc2⟩ := RZ2.out (by simp [f64s]; rw [HZ.out.1]; omega)
      have e1 := hc k _ (f32s_at (by rw [HY.out.1]; exact hlt))
      have e2 := hc2 k _ (f64s_at (by rw [HZ.out.1]; exact hlt))
      obtain ⟨y, Y, Z, D, Q, ey, eY, hz, hn0, hd, wd, hq, HQ⟩ := drift_pack HK.out hl HX.out hxl hn hlt HY.out HZ.out
      rw [ey] at e1
      rw [eY] at e2
      clear hc hc2 ey eY
      have T := Lib.hid (fun W => mathAbs_any D W wd)
      rw [hq] at T
      clear wd hq
      cases t : fgt .f64 Q r
      · go_wp2_with fail
        refine (T.out _).mono ?_
        rintro e w' ⟨rfl, rfl⟩
        go_wp2_with fail
        go_roundw
        case rel => exact ⟨k + 1, r, _, by go_num, by omega, rfl, HM.out, rfl⟩
        case measure => simp [intOf]; omega
      · go_wp2_with fail
        refine (T.out _).mono ?_
        rintro e w' ⟨rfl, rfl⟩
        go_wp2_with fail
        go_roundw
        case rel => exact ⟨k + 1, Q, _, by go_num, by omega, rfl, HQ.out, rfl⟩
        case measure => simp [intOf]; omega
    · have hkn : n = k := by omega
      subst hkn
      go_wp2_with fail
      go_ret2
      exact ⟨r, rfl, HM.out.1, HM.out.2, below_drewN HB2.out m⟩
end Go.Proofs.Ytignncjmbcdpaaa

/-
laws.power of a negative number, to the bit.
-/
namespace Go.Proofs.Ytignncjmbcdpaaa
open Go Go.RowKit

set_option maxHeartbeats 400000 in
theorem power_neg_w (n : Int) (P : Nat) (w : World) (h0 : n < 0) (h1 : -500 ≤ n) (hP : fin .f64 P) (hPw : wfk .f64 P) (hv : fv .f64 P = pw n) : Calls Try.prog 19 #[.int .i64 n] w fun e w' => e = .returned (.float .f64 P) ∧ ∃ j, w.drewN j = w' := by
  have HP := Lib.hid (And.intro hP (And.intro hPw hv))
  clear hP hPw hv
  go_enter Try.func19, Try.ntmps19
  go_wp2_with fail
  go_loopw [0, 3] (fun m x wr => m = .int .i64 n ∧ x = .float .f64 4607182418800017408 ∧ wr = w) (fun _ _ _ => 0)
  case atStart => exact ⟨rfl, rfl, rfl⟩
  case round =>
    obtain ⟨rfl, rfl, rfl⟩ := hrel
    have hn : decide (0 < n) = false := by simp; omega
    go_wp2_with fail
    go_loopw [0, 3] (fun m x w2 => ∃ (j : Int) (r k : Nat), m = .int .i64 j ∧ n ≤ j ∧ j ≤ 0 ∧ x = .float .f64 r ∧ fin .f64 r ∧ wfk .f64 r ∧ fv .f64 r = pw (n - j) ∧ w2 = wr.drewN k) (fun m _ _ => (-intOf m).toNat)
    case atStart => exact ⟨n, _, 0, rfl, by omega, by omega, rfl, one_fin.1, by rw [wfk_64]; omega, by rw [one_fin.2]; simp [pw], rfl⟩
    case round =>
      obtain ⟨j, r, k, rfl, h2, h3, rfl, hr, hw, hv, rfl⟩ := hrel
      have Hst := Lib.hid (fun w => half_step hr hv (by omega) (by omega) w)
      have Hr := Lib.hid (And.intro hr (And.intro hw hv))
      clear hr hv hw
      by_cases hj : j < 0
      · go_wp2
        go_roundw
        case rel => exact ⟨j + 1, _, _, by go_num, by omega, by omega, rfl, (Hst.out _).1, fR_lt _ _ _ _ _, by rw [(Hst.out _).2]; congr 1; omega, rfl⟩
        case measure => simp [intOf]; omega
      · obtain rfl : j = 0 := by omega
        have e : r = P := word_eq Hr.out.1 HP.out.1 Hr.out.2.1 HP.out.2.1 (by rw [Hr.out.2.2, HP.out.2.2, Int.sub_zero]) (by rw [Hr.out.2.2]; have := pw_pos (n - 0); grind)
        subst e
        go_wp2
        go_ret
        exact ⟨rfl, k, rfl⟩
theorem p20_word : fin .f64 4517110426252607488 ∧ wfk .f64 4517110426252607488 ∧ fv .f64 4517110426252607488 = pw (-20) := by
  have h : FloatKind.f64.format.read 4517110426252607488 = .number false 4503599627370496 (-72) := by decide +kernel
  obtain ⟨a, b⟩ := fin_of_read h
  refine ⟨a, by rw [wfk_64]; omega, ?_⟩
  rw [b, dval_num]
  have e : mval 4503599627370496 (-72) = pw (-20) := by unfold mval pw; grind
  rw [e]; simp
theorem p100_word : fin .f64 4156822456062967808 ∧ wfk .f64 4156822456062967808 ∧ fv .f64 4156822456062967808 = pw (-100) := by
  have h : FloatKind.f64.format.read 4156822456062967808 = .number false 4503599627370496 (-152) := by decide +kernel
  obtain ⟨a, b⟩ := fin_of_read h
  refine ⟨a, by rw [wfk_64]; omega, ?_⟩
  rw [b, dval_num]
  have e : mval 4503599627370496 (-152) = pw (-100) := by unfold mval pw; grind
  rw [e]; simp
end Go.Proofs.Ytignncjmbcdpaaa

/-
What the law of the drift asks of its numbers, the words without a body. (Plain arithmetic.)
-/
namespace Go.Proofs.Ytignncjmbcdpaaa
open Go Go.RowKit Ieee

theorem gain_size {m : MW} (hm : ModeOk m.1 m.2.1 m.2.2.1 m.2.2.2) : fin .f64 (fo .add .f64 (absB (wid m.2.2.1)) (absB (wid m.2.2.2))) ∧ gam m - gam m / 2 ^ 52 ≤ fv .f64 (fo .add .f64 (absB (wid m.2.2.1)) (absB (wid m.2.2.2))) + 1 / 2 ^ 195 ∧
    0 ≤ fv .f64 (fo .add .f64 (absB (wid m.2.2.1)) (absB (wid m.2.2.2))) ∧ fv .f64 (fo .add .f64 (absB (wid m.2.2.1)) (absB (wid m.2.2.2))) ≤ 2 * gam m + 1 := by
  obtain ⟨k1, k2, k3⟩ := consts64
  obtain ⟨a1, a2⟩ := absB_fin hm.fc
  obtain ⟨b1, b2⟩ := absB_fin hm.fd
  rw [(wid_fin (fin_of_wid hm.fc)).2] at a2
  rw [(wid_fin (fin_of_wid hm.fd)).2] at b2
  have g0 := gam_nonneg m
  have g1 := gam_le hm
  have e : fv .f64 (absB (wid m.2.2.1)) + fv .f64 (absB (wid m.2.2.2)) = gam m := by rw [a2, b2]; rfl
  have ad := add_spec a1 b1 (by rw [e, ab_of_nonneg g0]; grind)
  rw [e] at ad
  have er := ad.2.1
  rw [k1, ab_of_nonneg g0] at er
  have l := le_ab (fv .f64 (fo .add .f64 (absB (wid m.2.2.1)) (absB (wid m.2.2.2))) - gam m)
  have z := (ad.2.2 0 (zero_fin .f64).1).1 (by rw [(zero_fin .f64).2]; exact g0)
  rw [(zero_fin .f64).2] at z
  exact ⟨ad.1, by grind, z, by grind⟩
theorem nat_small {k B : Nat} (h : k ≤ B) : (0 : Rat) ≤ (k : Rat) ∧ (k : Rat) ≤ ((B : Nat) : Rat) := ⟨Rat.natCast_nonneg, Rat.natCast_le_natCast.2 h⟩
theorem gsum_le {ms : List MW} (hm : ModesOk ms) (k : Nat) (hk : k ≤ ms.length) : gsum ms k ≤ (k : Rat) * 2048 := by
  induction k with
  | zero => show (0 : Rat) ≤ _; simp
  | succ k ih =>
    have h := ih (by omega)
    have g : gam (mAt ms k) ≤ 2048 := gam_le (hm.at_ (by omega))
    have e : ((k + 1 : Nat) : Rat) = (k : Rat) + 1 := by simp
    rw [e]
    show gsum ms k + _ ≤ _
    grind
/-- One gain. -/
theorem gain_pack {ms : List MW} {k : Nat} (hm : ModesOk ms) (hl : ms.length ≤ 16) (hk : k < ms.length) :
    ∃ p1 p2 c d C D z : Nat, (mAt ms k).1 = p1 ∧ (mAt ms k).2.1 = p2 ∧ (mAt ms k).2.2.1 = c ∧ (mAt ms k).2.2.2 = d ∧ (∀ W, cR .f32 c .f64 W = C) ∧ cN .f32 c .f64 = 0 ∧ (∀ W, cR .f32 d .f64 W = D) ∧ cN .f32 d .f64 = 0 ∧
      Hid (∀ W, Calls Try.prog 56 #[.complex .f64 C D] W fun e w' => e = .returned (.float .f64 z) ∧ ∃ n, W.drewN n = w') ∧
      Hid (∀ g, Acc g (gsum ms k) (k : Rat) → ∀ W, Acc (fR .add .f64 g z W) (gsum ms (k + 1)) ((k + 1 : Nat) : Rat)) := by
  have hmk : ModeOk (mAt ms k).1 (mAt ms k).2.1 (mAt ms k).2.2.1 (mAt ms k).2.2.2 := hm.at_ hk
  obtain ⟨c1, c2⟩ := widFin hmk.fc
  obtain ⟨d1, d2⟩ := widFin hmk.fd
  obtain ⟨f, lo, z0, hi⟩ := gain_size hmk
  refine ⟨_, _, _, _, _, _, fo .add .f64 (absB (wid (mAt ms k).2.2.1)) (absB (wid (mAt ms k).2.2.2)), rfl, rfl, rfl, rfl, c1, c2, d1, d2, fun W => ?_, fun g hg W => ?_⟩
  · refine (specSize_any _ _ W).mono fun e w' h => ?_
    obtain ⟨r, n, rfl, hr, _, rfl⟩ := h
    exact ⟨by rw [nrm_fin_eq hr f], n, rfl⟩
  · obtain ⟨k0, k1⟩ := nat_small (show k ≤ 16 by omega)
    have k2 : (k : Rat) ≤ 16 := by simpa using k1
    have G0 := gsum_nonneg ms k
    have G1 := gsum_le hm k (by omega)
    have g0 := gam_nonneg (mAt ms k)
    have g1 : gam (mAt ms k) ≤ 2048 := gam_le hmk
    have e : ((k + 1 : Nat) : Rat) = (k : Rat) + 1 := by simp
    have hgf := hg.f
    have hgh := hg.hi
    have hgp := hg.p
    have ad := add_spec hgf f (by
      have ht := top210
      rw [ab_of_nonneg (by grind)]; grind)
    rw [rnd_eq ad.1 W, e]
    exact acc_step hg k0 (by grind) G0 (by grind) g0 (by grind) z0 lo hi ad
/-- One input. -/
theorem in_pack {xs : List Nat} {k : Nat} (hx : LowX xs) (hl : xs.length ≤ 11) (hk : k < xs.length) :
    ∃ x Z : Nat, xs.getD k 0 = x ∧ (∀ W, cR .f32 x .f64 W = Z) ∧ cN .f32 x .f64 = 0 ∧
      Hid (∀ s, Acc s (sumIn xs k) (k : Rat) → (flt .f32 x 0 = true → ∀ W, Acc (fR .sub .f64 s Z W) (sumIn xs (k + 1)) ((k + 1 : Nat) : Rat)) ∧ (flt .f32 x 0 = false → ∀ W, Acc (fR .add .f64 s Z W) (sumIn xs (k + 1)) ((k + 1 : Nat) : Rat))) := by
  obtain ⟨f, b⟩ := hx k hk
  obtain ⟨w1, w2⟩ := wid_fin f
  obtain ⟨c1, c2⟩ := widFin w1
  have ein : inAt xs k = xs.getD k 0 := if_pos hk
  have es : sumIn xs (k + 1) = sumIn xs k + ab (fv .f32 (xs.getD k 0)) := by
    show sumIn xs k + ab (fv .f32 (inAt xs k)) = _
    rw [ein]
  refine ⟨_, _, rfl, c1, c2, fun s hs => ?_⟩
  obtain ⟨k0, k1⟩ := nat_small (show k ≤ 16 by omega)
  have k2 : (k : Rat) ≤ 16 := by simpa using k1
  have e : ((k + 1 : Nat) : Rat) = (k : Rat) + 1 := by simp
  have S0 := sumIn_nonneg xs k
  have S1 := sumIn_le hx k
  have a0 := ab_nonneg (fv .f32 (xs.getD k 0))
  have hp := hs.p
  have hh := hs.hi
  have ht := top210
  rw [es, e]
  have hz := flt_iff f (zero_fin .f32).1
  rw [(zero_fin .f32).2] at hz
  constructor
  · intro hlt W
    have hneg := hz.1 hlt
    have ea : fv .f64 s - fv .f64 (wid (xs.getD k 0)) = fv .f64 s + ab (fv .f32 (xs.getD k 0)) := by
      rw [w2, ← ab_neg, ab_of_nonneg (x := -fv .f32 (xs.getD k 0)) (by grind)]; grind
    have sb := sub_spec hs.f w1 (by rw [ea, ab_of_nonneg (by grind)]; grind)
    rw [ea] at sb
    rw [rnd_eq sb.1 W]
    exact acc_step hs k0 (by grind) S0 (by grind) a0 (by grind) a0 (by grind) (by grind) sb
  · intro hge W
    have hpos : 0 ≤ fv .f32 (xs.getD k 0) := by
      rcases rat_lt_or_le (fv .f32 (xs.getD k 0)) 0 with h | h
      · rw [hz.2 h] at hge; cases hge
      · exact h
    have ea : fv .f64 s + fv .f64 (wid (xs.getD k 0)) = fv .f64 s + ab (fv .f32 (xs.getD k 0)) := by rw [w2, ab_of_nonneg hpos]
    have sb := add_spec hs.f w1 (by rw [ea, ab_of_nonneg (by grind)]; grind)
    rw [ea] at sb
    rw [rnd_eq sb.1 W]
    exact acc_step hs k0 (by grind) S0 (by grind) a0 (by grind) a0 (by grind) (by grind) sb
/-- The law's bound. -/
theorem rhs_pack {ms : List MW} {xs : List Nat} {n g s r : Nat} (hm : ModesOk ms) (hl : ms.length ≤ 5) (hx : LowX xs) (hxl : xs.length ≤ 11) (hn : n ≤ 255) (hg : Acc g (gsum ms ms.length) (ms.length : Rat)) (hs : Acc s (sumIn xs xs.length) (xs.length : Rat))
    (fr : fin .f64 r) (hr : fv .f64 r ≤ drBd ms xs n) : ∃ Nw M1 M2 M3 M4 : Nat, floatOfInt .f64 ((n : Int) + (ms.length : Int) + 1) = Nw ∧ (∀ W, fR .mul .f64 Nw g W = M1) ∧ (∀ W, fR .mul .f64 M1 s W = M2) ∧ (∀ W, fR .mul .f64 M2 4517110426252607488 W = M3) ∧
      (∀ W, fR .add .f64 M3 4156822456062967808 W = M4) ∧ fle .f64 r M4 = true := by
  have hbin : FloatKind.f64.format.binade = 4503599627370496 := by decide +kernel
  have hi := int_exact .f64 ((n : Int) + (ms.length : Int) + 1) (by rw [hbin]; omega)
  have ei : (((n : Int) + (ms.length : Int) + 1 : Int) : Rat) = (n : Rat) + (ms.length : Rat) + 1 := by simp [Rat.intCast_natCast]
  rw [ei] at hi
  obtain ⟨n0, n1⟩ := nat_small hn
  obtain ⟨l0, l1⟩ := nat_small hl
  obtain ⟨x0, x1⟩ := nat_small hxl
  have n2 : (n : Rat) ≤ 255 := by simpa using n1
  have l2 : (ms.length : Rat) ≤ 5 := by simpa using l1
  have x2 : (xs.length : Rat) ≤ 11 := by simpa using x1
  have G0 := gsum_nonneg ms ms.length
  have G1 := gsum_le hm ms.length (Nat.le_refl _)
  have S0 := sumIn_nonneg xs xs.length
  have S1 := sumIn_le hx xs.length
  obtain ⟨u1, u2⟩ := hg.use l0 (by grind) G0 (by grind)
  obtain ⟨v1, v2⟩ := hs.use x0 (by grind) S0 (by grind)
  have p20 := p20_word
  have p100 := p100_word
  have e20 : pw (-20) = 1 / 2 ^ 20 := by unfold pw; grind
  have e100 : pw (-100) = 1 / 2 ^ 100 := by unfold pw; grind
  unfold drBd at hr
  obtain ⟨f1, f2, f3, f4, hle⟩ := rhs_ok hi.1 hi.2 hg.f hs.f p20.1 (p20.2.2.trans e20) p100.1 (p100.2.2.trans e100) fr (by grind) (by grind) G0 S0 hg.p hs.p u1 u2 v1 v2 hr
  exact ⟨_, _, _, _, _, rfl, fun W => rnd_eq f1 W, fun W => rnd_eq f2 W, fun W => rnd_eq f3 W, fun W => rnd_eq f4 W, hle⟩
end Go.Proofs.Ytignncjmbcdpaaa

/-
laws.fresh.
-/
namespace Go.Proofs.Ytignncjmbcdpaaa
open Go Go.RowKit Ieee

theorem u8_info : (Try.prog.info? 5).map (fun i => (i.zero, i.size, i.bytes)) = some (some (.int .u8 0), 1, 1) := by kernel_rfl
theorem owns_one (w : World) (e : TypeId) (v : Value) : (w.alloc (.cells #[v] e)).ownsRow w.heap.size e 1 (.slice (some ⟨w.heap.size, 0, none⟩) 1 1) 1 [v] :=
  ⟨rfl, .inr ⟨w.heap.size, 1, #[v], rfl, Nat.le_refl _, heap_alloc_new w _, Nat.le_refl _, by simp [maxLen], rfl, rfl⟩⟩

set_option maxRecDepth 100000 in
set_option maxHeartbeats 600000 in
theorem fresh_any (A : Option Addr) (cp : Nat) (bs : List Int) (salt : Int) (w : World) (hr : Rd w A (bs.map (.int .u8))) (hm : bs.length ≤ 1048576) (hb : ∀ i, i < bs.length → 0 ≤ bs.getD i 0 ∧ bs.getD i 0 ≤ 255) (hs : salt = 3 ∨ salt = 5 ∨ salt = 7) :
    Calls Try.prog 21 #[.slice A bs.length cp, .int .i64 salt] w fun e w' => ∃ (A' : Option Addr) (c' : Nat) (ys : List Int), e = .returned (.slice A' ys.length c') ∧ Rd w' A' (ys.map (.int .u8)) ∧ ys.length ≤ 601 ∧ Below w.heap.size w w' := by
  rcases hs with rfl | rfl | rfl
  all_goals
    go_enter Try.func21, Try.ntmps21
    go_wp2_with fail
    go_loopw [5, 6] (fun v i wr => ∃ (k : Nat) (ys : List Int), i = .int .i64 (k : Int) ∧ k ≤ bs.length ∧ k ≤ 600 ∧ wr.ownsRow w.heap.size 5 1 v (k + 1) (ys.map (.int .u8)) ∧ Below w.heap.size w wr) (fun _ i _ => bs.length - (intOf i).toNat)
    case atStart => exact ⟨0, [_], rfl, by omega, by omega, owns_one w _ _, (Below.refl w.heap.size w).alloc (Nat.le_refl _) _⟩
    case round =>
      obtain ⟨k, ys, rfl, hk, hk6, hown, hbel⟩ := hrel
      by_cases hlt : k < bs.length
      · by_cases h6 : k < 600
        · obtain ⟨b, off, rfl, hbk, hc⟩ := (hr.below hbel) (by simp; omega)
          have e1 := hc k (.int .u8 (bs.getD k 0)) (by simp [List.getD, List.getElem?_eq_getElem hlt])
          have hx := hb k hlt
          have hsz := hbel.size
          generalize bs.getD k 0 = x at *
          clear hc
          go_wp2_with (at_builtin; refine wpList_app1 rfl (.tmp 20) (.tmp 34) 22 rfl w.heap.size 5 (.int .u8 0) 1 Try.underlying22 u8_info rfl u5 (k + 1) (ys.map (.int .u8)) _ rfl rfl rfl hown hsz (by omega) (by omega) ?_; intro v' w' hown' hbel')
          go_roundw
          case rel => exact ⟨k + 1, ys ++ [_], by go_num, by omega, by omega, by rw [List.map_append]; exact hown', hbel.trans hbel'⟩
          case measure => simp [intOf]; omega
        · go_wp2_with fail
          go_ret
          obtain ⟨A', cap, hv, hl, hrd⟩ := own_rd hown
          have hl' : ys.length = k + 1 := by simpa using hl
          exact ⟨A', cap, ys, by rw [hl', ← hv]; rfl, hrd, by omega, hbel⟩
      · go_wp2_with fail
        go_ret
        obtain ⟨A', cap, hv, hl, hrd⟩ := own_rd hown
        have hl' : ys.length = k + 1 := by simpa using hl
        exact ⟨A', cap, ys, by rw [hl', ← hv]; rfl, hrd, by omega, hbel⟩
end Go.Proofs.Ytignncjmbcdpaaa

/-
The law FnDrift returns true for all codes. No condition.
-/
namespace Go.Proofs.Ytignncjmbcdpaaa.lawDrift
open Go Go.RowKit Go.ChangeShapes Go.WideShapes

/-- What stays: the body with its box, the input. -/
structure RSt (w W : World) (A : Option Addr) (c lo gb : Nat) (ms : List MW) (B : Option Addr) (xs : List Nat) : Prop where
  own : OwnM W lo gb A c ms
  box : W.heap[gb]? = some (.cells #[.slice A ms.length c] 69 (0, 0))
  rx : Rd W B (f32s xs)
  bel : Below w.heap.size w W
theorem RSt.lt {w W : World} {A B : Option Addr} {c lo gb : Nat} {ms : List MW} {xs : List Nat} (h : RSt w W A c lo gb ms B xs) : gb < W.heap.size := lt_of_some h.box
theorem RSt.below {w W W' : World} {A B : Option Addr} {c lo gb : Nat} {ms : List MW} {xs : List Nat} (h : RSt w W A c lo gb ms B xs) (hb : Below W.heap.size W W') : RSt w W' A c lo gb ms B xs :=
  ⟨h.own.below hb (Nat.le_of_lt h.lt), (hb.block _ h.lt).trans h.box, h.rx.below hb, h.bel.trans (hb.mono h.bel.size)⟩
theorem RSt.drewN {w W : World} {A B : Option Addr} {c lo gb : Nat} {ms : List MW} {xs : List Nat} (h : RSt w W A c lo gb ms B xs) (n : Nat) : RSt w (W.drewN n) A c lo gb ms B xs := ⟨h.own, h.box, h.rx, below_drewN h.bel n⟩
theorem RSt.alloc {w W : World} {A B : Option Addr} {c lo gb : Nat} {ms : List MW} {xs : List Nat} (h : RSt w W A c lo gb ms B xs) (o : Obj) : RSt w (W.alloc o) A c lo gb ms B xs := h.below ((Below.refl W.heap.size W).alloc (Nat.le_refl _) o)
theorem RSt.cell {w W : World} {A B : Option Addr} {c lo gb : Nat} {ms : List MW} {xs : List Nat} (h : RSt w W A c lo gb ms B xs) : W.cell? ⟨gb, 0, none⟩ = some (.slice A ms.length c) := cell_of_row W gb 0 _ _ (0, 0) h.box
theorem RSt.input {w W : World} {A B B' : Option Addr} {c lo gb : Nat} {ms : List MW} {xs xs' : List Nat} (h : RSt w W A c lo gb ms B xs) (hr : Rd W B' (f32s xs')) : RSt w W A c lo gb ms B' xs' := ⟨h.own, h.box, hr, h.bel⟩
theorem RSt.make {w W0 W : World} {A : Option Addr} {c : Nat} {ms : List MW} (hb : Below w.heap.size w W0) (h : OwnM W W0.heap.size W.heap.size A c ms) (hb1 : Below W0.heap.size W0 W) :
    RSt w (W.alloc (.cells #[.slice A ms.length c] 69)) A c W0.heap.size W.heap.size ms none [] :=
  ⟨h.below ((Below.refl W.heap.size W).alloc (Nat.le_refl _) _) (Nat.le_refl _), heap_alloc_new W _, fun hl => absurd hl (Nat.not_lt_zero _), (hb.trans (hb1.mono hb.size)).alloc (Nat.le_trans hb.size hb1.size) _⟩

theorem pick3 {a b d : Nat} {j : Nat} (hj : j < 3) : ∀ h, ([.float .f32 a, .float .f32 b, .float .f32 d] : List Value)[j]'h = .float .f32 ([a, b, d].getD j 0) := by
  intro h
  match j, hj with
  | 0, _ => rfl
  | 1, _ => rfl
  | 2, _ => rfl
theorem most_ok {j : Nat} (hj : j < 3) : fin .f32 ([1065353216, 1120403456, 981668463].getD j 0) ∧ ab (fv .f32 ([1065353216, 1120403456, 981668463].getD j 0)) ≤ 100 := by
  have key : ∀ (b m : Nat) (e : Int), FloatKind.f32.format.read b = .number false m e → (m : Rat) * pw e ≤ 100 → fin .f32 b ∧ ab (fv .f32 b) ≤ 100 := by
    intro b m e h v1
    obtain ⟨a1, a2⟩ := fin_of_read h
    refine ⟨a1, ?_⟩
    rw [a2, dval_ab]
    exact v1
  match j, hj with
  | 0, _ => exact key 1065353216 8388608 (-23) (by decide +kernel) (by unfold pw; grind)
  | 1, _ => exact key 1120403456 13107200 (-17) (by decide +kernel) (by unfold pw; grind)
  | 2, _ => exact key 981668463 8589935 (-33) (by decide +kernel) (by unfold pw; grind)
theorem low_small {m : Nat} {xs : List Nat} (hm : fin .f32 m ∧ ab (fv .f32 m) ≤ 100) (h : ∀ x ∈ xs, SmallAt m x) : LowX xs := fun i hi => by
  have := small_spec hm.1 hm.2 (by grind) (h (xs.getD i 0) (by simp [List.getD, List.getElem?_eq_getElem hi]))
  exact ⟨this.1, Rat.le_trans this.2 (by grind)⟩

set_option maxRecDepth 100000 in
set_option maxHeartbeats 2000000 in
theorem walk_some (A : Option Addr) (c : Nat) (bs : List Int) (w : World) (hr : Rd w A (bs.map (.int .u8))) (hm : bs.length ≤ 1048576) (hb : ∀ i, i < bs.length → 0 ≤ bs.getD i 0 ∧ bs.getD i 0 ≤ 255) :
    Calls Try.prog 11 #[.slice A bs.length c] w fun e w' => e = .returned (.bool true) ∧ Below w.heap.size w w' := by
  have hlen0 : ¬ (1048576 : Int) < (bs.length : Int) := by omega
  have hq1 := atL_bound hb 1
  have hq2 := atL_bound hb 2
  have Hb := Lib.hid hb
  have H1 := Lib.hid (fun w h => at_any A c bs 1 w h hm (by omega) hb)
  have H2 := Lib.hid (fun w h => at_any A c bs 2 w h hm (by omega) hb)
  clear hb
  generalize atL bs 1 = q1 at *
  generalize atL bs 2 = q2 at *
  have Hr := Lib.hid hr
  clear hr
  obtain ⟨j1, hj1, hj1'⟩ : ∃ j : Nat, q1 % 3 = j ∧ j < 3 := ⟨(q1 % 3).toNat, by omega, by omega⟩
  obtain ⟨n, hn, hn1⟩ : ∃ n : Nat, q2 = (n : Int) ∧ n ≤ 255 := ⟨q2.toNat, by omega, by omega⟩
  subst hn
  have p1 := pick3 (a := 1065353216) (b := 1120403456) (d := 981668463) hj1'
  have Hmo := Lib.hid (most_ok hj1')
  obtain ⟨mo, hmo⟩ : ∃ mo, [1065353216, 1120403456, 981668463].getD j1 0 = mo := ⟨_, rfl⟩
  rw [hmo] at p1 Hmo
  clear hmo
  go_enter Try.func11, Try.ntmps11
  go_wp2_with fail
  refine (makeBody_any A c bs 5 _ Hr.out hm (.inr rfl)).mono ?_
  rintro e W1 ⟨A', c', ms, rfl, hown, hok, hl5, hb1⟩
  have S1 := Lib.hid (RSt.make (Below.refl w.heap.size w) hown hb1)
  have KM := Lib.hid (show ModesOk ms from hok)
  clear hown hok hb1
  go_wp2_with fail
  generalize W1.alloc (.cells #[.slice A' ms.length c'] 69) = V1 at *
  generalize W1.heap.size = gb at *
  generalize w.heap.size = lo at S1
  refine (fresh_any A c bs 3 _ (Hr.out.below S1.out.bel) hm Hb.out (.inl rfl)).mono ?_
  rintro e W2 ⟨A2, c2, ys0, rfl, hrd2, hlen2, hb2⟩
  have S2 := Lib.hid ((S1.out.below hb2).alloc (.cells #[.float .f32 1065353216, .float .f32 1120403456, .float .f32 981668463] 25))
  have R2 : Hid (Rd (W2.alloc (.cells #[.float .f32 1065353216, .float .f32 1120403456, .float .f32 981668463] 25)) A2 (ys0.map (.int .u8))) := hrd2.below ((Below.refl W2.heap.size W2).alloc (Nat.le_refl _) _)
  clear S1 hb2 hrd2
  go_wp2_with fail
  refine (H1.out _ (Hr.out.below S2.out.bel)).mono ?_
  rintro e w' ⟨rfl, rfl⟩
  go_wp2_with fail
  refine (makeSmall_any A2 c2 ys0 mo _ R2.out (by omega)).mono ?_
  generalize W2.alloc (.cells #[.float .f32 1065353216, .float .f32 1120403456, .float .f32 981668463] 25) = V2 at *
  rintro e W3 ⟨A3, c3, xs, rfl, hrd3, hlen3, hall, hb3⟩
  have S3 := Lib.hid ((S2.out.below hb3).input hrd3)
  have L := Lib.hid (low_small Hmo.out hall)
  clear S2 R2 hb3 hrd3 hall p1 Hmo
  go_wp2_with fail
  refine (H2.out _ (Hr.out.below S3.out.bel)).mono ?_
  rintro e w' ⟨rfl, rfl⟩
  have k3 := S3.out.cell
  go_wp2_with fail
  clear k3
  go_loopw [6, 33] (fun g i wr => ∃ (k gw : Nat), i = .int .i64 (k : Int) ∧ k ≤ ms.length ∧ g = .float .f64 gw ∧ Hid (Acc gw (gsum ms k) (k : Rat)) ∧ Hid (RSt w wr A' c' lo gb ms A3 xs)) (fun _ i _ => ms.length - (intOf i).toNat)
  case atStart => exact ⟨0, 0, rfl, by omega, rfl, (show Acc 0 (gsum ms 0) ((0 : Nat) : Rat) from by simpa [gsum] using acc_zero), S3.out⟩
  case round =>
    clear S3
    obtain ⟨k, gw, rfl, hk, rfl, HA, S⟩ := hrel
    by_cases hlt : k < ms.length
    · obtain ⟨b, rfl, hb1, hb2, hlc, _, hcell⟩ := S.out.own.cells (by omega)
      obtain ⟨e1, e2⟩ := hcell k hlt
      obtain ⟨p1, p2, cc, d, C, D, z, h1, h2, h3, h4, hC, hC0, hD, hD0, HZ, HAc⟩ := gain_pack KM.out (by omega) hlt
      have e1' : wr.cell? ⟨b, k * 2, none⟩ = some (.complex .f32 (mAt ms k).1 (mAt ms k).2.1) := e1
      have e2' : wr.cell? ⟨b, k * 2 + 1, none⟩ = some (.complex .f32 (mAt ms k).2.2.1 (mAt ms k).2.2.2) := e2
      rw [h1, h2] at e1'
      rw [h3, h4] at e2'
      clear e1 e2 hcell h1 h2 h3 h4
      have hmB : (wr.alloc (.cells #[.complex .f32 p1 p2, .complex .f32 cc d] 52)).heap[wr.heap.size]? = some (.cells #[.complex .f32 p1 p2, .complex .f32 cc d] 52 (0, 0)) := heap_alloc_new wr _
      obtain ⟨m0, m1, _, _⟩ := m_cells hmB
      have S' := Lib.hid (S.out.alloc (.cells #[.complex .f32 p1 p2, .complex .f32 cc d] 52))
      clear hmB S
      go_wp2_with fail
      refine (HZ.out _).mono ?_
      rintro e w' ⟨rfl, nz, rfl⟩
      go_wp2_with fail
      go_roundw
      case rel => exact ⟨k + 1, _, by go_num, by omega, rfl, HAc.out gw HA.out _, S'.out.drewN _⟩
      case measure => simp [intOf]; omega
    · have hkn : ms.length = k := by omega
      subst hkn
      go_wp2_with fail
      go_loopw [9, 46] (fun g i w2 => ∃ (k sw m : Nat), i = .int .i64 (k : Int) ∧ k ≤ xs.length ∧ g = .float .f64 sw ∧ Hid (Acc sw (sumIn xs k) (k : Rat)) ∧ w2 = wr.drewN m) (fun _ i _ => xs.length - (intOf i).toNat)
      case atStart => exact ⟨0, 0, 0, rfl, by omega, rfl, (show Acc 0 (sumIn xs 0) ((0 : Nat) : Rat) from by simpa [sumIn] using acc_zero), (World.drewN_zero wr).symm⟩
      case round =>
        rename_i hk0
        obtain ⟨k, sw, m, rfl, hk, rfl, HS, rfl⟩ := hrel
        by_cases hlt : k < xs.length
        · obtain ⟨b, off, rfl, hbk, hc⟩ := S.out.rx (by simp; omega)
          have e1 := hc k _ (f32s_at hlt)
          obtain ⟨x, Z, ex, hZ, hZ0, HI⟩ := in_pack L.out hlen3 hlt
          rw [ex] at e1
          clear hc ex
          cases t : flt .f32 x 0
          · go_wp2_with fail
            go_roundw
            case rel => exact ⟨k + 1, _, _, by go_num, by omega, rfl, (HI.out sw HS.out).2 t _, rfl⟩
            case measure => simp [intOf]; omega
          · go_wp2_with fail
            go_roundw
            case rel => exact ⟨k + 1, _, _, by go_num, by omega, rfl, (HI.out sw HS.out).1 t _, rfl⟩
            case measure => simp [intOf]; omega
        · have hkn : xs.length = k := by omega
          subst hkn
          have S4 := Lib.hid (S.out.drewN m)
          have k4 := S4.out.cell
          clear S
          go_wp2_with fail
          refine (driftOf_any A' A3 c' c3 _ gb ms xs n _ S4.out.own (Nat.le_of_lt S4.out.lt) KM.out (by omega) S4.out.rx (by omega) L.out (by omega)).mono ?_
          rintro e W5 ⟨r, rfl, hr1, hr2, hb5⟩
          obtain ⟨Nw, M1, M2, M3, M4, hNw, hm1, hm2, hm3, hm4, hle⟩ := rhs_pack KM.out hl5 L.out hlen3 hn1 HA.out HS.out hr1 hr2
          have S5 := Lib.hid (S4.out.below hb5)
          have k5 := S5.out.cell
          have T20 := Lib.hid (fun W => power_neg_w (-20) 4517110426252607488 W (by omega) (by omega) p20_word.1 p20_word.2.1 p20_word.2.2)
          have T100 := Lib.hid (fun W => power_neg_w (-100) 4156822456062967808 W (by omega) (by omega) p100_word.1 p100_word.2.1 p100_word.2.2)
          have hw1 := IntWalk.i64_in ((n : Int) + (ms.length : Int)) (by omega)
          have hw2 := IntWalk.i64_in ((n : Int) + (ms.length : Int) + 1) (by omega)
          clear k4 S4 hr1 hr2 hb5 HA HS
          go_wp2_with fail
          refine wp_region_rx (by kernel_rfl) (by kernel_rfl) ?_; apply Exists.intro
          repeat (first | (apply wpR_val; intro K hK; go_simp; refine ⟨rfl, hK _ ?_⟩; clear hK K) | (apply wpR_skip; intro K hK; go_simp; refine hK _ ?_; clear hK K))
          apply wpR_val (v := .float .f64 4517110426252607488); intro K hK; go_simp; refine ⟨fun m => rcall0 (T20.out _), hK _ ?_⟩; clear hK K
          repeat (first | (apply wpR_val; intro K hK; go_simp; refine ⟨rfl, hK _ ?_⟩; clear hK K) | (apply wpR_skip; intro K hK; go_simp; refine hK _ ?_; clear hK K))
          apply wpR_val (v := .float .f64 4156822456062967808); intro K hK; go_simp; refine ⟨fun m => rcall0 (T100.out _), hK _ ?_⟩; clear hK K
          repeat (first | (apply wpR_val; intro K hK; go_simp; refine ⟨rfl, hK _ ?_⟩; clear hK K) | (apply wpR_skip; intro K hK; go_simp; refine hK _ ?_; clear hK K))
          apply wpR_nil (Rs := []); rintro _ ⟨nq, rfl⟩
          go_wp2_with fail
          go_ret
          exact ⟨rfl, below_drewN S5.out.bel _⟩

set_option maxRecDepth 100000 in
theorem walk (A : Option Addr) (c : Nat) (bs : List Int) (w : World) (_ : bs.length ≤ maxLen) (hr : Rd w A (bs.map (.int .u8))) (hb : ∀ i, i < bs.length → 0 ≤ bs.getD i 0 ∧ bs.getD i 0 ≤ 255) :
    Calls Try.prog 11 #[.slice A bs.length c] w fun e w' => e = .returned (.bool true) ∧ Below w.heap.size w w' := by
  by_cases hm : bs.length ≤ 1048576
  · exact walk_some A c bs w hr hm hb
  · clear hb
    go_enter Try.func11, Try.ntmps11
    go_wp2
    go_ret
    exact ⟨rfl, Below.refl _ _⟩
set_option maxRecDepth 100000 in
theorem lifted (os : Os) (started : os.Started) (H : Type) (enc : TypeId × Value → H) :
    ReturnsInHanded {} Try.checked os 11 .any (Rows.fnDriftSpec.pre6 enc Try.prog Try.f11 Rows.fnDriftRow.domain false) (Rows.fnDriftSpec.post enc Try.prog Try.f11 false true false false) := by
  refine returnsInHanded_of_change (C := Try.checked) own started (by kernel_rfl) Try.func11
    (ChangeSpec.witness6 (enc := enc) (C := Try.checked) false ⟨#[], #[.slice none 0 0], []⟩ 8 (by kernel_rfl) (by kernel_rfl) (by kernel_rfl) (by kernel_rfl)) ?_
  intro W base args ds gs before hval0 hW hcnd _
  have hval : ∀ (j : Nat) t v, Try.f11.params[j]? = some t → args[j]? = some v → Value.okWide Try.prog W .any base t v := hval0
  have hW' := hW
  obtain ⟨p, q, hA0, hV, rfl, hfz, hnd⟩ := hW
  have hA : DataW.TrodAll enc Try.prog W 0 (fun _ => true) true Try.f11.params.toList args.toList ds p := hA0
  rw [Try.params11] at hA hval
  obtain ⟨v0, vs0, d0, ds0, p0, q0, hargs, rfl, rfl, h0, r0⟩ := trodAll_cons hA
  obtain ⟨rfl, rfl, rfl⟩ := trodAll_nil r0
  obtain rfl : args = #[v0] := by cases args; simp_all
  obtain ⟨rfl, rfl⟩ := trodVars_none hV
  obtain ⟨a0, len0, cap0, rfl⟩ := okWide_slice Try.underlying22 (hval 0 22 v0 rfl rfl)
  have lt0 : ∀ x ∈ p0, x.block < W.heap.size := by obtain ⟨m, hm⟩ := h0; exact DataW.trod_lt m _ _ _ hm
  obtain ⟨bs0, rfl, mx0, rd0, wf0⟩ := open_bytes rfl Try.underlying22 Try.underlying5 (by kernel_rfl) h0
  clear hA0 hval0
  refine (walk a0 cap0 bs0 W mx0 rd0 wf0).mono fun e W' ⟨he, bel⟩ => ?_
  subst he
  exact ⟨_, rfl, _, _, _, [], _, [], hW', trodAll_mk1 (shut_bool Try.underlying4 _), (trodAll_cons_mk (Below.trod laidOut (by kernel_rfl) (of_decide_eq_true (by kernel_rfl)) h0 bel lt0) trodAll_mk0), rfl, bel.frame _, fun h => by cases h⟩

theorem proved : Rows.FnDriftSaid :=
  OpenClaim.holds_of_wide 11 Try.f11 rfl rfl rfl rfl rfl rfl rfl ⟨rfl, rfl, rfl, rfl, rfl⟩ rfl rfl rfl rfl rfl (by kernel_rfl) Try.func11 (by kernel_rfl)
    (of_decide_eq_true (by kernel_rfl)) (by unfold Func.isWrapper; first | (rw [if_pos (by decide +kernel)]; kernel_rfl) | (rw [if_neg (by decide +kernel)]; exact ⟨rfl, rfl⟩))
    (fun os started H enc _ => lifted os started H enc)
#print axioms proved
end Go.Proofs.Ytignncjmbcdpaaa.lawDrift
