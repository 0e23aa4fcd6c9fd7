/-
Part 4 of 4 of the proof of the law FnMeasured: it returns true for all codes. No condition.
-/
import Derived.Test.YtignncjmbcdpaaaLawMeasuredM3

/-
A late input rings late, in equal numbers. (Plain arithmetic.)
-/
namespace Go.Proofs.Ytignncjmbcdpaaa
open Go Ieee

def EqvS (s t : Nat × Nat) : Prop := Eqv .f32 s.1 t.1 ∧ Eqv .f32 s.2 t.2
theorem prod_top {x y L : Rat} (hx : ab x ≤ L) (hy : ab y ≤ 1 + 1 / 2 ^ 40) (hL : 1 ≤ L) (hL2 : L ≤ 2 ^ 112) : ab (x * y) ≤ top .f64 := by
  have ht := top210
  rw [ab_mul]
  have h1 := Rat.mul_le_mul_of_nonneg_left hy (ab_nonneg x)
  grind
theorem sub_top {x y L : Rat} (hx : ab x ≤ L * (1 + 1 / 2 ^ 30)) (hy : ab y ≤ L * (1 + 1 / 2 ^ 30)) (hL : 1 ≤ L) (hL2 : L ≤ 2 ^ 112) : ab (x - y) ≤ top .f64 ∧ ab (x + y) ≤ top .f64 := by
  have ht := top210
  obtain ⟨x1, x2⟩ := le_ab x
  obtain ⟨y1, y2⟩ := le_ab y
  exact ⟨ab_le (by grind) (by grind), ab_le (by grind) (by grind)⟩
theorem times_eqv {a b c d a' b' : Nat} {L : Rat} (W : World) (ha : Eqv .f32 a a') (hb : Eqv .f32 b b') (fc : fin .f32 c) (fd : fin .f32 d) (wc : wfk .f32 c) (wd : wfk .f32 d) (la : ab (fv .f32 a) ≤ L) (lb : ab (fv .f32 b) ≤ L) (hL : 1 ≤ L) (hL2 : L ≤ 2 ^ 112)
    (hc : ab (fv .f32 c) ≤ 1 + 1 / 2 ^ 40) (hd : ab (fv .f32 d) ≤ 1 + 1 / 2 ^ 40) : Eqv .f32 (sRe a b c d) (sRe a' b' c d) ∧ Eqv .f32 (sIm a b c d) (sIm a' b' c d) := by
  obtain ⟨M, _, _, _, _⟩ := wide_mild ha.fa hb.fa fc fd la lb hL hL2 hc hd
  have A := ha.wid
  have B := hb.wid
  have C := (Eqv.refl fc wc).wid
  have D := (Eqv.refl fd wd).wid
  have la' : ab (fv .f64 (wid a)) ≤ L := by rw [(wid_fin ha.fa).2]; exact la
  have lb' : ab (fv .f64 (wid b)) ≤ L := by rw [(wid_fin hb.fa).2]; exact lb
  have hc' : ab (fv .f64 (wid c)) ≤ 1 + 1 / 2 ^ 40 := by rw [(wid_fin fc).2]; exact hc
  have hd' : ab (fv .f64 (wid d)) ≤ 1 + 1 / 2 ^ 40 := by rw [(wid_fin fd).2]; exact hd
  have P1 := A.mul C (prod_top la' hc' hL hL2)
  have P2 := B.mul D (prod_top lb' hd' hL hL2)
  have P3 := A.mul D (prod_top la' hd' hL hL2)
  have P4 := B.mul C (prod_top lb' hc' hL hL2)
  have e1 := (part_mul A.fa C.fa la' hL hL2 hc').2
  have e2 := (part_mul B.fa D.fa lb' hL hL2 hd').2
  have e3 := (part_mul A.fa D.fa la' hL hL2 hd').2
  have e4 := (part_mul B.fa C.fa lb' hL hL2 hc').2
  exact ⟨(P1.sub P2 (sub_top e1 e2 hL hL2).1).nar M.tr W, (P3.add P4 (sub_top e3 e4 hL hL2).2).nar M.ti W⟩
theorem pole_le {m : MW} (hm : ModeOk m.1 m.2.1 m.2.2.1 m.2.2.2) : ab (fv .f32 m.1) ≤ 1 + 1 / 2 ^ 40 ∧ ab (fv .f32 m.2.1) ≤ 1 + 1 / 2 ^ 40 := by
  have hsq := hm.square
  have q1 := sq_nonneg (fv .f32 m.1)
  have q2 := sq_nonneg (fv .f32 m.2.1)
  exact ⟨ab_le_of_sq (by grind) (by grind), ab_le_of_sq (by grind) (by grind)⟩
theorem add_top {s g : Nat} {L : Rat} (hs : ab (fv .f32 s) ≤ L * (9 / 4)) (hg : ab (fv .f32 g) ≤ 8193) (hL : 2 ^ 14 ≤ L) (hL2 : L ≤ 2 ^ 112) : ab (fv .f32 s + fv .f32 g) ≤ top .f32 := by
  have ht2 := top32
  have g1 := ab_add (fv .f32 s) (fv .f32 g)
  grind
theorem gain_part {g x : Nat} (fg : fin .f32 g) (fx : fin .f32 x) (hg : ab (fv .f32 g) ≤ 1024) (hx : ab (fv .f32 x) ≤ 8) : ab (fv .f32 (fo .mul .f32 g x)) ≤ 8193 := by
  obtain ⟨u1, u2, _⟩ := consts32
  have ht2 := top32
  have n1 := ab_nonneg (fv .f32 g)
  have h1 := Rat.mul_le_mul_of_nonneg_left hx n1
  have h2 : ab (fv .f32 g * fv .f32 x) ≤ 8192 := by rw [ab_mul]; grind
  have hm := mul_spec fg fx (by grind)
  have e := hm.2.1
  rw [u1] at e
  have t := ab_tri (fv .f32 (fo .mul .f32 g x)) (fv .f32 g * fv .f32 x)
  grind
theorem step_eqv {m : MW} {s t : Nat × Nat} {x : Nat} {L : Rat} (W : World) (hm : ModeOk m.1 m.2.1 m.2.2.1 m.2.2.2) (hs : StOk L s) (h : EqvS s t) (fx : fin .f32 x) (hx : ab (fv .f32 x) ≤ 8) (hL : 2 ^ 14 ≤ L) (hL2 : L ≤ 2 ^ 112) :
    EqvS (stepW m s x) (stepW m t x) := by
  obtain ⟨p1, p2⟩ := pole_le hm
  obtain ⟨_, n1, n2, c1, c2⟩ := wide_mild hs.f1 hs.f2 (fin_of_wid hm.fa) (fin_of_wid hm.fb) hs.b1 hs.b2 (by grind) hL2 p1 p2
  have S := (step_ok hm hs fx hx hL hL2).2
  obtain ⟨e1, e2⟩ := times_eqv W h.1 h.2 (fin_of_wid hm.fa) (fin_of_wid hm.fb) hm.wa hm.wb hs.b1 hs.b2 (by grind) hL2 p1 p2
  have g1 := gain_part (fin_of_wid hm.fc) fx (gain_le hm.fc hm.gain.1) hx
  have g2 := gain_part (fin_of_wid hm.fd) fx (gain_le hm.fd hm.gain.2) hx
  exact ⟨e1.add (Eqv.refl S.g1 (fo_lt _ _ _ _)) (add_top c1 g1 hL hL2), e2.add (Eqv.refl S.g2 (fo_lt _ _ _ _)) (add_top c2 g2 hL hL2)⟩

/-- A state of zeros stays so without an input. -/
theorem rest_eqv {m : MW} (W : World) (hm : ModeOk m.1 m.2.1 m.2.2.1 m.2.2.2) : EqvS (stepW m (0, 0) 0) (0, 0) := by
  obtain ⟨z1, z2⟩ := zero_fin .f32
  have z3 : ab (fv .f32 0) ≤ 8 := by rw [z2, ab_of_nonneg Rat.le_refl]; grind
  have hs : StOk (2 ^ 14) (0, 0) := zero_ok (by grind)
  obtain ⟨hs', S⟩ := step_ok hm hs z1 z3 (Rat.le_refl) (by grind)
  obtain ⟨p1, p2⟩ := pole_le hm
  obtain ⟨w1, w2⟩ := wid_fin z1
  rw [z2] at w2
  have fa := hm.fa
  have fb := hm.fb
  have zt : ab (0 : Rat) ≤ top .f64 := by rw [ab_of_nonneg Rat.le_refl]; exact top_pos _
  have zt2 : ab (0 : Rat) ≤ top .f32 := by rw [ab_of_nonneg Rat.le_refl]; exact top_pos _
  have mz : ∀ {c : Nat}, fin .f64 c → fin .f64 (fo .mul .f64 (wid 0) c) ∧ fv .f64 (fo .mul .f64 (wid 0) c) = 0 := fun {c} hc => by
    have e : fv .f64 (wid 0) * fv .f64 c = 0 := by rw [w2, Rat.zero_mul]
    have r := mul_spec w1 hc (by rw [e]; exact zt)
    exact ⟨r.1, round_zero r e⟩
  have re : fv .f64 (mulRe (wid 0) (wid 0) (wid m.1) (wid m.2.1)) = 0 := by
    have e : fv .f64 (fo .mul .f64 (wid 0) (wid m.1)) - fv .f64 (fo .mul .f64 (wid 0) (wid m.2.1)) = 0 := by rw [(mz fa).2, (mz fb).2]; grind
    exact round_zero (sub_spec (mz fa).1 (mz fb).1 (by rw [e]; exact zt)) e
  have im : fv .f64 (mulIm (wid 0) (wid 0) (wid m.1) (wid m.2.1)) = 0 := by
    have e : fv .f64 (fo .mul .f64 (wid 0) (wid m.2.1)) + fv .f64 (fo .mul .f64 (wid 0) (wid m.1)) = 0 := by rw [(mz fa).2, (mz fb).2]; grind
    exact round_zero (add_spec (mz fb).1 (mz fa).1 (by rw [e]; exact zt)) e
  have M := S.mild
  have R1 := (nar_ok M.fr M.tr).2
  have R2 := (nar_ok M.fi M.ti).2
  have v1 := round_zero R1 re
  have v2 := round_zero R2 im
  have g : ∀ {c : Nat}, fin .f32 c → fv .f32 (fo .mul .f32 c 0) = 0 := fun {c} hc => by
    have e : fv .f32 c * fv .f32 0 = 0 := by rw [z2, Rat.mul_zero]
    exact round_zero (mul_spec hc z1 (by rw [e]; exact zt2)) e
  have k1 : fv .f32 (stepW m (0, 0) 0).1 = 0 := by
    have e : fv .f32 (sRe 0 0 m.1 m.2.1) + fv .f32 (fo .mul .f32 m.2.2.1 0) = 0 := by
      rw [show fv .f32 (sRe 0 0 m.1 m.2.1) = 0 from v1, g (fin_of_wid hm.fc)]; grind
    exact round_zero (add_spec R1.1 S.g1 (by rw [e]; exact zt2)) e
  have k2 : fv .f32 (stepW m (0, 0) 0).2 = 0 := by
    have e : fv .f32 (sIm 0 0 m.1 m.2.1) + fv .f32 (fo .mul .f32 m.2.2.2 0) = 0 := by
      rw [show fv .f32 (sIm 0 0 m.1 m.2.1) = 0 from v2, g (fin_of_wid hm.fd)]; grind
    exact round_zero (add_spec R2.1 S.g2 (by rw [e]; exact zt2)) e
  exact ⟨⟨S.n1, z1, hs'.w1, by rw [wfk_32]; omega, by rw [k1, z2]⟩, ⟨S.n2, z1, hs'.w2, by rw [wfk_32]; omega, by rw [k2, z2]⟩⟩

theorem low_late {xs : List Nat} (h : Low xs) : Low (0 :: xs) := fun i hi => by
  cases i with
  | zero =>
    obtain ⟨z1, z2⟩ := zero_fin .f32
    exact ⟨z1, by show ab (fv .f32 0) ≤ 8; rw [z2, ab_of_nonneg Rat.le_refl]; grind⟩
  | succ i =>
    simp at hi
    have := h i hi
    simpa using this
theorem inAt_late (xs : List Nat) (i : Nat) : inAt (0 :: xs) (i + 1) = inAt xs i := by
  unfold inAt
  simp
theorem inAt_late0 (xs : List Nat) : inAt (0 :: xs) 0 = 0 := by unfold inAt; simp
theorem late_states {ms : List MW} {xs : List Nat} (W : World) (hm : ModesOk ms) (hx : Low xs) (i : Nat) (hi : i ≤ 60) : ∀ k, k < ms.length → EqvS (sAt (stAt ms (0 :: xs) (i + 1)) k) (sAt (stAt ms xs i) k) := by
  induction i with
  | zero =>
    intro k hk
    have e0 : sAt (stAt ms (0 :: xs) 0) k = (0, 0) := by simp [stAt, sAt, List.getD, hk]
    have e1 : sAt (stAt ms xs 0) k = (0, 0) := by simp [stAt, sAt, List.getD, hk]
    have e : sAt (stAt ms (0 :: xs) (0 + 1)) k = stepW (mAt ms k) (sAt (stAt ms (0 :: xs) 0) k) (inAt (0 :: xs) 0) := nextS_at (by rw [stAt_len]; exact hk)
    rw [e, e0, e1, inAt_late0]
    exact rest_eqv W (hm.at_ hk)
  | succ i ih =>
    intro k hk
    have h := ih (by omega) k hk
    have e : sAt (stAt ms (0 :: xs) (i + 1 + 1)) k = stepW (mAt ms k) (sAt (stAt ms (0 :: xs) (i + 1)) k) (inAt (0 :: xs) (i + 1)) := nextS_at (by rw [stAt_len]; exact hk)
    have e' : sAt (stAt ms xs (i + 1)) k = stepW (mAt ms k) (sAt (stAt ms xs i) k) (inAt xs i) := nextS_at (by rw [stAt_len]; exact hk)
    rw [e, e', inAt_late]
    obtain ⟨x1, x2⟩ := hx.at_ i
    exact step_eqv W (hm.at_ hk) (states_ok hm (low_late hx) (i + 1) (by omega) k hk) h x1 x2 (pw3_lo _) (pw3_hi _ (by omega))
theorem out_eqv {ms : List MW} {ss ts : List (Nat × Nat)} {x : Nat} (h : ∀ k, k < ms.length → EqvS (stepW (mAt ms k) (sAt ss k) x) (stepW (mAt ms k) (sAt ts k) x) ∧ ab (fv .f32 (stepW (mAt ms k) (sAt ss k) x).1) ≤ 2 ^ 114) (k : Nat) (hk : k ≤ ms.length) (h5 : k ≤ 5) :
    Eqv .f32 (outAt ms ss x k) (outAt ms ts x k) ∧ ab (fv .f32 (outAt ms ss x k)) ≤ (k : Rat) * 2 ^ 115 := by
  induction k with
  | zero =>
    obtain ⟨z1, z2⟩ := zero_fin .f32
    refine ⟨Eqv.refl z1 (by show (0 : Nat) < 4294967296; omega), ?_⟩
    show ab (fv .f32 0) ≤ _
    rw [z2, ab_of_nonneg Rat.le_refl]; simp
  | succ k ih =>
    obtain ⟨e, b⟩ := ih (by omega) (by omega)
    obtain ⟨hs, hb⟩ := h k (by omega)
    have hk5 : (k : Rat) ≤ 5 := by
      have := Rat.natCast_le_natCast.2 (show k ≤ 5 by omega)
      simpa using this
    have hk0 : (0 : Rat) ≤ (k : Rat) := Rat.natCast_nonneg
    have ht2 := top32
    obtain ⟨u1, u2, u3⟩ := consts32
    have t1 := ab_add (fv .f32 (outAt ms ss x k)) (fv .f32 (stepW (mAt ms k) (sAt ss k) x).1)
    have t2 : ab (fv .f32 (outAt ms ss x k) + fv .f32 (stepW (mAt ms k) (sAt ss k) x).1) ≤ top .f32 := by grind
    refine ⟨e.add hs.1 t2, ?_⟩
    have r := (add_spec e.fa hs.1.fa t2).2.1
    rw [u1] at r
    have t3 := ab_tri (fv .f32 (fo .add .f32 (outAt ms ss x k) (stepW (mAt ms k) (sAt ss k) x).1)) (fv .f32 (outAt ms ss x k) + fv .f32 (stepW (mAt ms k) (sAt ss k) x).1)
    have ec : ((k + 1 : Nat) : Rat) = (k : Rat) + 1 := by simp
    rw [ec]
    show ab (fv .f32 (fo .add .f32 (outAt ms ss x k) (stepW (mAt ms k) (sAt ss k) x).1)) ≤ _
    grind
/-- **A LATE INPUT RINGS LATE.** -/
theorem late_out {ms : List MW} {xs ys zs : List Nat} {n : Nat} (W : World) (hm : ModesOk ms) (h5 : ms.length ≤ 5) (hx : Low xs) (hn : n ≤ 60) (hy : Rung ms xs ys n) (hz : Rung ms (0 :: xs) zs (n + 1)) : ∀ i, i < n → feq .f32 (zs.getD (i + 1) 0) (ys.getD i 0) = true := fun i hi => by
  obtain ⟨x1, x2⟩ := hx.at_ i
  have hst := late_states W hm hx i (by omega)
  have key := out_eqv (ms := ms) (ss := stAt ms (0 :: xs) (i + 1)) (ts := stAt ms xs i) (x := inAt xs i) (fun k hk => by
    have s0 := states_ok hm (low_late hx) (i + 1) (by omega) k hk
    refine ⟨step_eqv W (hm.at_ hk) s0 (hst k hk) x1 x2 (pw3_lo _) (pw3_hi _ (by omega)), ?_⟩
    have b := (step_ok (hm.at_ hk) s0 x1 x2 (pw3_lo _) (pw3_hi _ (by omega))).1.b1
    have := pw3_hi (i + 1) (by omega)
    have b' : ab (fv .f32 (stepW (mAt ms k) (sAt (stAt ms (0 :: xs) (i + 1)) k) (inAt xs i)).1) ≤ pw3 (i + 1) * 3 := b
    grind) ms.length (Nat.le_refl _) h5
  have e1 := (hz.2 (i + 1) (by omega)).1
  have e2 := (hy.2 i hi).1
  rw [inAt_late] at e1
  have f1 := nrm_fin_eq e1 key.1.fa
  have f2 := nrm_fin_eq e2 key.1.fb
  rw [f1, f2]
  exact (feq_iff key.1.fa key.1.fb).2 key.1.v
end Go.Proofs.Ytignncjmbcdpaaa

/-
One step of a mode: the errors in single and in double precision. (Plain arithmetic.)
-/
namespace Go.Proofs.Ytignncjmbcdpaaa
open Go Ieee

/-- Two products, their sum, narrowed. -/
theorem err_nar {p q s r P Q S : Rat} (hp : ab (p - P) ≤ ab P / 2 ^ 53 + 1 / 2 ^ 200) (hq : ab (q - Q) ≤ ab Q / 2 ^ 53 + 1 / 2 ^ 200) (hs : ab (s - (p + q)) ≤ ab (p + q) / 2 ^ 53 + 1 / 2 ^ 200)
    (hr : ab (r - s) ≤ ab s / 2 ^ 24 + 1 / 2 ^ 149) (hS : ab P + ab Q ≤ S) : ab (r - (P + Q)) ≤ S / 2 ^ 24 + S / 2 ^ 40 + 1 / 2 ^ 147 := by
  have t1 := ab_tri p P
  have t2 := ab_tri q Q
  have t3 := ab_add p q
  have t4 := ab_tri s (p + q)
  have t5 := ab_add (r - s) (s - (p + q))
  have t6 := ab_add (r - (p + q)) ((p - P) + (q - Q))
  have t7 := ab_add (p - P) (q - Q)
  have e1 : r - s + (s - (p + q)) = r - (p + q) := by grind
  have e2 : r - (p + q) + ((p - P) + (q - Q)) = r - (P + Q) := by grind
  rw [e1] at t5
  rw [e2] at t6
  have n1 := ab_nonneg P
  have n2 := ab_nonneg Q
  clear e1 e2
  generalize ab (p - P) = x1 at *
  generalize ab (q - Q) = x2 at *
  generalize ab (s - (p + q)) = x3 at *
  generalize ab (r - s) = x4 at *
  generalize ab (r - (p + q)) = x5 at *
  generalize ab (p - P + (q - Q)) = x6 at *
  generalize ab (r - (P + Q)) = x7 at *
  generalize ab (p + q) = x8 at *
  generalize ab p = x9 at *
  generalize ab q = x10 at *
  generalize ab s = x11 at *
  generalize ab P = x12 at *
  generalize ab Q = x13 at *
  grind
/-- Two products and their sum. -/
theorem err_dbl {p q s P Q S : Rat} (hp : ab (p - P) ≤ ab P / 2 ^ 53 + 1 / 2 ^ 200) (hq : ab (q - Q) ≤ ab Q / 2 ^ 53 + 1 / 2 ^ 200) (hs : ab (s - (p + q)) ≤ ab (p + q) / 2 ^ 53 + 1 / 2 ^ 200)
    (hS : ab P + ab Q ≤ S) : ab (s - (P + Q)) ≤ S / 2 ^ 51 + 1 / 2 ^ 197 := by
  have t1 := ab_tri p P
  have t2 := ab_tri q Q
  have t3 := ab_add p q
  have t6 := ab_add (s - (p + q)) ((p - P) + (q - Q))
  have t7 := ab_add (p - P) (q - Q)
  have e2 : s - (p + q) + ((p - P) + (q - Q)) = s - (P + Q) := by grind
  rw [e2] at t6
  have n1 := ab_nonneg P
  have n2 := ab_nonneg Q
  clear e2
  generalize ab (p - P) = x1 at *
  generalize ab (q - Q) = x2 at *
  generalize ab (s - (p + q)) = x3 at *
  generalize ab (p - P + (q - Q)) = x6 at *
  generalize ab (s - (P + Q)) = x7 at *
  generalize ab (p + q) = x8 at *
  generalize ab p = x9 at *
  generalize ab q = x10 at *
  generalize ab P = x12 at *
  generalize ab Q = x13 at *
  grind
/-- A part and a gain's part times an input, added. -/
theorem err_add {r g z V G S W μ τ : Rat} (hμ : 0 ≤ μ) (hμ1 : μ ≤ 1 / 2 ^ 24) (hτ : 0 ≤ τ) (hr : ab (r - V) ≤ S * μ + S / 2 ^ 16 * μ + τ * 4) (hV : ab V ≤ S) (hg : ab (g - G) ≤ μ * ab G + τ) (hG : ab G ≤ W) (hz : ab (z - (r + g)) ≤ μ * ab (r + g) + τ) (hS : 0 ≤ S) (hτ1 : τ ≤ 1) :
    ab (z - (V + G)) ≤ (S + W) * μ * 3 + τ * 8 := by
  have t1 := ab_tri r V
  have t2 := ab_tri g G
  have t3 := ab_add r g
  have t4 := ab_add (z - (r + g)) ((r - V) + (g - G))
  have t5 := ab_add (r - V) (g - G)
  have e : z - (r + g) + ((r - V) + (g - G)) = z - (V + G) := by grind
  rw [e] at t4
  clear e
  have n1 := ab_nonneg V
  have n2 := ab_nonneg G
  have n3 := ab_nonneg (r + g)
  generalize ab (r - V) = x1 at *
  generalize ab (g - G) = x2 at *
  generalize ab (z - (r + g)) = x3 at *
  generalize ab (r - V + (g - G)) = x4 at *
  generalize ab (z - (V + G)) = x5 at *
  generalize ab (r + g) = x6 at *
  generalize ab r = x7 at *
  generalize ab g = x8 at *
  generalize ab V = x9 at *
  generalize ab G = x10 at *
  have hW : 0 ≤ W := by grind
  have m1 := Rat.mul_nonneg hμ hS
  have m2 := Rat.mul_nonneg hμ hW
  have m3 : x6 ≤ S + W + (S * μ + S / 2 ^ 16 * μ + τ * 4) + (μ * x10 + τ) := by grind
  have m4 : μ * x10 ≤ μ * W := Rat.mul_le_mul_of_nonneg_left hG hμ
  have m5 := Rat.mul_le_mul_of_nonneg_left m3 hμ
  have m6 : μ * (μ * S) ≤ μ * S / 2 ^ 24 := by
    have := Rat.mul_le_mul_of_nonneg_right hμ1 m1
    grind
  have m7 : μ * (μ * W) ≤ μ * W / 2 ^ 24 := by
    have := Rat.mul_le_mul_of_nonneg_right hμ1 m2
    grind
  have m8 : μ * τ ≤ τ / 2 ^ 24 := by
    have := Rat.mul_le_mul_of_nonneg_right hμ1 hτ
    grind
  have m9 : μ * (μ * x10) ≤ μ * (μ * W) := Rat.mul_le_mul_of_nonneg_left m4 hμ
  grind
end Go.Proofs.Ytignncjmbcdpaaa

/-
One step of a mode against the exact one. (Plain arithmetic.)
-/
namespace Go.Proofs.Ytignncjmbcdpaaa
open Go Ieee

theorem ModeOk.ball {m : MW} (hm : ModeOk m.1 m.2.1 m.2.2.1 m.2.2.2) : B2 (fv .f32 m.1) (fv .f32 m.2.1) rho := B2.pole hm.square
/-- The size of a mode's gain. -/
def gam (m : MW) : Rat := ab (fv .f32 m.2.2.1) + ab (fv .f32 m.2.2.2)
theorem gam_nonneg (m : MW) : 0 ≤ gam m := by
  have := ab_nonneg (fv .f32 m.2.2.1)
  have := ab_nonneg (fv .f32 m.2.2.2)
  unfold gam; grind
/-- The exact step. -/
def exRe (m : MW) (A B x : Rat) : Rat := A * fv .f32 m.1 - B * fv .f32 m.2.1 + fv .f32 m.2.2.1 * x
def exIm (m : MW) (A B x : Rat) : Rat := A * fv .f32 m.2.1 + B * fv .f32 m.1 + fv .f32 m.2.2.2 * x
theorem ex_ball {m : MW} (hm : ModeOk m.1 m.2.1 m.2.2.1 m.2.2.2) {A B R x : Rat} (h : B2 A B R) : B2 (exRe m A B x) (exIm m A B x) (R * rho + gam m * ab x) :=
  (h.mul hm.ball).add ((B2.l1 _ _).scale x)

theorem gain_err {g x : Nat} (fg : fin .f32 g) (fx : fin .f32 x) (hg : ab (fv .f32 g) ≤ 1024) (hx : ab (fv .f32 x) ≤ 128) :
    fin .f32 (fo .mul .f32 g x) ∧ ab (fv .f32 (fo .mul .f32 g x) - fv .f32 g * fv .f32 x) ≤ 1 / 2 ^ 24 * ab (fv .f32 g * fv .f32 x) + 1 / 2 ^ 149 ∧ ab (fv .f32 (fo .mul .f32 g x)) ≤ 2 ^ 18 := by
  obtain ⟨u1, u2, _⟩ := consts32
  have ht2 := top32
  have h1 := Rat.mul_le_mul_of_nonneg_left hx (ab_nonneg (fv .f32 g))
  have h2 : ab (fv .f32 g * fv .f32 x) ≤ 2 ^ 17 := by rw [ab_mul]; grind
  have hm := mul_spec fg fx (by grind)
  have e := hm.2.1
  rw [u1] at e
  have t := ab_tri (fv .f32 (fo .mul .f32 g x)) (fv .f32 g * fv .f32 x)
  exact ⟨hm.1, by grind, by grind⟩
theorem prod64 {a c : Nat} {L : Rat} (fa : fin .f64 a) (fc : fin .f64 c) (h : ab (fv .f64 a * fv .f64 c) ≤ L) (hL : L ≤ 2 ^ 150) :
    fin .f64 (fo .mul .f64 a c) ∧ ab (fv .f64 (fo .mul .f64 a c) - fv .f64 a * fv .f64 c) ≤ ab (fv .f64 a * fv .f64 c) / 2 ^ 53 + 1 / 2 ^ 200 ∧ ab (fv .f64 (fo .mul .f64 a c)) ≤ L * 2 + 1 := by
  obtain ⟨k1, k2, k3⟩ := consts64
  have hm := mul_spec fa fc (by grind)
  have e := hm.2.1
  rw [k1] at e
  have t := ab_tri (fv .f64 (fo .mul .f64 a c)) (fv .f64 a * fv .f64 c)
  have n := ab_nonneg (fv .f64 a * fv .f64 c)
  exact ⟨hm.1, by grind, by grind⟩
/-- One part in double precision: two products and their sum. -/
theorem sum64 {p q : Nat} {L : Rat} (fp : fin .f64 p) (fq : fin .f64 q) (hp : ab (fv .f64 p) ≤ L) (hq : ab (fv .f64 q) ≤ L) (hL : L ≤ 2 ^ 160) :
    fin .f64 (fo .sub .f64 p q) ∧ fin .f64 (fo .add .f64 p q) ∧ ab (fv .f64 (fo .sub .f64 p q) - (fv .f64 p + -fv .f64 q)) ≤ ab (fv .f64 p + -fv .f64 q) / 2 ^ 53 + 1 / 2 ^ 200 ∧
      ab (fv .f64 (fo .add .f64 p q) - (fv .f64 p + fv .f64 q)) ≤ ab (fv .f64 p + fv .f64 q) / 2 ^ 53 + 1 / 2 ^ 200 := by
  obtain ⟨k1, k2, k3⟩ := consts64
  obtain ⟨p1, p2⟩ := le_ab (fv .f64 p)
  obtain ⟨q1, q2⟩ := le_ab (fv .f64 q)
  have b1 : ab (fv .f64 p - fv .f64 q) ≤ L * 2 := ab_le (by grind) (by grind)
  have b2 : ab (fv .f64 p + fv .f64 q) ≤ L * 2 := ab_le (by grind) (by grind)
  have s1 := sub_spec fp fq (by grind)
  have s2 := add_spec fp fq (by grind)
  have e1 := s1.2.1
  have e2 := s2.2.1
  rw [k1] at e1 e2
  have e : fv .f64 p + -fv .f64 q = fv .f64 p - fv .f64 q := by grind
  rw [e]
  exact ⟨s1.1, s2.1, by grind, by grind⟩
/-- A product of complex numbers in double precision. -/
theorem times64 {a b c d : Nat} {R : Rat} (fa : fin .f64 a) (fb : fin .f64 b) (fc : fin .f64 c) (fd : fin .f64 d) (h : B2 (fv .f64 a) (fv .f64 b) R) (g : B2 (fv .f64 c) (fv .f64 d) rho) (hR : R ≤ 2 ^ 100) :
    fin .f64 (mulRe a b c d) ∧ fin .f64 (mulIm a b c d) ∧ ab (fv .f64 (mulRe a b c d) - (fv .f64 a * fv .f64 c + -(fv .f64 b * fv .f64 d))) ≤ R * rho / 2 ^ 51 + 1 / 2 ^ 197 ∧
      ab (fv .f64 (mulIm a b c d) - (fv .f64 a * fv .f64 d + fv .f64 b * fv .f64 c)) ≤ R * rho / 2 ^ 51 + 1 / 2 ^ 197 := by
  obtain ⟨S1, S2⟩ := h.prods g
  have hr : R * rho ≤ 2 ^ 101 := by
    have := h.1
    unfold rho; grind
  have n1 := ab_nonneg (fv .f64 a * fv .f64 c)
  have n2 := ab_nonneg (fv .f64 b * fv .f64 d)
  have n3 := ab_nonneg (fv .f64 a * fv .f64 d)
  have n4 := ab_nonneg (fv .f64 b * fv .f64 c)
  obtain ⟨f1, e1, b1⟩ := prod64 fa fc (L := 2 ^ 101) (by grind) (by grind)
  obtain ⟨f2, e2, b2⟩ := prod64 fb fd (L := 2 ^ 101) (by grind) (by grind)
  obtain ⟨f3, e3, b3⟩ := prod64 fa fd (L := 2 ^ 101) (by grind) (by grind)
  obtain ⟨f4, e4, b4⟩ := prod64 fb fc (L := 2 ^ 101) (by grind) (by grind)
  obtain ⟨g1, _, x1, _⟩ := sum64 f1 f2 (L := 2 ^ 110) (by grind) (by grind) (by grind)
  obtain ⟨_, g2, _, x2⟩ := sum64 f3 f4 (L := 2 ^ 110) (by grind) (by grind) (by grind)
  have e2' : ab (-fv .f64 (fo .mul .f64 b d) - -(fv .f64 b * fv .f64 d)) ≤ ab (-(fv .f64 b * fv .f64 d)) / 2 ^ 53 + 1 / 2 ^ 200 := by
    rw [ab_neg, show -fv .f64 (fo .mul .f64 b d) - -(fv .f64 b * fv .f64 d) = -(fv .f64 (fo .mul .f64 b d) - fv .f64 b * fv .f64 d) by grind, ab_neg]; exact e2
  exact ⟨g1, g2, err_dbl e1 e2' x1 (by rw [ab_neg]; exact S1), err_dbl e3 e4 x2 S2⟩
end Go.Proofs.Ytignncjmbcdpaaa

/-
The pole that is fitted by least squares to the ringing of a mode. (Plain arithmetic.)
-/
namespace Go.Proofs.Ytignncjmbcdpaaa
open Go Ieee

/-- The value of a complex word. -/
def vRe (z : Nat × Nat) : Rat := fv .f64 z.1
def vIm (z : Nat × Nat) : Rat := fv .f64 z.2
/-- Ringing: words that are finite, in a ball. -/
structure RingAt (p z : Nat × Nat) (R : Rat) : Prop where
  f : finC z
  b : B2 (vRe z) (vIm z) R
theorem ring_step {p z : Nat × Nat} {R : Rat} (fp : finC p) (hp : B2 (vRe p) (vIm p) rho) (h : RingAt p z R) (hR : R ≤ 2 ^ 60) :
    RingAt p (prodC z p) (R + R / 2 ^ 38 + 1 / 2 ^ 190) ∧ ab (vRe (prodC z p) - (vRe z * vRe p - vIm z * vIm p)) ≤ R * rho / 2 ^ 51 + 1 / 2 ^ 197 ∧ ab (vIm (prodC z p) - (vRe z * vIm p + vIm z * vRe p)) ≤ R * rho / 2 ^ 51 + 1 / 2 ^ 197 := by
  obtain ⟨t1, t2, t3, t4⟩ := times64 h.f.1 h.f.2 fp.1 fp.2 h.b hp (by grind)
  have e1 : fv .f64 z.1 * fv .f64 p.1 + -(fv .f64 z.2 * fv .f64 p.2) = vRe z * vRe p - vIm z * vIm p := by unfold vRe vIm; grind
  rw [e1] at t3
  have b := h.b.mul hp
  have r0 := h.b.1
  have k := B2.box t3 t4
  have s := b.add k
  have q : B2 (vRe (prodC z p)) (vIm (prodC z p)) (R * rho + (R * rho / 2 ^ 51 + 1 / 2 ^ 197) * (3 / 2)) := by
    have e2 : vRe z * vRe p - vIm z * vIm p + (fv .f64 (mulRe z.1 z.2 p.1 p.2) - (vRe z * vRe p - vIm z * vIm p)) = fv .f64 (mulRe z.1 z.2 p.1 p.2) := by grind
    have e3 : vRe z * vIm p + vIm z * vRe p + (fv .f64 (mulIm z.1 z.2 p.1 p.2) - (fv .f64 z.1 * fv .f64 p.2 + fv .f64 z.2 * fv .f64 p.1)) = fv .f64 (mulIm z.1 z.2 p.1 p.2) := by unfold vRe vIm; grind
    rw [e2, e3] at s
    exact s
  refine ⟨⟨⟨t1, t2⟩, q.le ?_⟩, t3, t4⟩
  unfold rho; grind
theorem ring_all {p a : Nat × Nat} {R : Rat} (fp : finC p) (hp : B2 (vRe p) (vIm p) rho) (ha : RingAt p a R) (hR : R ≤ 2 ^ 30) (k : Nat) (hk : k ≤ 100) : RingAt p (zC p a k) (R * (1 + (k : Rat) / 2 ^ 30) + (k : Rat) / 2 ^ 180) := by
  induction k with
  | zero =>
    have e : R * (1 + ((0 : Nat) : Rat) / 2 ^ 30) + ((0 : Nat) : Rat) / 2 ^ 180 = R := by simp; grind
    rw [e]; exact ha
  | succ k ih =>
    have h := ih (by omega)
    have r0 := ha.b.1
    have k0 : (0 : Rat) ≤ (k : Rat) := Rat.natCast_nonneg
    have k1 : (k : Rat) ≤ 100 := by
      have := Rat.natCast_le_natCast.2 (show k ≤ 100 by omega)
      simpa using this
    have kR := Rat.mul_nonneg k0 r0
    have kR2 : (k : Rat) * R ≤ 100 * R := Rat.mul_le_mul_of_nonneg_right k1 r0
    have ec : ((k + 1 : Nat) : Rat) = (k : Rat) + 1 := by simp
    have s := (ring_step fp hp h (by grind)).1
    rw [ec]
    exact ⟨s.f, s.b.le (by grind)⟩
end Go.Proofs.Ytignncjmbcdpaaa

/-
Sums of products of a ringing with its conjugates. (Plain arithmetic.)
-/
namespace Go.Proofs.Ytignncjmbcdpaaa
open Go Ieee

/-- A product of complex numbers in double precision, any factors. -/
theorem times64g {a b c d : Nat} {R S : Rat} (fa : fin .f64 a) (fb : fin .f64 b) (fc : fin .f64 c) (fd : fin .f64 d) (h : B2 (fv .f64 a) (fv .f64 b) R) (g : B2 (fv .f64 c) (fv .f64 d) S) (hR : R * S ≤ 2 ^ 101) :
    fin .f64 (mulRe a b c d) ∧ fin .f64 (mulIm a b c d) ∧ ab (fv .f64 (mulRe a b c d) - (fv .f64 a * fv .f64 c + -(fv .f64 b * fv .f64 d))) ≤ R * S / 2 ^ 51 + 1 / 2 ^ 197 ∧
      ab (fv .f64 (mulIm a b c d) - (fv .f64 a * fv .f64 d + fv .f64 b * fv .f64 c)) ≤ R * S / 2 ^ 51 + 1 / 2 ^ 197 := by
  obtain ⟨S1, S2⟩ := h.prods g
  have n1 := ab_nonneg (fv .f64 a * fv .f64 c)
  have n2 := ab_nonneg (fv .f64 b * fv .f64 d)
  have n3 := ab_nonneg (fv .f64 a * fv .f64 d)
  have n4 := ab_nonneg (fv .f64 b * fv .f64 c)
  obtain ⟨f1, e1, b1⟩ := prod64 fa fc (L := 2 ^ 101) (by grind) (by grind)
  obtain ⟨f2, e2, b2⟩ := prod64 fb fd (L := 2 ^ 101) (by grind) (by grind)
  obtain ⟨f3, e3, b3⟩ := prod64 fa fd (L := 2 ^ 101) (by grind) (by grind)
  obtain ⟨f4, e4, b4⟩ := prod64 fb fc (L := 2 ^ 101) (by grind) (by grind)
  obtain ⟨g1, _, x1, _⟩ := sum64 f1 f2 (L := 2 ^ 110) (by grind) (by grind) (by grind)
  obtain ⟨_, g2, _, x2⟩ := sum64 f3 f4 (L := 2 ^ 110) (by grind) (by grind) (by grind)
  have e2' : ab (-fv .f64 (fo .mul .f64 b d) - -(fv .f64 b * fv .f64 d)) ≤ ab (-(fv .f64 b * fv .f64 d)) / 2 ^ 53 + 1 / 2 ^ 200 := by
    rw [ab_neg, show -fv .f64 (fo .mul .f64 b d) - -(fv .f64 b * fv .f64 d) = -(fv .f64 (fo .mul .f64 b d) - fv .f64 b * fv .f64 d) by grind, ab_neg]; exact e2
  exact ⟨g1, g2, err_dbl e1 e2' x1 (by rw [ab_neg]; exact S1), err_dbl e3 e4 x2 S2⟩
/-- A product with a conjugate. -/
theorem conj_times {x y : Nat × Nat} {R S : Rat} (fx : finC x) (fy : finC y) (hx : B2 (vRe x) (vIm x) R) (hy : B2 (vRe y) (vIm y) S) (hR : R * S ≤ 2 ^ 101) :
    finC (prodC x (conjW y)) ∧ ab (vRe (prodC x (conjW y)) - (vRe x * vRe y + vIm x * vIm y)) ≤ R * S / 2 ^ 51 + 1 / 2 ^ 197 ∧ ab (vIm (prodC x (conjW y)) - (vIm x * vRe y - vRe x * vIm y)) ≤ R * S / 2 ^ 51 + 1 / 2 ^ 197 := by
  obtain ⟨n1, n2⟩ := neg_fin fy.2
  have hy' : B2 (fv .f64 y.1) (fv .f64 (Op.negFloat .f64 y.2)) S := by rw [n2]; exact ⟨hy.1, by have := hy.2; unfold vRe vIm at this; grind⟩
  obtain ⟨t1, t2, t3, t4⟩ := times64g fx.1 fx.2 fy.1 n1 hx hy' hR
  rw [n2] at t3 t4
  refine ⟨⟨t1, t2⟩, ?_, ?_⟩
  · have e : vRe x * vRe y + vIm x * vIm y = fv .f64 x.1 * fv .f64 y.1 + -(fv .f64 x.2 * -fv .f64 y.2) := by unfold vRe vIm; grind
    rw [e]; exact t3
  · have e : vIm x * vRe y - vRe x * vIm y = fv .f64 x.1 * -fv .f64 y.2 + fv .f64 x.2 * fv .f64 y.1 := by unfold vRe vIm; grind
    rw [e]; exact t4
/-- The exact sum of the squares. -/
def tsum (z : Nat → Nat × Nat) : Nat → Rat
  | 0 => 0
  | k + 1 => tsum z k + (vRe (z k) * vRe (z k) + vIm (z k) * vIm (z k))
theorem tsum_nonneg (z : Nat → Nat × Nat) (k : Nat) : 0 ≤ tsum z k := by
  induction k with
  | zero => exact Rat.le_refl
  | succ k ih =>
    have q1 := sq_nonneg (vRe (z k))
    have q2 := sq_nonneg (vIm (z k))
    show 0 ≤ tsum z k + _
    grind
/-- A sum of k products is near V times the sum of the squares, part by part. -/
structure SumAt (s : Nat × Nat) (X Y T e : Rat) : Prop where
  f : finC s
  re : ab (vRe s - X * T) ≤ e
  im : ab (vIm s - Y * T) ≤ e
/-- One addition of a part. -/
theorem part_step {s q : Nat} {X T t e g : Rat} (fs : fin .f64 s) (fq : fin .f64 q) (h : ab (fv .f64 s - X * T) ≤ e) (hq : ab (fv .f64 q - X * t) ≤ g) (hX : ab X ≤ 2) (hT : 0 ≤ T) (ht : 0 ≤ t) (hT2 : T + t ≤ 2 ^ 60) (he : e ≤ 2 ^ 60) (hg : g ≤ 2 ^ 60) :
    fin .f64 (fo .add .f64 s q) ∧ ab (fv .f64 (fo .add .f64 s q) - X * (T + t)) ≤ (e + g) * (1 + 1 / 2 ^ 50) + (ab X * (T + t)) / 2 ^ 53 + 1 / 2 ^ 200 := by
  obtain ⟨k1, k2, k3⟩ := consts64
  have t1 := ab_add (fv .f64 s - X * T) (fv .f64 q - X * t)
  have e1 : fv .f64 s - X * T + (fv .f64 q - X * t) = fv .f64 s + fv .f64 q - X * (T + t) := by grind
  rw [e1] at t1
  have t2 := ab_tri (fv .f64 s + fv .f64 q) (X * (T + t))
  have hp : ab (X * (T + t)) = ab X * (T + t) := by rw [ab_mul, ab_of_nonneg (x := T + t) (by grind)]
  rw [hp] at t2
  have hb := mul_mono hX hT2 (ab_nonneg X) (by grind)
  have n := ab_nonneg (fv .f64 s + fv .f64 q - X * (T + t))
  have ad := add_spec fs fq (by grind)
  have er := ad.2.1
  rw [k1] at er
  have t3 := ab_add (fv .f64 (fo .add .f64 s q) - (fv .f64 s + fv .f64 q)) (fv .f64 s + fv .f64 q - X * (T + t))
  rw [show fv .f64 (fo .add .f64 s q) - (fv .f64 s + fv .f64 q) + (fv .f64 s + fv .f64 q - X * (T + t)) = fv .f64 (fo .add .f64 s q) - X * (T + t) by grind] at t3
  refine ⟨ad.1, ?_⟩
  clear ad hb hp k1 k3 e1
  generalize ab (fv .f64 s + fv .f64 q - X * (T + t)) = A at *
  generalize ab (fv .f64 s + fv .f64 q) = B at *
  generalize ab (fv .f64 (fo .add .f64 s q) - (fv .f64 s + fv .f64 q)) = C at *
  generalize ab (fv .f64 (fo .add .f64 s q) - X * (T + t)) = D at *
  generalize ab X * (T + t) = P at *
  grind
end Go.Proofs.Ytignncjmbcdpaaa

/-
The quotient of the sums is near the pole. (Plain arithmetic.)
-/
namespace Go.Proofs.Ytignncjmbcdpaaa
open Go Ieee

def eAt (k T U : Rat) : Rat := k * T / 2 ^ 52 + k * U * (11 / 4) / 2 ^ 51 + k / 2 ^ 150
/-- One addition, with the bound that grows. -/
theorem sum_step {s q : Nat × Nat} {X Y k T t U : Rat} (h : SumAt s X Y T (eAt k T U)) (fq : finC q) (h1 : ab (vRe q - X * t) ≤ U * (21 / 8) / 2 ^ 51 + 1 / 2 ^ 160) (h2 : ab (vIm q - Y * t) ≤ U * (21 / 8) / 2 ^ 51 + 1 / 2 ^ 160)
    (hX : ab X ≤ 5 / 4) (hY : ab Y ≤ 5 / 4) (hk : 0 ≤ k) (hk2 : k ≤ 100) (hT : 0 ≤ T) (ht : 0 ≤ t) (hT2 : T + t ≤ 2 ^ 50) (hU : 0 ≤ U) (hU2 : U ≤ 2 ^ 40) :
    SumAt (fo .add .f64 s.1 q.1, fo .add .f64 s.2 q.2) X Y (T + t) (eAt (k + 1) (T + t) U) := by
  have kT := Rat.mul_nonneg hk hT
  have kt := Rat.mul_nonneg hk ht
  have kU := Rat.mul_nonneg hk hU
  have kT2 : k * T ≤ 100 * T := Rat.mul_le_mul_of_nonneg_right hk2 hT
  have kU2 : k * U ≤ 100 * U := Rat.mul_le_mul_of_nonneg_right hk2 hU
  have key : ∀ Z : Rat, ab Z ≤ 5 / 4 → (eAt k T U + (U * (21 / 8) / 2 ^ 51 + 1 / 2 ^ 160)) * (1 + 1 / 2 ^ 50) + (ab Z * (T + t)) / 2 ^ 53 + 1 / 2 ^ 200 ≤ eAt (k + 1) (T + t) U := fun Z hZ => by
    have b := Rat.mul_le_mul_of_nonneg_right hZ (show 0 ≤ T + t by grind)
    unfold eAt
    generalize ab Z * (T + t) = A at *
    grind
  have e60 : eAt k T U ≤ 2 ^ 60 := by unfold eAt; grind
  obtain ⟨r1, r2⟩ := part_step h.f.1 fq.1 h.re h1 (by grind) hT ht (by grind) e60 (by grind)
  obtain ⟨i1, i2⟩ := part_step h.f.2 fq.2 h.im h2 (by grind) hT ht (by grind) e60 (by grind)
  exact ⟨⟨r1, i1⟩, Rat.le_trans r2 (key X hX), Rat.le_trans i2 (key Y hY)⟩
theorem chain2 {z a b g h T : Rat} (t : z ≤ a + b) (ha : a ≤ g) (hb : b ≤ h) (hT : h + g ≤ T) : z ≤ T := by grind
/-- A term of the sum of squares, of the sum with the next. -/
theorem term_sq {p z : Nat × Nat} {R : Rat} (h : RingAt p z R) (hR : R ≤ 2 ^ 20) : finC (prodC z (conjW z)) ∧ ab (vRe (prodC z (conjW z)) - 1 * (vRe z * vRe z + vIm z * vIm z)) ≤ R * R / 2 ^ 51 + 1 / 2 ^ 197 ∧ ab (vIm (prodC z (conjW z)) - 0 * (vRe z * vRe z + vIm z * vIm z)) ≤ R * R / 2 ^ 51 + 1 / 2 ^ 197 := by
  have r0 := h.b.1
  have m := mul_mono hR hR r0 (by grind)
  obtain ⟨f, a, b⟩ := conj_times h.f h.f h.b h.b (by grind)
  refine ⟨f, ?_, ?_⟩
  · rw [Rat.one_mul]; exact a
  · rw [Rat.zero_mul]
    have e : vIm z * vRe z - vRe z * vIm z = 0 := by grind
    rw [e] at b; exact b
theorem term_next {p z : Nat × Nat} {R : Rat} (fp : finC p) (hp : B2 (vRe p) (vIm p) rho) (h : RingAt p z R) (h' : RingAt p (prodC z p) R) (hR : R ≤ 2 ^ 20) :
    finC (prodC (prodC z p) (conjW z)) ∧ ab (vRe (prodC (prodC z p) (conjW z)) - vRe p * (vRe z * vRe z + vIm z * vIm z)) ≤ R * R * (5 / 2) * (1 + 1 / 2 ^ 30) / 2 ^ 51 + 1 / 2 ^ 170 ∧
      ab (vIm (prodC (prodC z p) (conjW z)) - vIm p * (vRe z * vRe z + vIm z * vIm z)) ≤ R * R * (5 / 2) * (1 + 1 / 2 ^ 30) / 2 ^ 51 + 1 / 2 ^ 170 := by
  have r0 := h.b.1
  have m := mul_mono hR hR r0 (by grind)
  have m0 := Rat.mul_nonneg r0 r0
  obtain ⟨_, e1, e2⟩ := ring_step fp hp h (by grind)
  obtain ⟨f, a, b⟩ := conj_times h'.f h.f h'.b h.b (by grind)
  have E := B2.box e1 e2
  have c1 := cauchy E h.b
  have hz : B2 (-vIm z) (vRe z) R := ⟨r0, by have := h.b.2; grind⟩
  have c2 := cauchy E hz
  have q1 : vRe (prodC z p) * vRe z + vIm (prodC z p) * vIm z = vRe p * (vRe z * vRe z + vIm z * vIm z) + ((vRe (prodC z p) - (vRe z * vRe p - vIm z * vIm p)) * vRe z + (vIm (prodC z p) - (vRe z * vIm p + vIm z * vRe p)) * vIm z) := by grind
  have q2 : vIm (prodC z p) * vRe z - vRe (prodC z p) * vIm z = vIm p * (vRe z * vRe z + vIm z * vIm z) + ((vRe (prodC z p) - (vRe z * vRe p - vIm z * vIm p)) * -vIm z + (vIm (prodC z p) - (vRe z * vIm p + vIm z * vRe p)) * vRe z) := by grind
  have hb : (R * rho / 2 ^ 51 + 1 / 2 ^ 197) * (3 / 2) * R + (R * R / 2 ^ 51 + 1 / 2 ^ 197) ≤ R * R * (5 / 2) * (1 + 1 / 2 ^ 30) / 2 ^ 51 + 1 / 2 ^ 170 := by
    unfold rho
    clear E c1 c2 hz q1 q2 a b e1 e2
    grind
  refine ⟨f, ?_, ?_⟩
  · have t := ab_add (vRe (prodC (prodC z p) (conjW z)) - (vRe (prodC z p) * vRe z + vIm (prodC z p) * vIm z)) ((vRe (prodC z p) - (vRe z * vRe p - vIm z * vIm p)) * vRe z + (vIm (prodC z p) - (vRe z * vIm p + vIm z * vRe p)) * vIm z)
    rw [show vRe (prodC (prodC z p) (conjW z)) - (vRe (prodC z p) * vRe z + vIm (prodC z p) * vIm z) + ((vRe (prodC z p) - (vRe z * vRe p - vIm z * vIm p)) * vRe z + (vIm (prodC z p) - (vRe z * vIm p + vIm z * vRe p)) * vIm z) = vRe (prodC (prodC z p) (conjW z)) - vRe p * (vRe z * vRe z + vIm z * vIm z) by rw [q1]; grind] at t
    exact chain2 t a c1 hb
  · have t := ab_add (vIm (prodC (prodC z p) (conjW z)) - (vIm (prodC z p) * vRe z - vRe (prodC z p) * vIm z)) ((vRe (prodC z p) - (vRe z * vRe p - vIm z * vIm p)) * -vIm z + (vIm (prodC z p) - (vRe z * vIm p + vIm z * vRe p)) * vRe z)
    rw [show vIm (prodC (prodC z p) (conjW z)) - (vIm (prodC z p) * vRe z - vRe (prodC z p) * vIm z) + ((vRe (prodC z p) - (vRe z * vRe p - vIm z * vIm p)) * -vIm z + (vIm (prodC z p) - (vRe z * vIm p + vIm z * vRe p)) * vRe z) = vIm (prodC (prodC z p) (conjW z)) - vIm p * (vRe z * vRe z + vIm z * vIm z) by rw [q2]; grind] at t
    exact chain2 t b c2 hb
end Go.Proofs.Ytignncjmbcdpaaa

/-
Least squares: the fitted pole is near the pole. (Plain arithmetic.)
-/
namespace Go.Proofs.Ytignncjmbcdpaaa
open Go Ieee

theorem le_of_mul {x κ d : Rat} (hd : 0 < d) (h : x * d ≤ κ * d) : x ≤ κ := by
  rcases rat_lt_or_le κ x with h1 | h1
  · exfalso
    have := Rat.mul_lt_mul_of_pos_right h1 hd
    grind
  · exact h1
theorem big_ok {T E den : Rat} (hET : E * T ≤ T * T / 2 ^ 43) (hEE : E * E ≤ E * T / 2 ^ 43) (hdlo : T * T * (1 - 1 / 2 ^ 41) ≤ den) (hTT : 0 < T * T) (hET0 : 0 ≤ E * T) : 5 / 2 * E * (T + E) + 5 / 2 * E * E ≤ 501 / 100 / 2 ^ 44 * den := by grind
theorem quot_near {N D : Nat × Nat} {Pr Pi T E : Rat} (hN : SumAt N Pr Pi T E) (hD : SumAt D 1 0 T E) (hT : 1 / 2 ^ 20 ≤ T) (hT2 : T ≤ 2 ^ 50) (hE0 : 0 ≤ E) (hE : E ≤ T / 2 ^ 43) (hP : B2 Pr Pi rho) :
    fin .f64 (quoRe N.1 N.2 D.1 D.2) ∧ fin .f64 (quoIm N.1 N.2 D.1 D.2) ∧ ab (fv .f64 (quoRe N.1 N.2 D.1 D.2) - Pr) ≤ 13 / 2 ^ 45 ∧ ab (fv .f64 (quoIm N.1 N.2 D.1 D.2) - Pi) ≤ 13 / 2 ^ 45 ∧ (feq .f64 D.1 0 && feq .f64 D.2 0) = false := by
  obtain ⟨fN, n1, n2⟩ := hN
  obtain ⟨fD, d1, d2⟩ := hD
  unfold vRe vIm at *
  have fa := fN.1
  have fb := fN.2
  have fc := fD.1
  have fd := fD.2
  obtain ⟨a, ha⟩ : ∃ a, fv .f64 N.1 = a := ⟨_, rfl⟩
  obtain ⟨b, hb⟩ : ∃ b, fv .f64 N.2 = b := ⟨_, rfl⟩
  obtain ⟨c, hc⟩ : ∃ c, fv .f64 D.1 = c := ⟨_, rfl⟩
  obtain ⟨d, hd⟩ : ∃ d, fv .f64 D.2 = d := ⟨_, rfl⟩
  rw [ha] at n1
  rw [hb] at n2
  rw [hc, Rat.one_mul] at d1
  rw [hd, Rat.zero_mul, show d - 0 = d by grind] at d2
  obtain ⟨c1, c2⟩ := le_ab (c - T)
  have hc0 : T - E ≤ c := by grind
  have hc3 : c ≤ T + E := by grind
  have cpos : 0 < c := by grind
  have hden0 : (T - E) * (T - E) ≤ c * c := mul_mono hc0 hc0 (by grind) (by grind)
  have qd := sq_nonneg d
  have hTT : 0 < T * T := Rat.mul_pos (by grind) (by grind)
  have hET : E * T ≤ T * T / 2 ^ 43 := by
    have := Rat.mul_le_mul_of_nonneg_right hE (show 0 ≤ T by grind)
    grind
  have hEE : E * E ≤ E * T / 2 ^ 43 := by
    have := Rat.mul_le_mul_of_nonneg_left hE hE0
    clear n1 n2 d1 d2 c1 c2 hden0 qd hTT hET
    grind
  have hEE0 := Rat.mul_nonneg hE0 hE0
  have hET0 : 0 ≤ E * T := Rat.mul_nonneg hE0 (by grind)
  obtain ⟨den, hden⟩ : ∃ den, c * c + d * d = den := ⟨_, rfl⟩
  have hdlo : T * T * (1 - 1 / 2 ^ 41) ≤ den := by rw [← hden]; grind
  have dpos : 0 < den := by grind
  obtain ⟨X, hX⟩ : ∃ X, (a * c + b * d) / den = X := ⟨_, rfl⟩
  obtain ⟨Y, hY⟩ : ∃ Y, (b * c - a * d) / den = Y := ⟨_, rfl⟩
  have eX : X * den = a * c + b * d := by rw [← hX]; exact Rat.div_mul_cancel (by grind)
  have eY : Y * den = b * c - a * d := by rw [← hY]; exact Rat.div_mul_cancel (by grind)
  -- the pole's parts
  have hPs : ab Pr + ab Pi ≤ 3 / 2 := by
    have s1 := ab_sq Pr
    have s2 := ab_sq Pi
    have s3 := sq_nonneg (ab Pr - ab Pi)
    have h2 := hP.2
    have n1 := ab_nonneg Pr
    have n2 := ab_nonneg Pi
    have := ab_le_of_sq (x := ab Pr + ab Pi) (y := 3 / 2) (by grind) (by unfold rho at h2; grind)
    rwa [ab_of_nonneg (by grind)] at this
  have nr := ab_nonneg Pr
  have ni := ab_nonneg Pi
  have hprE : ab Pr * E + ab Pi * E ≤ 3 / 2 * E := by
    have := Rat.mul_le_mul_of_nonneg_right hPs hE0
    grind
  have hu : ab (a - (Pr * c - Pi * d)) ≤ 5 / 2 * E := by
    have t1 := ab_add (a - Pr * T) (-(Pr * (c - T)) + Pi * d)
    have t2 := ab_add (-(Pr * (c - T))) (Pi * d)
    rw [ab_neg, ab_mul, ab_mul] at t2
    have m1 := Rat.mul_le_mul_of_nonneg_left d1 nr
    have m2 := Rat.mul_le_mul_of_nonneg_left d2 ni
    rw [show a - Pr * T + (-(Pr * (c - T)) + Pi * d) = a - (Pr * c - Pi * d) by grind] at t1
    grind
  have hv : ab (b - (Pr * d + Pi * c)) ≤ 5 / 2 * E := by
    have t1 := ab_add (b - Pi * T) (-(Pi * (c - T)) + -(Pr * d))
    have t2 := ab_add (-(Pi * (c - T))) (-(Pr * d))
    rw [ab_neg, ab_neg, ab_mul, ab_mul] at t2
    have m1 := Rat.mul_le_mul_of_nonneg_left d1 ni
    have m2 := Rat.mul_le_mul_of_nonneg_left d2 nr
    rw [show b - Pi * T + (-(Pi * (c - T)) + -(Pr * d)) = b - (Pr * d + Pi * c) by grind] at t1
    grind
  obtain ⟨u, hu'⟩ : ∃ u, a - (Pr * c - Pi * d) = u := ⟨_, rfl⟩
  obtain ⟨v, hv'⟩ : ∃ v, b - (Pr * d + Pi * c) = v := ⟨_, rfl⟩
  rw [hu'] at hu
  rw [hv'] at hv
  have ac : ab c ≤ T + E := by rw [ab_of_nonneg (by grind)]; exact hc3
  have nu := ab_nonneg u
  have nv := ab_nonneg v
  have big : 5 / 2 * E * (T + E) + 5 / 2 * E * E ≤ 501 / 100 / 2 ^ 44 * den := big_ok hET hEE hdlo hTT hET0
  have m1 := mul_mono hu ac nu (by grind)
  have m2 := mul_mono hv d2 nv hE0
  have m3 := mul_mono hv ac nv (by grind)
  have m4 := mul_mono hu d2 nu hE0
  have hXP : ab (X - Pr) ≤ 501 / 100 / 2 ^ 44 := by
    refine le_of_mul dpos ?_
    have e : (X - Pr) * den = u * c + v * d := by rw [← hu', ← hv', ← hden] at *; grind
    have e2 : ab (X - Pr) * den = ab (u * c + v * d) := by rw [← e, ab_mul, ab_of_nonneg (Rat.le_of_lt dpos)]
    have t := ab_add (u * c) (v * d)
    rw [ab_mul, ab_mul] at t
    rw [e2]
    clear e e2 hX hY eX eY hu' hv' ha hb hc hd
    grind
  have hYP : ab (Y - Pi) ≤ 501 / 100 / 2 ^ 44 := by
    refine le_of_mul dpos ?_
    have e : (Y - Pi) * den = v * c + -(u * d) := by rw [← hu', ← hv', ← hden] at *; grind
    have e2 : ab (Y - Pi) * den = ab (v * c + -(u * d)) := by rw [← e, ab_mul, ab_of_nonneg (Rat.le_of_lt dpos)]
    have t := ab_add (v * c) (-(u * d))
    rw [ab_neg, ab_mul, ab_mul] at t
    rw [e2]
    clear e e2 hX hY eX eY hu' hv' ha hb hc hd hXP
    grind
  obtain ⟨pr1, pr2⟩ := hP.parts
  unfold rho at pr1 pr2
  have tX := ab_tri X Pr
  have tY := ab_tri Y Pi
  have exA : a = X * c - Y * d := by
    have h : (X * c - Y * d) * den = a * den := by
      have : (X * c - Y * d) * den = (X * den) * c - (Y * den) * d := by grind
      rw [this, eX, eY, ← hden]; grind
    exact (Rat.le_antisymm (le_of_mul dpos (by rw [h]; exact Rat.le_refl)) (le_of_mul dpos (by rw [h]; exact Rat.le_refl))).symm
  have exB : b = X * d + Y * c := by
    have h : (X * d + Y * c) * den = b * den := by
      have : (X * d + Y * c) * den = (X * den) * d + (Y * den) * c := by grind
      rw [this, eX, eY, ← hden]; grind
    exact (Rat.le_antisymm (le_of_mul dpos (by rw [h]; exact Rat.le_refl)) (le_of_mul dpos (by rw [h]; exact Rat.le_refl))).symm
  have hlo : pw (-300) ≤ ab c := by
    have h1 : pw (-300) ≤ pw (-20) := pw_mono (by omega)
    have h2 : pw (-20) = 1 / 2 ^ 20 := by unfold pw; grind
    have h3 : 1 / 2 ^ 21 ≤ c := by grind
    have h4 : pw (-300) ≤ pw (-21) := pw_mono (by omega)
    have h5 : pw (-21) = 1 / 2 ^ 21 := by unfold pw; grind
    rw [ab_of_nonneg (by grind)]; grind
  have aA := ab_tri a (Pr * T)
  have aB := ab_tri b (Pi * T)
  have pT1 : ab (Pr * T) ≤ 2 ^ 51 := by
    rw [ab_mul, ab_of_nonneg (x := T) (by grind)]
    have := mul_mono pr1 hT2 nr (by grind)
    grind
  have pT2 : ab (Pi * T) ≤ 2 ^ 51 := by
    rw [ab_mul, ab_of_nonneg (x := T) (by grind)]
    have := mul_mono pr2 hT2 ni (by grind)
    grind
  obtain ⟨⟨g1, g2⟩, g3, g4⟩ := quot_err (X := X) (Y := Y) (M := 9 / 8) fa fb fc fd (.inl (by rw [hc]; exact hlo)) (by rw [hc]; grind) (by rw [hd]; grind) (by grind) (by grind) (by grind) (by rw [ha, hc, hd]; exact exA) (by rw [hb, hc, hd]; exact exB) (by rw [ha]; grind) (by rw [hb]; grind)
  have s1 := ab_add (fv .f64 (quoRe N.1 N.2 D.1 D.2) - X) (X - Pr)
  have s2 := ab_add (fv .f64 (quoIm N.1 N.2 D.1 D.2) - Y) (Y - Pi)
  rw [show fv .f64 (quoRe N.1 N.2 D.1 D.2) - X + (X - Pr) = fv .f64 (quoRe N.1 N.2 D.1 D.2) - Pr by grind] at s1
  rw [show fv .f64 (quoIm N.1 N.2 D.1 D.2) - Y + (Y - Pi) = fv .f64 (quoIm N.1 N.2 D.1 D.2) - Pi by grind] at s2
  refine ⟨g1, g3, by clear s2 g4; grind, by clear s1 g2; grind, ?_⟩
  have hz : feq .f64 D.1 0 = false := by
    cases h : feq .f64 D.1 0
    · rfl
    · have := (feq_iff fc (zero_fin .f64).1).1 h
      rw [hc, (zero_fin .f64).2] at this
      grind
  rw [hz]; rfl
end Go.Proofs.Ytignncjmbcdpaaa

/-
Least squares over the ringing of a mode: all is finite, and the pole is met. (Plain arithmetic.)
-/
namespace Go.Proofs.Ytignncjmbcdpaaa
open Go Ieee

/-- The lists z[1:] and z[:n-1]. -/
def nxt (p a : Nat × Nat) (n : Nat) : List (Nat × Nat) := (zList p a n).drop 1
def fst' (p a : Nat × Nat) (n : Nat) : List (Nat × Nat) := (zList p a n).take (n - 1)
theorem nxt_at {p a : Nat × Nat} {n k : Nat} (h : k < n - 1) : cgetD (nxt p a n) k = zC p a (k + 1) := by
  unfold cgetD nxt zList
  simp only [List.getD, List.getElem?_drop, List.getElem?_map]
  rw [List.getElem?_range (by omega), Nat.add_comm 1 k]
  rfl
theorem fst_at {p a : Nat × Nat} {n k : Nat} (h : k < n - 1) : cgetD (fst' p a n) k = zC p a k := by
  unfold cgetD fst' zList
  simp only [List.getD, List.getElem?_take, if_pos h, List.getElem?_map]
  rw [List.getElem?_range (by omega)]
  rfl
/-- The size of a start. -/
def siz (a : Nat × Nat) : Rat := ab (vRe a) + ab (vIm a)
theorem siz_nonneg (a : Nat × Nat) : 0 ≤ siz a := by
  have := ab_nonneg (vRe a)
  have := ab_nonneg (vIm a)
  unfold siz; grind
structure FitIn (p a : Nat × Nat) : Prop where
  fp : finC p
  fa : finC a
  hp : B2 (vRe p) (vIm p) rho
  hR : siz a ≤ 2 ^ 12
def uU (a : Nat × Nat) : Rat := siz a * siz a + 1 / 2 ^ 100
theorem FitIn.ring {p a : Nat × Nat} (h : FitIn p a) (k : Nat) (hk : k ≤ 100) : RingAt p (zC p a k) (siz a * (1 + 1 / 2 ^ 20) + 1 / 2 ^ 170) := by
  have b : RingAt p a (siz a) := ⟨h.fa, B2.l1 _ _⟩
  have r := ring_all h.fp h.hp b (by have := h.hR; grind) k hk
  have s0 := siz_nonneg a
  have k0 : (0 : Rat) ≤ (k : Rat) := Rat.natCast_nonneg
  have k1 : (k : Rat) ≤ 100 := by
    have := Rat.natCast_le_natCast.2 hk
    simpa using this
  have kR : (k : Rat) * siz a ≤ 100 * siz a := Rat.mul_le_mul_of_nonneg_right k1 s0
  exact ⟨r.f, r.b.le (by grind)⟩
theorem rad_le {R : Rat} (h0 : 0 ≤ R) (h1 : R ≤ 2 ^ 12) : R * (1 + 1 / 2 ^ 20) + 1 / 2 ^ 170 ≤ 2 ^ 20 ∧ (R * (1 + 1 / 2 ^ 20) + 1 / 2 ^ 170) * (R * (1 + 1 / 2 ^ 20) + 1 / 2 ^ 170) ≤ (R * R + 1 / 2 ^ 100) * (1 + 1 / 2 ^ 18) := by
  have q := Rat.mul_nonneg h0 h0
  exact ⟨by grind, by grind⟩
theorem tsum_le {p a : Nat × Nat} (h : FitIn p a) (k : Nat) (hk : k ≤ 100) : tsum (zC p a) k ≤ (k : Rat) * 2 ^ 26 := by
  induction k with
  | zero => show (0 : Rat) ≤ _; simp
  | succ k ih =>
    have i := ih (by omega)
    have r := (h.ring k (by omega)).b.2
    have s0 := siz_nonneg a
    obtain ⟨_, r2⟩ := rad_le s0 h.hR
    have m := mul_mono h.hR h.hR s0 (by grind)
    have ec : ((k + 1 : Nat) : Rat) = (k : Rat) + 1 := by simp
    rw [ec]
    show tsum (zC p a) k + _ ≤ _
    grind
theorem parts54 {x y : Rat} (h : B2 x y rho) : ab x ≤ 5 / 4 ∧ ab y ≤ 5 / 4 := by
  obtain ⟨a, b⟩ := h.parts
  unfold rho at a b
  exact ⟨by grind, by grind⟩
/-- **THE SUMS.** -/
theorem corr_sums {p a : Nat × Nat} (h : FitIn p a) (n : Nat) (hn : n ≤ 100) (k : Nat) (hk : k ≤ n - 1) :
    SumAt (corrW (nxt p a n) (fst' p a n) k) (vRe p) (vIm p) (tsum (zC p a) k) (eAt (k : Rat) (tsum (zC p a) k) (uU a)) ∧
    SumAt (corrW (fst' p a n) (fst' p a n) k) 1 0 (tsum (zC p a) k) (eAt (k : Rat) (tsum (zC p a) k) (uU a)) ∧
    (∀ j, j < k → finC (prodC (cgetD (nxt p a n) j) (conjW (cgetD (fst' p a n) j))) ∧ finC (prodC (cgetD (fst' p a n) j) (conjW (cgetD (fst' p a n) j)))) := by
  have s0 := siz_nonneg a
  obtain ⟨r1, r2⟩ := rad_le s0 h.hR
  have m := mul_mono h.hR h.hR s0 (by grind)
  have U0 : 0 ≤ uU a := by have := Rat.mul_nonneg s0 s0; unfold uU; grind
  have U1 : uU a ≤ 2 ^ 40 := by unfold uU; grind
  obtain ⟨pr, pi⟩ := parts54 h.hp
  induction k with
  | zero =>
    obtain ⟨z1, z2⟩ := zero_fin .f64
    have e : eAt ((0 : Nat) : Rat) (tsum (zC p a) 0) (uU a) = 0 := by unfold eAt; simp; grind
    have e0 : ∀ X : Rat, ab (fv .f64 0 - X * 0) ≤ 0 := fun X => by rw [z2, show (0 : Rat) - X * 0 = 0 by grind, ab_of_nonneg Rat.le_refl]; exact Rat.le_refl
    refine ⟨⟨⟨z1, z1⟩, ?_, ?_⟩, ⟨⟨z1, z1⟩, ?_, ?_⟩, fun j hj => absurd hj (Nat.not_lt_zero _)⟩ <;> (rw [e]; exact e0 _)
  | succ k ih =>
    obtain ⟨i1, i2, i3⟩ := ih (by omega)
    have hk' : k < n - 1 := by omega
    have rk := h.ring k (by omega)
    have rk' : RingAt p (prodC (zC p a k) p) _ := h.ring (k + 1) (by omega)
    have T0 := tsum_nonneg (zC p a) k
    have T1 := tsum_le h (k + 1) (by omega)
    have k0 : (0 : Rat) ≤ (k : Rat) := Rat.natCast_nonneg
    have k1 : (k : Rat) ≤ 100 := by
      have := Rat.natCast_le_natCast.2 (show k ≤ 100 by omega)
      simpa using this
    have k2 : ((k + 1 : Nat) : Rat) ≤ 100 := by
      have := Rat.natCast_le_natCast.2 (show k + 1 ≤ 100 by omega)
      simpa using this
    have ec : ((k + 1 : Nat) : Rat) = (k : Rat) + 1 := by simp
    have q1 := sq_nonneg (vRe (zC p a k))
    have q2 := sq_nonneg (vIm (zC p a k))
    obtain ⟨g1, g2, g3⟩ := term_next h.fp h.hp rk rk' r1
    obtain ⟨d1, d2, d3⟩ := term_sq rk r1
    have b1 : (siz a * (1 + 1 / 2 ^ 20) + 1 / 2 ^ 170) * (siz a * (1 + 1 / 2 ^ 20) + 1 / 2 ^ 170) * (5 / 2) * (1 + 1 / 2 ^ 30) / 2 ^ 51 + 1 / 2 ^ 170 ≤ uU a * (21 / 8) / 2 ^ 51 + 1 / 2 ^ 160 := by
      unfold uU at U0 ⊢
      generalize (siz a * (1 + 1 / 2 ^ 20) + 1 / 2 ^ 170) * (siz a * (1 + 1 / 2 ^ 20) + 1 / 2 ^ 170) = Q at *
      generalize siz a * siz a + 1 / 2 ^ 100 = V at *
      clear g2 g3 d2 d3 i1 i2
      grind
    have b2 : (siz a * (1 + 1 / 2 ^ 20) + 1 / 2 ^ 170) * (siz a * (1 + 1 / 2 ^ 20) + 1 / 2 ^ 170) / 2 ^ 51 + 1 / 2 ^ 197 ≤ uU a * (21 / 8) / 2 ^ 51 + 1 / 2 ^ 160 := by
      unfold uU at U0 ⊢
      generalize (siz a * (1 + 1 / 2 ^ 20) + 1 / 2 ^ 170) * (siz a * (1 + 1 / 2 ^ 20) + 1 / 2 ^ 170) = Q at *
      generalize siz a * siz a + 1 / 2 ^ 100 = V at *
      clear g2 g3 d2 d3 i1 i2
      grind
    have T2 : tsum (zC p a) k + (vRe (zC p a k) * vRe (zC p a k) + vIm (zC p a k) * vIm (zC p a k)) ≤ 2 ^ 50 := by
      have : tsum (zC p a) (k + 1) ≤ 2 ^ 50 := by grind
      exact this
    have s1 := sum_step i1 g1 (Rat.le_trans g2 b1) (Rat.le_trans g3 b1) pr pi k0 k1 T0 (by grind) T2 U0 U1
    have s2 := sum_step i2 d1 (Rat.le_trans d2 b2) (Rat.le_trans d3 b2) (by rw [ab_of_nonneg (by grind)]; grind) (by rw [ab_of_nonneg Rat.le_refl]; grind) k0 k1 T0 (by grind) T2 U0 U1
    have e1 : cgetD (nxt p a n) k = prodC (zC p a k) p := nxt_at hk'
    have e2 := fst_at (p := p) (a := a) hk'
    refine ⟨?_, ?_, fun j hj => ?_⟩
    · rw [ec]
      show SumAt (fo .add .f64 (corrW (nxt p a n) (fst' p a n) k).1 (prodC (cgetD (nxt p a n) k) (conjW (cgetD (fst' p a n) k))).1, _) _ _ _ _
      rw [e1, e2]; exact s1
    · rw [ec]
      show SumAt (fo .add .f64 (corrW (fst' p a n) (fst' p a n) k).1 (prodC (cgetD (fst' p a n) k) (conjW (cgetD (fst' p a n) k))).1, _) _ _ _ _
      rw [e2]; exact s2
    · rcases Nat.lt_succ_iff_lt_or_eq.1 hj with h1 | h1
      · exact i3 j h1
      · subst h1
        rw [e1, e2]; exact ⟨g1, d1⟩
theorem corr_ok {p a : Nat × Nat} (h : FitIn p a) (n : Nat) (hn : n ≤ 100) : CorrOk (nxt p a n) (fst' p a n) (n - 1) ∧ CorrOk (fst' p a n) (fst' p a n) (n - 1) := by
  constructor
  · intro k hk
    obtain ⟨s1, s2, s3⟩ := corr_sums h n hn (k + 1) (by omega)
    exact ⟨(s3 k (by omega)).1, s1.f⟩
  · intro k hk
    obtain ⟨s1, s2, s3⟩ := corr_sums h n hn (k + 1) (by omega)
    exact ⟨(s3 k (by omega)).2, s2.f⟩
/-- **THE FIT.** -/
theorem fit_near {p a : Nat × Nat} (h : FitIn p a) (hlo : 1 / 2 ^ 6 ≤ siz a) (n : Nat) (h2 : 2 ≤ n) (hn : n ≤ 42) :
    fin .f64 (quoRe (corrW (nxt p a n) (fst' p a n) (n - 1)).1 (corrW (nxt p a n) (fst' p a n) (n - 1)).2 (corrW (fst' p a n) (fst' p a n) (n - 1)).1 (corrW (fst' p a n) (fst' p a n) (n - 1)).2) ∧
    fin .f64 (quoIm (corrW (nxt p a n) (fst' p a n) (n - 1)).1 (corrW (nxt p a n) (fst' p a n) (n - 1)).2 (corrW (fst' p a n) (fst' p a n) (n - 1)).1 (corrW (fst' p a n) (fst' p a n) (n - 1)).2) ∧
    ab (fv .f64 (quoRe (corrW (nxt p a n) (fst' p a n) (n - 1)).1 (corrW (nxt p a n) (fst' p a n) (n - 1)).2 (corrW (fst' p a n) (fst' p a n) (n - 1)).1 (corrW (fst' p a n) (fst' p a n) (n - 1)).2) - vRe p) ≤ 13 / 2 ^ 45 ∧
    ab (fv .f64 (quoIm (corrW (nxt p a n) (fst' p a n) (n - 1)).1 (corrW (nxt p a n) (fst' p a n) (n - 1)).2 (corrW (fst' p a n) (fst' p a n) (n - 1)).1 (corrW (fst' p a n) (fst' p a n) (n - 1)).2) - vIm p) ≤ 13 / 2 ^ 45 ∧
    (feq .f64 (corrW (fst' p a n) (fst' p a n) (n - 1)).1 0 && feq .f64 (corrW (fst' p a n) (fst' p a n) (n - 1)).2 0) = false := by
  obtain ⟨s1, s2, _⟩ := corr_sums h n (by omega) (n - 1) (Nat.le_refl _)
  obtain ⟨k, hk⟩ : ∃ k, n - 1 = k + 1 := ⟨n - 2, by omega⟩
  rw [hk] at s1 s2 ⊢
  have T1 := tsum_le h (k + 1) (by omega)
  have k0 : (0 : Rat) ≤ ((k + 1 : Nat) : Rat) := Rat.natCast_nonneg
  have k2 : ((k + 1 : Nat) : Rat) ≤ 41 := by
    have := Rat.natCast_le_natCast.2 (show k + 1 ≤ 41 by omega)
    simpa using this
  have T0 : vRe a * vRe a + vIm a * vIm a ≤ tsum (zC p a) (k + 1) := by
    clear s1 s2 T1 k0 k2 hk
    induction k with
    | zero =>
      show _ ≤ (0 : Rat) + (vRe (zC p a 0) * vRe (zC p a 0) + vIm (zC p a 0) * vIm (zC p a 0))
      show vRe a * vRe a + vIm a * vIm a ≤ (0 : Rat) + (vRe a * vRe a + vIm a * vIm a)
      grind
    | succ k ih =>
      have q1 := sq_nonneg (vRe (zC p a (k + 1)))
      have q2 := sq_nonneg (vIm (zC p a (k + 1)))
      have e : tsum (zC p a) (k + 1 + 1) = tsum (zC p a) (k + 1) + (vRe (zC p a (k + 1)) * vRe (zC p a (k + 1)) + vIm (zC p a (k + 1)) * vIm (zC p a (k + 1))) := rfl
      rw [e]
      grind
  have hsq : siz a * siz a ≤ 2 * tsum (zC p a) (k + 1) := by
    have a1 := ab_sq (vRe a)
    have a2 := ab_sq (vIm a)
    have a3 := sq_nonneg (ab (vRe a) - ab (vIm a))
    unfold siz
    grind
  have hl2 := mul_mono hlo hlo (by grind) (siz_nonneg a)
  generalize tsum (zC p a) (k + 1) = T at *
  have hT : 1 / 2 ^ 20 ≤ T := by grind
  have kT : ((k + 1 : Nat) : Rat) * T ≤ 41 * T := Rat.mul_le_mul_of_nonneg_right k2 (by grind)
  have kT0 : 0 ≤ ((k + 1 : Nat) : Rat) * T := Rat.mul_nonneg k0 (by grind)
  have hU : uU a ≤ 2 * T + T / 2 ^ 70 := by unfold uU; grind
  have U0 : 0 ≤ uU a := by have := Rat.mul_nonneg (siz_nonneg a) (siz_nonneg a); unfold uU; grind
  have kU : ((k + 1 : Nat) : Rat) * uU a ≤ 41 * uU a := Rat.mul_le_mul_of_nonneg_right k2 U0
  have kU0 : 0 ≤ ((k + 1 : Nat) : Rat) * uU a := Rat.mul_nonneg k0 U0
  exact quot_near s1 s2 hT (by grind) (by unfold eAt; grind) (by unfold eAt; grind) h.hp
end Go.Proofs.Ytignncjmbcdpaaa

/-
impl.DivideDouble at finite numbers; impl.FitSquares over the ringing of a mode.
-/
namespace Go.Proofs.Ytignncjmbcdpaaa
open Go Go.RowKit Ieee

/-- What DivideDouble returns of finite numbers. -/
def DivPost (a b c d : Nat) (w : World) (e : Ending) (w' : World) : Prop :=
  ∃ p q t n, e = .returned (.tuple #[.complex .f64 p q, .bool t]) ∧ (fin .f64 p ∧ fin .f64 q ∧ wfk .f64 p ∧ wfk .f64 q) ∧
    ((feq .f64 c 0 && feq .f64 d 0) = false → fin .f64 (quoRe a b c d) → fin .f64 (quoIm a b c d) → p = quoRe a b c d ∧ q = quoIm a b c d ∧ t = true) ∧ w.drewN n = w'
theorem zero64 : fin .f64 0 ∧ wfk .f64 0 := ⟨(zero_fin .f64).1, by show (0 : Nat) < 18446744073709551616; omega⟩
set_option maxRecDepth 100000 in
set_option maxHeartbeats 400000 in
theorem divide_any (a b c d : Nat) (w : World) (fa : fin .f64 a) (fb : fin .f64 b) (fc : fin .f64 c) (fd : fin .f64 d) (wa : wfk .f64 a) (wb : wfk .f64 b) (wc : wfk .f64 c) (wd : wfk .f64 d) :
    Calls Try.prog 80 #[.complex .f64 a b, .complex .f64 c d] w (DivPost a b c d w) := by
  have Ha := Lib.hid (show (finB a && finB b) = true by rw [finB_of fa, finB_of fb]; rfl)
  have Hc := Lib.hid (show (finB c && finB d) = true by rw [finB_of fc, finB_of fd]; rfl)
  clear fa fb fc fd
  cases hz : (feq .f64 c 0 && feq .f64 d 0)
  · have Hz := Lib.hid hz
    clear hz
    go_enter Try.func80, Try.ntmps80
    go_wp2_with fail
    refine (finiteDouble_any a b _ wa wb).mono ?_
    rintro e w' ⟨rfl, rfl⟩
    rw [Ha.out]
    go_wp2_with fail
    refine (finiteDouble_any c d _ wc wd).mono ?_
    rintro e w' ⟨rfl, rfl⟩
    rw [Hc.out]
    go_wp2_with fail
    refine (equalDouble_any c d 0 0 _).mono ?_
    rintro e w' ⟨rfl, rfl⟩
    rw [Hz.out]
    go_wp2_with fail
    refine (quot_any a b c d _ wc wd).mono ?_
    rintro e w' ⟨p, q, n, rfl, h1, h2, w1, w2, rfl⟩
    have P1 := Lib.hid h1
    have P2 := Lib.hid h2
    have W1 := Lib.hid w1
    have W2 := Lib.hid w2
    clear w1 w2 h1 h2
    cases hq : (finB p && finB q)
    · have Hq := Lib.hid hq
      clear hq
      go_wp2_with fail
      refine (finiteDouble_any p q _ W1.out W2.out).mono ?_
      rintro e w' ⟨rfl, rfl⟩
      rw [Hq.out]
      go_wp2_with fail
      go_ret2
      refine ⟨0, 0, false, n, rfl, ⟨zero64.1, zero64.1, zero64.2, zero64.2⟩, fun _ h1 h2 => ?_, rfl⟩
      exfalso
      have e1 : p = quoRe a b c d := nrm_fin_eq (P1.out.trans (nrm_fin h1)) h1
      have e2 : q = quoIm a b c d := nrm_fin_eq (P2.out.trans (nrm_fin h2)) h2
      have := Hq.out
      rw [e1, e2, finB_of h1, finB_of h2] at this
      cases this
    · have Hq := Lib.hid hq
      clear hq
      go_wp2_with fail
      refine (finiteDouble_any p q _ W1.out W2.out).mono ?_
      rintro e w' ⟨rfl, rfl⟩
      rw [Hq.out]
      go_wp2_with fail
      go_ret2
      have h := Hq.out
      rw [Bool.and_eq_true] at h
      exact ⟨p, q, true, n, rfl, ⟨(finB_iff p).1 h.1, (finB_iff q).1 h.2, W1.out, W2.out⟩, fun _ h1 h2 => ⟨nrm_fin_eq (P1.out.trans (nrm_fin h1)) h1, nrm_fin_eq (P2.out.trans (nrm_fin h2)) h2, rfl⟩, rfl⟩
  · have Hz := Lib.hid hz
    clear hz
    go_enter Try.func80, Try.ntmps80
    go_wp2_with fail
    refine (finiteDouble_any a b _ wa wb).mono ?_
    rintro e w' ⟨rfl, rfl⟩
    rw [Ha.out]
    go_wp2_with fail
    refine (finiteDouble_any c d _ wc wd).mono ?_
    rintro e w' ⟨rfl, rfl⟩
    rw [Hc.out]
    go_wp2_with fail
    refine (equalDouble_any c d 0 0 _).mono ?_
    rintro e w' ⟨rfl, rfl⟩
    rw [Hz.out]
    go_wp2_with fail
    go_ret2
    exact ⟨0, 0, false, 0, rfl, ⟨zero64.1, zero64.1, zero64.2, zero64.2⟩, fun h => (by have := Hz.out; rw [h] at this; cases this), World.drewN_zero w⟩

theorem c64s_take (xs : List (Nat × Nat)) (k : Nat) : c64s (xs.take k) = (c64s xs).take k := by simp [c64s, List.map_take]
theorem c64s_drop (xs : List (Nat × Nat)) (k : Nat) : c64s (xs.drop k) = (c64s xs).drop k := by simp [c64s, List.map_drop]
theorem rdV_take {w : World} {A : Option Addr} {xs : List Value} (h : Rd w A xs) (k : Nat) : Rd w A (xs.take k) := fun hl => by
  have hl' : 0 < xs.length := by
    simp only [List.length_take] at hl; omega
  obtain ⟨b, off, e, hb, hc⟩ := h hl'
  refine ⟨b, off, e, hb, fun j u hu => hc j u ?_⟩
  rw [List.getElem?_take] at hu
  split at hu
  · exact hu
  · cases hu
theorem rdV_drop {w : World} {b off : Nat} {xs : List Value} (h : Rd w (some ⟨b, off, none⟩) xs) : Rd w (some ⟨b, off + 1, none⟩) (xs.drop 1) := fun hl => by
  have hl' : 0 < xs.length := by
    simp only [List.length_drop] at hl; omega
  obtain ⟨b', off', e, hb, hc⟩ := h hl'
  injection e with e
  injection e with e1 e2
  subst e1 e2
  refine ⟨b, off + 1, rfl, hb, fun j u hu => ?_⟩
  rw [List.getElem?_drop] at hu
  have := hc (1 + j) u hu
  rw [show off + 1 + j = off + (1 + j) by omega]
  exact this
theorem corrW_lt (xs ys : List (Nat × Nat)) (k : Nat) : wfk .f64 (corrW xs ys k).1 ∧ wfk .f64 (corrW xs ys k).2 := by
  cases k with
  | zero => exact ⟨zero64.2, zero64.2⟩
  | succ k => exact ⟨fo_lt _ _ _ _, fo_lt _ _ _ _⟩

/-- What FitSquares returns over a ringing. -/
def FitPost (p a : Nat × Nat) (n : Nat) (w : World) (e : Ending) (w' : World) : Prop :=
  ∃ q1 q2 t j, e = .returned (.tuple #[.complex .f64 q1 q2, .bool t]) ∧ (fin .f64 q1 ∧ fin .f64 q2 ∧ wfk .f64 q1 ∧ wfk .f64 q2) ∧
    (1 / 2 ^ 6 ≤ siz a → ab (fv .f64 q1 - vRe p) ≤ 13 / 2 ^ 45 ∧ ab (fv .f64 q2 - vIm p) ≤ 13 / 2 ^ 45 ∧ t = true) ∧ w.drewN j = w'
set_option maxRecDepth 100000 in
set_option maxHeartbeats 400000 in
theorem fitSquares_any (p a : Nat × Nat) (g c n : Nat) (w : World) (h : FitIn p a) (h2 : 2 ≤ n) (hn : n ≤ 42) (hc : n ≤ c) (hr : Rd w (some ⟨g, 0, none⟩) (c64s (zList p a n))) :
    Calls Try.prog 47 #[.slice (some ⟨g, 0, none⟩) n c] w (FitPost p a n w) := by
  obtain ⟨k, hk⟩ : ∃ k, n = k + 1 := ⟨n - 1, by omega⟩
  have R1 : Hid (Rd w (some ⟨g, 1, none⟩) (c64s (nxt p a n))) := by
    have := rdV_drop hr
    rw [← c64s_drop] at this
    exact this
  have R2 : Hid (Rd w (some ⟨g, 0, none⟩) (c64s (fst' p a n))) := by
    have := rdV_take hr (n - 1)
    rw [← c64s_take] at this
    exact this
  have L1 : Hid ((nxt p a n).length = k) := by show _ = _; unfold nxt; rw [List.length_drop, zList_len]; omega
  have L2 : Hid ((fst' p a n).length = k) := by show _ = _; unfold fst'; rw [List.length_take, zList_len]; omega
  have ok := corr_ok h n (by omega)
  have nr : 1 / 2 ^ 6 ≤ siz a → _ := fun hlo => fit_near h hlo n h2 hn
  rw [show n - 1 = k by omega] at ok nr
  have OK := Lib.hid ok
  have NR := Lib.hid nr
  have C1 := Lib.hid (corrW_lt (nxt p a n) (fst' p a n) k)
  have C2 := Lib.hid (corrW_lt (fst' p a n) (fst' p a n) k)
  have F1 : Hid (finC (corrW (nxt p a n) (fst' p a n) k) ∧ finC (corrW (fst' p a n) (fst' p a n) k)) := by
    obtain ⟨s1, s2, _⟩ := corr_sums h n (by omega) k (by omega)
    exact ⟨s1.f, s2.f⟩
  have T1 := Lib.hid (fun (j cc dd : Nat) => corr_any (some ⟨g, 1, none⟩) (some ⟨g, 0, none⟩) cc dd k k (nxt p a n) (fst' p a n) (w.drewN j) (R1.out.drewN j) (R2.out.drewN j) L1.out L2.out (by omega) rfl ok.1)
  have T2 := Lib.hid (fun (j cc dd : Nat) => corr_any (some ⟨g, 0, none⟩) (some ⟨g, 0, none⟩) cc dd k k (fst' p a n) (fst' p a n) (w.drewN j) (R2.out.drewN j) (R2.out.drewN j) L2.out L2.out (by omega) rfl ok.2)
  have T3 := Lib.hid (fun W => divide_any (corrW (nxt p a n) (fst' p a n) k).1 (corrW (nxt p a n) (fst' p a n) k).2 (corrW (fst' p a n) (fst' p a n) k).1 (corrW (fst' p a n) (fst' p a n) k).2 W F1.out.1.1 F1.out.1.2 F1.out.2.1 F1.out.2.2 C1.out.1 C1.out.2 C2.out.1 C2.out.2)
  clear ok nr OK C1 C2 F1 R1 R2 L1 L2 h hr
  obtain ⟨N1, hN1⟩ : ∃ x, (corrW (nxt p a n) (fst' p a n) k).1 = x := ⟨_, rfl⟩
  obtain ⟨N2, hN2⟩ : ∃ x, (corrW (nxt p a n) (fst' p a n) k).2 = x := ⟨_, rfl⟩
  obtain ⟨D1, hD1⟩ : ∃ x, (corrW (fst' p a n) (fst' p a n) k).1 = x := ⟨_, rfl⟩
  obtain ⟨D2, hD2⟩ : ∃ x, (corrW (fst' p a n) (fst' p a n) k).2 = x := ⟨_, rfl⟩
  rw [hN1, hN2] at T1
  rw [hD1, hD2] at T2
  rw [hN1, hN2, hD1, hD2] at T3 NR
  clear hN1 hN2 hD1 hD2
  have hk1 : 1 ≤ k := by omega
  have hk2 : ¬ (c = 1) := by omega
  have hsub : (n : Int) - 1 = (k : Int) := by omega
  have hlt : (k : Int) ≤ (c : Int) := by omega
  have hn0 : ((n : Int) == 0) = false := beq_eq_false_iff_ne.2 (by omega)
  have hn1 : (1 : Int) ≤ (n : Int) := by omega
  have hnk : n - 1 = k := by omega
  have HK := Lib.hid hk
  clear hk
  go_enter Try.func47, Try.ntmps47
  go_wp2_with fail
  refine (T1.out 0 _ _).mono ?_
  rintro e w' ⟨rfl, j1, rfl⟩
  go_wp2_with fail
  refine (T2.out j1 _ _).mono ?_
  rintro e w' ⟨rfl, j2, rfl⟩
  go_wp2_with fail
  refine (T3.out _).mono ?_
  intro e w' hp
  unfold DivPost at hp
  obtain ⟨p1, p2, t, j3, rfl, hf, hq, rfl⟩ := hp
  have HF := Lib.hid hf
  have HQ := Lib.hid hq
  clear hf hq
  go_wp2_with fail
  go_ret2
  refine ⟨p1, p2, t, _, rfl, HF.out, fun hlo => ?_, rfl⟩
  obtain ⟨a1, a2, a3, a4, a5⟩ := NR.out hlo
  obtain ⟨q1, q2, q3⟩ := HQ.out a5 a1 a2
  rw [q1, q2]
  exact ⟨a3, a4, q3⟩
end Go.Proofs.Ytignncjmbcdpaaa

/-
impl.widened.
-/
namespace Go.Proofs.Ytignncjmbcdpaaa
open Go Go.RowKit Ieee

set_option maxRecDepth 100000 in
set_option maxHeartbeats 1000000 in
theorem widened_any (A : Option Addr) (c lo hi : Nat) (ms : List MW) (w : World) (h : OwnM w lo hi A c ms) (hh : hi ≤ w.heap.size) (hok : ModesOk ms) (hl : ms.length ≤ 16) :
    Calls Try.prog 109 #[.agg #[.slice A ms.length c]] w fun e w' => ∃ (A' : Option Addr) (c' : Nat), e = .returned (.slice A' ms.length c') ∧ OwnD w' w.heap.size w'.heap.size A' c' (ms.map widM) ∧ Below w.heap.size w w' := by
  have HB : Hid (Below w.heap.size w ((w.alloc (.cells #[.slice A ms.length c] 69)).alloc (.cells #[] 131))) := ((Below.refl w.heap.size w).alloc (Nat.le_refl _) _).alloc (by simp) _
  have H0 := Lib.hid h
  have HK := Lib.hid hok
  have hBd : ((w.alloc (.cells #[.slice A ms.length c] 69)).alloc (.cells #[] 131)).heap[w.heap.size]? = some (.cells #[.slice A ms.length c] 69 (0, 0)) := (Below.heap_alloc _ _ _ (by simp)).trans (heap_alloc_new w _)
  have c0 := cell_of_row _ w.heap.size 0 _ _ (0, 0) hBd
  have own0 : ((w.alloc (.cells #[.slice A ms.length c] 69)).alloc (.cells #[] 131)).ownsRow w.heap.size 131 2 (.slice (some ⟨w.heap.size + 1, 0, none⟩) 0 0) 0 (flatD (([] : List MW).map widM)) := by
    have hn := heap_alloc_new (w.alloc (.cells #[.slice A ms.length c] 69)) (.cells #[] 131)
    refine ⟨by simp [flatD], .inr ⟨w.heap.size + 1, 0, #[], rfl, by omega, by simpa using hn, Nat.le_refl _, by simp [maxLen], by simp, by simp [flatD]⟩⟩
  clear h hok hBd
  go_enter Try.func109, Try.ntmps109
  go_wp2_with fail
  generalize (w.alloc (.cells #[.slice A ms.length c] 69)).alloc (.cells #[] 131) = W at *
  go_loopw [3, 10] (fun v i wr => ∃ (k : Nat) (L : List MW), i = .int .i64 (k : Int) ∧ k ≤ ms.length ∧ Hid (L = ms.take k) ∧ wr.ownsRow w.heap.size 131 2 v k (flatD (L.map widM)) ∧ Below w.heap.size w wr) (fun _ i _ => ms.length - (intOf i).toNat)
  case atStart => exact ⟨0, [], rfl, by omega, rfl, own0, HB.out⟩
  case round =>
    clear own0 c0
    obtain ⟨k, L, rfl, hk, HL, hown, hbel⟩ := hrel
    by_cases hlt : k < ms.length
    · obtain ⟨b, rfl, hb1, hb2, hlc, hmx, hcell⟩ := (H0.out.below hbel hh).cells (by omega)
      obtain ⟨e1, e2⟩ := hcell k hlt
      have hmk := HK.out.at_ hlt
      have HLx : Hid (L ++ [mAt ms k] = ms.take (k + 1)) := by
        show L ++ [mAt ms k] = ms.take (k + 1)
        rw [HL.out, List.take_add_one, List.getElem?_eq_getElem hlt]
        simp [mAt, List.getD, List.getElem?_eq_getElem hlt]
      have hmod : Hid (modeD (widM (mAt ms k)) = [.complex .f64 (wid (mAt ms k).1) (wid (mAt ms k).2.1), .complex .f64 (wid (mAt ms k).2.2.1) (wid (mAt ms k).2.2.2)]) := rfl
      have e1' : wr.cell? ⟨b, k * 2, none⟩ = some (.complex .f32 (mAt ms k).1 (mAt ms k).2.1) := e1
      have e2' : wr.cell? ⟨b, k * 2 + 1, none⟩ = some (.complex .f32 (mAt ms k).2.2.1 (mAt ms k).2.2.2) := e2
      have T1 := Lib.hid (fun W => widenFin_any (mAt ms k).1 (mAt ms k).2.1 W hmk.fa hmk.fb)
      have T2 := Lib.hid (fun W => widenFin_any (mAt ms k).2.2.1 (mAt ms k).2.2.2 W hmk.fc hmk.fd)
      clear e1 e2 hcell hmk
      obtain ⟨a, ha⟩ : ∃ a, (mAt ms k).1 = a := ⟨_, rfl⟩
      obtain ⟨b0, hb⟩ : ∃ b, (mAt ms k).2.1 = b := ⟨_, rfl⟩
      obtain ⟨c0, hc⟩ : ∃ c, (mAt ms k).2.2.1 = c := ⟨_, rfl⟩
      obtain ⟨d0, hd⟩ : ∃ d, (mAt ms k).2.2.2 = d := ⟨_, rfl⟩
      rw [ha, hb] at e1' T1
      rw [hc, hd] at e2' T2
      rw [ha, hb, hc, hd] at hmod
      clear ha hb hc hd
      obtain ⟨a', ha⟩ : ∃ a', wid a = a' := ⟨_, rfl⟩
      obtain ⟨b', hb⟩ : ∃ b', wid b0 = b' := ⟨_, rfl⟩
      obtain ⟨c'', hc⟩ : ∃ c', wid c0 = c' := ⟨_, rfl⟩
      obtain ⟨d', hd⟩ : ∃ d', wid d0 = d' := ⟨_, rfl⟩
      rw [ha, hb] at T1
      rw [hc, hd] at T2
      rw [ha, hb, hc, hd] at hmod
      clear ha hb hc hd
      have hmB : Hid ((wr.alloc (.cells #[.complex .f32 a b0, .complex .f32 c0 d0] 52)).heap[wr.heap.size]? = some (.cells #[.complex .f32 a b0, .complex .f32 c0 d0] 52 (0, 0))) := heap_alloc_new wr _
      have HB1 : Hid (Below w.heap.size w (wr.alloc (.cells #[.complex .f32 a b0, .complex .f32 c0 d0] 52))) := hbel.alloc hbel.size _
      have HO1 : Hid ((wr.alloc (.cells #[.complex .f32 a b0, .complex .f32 c0 d0] 52)).ownsRow w.heap.size 131 2 u3 k (flatD (L.map widM))) := hown.alloc _
      have hms : wr.heap.size < (wr.alloc (.cells #[.complex .f32 a b0, .complex .f32 c0 d0] 52)).heap.size := by simp
      have hNG : Hid (∀ q, (u3 : Value).ownBlock = some q → q < wr.heap.size) := fun q hq => (hown.lt q hq).2
      have hws : w.heap.size ≤ wr.heap.size := hbel.size
      go_wp2_with fail
      generalize wr.alloc (.cells #[.complex .f32 a b0, .complex .f32 c0 d0] 52) = Wa at *
      obtain ⟨m0, m1, _, _⟩ := m_cells hmB.out
      generalize hmm : wr.heap.size = mb at *
      obtain ⟨wr1, hwr1⟩ : ∃ wr1, Wa.drew = wr1 := ⟨_, rfl⟩
      have hS : Wa.drew.cell? ⟨mb, 0, none⟩ = some (.complex .f32 a b0) ∧ Wa.drew.cell? ⟨mb, 1, none⟩ = some (.complex .f32 c0 d0) := ⟨m0, m1⟩
      have HOW : Hid (wr1.ownsRow w.heap.size 131 2 u3 k (flatD (L.map widM))) := by rw [← hwr1]; exact HO1.out
      have HAl : Hid ((wr1.alloc (.cells #[.complex .f64 a' b', .complex .f64 c'' d'] 131)).cell? ⟨mb, 0, none⟩ = some (.complex .f32 a b0) ∧ (wr1.alloc (.cells #[.complex .f64 a' b', .complex .f64 c'' d'] 131)).cell? ⟨mb, 1, none⟩ = some (.complex .f32 c0 d0)) := by
        rw [← hwr1]
        exact ⟨(World.cell?_of_block (Below.heap_alloc Wa.drew _ mb hms)).trans m0, (World.cell?_of_block (Below.heap_alloc Wa.drew _ mb hms)).trans m1⟩
      have BK : Hid (∀ (w4 : World) (gg : Nat), (wr1.alloc (.cells #[.complex .f64 a' b', .complex .f64 c'' d'] 131)).grownBy w4 (u3 : Value).ownBlock → Below w.heap.size w w4 ∧ (w4.cell? ⟨mb, 0, none⟩ = some (.complex .f32 a b0) ∧ w4.cell? ⟨mb, 1, none⟩ = some (.complex .f32 c0 d0))) := fun w4 gg hg => by
        have hsz : wr1.heap.size = Wa.heap.size := by rw [← hwr1]; rfl
        have hne : some mb ≠ (u3 : Value).ownBlock := fun e => by have := hNG.out _ e.symm; omega
        have k4 := hg.block mb (by simp; omega) hne
        have b1 : Below w.heap.size w wr1 := by
          rw [← hwr1]; exact below_drewN HB1.out 1
        refine ⟨(b1.alloc (by have := HB1.out.size; omega) _).grown hg (by have := HB1.out.size; simp; omega) (fun q hq => (HOW.out.lt q hq).1), (World.cell?_of_block k4).trans HAl.out.1, (World.cell?_of_block k4).trans HAl.out.2⟩
      have hb0 : w.heap.size ≤ wr1.heap.size := by rw [← hwr1]; exact HB1.out.size
      clear m0 m1 hown hbel e1' e2'
      refine wp_region_held_drew (S := fun w' => w'.cell? ⟨mb, 0, none⟩ = some (.complex .f32 a b0) ∧ w'.cell? ⟨mb, 1, none⟩ = some (.complex .f32 c0 d0)) (by kernel_rfl) hS (fun hHeld => ?_)
      rw [hwr1] at hHeld ⊢
      refine wpAnyH_take (i := 0) (oi := _) (v := ?_) rfl (by kernel_rfl) (by kernel_rfl) (by kernel_rfl) (fun _ _ _ h => h) (Or.inl ⟨by rfl, ?_⟩) (by assumption) ?_
      rotate_left
      · (intro w hSw; (try dsimp only at hSw); go_simp; try (with_reducible rfl))
      (try simp only [Act.put, List.setIfInBounds_toArray, List.set_cons_zero, List.set_cons_succ])
      refine wpAnyH_take (i := 1) (oi := _) (v := ?_) rfl (by kernel_rfl) (by kernel_rfl) (by kernel_rfl) (fun _ _ _ h => h) (Or.inl ⟨by rfl, ?_⟩) (by assumption) ?_
      rotate_left
      · (intro w hSw; (try dsimp only at hSw); go_simp; try (with_reducible rfl))
      (try simp only [Act.put, List.setIfInBounds_toArray, List.set_cons_zero, List.set_cons_succ])
      refine wpAnyH_take (i := 2) (oi := _) (v := ?_) rfl (by kernel_rfl) (by kernel_rfl) (by kernel_rfl) (fun _ _ _ h => h) (Or.inl ⟨by rfl, ?_⟩) (by assumption) ?_
      rotate_left
      · (intro w hSw; (try dsimp only at hSw); go_simp; try (with_reducible rfl))
      (try simp only [Act.put, List.setIfInBounds_toArray, List.set_cons_zero, List.set_cons_succ])
      refine wpAnyH_take (i := 4) (oi := _) (v := ?_) rfl (by kernel_rfl) (by kernel_rfl) (by kernel_rfl) (fun _ _ _ h => h) (Or.inl ⟨by rfl, ?_⟩) (by assumption) ?_
      rotate_left
      · (intro w hSw; (try dsimp only at hSw); go_simp; try (with_reducible rfl))
      (try simp only [Act.put, List.setIfInBounds_toArray, List.set_cons_zero, List.set_cons_succ])
      refine wpAnyH_take (i := 5) (oi := _) (v := ?_) rfl (by kernel_rfl) (by kernel_rfl) (by kernel_rfl) (fun _ _ _ h => h) (Or.inl ⟨by rfl, ?_⟩) (by assumption) ?_
      rotate_left
      · (intro w hSw; (try dsimp only at hSw); go_simp; try (with_reducible rfl))
      (try simp only [Act.put, List.setIfInBounds_toArray, List.set_cons_zero, List.set_cons_succ])
      refine wpAnyH_ready (rs := [3]) (by kernel_rfl) (by simp) ?_
      refine AllReadyH.cons (o := _) rfl (fun K hK => ?_) AllReadyH.nil
      go_simp
      refine (T1.out wr1).mono ?_
      rintro e w' ⟨rfl, rfl⟩
      go_wp2_with fail
      refine hK.out _ _ ?_ (fun hHelda => ?_)
      · exact hHeld
      clear hK K
      (try simp only [Act.put, List.setIfInBounds_toArray, List.set_cons_zero, List.set_cons_succ])
      refine wpAnyH_ready (rs := [6]) (by kernel_rfl) (by simp) ?_
      refine AllReadyH.cons (o := _) rfl (fun K hK => ?_) AllReadyH.nil
      go_simp
      refine (T2.out wr1).mono ?_
      rintro e w' ⟨rfl, rfl⟩
      go_wp2_with fail
      refine hK.out _ _ ?_ (fun hHeldb => ?_)
      · exact hHeld
      clear hK K
      (try simp only [Act.put, List.setIfInBounds_toArray, List.set_cons_zero, List.set_cons_succ])
      refine wpAnyH_take (i := 7) (oi := _) (v := ?_) rfl (by kernel_rfl) (by kernel_rfl) (by kernel_rfl) (fun _ _ _ h => h) (Or.inl ⟨by rfl, ?_⟩) (by assumption) ?_
      rotate_left
      · (intro w hSw; (try dsimp only at hSw); go_simp; try (with_reducible rfl))
      (try simp only [Act.put, List.setIfInBounds_toArray, List.set_cons_zero, List.set_cons_succ])
      refine wpAnyH_ready (rs := [8]) (by kernel_rfl) (by simp) ?_
      refine AllReadyH.cons (o := _) rfl (fun K hK => ?_) AllReadyH.nil
      go_simp
      refine hK.out _ _ ?_ (fun hHeldc => ?_)
      · exact HAl.out
      clear hK K
      (try simp only [Act.put, List.setIfInBounds_toArray, List.set_cons_zero, List.set_cons_succ])
      obtain ⟨i0, hi0, hz0, hz1, hz2'⟩ := info_parts wide_info
      refine wpAnyH_ready (rs := [9]) (by kernel_rfl) (by simp) ?_
      refine AllReadyH.cons (o := _) rfl (fun K hK => ?_) AllReadyH.nil
      refine step_append_lies _ (by rfl) (.tmp 14) (.tmp 22) 83 (by rfl) w.heap.size 131 i0 _ 2 32 Try.underlying83 hi0 hz0 hz1 hz2' rfl (by omega) u3 k (flatD (L.map widM)) (by rfl) (HOW.out.alloc _) ⟨wr1.heap.size, 0, none⟩ 1 1 [.complex .f64 a' b', .complex .f64 c'' d'] (by rfl) (by rfl) (World.news_of_block (cs := #[.complex .f64 a' b', .complex .f64 c'' d']) (t := 131) (fr := (0, 0)) (heap_alloc_new wr1 _)) (by simp [Value.oneCell']) (by omega) (by simp only [maxLen]; omega) (by omega) (by simp; omega) (wr1.heap.size + 1) (by simp) ?_
      intro gg cap w4 hown4 hgrow hat hlt4
      have B4 := Lib.hid (BK.out w4 gg hgrow)
      refine hK.out _ _ ?_ (fun hHeldd => ?_)
      · exact B4.out.2
      clear hK K
      (try simp only [Act.put, List.setIfInBounds_toArray, List.set_cons_zero, List.set_cons_succ])
      refine wpAnyH_take (i := 10) (oi := _) (v := ?_) rfl (by kernel_rfl) (by kernel_rfl) (by kernel_rfl) (fun _ _ _ h => h) (Or.inl ⟨by rfl, ?_⟩) (by assumption) ?_
      rotate_left
      · (intro w hSw; (try dsimp only at hSw); go_simp; try (with_reducible rfl))
      (try simp only [Act.put, List.setIfInBounds_toArray, List.set_cons_zero, List.set_cons_succ])
      refine wpAnyH_done (by kernel_rfl) ?_ _
      go_wp2_with fail
      go_roundw
      case rel =>
        refine ⟨k + 1, L ++ [mAt ms k], by go_num, by omega, HLx.out, ?_, B4.out.1⟩
        rw [List.map_append, List.map_cons, List.map_nil, ← flatD_snoc, hmod.out]
        exact hown4
      case measure => simp [intOf]; omega
    · have hkn : ms.length = k := by omega
      subst hkn
      have hL : L = ms := by rw [HL.out, List.take_length]
      subst hL
      go_wp2_with fail
      go_ret
      have hv : ∃ A' c', u3 = .slice A' L.length c' := by
        rcases hown.2 with ⟨rfl, h0⟩ | ⟨G, cap', cur', rfl, _⟩
        · exact ⟨none, 0, by rw [h0]⟩
        · exact ⟨_, _, rfl⟩
      obtain ⟨A', c', rfl⟩ := hv
      have hln : (L.map widM).length = L.length := by simp
      refine ⟨A', c', rfl, OwnD.of ?_, hbel⟩
      rw [hln]; exact hown
end Go.Proofs.Ytignncjmbcdpaaa

/-
impl.RingDouble at a valid body.
-/
namespace Go.Proofs.Ytignncjmbcdpaaa
open Go Go.RowKit Ieee

set_option maxRecDepth 100000 in
set_option maxHeartbeats 400000 in
theorem input_any (B : Option Addr) (d pb : Nat) (xs : List Nat) (i : Nat) (w : World) (hc : w.cell? ⟨pb, 0, none⟩ = some (.slice B xs.length d)) (hr : Rd w B (f32s xs)) (hm : xs.length ≤ 1048576) (hi : i ≤ 2000) :
    Calls Try.prog 116 #[.int .i64 i, .pointer (some ⟨pb, 0, none⟩)] w fun e w' => ∃ x m, e = .returned (.float .f64 x) ∧ nrm .f64 x = nrm .f64 (wid (inAt xs i)) ∧ w.drewN m = w' := by
  have T := Lib.hid (element_any B d xs i w hr hm hi)
  obtain ⟨y, hy⟩ : ∃ y, inAt xs i = y := ⟨_, rfl⟩
  rw [hy] at T ⊢
  clear hr hy
  go_enter Try.func116, Try.ntmps116
  go_wp2_with fail
  refine T.out.mono ?_
  rintro e w' ⟨rfl, rfl⟩
  go_wp2_with fail
  go_ret
  exact ⟨_, _, rfl, by rw [nrm_wid, nrm_cv (by decide)], rfl⟩

/-- The inputs of a body in double precision. -/
def inW (xs : List Nat) (i : Nat) : Nat := wid (inAt xs i)
set_option maxRecDepth 100000 in
set_option maxHeartbeats 800000 in
theorem ringDouble_any (A B : Option Addr) (c d lo hi : Nat) (ms : List MW) (xs : List Nat) (n : Nat) (w : World) (h : OwnM w lo hi A c ms) (hh : hi ≤ w.heap.size) (hok : ModesOk ms) (hl : ms.length ≤ 16)
    (hr : Rd w B (f32s xs)) (hm : xs.length ≤ 1048576) (hn : n ≤ 2000) :
    Calls Try.prog 66 #[.agg #[.slice A ms.length c], .slice B xs.length d, .int .i64 n] w fun e w' => ∃ (A' : Option Addr) (c' : Nat) (ys : List Nat), e = .returned (.tuple #[.slice A' ys.length c', .bool true]) ∧
      w'.ownsRow w.heap.size 30 1 (.slice A' ys.length c') ys.length (f64s ys) ∧ RungD (ms.map widM) (inW xs) ys n ∧ Below w.heap.size w w' := by
  have HB : Hid (Below w.heap.size w ((w.alloc (.cells #[.slice A ms.length c] 69)).alloc (.cells #[.slice B xs.length d] 23))) := ((Below.refl w.heap.size w).alloc (Nat.le_refl _) _).alloc (by simp) _
  have H : Hid (OwnM ((w.alloc (.cells #[.slice A ms.length c] 69)).alloc (.cells #[.slice B xs.length d] 23)) lo hi A c ms) := h.below HB.out hh
  have HR : Hid (Rd ((w.alloc (.cells #[.slice A ms.length c] 69)).alloc (.cells #[.slice B xs.length d] 23)) B (f32s xs)) := hr.below HB.out
  have HP : Hid (((w.alloc (.cells #[.slice A ms.length c] 69)).alloc (.cells #[.slice B xs.length d] 23)).heap[w.heap.size]? = some (.cells #[.slice A ms.length c] 69 (0, 0))) :=
    (Below.heap_alloc _ _ _ (by simp)).trans (heap_alloc_new w _)
  have HI : Hid (((w.alloc (.cells #[.slice A ms.length c] 69)).alloc (.cells #[.slice B xs.length d] 23)).heap[w.heap.size + 1]? = some (.cells #[.slice B xs.length d] 23 (0, 0))) := by
    show _ = _
    have := heap_alloc_new (w.alloc (.cells #[.slice A ms.length c] 69)) (.cells #[.slice B xs.length d] 23)
    simpa using this
  have hsz : w.heap.size + 1 < ((w.alloc (.cells #[.slice A ms.length c] 69)).alloc (.cells #[.slice B xs.length d] 23)).heap.size := by simp
  have hin : (decide ((0 : Int) ≤ (n : Int)) && decide ((n : Int) ≤ 2000)) = true := by simp; omega
  have HK := Lib.hid hok
  have c0 := cell_of_row _ w.heap.size 0 _ _ (0, 0) HP.out
  clear h hr hok
  go_enter Try.func66, Try.ntmps66
  go_wp2_with fail
  generalize (w.alloc (.cells #[.slice A ms.length c] 69)).alloc (.cells #[.slice B xs.length d] 23) = W at *
  refine (isBody_any A c lo hi ms _ H.out (by omega) HK.out hl).mono ?_
  rintro e W1 ⟨rfl, hb1⟩
  have hs1 := hb1.size
  have HP1 := Lib.hid ((hb1.block _ (by omega)).trans HP.out)
  have HI1 := Lib.hid ((hb1.block _ (by omega)).trans HI.out)
  have H1 := Lib.hid (H.out.below hb1 (by omega))
  have HR1 := Lib.hid (HR.out.below hb1)
  have HB1 : Hid (Below w.heap.size w W1) := HB.out.trans (hb1.mono (by omega))
  clear c0 H HR HP HI HB hb1
  have c1 := cell_of_row _ w.heap.size 0 _ _ (0, 0) HP1.out
  go_wp2_with fail
  refine (count_any n _).mono ?_
  rintro e w' ⟨rfl, rfl⟩
  rw [hin]
  go_wp2_with fail
  refine (widened_any A c lo hi ms W1 H1.out (by omega) HK.out hl).mono ?_
  rintro e W2 ⟨A2, c2, he, ho2, hb2⟩
  obtain ⟨ds, hds⟩ : ∃ ds, ms.map widM = ds := ⟨_, rfl⟩
  have hdl : ms.length = ds.length := by rw [← hds]; simp
  rw [hds] at ho2
  rw [hdl] at he
  have HDS := Lib.hid hds
  subst he
  have HO2 := Lib.hid ho2
  have HR2 := Lib.hid (HR1.out.below hb2)
  have hs2 := hb2.size
  have HI2 := Lib.hid ((hb2.block _ (by omega)).trans HI1.out)
  have HB2 : Hid (Below w.heap.size w W2) := HB1.out.trans (hb2.mono (by omega))
  have hdl16 : ds.length ≤ 16 := by omega
  clear ho2 hb2 c1 HP1 HI1 H1 HR1 HB1 hds
  go_wp2_with fail
  refine (ring_any A2 c2 _ _ ds (w.heap.size + 1) (inW xs) n W2 HO2.out (Nat.le_refl _) hdl16 hn (fun i W3 hi hb3 => input_any B d (w.heap.size + 1) xs i W3 (cell_of_row W3 (w.heap.size + 1) 0 _ _ (0, 0) ((hb3.block _ (by omega)).trans HI2.out)) (HR2.out.below hb3) hm (by omega))).mono ?_
  rintro e W4 ⟨A4, c4, ys, rfl, ho4, hr4, hb4⟩
  have HO4 := Lib.hid (owns_low (lo' := w.heap.size) ho4 (by omega))
  have HR4 := Lib.hid hr4
  have HB4 : Hid (Below w.heap.size w W4) := HB2.out.trans (hb4.mono (by omega))
  clear ho4 hr4 hb4
  go_wp2_with fail
  go_ret2
  exact ⟨A4, c4, ys, rfl, HO4.out, by rw [HDS.out]; exact HR4.out, HB4.out⟩
end Go.Proofs.Ytignncjmbcdpaaa

/-
One step of a mode in single and in double precision. (Plain arithmetic.)
-/
namespace Go.Proofs.Ytignncjmbcdpaaa
open Go Ieee

theorem nar_err {s r : Nat} {V S : Rat} (fs : fin .f64 s) (he : ab (fv .f64 s - V) ≤ S / 2 ^ 51 + 1 / 2 ^ 197) (hV : ab V ≤ S) (hS : S ≤ 2 ^ 102) (hr : r = nar s) :
    ab (fv .f64 s) ≤ top .f32 ∧ fin .f32 r ∧ ab (fv .f32 r - V) ≤ S * (1 / 2 ^ 24) + S / 2 ^ 16 * (1 / 2 ^ 24) + 1 / 2 ^ 149 * 4 ∧ ab (fv .f32 r) ≤ 2 ^ 104 := by
  obtain ⟨u1, u2, _⟩ := consts32
  have ht2 := top32
  have t := ab_tri (fv .f64 s) V
  have n := ab_nonneg V
  have hb : ab (fv .f64 s) ≤ S + S / 2 ^ 51 + 1 / 2 ^ 197 := by grind
  have htop : ab (fv .f64 s) ≤ top .f32 := by grind
  have h := (nar_ok fs htop).2
  have e := h.2.1
  rw [u1] at e
  have t2 := ab_add (fv .f32 (nar s) - fv .f64 s) (fv .f64 s - V)
  rw [show fv .f32 (nar s) - fv .f64 s + (fv .f64 s - V) = fv .f32 (nar s) - V by grind] at t2
  have t3 := ab_tri (fv .f32 (nar s)) V
  subst hr
  exact ⟨htop, h.1, by grind, by grind⟩
theorem add_err {r g : Nat} {V G S W : Rat} (fr : fin .f32 r) (fg : fin .f32 g) (hr : ab (fv .f32 r - V) ≤ S * (1 / 2 ^ 24) + S / 2 ^ 16 * (1 / 2 ^ 24) + 1 / 2 ^ 149 * 4) (hV : ab V ≤ S) (br : ab (fv .f32 r) ≤ 2 ^ 104)
    (hg : ab (fv .f32 g - G) ≤ 1 / 2 ^ 24 * ab G + 1 / 2 ^ 149) (hG : ab G ≤ W) (bg : ab (fv .f32 g) ≤ 2 ^ 18) :
    fin .f32 (fo .add .f32 r g) ∧ ab (fv .f32 (fo .add .f32 r g) - (V + G)) ≤ (S + W) / 2 ^ 22 + 1 / 2 ^ 146 := by
  obtain ⟨u1, u2, _⟩ := consts32
  have ht2 := top32
  have t := ab_add (fv .f32 r) (fv .f32 g)
  have h := add_spec fr fg (by grind)
  have e := h.2.1
  rw [u1] at e
  have nV := ab_nonneg V
  have nG := ab_nonneg G
  have k := err_add (μ := 1 / 2 ^ 24) (τ := 1 / 2 ^ 149) (by grind) (by grind) (by grind) hr hV hg hG (z := fv .f32 (fo .add .f32 r g)) (by grind) (by grind) (by grind)
  exact ⟨h.1, by grind⟩
theorem s32_step {m : MW} {s : Nat × Nat} {x : Nat} {R : Rat} (hm : ModeOk m.1 m.2.1 m.2.2.1 m.2.2.2) (f1 : fin .f32 s.1) (f2 : fin .f32 s.2) (w1 : wfk .f32 s.1) (w2 : wfk .f32 s.2)
    (hB : B2 (fv .f32 s.1) (fv .f32 s.2) R) (hR : R ≤ 2 ^ 100) (fx : fin .f32 x) (hx : ab (fv .f32 x) ≤ 128) :
    StepOk m s x ∧ ab (fv .f32 (stepW m s x).1 - exRe m (fv .f32 s.1) (fv .f32 s.2) (fv .f32 x)) ≤ (R * rho + gam m * ab (fv .f32 x)) / 2 ^ 22 + 1 / 2 ^ 146 ∧
      ab (fv .f32 (stepW m s x).2 - exIm m (fv .f32 s.1) (fv .f32 s.2) (fv .f32 x)) ≤ (R * rho + gam m * ab (fv .f32 x)) / 2 ^ 22 + 1 / 2 ^ 146 := by
  obtain ⟨a1, a2⟩ := wid_fin f1
  obtain ⟨b1, b2⟩ := wid_fin f2
  have c2 := (wid_fin (fin_of_wid hm.fa)).2
  have d2 := (wid_fin (fin_of_wid hm.fb)).2
  have hP := hm.ball
  obtain ⟨S1, S2⟩ := hB.prods hP
  obtain ⟨t1, t2, t3, t4⟩ := times64 a1 b1 hm.fa hm.fb (by rw [a2, b2]; exact hB) (by rw [c2, d2]; exact hP) hR
  rw [a2, b2, c2, d2] at t3 t4
  have hS : R * rho ≤ 2 ^ 102 := by
    have := hB.1
    unfold rho; grind
  have v1 := ab_add (fv .f32 s.1 * fv .f32 m.1) (-(fv .f32 s.2 * fv .f32 m.2.1))
  rw [ab_neg] at v1
  have v2 := ab_add (fv .f32 s.1 * fv .f32 m.2.1) (fv .f32 s.2 * fv .f32 m.1)
  obtain ⟨p1, p2, p3, p4⟩ := nar_err t1 t3 (by grind) hS (rfl : sRe s.1 s.2 m.1 m.2.1 = _)
  obtain ⟨q1, q2, q3, q4⟩ := nar_err t2 t4 (by grind) hS (rfl : sIm s.1 s.2 m.1 m.2.1 = _)
  obtain ⟨g1, g2, g3⟩ := gain_err (fin_of_wid hm.fc) fx (gain_le hm.fc hm.gain.1) hx
  obtain ⟨h1, h2, h3⟩ := gain_err (fin_of_wid hm.fd) fx (gain_le hm.fd hm.gain.2) hx
  have n1 := ab_nonneg (fv .f32 m.2.2.1)
  have n2 := ab_nonneg (fv .f32 m.2.2.2)
  have n3 := ab_nonneg (fv .f32 x)
  have W1 : ab (fv .f32 m.2.2.1 * fv .f32 x) ≤ gam m * ab (fv .f32 x) := by
    rw [ab_mul]; exact Rat.mul_le_mul_of_nonneg_right (by unfold gam; grind) n3
  have W2 : ab (fv .f32 m.2.2.2 * fv .f32 x) ≤ gam m * ab (fv .f32 x) := by
    rw [ab_mul]; exact Rat.mul_le_mul_of_nonneg_right (by unfold gam; grind) n3
  obtain ⟨z1, z2⟩ := add_err p2 g1 p3 (by grind) p4 g2 W1 g3
  obtain ⟨y1, y2⟩ := add_err q2 h1 q3 (by grind) q4 h2 W2 h3
  refine ⟨⟨⟨t1, t2, p1, q1⟩, w1, w2, g1, h1, z1, y1⟩, ?_, ?_⟩
  · have e : exRe m (fv .f32 s.1) (fv .f32 s.2) (fv .f32 x) = fv .f32 s.1 * fv .f32 m.1 + -(fv .f32 s.2 * fv .f32 m.2.1) + fv .f32 m.2.2.1 * fv .f32 x := by unfold exRe; grind
    rw [e]; exact z2
  · exact y2
theorem gain64 {g x : Nat} (fg : fin .f64 g) (fx : fin .f64 x) (hg : ab (fv .f64 g) ≤ 1024) (hx : ab (fv .f64 x) ≤ 128) :
    fin .f64 (fo .mul .f64 g x) ∧ ab (fv .f64 (fo .mul .f64 g x) - fv .f64 g * fv .f64 x) ≤ 1 / 2 ^ 51 * ab (fv .f64 g * fv .f64 x) + 1 / 2 ^ 199 ∧ ab (fv .f64 (fo .mul .f64 g x)) ≤ 2 ^ 18 := by
  obtain ⟨k1, k2, k3⟩ := consts64
  have h1 := Rat.mul_le_mul_of_nonneg_left hx (ab_nonneg (fv .f64 g))
  have h2 : ab (fv .f64 g * fv .f64 x) ≤ 2 ^ 17 := by rw [ab_mul]; grind
  have hm := mul_spec fg fx (by grind)
  have e := hm.2.1
  rw [k1] at e
  have n := ab_nonneg (fv .f64 g * fv .f64 x)
  have t := ab_tri (fv .f64 (fo .mul .f64 g x)) (fv .f64 g * fv .f64 x)
  exact ⟨hm.1, by grind, by grind⟩
theorem add64_err {r g : Nat} {V G S W : Rat} (fr : fin .f64 r) (fg : fin .f64 g) (hr : ab (fv .f64 r - V) ≤ S / 2 ^ 51 + 1 / 2 ^ 197) (hV : ab V ≤ S) (hS : S ≤ 2 ^ 102)
    (hg : ab (fv .f64 g - G) ≤ 1 / 2 ^ 51 * ab G + 1 / 2 ^ 199) (hG : ab G ≤ W) (bg : ab (fv .f64 g) ≤ 2 ^ 18) :
    fin .f64 (fo .add .f64 r g) ∧ ab (fv .f64 (fo .add .f64 r g) - (V + G)) ≤ (S + W) / 2 ^ 49 + 1 / 2 ^ 196 := by
  obtain ⟨k1, k2, k3⟩ := consts64
  have nV := ab_nonneg V
  have nG := ab_nonneg G
  have t0 := ab_tri (fv .f64 r) V
  have t := ab_add (fv .f64 r) (fv .f64 g)
  have n := ab_nonneg (fv .f64 r + fv .f64 g)
  have h := add_spec fr fg (by grind)
  have e := h.2.1
  rw [k1] at e
  have k := err_add (μ := 1 / 2 ^ 51) (τ := 1 / 2 ^ 199) (S := S) (by grind) (by grind) (by grind) (r := fv .f64 r) (V := V) (by grind) hV hg hG (z := fv .f64 (fo .add .f64 r g)) (by grind) (by grind) (by grind)
  exact ⟨h.1, by grind⟩
theorem s64_step {m : MW} {s : CW} {x : Nat} {R : Rat} (hm : ModeOk m.1 m.2.1 m.2.2.1 m.2.2.2) (f1 : fin .f64 s.1) (f2 : fin .f64 s.2)
    (hB : B2 (fv .f64 s.1) (fv .f64 s.2) R) (hR : R ≤ 2 ^ 100) (fx : fin .f32 x) (hx : ab (fv .f32 x) ≤ 128) :
    fin .f64 (stepD (widM m) s (wid x)).1 ∧ fin .f64 (stepD (widM m) s (wid x)).2 ∧
      ab (fv .f64 (stepD (widM m) s (wid x)).1 - exRe m (fv .f64 s.1) (fv .f64 s.2) (fv .f32 x)) ≤ (R * rho + gam m * ab (fv .f32 x)) / 2 ^ 49 + 1 / 2 ^ 196 ∧
      ab (fv .f64 (stepD (widM m) s (wid x)).2 - exIm m (fv .f64 s.1) (fv .f64 s.2) (fv .f32 x)) ≤ (R * rho + gam m * ab (fv .f32 x)) / 2 ^ 49 + 1 / 2 ^ 196 := by
  have c2 := (wid_fin (fin_of_wid hm.fa)).2
  have d2 := (wid_fin (fin_of_wid hm.fb)).2
  have gc := (wid_fin (fin_of_wid hm.fc)).2
  have gd := (wid_fin (fin_of_wid hm.fd)).2
  obtain ⟨x1, x2⟩ := wid_fin fx
  have hP := hm.ball
  obtain ⟨S1, S2⟩ := hB.prods hP
  obtain ⟨t1, t2, t3, t4⟩ := times64 f1 f2 hm.fa hm.fb hB (by rw [c2, d2]; exact hP) hR
  rw [c2, d2] at t3 t4
  have hS : R * rho ≤ 2 ^ 102 := by
    have := hB.1
    unfold rho; grind
  have v1 := ab_add (fv .f64 s.1 * fv .f32 m.1) (-(fv .f64 s.2 * fv .f32 m.2.1))
  rw [ab_neg] at v1
  have v2 := ab_add (fv .f64 s.1 * fv .f32 m.2.1) (fv .f64 s.2 * fv .f32 m.1)
  obtain ⟨g1, g2, g3⟩ := gain64 hm.fc x1 (by rw [gc]; exact gain_le hm.fc hm.gain.1) (by rw [x2]; exact hx)
  obtain ⟨h1, h2, h3⟩ := gain64 hm.fd x1 (by rw [gd]; exact gain_le hm.fd hm.gain.2) (by rw [x2]; exact hx)
  rw [gc, x2] at g2
  rw [gd, x2] at h2
  have n1 := ab_nonneg (fv .f32 m.2.2.1)
  have n2 := ab_nonneg (fv .f32 m.2.2.2)
  have n3 := ab_nonneg (fv .f32 x)
  have W1 : ab (fv .f32 m.2.2.1 * fv .f32 x) ≤ gam m * ab (fv .f32 x) := by
    rw [ab_mul]; exact Rat.mul_le_mul_of_nonneg_right (by unfold gam; grind) n3
  have W2 : ab (fv .f32 m.2.2.2 * fv .f32 x) ≤ gam m * ab (fv .f32 x) := by
    rw [ab_mul]; exact Rat.mul_le_mul_of_nonneg_right (by unfold gam; grind) n3
  obtain ⟨z1, z2⟩ := add64_err t1 g1 t3 (by grind) hS g2 W1 g3
  obtain ⟨y1, y2⟩ := add64_err t2 h1 t4 (by grind) hS h2 W2 h3
  refine ⟨z1, y1, ?_, y2⟩
  have e : exRe m (fv .f64 s.1) (fv .f64 s.2) (fv .f32 x) = fv .f64 s.1 * fv .f32 m.1 + -(fv .f64 s.2 * fv .f32 m.2.1) + fv .f32 m.2.2.1 * fv .f32 x := by unfold exRe; grind
  rw [e]; exact z2
end Go.Proofs.Ytignncjmbcdpaaa

/-
The states in single precision stay near those in double precision. (Plain arithmetic.)
-/
namespace Go.Proofs.Ytignncjmbcdpaaa
open Go Ieee

/-- After t steps, where the gain times what came in is U. -/
structure Near (s : Nat × Nat) (S : CW) (t U : Rat) : Prop where
  f1 : fin .f32 s.1
  f2 : fin .f32 s.2
  w1 : wfk .f32 s.1
  w2 : wfk .f32 s.2
  F1 : fin .f64 S.1
  F2 : fin .f64 S.2
  b1 : B2 (fv .f32 s.1) (fv .f32 s.2) (U + t * U / 2 ^ 20 + t / 2 ^ 130)
  b2 : B2 (fv .f64 S.1) (fv .f64 S.2) (U + t * U / 2 ^ 20 + t / 2 ^ 130)
  b3 : B2 (fv .f32 s.1 - fv .f64 S.1) (fv .f32 s.2 - fv .f64 S.2) (t * U * (9 / 8) / 2 ^ 21 + t / 2 ^ 120)
theorem near_zero : Near (0, 0) (0, 0) 0 0 := by
  obtain ⟨z1, z2⟩ := zero_fin .f32
  obtain ⟨y1, y2⟩ := zero_fin .f64
  have e : (0 : Rat) + 0 * 0 / 2 ^ 20 + 0 / 2 ^ 130 = 0 := by grind
  have e' : (0 : Rat) * 0 * (9 / 8) / 2 ^ 21 + 0 / 2 ^ 120 = 0 := by grind
  refine ⟨z1, z1, by show (0 : Nat) < 4294967296; omega, by show (0 : Nat) < 4294967296; omega, y1, y1, ?_, ?_, ?_⟩
  · show B2 (fv .f32 0) (fv .f32 0) _
    rw [e, z2]; exact B2.zero
  · show B2 (fv .f64 0) (fv .f64 0) _
    rw [e, y2]; exact B2.zero
  · show B2 (fv .f32 0 - fv .f64 0) (fv .f32 0 - fv .f64 0) _
    rw [e', z2, y2]
    have : (0 : Rat) - 0 = 0 := by grind
    rw [this]; exact B2.zero
theorem ball_of {x y a b R e : Rat} (h : B2 a b R) (hx : ab (x - a) ≤ e) (hy : ab (y - b) ≤ e) : B2 x y (R + e * (3 / 2)) := by
  have := h.add (B2.box hx hy)
  rw [show a + (x - a) = x by grind, show b + (y - b) = y by grind] at this
  exact this
theorem near_step {m : MW} {s : Nat × Nat} {S : CW} {x : Nat} {t U : Rat} (hm : ModeOk m.1 m.2.1 m.2.2.1 m.2.2.2) (h : Near s S t U) (fx : fin .f32 x) (hx : ab (fv .f32 x) ≤ 128) (ht : 0 ≤ t) (ht2 : t ≤ 300) (hU : 0 ≤ U) (hU2 : U ≤ 2 ^ 60) :
    StepOk m s x ∧ Near (stepW m s x) (stepD (widM m) S (wid x)) (t + 1) (U + gam m * ab (fv .f32 x)) := by
  obtain ⟨W, hW⟩ : ∃ W, gam m * ab (fv .f32 x) = W := ⟨_, rfl⟩
  have hW0 : 0 ≤ W := by rw [← hW]; exact Rat.mul_nonneg (gam_nonneg m) (ab_nonneg _)
  have tU0 := Rat.mul_nonneg ht hU
  have tW0 := Rat.mul_nonneg ht hW0
  have tU1 : t * U ≤ 300 * U := Rat.mul_le_mul_of_nonneg_right ht2 hU
  have tW1 : t * W ≤ 300 * W := Rat.mul_le_mul_of_nonneg_right ht2 hW0
  obtain ⟨R, hR⟩ : ∃ R, U + t * U / 2 ^ 20 + t / 2 ^ 130 = R := ⟨_, rfl⟩
  obtain ⟨E, hE⟩ : ∃ E, t * U * (9 / 8) / 2 ^ 21 + t / 2 ^ 120 = E := ⟨_, rfl⟩
  have b1 := h.b1
  have b2 := h.b2
  have b3 := h.b3
  rw [hR] at b1 b2
  rw [hE] at b3
  have hRb : R ≤ 2 ^ 100 := by grind
  obtain ⟨so, e1, e2⟩ := s32_step hm h.f1 h.f2 h.w1 h.w2 b1 hRb fx hx
  obtain ⟨G1, G2, e3, e4⟩ := s64_step hm h.F1 h.F2 b2 hRb fx hx
  have x1 := ex_ball (x := fv .f32 x) hm b1
  have x2 := ex_ball (x := fv .f32 x) hm b2
  rw [hW] at e1 e2 e3 e4 x1 x2
  have r0 : R * rho = R + R / 2 ^ 40 := by unfold rho; grind
  rw [r0] at e1 e2 e3 e4 x1 x2
  have y1 := ball_of x1 e1 e2
  have y2 := ball_of x2 e3 e4
  have d := b3.mul hm.ball
  have r1 : E * rho = E + E / 2 ^ 40 := by unfold rho; grind
  rw [r1] at d
  have d1 : B2 (exRe m (fv .f32 s.1) (fv .f32 s.2) (fv .f32 x) - exRe m (fv .f64 S.1) (fv .f64 S.2) (fv .f32 x)) (exIm m (fv .f32 s.1) (fv .f32 s.2) (fv .f32 x) - exIm m (fv .f64 S.1) (fv .f64 S.2) (fv .f32 x)) (E + E / 2 ^ 40) := by
    have q1 : exRe m (fv .f32 s.1) (fv .f32 s.2) (fv .f32 x) - exRe m (fv .f64 S.1) (fv .f64 S.2) (fv .f32 x) = (fv .f32 s.1 - fv .f64 S.1) * fv .f32 m.1 - (fv .f32 s.2 - fv .f64 S.2) * fv .f32 m.2.1 := by unfold exRe; grind
    have q2 : exIm m (fv .f32 s.1) (fv .f32 s.2) (fv .f32 x) - exIm m (fv .f64 S.1) (fv .f64 S.2) (fv .f32 x) = (fv .f32 s.1 - fv .f64 S.1) * fv .f32 m.2.1 + (fv .f32 s.2 - fv .f64 S.2) * fv .f32 m.1 := by unfold exIm; grind
    rw [q1, q2]; exact d
  have d2 := d1.add ((B2.box e1 e2).add (B2.box e3 e4).neg)
  have hN : Near (stepW m s x) (stepD (widM m) S (wid x)) (t + 1) (U + W) := by
    refine ⟨so.n1, so.n2, fo_lt _ _ _ _, fo_lt _ _ _ _, G1, G2, y1.le ?_, y2.le ?_, ?_⟩
    · rw [← hR]; grind
    · rw [← hR]; grind
    · have e5 : ∀ a b c d : Rat, a - c + ((b - a) + -(d - c)) = b - d := fun a b c d => by grind
      rw [e5, e5] at d2
      refine d2.le ?_
      rw [← hR, ← hE]
      grind
  rw [hW]
  exact ⟨so, hN⟩
end Go.Proofs.Ytignncjmbcdpaaa

/-
The outputs in single precision stay near those in double precision. (Plain arithmetic.)
-/
namespace Go.Proofs.Ytignncjmbcdpaaa
open Go Ieee

/-- Inputs that are finite and at most 128. -/
def LowX (xs : List Nat) : Prop := ∀ i, i < xs.length → fin .f32 (xs.getD i 0) ∧ ab (fv .f32 (xs.getD i 0)) ≤ 128
theorem LowX.at_ {xs : List Nat} (h : LowX xs) (i : Nat) : fin .f32 (inAt xs i) ∧ ab (fv .f32 (inAt xs i)) ≤ 128 := by
  unfold inAt
  split
  · exact h i ‹_›
  · obtain ⟨z1, z2⟩ := zero_fin .f32
    exact ⟨z1, by rw [z2, ab_of_nonneg Rat.le_refl]; grind⟩
/-- The sum of the sizes of the first i inputs. -/
def sumIn (xs : List Nat) : Nat → Rat
  | 0 => 0
  | i + 1 => sumIn xs i + ab (fv .f32 (inAt xs i))
theorem sumIn_nonneg (xs : List Nat) (i : Nat) : 0 ≤ sumIn xs i := by
  induction i with
  | zero => exact Rat.le_refl
  | succ i ih =>
    have := ab_nonneg (fv .f32 (inAt xs i))
    show 0 ≤ sumIn xs i + _
    grind
theorem sumIn_mono (xs : List Nat) {i j : Nat} (h : i ≤ j) : sumIn xs i ≤ sumIn xs j := by
  induction j with
  | zero =>
    obtain rfl : i = 0 := by omega
    exact Rat.le_refl
  | succ j ih =>
    rcases Nat.lt_or_ge j i with h1 | h1
    · obtain rfl : i = j + 1 := by omega
      exact Rat.le_refl
    · have := ab_nonneg (fv .f32 (inAt xs j))
      have h2 := ih h1
      show _ ≤ sumIn xs j + _
      grind
theorem sumIn_le {xs : List Nat} (h : LowX xs) (i : Nat) : sumIn xs i ≤ (i : Rat) * 128 := by
  induction i with
  | zero => show (0 : Rat) ≤ _; simp
  | succ i ih =>
    have := (h.at_ i).2
    have e : ((i + 1 : Nat) : Rat) = (i : Rat) + 1 := by simp
    rw [e]
    show sumIn xs i + _ ≤ _
    grind
theorem gam_le {m : MW} (hm : ModeOk m.1 m.2.1 m.2.2.1 m.2.2.2) : gam m ≤ 2048 := by
  have h1 := gain_le hm.fc hm.gain.1
  have h2 := gain_le hm.fd hm.gain.2
  unfold gam; grind
theorem dAt_map {ms : List MW} {k : Nat} (hk : k < ms.length) : dAt (ms.map widM) k = widM (mAt ms k) := by
  simp [dAt, mAt, List.getD, hk]
theorem near_all {ms : List MW} {xs : List Nat} (hm : ModesOk ms) (hx : LowX xs) (i : Nat) (hi : i ≤ 300) : ∀ k, k < ms.length → Near (sAt (stAt ms xs i) k) (sAt (stD (ms.map widM) (inW xs) i) k) (i : Rat) (gam (mAt ms k) * sumIn xs i) := by
  induction i with
  | zero =>
    intro k hk
    have e0 : sAt (stAt ms xs 0) k = (0, 0) := by simp [stAt, sAt, List.getD, hk]
    have e1 : sAt (stD (ms.map widM) (inW xs) 0) k = (0, 0) := by simp [stD, sAt, List.getD, hk]
    have e2 : gam (mAt ms k) * sumIn xs 0 = 0 := by show _ * (0 : Rat) = 0; grind
    have e3 : ((0 : Nat) : Rat) = 0 := by simp
    rw [e0, e1, e2, e3]
    exact near_zero
  | succ i ih =>
    intro k hk
    have h := ih (by omega) k hk
    have e : sAt (stAt ms xs (i + 1)) k = stepW (mAt ms k) (sAt (stAt ms xs i) k) (inAt xs i) := nextS_at (by rw [stAt_len]; exact hk)
    have e1 : sAt (stD (ms.map widM) (inW xs) (i + 1)) k = stepD (widM (mAt ms k)) (sAt (stD (ms.map widM) (inW xs) i) k) (wid (inAt xs i)) := by
      have := nextD_at (ms := ms.map widM) (x := inW xs i) (i := k) (ss := stD (ms.map widM) (inW xs) i) (by rw [stD_len]; simpa using hk)
      rw [dAt_map hk] at this
      exact this
    have e2 : gam (mAt ms k) * sumIn xs (i + 1) = gam (mAt ms k) * sumIn xs i + gam (mAt ms k) * ab (fv .f32 (inAt xs i)) := by
      show _ * (sumIn xs i + _) = _
      grind
    have e3 : ((i + 1 : Nat) : Rat) = (i : Rat) + 1 := by simp
    rw [e, e1, e2, e3]
    obtain ⟨x1, x2⟩ := hx.at_ i
    have g1 := gam_nonneg (mAt ms k)
    have g2 : gam (mAt ms k) ≤ 2048 := gam_le (hm.at_ hk)
    have s1 := sumIn_nonneg xs i
    have s2 := sumIn_le hx i
    have i1 : (i : Rat) ≤ 300 := by
      have := Rat.natCast_le_natCast.2 (show i ≤ 300 by omega)
      simpa using this
    have i0 : (0 : Rat) ≤ (i : Rat) := Rat.natCast_nonneg
    have u1 := mul_mono g2 (show sumIn xs i ≤ 38400 by grind) g1 (by grind)
    exact (near_step (hm.at_ hk) h x1 x2 i0 i1 (Rat.mul_nonneg g1 s1) (by grind)).2
theorem calm_x {ms : List MW} {xs : List Nat} (hm : ModesOk ms) (hx : LowX xs) (n : Nat) (hn : n ≤ 300) : Calm ms xs n := fun i hi k hk => by
  have h := near_all hm hx i (by omega) k hk
  obtain ⟨x1, x2⟩ := hx.at_ i
  have g1 := gam_nonneg (mAt ms k)
  have g2 : gam (mAt ms k) ≤ 2048 := gam_le (hm.at_ hk)
  have s1 := sumIn_nonneg xs i
  have s2 := sumIn_le hx i
  have i1 : (i : Rat) ≤ 300 := by
    have := Rat.natCast_le_natCast.2 (show i ≤ 300 by omega)
    simpa using this
  have i0 : (0 : Rat) ≤ (i : Rat) := Rat.natCast_nonneg
  have u1 := mul_mono g2 (show sumIn xs i ≤ 38400 by grind) g1 (by grind)
  exact (near_step (hm.at_ hk) h x1 x2 i0 i1 (Rat.mul_nonneg g1 s1) (by grind)).1
/-- The sum of the sizes of the first k gains. -/
def gsum (ms : List MW) : Nat → Rat
  | 0 => 0
  | k + 1 => gsum ms k + gam (mAt ms k)
theorem gsum_nonneg (ms : List MW) (k : Nat) : 0 ≤ gsum ms k := by
  induction k with
  | zero => exact Rat.le_refl
  | succ k ih =>
    have := gam_nonneg (mAt ms k)
    show 0 ≤ gsum ms k + _
    grind
/-- Sums of k outputs after t steps. -/
structure NearO (o O : Nat) (k t V : Rat) : Prop where
  f : fin .f32 o
  w : wfk .f32 o
  F : fin .f64 O
  W : wfk .f64 O
  b1 : ab (fv .f32 o) ≤ V + V / 2 ^ 10 + k * V / 2 ^ 20 + k / 2 ^ 110
  b2 : ab (fv .f64 O) ≤ V + V / 2 ^ 10 + k * V / 2 ^ 20 + k / 2 ^ 110
  b3 : ab (fv .f32 o - fv .f64 O) ≤ t * V * (9 / 8) / 2 ^ 21 + k * V / 2 ^ 22 + k / 2 ^ 110
theorem tiny64 {x y T E : Rat} (h : x ≤ 1 / 2 ^ 53 * y + E) (hy : y ≤ T * 2 + 1 / 2 ^ 100) (hE : E ≤ 1 / 2 ^ 200) (hT : 0 ≤ T) : x ≤ T / 2 ^ 50 + 1 / 2 ^ 130 := by grind
theorem tiny32 {x y T E : Rat} (h : x ≤ 1 / 16777216 * y + E) (hy : y ≤ T * 2 + 1 / 2 ^ 100) (hE : E ≤ 1 / 2 ^ 149) (hT : 0 ≤ T) : x ≤ T / 2 ^ 23 + 1 / 2 ^ 120 := by grind
theorem out_final {t V U k : Rat} (ht2 : t ≤ 300) (hV : 0 ≤ V) (hU : 0 ≤ U) (kU0 : 0 ≤ k * U) :
    (V + U) / 2 ^ 23 + 1 / 2 ^ 120 + (t * V * (9 / 8) / 2 ^ 21 + k * V / 2 ^ 22 + k / 2 ^ 110 + (t * U * (9 / 8) / 2 ^ 21 + t / 2 ^ 120)) + ((V + U) / 2 ^ 50 + 1 / 2 ^ 130) ≤
      t * (V + U) * (9 / 8) / 2 ^ 21 + (k + 1) * (V + U) / 2 ^ 22 + (k + 1) / 2 ^ 110 := by grind
theorem chain4 {z a b c d e f g h i R : Rat} (d3 : z ≤ a + e) (d1 : a ≤ b + c) (d2 : c ≤ d + f) (e3 : b ≤ g) (e4 : e ≤ h) (b3 : d ≤ i) (s3 : f ≤ R) {T : Rat} (hf : g + (i + R) + h ≤ T) : z ≤ T := by grind
theorem nearO_step {o O : Nat} {s : Nat × Nat} {S : CW} {k t V U : Rat} (h : NearO o O k t V) (g : Near s S t U) (hk : 0 ≤ k) (hk2 : k ≤ 16) (ht : 0 ≤ t) (ht2 : t ≤ 300) (hV : 0 ≤ V) (hV2 : V ≤ 2 ^ 60) (hU : 0 ≤ U) (hU2 : U ≤ 2 ^ 60) :
    NearO (fo .add .f32 o s.1) (fo .add .f64 O S.1) (k + 1) t (V + U) := by
  have kV0 := Rat.mul_nonneg hk hV
  have kU0 := Rat.mul_nonneg hk hU
  have tU0 := Rat.mul_nonneg ht hU
  have kV1 : k * V ≤ 16 * V := Rat.mul_le_mul_of_nonneg_right hk2 hV
  have tU1 : t * U ≤ 300 * U := Rat.mul_le_mul_of_nonneg_right ht2 hU
  have s1 := g.b1.parts.1
  have s2 := g.b2.parts.1
  have s3 := g.b3.parts.1
  have b1 := h.b1
  have b2 := h.b2
  have b3 := h.b3
  obtain ⟨u1, u2, _⟩ := consts32
  obtain ⟨k1, k2, k3⟩ := consts64
  have ht3 := top32
  have t1 := ab_add (fv .f32 o) (fv .f32 s.1)
  have t2 := ab_add (fv .f64 O) (fv .f64 S.1)
  have a1 := add_spec h.f g.f1 (by grind)
  have a2 := add_spec h.F g.F1 (by grind)
  have e1 := a1.2.1
  have e2 := a2.2.1
  rw [u1] at e1
  rw [k1] at e2
  have r1 := ab_tri (fv .f32 (fo .add .f32 o s.1)) (fv .f32 o + fv .f32 s.1)
  have r2 := ab_tri (fv .f64 (fo .add .f64 O S.1)) (fv .f64 O + fv .f64 S.1)
  refine ⟨a1.1, fo_lt _ _ _ _, a2.1, fo_lt _ _ _ _, by grind, by grind, ?_⟩
  have d1 := ab_add (fv .f32 (fo .add .f32 o s.1) - (fv .f32 o + fv .f32 s.1)) ((fv .f32 o - fv .f64 O) + (fv .f32 s.1 - fv .f64 S.1))
  have d2 := ab_add (fv .f32 o - fv .f64 O) (fv .f32 s.1 - fv .f64 S.1)
  have d3 := ab_add (fv .f32 (fo .add .f32 o s.1) - (fv .f32 o + fv .f32 s.1) + ((fv .f32 o - fv .f64 O) + (fv .f32 s.1 - fv .f64 S.1))) (-(fv .f64 (fo .add .f64 O S.1) - (fv .f64 O + fv .f64 S.1)))
  rw [ab_neg] at d3
  rw [show fv .f32 (fo .add .f32 o s.1) - (fv .f32 o + fv .f32 s.1) + ((fv .f32 o - fv .f64 O) + (fv .f32 s.1 - fv .f64 S.1)) + -(fv .f64 (fo .add .f64 O S.1) - (fv .f64 O + fv .f64 S.1)) = fv .f32 (fo .add .f32 o s.1) - fv .f64 (fo .add .f64 O S.1) by grind] at d3
  have q1 : ab (fv .f32 o + fv .f32 s.1) ≤ (V + U) * 2 + 1 / 2 ^ 100 := by clear d1 d2 d3 e1 e2 r1 r2; grind
  have q2 : ab (fv .f64 O + fv .f64 S.1) ≤ (V + U) * 2 + 1 / 2 ^ 100 := by clear d1 d2 d3 e1 e2 r1 r2; grind
  have e3 := tiny32 e1 q1 u2 (by grind)
  have e4 := tiny64 e2 q2 k2 (by grind)
  have hf := out_final (k := k) ht2 hV hU kU0
  clear a1 a2 u1 u2 k1 k2 k3 ht3 t1 t2 e1 e2 r1 r2 q1 q2 s1 s2 b1 b2
  exact chain4 d3 d1 d2 e3 e4 b3 s3 hf
end Go.Proofs.Ytignncjmbcdpaaa

/-
The drift of a body against its bound. (Plain arithmetic.)
-/
namespace Go.Proofs.Ytignncjmbcdpaaa
open Go Ieee

theorem nearO_all {ms : List MW} {xs : List Nat} (hm : ModesOk ms) (hl : ms.length ≤ 16) (hx : LowX xs) (i : Nat) (hi : i < 300) : ∀ k : Nat, k ≤ ms.length →
    NearO (outAt ms (stAt ms xs i) (inAt xs i) k) (outD (ms.map widM) (stD (ms.map widM) (inW xs) i) (inW xs i) k) (k : Rat) ((i + 1 : Nat) : Rat) (gsum ms k * sumIn xs (i + 1)) ∧ gsum ms k ≤ (k : Rat) * 2048 := by
  intro k
  induction k with
  | zero =>
    intro _
    obtain ⟨z1, z2⟩ := zero_fin .f32
    obtain ⟨y1, y2⟩ := zero_fin .f64
    have e : gsum ms 0 * sumIn xs (i + 1) = 0 := by show (0 : Rat) * _ = 0; grind
    have e3 : ((0 : Nat) : Rat) = 0 := by simp
    rw [e, e3]
    refine ⟨⟨z1, by show (0 : Nat) < 4294967296; omega, y1, by show (0 : Nat) < 18446744073709551616; omega, ?_, ?_, ?_⟩, by show (0 : Rat) ≤ _; grind⟩
    · show ab (fv .f32 0) ≤ _
      rw [z2, ab_of_nonneg Rat.le_refl]; grind
    · show ab (fv .f64 0) ≤ _
      rw [y2, ab_of_nonneg Rat.le_refl]; grind
    · show ab (fv .f32 0 - fv .f64 0) ≤ _
      rw [z2, y2, show (0 : Rat) - 0 = 0 by grind, ab_of_nonneg Rat.le_refl]; grind
  | succ k ih =>
    intro hk
    obtain ⟨h, hg⟩ := ih (by omega)
    have hn := near_all hm hx (i + 1) (by omega) k (by omega)
    have e : sAt (stAt ms xs (i + 1)) k = stepW (mAt ms k) (sAt (stAt ms xs i) k) (inAt xs i) := nextS_at (by rw [stAt_len]; omega)
    have e1 : sAt (stD (ms.map widM) (inW xs) (i + 1)) k = stepD (dAt (ms.map widM) k) (sAt (stD (ms.map widM) (inW xs) i) k) (inW xs i) :=
      nextD_at (ms := ms.map widM) (x := inW xs i) (i := k) (ss := stD (ms.map widM) (inW xs) i) (by rw [stD_len]; simp; omega)
    rw [e, e1] at hn
    have g1 := gam_nonneg (mAt ms k)
    have g2 : gam (mAt ms k) ≤ 2048 := gam_le (hm.at_ (by omega))
    have s1 := sumIn_nonneg xs (i + 1)
    have s2 := sumIn_le hx (i + 1)
    have i1 : ((i + 1 : Nat) : Rat) ≤ 300 := by
      have := Rat.natCast_le_natCast.2 (show i + 1 ≤ 300 by omega)
      simpa using this
    have i0 : (0 : Rat) ≤ ((i + 1 : Nat) : Rat) := Rat.natCast_nonneg
    have k1 : (k : Rat) ≤ 16 := by
      have := Rat.natCast_le_natCast.2 (show k ≤ 16 by omega)
      simpa using this
    have k0 : (0 : Rat) ≤ (k : Rat) := Rat.natCast_nonneg
    have G0 := gsum_nonneg ms k
    have ec : ((k + 1 : Nat) : Rat) = (k : Rat) + 1 := by simp
    have s3 : sumIn xs (i + 1) ≤ 38400 := by grind
    have u1 := mul_mono g2 s3 g1 (by grind)
    have u2 := mul_mono (show gsum ms k ≤ 32768 by grind) s3 G0 (by grind)
    have ev : gsum ms (k + 1) * sumIn xs (i + 1) = gsum ms k * sumIn xs (i + 1) + gam (mAt ms k) * sumIn xs (i + 1) := by
      show (gsum ms k + gam (mAt ms k)) * _ = _
      grind
    have st := nearO_step h hn k0 k1 i0 i1 (Rat.mul_nonneg G0 s1) (by grind) (Rat.mul_nonneg g1 s1) (by grind)
    rw [ev, ec]
    exact ⟨st, by show gsum ms k + gam (mAt ms k) ≤ _; grind⟩
theorem sumIn_top (xs : List Nat) (i : Nat) : sumIn xs i ≤ sumIn xs xs.length := by
  rcases Nat.lt_or_ge xs.length i with h | h
  · have key : ∀ j, sumIn xs (xs.length + j) = sumIn xs xs.length := by
      intro j
      induction j with
      | zero => rfl
      | succ j ih =>
        have e : inAt xs (xs.length + j) = 0 := by unfold inAt; rw [if_neg (by omega)]
        show sumIn xs (xs.length + j) + ab (fv .f32 (inAt xs (xs.length + j))) = _
        rw [ih, e, (zero_fin .f32).2, ab_of_nonneg Rat.le_refl]; grind
    obtain ⟨j, rfl⟩ : ∃ j, i = xs.length + j := ⟨i - xs.length, by omega⟩
    rw [key]; exact Rat.le_refl
  · exact sumIn_mono xs h

/-- The drift's bound, and the bound of the law. -/
def drBd (ms : List MW) (xs : List Nat) (n : Nat) : Rat := ((n : Rat) + (ms.length : Rat) + 1) * (gsum ms ms.length * sumIn xs xs.length) * (5 / 8) / 2 ^ 20 + 1 / 2 ^ 101
theorem drBd_nonneg (ms : List MW) (xs : List Nat) (n : Nat) : 0 ≤ drBd ms xs n := by
  have a : (0 : Rat) ≤ (n : Rat) := Rat.natCast_nonneg
  have b : (0 : Rat) ≤ (ms.length : Rat) := Rat.natCast_nonneg
  have c := Rat.mul_nonneg (show (0 : Rat) ≤ (n : Rat) + (ms.length : Rat) + 1 by grind) (Rat.mul_nonneg (gsum_nonneg ms ms.length) (sumIn_nonneg xs xs.length))
  unfold drBd; grind
/-- One difference. -/
theorem drift_at {ms : List MW} {xs : List Nat} {n i y Y : Nat} (hm : ModesOk ms) (hl : ms.length ≤ 16) (hx : LowX xs) (hxl : xs.length ≤ 64) (hn : n ≤ 299) (hi : i < n) (hy : nrm .f32 y = outAt ms (stAt ms xs i) (inAt xs i) ms.length)
    (hY : nrm .f64 Y = outD (ms.map widM) (stD (ms.map widM) (inW xs) i) (inW xs i) ms.length) :
    fin .f32 y ∧ fin .f64 Y ∧ fin .f64 (fo .sub .f64 Y (wid y)) ∧ ab (fv .f64 (fo .sub .f64 Y (wid y))) ≤ drBd ms xs n := by
  obtain ⟨h, hg⟩ := nearO_all hm hl hx i (by omega) ms.length (Nat.le_refl _)
  obtain rfl := nrm_fin_eq hy h.f
  obtain rfl := nrm_fin_eq hY h.F
  obtain ⟨V, hV⟩ : ∃ V, gsum ms ms.length * sumIn xs (i + 1) = V := ⟨_, rfl⟩
  obtain ⟨T, hT⟩ : ∃ T, gsum ms ms.length * sumIn xs xs.length = T := ⟨_, rfl⟩
  have G0 := gsum_nonneg ms ms.length
  have hVT : V ≤ T := by rw [← hV, ← hT]; exact Rat.mul_le_mul_of_nonneg_left (sumIn_top xs (i + 1)) G0
  have hV0 : 0 ≤ V := by rw [← hV]; exact Rat.mul_nonneg G0 (sumIn_nonneg _ _)
  have L0 : (0 : Rat) ≤ (ms.length : Rat) := Rat.natCast_nonneg
  have L1 : (ms.length : Rat) ≤ 16 := by
    have := Rat.natCast_le_natCast.2 hl
    simpa using this
  have s2 := sumIn_le hx (i + 1)
  have N1 : ((i + 1 : Nat) : Rat) ≤ (n : Rat) := Rat.natCast_le_natCast.2 (by omega)
  have N2 : (n : Rat) ≤ 299 := by
    have := Rat.natCast_le_natCast.2 hn
    simpa using this
  have I0 : (0 : Rat) ≤ ((i + 1 : Nat) : Rat) := Rat.natCast_nonneg
  have hV2 : V ≤ 2 ^ 60 := by
    have := mul_mono (show gsum ms ms.length ≤ 32768 by grind) (show sumIn xs (i + 1) ≤ 38400 by grind) G0 (by grind)
    rw [← hV]; grind
  have b1 := h.b1
  have b2 := h.b2
  have b3 := h.b3
  rw [hV] at b1 b2 b3
  obtain ⟨w1, w2⟩ := wid_fin h.f
  obtain ⟨k1, k2, k3⟩ := consts64
  have LV : (ms.length : Rat) * V ≤ 16 * V := Rat.mul_le_mul_of_nonneg_right L1 hV0
  have IV : ((i + 1 : Nat) : Rat) * V ≤ (n : Rat) * T := mul_mono N1 hVT I0 (by grind)
  have LT : (ms.length : Rat) * V ≤ (ms.length : Rat) * T := Rat.mul_le_mul_of_nonneg_left hVT L0
  generalize outAt ms (stAt ms xs i) (inAt xs i) ms.length = y at *
  generalize outD (ms.map widM) (stD (ms.map widM) (inW xs) i) (inW xs i) ms.length = Y at *
  have e : fv .f64 Y - fv .f64 (wid y) = -(fv .f32 y - fv .f64 Y) := by rw [w2]; grind
  have hd : ab (fv .f64 Y - fv .f64 (wid y)) = ab (fv .f32 y - fv .f64 Y) := by rw [e, ab_neg]
  have nd := ab_nonneg (fv .f32 y - fv .f64 Y)
  have hb3 : ab (fv .f32 y - fv .f64 Y) ≤ ((n : Rat) * T * (9 / 8) / 2 ^ 21 + (ms.length : Rat) * T / 2 ^ 22 + 1 / 2 ^ 105) := by
    clear b1 b2 k3 k2 k1 hd e; grind
  have IV2 : (n : Rat) * T ≤ 2 ^ 80 := by
    have hT2 : T ≤ 2 ^ 60 := by
      have := mul_mono (show gsum ms ms.length ≤ 32768 by grind) (show sumIn xs xs.length ≤ 2 ^ 40 by
        have a := sumIn_le hx xs.length
        have b : (xs.length : Rat) ≤ 64 := by
          have := Rat.natCast_le_natCast.2 hxl
          simpa using this
        grind) G0 (by grind)
      rw [← hT]; grind
    have := mul_mono N2 hT2 (by grind) (by grind)
    grind
  have sb := sub_spec h.F w1 (by rw [hd]; grind)
  have se := sb.2.1
  rw [hd, k1] at se
  have t := ab_tri (fv .f64 (fo .sub .f64 Y (wid y))) (fv .f64 Y - fv .f64 (wid y))
  rw [hd] at t
  refine ⟨h.f, h.F, sb.1, ?_⟩
  have fin1 : ab (fv .f64 (fo .sub .f64 Y (wid y))) ≤ ((n : Rat) * T * (9 / 8) / 2 ^ 21 + (ms.length : Rat) * T / 2 ^ 22 + 1 / 2 ^ 105) * (1 + 1 / 2 ^ 50) + 1 / 2 ^ 190 := by
    clear b1 b2 b3 IV LT LV hV2; grind
  refine Rat.le_trans fin1 ?_
  have n0 : (0 : Rat) ≤ (n : Rat) := Rat.natCast_nonneg
  have T0 : 0 ≤ T := Rat.le_trans hV0 hVT
  have nT := Rat.mul_nonneg n0 T0
  have lT := Rat.mul_nonneg L0 T0
  unfold drBd
  rw [hT]
  clear fin1 t se sb b1 b2 b3 hb3 IV LT LV IV2
  grind
end Go.Proofs.Ytignncjmbcdpaaa

/-
The law's bound of the drift, as the operations give it. (Plain arithmetic.)
-/
namespace Go.Proofs.Ytignncjmbcdpaaa
open Go Ieee

/-- A sum of nonnegative numbers, accumulated. -/
structure Acc (g : Nat) (G t : Rat) : Prop where
  f : fin .f64 g
  p : 0 ≤ fv .f64 g
  lo : G - t * G / 2 ^ 50 ≤ fv .f64 g + t / 2 ^ 190
  hi : fv .f64 g ≤ 2 * G + 2 * t
theorem acc_zero : Acc 0 0 0 := by
  obtain ⟨z1, z2⟩ := zero_fin .f64
  exact ⟨z1, by rw [z2]; exact Rat.le_refl, by rw [z2]; grind, by rw [z2]; grind⟩
theorem acc_step {g r : Nat} {G S V t : Rat} (h : Acc g G t) (ht : 0 ≤ t) (ht2 : t ≤ 64) (hG : 0 ≤ G) (hG2 : G ≤ 2 ^ 20) (hS : 0 ≤ S) (hS2 : S ≤ 2 ^ 20) (hV : 0 ≤ V) (lo : S - S / 2 ^ 52 ≤ V + 1 / 2 ^ 195) (hi : V ≤ 2 * S + 1)
    (hr : RoundOf .f64 (fv .f64 g + V) r) : Acc r (G + S) (t + 1) := by
  obtain ⟨k1, k2, k3⟩ := consts64
  have l1 := h.lo
  have l2 := h.hi
  have l3 := h.p
  have e := hr.2.1
  rw [k1, ab_of_nonneg (x := fv .f64 g + V) (by grind)] at e
  have a := le_ab (fv .f64 r - (fv .f64 g + V))
  have z := (hr.2.2 0 (zero_fin .f64).1).1 (by rw [(zero_fin .f64).2]; grind)
  rw [(zero_fin .f64).2] at z
  have tG := Rat.mul_nonneg ht hG
  have tS := Rat.mul_nonneg ht hS
  have tG2 : t * G ≤ 64 * G := Rat.mul_le_mul_of_nonneg_right ht2 hG
  have a1 := a.1
  have a2 := a.2
  clear a k1 k3
  refine ⟨hr.1, z, ?_, ?_⟩
  · have e1 : (fv .f64 g + V) - (fv .f64 g + V) / 2 ^ 53 - 1 / 2 ^ 200 ≤ fv .f64 r := by grind
    clear e a1 a2 hi l2 z k2
    grind
  · have e1 : fv .f64 r ≤ (fv .f64 g + V) + (fv .f64 g + V) / 2 ^ 53 + 1 / 2 ^ 200 := by grind
    clear e a1 a2 lo l1 z k2
    grind
theorem Acc.use {g : Nat} {G t : Rat} (h : Acc g G t) (ht : 0 ≤ t) (ht2 : t ≤ 64) (hG : 0 ≤ G) (hG2 : G ≤ 2 ^ 18) : G - G / 2 ^ 40 ≤ fv .f64 g + 1 / 2 ^ 180 ∧ fv .f64 g ≤ 2 ^ 20 := by
  have l1 := h.lo
  have l2 := h.hi
  have tG2 : t * G ≤ 64 * G := Rat.mul_le_mul_of_nonneg_right ht2 hG
  exact ⟨by clear l2; grind, by clear l1; grind⟩
/-- A product of nonnegative numbers is not much less. -/
theorem mul_low {a b : Nat} {T : Rat} (fa : fin .f64 a) (fb : fin .f64 b) (ha : 0 ≤ fv .f64 a) (hb : 0 ≤ fv .f64 b) (hT : fv .f64 a * fv .f64 b ≤ T) (hT2 : T ≤ 2 ^ 100) :
    fin .f64 (fo .mul .f64 a b) ∧ fv .f64 a * fv .f64 b - fv .f64 a * fv .f64 b / 2 ^ 52 - 1 / 2 ^ 200 ≤ fv .f64 (fo .mul .f64 a b) ∧ 0 ≤ fv .f64 (fo .mul .f64 a b) ∧ fv .f64 (fo .mul .f64 a b) ≤ 2 * T + 1 := by
  obtain ⟨k1, k2, k3⟩ := consts64
  have p := Rat.mul_nonneg ha hb
  have e0 := ab_of_nonneg p
  have hm := mul_spec fa fb (by rw [e0]; grind)
  have e := hm.2.1
  rw [k1, e0] at e
  have l := le_ab (fv .f64 (fo .mul .f64 a b) - fv .f64 a * fv .f64 b)
  have z := (hm.2.2 0 (zero_fin .f64).1).1 (by rw [(zero_fin .f64).2]; exact p)
  rw [(zero_fin .f64).2] at z
  exact ⟨hm.1, by grind, z, by grind⟩
theorem rhs_ok {N g s p q d : Nat} {Nr G X : Rat} (fN : fin .f64 N) (vN : fv .f64 N = Nr) (fg : fin .f64 g) (fs : fin .f64 s) (fp : fin .f64 p) (vp : fv .f64 p = 1 / 2 ^ 20) (fq : fin .f64 q) (vq : fv .f64 q = 1 / 2 ^ 100) (fd : fin .f64 d)
    (hN : 1 ≤ Nr) (hN2 : Nr ≤ 400) (hG0 : 0 ≤ G) (hX0 : 0 ≤ X) (g0 : 0 ≤ fv .f64 g) (s0 : 0 ≤ fv .f64 s) (hg : G - G / 2 ^ 40 ≤ fv .f64 g + 1 / 2 ^ 180) (hg2 : fv .f64 g ≤ 2 ^ 20) (hs : X - X / 2 ^ 40 ≤ fv .f64 s + 1 / 2 ^ 180) (hs2 : fv .f64 s ≤ 2 ^ 20)
    (hd : fv .f64 d ≤ Nr * (G * X) * (5 / 8) / 2 ^ 20 + 1 / 2 ^ 101) : fin .f64 (fo .mul .f64 N g) ∧ fin .f64 (fo .mul .f64 (fo .mul .f64 N g) s) ∧ fin .f64 (fo .mul .f64 (fo .mul .f64 (fo .mul .f64 N g) s) p) ∧
      fin .f64 (fo .add .f64 (fo .mul .f64 (fo .mul .f64 (fo .mul .f64 N g) s) p) q) ∧ fle .f64 d (fo .add .f64 (fo .mul .f64 (fo .mul .f64 (fo .mul .f64 N g) s) p) q) = true := by
  have n0 : 0 ≤ fv .f64 N := by rw [vN]; grind
  have gs0 := Rat.mul_nonneg g0 s0
  have b1 : fv .f64 N * fv .f64 g ≤ 2 ^ 30 := by
    have := mul_mono (show fv .f64 N ≤ 400 by rw [vN]; exact hN2) hg2 n0 (by grind)
    grind
  obtain ⟨f1, l1, z1, u1⟩ := mul_low fN fg n0 g0 b1 (by grind)
  have b2 : fv .f64 (fo .mul .f64 N g) * fv .f64 s ≤ 2 ^ 60 := by
    have := mul_mono u1 hs2 z1 (by grind)
    grind
  obtain ⟨f2, l2, z2, u2⟩ := mul_low f1 fs z1 s0 b2 (by grind)
  have b3 : fv .f64 (fo .mul .f64 (fo .mul .f64 N g) s) * fv .f64 p ≤ 2 ^ 62 := by rw [vp]; grind
  obtain ⟨f3, l3, z3, u3⟩ := mul_low f2 fp z2 (by rw [vp]; grind) b3 (by grind)
  rw [vp] at l3
  rw [vN] at l1
  -- the product of all three
  have c1 := Rat.mul_le_mul_of_nonneg_right l1 s0
  have c2 : (G - G / 2 ^ 40) * (X - X / 2 ^ 40) ≤ (fv .f64 g + 1 / 2 ^ 180) * (fv .f64 s + 1 / 2 ^ 180) := mul_mono hg hs (by grind) (by grind)
  have gx := Rat.mul_nonneg hG0 hX0
  have c3 : G * X * (1 - 1 / 2 ^ 38) ≤ fv .f64 g * fv .f64 s + 1 / 2 ^ 150 := by
    have e : (G - G / 2 ^ 40) * (X - X / 2 ^ 40) = G * X * ((1 - 1 / 2 ^ 40) * (1 - 1 / 2 ^ 40)) := by grind
    rw [e] at c2
    grind
  have c4 := Rat.mul_le_mul_of_nonneg_left c3 (show 0 ≤ Nr by grind)
  have ngx := Rat.mul_nonneg (show 0 ≤ Nr by grind) gx
  obtain ⟨k1, k2, k3⟩ := consts64
  have ha : fv .f64 (fo .mul .f64 (fo .mul .f64 (fo .mul .f64 N g) s) p) + fv .f64 q ≤ 2 ^ 70 := by rw [vq]; grind
  have e0 : ab (fv .f64 (fo .mul .f64 (fo .mul .f64 (fo .mul .f64 N g) s) p) + fv .f64 q) = fv .f64 (fo .mul .f64 (fo .mul .f64 (fo .mul .f64 N g) s) p) + fv .f64 q := ab_of_nonneg (by rw [vq]; grind)
  have ad := add_spec f3 fq (by rw [e0]; grind)
  have e := ad.2.1
  rw [e0, k1, vq] at e
  have le := (le_ab (fv .f64 (fo .add .f64 (fo .mul .f64 (fo .mul .f64 (fo .mul .f64 N g) s) p) q) - (fv .f64 (fo .mul .f64 (fo .mul .f64 (fo .mul .f64 N g) s) p) + 1 / 2 ^ 100))).2
  refine ⟨f1, f2, f3, ad.1, (fle_iff fd ad.1).2 ?_⟩
  generalize fv .f64 (fo .add .f64 (fo .mul .f64 (fo .mul .f64 (fo .mul .f64 N g) s) p) q) = R at *
  generalize fv .f64 (fo .mul .f64 (fo .mul .f64 (fo .mul .f64 N g) s) p) = t3 at *
  generalize fv .f64 (fo .mul .f64 (fo .mul .f64 N g) s) = t2 at *
  generalize fv .f64 (fo .mul .f64 N g) = t1 at *
  generalize fv .f64 g = gv at *
  generalize fv .f64 s = sv at *
  clear k1 k3 e0 ha b1 b2 b3 u1 u2 u3 z1 ad f1 f2 f3 hg hs c2 c3 hg2
  have d1 : Nr * (G * X) * (1 - 1 / 2 ^ 37) - sv / 2 ^ 200 - 1 / 2 ^ 141 ≤ t1 * sv := by grind
  have d2 : Nr * (G * X) * (1 - 1 / 2 ^ 36) - 1 / 2 ^ 140 ≤ t2 := by grind
  have d3 : Nr * (G * X) * (1 - 1 / 2 ^ 35) / 2 ^ 20 - 1 / 2 ^ 150 ≤ t3 := by grind
  have d4 : t3 + 1 / 2 ^ 100 - (t3 + 1 / 2 ^ 100) / 2 ^ 50 - 1 / 2 ^ 190 ≤ R := by grind
  have d5 : Nr * (G * X) * (1 - 1 / 2 ^ 34) / 2 ^ 20 + 1 / 2 ^ 101 ≤ R := by clear d1 d2 l1 l2 l3 c1 c4 e le; grind
  clear d1 d2 d3 d4 l1 l2 l3 c1 c4 e le
  grind
end Go.Proofs.Ytignncjmbcdpaaa

/-
impl.DriftOf at a valid body and a small input.
-/
namespace Go.Proofs.Ytignncjmbcdpaaa
open Go Go.RowKit Ieee

theorem f64s_at {ys : List Nat} {k : Nat} (h : k < ys.length) : (f64s ys)[k]? = some (.float .f64 (ys.getD k 0)) := by
  simp [f64s, List.getD, List.getElem?_eq_getElem h]
/-- What one round of the drift needs, its words without a body. -/
theorem drift_pack {ms : List MW} {xs ys Ys : List Nat} {n k : Nat} (hm : ModesOk ms) (hl : ms.length ≤ 16) (hx : LowX xs) (hxl : xs.length ≤ 64) (hn : n ≤ 299) (hk : k < n) (hy : Rung ms xs ys n) (hY : RungD (ms.map widM) (inW xs) Ys n) :
    ∃ y Y Z D Q : Nat, ys.getD k 0 = y ∧ Ys.getD k 0 = Y ∧ (∀ W, cR .f32 y .f64 W = Z) ∧ cN .f32 y .f64 = 0 ∧ (∀ W, fR .sub .f64 Y Z W = D) ∧ wfk .f64 D ∧ abs64 D = Q ∧ Hid (fin .f64 Q ∧ fv .f64 Q ≤ drBd ms xs n) := by
  obtain ⟨f1, f2, f3, f4⟩ := drift_at hm hl hx hxl hn hk (hy.2 k hk).1 (by have h := (hY.2 k hk).1; rw [List.length_map] at h; exact h)
  obtain ⟨q1, q2⟩ := abs64_fin f3
  obtain ⟨w1, w2⟩ := widFin (wid_fin f1).1
  exact ⟨_, _, wid (ys.getD k 0), fo .sub .f64 (Ys.getD k 0) (wid (ys.getD k 0)), _, rfl, rfl, w1, w2, fun W => rnd_eq f3 W, fo_lt _ _ _ _, rfl, q1, by rw [q2]; exact f4⟩

set_option maxRecDepth 100000 in
set_option maxHeartbeats 1000000 in
theorem driftOf_any (A B : Option Addr) (c d lo hi : Nat) (ms : List MW) (xs : List Nat) (n : Nat) (w : World) (h : OwnM w lo hi A c ms) (hh : hi ≤ w.heap.size) (hok : ModesOk ms) (hl : ms.length ≤ 16)
    (hr : Rd w B (f32s xs)) (hn : n ≤ 299) (hx : LowX xs) (hxl : xs.length ≤ 64) :
    Calls Try.prog 57 #[.agg #[.slice A ms.length c], .slice B xs.length d, .int .i64 n] w fun e w' => ∃ r, e = .returned (.tuple #[.float .f64 r, .bool true]) ∧ fin .f64 r ∧ fv .f64 r ≤ drBd ms xs n ∧ Below w.heap.size w w' := by
  have HB : Hid (Below w.heap.size w (w.alloc (.cells #[.slice A ms.length c] 69))) := (Below.refl w.heap.size w).alloc (Nat.le_refl _) _
  have H : Hid (OwnM (w.alloc (.cells #[.slice A ms.length c] 69)) lo hi A c ms) := h.below HB.out hh
  have HR : Hid (Rd (w.alloc (.cells #[.slice A ms.length c] 69)) B (f32s xs)) := hr.below HB.out
  have HP : Hid ((w.alloc (.cells #[.slice A ms.length c] 69)).heap[w.heap.size]? = some (.cells #[.slice A ms.length c] 69 (0, 0))) := heap_alloc_new w _
  have hsz : w.heap.size < (w.alloc (.cells #[.slice A ms.length c] 69)).heap.size := by simp
  have HK := Lib.hid hok
  have HX := Lib.hid hx
  have c0 := cell_of_row _ w.heap.size 0 _ _ (0, 0) HP.out
  clear h hr hok hx
  go_enter Try.func57, Try.ntmps57
  go_wp2_with fail
  generalize w.alloc (.cells #[.slice A ms.length c] 69) = W at *
  refine (ringBody_any A B c d lo hi ms xs n W H.out (by omega) HK.out hl HR.out (by omega) (by omega) (calm_x HK.out HX.out n (by omega))).mono ?_
  rintro e W1 ⟨A1, c1, ys, he, ho1, hr1, hb1⟩
  rw [hr1.1] at he ho1
  subst he
  have hs1 := hb1.size
  have HP1 := Lib.hid ((hb1.block _ hsz).trans HP.out)
  have H1 := Lib.hid (H.out.below hb1 (by omega))
  have HR1 := Lib.hid (HR.out.below hb1)
  have HB1 : Hid (Below w.heap.size w W1) := HB.out.trans (hb1.mono (by omega))
  have RY1 : Hid (Rd W1 A1 (f32s ys)) := by
    obtain ⟨_, _, q, _, rd⟩ := own_rd ho1
    injection q with q1 _ q2
    subst q1 q2
    exact rd
  have HY := Lib.hid hr1
  clear c0 H HR HP HB ho1 hr1 hb1
  have c1' := cell_of_row _ w.heap.size 0 _ _ (0, 0) HP1.out
  go_wp2_with fail
  refine (ringDouble_any A B c d lo hi ms xs n W1 H1.out (by omega) HK.out hl HR1.out (by omega) (by omega)).mono ?_
  rintro e W2 ⟨A2, c2, Ys, he, ho2, hr2, hb2⟩
  rw [hr2.1] at he ho2
  subst he
  have RY2 : Hid (Rd W2 A1 (f32s ys)) := RY1.out.below hb2
  have RZ2 : Hid (Rd W2 A2 (f64s Ys)) := by
    obtain ⟨_, _, q, _, rd⟩ := own_rd ho2
    injection q with q1 _ q2
    subst q1 q2
    exact rd
  have HZ := Lib.hid hr2
  have HB2 : Hid (Below w.heap.size w W2) := HB1.out.trans (hb2.mono (by omega))
  clear c1' H1 HR1 HP1 HB1 ho2 hr2 hb2 RY1
  go_wp2_with fail
  go_loopw [12, 34] (fun mo i wr => ∃ (k r m : Nat), i = .int .i64 (k : Int) ∧ k ≤ n ∧ mo = .float .f64 r ∧ Hid (fin .f64 r ∧ fv .f64 r ≤ drBd ms xs n) ∧ wr = W2.drewN m) (fun _ i _ => n - (intOf i).toNat)
  case atStart => exact ⟨0, 0, 0, rfl, by omega, rfl, ⟨(zero_fin .f64).1, by rw [(zero_fin .f64).2]; exact drBd_nonneg _ _ _⟩, (World.drewN_zero W2).symm⟩
  case round =>
    obtain ⟨k, r, m, rfl, hk, rfl, HM, rfl⟩ := hrel
    by_cases hlt : k < n
    · obtain ⟨b, off, rfl, hbk, hc⟩ := RY2.out (by simp; rw [HY.out.1]; omega)
      obtain ⟨b2, off2, rfl, hbk2, hc2⟩ := RZ2.out (by simp [f64s]; rw [HZ.out.1]; omega)
      have e1 := hc k _ (f32s_at (by rw [HY.out.1]; exact hlt))
      have e2 := hc2 k _ (f64s_at (by rw [HZ.out.1]; exact hlt))
      obtain ⟨y, Y, Z, D, Q, ey, eY, hz, hn0, hd, wd, hq, HQ⟩ := drift_pack HK.out hl HX.out hxl hn hlt HY.out HZ.out
      rw [ey] at e1
      rw [eY] at e2
      clear hc hc2 ey eY
      have T := Lib.hid (fun W => mathAbs_any D W wd)
      rw [hq] at T
      clear wd hq
      cases t : fgt .f64 Q r
      · go_wp2_with fail
        refine (T.out _).mono ?_
        rintro e w' ⟨rfl, rfl⟩
        go_wp2_with fail
        go_roundw
        case rel => exact ⟨k + 1, r, _, by go_num, by omega, rfl, HM.out, rfl⟩
        case measure => simp [intOf]; omega
      · go_wp2_with fail
        refine (T.out _).mono ?_
        rintro e w' ⟨rfl, rfl⟩
        go_wp2_with fail
        go_roundw
        case rel => exact ⟨k + 1, Q, _, by go_num, by omega, rfl, HQ.out, rfl⟩
        case measure => simp [intOf]; omega
    · have hkn : n = k := by omega
      subst hkn
      go_wp2_with fail
      go_ret2
      exact ⟨r, rfl, HM.out.1, HM.out.2, below_drewN HB2.out m⟩
end Go.Proofs.Ytignncjmbcdpaaa

/-
spec.HalfLife at a valid mode.
-/
namespace Go.Proofs.Ytignncjmbcdpaaa
open Go Go.RowKit Ieee

set_option maxRecDepth 100000 in
set_option maxHeartbeats 400000 in
theorem specHalf_any (a b c d : Nat) (most : Int) (w : World) (h : ModeOk a b c d) (h1 : 1 ≤ most) (h2 : most ≤ 2000) :
    Calls Try.prog 37 #[.agg #[.complex .f32 a b, .complex .f32 c d], .int .i64 most] w (HalfPost a b c d most w) := by
  have H := Lib.hid h
  have Z0 := Lib.hid (h.at w 0 (by omega))
  have F1 := Lib.hid (fun w => nrm_fin_eq (nrm_wid c w) (wid_fin (fin_of_wid h.fc)).1)
  have F2 := Lib.hid (fun w => nrm_fin_eq (nrm_wid d w) (wid_fin (fin_of_wid h.fd)).1)
  have hin : (decide ((1 : Int) ≤ most) && decide (most ≤ 2000)) = true := by simp; omega
  clear h
  go_enter Try.func37, Try.ntmps37
  go_wp2_with fail
  have HB : Hid (Below w.heap.size w (w.alloc (.cells #[.complex .f32 a b, .complex .f32 c d] 52))) := (Below.refl w.heap.size w).alloc (Nat.le_refl _) _
  have hm : (w.alloc (.cells #[.complex .f32 a b, .complex .f32 c d] 52)).heap[w.heap.size]? = some (.cells #[.complex .f32 a b, .complex .f32 c d] 52 (0, 0)) := heap_alloc_new w _
  have hlt : w.heap.size < (w.alloc (.cells #[.complex .f32 a b, .complex .f32 c d] 52)).heap.size := by simp
  have HM := Lib.hid hm
  obtain ⟨c0, c1, _, _⟩ := m_cells hm
  clear hm
  generalize w.alloc (.cells #[.complex .f32 a b, .complex .f32 c d] 52) = W at *
  refine (specMode_ok a b c d _ H.out).mono ?_
  rintro e W2 ⟨rfl, hb⟩
  have HM2 : Hid (W2.heap[w.heap.size]? = some (.cells #[.complex .f32 a b, .complex .f32 c d] 52 (0, 0))) := (hb.block w.heap.size hlt).trans HM.out
  have HB2 : Hid (Below w.heap.size w W2) := HB.out.trans (hb.mono (by omega))
  obtain ⟨d0, d1, _, _⟩ := m_cells HM2.out
  clear hb c0 c1 HB HM hlt
  go_wp2_with fail
  refine (l1In_any most 1 2000 _).mono ?_
  rintro e w' ⟨rfl, rfl⟩
  rw [hin]
  go_wp2_with fail
  go_loopw [6, 7] (fun z i wr => ∃ (n x y m : Nat), z = .complex .f32 x y ∧ i = .int .i64 ((n : Int) + 1) ∧ (n : Int) ≤ most ∧ Hid ((x, y) = zAt a b c d n) ∧ Hid (∀ j : Nat, 1 ≤ j → j ≤ n → halved a b c d j = false) ∧ wr = W2.drewN m) (fun _ i _ => (most + 1 - intOf i).toNat)
  case atStart => exact ⟨0, c, d, 0, rfl, rfl, by omega, rfl, fun j j1 j2 => by omega, rfl⟩
  case round =>
    obtain ⟨n, x, y, m, rfl, rfl, hn, hz, hno, rfl⟩ := hrel
    by_cases hj : (n : Int) < most
    · have Z1 : Hid (ZOk a b x y) := by have := H.out.at w n (by omega); rw [← hz.out] at this; exact this
      have hz2 : Hid ((sRe x y a b, sIm x y a b) = zAt a b c d (n + 1)) := by rw [zAt_succ, ← hz.out]; rfl
      have Z2 : Hid (ZOk a b (sRe x y a b) (sIm x y a b)) := by have := H.out.at w (n + 1) (by omega); rw [← hz2.out] at this; exact this
      have G1 := Lib.hid (fun w => nrm_fin_eq (nrm_wid (sRe x y a b) w) (wid_fin Z2.out.fx).1)
      have G2 := Lib.hid (fun w => nrm_fin_eq (nrm_wid (sIm x y a b) w) (wid_fin Z2.out.fy).1)
      have T0 := Lib.hid (halved_test Z2.out hz2.out)
      go_wp2_with fail
      refine (specSingle_any x y a b _ Z1.out.mild).mono ?_
      rintro e w' ⟨n3, rfl, rfl⟩
      have F1' := F1.out
      have F2' := F2.out
      have G1' := G1.out
      have G2' := G2.out
      go_wp2_with fail
      have M := Lib.hid (fun w => rnd_eq (op := .mul) (size_ok Z2.out).2.2 w)
      have S1 := Lib.hid (fun W => (sizeS_any (sRe x y a b) (sIm x y a b) _ _ W Z2.out rfl rfl).mono fun e w' h => (by
        obtain ⟨n, rfl, rfl⟩ := h; exact ⟨rfl, n, rfl⟩ : e = .returned (.float .f64 (sizeZ (sRe x y a b, sIm x y a b))) ∧ ∃ j, W.drewN j = w'))
      have S0 := Lib.hid (fun W => (sizeS_any c d _ _ W Z0.out rfl rfl).mono fun e w' h => (by
        obtain ⟨n, rfl, rfl⟩ := h; exact ⟨rfl, n, rfl⟩ : e = .returned (.float .f64 (sizeZ (c, d))) ∧ ∃ j, W.drewN j = w'))
      have M' := M.out
      have T1 : fle .f64 (fo .mul .f64 4611686018427387904 (sizeZ (sRe x y a b, sIm x y a b))) (sizeZ (c, d)) = halved a b c d (n + 1) := by rw [← T0.out w, M.out]
      cases t : halved a b c d (n + 1) <;> rw [t] at T1
      all_goals
        have N := Lib.hid t
        clear t
        refine wp_region_rx (by kernel_rfl) (by kernel_rfl) ?_; apply Exists.intro
        repeat (first | (apply wpR_val; intro K hK; go_simp; refine ⟨rfl, hK _ ?_⟩; clear hK K) | (apply wpR_skip; intro K hK; go_simp; refine hK _ ?_; clear hK K))
        apply wpR_val (v := .float .f64 (sizeZ (sRe x y a b, sIm x y a b))); intro K hK; go_simp; refine ⟨fun m => rcall (S1.out _), hK _ ?_⟩; clear hK K
        repeat (first | (apply wpR_val; intro K hK; go_simp; refine ⟨rfl, hK _ ?_⟩; clear hK K) | (apply wpR_skip; intro K hK; go_simp; refine hK _ ?_; clear hK K))
        apply wpR_val (v := .float .f64 (sizeZ (c, d))); intro K hK; go_simp; refine ⟨fun m => rcall (S0.out _), hK _ ?_⟩; clear hK K
        repeat (first | (apply wpR_val; intro K hK; go_simp; refine ⟨rfl, hK _ ?_⟩; clear hK K) | (apply wpR_skip; intro K hK; go_simp; refine hK _ ?_; clear hK K))
        apply wpR_nil (Rs := []); rintro _ ⟨nq, rfl⟩
        go_wp2_with fail
      · go_roundw
        case rel => exact ⟨n + 1, _, _, _, rfl, by go_num, by omega, hz2, fun j j1 j2 => (by
          rcases Nat.lt_or_ge n j with h | h
          · obtain rfl : j = n + 1 := by omega
            exact N.out
          · exact hno.out j j1 h), rfl⟩
        case measure => simp [intOf]; omega
      · go_ret2
        unfold HalfPost
        exact ⟨_, _, rfl, .inl ⟨rfl, by omega, by omega, by rw [show ((n : Int) + 1).toNat = n + 1 by omega]; exact N.out, fun j j1 j2 => hno.out j j1 (by omega)⟩, below_drewN (below_drewN HB2.out _) _⟩
    · go_wp2_with fail
      go_ret2
      unfold HalfPost
      exact ⟨_, _, rfl, .inr ⟨rfl, rfl, fun j j1 j2 => hno.out j j1 (by omega)⟩, below_drewN HB2.out _⟩
end Go.Proofs.Ytignncjmbcdpaaa

/-
impl.MeasureMode at a valid mode.
-/
namespace Go.Proofs.Ytignncjmbcdpaaa
open Go Go.RowKit Ieee

/-- The blocks of a measuring: the mode, the result, the report. -/
structure MR (w W : World) (rb a b c d : Nat) (r0 r1 r2 r3 : Value) : Prop where
  pm : W.heap[w.heap.size]? = some (.cells #[.complex .f32 a b, .complex .f32 c d] 52 (0, 0))
  rs : W.heap[w.heap.size + 1]? = some (.cells #[.int .i64 0, .complex .f64 0 0, .float .f64 0, .float .f64 0] 79 (0, 0))
  rp : W.heap[rb]? = some (.cells #[r0, r1, r2, r3] 79 (0, 0))
  lt : w.heap.size + 1 < rb
  bel : Below w.heap.size w W
variable {w W W' : World} {rb a b c d : Nat} {r0 r1 r2 r3 : Value}
theorem MR.rlt (h : MR w W rb a b c d r0 r1 r2 r3) : rb < W.heap.size := lt_of_some h.rp
theorem MR.below (h : MR w W rb a b c d r0 r1 r2 r3) (hb : Below W.heap.size W W') : MR w W' rb a b c d r0 r1 r2 r3 :=
  have := h.rlt
  have := h.lt
  ⟨(hb.block _ (by omega)).trans h.pm, (hb.block _ (by omega)).trans h.rs, (hb.block _ (by omega)).trans h.rp, h.lt, h.bel.trans (hb.mono h.bel.size)⟩
theorem MR.drewN (h : MR w W rb a b c d r0 r1 r2 r3) (n : Nat) : MR w (W.drewN n) rb a b c d r0 r1 r2 r3 := ⟨h.pm, h.rs, h.rp, h.lt, below_drewN h.bel n⟩
theorem MR.alloc (h : MR w W rb a b c d r0 r1 r2 r3) (o : Obj) : MR w (W.alloc o) rb a b c d r0 r1 r2 r3 := h.below ((Below.refl W.heap.size W).alloc (Nat.le_refl _) o)
theorem MR.setAt (h : MR w W rb a b c d r0 r1 r2 r3) (j : Nat) (v : Value) {s0 s1 s2 s3 : Value} (hj : (#[r0, r1, r2, r3] : Array Value).setIfInBounds j v = #[s0, s1, s2, s3]) : MR w (W.setCell ⟨rb, j, none⟩ v) rb a b c d s0 s1 s2 s3 := by
  have h1 := h.lt
  refine ⟨(Below.heap_setCell _ _ _ _ (by show w.heap.size ≠ rb; omega)).trans h.pm, (Below.heap_setCell _ _ _ _ (by show w.heap.size + 1 ≠ rb; omega)).trans h.rs, ?_, h.lt, h.bel.setCell (by show w.heap.size ≤ rb; omega) _⟩
  simp [World.setCell, Array.getElem?_modify, h.rp, ← hj]
theorem MR.p0 (h : MR w W rb a b c d r0 r1 r2 r3) : W.cell? ⟨w.heap.size, 0, none⟩ = some (.complex .f32 a b) := cell_of_row W w.heap.size 0 _ _ (0, 0) h.pm
theorem MR.p1 (h : MR w W rb a b c d r0 r1 r2 r3) : W.cell? ⟨w.heap.size, 1, none⟩ = some (.complex .f32 c d) := cell_of_row W w.heap.size 1 _ _ (0, 0) h.pm
theorem MR.c0 (h : MR w W rb a b c d r0 r1 r2 r3) : W.cell? ⟨rb, 0, none⟩ = some r0 := cell_of_row W rb 0 _ _ (0, 0) h.rp
theorem MR.c1 (h : MR w W rb a b c d r0 r1 r2 r3) : W.cell? ⟨rb, 1, none⟩ = some r1 := cell_of_row W rb 1 _ _ (0, 0) h.rp
theorem MR.c2 (h : MR w W rb a b c d r0 r1 r2 r3) : W.cell? ⟨rb, 2, none⟩ = some r2 := cell_of_row W rb 2 _ _ (0, 0) h.rp
theorem MR.c3 (h : MR w W rb a b c d r0 r1 r2 r3) : W.cell? ⟨rb, 3, none⟩ = some r3 := cell_of_row W rb 3 _ _ (0, 0) h.rp
theorem MR.fz (h : MR w W rb a b c d r0 r1 r2 r3) (k : Nat) : W.frozen? ⟨rb, k, none⟩ = false := by unfold World.frozen?; simp only [h.rp]; simp
theorem MR.fs (h : MR w W rb a b c d r0 r1 r2 r3) (k : Nat) : W.frozen? ⟨w.heap.size + 1, k, none⟩ = false := by unfold World.frozen?; simp only [h.rs]; simp
theorem ownM_lit (W : World) (a b c d : Nat) : OwnM (W.alloc (.cells #[.complex .f32 a b, .complex .f32 c d] 52)) W.heap.size (W.heap.size + 1) (some ⟨W.heap.size, 0, none⟩) 1 [(a, b, c, d)] :=
  ⟨⟨rfl, .inr ⟨W.heap.size, 1, #[.complex .f32 a b, .complex .f32 c d], rfl, Nat.le_refl _, heap_alloc_new W _, Nat.le_refl _, by simp [maxLen], rfl, rfl⟩⟩, fun k hk => by
    have : W.heap.size = k := by injection hk
    omega⟩
theorem FitIn.of {m : MW} (hm : ModeOk m.1 m.2.1 m.2.2.1 m.2.2.2) : FitIn (wid m.1, wid m.2.1) (wid m.2.2.1, wid m.2.2.2) := by
  have a2 := (wid_fin (fin_of_wid hm.fa)).2
  have b2 := (wid_fin (fin_of_wid hm.fb)).2
  have c2 := (wid_fin (fin_of_wid hm.fc)).2
  have d2 := (wid_fin (fin_of_wid hm.fd)).2
  refine ⟨⟨hm.fa, hm.fb⟩, ⟨hm.fc, hm.fd⟩, ?_, ?_⟩
  · show B2 (fv .f64 (wid m.1)) (fv .f64 (wid m.2.1)) rho
    rw [a2, b2]; exact hm.ball
  · have : siz (wid m.2.2.1, wid m.2.2.2) = gam m := by
      show ab (fv .f64 (wid m.2.2.1)) + ab (fv .f64 (wid m.2.2.2)) = _
      rw [c2, d2]; rfl
    rw [this]
    have := gam_le hm
    grind
theorem siz_gam {m : MW} (hm : ModeOk m.1 m.2.1 m.2.2.1 m.2.2.2) : siz (wid m.2.2.1, wid m.2.2.2) = gam m := by
  show ab (fv .f64 (wid m.2.2.1)) + ab (fv .f64 (wid m.2.2.2)) = _
  rw [(wid_fin (fin_of_wid hm.fc)).2, (wid_fin (fin_of_wid hm.fd)).2]; rfl
set_option maxHeartbeats 400000 in
theorem implSubD_any (a b c d : Nat) (w : World) : Calls Try.prog 78 #[.complex .f64 a b, .complex .f64 c d] w fun e w' => ∃ p q n, e = .returned (.complex .f64 p q) ∧ nrm .f64 p = nrm .f64 (fo .sub .f64 a c) ∧ nrm .f64 q = nrm .f64 (fo .sub .f64 b d) ∧ wfk .f64 p ∧ wfk .f64 q ∧ w.drewN n = w' := by
  go_enter Try.func78, Try.ntmps78
  go_wp2_with fail
  go_ret
  exact ⟨_, _, _, rfl, fRo rfl rfl _, fRo rfl rfl _, fR_lt _ _ _ _ _, fR_lt _ _ _ _ _, rfl⟩

theorem ms_one {a b c d : Nat} (h : ModeOk a b c d) : ModesOk [(a, b, c, d)] := fun m hm => by
  simp only [List.mem_singleton] at hm
  subst hm; exact h
theorem lowX_one : LowX [1065353216] := fun i hi => by
  have h0 : i = 0 := by simpa using hi
  subst h0
  show fin .f32 1065353216 ∧ _
  obtain ⟨a1, a2⟩ := fin_of_read (k := .f32) (b := 1065353216) (s := false) (m := 8388608) (e := -23) (by decide +kernel)
  refine ⟨a1, ?_⟩
  show ab (fv .f32 1065353216) ≤ _
  rw [a2, dval_ab]
  show ((8388608 : Nat) : Rat) * pw (-23) ≤ 128
  unfold pw; grind
theorem half_range {a b c d : Nat} {n : Nat} {k : Int} {t : Bool} (h : Half a b c d (n : Int) k t) : 0 ≤ k ∧ k ≤ n := by
  unfold Half at h
  rcases h with ⟨_, h1, h2, _⟩ | ⟨_, h1, _⟩ <;> omega
theorem mr_rd {w : World} {base n c : Nat} {e : TypeId} {A : Option Addr} {xs : List Value} (h : w.ownsRow base e 1 (.slice A n c) n xs) : Rd w A xs := by
  obtain ⟨_, _, q, _, rd⟩ := own_rd h
  injection q with q1 _ q2
  subst q1 q2
  exact rd
theorem mr_addr {w : World} {base n c : Nat} {e : TypeId} {A : Option Addr} {xs : List Value} (h : w.ownsRow base e 1 (.slice A n c) n xs) : (A = none ∧ n = 0 ∧ c = 0) ∨ ∃ g, A = some ⟨g, 0, none⟩ ∧ n ≤ c ∧ c ≤ maxLen := by
  rcases h.2 with ⟨q, h0⟩ | ⟨g, cap, cur, q, _, _, h1, h2, _⟩
  · injection q with q1 q2 q3
    exact .inl ⟨q1, h0, q3⟩
  · injection q with q1 q2 q3
    exact .inr ⟨g, q1, by omega, by omega⟩
theorem rd_lit1 (W : World) (x : Nat) : Rd (W.alloc (.cells #[.float .f32 x] 25)) (some ⟨W.heap.size, 0, none⟩) (f32s [x]) :=
  mr_rd (⟨rfl, .inr ⟨W.heap.size, 1, #[.float .f32 x], rfl, Nat.le_refl _, heap_alloc_new W _, Nat.le_refl _, by simp [maxLen], rfl, rfl⟩⟩ : (W.alloc (.cells #[.float .f32 x] 25)).ownsRow W.heap.size 25 1 (.slice (some ⟨W.heap.size, 0, none⟩) 1 1) 1 (f32s [x]))
/-- What is measured. -/
structure Meas (m : MW) (n : Nat) (hk : Int) (q1 q2 er dr : Nat) : Prop where
  h0 : 0 ≤ hk
  h1 : hk ≤ n
  fq : fin .f64 q1 ∧ fin .f64 q2
  near : 1 / 2 ^ 6 ≤ gam m → ab (fv .f64 q1 - fv .f64 (wid m.1)) ≤ 13 / 2 ^ 45 ∧ ab (fv .f64 q2 - fv .f64 (wid m.2.1)) ≤ 13 / 2 ^ 45
  err : ∃ s1 s2, nrm .f64 s1 = nrm .f64 (fo .sub .f64 q1 (wid m.1)) ∧ nrm .f64 s2 = nrm .f64 (fo .sub .f64 q2 (wid m.2.1)) ∧ nrm .f64 er = fo .add .f64 (abs64 s1) (abs64 s2)
  fdr : fin .f64 dr
  bdr : fv .f64 dr ≤ drBd [m] [1065353216] n

set_option maxRecDepth 100000 in
set_option maxHeartbeats 2000000 in
theorem measure_any (m : MW) (n : Nat) (w : World) (hm : ModeOk m.1 m.2.1 m.2.2.1 m.2.2.2) (h2 : 2 ≤ n) (hn : n ≤ 42) :
    Calls Try.prog 61 #[.agg #[.complex .f32 m.1 m.2.1, .complex .f32 m.2.2.1 m.2.2.2], .int .i64 n] w fun e w' => ∃ (hk : Int) (q1 q2 er dr : Nat),
      e = .returned (.tuple #[.agg #[.int .i64 hk, .complex .f64 q1 q2, .float .f64 er, .float .f64 dr], .bool true]) ∧ Meas m n hk q1 q2 er dr ∧ Below w.heap.size w w' := by
  have HM := Lib.hid hm
  have HI := Lib.hid (FitIn.of hm)
  have HG := Lib.hid (siz_gam hm)
  have T1 := Lib.hid (fun W => widenFin_any m.1 m.2.1 W hm.fa hm.fb)
  have T2 := Lib.hid (fun W => widenFin_any m.2.2.1 m.2.2.2 W hm.fc hm.fd)
  have FIN := Lib.hid (fun k (hk : k ≤ n) => ((FitIn.of hm).ring k (by omega)).f)
  have IM := Lib.hid (fun W => implMode_ok m.1 m.2.1 m.2.2.1 m.2.2.2 W hm)
  have HL := Lib.hid (fun W => implHalf_any m.1 m.2.1 m.2.2.1 m.2.2.2 (n : Int) W hm (by omega) (by omega))
  clear hm
  obtain ⟨a, b, c, d⟩ := m
  simp only at T1 T2 IM HL HG HI FIN ⊢
  obtain ⟨A, hA⟩ : ∃ A, wid a = A := ⟨_, rfl⟩
  obtain ⟨B, hB⟩ : ∃ B, wid b = B := ⟨_, rfl⟩
  obtain ⟨C, hC⟩ : ∃ C, wid c = C := ⟨_, rfl⟩
  obtain ⟨D, hD⟩ : ∃ D, wid d = D := ⟨_, rfl⟩
  rw [hA, hB] at T1 HI FIN
  rw [hC, hD] at T2 HI HG FIN
  have HAB := Lib.hid (And.intro hA hB)
  clear hA hB hC hD
  have S0 : Hid (Below w.heap.size w ((w.alloc (.cells #[.complex .f32 a b, .complex .f32 c d] 52)).alloc (.cells #[.int .i64 0, .complex .f64 0 0, .float .f64 0, .float .f64 0] 79)) ∧
      ((w.alloc (.cells #[.complex .f32 a b, .complex .f32 c d] 52)).alloc (.cells #[.int .i64 0, .complex .f64 0 0, .float .f64 0, .float .f64 0] 79)).heap[w.heap.size]? = some (.cells #[.complex .f32 a b, .complex .f32 c d] 52 (0, 0)) ∧
      ((w.alloc (.cells #[.complex .f32 a b, .complex .f32 c d] 52)).alloc (.cells #[.int .i64 0, .complex .f64 0 0, .float .f64 0, .float .f64 0] 79)).heap[w.heap.size + 1]? = some (.cells #[.int .i64 0, .complex .f64 0 0, .float .f64 0, .float .f64 0] 79 (0, 0))) := by
    refine ⟨((Below.refl w.heap.size w).alloc (Nat.le_refl _) _).alloc (by simp) _, (Below.heap_alloc _ _ _ (by simp)).trans (heap_alloc_new w _), ?_⟩
    have := heap_alloc_new (w.alloc (.cells #[.complex .f32 a b, .complex .f32 c d] 52)) (.cells #[.int .i64 0, .complex .f64 0 0, .float .f64 0, .float .f64 0] 79)
    simpa using this
  have z0 := cell_of_row _ w.heap.size 0 _ _ (0, 0) S0.out.2.1
  have z1 := cell_of_row _ w.heap.size 1 _ _ (0, 0) S0.out.2.1
  simp only [List.getElem?_toArray, List.getElem?_cons_zero, List.getElem?_cons_succ] at z0 z1
  have hsz : w.heap.size + 1 < ((w.alloc (.cells #[.complex .f32 a b, .complex .f32 c d] 52)).alloc (.cells #[.int .i64 0, .complex .f64 0 0, .float .f64 0, .float .f64 0] 79)).heap.size := by simp
  go_enter Try.func61, Try.ntmps61
  go_wp2_with fail
  generalize (w.alloc (.cells #[.complex .f32 a b, .complex .f32 c d] 52)).alloc (.cells #[.int .i64 0, .complex .f64 0 0, .float .f64 0, .float .f64 0] 79) = W0 at *
  refine (IM.out _).mono ?_
  rintro e W1 ⟨rfl, hb1⟩
  have S1 : Hid (MR w (W1.alloc (.cells #[.int .i64 0, .complex .f64 0 0, .float .f64 0, .float .f64 0] 79)) W1.heap.size a b c d (.int .i64 0) (.complex .f64 0 0) (.float .f64 0) (.float .f64 0)) := by
    have hs := hb1.size
    refine ⟨(Below.heap_alloc _ _ _ (by omega)).trans ((hb1.block _ (by omega)).trans S0.out.2.1), (Below.heap_alloc _ _ _ (by omega)).trans ((hb1.block _ hsz).trans S0.out.2.2), heap_alloc_new W1 _, by omega, (S0.out.1.trans (hb1.mono (by omega))).alloc (by omega) _⟩
  clear hb1 S0 z0 z1 hsz
  have p0 := S1.out.p0
  have p1 := S1.out.p1
  go_wp2_with fail
  generalize W1.alloc (.cells #[.int .i64 0, .complex .f64 0 0, .float .f64 0, .float .f64 0] 79) = V1 at *
  generalize W1.heap.size = rb at *
  refine (HL.out _).mono ?_
  intro e W2 hp
  unfold HalfPost at hp
  obtain ⟨hk, t, rfl, hh, hb2⟩ := hp
  have HK := Lib.hid (half_range hh)
  have S2 := Lib.hid (S1.out.below hb2)
  have c0 := S2.out.c0
  have z0 := S2.out.fz 0
  have S3 := Lib.hid (S2.out.setAt 0 (.int .i64 hk) rfl)
  clear S1 hb2 hh p0 p1 S2
  go_wp2_with fail
  clear c0 z0
  generalize W2.setCell ⟨rb, 0, none⟩ (.int .i64 hk) = V3 at *
  have p0 := S3.out.p0
  have p1 := S3.out.p1
  have S4 : Hid (MR w V3.drew rb a b c d (.int .i64 hk) (.complex .f64 0 0) (.float .f64 0) (.float .f64 0)) := S3.out.drewN 1
  refine wp_region_held_drew (S := fun w' => w'.cell? ⟨w.heap.size, 0, none⟩ = some (.complex .f32 a b) ∧ w'.cell? ⟨w.heap.size, 1, none⟩ = some (.complex .f32 c d)) (by kernel_rfl) ⟨p0, p1⟩ (fun hHeld => ?_)
  clear S3 p0 p1
  generalize V3.drew = V4 at *
  refine wpAnyH_take (i := 0) (oi := _) (v := ?_) rfl (by kernel_rfl) (by kernel_rfl) (by kernel_rfl) (fun _ _ _ h => h) (Or.inl ⟨by rfl, ?_⟩) (by assumption) ?_
  rotate_left
  · (intro w hSw; (try dsimp only at hSw); go_simp; try (with_reducible rfl))
  (try simp only [Act.put, List.setIfInBounds_toArray, List.set_cons_zero, List.set_cons_succ])
  refine wpAnyH_take (i := 1) (oi := _) (v := ?_) rfl (by kernel_rfl) (by kernel_rfl) (by kernel_rfl) (fun _ _ _ h => h) (Or.inl ⟨by rfl, ?_⟩) (by assumption) ?_
  rotate_left
  · (intro w hSw; (try dsimp only at hSw); go_simp; try (with_reducible rfl))
  (try simp only [Act.put, List.setIfInBounds_toArray, List.set_cons_zero, List.set_cons_succ])
  refine wpAnyH_take (i := 3) (oi := _) (v := ?_) rfl (by kernel_rfl) (by kernel_rfl) (by kernel_rfl) (fun _ _ _ h => h) (Or.inl ⟨by rfl, ?_⟩) (by assumption) ?_
  rotate_left
  · (intro w hSw; (try dsimp only at hSw); go_simp; try (with_reducible rfl))
  (try simp only [Act.put, List.setIfInBounds_toArray, List.set_cons_zero, List.set_cons_succ])
  refine wpAnyH_take (i := 4) (oi := _) (v := ?_) rfl (by kernel_rfl) (by kernel_rfl) (by kernel_rfl) (fun _ _ _ h => h) (Or.inl ⟨by rfl, ?_⟩) (by assumption) ?_
  rotate_left
  · (intro w hSw; (try dsimp only at hSw); go_simp; try (with_reducible rfl))
  (try simp only [Act.put, List.setIfInBounds_toArray, List.set_cons_zero, List.set_cons_succ])
  refine wpAnyH_take (i := 6) (oi := _) (v := ?_) rfl (by kernel_rfl) (by kernel_rfl) (by kernel_rfl) (fun _ _ _ h => h) (Or.inl ⟨by rfl, ?_⟩) (by assumption) ?_
  rotate_left
  · (intro w hSw; (try dsimp only at hSw); go_simp; try (with_reducible rfl))
  (try simp only [Act.put, List.setIfInBounds_toArray, List.set_cons_zero, List.set_cons_succ])
  refine wpAnyH_ready (rs := [2]) (by kernel_rfl) (by simp) ?_
  refine AllReadyH.cons (o := _) rfl (fun K hK => ?_) AllReadyH.nil
  go_simp
  refine (T1.out _).mono ?_
  rintro e w' ⟨rfl, rfl⟩
  go_wp2_with fail
  refine hK.out _ _ ?_ (fun hHelda => ?_)
  · exact hHeld
  clear hK K
  (try simp only [Act.put, List.setIfInBounds_toArray, List.set_cons_zero, List.set_cons_succ])
  refine wpAnyH_ready (rs := [5]) (by kernel_rfl) (by simp) ?_
  refine AllReadyH.cons (o := _) rfl (fun K hK => ?_) AllReadyH.nil
  go_simp
  refine (T2.out _).mono ?_
  rintro e w' ⟨rfl, rfl⟩
  go_wp2_with fail
  refine hK.out _ _ ?_ (fun hHeldb => ?_)
  · exact hHeld
  clear hK K
  (try simp only [Act.put, List.setIfInBounds_toArray, List.set_cons_zero, List.set_cons_succ])
  refine wpAnyH_ready (rs := [7]) (by kernel_rfl) (by simp) ?_
  refine AllReadyH.cons (o := _) rfl (fun K hK => ?_) AllReadyH.nil
  go_simp
  refine (implRing_any (A, B) (C, D) n _ (by omega) FIN.out).mono ?_
  intro e W5 hp
  unfold RingPost at hp
  obtain ⟨A5, c5, rfl, own5, hb5⟩ := hp
  have S5 := Lib.hid (S4.out.below hb5)
  clear hHeld hHelda hHeldb
  go_wp2_with fail
  refine hK.out _ _ ?_ (fun hHeldc => ?_)
  · exact ⟨S5.out.p0, S5.out.p1⟩
  clear hK K
  (try simp only [Act.put, List.setIfInBounds_toArray, List.set_cons_zero, List.set_cons_succ])
  refine wpAnyH_take (i := 8) (oi := _) (v := ?_) rfl (by kernel_rfl) (by kernel_rfl) (by kernel_rfl) (fun _ _ _ h => h) (Or.inl ⟨by rfl, ?_⟩) (by assumption) ?_
  rotate_left
  · (intro w hSw; (try dsimp only at hSw); go_simp; try (with_reducible rfl))
  (try simp only [Act.put, List.setIfInBounds_toArray, List.set_cons_zero, List.set_cons_succ])
  refine wpAnyH_take (i := 9) (oi := _) (v := ?_) rfl (by kernel_rfl) (by kernel_rfl) (by kernel_rfl) (fun _ _ _ h => h) (Or.inl ⟨by rfl, ?_⟩) (by assumption) ?_
  rotate_left
  · (intro w hSw; (try dsimp only at hSw); go_simp; try (with_reducible rfl))
  (try simp only [Act.put, List.setIfInBounds_toArray, List.set_cons_zero, List.set_cons_succ])
  refine wpAnyH_take (i := 10) (oi := _) (v := ?_) rfl (by kernel_rfl) (by kernel_rfl) (by kernel_rfl) (fun _ _ _ h => h) (Or.inl ⟨by rfl, ?_⟩) (by assumption) ?_
  rotate_left
  · (intro w hSw; (try dsimp only at hSw); go_simp; try (with_reducible rfl))
  (try simp only [Act.put, List.setIfInBounds_toArray, List.set_cons_zero, List.set_cons_succ])
  refine wpAnyH_take (i := 11) (oi := _) (v := ?_) rfl (by kernel_rfl) (by kernel_rfl) (by kernel_rfl) (fun _ _ _ h => h) (Or.inl ⟨by rfl, ?_⟩) (by assumption) ?_
  rotate_left
  · (intro w hSw; (try dsimp only at hSw); go_simp; try (with_reducible rfl))
  (try simp only [Act.put, List.setIfInBounds_toArray, List.set_cons_zero, List.set_cons_succ])
  refine wpAnyH_take (i := 12) (oi := _) (v := ?_) rfl (by kernel_rfl) (by kernel_rfl) (by kernel_rfl) (fun _ _ _ h => h) (Or.inl ⟨by rfl, ?_⟩) (by assumption) ?_
  rotate_left
  · (intro w hSw; (try dsimp only at hSw); go_simp; try (with_reducible rfl))
  (try simp only [Act.put, List.setIfInBounds_toArray, List.set_cons_zero, List.set_cons_succ])
  refine wpAnyH_done (by kernel_rfl) ?_ _
  clear hHeldc hb5 S4
  obtain ⟨g5, rfl, hc5⟩ : ∃ g, A5 = some ⟨g, 0, none⟩ ∧ n ≤ c5 := by
    rcases mr_addr own5 with ⟨_, h, _⟩ | ⟨g, e, h, _⟩
    · omega
    · exact ⟨g, e, h⟩
  have R5 := Lib.hid (mr_rd own5)
  clear own5
  go_wp2_with fail
  refine (fitSquares_any (A, B) (C, D) g5 c5 n _ HI.out h2 hn hc5 R5.out).mono ?_
  intro e W6 hp
  unfold FitPost at hp
  obtain ⟨q1, q2, t6, j6, rfl, HF, HN, rfl⟩ := hp
  have S6 := Lib.hid (S5.out.drewN j6)
  have HQ := Lib.hid (And.intro HF HN)
  clear S5 R5 HF HN
  generalize W5.drewN j6 = V6 at *
  have c6 := S6.out.c1
  have z6 := S6.out.fz 1
  have S7 := Lib.hid (S6.out.setAt 1 (.complex .f64 q1 q2) rfl)
  clear S6
  go_wp2_with fail
  clear c6 z6
  generalize V6.setCell ⟨rb, 1, none⟩ (.complex .f64 q1 q2) = V7 at *
  have p0 := S7.out.p0
  have p1 := S7.out.c1
  have S8 : Hid (MR w V7.drew rb a b c d (.int .i64 hk) (.complex .f64 q1 q2) (.float .f64 0) (.float .f64 0)) := S7.out.drewN 1
  refine wp_region_held_drew (S := fun w' => w'.cell? ⟨w.heap.size, 0, none⟩ = some (.complex .f32 a b) ∧ w'.cell? ⟨rb, 1, none⟩ = some (.complex .f64 q1 q2)) (by kernel_rfl) ⟨p0, p1⟩ (fun hHeld => ?_)
  clear S7 p0 p1
  generalize V7.drew = V8 at *
  refine wpAnyH_take (i := 0) (oi := _) (v := ?_) rfl (by kernel_rfl) (by kernel_rfl) (by kernel_rfl) (fun _ _ _ h => h) (Or.inl ⟨by rfl, ?_⟩) (by assumption) ?_
  rotate_left
  · (intro w hSw; (try dsimp only at hSw); go_simp; try (with_reducible rfl))
  (try simp only [Act.put, List.setIfInBounds_toArray, List.set_cons_zero, List.set_cons_succ])
  refine wpAnyH_take (i := 1) (oi := _) (v := ?_) rfl (by kernel_rfl) (by kernel_rfl) (by kernel_rfl) (fun _ _ _ h => h) (Or.inl ⟨by rfl, ?_⟩) (by assumption) ?_
  rotate_left
  · (intro w hSw; (try dsimp only at hSw); go_simp; try (with_reducible rfl))
  (try simp only [Act.put, List.setIfInBounds_toArray, List.set_cons_zero, List.set_cons_succ])
  refine wpAnyH_take (i := 2) (oi := _) (v := ?_) rfl (by kernel_rfl) (by kernel_rfl) (by kernel_rfl) (fun _ _ _ h => h) (Or.inl ⟨by rfl, ?_⟩) (by assumption) ?_
  rotate_left
  · (intro w hSw; (try dsimp only at hSw); go_simp; try (with_reducible rfl))
  (try simp only [Act.put, List.setIfInBounds_toArray, List.set_cons_zero, List.set_cons_succ])
  refine wpAnyH_take (i := 3) (oi := _) (v := ?_) rfl (by kernel_rfl) (by kernel_rfl) (by kernel_rfl) (fun _ _ _ h => h) (Or.inl ⟨by rfl, ?_⟩) (by assumption) ?_
  rotate_left
  · (intro w hSw; (try dsimp only at hSw); go_simp; try (with_reducible rfl))
  (try simp only [Act.put, List.setIfInBounds_toArray, List.set_cons_zero, List.set_cons_succ])
  refine wpAnyH_ready (rs := [4]) (by kernel_rfl) (by simp) ?_
  refine AllReadyH.cons (o := _) rfl (fun K hK => ?_) AllReadyH.nil
  go_simp
  refine (T1.out _).mono ?_
  rintro e w' ⟨rfl, rfl⟩
  go_wp2_with fail
  refine hK.out _ _ ?_ (fun hHelda => ?_)
  · exact hHeld
  clear hK K
  (try simp only [Act.put, List.setIfInBounds_toArray, List.set_cons_zero, List.set_cons_succ])
  refine wpAnyH_ready (rs := [5]) (by kernel_rfl) (by simp) ?_
  refine AllReadyH.cons (o := _) rfl (fun K hK => ?_) AllReadyH.nil
  go_simp
  refine (implSubD_any q1 q2 A B _).mono ?_
  rintro e w' ⟨s1, s2, j8, rfl, hs1, hs2, ws1, ws2, rfl⟩
  have HS := Lib.hid (And.intro hs1 hs2)
  clear hs1 hs2 hHelda
  go_wp2_with fail
  refine hK.out _ _ ?_ (fun hHeldb => ?_)
  · exact hHeld
  clear hK K
  (try simp only [Act.put, List.setIfInBounds_toArray, List.set_cons_zero, List.set_cons_succ])
  refine wpAnyH_ready (rs := [6]) (by kernel_rfl) (by simp) ?_
  refine AllReadyH.cons (o := _) rfl (fun K hK => ?_) AllReadyH.nil
  go_simp
  refine (implSize_any s1 s2 _ ws1 ws2).mono ?_
  rintro e w' ⟨er, j9, rfl, he, we, rfl⟩
  have HE := Lib.hid (And.intro he we)
  have S10 := Lib.hid (S8.out.drewN (j8 + j9))
  clear ws1 ws2 he we S8 hHeldb
  go_wp2_with fail
  refine hK.out _ _ ?_ (fun hHeldc => ?_)
  · exact hHeld
  clear hK K
  (try simp only [Act.put, List.setIfInBounds_toArray, List.set_cons_zero, List.set_cons_succ])
  refine wpAnyH_take (i := 7) (oi := _) (v := ?_) rfl (by kernel_rfl) (by kernel_rfl) (by kernel_rfl) (fun _ _ _ h => h) (Or.inl ⟨by rfl, ?_⟩) (by assumption) ?_
  rotate_left
  · (intro w hSw; (try dsimp only at hSw); go_simp; try (with_reducible rfl))
  (try simp only [Act.put, List.setIfInBounds_toArray, List.set_cons_zero, List.set_cons_succ])
  clear hHeld hHeldc
  generalize V8.drewN (j8 + j9) = V10 at *
  have c10 := S10.out.c2
  have z10 := S10.out.fz 2
  have S11 := Lib.hid (S10.out.setAt 2 (.float .f64 er) rfl)
  clear S10
  refine wpAnyH_ready (rs := [8]) (by kernel_rfl) (by simp) ?_
  refine AllReadyH.cons (o := _) rfl (fun K hK => ?_) AllReadyH.nil
  go_simp
  refine hK.out _ _ ?_ (fun hHeldd => ?_)
  · exact ⟨S11.out.p0, S11.out.c1⟩
  clear hK K
  (try simp only [Act.put, List.setIfInBounds_toArray, List.set_cons_zero, List.set_cons_succ])
  refine wpAnyH_done (by kernel_rfl) ?_ _
  clear c10 z10 hHeldd
  generalize V10.setCell ⟨rb, 2, none⟩ (.float .f64 er) = V11 at *
  have p0 := S11.out.p0
  have p1 := S11.out.p1
  have OM : Hid (OwnM ((V11.alloc (.cells #[.complex .f32 a b, .complex .f32 c d] 52)).alloc (.cells #[.float .f32 1065353216] 25)) V11.heap.size (V11.heap.size + 1) (some ⟨V11.heap.size, 0, none⟩) 1 [(a, b, c, d)]) :=
    (ownM_lit V11 a b c d).below ((Below.refl _ _).alloc (Nat.le_refl _) _) (by simp)
  have RX : Hid (Rd ((V11.alloc (.cells #[.complex .f32 a b, .complex .f32 c d] 52)).alloc (.cells #[.float .f32 1065353216] 25)) (some ⟨V11.heap.size + 1, 0, none⟩) (f32s [1065353216])) := by
    show Rd _ _ _
    have := rd_lit1 (V11.alloc (.cells #[.complex .f32 a b, .complex .f32 c d] 52)) 1065353216
    simpa using this
  have S12 := Lib.hid ((S11.out.alloc (.cells #[.complex .f32 a b, .complex .f32 c d] 52)).alloc (.cells #[.float .f32 1065353216] 25))
  have hs12 : V11.heap.size + 1 ≤ ((V11.alloc (.cells #[.complex .f32 a b, .complex .f32 c d] 52)).alloc (.cells #[.float .f32 1065353216] 25)).heap.size := by simp
  clear S11
  go_wp2_with fail
  generalize (V11.alloc (.cells #[.complex .f32 a b, .complex .f32 c d] 52)).alloc (.cells #[.float .f32 1065353216] 25) = V12 at *
  refine (driftOf_any (some ⟨V11.heap.size, 0, none⟩) (some ⟨V11.heap.size + 1, 0, none⟩) 1 1 _ _ [(a, b, c, d)] [1065353216] n V12 OM.out (by omega) (ms_one HM.out) (by simp) RX.out (by omega) lowX_one (by simp)).mono ?_
  rintro e W13 ⟨dr, rfl, fdr, bdr, hb13⟩
  have HD := Lib.hid (And.intro fdr bdr)
  have S13 := Lib.hid (S12.out.below hb13)
  clear fdr bdr hb13 OM RX S12 p0 p1 hs12
  have c13 := S13.out.c3
  have z13 := S13.out.fz 3
  have S14 := Lib.hid (S13.out.setAt 3 (.float .f64 dr) rfl)
  clear S13
  have c0 := S14.out.c0
  have c1 := S14.out.c1
  have c2 := S14.out.c2
  have c3 := S14.out.c3
  have f0 := S14.out.fs 0
  have f1 := S14.out.fs 1
  have f2 := S14.out.fs 2
  have f3 := S14.out.fs 3
  have s0 := cell_of_row (W13.setCell ⟨rb, 3, none⟩ (.float .f64 dr)) (w.heap.size + 1) 0 _ _ (0, 0) S14.out.rs
  have s1' := cell_of_row (W13.setCell ⟨rb, 3, none⟩ (.float .f64 dr)) (w.heap.size + 1) 1 _ _ (0, 0) S14.out.rs
  have s2' := cell_of_row (W13.setCell ⟨rb, 3, none⟩ (.float .f64 dr)) (w.heap.size + 1) 2 _ _ (0, 0) S14.out.rs
  have s3 := cell_of_row (W13.setCell ⟨rb, 3, none⟩ (.float .f64 dr)) (w.heap.size + 1) 3 _ _ (0, 0) S14.out.rs
  simp only [List.getElem?_toArray, List.getElem?_cons_zero, List.getElem?_cons_succ] at s0 s1' s2' s3
  go_wp2_with fail
  clear c13 z13 c0 c1 c2 c3 f0 f1 f2 f3 s0 s1' s2' s3
  generalize W13.setCell ⟨rb, 3, none⟩ (.float .f64 dr) = V14 at *
  have HRes : Hid (((((V14.setCell ⟨w.heap.size + 1, 0, none⟩ (.int .i64 hk)).setCell ⟨w.heap.size + 1, 1, none⟩ (.complex .f64 q1 q2)).setCell ⟨w.heap.size + 1, 2, none⟩ (.float .f64 er)).setCell ⟨w.heap.size + 1, 3, none⟩ (.float .f64 dr)).heap[w.heap.size + 1]? = some (.cells #[.int .i64 hk, .complex .f64 q1 q2, .float .f64 er, .float .f64 dr] 79 (0, 0))) := by
    show _ = _
    simp [World.setCell, Array.getElem?_modify, S14.out.rs]
  refine bodyPost_ret (results_cell_tmp_row rfl _ _ (w.heap.size + 1) 79 #[.int .i64 hk, .complex .f64 q1 q2, .float .f64 er, .float .f64 dr] (0, 0) _ rfl HRes.out Try.underlying79 rfl (by kernel_rfl)) rfl ?_
  clear HRes
  obtain ⟨rfl, rfl⟩ := HAB.out
  refine ⟨hk, q1, q2, er, dr, rfl, ⟨HK.out.1, HK.out.2, ⟨HQ.out.1.1, HQ.out.1.2.1⟩, fun hg => ?_, ⟨s1, s2, HS.out.1, HS.out.2, HE.out.1⟩, HD.out.1, HD.out.2⟩, ?_⟩
  · obtain ⟨n1, n2, _⟩ := HQ.out.2 (by rw [HG.out]; exact hg)
    exact ⟨n1, n2⟩
  · have hb := Lib.hid S14.out.bel
    exact (((hb.out.setCell (by show w.heap.size ≤ w.heap.size + 1; omega) _).setCell (by show w.heap.size ≤ w.heap.size + 1; omega) _).setCell (by show w.heap.size ≤ w.heap.size + 1; omega) _).setCell (by show w.heap.size ≤ w.heap.size + 1; omega) _
end Go.Proofs.Ytignncjmbcdpaaa

/-
laws.power of a negative number, to the bit.
-/
namespace Go.Proofs.Ytignncjmbcdpaaa
open Go Go.RowKit

set_option maxHeartbeats 400000 in
theorem power_neg_w (n : Int) (P : Nat) (w : World) (h0 : n < 0) (h1 : -500 ≤ n) (hP : fin .f64 P) (hPw : wfk .f64 P) (hv : fv .f64 P = pw n) : Calls Try.prog 19 #[.int .i64 n] w fun e w' => e = .returned (.float .f64 P) ∧ ∃ j, w.drewN j = w' := by
  have HP := Lib.hid (And.intro hP (And.intro hPw hv))
  clear hP hPw hv
  go_enter Try.func19, Try.ntmps19
  go_wp2_with fail
  go_loopw [0, 3] (fun m x wr => m = .int .i64 n ∧ x = .float .f64 4607182418800017408 ∧ wr = w) (fun _ _ _ => 0)
  case atStart => exact ⟨rfl, rfl, rfl⟩
  case round =>
    obtain ⟨rfl, rfl, rfl⟩ := hrel
    have hn : decide (0 < n) = false := by simp; omega
    go_wp2_with fail
    go_loopw [0, 3] (fun m x w2 => ∃ (j : Int) (r k : Nat), m = .int .i64 j ∧ n ≤ j ∧ j ≤ 0 ∧ x = .float .f64 r ∧ fin .f64 r ∧ wfk .f64 r ∧ fv .f64 r = pw (n - j) ∧ w2 = wr.drewN k) (fun m _ _ => (-intOf m).toNat)
    case atStart => exact ⟨n, _, 0, rfl, by omega, by omega, rfl, one_fin.1, by rw [wfk_64]; omega, by rw [one_fin.2]; simp [pw], rfl⟩
    case round =>
      obtain ⟨j, r, k, rfl, h2, h3, rfl, hr, hw, hv, rfl⟩ := hrel
      have Hst := Lib.hid (fun w => half_step hr hv (by omega) (by omega) w)
      have Hr := Lib.hid (And.intro hr (And.intro hw hv))
      clear hr hv hw
      by_cases hj : j < 0
      · go_wp2
        go_roundw
        case rel => exact ⟨j + 1, _, _, by go_num, by omega, by omega, rfl, (Hst.out _).1, fR_lt _ _ _ _ _, by rw [(Hst.out _).2]; congr 1; omega, rfl⟩
        case measure => simp [intOf]; omega
      · obtain rfl : j = 0 := by omega
        have e : r = P := word_eq Hr.out.1 HP.out.1 Hr.out.2.1 HP.out.2.1 (by rw [Hr.out.2.2, HP.out.2.2, Int.sub_zero]) (by rw [Hr.out.2.2]; have := pw_pos (n - 0); grind)
        subst e
        go_wp2
        go_ret
        exact ⟨rfl, k, rfl⟩
theorem p20_word : fin .f64 4517110426252607488 ∧ wfk .f64 4517110426252607488 ∧ fv .f64 4517110426252607488 = pw (-20) := by
  have h : FloatKind.f64.format.read 4517110426252607488 = .number false 4503599627370496 (-72) := by decide +kernel
  obtain ⟨a, b⟩ := fin_of_read h
  refine ⟨a, by rw [wfk_64]; omega, ?_⟩
  rw [b, dval_num]
  have e : mval 4503599627370496 (-72) = pw (-20) := by unfold mval pw; grind
  rw [e]; simp
theorem p100_word : fin .f64 4156822456062967808 ∧ wfk .f64 4156822456062967808 ∧ fv .f64 4156822456062967808 = pw (-100) := by
  have h : FloatKind.f64.format.read 4156822456062967808 = .number false 4503599627370496 (-152) := by decide +kernel
  obtain ⟨a, b⟩ := fin_of_read h
  refine ⟨a, by rw [wfk_64]; omega, ?_⟩
  rw [b, dval_num]
  have e : mval 4503599627370496 (-152) = pw (-100) := by unfold mval pw; grind
  rw [e]; simp
end Go.Proofs.Ytignncjmbcdpaaa

/-
What the law of the drift asks of its numbers, the words without a body. (Plain arithmetic.)
-/
namespace Go.Proofs.Ytignncjmbcdpaaa
open Go Go.RowKit Ieee

theorem gain_size {m : MW} (hm : ModeOk m.1 m.2.1 m.2.2.1 m.2.2.2) : fin .f64 (fo .add .f64 (absB (wid m.2.2.1)) (absB (wid m.2.2.2))) ∧ gam m - gam m / 2 ^ 52 ≤ fv .f64 (fo .add .f64 (absB (wid m.2.2.1)) (absB (wid m.2.2.2))) + 1 / 2 ^ 195 ∧
    0 ≤ fv .f64 (fo .add .f64 (absB (wid m.2.2.1)) (absB (wid m.2.2.2))) ∧ fv .f64 (fo .add .f64 (absB (wid m.2.2.1)) (absB (wid m.2.2.2))) ≤ 2 * gam m + 1 := by
  obtain ⟨k1, k2, k3⟩ := consts64
  obtain ⟨a1, a2⟩ := absB_fin hm.fc
  obtain ⟨b1, b2⟩ := absB_fin hm.fd
  rw [(wid_fin (fin_of_wid hm.fc)).2] at a2
  rw [(wid_fin (fin_of_wid hm.fd)).2] at b2
  have g0 := gam_nonneg m
  have g1 := gam_le hm
  have e : fv .f64 (absB (wid m.2.2.1)) + fv .f64 (absB (wid m.2.2.2)) = gam m := by rw [a2, b2]; rfl
  have ad := add_spec a1 b1 (by rw [e, ab_of_nonneg g0]; grind)
  rw [e] at ad
  have er := ad.2.1
  rw [k1, ab_of_nonneg g0] at er
  have l := le_ab (fv .f64 (fo .add .f64 (absB (wid m.2.2.1)) (absB (wid m.2.2.2))) - gam m)
  have z := (ad.2.2 0 (zero_fin .f64).1).1 (by rw [(zero_fin .f64).2]; exact g0)
  rw [(zero_fin .f64).2] at z
  exact ⟨ad.1, by grind, z, by grind⟩
theorem nat_small {k B : Nat} (h : k ≤ B) : (0 : Rat) ≤ (k : Rat) ∧ (k : Rat) ≤ ((B : Nat) : Rat) := ⟨Rat.natCast_nonneg, Rat.natCast_le_natCast.2 h⟩
theorem gsum_le {ms : List MW} (hm : ModesOk ms) (k : Nat) (hk : k ≤ ms.length) : gsum ms k ≤ (k : Rat) * 2048 := by
  induction k with
  | zero => show (0 : Rat) ≤ _; simp
  | succ k ih =>
    have h := ih (by omega)
    have g : gam (mAt ms k) ≤ 2048 := gam_le (hm.at_ (by omega))
    have e : ((k + 1 : Nat) : Rat) = (k : Rat) + 1 := by simp
    rw [e]
    show gsum ms k + _ ≤ _
    grind
/-- One gain. -/
theorem gain_pack {ms : List MW} {k : Nat} (hm : ModesOk ms) (hl : ms.length ≤ 16) (hk : k < ms.length) :
    ∃ p1 p2 c d C D z : Nat, (mAt ms k).1 = p1 ∧ (mAt ms k).2.1 = p2 ∧ (mAt ms k).2.2.1 = c ∧ (mAt ms k).2.2.2 = d ∧ (∀ W, cR .f32 c .f64 W = C) ∧ cN .f32 c .f64 = 0 ∧ (∀ W, cR .f32 d .f64 W = D) ∧ cN .f32 d .f64 = 0 ∧
      Hid (∀ W, Calls Try.prog 56 #[.complex .f64 C D] W fun e w' => e = .returned (.float .f64 z) ∧ ∃ n, W.drewN n = w') ∧
      Hid (∀ g, Acc g (gsum ms k) (k : Rat) → ∀ W, Acc (fR .add .f64 g z W) (gsum ms (k + 1)) ((k + 1 : Nat) : Rat)) := by
  have hmk : ModeOk (mAt ms k).1 (mAt ms k).2.1 (mAt ms k).2.2.1 (mAt ms k).2.2.2 := hm.at_ hk
  obtain ⟨c1, c2⟩ := widFin hmk.fc
  obtain ⟨d1, d2⟩ := widFin hmk.fd
  obtain ⟨f, lo, z0, hi⟩ := gain_size hmk
  refine ⟨_, _, _, _, _, _, fo .add .f64 (absB (wid (mAt ms k).2.2.1)) (absB (wid (mAt ms k).2.2.2)), rfl, rfl, rfl, rfl, c1, c2, d1, d2, fun W => ?_, fun g hg W => ?_⟩
  · refine (specSize_any _ _ W).mono fun e w' h => ?_
    obtain ⟨r, n, rfl, hr, _, rfl⟩ := h
    exact ⟨by rw [nrm_fin_eq hr f], n, rfl⟩
  · obtain ⟨k0, k1⟩ := nat_small (show k ≤ 16 by omega)
    have k2 : (k : Rat) ≤ 16 := by simpa using k1
    have G0 := gsum_nonneg ms k
    have G1 := gsum_le hm k (by omega)
    have g0 := gam_nonneg (mAt ms k)
    have g1 : gam (mAt ms k) ≤ 2048 := gam_le hmk
    have e : ((k + 1 : Nat) : Rat) = (k : Rat) + 1 := by simp
    have hgf := hg.f
    have hgh := hg.hi
    have hgp := hg.p
    have ad := add_spec hgf f (by
      have ht := top210
      rw [ab_of_nonneg (by grind)]; grind)
    rw [rnd_eq ad.1 W, e]
    exact acc_step hg k0 (by grind) G0 (by grind) g0 (by grind) z0 lo hi ad
/-- One input. -/
theorem in_pack {xs : List Nat} {k : Nat} (hx : LowX xs) (hl : xs.length ≤ 11) (hk : k < xs.length) :
    ∃ x Z : Nat, xs.getD k 0 = x ∧ (∀ W, cR .f32 x .f64 W = Z) ∧ cN .f32 x .f64 = 0 ∧
      Hid (∀ s, Acc s (sumIn xs k) (k : Rat) → (flt .f32 x 0 = true → ∀ W, Acc (fR .sub .f64 s Z W) (sumIn xs (k + 1)) ((k + 1 : Nat) : Rat)) ∧ (flt .f32 x 0 = false → ∀ W, Acc (fR .add .f64 s Z W) (sumIn xs (k + 1)) ((k + 1 : Nat) : Rat))) := by
  obtain ⟨f, b⟩ := hx k hk
  obtain ⟨w1, w2⟩ := wid_fin f
  obtain ⟨c1, c2⟩ := widFin w1
  have ein : inAt xs k = xs.getD k 0 := if_pos hk
  have es : sumIn xs (k + 1) = sumIn xs k + ab (fv .f32 (xs.getD k 0)) := by
    show sumIn xs k + ab (fv .f32 (inAt xs k)) = _
    rw [ein]
  refine ⟨_, _, rfl, c1, c2, fun s hs => ?_⟩
  obtain ⟨k0, k1⟩ := nat_small (show k ≤ 16 by omega)
  have k2 : (k : Rat) ≤ 16 := by simpa using k1
  have e : ((k + 1 : Nat) : Rat) = (k : Rat) + 1 := by simp
  have S0 := sumIn_nonneg xs k
  have S1 := sumIn_le hx k
  have a0 := ab_nonneg (fv .f32 (xs.getD k 0))
  have hp := hs.p
  have hh := hs.hi
  have ht := top210
  rw [es, e]
  have hz := flt_iff f (zero_fin .f32).1
  rw [(zero_fin .f32).2] at hz
  constructor
  · intro hlt W
    have hneg := hz.1 hlt
    have ea : fv .f64 s - fv .f64 (wid (xs.getD k 0)) = fv .f64 s + ab (fv .f32 (xs.getD k 0)) := by
      rw [w2, ← ab_neg, ab_of_nonneg (x := -fv .f32 (xs.getD k 0)) (by grind)]; grind
    have sb := sub_spec hs.f w1 (by rw [ea, ab_of_nonneg (by grind)]; grind)
    rw [ea] at sb
    rw [rnd_eq sb.1 W]
    exact acc_step hs k0 (by grind) S0 (by grind) a0 (by grind) a0 (by grind) (by grind) sb
  · intro hge W
    have hpos : 0 ≤ fv .f32 (xs.getD k 0) := by
      rcases rat_lt_or_le (fv .f32 (xs.getD k 0)) 0 with h | h
      · rw [hz.2 h] at hge; cases hge
      · exact h
    have ea : fv .f64 s + fv .f64 (wid (xs.getD k 0)) = fv .f64 s + ab (fv .f32 (xs.getD k 0)) := by rw [w2, ab_of_nonneg hpos]
    have sb := add_spec hs.f w1 (by rw [ea, ab_of_nonneg (by grind)]; grind)
    rw [ea] at sb
    rw [rnd_eq sb.1 W]
    exact acc_step hs k0 (by grind) S0 (by grind) a0 (by grind) a0 (by grind) (by grind) sb
/-- The law's bound. -/
theorem rhs_pack {ms : List MW} {xs : List Nat} {n g s r : Nat} (hm : ModesOk ms) (hl : ms.length ≤ 5) (hx : LowX xs) (hxl : xs.length ≤ 11) (hn : n ≤ 255) (hg : Acc g (gsum ms ms.length) (ms.length : Rat)) (hs : Acc s (sumIn xs xs.length) (xs.length : Rat))
    (fr : fin .f64 r) (hr : fv .f64 r ≤ drBd ms xs n) : ∃ Nw M1 M2 M3 M4 : Nat, floatOfInt .f64 ((n : Int) + (ms.length : Int) + 1) = Nw ∧ (∀ W, fR .mul .f64 Nw g W = M1) ∧ (∀ W, fR .mul .f64 M1 s W = M2) ∧ (∀ W, fR .mul .f64 M2 4517110426252607488 W = M3) ∧
      (∀ W, fR .add .f64 M3 4156822456062967808 W = M4) ∧ fle .f64 r M4 = true := by
  have hbin : FloatKind.f64.format.binade = 4503599627370496 := by decide +kernel
  have hi := int_exact .f64 ((n : Int) + (ms.length : Int) + 1) (by rw [hbin]; omega)
  have ei : (((n : Int) + (ms.length : Int) + 1 : Int) : Rat) = (n : Rat) + (ms.length : Rat) + 1 := by simp [Rat.intCast_natCast]
  rw [ei] at hi
  obtain ⟨n0, n1⟩ := nat_small hn
  obtain ⟨l0, l1⟩ := nat_small hl
  obtain ⟨x0, x1⟩ := nat_small hxl
  have n2 : (n : Rat) ≤ 255 := by simpa using n1
  have l2 : (ms.length : Rat) ≤ 5 := by simpa using l1
  have x2 : (xs.length : Rat) ≤ 11 := by simpa using x1
  have G0 := gsum_nonneg ms ms.length
  have G1 := gsum_le hm ms.length (Nat.le_refl _)
  have S0 := sumIn_nonneg xs xs.length
  have S1 := sumIn_le hx xs.length
  obtain ⟨u1, u2⟩ := hg.use l0 (by grind) G0 (by grind)
  obtain ⟨v1, v2⟩ := hs.use x0 (by grind) S0 (by grind)
  have p20 := p20_word
  have p100 := p100_word
  have e20 : pw (-20) = 1 / 2 ^ 20 := by unfold pw; grind
  have e100 : pw (-100) = 1 / 2 ^ 100 := by unfold pw; grind
  unfold drBd at hr
  obtain ⟨f1, f2, f3, f4, hle⟩ := rhs_ok hi.1 hi.2 hg.f hs.f p20.1 (p20.2.2.trans e20) p100.1 (p100.2.2.trans e100) fr (by grind) (by grind) G0 S0 hg.p hs.p u1 u2 v1 v2 hr
  exact ⟨_, _, _, _, _, rfl, fun W => rnd_eq f1 W, fun W => rnd_eq f2 W, fun W => rnd_eq f3 W, fun W => rnd_eq f4 W, hle⟩
end Go.Proofs.Ytignncjmbcdpaaa

/-
The values of FnPair: all numbers are exact but the two quotients. (Plain arithmetic.)
-/
namespace Go.Proofs.Ytignncjmbcdpaaa
open Go Go.RowKit Ieee

/-- int(x), cut towards zero. -/
theorem to_int_any {x : Nat} (hx : fin .f64 x) (h1 : ab (fv .f64 x) < 2 ^ 53) : ∃ n : Int, floatToIntVal .f64 x .i64 = some n ∧ ((n.natAbs : Nat) : Rat) ≤ ab (fv .f64 x) := by
  obtain ⟨s, m, i, hr⟩ := hx
  have hd : FloatKind.f64.decode x = .number s m i := hr
  have hv : ab (fv .f64 x) = mval m i := by unfold fv; rw [hr, dval_ab]
  have key : mval m i = mval (m * 2 ^ i.toNat) (-(((-i).toNat : Nat) : Int)) := by
    rw [mval_scale']; congr 1; omega
  obtain ⟨f1, f2⟩ := floor_val (m * 2 ^ i.toNat) (-i).toNat
  rw [← key, ← hv] at f1 f2
  have hi : (FloatKind.f64.decode x).toInt .zero = some (signed s (m * 2 ^ i.toNat / 2 ^ (-i).toNat) 0) := by
    rw [hd]; unfold Datum.toInt Datum.integral
    simp only [cut_zero, Nat.shiftLeft_eq]
  generalize m * 2 ^ i.toNat / 2 ^ (-i).toNat = q at *
  have hq : q < 2 ^ 53 := by
    have h2 : (q : Rat) < ((2 ^ 53 : Nat) : Rat) := by
      have : ((2 ^ 53 : Nat) : Rat) = 2 ^ 53 := by simp; grind
      rw [this]; grind
    exact Rat.natCast_lt_natCast.1 h2
  have hs : (signed s q 0).natAbs = q := by cases s <;> simp [signed]
  refine ⟨signed s q 0, ?_, by rw [hs]; exact f1⟩
  unfold floatToIntVal
  rw [hi]
  have e1 : IntKind.i64.min = -9223372036854775808 := by decide
  have e2 : IntKind.i64.max = 9223372036854775807 := by decide
  simp only [e1, e2]
  rw [if_pos (by omega)]
theorem Ex.eq {x y : Nat} {n m : Int} {e B C : Nat} (h : Ex x n e B) (g : Ex y m e C) : feq .f64 x y = decide (n = m) := by
  have hp := pw_pos (-(e : Int))
  by_cases hn : n = m
  · subst hn
    rw [(feq_iff h.f g.f).2 (by rw [h.v, g.v])]; simp
  · cases hc : feq .f64 x y
    · simp [hn]
    · exfalso
      have := (feq_iff h.f g.f).1 hc
      rw [h.v, g.v] at this
      have hne : ((n - m : Int) : Rat) ≠ 0 := fun h => hn (Int.sub_eq_zero.1 (by exact_mod_cast h))
      have h0 : ((n - m : Int) : Rat) * pw (-(e : Int)) = 0 := by rw [Rat.intCast_sub]; grind
      rcases Rat.mul_eq_zero.1 h0 with h | h
      · exact hne h
      · grind
theorem ex16 : Ex 4625196817309499392 16 0 16 := ⟨w16.1, by rw [w16.2, show -((0 : Nat) : Int) = 0 from rfl, pw_zero]; simp, by decide⟩
/-- A part made a whole number of sixteenths. -/
theorem sixteenth {x : Nat} {n : Int} (h : Ex x n 6 64) : ∃ k : Int, floatToIntVal .f64 (fo .mul .f64 x 4625196817309499392) .i64 = some k ∧ fin .f64 (fo .mul .f64 x 4625196817309499392) ∧ Ex (fo .quo .f64 (floatOfInt .f64 k) 4625196817309499392) k 4 16 := by
  have hm := h.mul ex16 (by omega) (by omega)
  have hb := hm.v
  have e : ab (fv .f64 (fo .mul .f64 x 4625196817309499392)) ≤ 16 := by
    rw [hb, ab_mul, ab_of_nonneg (Rat.le_of_lt (pw_pos _))]
    have hn := h.b
    have h2 : ab ((n * 16 : Int) : Rat) ≤ 1024 := by
      have h3 : ((n * 16 : Int) : Rat) ≤ ((1024 : Int) : Rat) := Rat.intCast_le_intCast.2 (by omega)
      have h4 : ((-(n * 16) : Int) : Rat) ≤ ((1024 : Int) : Rat) := Rat.intCast_le_intCast.2 (by omega)
      rw [Rat.intCast_neg] at h4
      have e : ((1024 : Int) : Rat) = 1024 := by simp
      rw [e] at h3 h4
      exact ab_le h3 h4
    have hp : pw (-((6 + 0 : Nat) : Int)) = 1 / 64 := by unfold pw; grind
    rw [hp]
    grind
  obtain ⟨k, k1, k2⟩ := to_int_any hm.f (by grind)
  have hk : k.natAbs ≤ 16 := by
    have : ((k.natAbs : Nat) : Rat) ≤ ((16 : Nat) : Rat) := by
      have e16 : ((16 : Nat) : Rat) = 16 := by simp
      rw [e16]; grind
    exact Rat.natCast_le_natCast.1 this
  exact ⟨k, k1, hm.f, (Ex.int k 16 hk (by omega)).quo w16.1 p16 (by omega) (by omega)⟩

/-- The whole numbers of a mode that rings. -/
def gz (p1 p2 a1 a2 : Int) : Nat → Int × Int
  | 0 => (a1, a2)
  | k + 1 => ((gz p1 p2 a1 a2 k).1 * p1 - (gz p1 p2 a1 a2 k).2 * p2, (gz p1 p2 a1 a2 k).1 * p2 + (gz p1 p2 a1 a2 k).2 * p1)
theorem zC_ex {p a : Nat × Nat} {p1 p2 a1 a2 : Int} (hp : CEx p.1 p.2 p1 p2 4 16) (ha : CEx a.1 a.2 a1 a2 4 64) (k : Nat) (hk : k ≤ 5) :
    CEx (zC p a k).1 (zC p a k).2 (gz p1 p2 a1 a2 k).1 (gz p1 p2 a1 a2 k).2 (4 + 4 * k) (64 * 32 ^ k) := by
  induction k with
  | zero => exact ha
  | succ k ih =>
    have h := ih (by omega)
    have hb : 32 ^ k ≤ 32 ^ 4 := Nat.pow_le_pow_right (by decide) (by omega)
    have hm := h.mul hp (by omega) (by omega)
    have e1 : 2 * (64 * 32 ^ k * 16) = 64 * 32 ^ (k + 1) := by rw [Nat.pow_succ]; omega
    have e2 : 4 + 4 * k + 4 = 4 + 4 * (k + 1) := by omega
    rw [e1, e2] at hm
    exact hm
/-- The sums. -/
def sumZ (p a q b : Nat × Nat) (k : Nat) : Nat × Nat := (fo .add .f64 (zC p a k).1 (zC q b k).1, fo .add .f64 (zC p a k).2 (zC q b k).2)
def sumL (p a q b : Nat × Nat) (n : Nat) : List (Nat × Nat) := (List.range n).map (sumZ p a q b)
theorem sumL_at {p a q b : Nat × Nat} {n k : Nat} (h : k < n) : cgetD (sumL p a q b n) k = sumZ p a q b k := by
  simp [cgetD, sumL, List.getD, h]
theorem sumZ_ex {p a q b : Nat × Nat} {p1 p2 a1 a2 q1 q2 b1 b2 : Int} (hp : CEx p.1 p.2 p1 p2 4 16) (ha : CEx a.1 a.2 a1 a2 4 64) (hq : CEx q.1 q.2 q1 q2 4 16) (hb : CEx b.1 b.2 b1 b2 4 64) (k : Nat) (hk : k ≤ 4) :
    CEx (sumZ p a q b k).1 (sumZ p a q b k).2 ((gz p1 p2 a1 a2 k).1 + (gz q1 q2 b1 b2 k).1) ((gz p1 p2 a1 a2 k).2 + (gz q1 q2 b1 b2 k).2) (4 + 4 * k) (128 * 32 ^ k) := by
  have hb2 : 32 ^ k ≤ 32 ^ 4 := Nat.pow_le_pow_right (by decide) (by omega)
  have h := (zC_ex hp ha k (by omega)).add (zC_ex hq hb k (by omega)) (by omega) (by omega)
  have e1 : 64 * 32 ^ k + 64 * 32 ^ k = 128 * 32 ^ k := by omega
  rw [e1] at h
  exact h
theorem CEx.fin {x y : Nat} {n m : Int} {e B : Nat} (h : CEx x y n m e B) : finC (x, y) := ⟨h.re.f, h.im.f⟩
/-- A quotient that is exactly (s1, s2) / 2^g, within 2^-42. -/
theorem near_quot {x y c d : Nat} {n m k l s1 s2 : Int} {e f g B C : Nat} (h : CEx x y n m e B) (hd : CEx c d k l f C) (he : e = f + g) (hne : ¬(k = 0 ∧ l = 0)) (h1 : n = s1 * k - s2 * l) (h2 : m = s1 * l + s2 * k)
    (hB : B < 2 ^ 53) (hC : C < 2 ^ 53) (hf : f ≤ 100) (hs1 : ab ((s1 : Rat) * pw (-(g : Int))) ≤ 2) (hs2 : ab ((s2 : Rat) * pw (-(g : Int))) ≤ 2) :
    (fin .f64 (quoRe x y c d) ∧ ab (fv .f64 (quoRe x y c d) - (s1 : Rat) * pw (-(g : Int))) ≤ 1 / 2 ^ 42) ∧ (fin .f64 (quoIm x y c d) ∧ ab (fv .f64 (quoIm x y c d) - (s2 : Rat) * pw (-(g : Int))) ≤ 1 / 2 ^ 42) := by
  subst he
  have hpw : pw (-((f + g : Nat) : Int)) = pw (-(f : Int)) * pw (-(g : Int)) := by rw [← pw_add]; congr 1; omega
  have b1 := h.re.b
  have b2 := h.im.b
  have b3 := hd.re.b
  have b4 := hd.im.b
  have big : ∀ j : Int, j ≠ 0 → pw (-300) ≤ ab ((j : Rat) * pw (-(f : Int))) := fun j hj => by
    rw [ab_mul, ab_of_nonneg (Rat.le_of_lt (pw_pos _))]
    have hj1 : 1 ≤ ab (j : Rat) := by
      rcases Int.lt_or_gt_of_ne hj with h | h
      · have : ((1 : Int) : Rat) ≤ ((-j : Int) : Rat) := Rat.intCast_le_intCast.2 (by omega)
        rw [Rat.intCast_neg] at this
        have l := le_ab (j : Rat)
        have e : ((1 : Int) : Rat) = 1 := by simp
        rw [e] at this; grind
      · have : ((1 : Int) : Rat) ≤ (j : Rat) := Rat.intCast_le_intCast.2 (by omega)
        have l := le_ab (j : Rat)
        have e : ((1 : Int) : Rat) = 1 := by simp
        rw [e] at this; grind
    have h1 : pw (-300) ≤ pw (-(f : Int)) := pw_mono (by omega)
    have h2 := Rat.mul_le_mul_of_nonneg_right hj1 (Rat.le_of_lt (pw_pos (-(f : Int))))
    grind
  have hX := quot_err (X := (s1 : Rat) * pw (-(g : Int))) (Y := (s2 : Rat) * pw (-(g : Int))) (M := 2) h.re.f h.im.f hd.re.f hd.im.f (by
      rw [hd.re.v, hd.im.v]
      by_cases hk : k = 0
      · exact .inr (big l (fun hl => hne ⟨hk, hl⟩))
      · exact .inl (big k hk))
    (by rw [hd.re.v]; have := (ex_top (n := k) (e := f) (by omega)).2; grind) (by rw [hd.im.v]; have := (ex_top (n := l) (e := f) (by omega)).2; grind) hs1 hs2 (by grind)
    (by rw [h.re.v, hd.re.v, hd.im.v, h1, hpw, Rat.intCast_sub, Rat.intCast_mul, Rat.intCast_mul]; grind)
    (by rw [h.im.v, hd.re.v, hd.im.v, h2, hpw, Rat.intCast_add, Rat.intCast_mul, Rat.intCast_mul]; grind)
    (by rw [h.re.v]; have := (ex_top (n := n) (e := f + g) (by omega)).2; grind) (by rw [h.im.v]; have := (ex_top (n := m) (e := f + g) (by omega)).2; grind)
  refine ⟨⟨hX.1.1, ?_⟩, ⟨hX.2.1, ?_⟩⟩
  · have := hX.1.2; grind
  · have := hX.2.2; grind
/-- Near, as the law asks it. -/
theorem small_ok {u v x y : Nat} (fu : fin .f64 u) (fv' : fin .f64 v) (fx : fin .f64 x) (fy : fin .f64 y) (h1 : ab (fv .f64 u - fv .f64 x) ≤ 1 / 2 ^ 42) (h2 : ab (fv .f64 v - fv .f64 y) ≤ 1 / 2 ^ 42) :
    fin .f64 (fo .sub .f64 u x) ∧ fin .f64 (fo .sub .f64 v y) ∧ ∀ r, nrm .f64 r = fo .add .f64 (absB (fo .sub .f64 u x)) (absB (fo .sub .f64 v y)) → ∀ p, fin .f64 p → fv .f64 p = pw (-40) → fle .f64 r p = true := by
  obtain ⟨k1, k2, k3⟩ := consts64
  have ht := top210
  have hu := sub_spec fu fx (by grind)
  have hv := sub_spec fv' fy (by grind)
  refine ⟨hu.1, hv.1, fun r hr p hp pv => ?_⟩
  obtain ⟨a1, a2⟩ := absB_fin hu.1
  obtain ⟨b1, b2⟩ := absB_fin hv.1
  have e1 := hu.2.1
  have e2 := hv.2.1
  rw [k1] at e1 e2
  have t1 := ab_tri (fv .f64 (fo .sub .f64 u x)) (fv .f64 u - fv .f64 x)
  have t2 := ab_tri (fv .f64 (fo .sub .f64 v y)) (fv .f64 v - fv .f64 y)
  have n3 := ab_nonneg (fv .f64 (fo .sub .f64 u x))
  have n4 := ab_nonneg (fv .f64 (fo .sub .f64 v y))
  have hsz := size_spec n3 n4 (by grind) a1 b1 a2 b2
  obtain rfl : r = _ := nrm_fin_eq hr hsz.1
  refine (fle_iff hsz.1 hp).2 ?_
  have z2 := hsz.2.1
  rw [k1, ab_of_nonneg (x := ab (fv .f64 (fo .sub .f64 u x)) + ab (fv .f64 (fo .sub .f64 v y))) (by grind)] at z2
  have z3 := le_ab (fv .f64 (fo .add .f64 (absB (fo .sub .f64 u x)) (absB (fo .sub .f64 v y))) - (ab (fv .f64 (fo .sub .f64 u x)) + ab (fv .f64 (fo .sub .f64 v y))))
  have e40 : pw (-40) = 1 / 2 ^ 40 := by unfold pw; grind
  rw [pv, e40]
  grind
end Go.Proofs.Ytignncjmbcdpaaa

/-
What the law of the measuring asks of its numbers. (Plain arithmetic.)
-/
namespace Go.Proofs.Ytignncjmbcdpaaa
open Go Go.RowKit Ieee

theorem p40_word : fin .f64 4427038433705197568 ∧ wfk .f64 4427038433705197568 ∧ fv .f64 4427038433705197568 = pw (-40) := by
  have h : FloatKind.f64.format.read 4427038433705197568 = .number false 4503599627370496 (-92) := by decide +kernel
  obtain ⟨a, b⟩ := fin_of_read h
  refine ⟨a, by rw [wfk_64]; omega, ?_⟩
  rw [b, dval_num]
  have e : mval 4503599627370496 (-92) = pw (-40) := by unfold mval pw; grind
  rw [e]; simp
theorem p16_word : fin .f64 4589168020290535424 ∧ fv .f64 4589168020290535424 = 1 / 16 := by
  have h : FloatKind.f64.format.read 4589168020290535424 = .number false 4503599627370496 (-56) := by decide +kernel
  obtain ⟨a, b⟩ := fin_of_read h
  refine ⟨a, ?_⟩
  rw [b, dval_num]
  have e : mval 4503599627370496 (-56) = 1 / 16 := by unfold mval pw; grind
  rw [e]; simp
theorem oneF32 : fin .f32 1065353216 ∧ fv .f32 1065353216 = 1 := by
  have h : FloatKind.f32.format.read 1065353216 = .number false 8388608 (-23) := by decide +kernel
  obtain ⟨a, b⟩ := fin_of_read h
  refine ⟨a, ?_⟩
  rw [b, dval_num]
  have e : mval 8388608 (-23) = 1 := by unfold mval pw; grind
  rw [e]; simp
theorem gain_low {m : MW} (hm : ModeOk m.1 m.2.1 m.2.2.1 m.2.2.2) (h : 1 / 16 ≤ fv .f64 (fo .add .f64 (absB (wid m.2.2.1)) (absB (wid m.2.2.2)))) : 1 / 2 ^ 6 ≤ gam m := by
  obtain ⟨k1, k2, k3⟩ := consts64
  obtain ⟨a1, a2⟩ := absB_fin hm.fc
  obtain ⟨b1, b2⟩ := absB_fin hm.fd
  rw [(wid_fin (fin_of_wid hm.fc)).2] at a2
  rw [(wid_fin (fin_of_wid hm.fd)).2] at b2
  have g0 := gam_nonneg m
  have g1 := gam_le hm
  have e : fv .f64 (absB (wid m.2.2.1)) + fv .f64 (absB (wid m.2.2.2)) = gam m := by rw [a2, b2]; rfl
  have ad := add_spec a1 b1 (by rw [e, ab_of_nonneg g0]; grind)
  rw [e] at ad
  have er := ad.2.1
  rw [k1, ab_of_nonneg g0] at er
  have l := le_ab (fv .f64 (fo .add .f64 (absB (wid m.2.2.1)) (absB (wid m.2.2.2))) - gam m)
  grind
theorem drBd_one (m : MW) (n : Nat) : drBd [m] [1065353216] n = ((n : Rat) + 2) * gam m * (5 / 8) / 2 ^ 20 + 1 / 2 ^ 101 := by
  have e1 : gsum [m] [m].length = gam m := by
    show (0 : Rat) + gam m = _
    grind
  have e2 : sumIn [1065353216] ([1065353216] : List Nat).length = 1 := by
    show (0 : Rat) + ab (fv .f32 1065353216) = _
    rw [oneF32.2, ab_of_nonneg (by grind)]; grind
  unfold drBd
  rw [e1, e2]
  have e3 : (([m].length : Nat) : Rat) = 1 := by simp
  rw [e3]; grind
theorem rhs2_ok {N g p q d : Nat} {Nr G : Rat} (fN : fin .f64 N) (vN : fv .f64 N = Nr) (fg : fin .f64 g) (fp : fin .f64 p) (vp : fv .f64 p = 1 / 2 ^ 20) (fq : fin .f64 q) (vq : fv .f64 q = 1 / 2 ^ 100) (fd : fin .f64 d)
    (hN : 1 ≤ Nr) (hN2 : Nr ≤ 400) (hG0 : 0 ≤ G) (g0 : 0 ≤ fv .f64 g) (hg : G - G / 2 ^ 40 ≤ fv .f64 g + 1 / 2 ^ 180) (hg2 : fv .f64 g ≤ 2 ^ 20)
    (hd : fv .f64 d ≤ Nr * G * (5 / 8) / 2 ^ 20 + 1 / 2 ^ 101) : fin .f64 (fo .mul .f64 N g) ∧ fin .f64 (fo .mul .f64 (fo .mul .f64 N g) p) ∧
      fin .f64 (fo .add .f64 (fo .mul .f64 (fo .mul .f64 N g) p) q) ∧ fle .f64 d (fo .add .f64 (fo .mul .f64 (fo .mul .f64 N g) p) q) = true := by
  have n0 : 0 ≤ fv .f64 N := by rw [vN]; grind
  have b1 : fv .f64 N * fv .f64 g ≤ 2 ^ 30 := by
    have := mul_mono (show fv .f64 N ≤ 400 by rw [vN]; exact hN2) hg2 n0 (by grind)
    grind
  obtain ⟨f1, l1, z1, u1⟩ := mul_low fN fg n0 g0 b1 (by grind)
  have b3 : fv .f64 (fo .mul .f64 N g) * fv .f64 p ≤ 2 ^ 62 := by rw [vp]; grind
  obtain ⟨f3, l3, z3, u3⟩ := mul_low f1 fp z1 (by rw [vp]; grind) b3 (by grind)
  rw [vp] at l3
  rw [vN] at l1
  have c4 := Rat.mul_le_mul_of_nonneg_left hg (show 0 ≤ Nr by grind)
  have ngx := Rat.mul_nonneg (show 0 ≤ Nr by grind) hG0
  obtain ⟨k1, k2, k3⟩ := consts64
  have ha : fv .f64 (fo .mul .f64 (fo .mul .f64 N g) p) + fv .f64 q ≤ 2 ^ 70 := by rw [vq]; grind
  have e0 : ab (fv .f64 (fo .mul .f64 (fo .mul .f64 N g) p) + fv .f64 q) = fv .f64 (fo .mul .f64 (fo .mul .f64 N g) p) + fv .f64 q := ab_of_nonneg (by rw [vq]; grind)
  have ad := add_spec f3 fq (by rw [e0]; grind)
  have e := ad.2.1
  rw [e0, k1, vq] at e
  have le := (le_ab (fv .f64 (fo .add .f64 (fo .mul .f64 (fo .mul .f64 N g) p) q) - (fv .f64 (fo .mul .f64 (fo .mul .f64 N g) p) + 1 / 2 ^ 100))).2
  refine ⟨f1, f3, ad.1, (fle_iff fd ad.1).2 ?_⟩
  generalize fv .f64 (fo .add .f64 (fo .mul .f64 (fo .mul .f64 N g) p) q) = R at *
  generalize fv .f64 (fo .mul .f64 (fo .mul .f64 N g) p) = t3 at *
  generalize fv .f64 (fo .mul .f64 N g) = t1 at *
  generalize fv .f64 g = gv at *
  clear k1 k3 e0 ha b1 b3 u1 u3 z1 ad f1 f3 hg hg2
  have d2 : Nr * G * (1 - 1 / 2 ^ 36) - 1 / 2 ^ 140 ≤ t1 := by grind
  have d3 : Nr * G * (1 - 1 / 2 ^ 35) / 2 ^ 20 - 1 / 2 ^ 150 ≤ t3 := by grind
  have d4 : t3 + 1 / 2 ^ 100 - (t3 + 1 / 2 ^ 100) / 2 ^ 50 - 1 / 2 ^ 190 ≤ R := by grind
  have d5 : Nr * G * (1 - 1 / 2 ^ 34) / 2 ^ 20 + 1 / 2 ^ 101 ≤ R := by clear d2 l1 l3 c4 e le; grind
  clear d2 d3 d4 l1 l3 c4 e le
  grind
theorem both_ok {x y : Nat} {u v : Rat} (a1 : fin .f64 x) (b1 : fin .f64 y) (a2 : fv .f64 x = ab u) (b2 : fv .f64 y = ab v) (ha : ab u ≤ 1 / 2 ^ 41 - 1 / 2 ^ 50) (hb : ab v ≤ 1 / 2 ^ 41 - 1 / 2 ^ 50) {r : Nat} (hr : nrm .f64 r = fo .add .f64 x y) : fle .f64 r 4427038433705197568 = true := by
  obtain ⟨k1, k2, k3⟩ := consts64
  have ht := top210
  have n3 := ab_nonneg u
  have n4 := ab_nonneg v
  have e0 : ab (fv .f64 x + fv .f64 y) = ab u + ab v := by rw [a2, b2]; exact ab_of_nonneg (by grind)
  have ad := add_spec a1 b1 (by rw [e0]; grind)
  have e := ad.2.1
  rw [e0, k1, a2, b2] at e
  obtain rfl : r = _ := nrm_fin_eq hr ad.1
  refine (fle_iff ad.1 p40_word.1).2 ?_
  have z3 := le_ab (fv .f64 (fo .add .f64 x y) - (ab u + ab v))
  have e40 : pw (-40) = 1 / 2 ^ 40 := by unfold pw; grind
  rw [p40_word.2.2, e40]
  grind
end Go.Proofs.Ytignncjmbcdpaaa

/-
What the law of the measuring asks, the words without a body.
-/
namespace Go.Proofs.Ytignncjmbcdpaaa
open Go Go.RowKit Ieee

/-- The wide words of a mode, and the size of its gain. -/
theorem meas_size {a b c d : Nat} (hm : ModeOk a b c d) :
    ∃ A B C D z : Nat, (∀ W, cR .f32 a .f64 W = A) ∧ cN .f32 a .f64 = 0 ∧ (∀ W, cR .f32 b .f64 W = B) ∧ cN .f32 b .f64 = 0 ∧ (∀ W, cR .f32 c .f64 W = C) ∧ cN .f32 c .f64 = 0 ∧ (∀ W, cR .f32 d .f64 W = D) ∧ cN .f32 d .f64 = 0 ∧
      Hid (wid a = A ∧ wid b = B) ∧ Hid (∀ W, Calls Try.prog 56 #[.complex .f64 C D] W fun e w' => e = .returned (.float .f64 z) ∧ ∃ n, W.drewN n = w') ∧ Hid (z = fo .add .f64 (absB (wid c)) (absB (wid d))) := by
  obtain ⟨a1, a2⟩ := widFin hm.fa
  obtain ⟨b1, b2⟩ := widFin hm.fb
  obtain ⟨c1, c2⟩ := widFin hm.fc
  obtain ⟨d1, d2⟩ := widFin hm.fd
  obtain ⟨f, _⟩ := gain_size (m := (a, b, c, d)) hm
  refine ⟨_, _, _, _, _, a1, a2, b1, b2, c1, c2, d1, d2, ⟨rfl, rfl⟩, fun W => ?_, rfl⟩
  refine (specSize_any _ _ W).mono fun e w' h => ?_
  obtain ⟨r, n, rfl, hr, _, rfl⟩ := h
  exact ⟨by rw [nrm_fin_eq hr f], n, rfl⟩
/-- What the law asks of a mode whose gain is not small. -/
theorem meas_pack {a b c d n : Nat} {hk : Int} {q1 q2 er dr z A B : Nat} (hm : ModeOk a b c d) (h : Meas (a, b, c, d) n hk q1 q2 er dr) (hn : n ≤ 40) (hz : z = fo .add .f64 (absB (wid c)) (absB (wid d))) (hA : wid a = A ∧ wid b = B)
    (hf : flt .f64 z 4589168020290535424 = false) : ∃ Nw M1 M2 M3 : Nat, fle .f64 er 4427038433705197568 = true ∧
      Hid (∀ W, Calls Try.prog 24 #[.complex .f64 q1 q2, .complex .f64 A B, .float .f64 4427038433705197568] W fun e w' => e = .returned (.bool true) ∧ ∃ j, W.drewN j = w') ∧
      floatOfInt .f64 ((n : Int) + 2) = Nw ∧ (∀ W, fR .mul .f64 Nw z W = M1) ∧ (∀ W, fR .mul .f64 M1 4517110426252607488 W = M2) ∧ (∀ W, fR .add .f64 M2 4156822456062967808 W = M3) ∧ fle .f64 dr M3 = true := by
  obtain ⟨rfl, rfl⟩ := hA
  obtain ⟨zf, zl, z0, zu⟩ := gain_size (m := (a, b, c, d)) hm
  have g0 := gam_nonneg (a, b, c, d)
  have g1 : gam (a, b, c, d) ≤ 2048 := gam_le hm
  have hgl : 1 / 2 ^ 6 ≤ gam (a, b, c, d) := by
    refine gain_low (m := (a, b, c, d)) hm ?_
    show 1 / 16 ≤ fv .f64 (fo .add .f64 (absB (wid c)) (absB (wid d)))
    rw [← hz]
    have fz : fin .f64 z := by rw [hz]; exact zf
    rcases rat_lt_or_le (fv .f64 z) (1 / 16) with h1 | h1
    · have := (flt_iff fz p16_word.1).2 (by rw [p16_word.2]; exact h1)
      rw [hf] at this; cases this
    · exact h1
  obtain ⟨n1, n2⟩ := h.near hgl
  have n1' : ab (fv .f64 q1 - fv .f64 (wid a)) ≤ 13 / 2 ^ 45 := n1
  have n2' : ab (fv .f64 q2 - fv .f64 (wid b)) ≤ 13 / 2 ^ 45 := n2
  obtain ⟨s1, s2, e1, e2, er'⟩ := h.err
  have e1' : nrm .f64 s1 = nrm .f64 (fo .sub .f64 q1 (wid a)) := e1
  have e2' : nrm .f64 s2 = nrm .f64 (fo .sub .f64 q2 (wid b)) := e2
  obtain ⟨k1, k2, k3⟩ := consts64
  have ht := top210
  have hu := sub_spec h.fq.1 hm.fa (by grind)
  have hv := sub_spec h.fq.2 hm.fb (by grind)
  have u1 := hu.2.1
  have v1 := hv.2.1
  rw [k1] at u1 v1
  have t1 := ab_tri (fv .f64 (fo .sub .f64 q1 (wid a))) (fv .f64 q1 - fv .f64 (wid a))
  have t2 := ab_tri (fv .f64 (fo .sub .f64 q2 (wid b))) (fv .f64 q2 - fv .f64 (wid b))
  have m1 := hu.1
  have m2 := hv.1
  have b1 : ab (fv .f64 (fo .sub .f64 q1 (wid a))) ≤ 1 / 2 ^ 41 - 1 / 2 ^ 50 := by clear v1 t2; grind
  have b2 : ab (fv .f64 (fo .sub .f64 q2 (wid b))) ≤ 1 / 2 ^ 41 - 1 / 2 ^ 50 := by clear u1 t1; grind
  have q1s : s1 = fo .sub .f64 q1 (wid a) := nrm_fin_eq (e1'.trans (nrm_fin m1)) m1
  have q2s : s2 = fo .sub .f64 q2 (wid b) := nrm_fin_eq (e2'.trans (nrm_fin m2)) m2
  have hle1 : fle .f64 er 4427038433705197568 = true := by
    rw [q1s, q2s] at er'
    exact both_ok (abs64_fin m1).1 (abs64_fin m2).1 (abs64_fin m1).2 (abs64_fin m2).2 b1 b2 er'
  have hbin : FloatKind.f64.format.binade = 4503599627370496 := by decide +kernel
  have hi := int_exact .f64 ((n : Int) + 2) (by rw [hbin]; omega)
  have ei : (((n : Int) + 2 : Int) : Rat) = (n : Rat) + 2 := by simp [Rat.intCast_natCast]
  rw [ei] at hi
  obtain ⟨n0, n4⟩ := nat_small hn
  have n5 : (n : Rat) ≤ 40 := by simpa using n4
  have p20 := p20_word
  have p100 := p100_word
  have e20 : pw (-20) = 1 / 2 ^ 20 := by unfold pw; grind
  have e100 : pw (-100) = 1 / 2 ^ 100 := by unfold pw; grind
  have hb := h.bdr
  rw [drBd_one] at hb
  have zl' : gam (a, b, c, d) - gam (a, b, c, d) / 2 ^ 40 ≤ fv .f64 z + 1 / 2 ^ 180 := by
    have zl2 : gam (a, b, c, d) - gam (a, b, c, d) / 2 ^ 52 ≤ fv .f64 z + 1 / 2 ^ 195 := by rw [hz]; exact zl
    grind
  have zu' : fv .f64 z ≤ 2 ^ 20 := by
    have : fv .f64 z ≤ 2 * gam (a, b, c, d) + 1 := by rw [hz]; exact zu
    grind
  have zf' : fin .f64 z := by rw [hz]; exact zf
  have z0' : 0 ≤ fv .f64 z := by rw [hz]; exact z0
  obtain ⟨f1, f2, f3, hle⟩ := rhs2_ok hi.1 hi.2 zf' p20.1 (p20.2.2.trans e20) p100.1 (p100.2.2.trans e100) h.fdr (by grind) (by grind) g0 z0' zl' zu' hb
  refine ⟨_, _, _, _, hle1, fun W => ?_, rfl, fun W => rnd_eq f1 W, fun W => rnd_eq f2 W, fun W => rnd_eq f3 W, hle⟩
  refine (small_any q1 q2 (wid a) (wid b) _ W m1 m2).mono fun e w' h => ?_
  obtain ⟨r, j, rfl, hr, rfl⟩ := h
  exact ⟨by rw [both_ok (absB_fin m1).1 (absB_fin m2).1 (absB_fin m1).2 (absB_fin m2).2 b1 b2 hr], j, rfl⟩
end Go.Proofs.Ytignncjmbcdpaaa

/-
The law FnMeasured returns true for all codes. No condition.
-/
namespace Go.Proofs.Ytignncjmbcdpaaa.lawMeasured
open Go Go.RowKit Go.ChangeShapes Go.WideShapes

theorem keep_m {W W' : World} {M : Nat} {o : Obj} (hm : W.heap[M]? = some o) (hb : Below W.heap.size W W') : W'.heap[M]? = some o := (hb.block M (lt_of_some hm)).trans hm
set_option maxRecDepth 100000 in
set_option maxHeartbeats 2000000 in
theorem walk_some (A : Option Addr) (cp : Nat) (bs : List Int) (w : World) (hr : Rd w A (bs.map (.int .u8))) (hm : bs.length ≤ 1048576) (hb : ∀ i, i < bs.length → 0 ≤ bs.getD i 0 ∧ bs.getD i 0 ≤ 255) :
    Calls Try.prog 13 #[.slice A bs.length cp] w fun e w' => e = .returned (.bool true) ∧ Below w.heap.size w w' := by
  have hlen0 : ¬ (1048576 : Int) < (bs.length : Int) := by omega
  have Hr := Lib.hid hr
  have Hb := Lib.hid hb
  have hq1 := atL_bound hb 1
  have HA := Lib.hid (fun w h => at_any A cp bs 1 w h hm (by omega) Hb.out)
  clear hb
  generalize atL bs 1 = q at *
  obtain ⟨n, hn, h2, h40⟩ : ∃ n : Nat, 2 + q % 39 = (n : Int) ∧ 2 ≤ n ∧ n ≤ 40 := ⟨(2 + q % 39).toNat, by omega, by omega, by omega⟩
  go_enter Try.func13, Try.ntmps13
  go_wp2_with fail
  refine (makeMode_any A cp bs _ hr hm).mono ?_
  rintro e w1 ⟨a, b, c, d, rfl, hmode, hb1⟩
  have H := Lib.hid hmode
  have B0 : Hid (Below w.heap.size w (w1.alloc (.cells #[.complex .f32 a b, .complex .f32 c d] 52))) := hb1.alloc hb1.size _
  have hM0 : (w1.alloc (.cells #[.complex .f32 a b, .complex .f32 c d] 52)).heap[w1.heap.size]? = some (.cells #[.complex .f32 a b, .complex .f32 c d] 52 (0, 0)) := heap_alloc_new w1 _
  have HM0 := Lib.hid hM0
  clear hb1 hr hmode hM0
  go_wp2_with fail
  generalize w1.alloc (.cells #[.complex .f32 a b, .complex .f32 c d] 52) = W0 at *
  generalize w1.heap.size = M at *
  refine (HA.out _ (Hr.out.below B0.out)).mono ?_
  rintro e w' ⟨rfl, rfl⟩
  obtain ⟨c0, c1, _, _⟩ := m_cells HM0.out
  go_wp2_with fail
  refine (measure_any (a, b, c, d) n _ H.out h2 (by omega)).mono ?_
  rintro e W1 ⟨hk, q1, q2, er, dr, rfl, hmeas, hb1⟩
  have HM1 := Lib.hid (keep_m HM0.out hb1)
  have B1 : Hid (Below w.heap.size w (W1.alloc (.cells #[.int .i64 hk, .complex .f64 q1 q2, .float .f64 er, .float .f64 dr] 79))) := (B0.out.trans (hb1.mono B0.out.size)).alloc (Nat.le_trans B0.out.size hb1.size) _
  have RP : Hid ((W1.alloc (.cells #[.int .i64 hk, .complex .f64 q1 q2, .float .f64 er, .float .f64 dr] 79)).heap[W1.heap.size]? = some (.cells #[.int .i64 hk, .complex .f64 q1 q2, .float .f64 er, .float .f64 dr] 79 (0, 0))) := heap_alloc_new W1 _
  have HM2 : Hid ((W1.alloc (.cells #[.int .i64 hk, .complex .f64 q1 q2, .float .f64 er, .float .f64 dr] 79)).heap[M]? = some (.cells #[.complex .f32 a b, .complex .f32 c d] 52 (0, 0))) := keep_m HM1.out ((Below.refl W1.heap.size W1).alloc (Nat.le_refl _) _)
  have HE := Lib.hid hmeas
  have hk0 := hmeas.h0
  have hk1 := hmeas.h1
  obtain ⟨Aw, Bw, Cw, Dw, z, hA1, hA2, hB1, hB2, hC1, hC2, hD1, hD2, HAB, HZ, HZE⟩ := meas_size H.out
  clear c0 c1 hb1 HM0 B0 HM1 hmeas
  obtain ⟨c0, c1, _, _⟩ := m_cells HM2.out
  go_wp2_with fail
  generalize W1.alloc (.cells #[.int .i64 hk, .complex .f64 q1 q2, .float .f64 er, .float .f64 dr] 79) = V1 at *
  generalize W1.heap.size = rb at *
  refine (HZ.out _).mono ?_
  rintro e w' ⟨rfl, j1, rfl⟩
  clear c0 c1 HM2 hA1 hA2 hB1 hB2 hC1 hC2 hD1 hD2 HZ
  have c0 : V1.cell? ⟨rb, 0, none⟩ = some (.int .i64 hk) := cell_of_row V1 rb 0 _ _ (0, 0) RP.out
  have c1 : V1.cell? ⟨rb, 1, none⟩ = some (.complex .f64 q1 q2) := cell_of_row V1 rb 1 _ _ (0, 0) RP.out
  have c2 : V1.cell? ⟨rb, 2, none⟩ = some (.float .f64 er) := cell_of_row V1 rb 2 _ _ (0, 0) RP.out
  have c3 : V1.cell? ⟨rb, 3, none⟩ = some (.float .f64 dr) := cell_of_row V1 rb 3 _ _ (0, 0) RP.out
  go_wp2_with fail
  refine (specSize_any _ _ _).mono ?_
  rintro e w' ⟨r1, j2, rfl, hr1, _, rfl⟩
  have B3 : Hid (Below w.heap.size w (V1.drewN (j1 + j2))) := below_drewN B1.out _
  clear hr1 B1 RP
  cases t1 : flt .f64 r1 4598175219545276416
  · cases t2 : flt .f64 z 4589168020290535424
    · obtain ⟨Nw, M1, M2, M3, hle, SM, hNw, hm1, hm2, hm3, hle2⟩ := meas_pack H.out HE.out h40 HZE.out HAB.out t2
      have T40 := Lib.hid (fun W => power_neg_w (-40) 4427038433705197568 W (by omega) (by omega) p40_word.1 p40_word.2.1 p40_word.2.2)
      have T20 := Lib.hid (fun W => power_neg_w (-20) 4517110426252607488 W (by omega) (by omega) p20_word.1 p20_word.2.1 p20_word.2.2)
      have T100 := Lib.hid (fun W => power_neg_w (-100) 4156822456062967808 W (by omega) (by omega) p100_word.1 p100_word.2.1 p100_word.2.2)
      have hw1 := IntWalk.i64_in ((n : Int) + 2) (by omega)
      clear HE HZE HAB H
      go_wp2_with fail
      refine wp_region_rx (by kernel_rfl) (by kernel_rfl) ?_; apply Exists.intro
      repeat (first | (apply wpR_val; intro K hK; go_simp; refine ⟨rfl, hK _ ?_⟩; clear hK K) | (apply wpR_skip; intro K hK; go_simp; refine hK _ ?_; clear hK K))
      apply wpR_val (v := .float .f64 4427038433705197568); intro K hK; go_simp; refine ⟨fun m => rcall (T40.out _), hK _ ?_⟩; clear hK K
      repeat (first | (apply wpR_val; intro K hK; go_simp; refine ⟨rfl, hK _ ?_⟩; clear hK K) | (apply wpR_skip; intro K hK; go_simp; refine hK _ ?_; clear hK K))
      apply wpR_val (v := .float .f64 4427038433705197568); intro K hK; go_simp; refine ⟨fun m => rcall (T40.out _), hK _ ?_⟩; clear hK K
      repeat (first | (apply wpR_val; intro K hK; go_simp; refine ⟨rfl, hK _ ?_⟩; clear hK K) | (apply wpR_skip; intro K hK; go_simp; refine hK _ ?_; clear hK K))
      apply wpR_val (v := .bool true); intro K hK; go_simp; refine ⟨fun m => rcall (SM.out _), hK _ ?_⟩; clear hK K
      repeat (first | (apply wpR_val; intro K hK; go_simp; refine ⟨rfl, hK _ ?_⟩; clear hK K) | (apply wpR_skip; intro K hK; go_simp; refine hK _ ?_; clear hK K))
      apply wpR_val (v := .float .f64 4517110426252607488); intro K hK; go_simp; refine ⟨fun m => rcall (T20.out _), hK _ ?_⟩; clear hK K
      repeat (first | (apply wpR_val; intro K hK; go_simp; refine ⟨rfl, hK _ ?_⟩; clear hK K) | (apply wpR_skip; intro K hK; go_simp; refine hK _ ?_; clear hK K))
      apply wpR_val (v := .float .f64 4156822456062967808); intro K hK; go_simp; refine ⟨fun m => rcall (T100.out _), hK _ ?_⟩; clear hK K
      repeat (first | (apply wpR_val; intro K hK; go_simp; refine ⟨rfl, hK _ ?_⟩; clear hK K) | (apply wpR_skip; intro K hK; go_simp; refine hK _ ?_; clear hK K))
      apply wpR_nil (Rs := []); rintro _ ⟨nq, rfl⟩
      go_wp2_with fail
      go_ret
      exact ⟨rfl, below_drewN B3.out _⟩
    · go_wp2_with fail
      go_ret
      exact ⟨rfl, B3.out⟩
  · go_wp2_with fail
    go_ret
    exact ⟨rfl, B3.out⟩

set_option maxRecDepth 100000 in
theorem walk (A : Option Addr) (c : Nat) (bs : List Int) (w : World) (_ : bs.length ≤ maxLen) (hr : Rd w A (bs.map (.int .u8))) (hb : ∀ i, i < bs.length → 0 ≤ bs.getD i 0 ∧ bs.getD i 0 ≤ 255) :
    Calls Try.prog 13 #[.slice A bs.length c] w fun e w' => e = .returned (.bool true) ∧ Below w.heap.size w w' := by
  by_cases hm : bs.length ≤ 1048576
  · exact walk_some A c bs w hr hm hb
  · clear hb
    go_enter Try.func13, Try.ntmps13
    go_wp2
    go_ret
    exact ⟨rfl, Below.refl _ _⟩
set_option maxRecDepth 100000 in
theorem lifted (os : Os) (started : os.Started) (H : Type) (enc : TypeId × Value → H) :
    ReturnsInHanded {} Try.checked os 13 .any (Rows.fnMeasuredSpec.pre6 enc Try.prog Try.f13 Rows.fnMeasuredRow.domain false) (Rows.fnMeasuredSpec.post enc Try.prog Try.f13 false true false false) := by
  refine returnsInHanded_of_change (C := Try.checked) own started (by kernel_rfl) Try.func13
    (ChangeSpec.witness6 (enc := enc) (C := Try.checked) false ⟨#[], #[.slice none 0 0], []⟩ 8 (by kernel_rfl) (by kernel_rfl) (by kernel_rfl) (by kernel_rfl)) ?_
  intro W base args ds gs before hval0 hW hcnd _
  have hval : ∀ (j : Nat) t v, Try.f13.params[j]? = some t → args[j]? = some v → Value.okWide Try.prog W .any base t v := hval0
  have hW' := hW
  obtain ⟨p, q, hA0, hV, rfl, hfz, hnd⟩ := hW
  have hA : DataW.TrodAll enc Try.prog W 0 (fun _ => true) true Try.f13.params.toList args.toList ds p := hA0
  rw [Try.params13] at hA hval
  obtain ⟨v0, vs0, d0, ds0, p0, q0, hargs, rfl, rfl, h0, r0⟩ := trodAll_cons hA
  obtain ⟨rfl, rfl, rfl⟩ := trodAll_nil r0
  obtain rfl : args = #[v0] := by cases args; simp_all
  obtain ⟨rfl, rfl⟩ := trodVars_none hV
  obtain ⟨a0, len0, cap0, rfl⟩ := okWide_slice Try.underlying22 (hval 0 22 v0 rfl rfl)
  have lt0 : ∀ x ∈ p0, x.block < W.heap.size := by obtain ⟨m, hm⟩ := h0; exact DataW.trod_lt m _ _ _ hm
  obtain ⟨bs0, rfl, mx0, rd0, wf0⟩ := open_bytes rfl Try.underlying22 Try.underlying5 (by kernel_rfl) h0
  clear hA0 hval0
  refine (walk a0 cap0 bs0 W mx0 rd0 wf0).mono fun e W' ⟨he, bel⟩ => ?_
  subst he
  exact ⟨_, rfl, _, _, _, [], _, [], hW', trodAll_mk1 (shut_bool Try.underlying4 _), (trodAll_cons_mk (Below.trod laidOut (by kernel_rfl) (of_decide_eq_true (by kernel_rfl)) h0 bel lt0) trodAll_mk0), rfl, bel.frame _, fun h => by cases h⟩

theorem proved : Rows.FnMeasuredSaid :=
  OpenClaim.holds_of_wide 13 Try.f13 rfl rfl rfl rfl rfl rfl rfl ⟨rfl, rfl, rfl, rfl, rfl⟩ rfl rfl rfl rfl rfl (by kernel_rfl) Try.func13 (by kernel_rfl)
    (of_decide_eq_true (by kernel_rfl)) (by unfold Func.isWrapper; first | (rw [if_pos (by decide +kernel)]; kernel_rfl) | (rw [if_neg (by decide +kernel)]; exact ⟨rfl, rfl⟩))
    (fun os started H enc _ => lifted os started H enc)
#print axioms proved
end Go.Proofs.Ytignncjmbcdpaaa.lawMeasured
