/-
The law FnLevels returns true for all codes. No condition.
-/
import Derived.Test.YtckdfmalmdclgaaLevelsVal
import Derived.Test.YtckdfmalmdclgaaAppend
import Derived.Test.YtckdfmalmdclgaaOpen
namespace Go.Proofs.Ytckdfmalmdclgaa.lawLevels
open Go Go.RowKit Go.ChangeShapes Go.WideShapes

def metB (xs : List Nat) (P k : Nat) : Bool := (xs.take k).any fun x => feq .f32 x P || feq .f32 (Op.negFloat .f32 x) P
theorem met_snoc {xs : List Nat} {P k : Nat} (h : k < xs.length) : metB xs P (k + 1) = (metB xs P k || (feq .f32 (xs.getD k 0) P || feq .f32 (Op.negFloat .f32 (xs.getD k 0)) P)) := by
  unfold metB; rw [take_snoc h]; simp
theorem hundred : fin .f32 1120403456 ∧ ab (fv .f32 1120403456) ≤ 100 := by
  have h : FloatKind.f32.format.read 1120403456 = .number false 13107200 (-17) := by decide +kernel
  obtain ⟨h1, h2⟩ := fin_of_read h
  refine ⟨h1, ?_⟩
  rw [h2, dval_ab]
  unfold mval pw
  grind
theorem good_of_small {x : Nat} (h : SmallAt 1120403456 x) : Good x := by
  have := small_spec hundred.1 hundred.2 (by decide) h
  exact ⟨this.1, by grind⟩

theorem cross_lt (xs : List Nat) {n : Nat} (h : 0 < n) : cross xs n < n := by
  induction n with
  | zero => omega
  | succ n ih =>
    rcases Nat.eq_zero_or_pos n with h0 | h0
    · subst h0; simp [cross]
    · have := ih h0
      simp only [cross]; split <;> omega

set_option maxRecDepth 100000 in
set_option maxHeartbeats 600000 in
theorem walk_some (A : Option Addr) (c : Nat) (bs : List Int) (w : World) (hr : Rd w A (bs.map (.int .u8))) (hm : bs.length ≤ 1048576) :
    Calls Try.prog 7 #[.slice A bs.length c] w fun e w' => e = .returned (.bool true) ∧ Below w.heap.size w w' := by
  have hlen0 : ¬ (1048576 : Int) < (bs.length : Int) := by omega
  go_enter Try.func7, Try.ntmps7
  go_wp2_with fail
  refine (makeSmall_any A c bs _ w hr hm).mono ?_
  rintro e w1 ⟨A', c', xs, rfl, hrd, hlen, hall, hb1⟩
  have hgood : ∀ x ∈ xs, Good x := fun x hx => good_of_small (hall x hx)
  have hwf : ∀ i, i < xs.length → wfk .f32 (xs.getD i 0) := fun i hi => by
    obtain ⟨_, _, _, _, h⟩ := hall _ (List.getElem_mem hi)
    simpa [List.getD, List.getElem?_eq_getElem hi] using h
  have Hgood := Lib.hid hgood
  have B1 := Lib.hid hb1
  have Hlen := Lib.hid hlen
  have Hwf := Lib.hid hwf
  clear hgood hall hb1 hr hwf
  go_wp2_with fail
  refine (peak_any A' c' xs _ hrd (by omega) Hwf.out).mono ?_
  rintro e w' ⟨rfl, rfl⟩
  go_wp2_with fail
  refine (energy_any A' c' xs _ hrd (by omega)).mono ?_
  rintro e w' ⟨re, n1, rfl, hre, wre, rfl⟩
  have Hre := Lib.hid hre
  have B2 := Lib.hid (below_drewN B1.out n1)
  have hrd := hrd.drewN n1
  clear hre B1
  generalize w1.drewN n1 = W at *
  by_cases hne : xs = []
  · have hz : ((xs.length : Int) == 0) = true := by rw [hne]; rfl
    have hp0 : feq .f32 (peakL xs) 0 = true := by rw [hne]; decide +kernel
    have hle0 : xs.length ≤ 0 := by rw [hne]; exact Nat.le_refl _
    have Hge := Lib.hid (fun w1 w2 w3 => energy_ge Hgood.out Hlen.out Hre.out w1 w2 w3)
    have Hne := Lib.hid hne
    clear hne
    generalize peakL xs = P at *
    go_wp2_with fail
    go_loop [6, 8, 30] (fun m _ i => ∃ k : Nat, k ≤ xs.length ∧ i = .int .i64 k ∧ m = .bool true) (fun _ _ i => xs.length - (intOf i).toNat)
    case atStart => exact ⟨0, by omega, rfl, rfl⟩
    case round =>
      obtain ⟨k, hk, rfl, rfl⟩ := hrel
      have hlt : ¬ k < xs.length := by omega
      have hone : ∀ u ∈ f32s xs, u.oneCell' = true := by simp [f32s]; intro a _; rfl
      have hsz0 : W.heap.size ≤ (W.alloc (.cells #[] 27)).heap.size := by simp
      have hb0 : Below W.heap.size W (W.alloc (.cells #[] 27)) := (Below.refl _ _).alloc (Nat.le_refl _) _
      have hrdx : Rd (W.alloc (.cells #[] 27)) A' (f32s xs) := hrd.below hb0
      have hlenx : 0 + xs.length ≤ 1048576 := by omega
      have hown0 := owns_empty W 27
      have hlx : (f32s xs).length = xs.length := by simp
      have Hlx := Lib.hid hlx
      clear hlx
      go_wp2_with (first
        | (at_builtin; refine wpList_appRd rfl (.tmp 56) (.tmp 57) 22 rfl W.heap.size 27 (.float .f32 0) 4 Try.underlying22 f32_info rfl (.slice (some ⟨W.heap.size, 0, none⟩) 0 0) 0 [] A' xs.length c' (f32s xs) rfl rfl hone hown0 hsz0 hrdx Hlx.out hlenx (by omega) ?_; intro v1 w2 hown1 hbel1; have hsz2 := hbel1.size)
        | (at_builtin; refine wpList_app1 rfl (.tmp 58) (.tmp 59) 22 rfl W.heap.size 27 (.float .f32 0) 4 Try.underlying22 f32_info rfl v1 (0 + xs.length) ([] ++ f32s xs) _ rfl rfl rfl hown1 (Nat.le_trans hsz0 hsz2) (by omega) (by omega) ?_; intro v2 w3 hown2 hbel2))
      have b3 : Below W.heap.size W w3 := (hb0.trans hbel1).trans hbel2
      have hrd3 : Rd w3 A' (f32s xs) := hrd.below b3
      have B3 := Lib.hid (B2.out.trans (b3.mono B2.out.size))
      rw [Nat.zero_add, List.nil_append] at hown2
      obtain ⟨A2, c2, rfl, hl2, hrd2⟩ := own_rd hown2
      have hrd4 : Rd w3 A2 (f32s (xs ++ [1077936128])) := by simpa [f32s] using hrd2
      have hl4 : (xs ++ [1077936128]).length = xs.length + 1 := by simp
      have Hl4 := Lib.hid hl4
      clear hb0 hbel1 hbel2 hown1 hown2 hown0 hsz0 hsz2 hrdx hrd hl2 hrd2 b3 hl4 hone
      refine (impl_crossings A' c' xs _ hrd3 (by omega)).mono ?_
      rintro e w' ⟨rfl, rfl⟩
      go_wp2_with fail
      refine (impl_pitch A' c' xs 1000 _ hrd3 (by omega)).mono ?_
      rintro e w' ⟨rp, n2, rfl, hrp, wrp, rfl⟩
      have hpe : feq .f64 rp 0 = true := by
        have h1 : feq .f64 rp 0 = feq .f64 0 0 := feq_congr (by rw [hrp, Hne.out]; decide +kernel) rfl
        rw [h1]; decide +kernel
      clear hrp
      have hge := Hge.out
      have q1 : ((cross xs xs.length : Int) == 0) = true := by rw [Hne.out]; rfl
      have q2 : (0 : Int) ≤ (cross xs xs.length : Int) := by omega
      have he := fun W => energy_any A2 c2 (xs ++ [1077936128]) W
      rw [Hl4.out] at he
      have He := Lib.hid he
      clear he
      go_wp2_with fail
      refine (He.out _ ?_ (by omega)).mono ?_
      · exact hrd4
      rintro e w' ⟨rm, n3, rfl, hrm, wrm, rfl⟩
      have hfe := fun w => energy_more Hgood.out Hlen.out Hre.out hrm w
      clear hrm
      go_wp2_with fail
      go_ret
      exact ⟨rfl, below_drewN B3.out _⟩
  · have hne' : ((xs.length : Int) == 0) = false := beq_eq_false_iff_ne.2 (by have := List.length_pos_iff.2 hne; omega)
    have Htop := Lib.hid (fun i (hi : i < xs.length) => peak_top Hgood.out (x := xs.getD i 0) (by simp [List.getD, List.getElem?_eq_getElem hi]))
    have Hmet : Hid (metB xs (peakL xs) xs.length = true) := by
      obtain ⟨x, hx, h⟩ := peak_met Hgood.out hne
      show metB xs (peakL xs) xs.length = true
      unfold metB
      rw [List.take_of_length_le (Nat.le_refl _), List.any_eq_true]
      exact ⟨x, hx, h⟩
    have Hge := Lib.hid (fun w1 w2 w3 => energy_ge Hgood.out Hlen.out Hre.out w1 w2 w3)
    have Hne := Lib.hid hne
    clear hne
    generalize peakL xs = P at *
    go_wp2_with fail
    go_loop [6, 8, 30] (fun m _ i => ∃ k : Nat, k ≤ xs.length ∧ i = .int .i64 k ∧ m = .bool (metB xs P k)) (fun _ _ i => xs.length - (intOf i).toNat)
    case atStart => exact ⟨0, by omega, rfl, by simp [metB]⟩
    case round =>
      obtain ⟨k, hk, rfl, rfl⟩ := hrel
      by_cases hlt : k < xs.length
      · obtain ⟨b, off, rfl, hb, hc⟩ := hrd (by simp; omega)
        have e1 := hc k _ (f32s_at hlt)
        have Hs := Lib.hid (met_snoc (P := P) hlt)
        obtain ⟨g1, g2⟩ := Htop.out k hlt
        clear hc
        generalize xs.getD k 0 = x at *
        generalize metB xs P k = mb at *
        cases mb <;> cases t1 : feq .f32 x P <;> cases t2 : feq .f32 (Op.negFloat .f32 x) P
        all_goals
          go_wp2
          go_round
          case rel => exact ⟨k + 1, by omega, by go_num, by rw [Hs.out, t1, t2]; rfl⟩
          case measure => simp [intOf]; omega
      · obtain rfl : k = xs.length := by omega
        have hmt := Hmet.out
        have hone : ∀ u ∈ f32s xs, u.oneCell' = true := by simp [f32s]; intro a _; rfl
        have hsz0 : W.heap.size ≤ (W.alloc (.cells #[] 27)).heap.size := by simp
        have hb0 : Below W.heap.size W (W.alloc (.cells #[] 27)) := (Below.refl _ _).alloc (Nat.le_refl _) _
        have hrdx : Rd (W.alloc (.cells #[] 27)) A' (f32s xs) := hrd.below hb0
        have hlenx : 0 + xs.length ≤ 1048576 := by omega
        have hown0 := owns_empty W 27
        have hlx : (f32s xs).length = xs.length := by simp
        have Hlx := Lib.hid hlx
        clear hlx
        go_wp2_with (first
          | (at_builtin; refine wpList_appRd rfl (.tmp 56) (.tmp 57) 22 rfl W.heap.size 27 (.float .f32 0) 4 Try.underlying22 f32_info rfl (.slice (some ⟨W.heap.size, 0, none⟩) 0 0) 0 [] A' xs.length c' (f32s xs) rfl rfl hone hown0 hsz0 hrdx Hlx.out hlenx (by omega) ?_; intro v1 w2 hown1 hbel1; have hsz2 := hbel1.size)
          | (at_builtin; refine wpList_app1 rfl (.tmp 58) (.tmp 59) 22 rfl W.heap.size 27 (.float .f32 0) 4 Try.underlying22 f32_info rfl v1 (0 + xs.length) ([] ++ f32s xs) _ rfl rfl rfl hown1 (Nat.le_trans hsz0 hsz2) (by omega) (by omega) ?_; intro v2 w3 hown2 hbel2))
        have b3 : Below W.heap.size W w3 := (hb0.trans hbel1).trans hbel2
        have hrd3 : Rd w3 A' (f32s xs) := hrd.below b3
        have B3 := Lib.hid (B2.out.trans (b3.mono B2.out.size))
        rw [Nat.zero_add, List.nil_append] at hown2
        obtain ⟨A2, c2, rfl, hl2, hrd2⟩ := own_rd hown2
        have hrd4 : Rd w3 A2 (f32s (xs ++ [1077936128])) := by simpa [f32s] using hrd2
        have hl4 : (xs ++ [1077936128]).length = xs.length + 1 := by simp
        have Hl4 := Lib.hid hl4
        clear hb0 hbel1 hbel2 hown1 hown2 hown0 hsz0 hsz2 hrdx hrd hl2 hrd2 b3 hl4 hone
        refine (impl_crossings A' c' xs _ hrd3 (by omega)).mono ?_
        rintro e w' ⟨rfl, rfl⟩
        go_wp2_with fail
        refine (impl_pitch A' c' xs 1000 _ hrd3 (by omega)).mono ?_
        rintro e w' ⟨rp, n2, rfl, hrp, wrp, rfl⟩
        have Hrp := Lib.hid hrp
        clear hrp
        have hge := Hge.out
        have hc0 := cross_le xs xs.length
        have hpe := fun w w' => pitch_eq Hlen.out Hne.out Hrp.out w w'
        have hxp : 0 < xs.length := List.length_pos_iff.2 Hne.out
        have q0 : (0 : Int) < (xs.length : Int) := by omega
        have q2 : (0 : Int) ≤ (cross xs xs.length : Int) := by omega
        have he := fun W => energy_any A2 c2 (xs ++ [1077936128]) W
        rw [Hl4.out] at he
        have He := Lib.hid he
        clear he
        have q3 : cross xs xs.length = 0 ∨ (cross xs xs.length : Int) < (xs.length : Int) := by
          rcases Nat.lt_or_ge (cross xs xs.length) xs.length with h | h
          · right; omega
          · exfalso; have := cross_lt xs hxp; omega
        by_cases hcz : cross xs xs.length = 0
        · have q1 : ((cross xs xs.length : Int) == 0) = true := by rw [hcz]; rfl
          have Hcz := Lib.hid hcz
          clear hcz q3
          go_wp2_with fail
          refine (He.out _ ?_ (by omega)).mono ?_
          · exact hrd4
          rintro e w' ⟨rm, n3, rfl, hrm, wrm, rfl⟩
          have hfe := fun w => energy_more Hgood.out Hlen.out Hre.out hrm w
          clear hrm
          go_wp2_with fail
          go_ret
          exact ⟨rfl, below_drewN B3.out _⟩
        · have q1 : ((cross xs xs.length : Int) == 0) = false := beq_eq_false_iff_ne.2 (by omega)
          have q4 : (cross xs xs.length : Int) < (xs.length : Int) := by omega
          clear hcz q3
          go_wp2_with fail
          refine (He.out _ ?_ (by omega)).mono ?_
          · exact hrd4
          rintro e w' ⟨rm, n3, rfl, hrm, wrm, rfl⟩
          have hfe := fun w => energy_more Hgood.out Hlen.out Hre.out hrm w
          clear hrm
          go_wp2_with fail
          go_ret
          exact ⟨rfl, below_drewN B3.out _⟩

theorem walk (A : Option Addr) (c : Nat) (bs : List Int) (w : World) (_ : bs.length ≤ maxLen) (hr : Rd w A (bs.map (.int .u8))) (_ : ∀ i, i < bs.length → 0 ≤ bs.getD i 0 ∧ bs.getD i 0 ≤ 255) :
    Calls Try.prog 7 #[.slice A bs.length c] w fun e w' => e = .returned (.bool true) ∧ Below w.heap.size w w' := by
  by_cases hm : bs.length ≤ 1048576
  · exact walk_some A c bs w hr hm
  · go_enter Try.func7, Try.ntmps7
    go_wp2
    go_ret
    exact ⟨rfl, Below.refl _ _⟩
set_option maxRecDepth 100000 in
theorem lifted (os : Os) (started : os.Started) (H : Type) (enc : TypeId × Value → H) :
    ReturnsInHanded {} Try.checked os 7 .any (Rows.fnLevelsSpec.pre6 enc Try.prog Try.f7 Rows.fnLevelsRow.domain false) (Rows.fnLevelsSpec.post enc Try.prog Try.f7 false true false false) := by
  refine returnsInHanded_of_change (C := Try.checked) own started (by kernel_rfl) Try.func7
    (ChangeSpec.witness6 (enc := enc) (C := Try.checked) false ⟨#[], #[.slice none 0 0], []⟩ 8 (by kernel_rfl) (by kernel_rfl) (by kernel_rfl) (by kernel_rfl)) ?_
  intro W base args ds gs before hval0 hW hcnd _
  have hval : ∀ (j : Nat) t v, Try.f7.params[j]? = some t → args[j]? = some v → Value.okWide Try.prog W .any base t v := hval0
  have hW' := hW
  obtain ⟨p, q, hA0, hV, rfl, hfz, hnd⟩ := hW
  have hA : DataW.TrodAll enc Try.prog W 0 (fun _ => true) true Try.f7.params.toList args.toList ds p := hA0
  rw [Try.params7] at hA hval
  obtain ⟨v0, vs0, d0, ds0, p0, q0, hargs, rfl, rfl, h0, r0⟩ := trodAll_cons hA
  obtain ⟨rfl, rfl, rfl⟩ := trodAll_nil r0
  obtain rfl : args = #[v0] := by cases args; simp_all
  obtain ⟨rfl, rfl⟩ := trodVars_none hV
  obtain ⟨a0, len0, cap0, rfl⟩ := okWide_slice Try.underlying36 (hval 0 36 v0 rfl rfl)
  have lt0 : ∀ x ∈ p0, x.block < W.heap.size := by obtain ⟨m, hm⟩ := h0; exact DataW.trod_lt m _ _ _ hm
  obtain ⟨bs0, rfl, mx0, rd0, wf0⟩ := open_bytes rfl Try.underlying36 Try.underlying5 (by kernel_rfl) h0
  clear hA0 hval0
  refine (walk a0 cap0 bs0 W mx0 rd0 wf0).mono fun e W' ⟨he, bel⟩ => ?_
  subst he
  exact ⟨_, rfl, _, _, _, [], _, [], hW', trodAll_mk1 (shut_bool Try.underlying4 _), (trodAll_cons_mk (Below.trod laidOut (by kernel_rfl) (of_decide_eq_true (by kernel_rfl)) h0 bel lt0) trodAll_mk0), rfl, bel.frame _, fun h => by cases h⟩

theorem proved : Rows.FnLevelsSaid :=
  OpenClaim.holds_of_wide 7 Try.f7 rfl rfl rfl rfl rfl rfl rfl ⟨rfl, rfl, rfl, rfl, rfl⟩ rfl rfl rfl rfl rfl (by kernel_rfl) Try.func7 (by kernel_rfl)
    (of_decide_eq_true (by kernel_rfl)) (by unfold Func.isWrapper; first | (rw [if_pos (by decide +kernel)]; kernel_rfl) | (rw [if_neg (by decide +kernel)]; exact ⟨rfl, rfl⟩))
    (fun os started H enc _ => lifted os started H enc)
#print axioms proved
end Go.Proofs.Ytckdfmalmdclgaa.lawLevels
