/-
spec.MakeSmall: samples that are finite and small.
-/
import Derived.Test.YtignncjmbcdpaaaGen
import Derived.Test.YtignncjmbcdpaaaSlices32
namespace Go.Proofs.Ytignncjmbcdpaaa
open Go Go.RowKit Ieee

/-- A sample drawn: 'j' thousandths of 'm'. -/
def sm (m : Nat) (j : Int) : Nat := fo .quo .f32 (fo .mul .f32 m (floatOfInt .f32 j)) 1148846080
def SmallAt (m b : Nat) : Prop := ∃ j : Int, -1000 ≤ j ∧ j ≤ 1000 ∧ nrm .f32 b = sm m j ∧ wfk .f32 b

theorem smallAt_new {m : Nat} {i : Int} (h1 : -1000 ≤ i) (h2 : i ≤ 1000) (w w' : World) : SmallAt m (fR .quo .f32 (fR .mul .f32 m (floatOfInt .f32 i) w) 1148846080 w') :=
  ⟨i, h1, h2, by rw [nrm_fR]; exact fo_congr (by rw [nrm_fR, nrm_fo]) rfl, fR_lt _ _ _ _ _⟩
theorem small_snoc {m : Nat} {xs : List Nat} {x : Nat} (h : ∀ y ∈ xs, SmallAt m y) (hx : SmallAt m x) : ∀ y ∈ xs ++ [x], SmallAt m y := by
  intro y hy
  rcases List.mem_append.1 hy with h1 | h1
  · exact h y h1
  · simp at h1; subst h1; exact hx

theorem own_rd {w : World} {base n : Nat} {e : TypeId} {v : Value} {xs : List Value} (h : w.ownsRow base e 1 v n xs) : ∃ A cap, v = .slice A n cap ∧ xs.length = n ∧ Rd w A xs := by
  obtain ⟨hl, ⟨rfl, rfl⟩ | ⟨g, cap, cur, rfl, hb, hg, hn, hc, hs, ht⟩⟩ := h
  · exact ⟨none, 0, rfl, by simpa using hl, fun h => by simp at hl; simp [hl] at h⟩
  · refine ⟨some ⟨g, 0, none⟩, cap, rfl, by simpa using hl, fun h => ⟨g, 0, rfl, ?_, fun k u hu => ?_⟩⟩
    · rcases Nat.lt_or_ge g w.heap.size with h1 | h1
      · exact h1
      · rw [Array.getElem?_eq_none h1] at hg; cases hg
    · rw [Nat.zero_add, cell_of_row w g k _ _ (0, 0) hg]
      rw [← ht] at hu
      have : cur.toList[k]? = some u := by
        rw [List.getElem?_take] at hu
        split at hu
        · exact hu
        · cases hu
      simpa using this

theorem below_of_step {B : Nat} {w w' : World} {g : Nat} (h : CurStep w w' g) (hg : B ≤ g) (hB : B ≤ w.heap.size) : Below B w w' :=
  ⟨h.2.os, h.2.tape, h.2.output, h.2.size, fun k hk => h.2.block k (by omega) (fun e => by cases e; omega)⟩
theorem Cur.alloc {w : World} {g : Nat} (h : Cur w g) (o : Obj) : Cur (w.alloc o) g := by
  have hlt := h.lt
  obtain ⟨A, n, c, bs, i, h, hb, hl, hm, hr, h1, h2⟩ := h
  exact ⟨A, n, c, bs, i, h, (Below.heap_alloc w o g hlt).trans hb, hl, hm, hr.keep (fun j hj => Below.heap_alloc w o j (by omega)), h1, h2⟩
theorem Cur.drewN {w : World} {g : Nat} (h : Cur w g) (n : Nat) : Cur (w.drewN n) g := h
theorem Cur.grown {w w' : World} {g : Nat} {row : Option Nat} (h : Cur w g) (hg : w.grownBy w' row) (hr : ∀ k, row = some k → g < k) : Cur w' g := by
  have hlt := h.lt
  obtain ⟨A, n, c, bs, i, h, hb, hl, hm, hrd, h1, h2⟩ := h
  have ne : ∀ j, j ≤ g → some j ≠ row := fun j hj e => by have := hr j e.symm; omega
  exact ⟨A, n, c, bs, i, h, (hg.block g hlt (ne g (Nat.le_refl _))).trans hb, hl, hm, hrd.keep (fun j hj => hg.block j (by omega) (ne j (by omega))), h1, h2⟩
theorem owns_empty (w : World) (e : TypeId) : (w.alloc (.cells #[] e)).ownsRow w.heap.size e 1 (.slice (some ⟨w.heap.size, 0, none⟩) 0 0) 0 [] :=
  ⟨rfl, .inr ⟨w.heap.size, 0, #[], rfl, Nat.le_refl _, heap_alloc_new w _, Nat.le_refl _, by simp, rfl, rfl⟩⟩
/-- The state of a loop that draws and gathers: the cursor in block 'g', the row gathered in a block from 'B' on. -/
structure Gath (w0 wr : World) (g B : Nat) (T : TypeId) (v : Value) (vs : List Value) : Prop where
  cur : Cur wr g
  own : wr.ownsRow B T 1 v vs.length vs
  below : Below w0.heap.size w0 wr
  size : B ≤ wr.heap.size
  gB : g < B
  wg : w0.heap.size ≤ g
theorem Gath.step {w0 w w' : World} {g B : Nat} {T : TypeId} {v : Value} {vs : List Value} (h : Gath w0 w g B T v vs) (s : CurStep w w' g) : Gath w0 w' g B T v vs :=
  ⟨s.1, h.own.kept s.2 (by
      cases hv : v.ownBlock with
      | none => exact .inl rfl
      | some j => right; intro e; injection e with e; have := (h.own.lt j hv).1; have := h.gB; omega),
    h.below.trans (below_of_step s h.wg h.below.size), Nat.le_trans h.size s.2.size, h.gB, h.wg⟩
theorem Gath.drewN {w0 w : World} {g B : Nat} {T : TypeId} {v : Value} {vs : List Value} (h : Gath w0 w g B T v vs) (n : Nat) : Gath w0 (w.drewN n) g B T v vs :=
  ⟨h.cur, h.own, below_drewN h.below n, h.size, h.gB, h.wg⟩
theorem Cur.below {w w' : World} {g B : Nat} (h : Cur w g) (hb : Below B w w') (hg : g < B) : Cur w' g := by
  obtain ⟨A, n, c, bs, i, h, hbl, hl, hm, hrd, h1, h2⟩ := h
  exact ⟨A, n, c, bs, i, h, (hb.block g hg).trans hbl, hl, hm, hrd.keep (fun j hj => hb.block j (by omega)), h1, h2⟩
theorem Gath.app {w0 w w' : World} {g B : Nat} {T : TypeId} {v v' : Value} {vs : List Value} {x : Value} (h : Gath w0 w g B T v vs) (hown : w'.ownsRow B T 1 v' (vs.length + 1) (vs ++ [x]))
    (hb : Below B w w') : Gath w0 w' g B T v' (vs ++ [x]) :=
  ⟨h.cur.below hb h.gB, by simpa using hown, h.below.trans (hb.mono (by have := h.gB; have := h.wg; omega)), Nat.le_trans h.size hb.size, h.gB, h.wg⟩

/-- 'out = append(out, u)': one element onto a row of the call's own. -/
theorem wpList_app1 {P : Program} {w0 : World} {ops : Array Oper} {rest : List Oper} {o : Oper} {a : Act} {Q : Exit → Act → World → Prop} (hgd : o.guard = none) (s x : Operand) (t : TypeId)
    (ho : o.op = .call { callee := .builtin .append, args := #[s, x], argTypes := #[t, t] })
    (B : Nat) (e : TypeId) (z : Value) (bytes : Nat) (ht : P.underlying t = some (.slice e)) (hinfo : (P.info? e).map (fun i => (i.zero, i.size, i.bytes)) = some (some z, 1, bytes)) (hzs : z.cells.size = 1)
    (v : Value) (n : Nat) (xs : List Value) (u : Value) (hs : a.eval s = v) (hx : a.eval x = .slice (some ⟨w0.heap.size, 0, none⟩) 1 1) (hu : u.oneCell' = true) (hown : w0.ownsRow B e 1 v n xs) (hB : B ≤ w0.heap.size)
    (h63 : n + 1 ≤ 1048576) (hby : bytes ≤ 1024)
    (h : ∀ v' w', w'.ownsRow B e 1 v' (n + 1) (xs ++ [u]) → Below B w0 w' → wpList P ops Q rest (a.put o.dst v') w') : wpList P ops Q (o :: rest) a (w0.alloc (.cells #[u] e)) := by
  obtain ⟨i, hi, hzz⟩ := Option.map_eq_some_iff.1 hinfo
  simp only [Prod.mk.injEq] at hzz
  obtain ⟨hz, hsz, hb⟩ := hzz
  refine wpList_append_own _ hgd s x t ho B e i z 1 bytes ht hi hz hsz hb hzs (by decide) v n xs hs (hown.alloc _) ⟨w0.heap.size, 0, none⟩ 1 1 [u] hx rfl ?_ ?_ ?_ ?_ ?_ ?_
  · intro j y hy
    have hb' : (w0.alloc (.cells #[u] e)).heap[w0.heap.size]? = some (.cells #[u] e (0, 0)) := heap_alloc_new w0 _
    match j, hy with
    | 0, hy =>
      simp at hy; subst hy
      exact (cell_of_row _ _ 0 _ _ (0, 0) hb').trans (by simp)
  · intro y hy; simp at hy; subst hy; exact hu
  · simp only [maxLen]; omega
  · have := Nat.mul_le_mul h63 hby; omega
  · simp; omega
  · intro v' w' h2 h3 _
    refine h v' w' h2 ?_
    have h4 : Below B w0 (w0.alloc (.cells #[u] e)) := (Below.refl _ _).alloc hB _
    exact h4.grown h3 (Nat.le_trans hB h4.size) (fun k hk => (hown.lt k hk).1)

set_option maxRecDepth 100000 in
set_option maxHeartbeats 2000000 in
theorem makeSmall_any (A : Option Addr) (c : Nat) (bs : List Int) (m : Nat) (w : World) (hr : Rd w A (bs.map (.int .u8))) (hm : bs.length ≤ 1048576) :
    Calls Try.prog 15 #[.slice A bs.length c, .float .f32 m] w fun e w' => ∃ (A' : Option Addr) (c' : Nat) (xs : List Nat), e = .returned (.slice A' xs.length c') ∧ Rd w' A' (f32s xs) ∧
      xs.length ≤ 11 ∧ (∀ x ∈ xs, SmallAt m x) ∧ Below w.heap.size w w' := by
  obtain ⟨i0, hi, hz0, hz1, hz2⟩ := info_parts f32_info
  go_enter Try.func15, Try.ntmps15
  go_wp2_with fail
  refine (new_any A c bs w hr hm).mono ?_
  rintro e w1 ⟨g, rfl, hg, hcur, hb1⟩
  go_wp2_with fail
  have G0 : Gath w (w1.alloc (.cells #[] 25)) g w1.heap.size 25 (.slice (some ⟨w1.heap.size, 0, none⟩) 0 0) (f32s []) :=
    ⟨hcur.alloc _, owns_empty _ _, hb1.alloc hb1.size _, by simp, hcur.lt, hg⟩
  refine (below_any g 12 _ G0.cur (by omega) (by omega)).mono ?_
  rintro e w2 ⟨k0, rfl, ⟨hk0, hk1⟩, hs1⟩
  have G1 := G0.step hs1
  clear hb1 hs1 hcur G0 hr
  generalize w1.heap.size = B at *
  go_wp2_with fail
  go_loopw [6, 7] (fun v kk wr => ∃ (k : Int) (xs : List Nat), kk = .int .i64 k ∧ 0 ≤ k ∧ k + xs.length ≤ 11 ∧ Gath w wr g B 25 v (f32s xs) ∧ ∀ x ∈ xs, SmallAt m x) (fun _ kk _ => (intOf kk).toNat)
  case atStart => exact ⟨k0, [], rfl, by omega, by simp; omega, G1, by simp⟩
  case round =>
    obtain ⟨k, xs, rfl, hk, hkl, G, hall⟩ := hrel
    by_cases hp : 0 < k
    · go_wp2_with fail
      refine (below_any g 2001 _ G.cur (by omega) (by omega)).mono ?_
      rintro e w3 ⟨j, rfl, ⟨hj0, hj1⟩, hs⟩
      have G2 := G.step hs
      clear hs G
      have hsz := G2.size
      have hlen : (f32s xs).length + 1 ≤ 1048576 := by rw [List.length_map]; omega
      go_wp2_with (at_builtin; refine wpList_app1 rfl (.tmp 17) (.tmp 25) 23 rfl B 25 (.float .f32 0) 4 Try.underlying23 f32_info rfl u6 (f32s xs).length (f32s xs) _ rfl rfl rfl (G2.drewN _).own hsz hlen (by omega) ?_; intro v' w' hown' hbel'; have G3 := (G2.drewN _).app hown' hbel')
      go_roundw
      case rel => exact ⟨k - 1, xs ++ [_], by go_num, by omega, by simp; omega, by simpa [f32s] using G3, small_snoc hall (smallAt_new (by omega) (by omega) _ _)⟩
      case measure => simp [intOf]; omega
    · go_wp2
      go_ret
      obtain ⟨A', cap, hv, _, hrd⟩ := own_rd G.own
      exact ⟨A', cap, xs, by simp only [List.length_map] at hv; rw [← hv]; rfl, hrd, by omega, hall, G.below⟩
end Go.Proofs.Ytignncjmbcdpaaa
