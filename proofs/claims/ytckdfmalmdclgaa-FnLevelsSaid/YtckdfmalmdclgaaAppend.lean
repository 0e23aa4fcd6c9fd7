/-
'append(out, xs...)': a slice that reads as a list onto a row of the call's own.
-/
import Derived.Test.YtckdfmalmdclgaaSmall
namespace Go.Proofs.Ytckdfmalmdclgaa
open Go Go.RowKit

theorem run_append_none {P : Program} (w : World) (t ty e : TypeId) (i : TypeInfo) (ht : P.underlying t = some (.slice e)) (hi : P.info? e = some i) {base n size : Nat} {v : Value} {xs : List Value}
    (hown : w.ownsRow base e size v n xs) (c : Nat) : (Builtin.append_ #[t, t] ty #[v, .slice none 0 c]).run P w = .ok v w := by
  rcases hown.2 with ⟨rfl, rfl⟩ | ⟨g, cap, cur, rfl, _, _, hnc, _⟩
  · simp [Builtin.append_, run_underlying ht, sizeOf, typeInfo, hi, Builtin.lenOf, Builtin.firstCells]
  · simp [Builtin.append_, run_underlying ht, sizeOf, typeInfo, hi, Builtin.lenOf, Builtin.firstCells, hnc, storeCells]

theorem wpList_appRd {P : Program} {w : World} {ops : Array Oper} {rest : List Oper} {o : Oper} {a : Act} {Q : Exit → Act → World → Prop} (hgd : o.guard = none) (s x : Operand) (t : TypeId)
    (ho : o.op = .call { callee := .builtin .append, args := #[s, x], argTypes := #[t, t] })
    (B : Nat) (e : TypeId) (z : Value) (bytes : Nat) (ht : P.underlying t = some (.slice e)) (hinfo : (P.info? e).map (fun i => (i.zero, i.size, i.bytes)) = some (some z, 1, bytes)) (hzs : z.cells.size = 1)
    (v : Value) (n : Nat) (xs : List Value) (A : Option Addr) (m c : Nat) (news : List Value) (hs : a.eval s = v) (hx : a.eval x = .slice A m c) (hu : ∀ u ∈ news, u.oneCell' = true) (hown : w.ownsRow B e 1 v n xs) (hB : B ≤ w.heap.size)
    (hr : Rd w A news) (hm : news.length = m) (h63 : n + m ≤ 1048576) (hby : bytes ≤ 1024)
    (h : ∀ v' w', w'.ownsRow B e 1 v' (n + m) (xs ++ news) → Below B w w' → wpList P ops Q rest (a.put o.dst v') w') : wpList P ops Q (o :: rest) a w := by
  obtain ⟨i, hi, hzz⟩ := Option.map_eq_some_iff.1 hinfo
  simp only [Prod.mk.injEq] at hzz
  obtain ⟨hz, hsz, hb⟩ := hzz
  rcases A with _ | ad
  · have hm0 : news = [] := by
      rcases Nat.eq_zero_or_pos news.length with h0 | h0
      · exact List.eq_nil_of_length_eq_zero h0
      · obtain ⟨b, off, h1, _⟩ := hr h0; cases h1
    subst hm0
    simp at hm; subst hm
    refine wpList_plain hgd fun K hK => ?_
    have hrun := run_append_none (P := P) w t o.type e i ht hi hown c
    unfold Oper.wp execOp
    simp only [ho, resolve, invoke, builtin, Sem.run_bind, Sem.run_pure, Result.andThen_ok, List.map_toArray, List.map_cons, List.map_nil, hs, hx, hrun]
    exact hK _ _ (h v w (by simpa using hown) (Below.refl _ _))
  · have hcells : ∀ j u, news[j]? = some u → w.cell? (ad.add j) = some u := fun j u hj => by
      have hpos : 0 < news.length := by
        rcases Nat.eq_zero_or_pos news.length with h0 | h0
        · rw [List.eq_nil_of_length_eq_zero h0] at hj; simp at hj
        · exact h0
      obtain ⟨b, off, h1, _, hc⟩ := hr hpos
      injection h1 with h1
      subst h1
      have := hc j u hj
      rw [← this]
      congr 1
      unfold Addr.add
      by_cases h0 : j = 0 <;> simp [h0]
    refine wpList_append_own _ hgd s x t ho B e i z 1 bytes ht hi hz hsz hb hzs (by decide) v n xs hs hown ad m c news hx (by omega) hcells hu ?_ ?_ hB ?_
    · simp only [maxLen]; omega
    · have := Nat.mul_le_mul h63 hby; omega
    · intro v' w' h2 h3 _
      exact h v' w' h2 ((Below.refl _ _).grown h3 hB (fun k hk => (hown.lt k hk).1))
end Go.Proofs.Ytckdfmalmdclgaa
