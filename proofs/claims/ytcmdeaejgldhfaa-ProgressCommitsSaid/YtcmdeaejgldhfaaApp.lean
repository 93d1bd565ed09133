/-
  append onto an empty slice that has no room: the result reads as what was appended. No program stands here.
-/
import Derived.Test.YtcmdeaejgldhfaaBase
set_option linter.unusedVariables false
set_option linter.unusedSimpArgs false
namespace Go.HB
open Go.RowKit
section
variable {α : Type}
/-- The cells of a slice that reads as a list. -/
theorem Rd.news {enc : Enc α} {W : World} {Fy : FP} {vy : Value} {ys : List α} (h : Rd enc W Fy vy ys) : ∃ A c, vy = .slice A ys.length c ∧ ∃ news : List Value, news.length = ys.length * enc.k ∧ (∀ u ∈ news, u.oneCell' = true) ∧ (∀ j y, ys[j]? = some y → enc.R W (fun b => Fy b ∧ CellAt W b) y ((news.drop (j * enc.k)).take enc.k)) ∧
      (0 < ys.length → ∃ ad, A = some ad ∧ ∀ j u, news[j]? = some u → W.cell? (ad.add j) = some u) := by
  obtain ⟨A, c, rfl, _, _, _, hc⟩ := h
  refine ⟨A, c, rfl, ?_⟩
  rcases Nat.eq_zero_or_pos ys.length with h0 | h0
  · exact ⟨[], by simp [h0], by simp, (fun j y hy => by rw [List.eq_nil_of_length_eq_zero h0] at hy; simp at hy), (fun h => by omega)⟩
  · obtain ⟨ad, hA, _, _, hr⟩ := hc h0
    have key : ∀ n, n ≤ ys.length → ∃ news : List Value, news.length = n * enc.k ∧ (∀ u ∈ news, u.oneCell' = true) ∧ (∀ j y, j < n → ys[j]? = some y → enc.R W (fun b => Fy b ∧ CellAt W b) y ((news.drop (j * enc.k)).take enc.k)) ∧
        ∀ j u, news[j]? = some u → W.cell? (ad.add j) = some u := by
      intro n
      induction n with
      | zero => intro _; exact ⟨[], by simp, by simp, (fun j y hj => by omega), (fun j u hu => by simp at hu)⟩
      | succ n ih =>
        intro hn'
        obtain ⟨news, e1, e2, e3, e4⟩ := ih (by omega)
        obtain ⟨cs, c1, c2⟩ := hr n _ (List.getElem?_eq_getElem (show n < ys.length by omega))
        have hcl := enc.len c1
        refine ⟨news ++ cs, by rw [List.length_append, e1, hcl, Nat.succ_mul], ?_, ?_, ?_⟩
        · intro u hu
          rcases List.mem_append.1 hu with hu | hu
          · exact e2 u hu
          · exact enc.one c1 u hu
        · intro j y hj hy
          rcases Nat.lt_or_ge j n with hjn | hjn
          · have hle : j * enc.k + enc.k ≤ news.length := by rw [e1, ← Nat.succ_mul]; exact Nat.mul_le_mul_right _ hjn
            rw [List.drop_append_of_le_length (by omega), List.take_append_of_le_length (by rw [List.length_drop]; omega)]
            exact e3 j y hjn hy
          · obtain rfl : j = n := by omega
            rw [List.getElem?_eq_getElem (show j < ys.length by omega)] at hy
            cases hy
            rw [← e1, List.drop_left, ← hcl, List.take_length]
            exact enc.lt c1
        · intro j u hu
          rcases Nat.lt_or_ge j news.length with hj | hj
          · rw [List.getElem?_append_left hj] at hu
            exact e4 j u hu
          · rw [List.getElem?_append_right hj] at hu
            have := c2 _ u hu
            rwa [← e1, Nat.add_sub_cancel' hj] at this
    obtain ⟨news, e1, e2, e3, e4⟩ := key ys.length (Nat.le_refl _)
    exact ⟨news, e1, e2, fun j y hy => e3 j y (List.getElem?_eq_some_iff.1 hy).1 hy, fun _ => ⟨ad, hA, e4⟩⟩

theorem run_append_lit {P : Program} {W : World} (enc : Enc α) (t ty e : TypeId) (z : Value) (ht : P.underlying t = some (.slice e)) (hinfo : (P.info? e).map (fun i => (i.zero, i.size, i.bytes)) = some (some z, enc.k, enc.bytes)) (hz : z.cells.size = enc.k)
    (g : Nat) (Fy : FP) (vy : Value) (ys : List α) (HY : Rd enc W Fy vy ys) :
    ∃ v1 w1, (Builtin.append_ #[t, t] ty #[.slice (some ⟨g, 0, none⟩) 0 0, vy]).run P W = .ok v1 w1 ∧ Rd enc w1 (fun b => geF W.heap.size b ∨ Fy b) v1 ys ∧ Below W.heap.size W w1 := by
  obtain ⟨i0, hi, hzz⟩ := Option.map_eq_some_iff.1 hinfo
  simp only [Prod.mk.injEq] at hzz
  obtain ⟨hz0, hz1, hz2⟩ := hzz
  have hby := HY.bytes_le
  have hml : ys.length ≤ maxLen := by obtain ⟨A, c, _, h1, h2⟩ := HY.slice; omega
  obtain ⟨A, c, rfl, news, e1, e2, e3, e4⟩ := HY.news
  rcases Nat.eq_zero_or_pos ys.length with h0 | h0
  · obtain rfl : ys = [] := List.eq_nil_of_length_eq_zero h0
    refine ⟨.slice (some ⟨g, 0, none⟩) 0 0, W, ?_, ⟨_, _, rfl, by simp, by simp [maxLen], by simp, (fun h => by simp at h)⟩, Below.refl _ _⟩
    cases A <;> simp [Builtin.append_, run_underlying ht, sizeOf, typeInfo, hi, Builtin.lenOf, Builtin.firstCells, loadCells, loadCellsFrom, storeCells]
  · obtain ⟨ad, rfl, hnews⟩ := e4 h0
    have hsmall : ys.length ≤ 9223372036854775807 := by simp only [maxLen] at hml; omega
    have hr := run_append_grow (P := P) W t ty e i0 z ht hi hz0 ⟨g, 0, none⟩ 0 0 [] (by simp) (fun j u hu => by simp at hu) ad ys.length c news (by rw [hz1]; exact e1) hnews (by omega) (by omega) (growslice_fits (by omega) (by rw [hz2, Nat.zero_add]; exact hby))
    have hge := grownCap_ge W ys.length 0 e
    have hcm : grownCap W ys.length 0 e ≤ maxLen := grownCap_le_maxLen W ys.length 0 e hml
    simp only [Nat.zero_add] at hr
    refine ⟨_, _, hr, ?_, ⟨rfl, rfl, rfl, by simp, fun k hk => Below.heap_alloc W.drew _ k hk⟩⟩
    refine ⟨_, _, rfl, hge, hcm, hby, fun _ => ⟨_, rfl, .inl (Nat.le_refl _), ⟨_, _, _, heap_alloc_new W.drew _⟩, fun j x hx => ?_⟩⟩
    have hjl : j < ys.length := (List.getElem?_eq_some_iff.1 hx).1
    have hle : j * enc.k + enc.k ≤ news.length := by rw [e1, ← Nat.succ_mul]; exact Nat.mul_le_mul_right _ hjl
    have hA : Agree (fun b => Fy b ∧ CellAt W b) W (W.drew.alloc (.cells (([] : List Value).toArray ++ news.toArray ++ Builtin.zeroCells z.cells (grownCap W ys.length 0 e - ys.length)) e)) :=
      fun b hb => Below.heap_alloc W.drew _ b hb.2.lt
    refine ⟨_, enc.mono (fun b hb => .inr hb.1) (enc.move hA (e3 j x hx)), fun i u hu => ?_⟩
    rw [List.getElem?_take] at hu
    split at hu
    · rename_i hik
      rw [List.getElem?_drop] at hu
      rw [add_at, Nat.zero_add]
      refine (cell_of_row _ W.heap.size _ _ e (0, 0) (heap_alloc_new W.drew _)).trans ?_
      have hlt : j * enc.k + i < news.length := by omega
      rw [← Array.getElem?_toList]
      simp only [Array.toList_append, List.nil_append]
      rw [List.getElem?_append_left (by simpa using hlt)]
      simpa using hu
    · cases hu
/-- The same at a step of a region that draws its order. -/
theorem app_step {P : Program} {ops : Array Oper} {o : Oper} {a : Act} {K : Act → World → Prop} {Q : Exit → Act → World → Prop} {E : Prop} {W : World} (enc : Enc α) (hgd : o.guard = none) (s x : Operand) (t e : TypeId) (z : Value)
    (ho : o.op = .call { callee := .builtin .append, args := #[s, x], argTypes := #[t, t] })
    (ht : P.underlying t = some (.slice e)) (hinfo : (P.info? e).map (fun i => (i.zero, i.size, i.bytes)) = some (some z, enc.k, enc.bytes)) (hz : z.cells.size = enc.k)
    (Fy : FP) (vy : Value) (ys : List α) (hs : ∃ g, a.eval s = .slice (some ⟨g, 0, none⟩) 0 0) (hx : a.eval x = vy) (HY : Rd enc W Fy vy ys)
    (h : ∀ v1 w1, Rd enc w1 (fun b => geF W.heap.size b ∨ Fy b) v1 ys → Below W.heap.size W w1 → K (a.put o.dst v1) w1) :
    if Region.wanted o (yielded ops a.tmps) = true then Oper.wp P o a W K Q else E := by
  rw [if_pos (show Region.wanted o (yielded ops a.tmps) = true by simp [Region.wanted, hgd])]
  obtain ⟨g, hs⟩ := hs
  obtain ⟨v1, w1, hr, h1, h2⟩ := run_append_lit (P := P) enc t o.type e z ht hinfo hz g Fy vy ys HY
  unfold Oper.wp execOp
  simp only [ho, resolve, invoke, builtin, Sem.run_bind, Sem.run_pure, Result.andThen_ok, List.map_toArray, List.map_cons, List.map_nil, hs, hx, hr]
  exact h v1 w1 h1 h2
/-- The same in a plain region. -/
theorem app_plain {P : Program} {ops : Array Oper} {rest : List Oper} {o : Oper} {a : Act} {Q : Exit → Act → World → Prop} {W : World} (enc : Enc α) (hgd : o.guard = none) (s x : Operand) (t e : TypeId) (z : Value)
    (ho : o.op = .call { callee := .builtin .append, args := #[s, x], argTypes := #[t, t] })
    (ht : P.underlying t = some (.slice e)) (hinfo : (P.info? e).map (fun i => (i.zero, i.size, i.bytes)) = some (some z, enc.k, enc.bytes)) (hz : z.cells.size = enc.k)
    (Fy : FP) (vy : Value) (ys : List α) (hs : ∃ g, a.eval s = .slice (some ⟨g, 0, none⟩) 0 0) (hx : a.eval x = vy) (HY : Rd enc W Fy vy ys)
    (h : ∀ A1 c1 w1, Rd enc w1 (fun b => geF W.heap.size b ∨ Fy b) (.slice A1 ys.length c1) ys → Below W.heap.size W w1 → ys.length ≤ c1 → c1 ≤ maxLen → wpList P ops Q rest (a.put o.dst (.slice A1 ys.length c1)) w1) : wpList P ops Q (o :: rest) a W := by
  obtain ⟨g, hs⟩ := hs
  obtain ⟨v1, w1, hr, h1, h2⟩ := run_append_lit (P := P) enc t o.type e z ht hinfo hz g Fy vy ys HY
  refine wpList_plain hgd fun K hK => ?_
  unfold Oper.wp execOp
  simp only [ho, resolve, invoke, builtin, Sem.run_bind, Sem.run_pure, Result.andThen_ok, List.map_toArray, List.map_cons, List.map_nil, hs, hx, hr]
  obtain ⟨A1, c1, rfl, h3, h4⟩ := h1.slice
  exact hK _ _ (h A1 c1 w1 h1 h2 h3 h4)
theorem bel_undrew {B : Nat} {w W : World} (h : Below B w W.drew) : Below B w W := ⟨h.os, h.tape, h.output, h.size, h.block⟩
end
end Go.HB
