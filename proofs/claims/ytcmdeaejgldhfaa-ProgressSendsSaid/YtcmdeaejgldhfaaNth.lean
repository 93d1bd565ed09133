/-
  conf.Quorum, conf.Nth: make, copy, slices.Sort.
-/
import Derived.Test.YtcmdeaejgldhfaaViews
import Derived.Shelf.Sort.Plain
import Derived.Shelf.AbstractIn
import Derived.Test.YtcmdeaejgldhfaaLaySort
import Derived.Sort.OwnSortedInts
import Derived.Laws.IdiomCopy
import Derived.OwnWalk
set_option linter.unusedVariables false
set_option linter.unusedSimpArgs false
namespace Go.HB
open Go.RowKit
theorem setCells_far {g : Nat} : ∀ (vs : List Value) (o : Nat) {w : World} (k : Nat), k ≠ g → (w.setCells g o vs).heap[k]? = w.heap[k]?
  | [], _, _, _, _ => rfl
  | v :: r, o, w, k, hk => by
    rw [World.setCells, setCells_far r (o + 1) k hk]
    exact Below.heap_setCell w ⟨g, o, none⟩ v k hk
theorem setCells_same (g : Nat) : ∀ (vs : List Value) (o : Nat) (w : World), (w.setCells g o vs).os = w.os ∧ (w.setCells g o vs).tape = w.tape ∧ (w.setCells g o vs).output = w.output ∧ (w.setCells g o vs).heap.size = w.heap.size
  | [], _, _ => ⟨rfl, rfl, rfl, rfl⟩
  | v :: r, o, w => by
    obtain ⟨h1, h2, h3, h4⟩ := setCells_same g r (o + 1) (w.setCell ⟨g, o, none⟩ v)
    rw [World.setCells]
    exact ⟨h1, h2, h3, by rw [h4]; simp [World.setCell]⟩
theorem setCells_row {g : Nat} {e : TypeId} : ∀ (vs : List Value) (o : Nat) (w : World) (cur : Array Value), w.heap[g]? = some (.cells cur e (0, 0)) → o + vs.length ≤ cur.size →
    ∃ cur', (w.setCells g o vs).heap[g]? = some (.cells cur' e (0, 0)) ∧ cur'.size = cur.size ∧ cur'.toList = cur.toList.take o ++ vs ++ cur.toList.drop (o + vs.length)
  | [], o, w, cur, h, _ => ⟨cur, h, rfl, by simp⟩
  | v :: r, o, w, cur, h, hl => by
    have h2 : (w.setCell ⟨g, o, none⟩ v).heap[g]? = some (.cells (cur.setIfInBounds o v) e (0, 0)) := heap_set h rfl
    simp only [List.length_cons] at hl
    obtain ⟨cur', h3, h4, h5⟩ := setCells_row r (o + 1) (w.setCell ⟨g, o, none⟩ v) _ h2 (by simp; omega)
    refine ⟨cur', h3, by rw [h4]; simp, ?_⟩
    rw [h5, Array.toList_setIfInBounds]
    have ho : o < cur.toList.length := by rw [Array.length_toList]; omega
    rw [List.take_set, List.drop_set_of_lt (by omega)]
    simp only [List.length_cons]
    rw [show o + 1 + r.length = o + (r.length + 1) by omega]
    congr 1
    rw [List.take_succ_eq_append_getElem ho, List.set_append_right _ _ (by rw [List.length_take]; omega)]
    have ho' : o < cur.size := by omega
    simp [Nat.min_eq_left (Nat.le_of_lt ho')]
/-- A block that holds just these integers. -/
def IRow (w : World) (g : Nat) (t : TypeId) (ys : List Int) : Prop := ∃ cur : Array Value, w.heap[g]? = some (.cells cur t (0, 0)) ∧ cur.toList = ys.map (Value.int .i64)
theorem IRow.cell {w : World} {g : Nat} {t : TypeId} {ys : List Int} (h : IRow w g t ys) (j : Nat) (x : Int) (hx : ys[j]? = some x) : w.cell? ⟨g, j, none⟩ = some (.int .i64 x) := by
  obtain ⟨cur, hb, ht⟩ := h
  rw [cell_of_row w g j cur t (0, 0) hb, ← Array.getElem?_toList, ht]
  simp [hx]
theorem IRow.lt {w : World} {g : Nat} {t : TypeId} {ys : List Int} (h : IRow w g t ys) : g < w.heap.size := by
  obtain ⟨cur, hb, ht⟩ := h
  exact block_lt hb
/-- copy into such a block. -/
theorem run_copy_irow {P : Program} (w : World) (F : FP) (dT sT e : TypeId) (g n : Nat) (ys : List Int) (hr : IRow w g e ys) (hn : ys.length = n) (A : Option Addr) (m c : Nat) (xs : List Int) (h : Rd encInt w F (.slice A m c) xs)
    (hu : P.underlying dT = some (.slice e)) (hs : (P.info? e).map (·.size) = some 1) :
    ∃ W' k, (∀ ty, (Builtin.copy_ #[dT, sT] ty #[.slice (some ⟨g, 0, none⟩) n n, .slice A m c]).run P w = .ok (goInt k) W') ∧ IRow W' g e (xs.take n ++ ys.drop xs.length) ∧ w.grownBy W' (some g) := by
  obtain ⟨A', c', he, _, _⟩ := h.slice
  simp only [Value.slice.injEq] at he
  obtain ⟨rfl, rfl, rfl⟩ := he
  obtain ⟨cur, hb, ht⟩ := hr
  have hcs : cur.size = n := by rw [← Array.length_toList, ht, List.length_map, hn]
  by_cases h0 : min xs.length n = 0
  · refine ⟨w, 0, fun ty => run_copy_none w dT sT ty e _ _ _ _ _ _ hu hs h0, ⟨cur, hb, ?_⟩, World.grownBy.refl w _⟩
    rw [ht]
    rcases Nat.min_eq_zero_iff.1 h0 with h1 | h1
    · rw [List.length_eq_zero_iff.1 h1]; simp
    · have : ys = [] := List.length_eq_zero_iff.1 (hn.trans h1)
      rw [this, h1]; simp
  · have hp : 0 < xs.length := by omega
    obtain ⟨ad, cs, rfl, _⟩ := h.get 0 _ (List.getElem?_eq_getElem hp)
    have hl : ((xs.take n).map (Value.int .i64)).length = min xs.length n := by simp [Nat.min_comm]
    have hsrc : ∀ j v, ((xs.take n).map (Value.int .i64))[j]? = some v → w.cell? (ad.add j) = some v := by
      intro j v hv
      rw [List.getElem?_map, Option.map_eq_some_iff] at hv
      obtain ⟨x, hx, rfl⟩ := hv
      have hj : j < xs.length := by
        have := (List.getElem?_eq_some_iff.1 hx).1
        rw [List.length_take] at this; omega
      obtain ⟨ad', e', hc, _⟩ := h.int_at j hj
      simp only [Option.some.injEq] at e'
      subst e'
      rw [hc]
      rw [List.getElem?_take, List.getElem?_eq_getElem hj] at hx
      by_cases hjn : j < n
      · rw [if_pos hjn] at hx
        simp only [Option.some.injEq] at hx
        rw [hx]
      · rw [if_neg hjn] at hx; cases hx
    obtain ⟨cur', h3, h4, h5⟩ := setCells_row ((xs.take n).map (Value.int .i64)) 0 w cur hb (by rw [hl, hcs]; omega)
    obtain ⟨s1, s2, s3, s4⟩ := setCells_same g ((xs.take n).map (Value.int .i64)) 0 w
    refine ⟨_, _, fun ty => run_copy_cells w dT sT ty e g 0 n n ad xs.length c _ hu hs hl hsrc (fun j hj => ?_) (fun j hj => by simp [World.frozen?, hb]) (by intro v hv; simp only [List.mem_map] at hv; obtain ⟨q, _, rfl⟩ := hv; rfl), ⟨cur', h3, ?_⟩, ⟨s1, s2, s3, by rw [s4]; exact Nat.le_refl _, fun k _ hk => setCells_far _ _ k (fun he => hk (by rw [he]))⟩⟩
    · rw [cell_of_row w g _ cur e (0, 0) hb]
      rw [hl] at hj
      simp; omega
    · rw [h5, ht, hl]
      simp only [List.take_zero, List.nil_append, Nat.zero_add, List.map_append, List.map_drop]
      by_cases hle : xs.length ≤ n
      · rw [Nat.min_eq_left hle]
      · rw [Nat.min_eq_right (by omega), List.drop_of_length_le (by simp [hn]), List.drop_of_length_le (by simp [hn]; omega)]
theorem IRow.made {w : World} {base g n : Nat} {e : TypeId} (h : w.ownsRow base e 1 (.slice (some ⟨g, 0, none⟩) n n) n (madeCells (Value.int .i64 0).cells (n * 1)).toList) (hn : 0 < n) : IRow w g e (List.replicate n 0) := by
  rcases h.2 with ⟨h0, _⟩ | ⟨g', cap, cur, hv, hg, hb, h1, h2, h3, h4⟩
  · cases h0
  · simp only [Value.slice.injEq, Option.some.injEq, Addr.mk.injEq] at hv
    obtain ⟨⟨rfl, _, _⟩, _, rfl⟩ := hv
    refine ⟨cur, hb, ?_⟩
    rw [List.take_of_length_le (by rw [Array.length_toList]; omega)] at h4
    rw [h4]
    apply List.ext_getElem
    · simp [madeCells]
    · intro i h1 h2
      simp [madeCells, Value.cells, Nat.mod_one]
def nthRow (l f : List Int) : List Int := (f.take l.length ++ (List.replicate l.length 0).drop f.length).mergeSort fun x y => decide (x ≤ y)
theorem nthRow_len (l f : List Int) : (nthRow l f).length = l.length := by simp [nthRow]; omega
def nthOf (l f : List Int) : Int := (nthRow l f)[l.length - (l.length / 2 + 1)]?.getD 0
theorem nthOf_nil {l f : List Int} (h : l.length = 0) : nthOf l f = 0 := by
  have := nthRow_len l f
  rw [nthOf, List.getElem?_eq_none (by omega)]; rfl
theorem nthOf_at {l f : List Int} (h : 0 < l.length) : (nthRow l f)[l.length - (l.length / 2 + 1)]? = some (nthOf l f) := by
  have := nthRow_len l f
  rw [nthOf, List.getElem?_eq_getElem (by omega)]; rfl
end Go.HB
namespace Go.Proofs.Ytcmdeaejgldhfaa
open Go.RowKit Go.HB Go.Shelf

set_option maxHeartbeats 400000 in
theorem quorum_any (w : World) (F : FP) (l : List Int) (v : Value) (h : Rd encInt w F v l) :
    Calls Try.prog 13 #[v] w fun e w' => e = .returned (.int .i64 ((l.length / 2 + 1 : Nat) : Int)) ∧ w' = w := by
  have hb := h.bytes_le
  simp only [encInt, encOf] at hb
  obtain ⟨A, c, rfl, hl, hm⟩ := h.slice
  clear h
  go_enter Try.func13, Try.ntmps13
  go_wp2
  go_ret
  exact ⟨rfl, rfl⟩

theorem sort_any (w : World) (g n c : Nat) (ys : List Int) (h : IRow w g 3 ys) (hn : ys.length = n) (hm : n < 4611686018427387904) :
    Calls Try.prog 47 #[.slice (some ⟨g, 0, none⟩) n c] w fun e w' => e = .returned (.tuple #[]) ∧ IRow w' g 3 (ys.mergeSort fun x y => decide (x ≤ y)) ∧ w.grownBy w' (some g) := by
  subst hn
  obtain ⟨cur, hb, ht⟩ := h
  have hH : Go.Sort.Holds (Value.int .i64) w g 0 ys.toArray := holds_of_blockI hb (by rw [List.take_of_length_le (by rw [ht]; simp), ht])
  refine (Any.slices_Sort_int Try.laysSort g 0 c ys w hH (block_lt hb) hm).mono ?_
  rintro e w' ⟨rfl, n, os, rfl⟩
  refine ⟨rfl, ⟨_, heap_sortedI _ hb, ?_⟩, grownBy_sortedI _⟩
  have hl : (ys.mergeSort fun x y => decide (x ≤ y)).length = ys.length := List.length_mergeSort ys
  have hc : cur.size = ys.length := by rw [← Array.length_toList, ht, List.length_map]
  have := take_putCellsI cur (ys.mergeSort fun x y => decide (x ≤ y)) (by omega)
  rw [← this, List.take_of_length_le]
  simp [Go.Sort.putCells]; omega
theorem size3 : (Try.prog.info? 3).map (·.size) = some 1 := by kernel_rfl

theorem made_copy (w w1 : World) (n : Nat) (hn : 0 < n) (ho : w1.ownsRow w.heap.size 3 1 (.slice (some ⟨w.heap.size, 0, none⟩) n n) n (madeCells (Value.int .i64 0).cells (n * 1)).toList) (hg : w.grownBy w1 none) (A2 : Option Addr) (c2 : Nat) (f : List Int) (H2 : Rd encInt w (ltF w) (.slice A2 f.length c2) f) :
    ∃ w2 k, (∀ ty, (Builtin.copy_ #[25, 25] ty #[.slice (some ⟨w.heap.size, 0, none⟩) n n, .slice A2 f.length c2]).run Try.prog w1 = .ok (goInt k) w2) ∧ IRow w2 w.heap.size 3 (f.take n ++ (List.replicate n 0).drop f.length) ∧ Below w.heap.size w w2 := by
  have HB1 : Below w.heap.size w w1 := bel_grown (Below.refl _ _) (Nat.le_refl _) hg (fun k hk => by cases hk)
  obtain ⟨w2, k, hcp, hR2, hg2⟩ := run_copy_irow w1 (ltF w) 25 25 3 w.heap.size n _ (IRow.made ho hn) (by simp) A2 f.length c2 f (H2.at_ HB1) Try.underlying25 size3
  exact ⟨w2, k, hcp, hR2, bel_grown HB1 (Nat.le_refl _) hg2 (fun k hk => by cases hk; exact Nat.le_refl _)⟩
theorem below_sort {w w2 w3 : World} (HB : Below w.heap.size w w2) (hg : w2.grownBy w3 (some w.heap.size)) : Below w.heap.size w w3 := bel_grown HB (Nat.le_refl _) hg (fun k hk => by cases hk; exact Nat.le_refl _)

set_option maxRecDepth 100000 in
set_option maxHeartbeats 2000000 in
theorem nth_any (w : World) (F : FP) (l f : List Int) (v u : Value) (h : Rd encInt w F v l) (hf : Rd encInt w F u f) :
    Calls Try.prog 26 #[v, u] w fun e w' => e = .returned (.int .i64 (nthOf l f)) ∧ Below w.heap.size w w' := by
  have hb := h.bytes_le
  simp only [encInt, encOf] at hb
  obtain ⟨A, c, rfl, hl, hm⟩ := h.slice
  obtain ⟨A2, c2, rfl, hl2, hm2⟩ := hf.slice
  have H := h.arg
  have H2 := hf.arg
  clear h hf
  by_cases h0 : l.length = 0
  · have HN := Lib.hid (nthOf_nil (f := f) h0)
    go_enter Try.func26, Try.ntmps26
    go_wp2
    all_goals go_ret
    exact ⟨congrArg (fun n => Ending.returned (Value.int .i64 n)) HN.out.symm, Below.refl _ _⟩
  · have HN := Lib.hid (nthOf_at (f := f) (l := l) (by omega))
    have hp : 0 < l.length := by omega
    have hlm : l.length < 4611686018427387904 := by omega
    have hrl : (f.take l.length ++ (List.replicate l.length 0).drop f.length).length = l.length := by simp; omega
    obtain ⟨i0, hi0, hz0, hz1, hz2⟩ := info_parts info3
    have hz2' : i0.bytes = 8 := hz2
    go_enter Try.func26, Try.ntmps26
    go_wp2_with (first | (at_make; go_must (refine wpList_make_full w rfl _ _ 25 rfl w.heap.size 3 i0 (.int .i64 0) 1 Try.underlying25 hi0 hz0 hz1 .i64 .i64 _ _ l.length rfl rfl rfl rfl (by rw [hz2']; omega) (by simp [maxLen]; omega) (Nat.le_refl _) ?_); intro w1 ho hg; obtain ⟨w2, k, hcp, hR2, HB2⟩ := made_copy w w1 l.length hp ho hg A2 c2 f H2) | (go_at_call 47; go_must (refine (sort_any w2 w.heap.size l.length _ _ hR2 hrl hlm).mono ?_); rintro e w3 ⟨rfl, hR3, hg3⟩; have HB3 := below_sort HB2 hg3; have hc3 := IRow.cell hR3 _ _ HN.out) | (go_at_call 13; go_must (refine (quorum_any w3 (ltF w) l _ (H.at_ HB3)).mono ?_); rintro e w4 ⟨rfl, rfl⟩))
    go_ret
    exact ⟨rfl, HB3⟩

end Go.Proofs.Ytcmdeaejgldhfaa
