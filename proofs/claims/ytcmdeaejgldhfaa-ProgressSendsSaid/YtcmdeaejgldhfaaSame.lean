/-
  The laws' own comparisons: law03.Same, law12.Entries, law12.Same, of what reads the same.
-/
import Derived.Test.YtcmdeaejgldhfaaComm
set_option linter.unusedVariables false
set_option linter.unusedSimpArgs false
namespace Go.Proofs.Ytcmdeaejgldhfaa
open Go.RowKit Go.HB Go.Shelf

set_option maxRecDepth 100000 in
set_option maxHeartbeats 1000000 in
theorem same3_any (w : World) (F F' : FP) (x : Ent) (v v' : Value) (h : Rd encU8 w F v x.data) (h' : Rd encU8 w F' v' x.data) :
    Calls Try.prog 36 #[.agg #[.int .i64 x.term, .int .i64 x.index, .int .i64 x.kind, v], .agg #[.int .i64 x.term, .int .i64 x.index, .int .i64 x.kind, v']] w fun e w' => e = .returned (.bool true) ∧ Below w.heap.size w w' := by
  obtain ⟨A, c, rfl, hl, hm⟩ := h.slice
  obtain ⟨A', c', rfl, hl', hm'⟩ := h'.slice
  have k1 := ((h.alloc (.cells #[.int .i64 x.term, .int .i64 x.index, .int .i64 x.kind, .slice A x.data.length c] 54)).alloc (.cells #[.int .i64 x.term, .int .i64 x.index, .int .i64 x.kind, .slice A' x.data.length c'] 54)).str (P := Try.prog) 52 5 9 Try.underlying52 Try.underlying5 Try.underlying9 _ (fun _ _ h => h)
  have k2 := ((h'.alloc (.cells #[.int .i64 x.term, .int .i64 x.index, .int .i64 x.kind, .slice A x.data.length c] 54)).alloc (.cells #[.int .i64 x.term, .int .i64 x.index, .int .i64 x.kind, .slice A' x.data.length c'] 54)).str (P := Try.prog) 52 5 9 Try.underlying52 Try.underlying5 Try.underlying9 _ (fun _ _ h => h)
  clear h h'
  go_enter Try.func36, Try.ntmps36
  go_wp2
  go_ret
  exact ⟨rfl, bel_alloc (bel_alloc (Below.refl _ _) (Nat.le_refl _) _) (Nat.le_refl _) _⟩

set_option maxRecDepth 100000 in
set_option maxHeartbeats 2000000 in
theorem entries12_any (w : World) (F F' : FP) (xs : List Ent) (v v' : Value) (h : Rd encEnt w F v xs) (h' : Rd encEnt w F' v' xs) :
    Calls Try.prog 19 #[v, v'] w fun e w' => e = .returned (.bool true) ∧ Below w.heap.size w w' := by
  have hb := h.bytes_le
  have hbn : xs.length ≤ 140737488355328 := by simp only [encEnt, encIso] at hb; omega
  clear hb
  obtain ⟨A, c, rfl, hl, hm⟩ := h.slice
  obtain ⟨A', c', rfl, hl', hm'⟩ := h'.slice
  have H := h.arg
  have H' := h'.arg
  clear h h'
  go_enter Try.func19, Try.ntmps19
  go_wp2
  go_loopw [5] (fun i wr => ∃ k : Nat, k ≤ xs.length ∧ i = .int .i64 k ∧ Below w.heap.size w wr) (fun i _ => xs.length - (intOf i).toNat)
  case atStart => exact ⟨0, by omega, rfl, Below.refl _ _⟩
  case round =>
    obtain ⟨k, hk, rfl, HB⟩ := hrel
    by_cases hlt : k < xs.length
    · obtain ⟨ad, u, rfl, e0, e1, e2, e3, i0, i1, i2, hd⟩ := ent_at (H.at_ HB) k hlt
      obtain ⟨ad', u', rfl, f0, f1, f2, f3, _, _, _, hd'⟩ := ent_at (H'.at_ HB) k hlt
      have hL : (ad.add (k * 4)).block < wr.heap.size := by
        obtain ⟨a0, _, h0, _, hc0, _⟩ := (H.at_ HB).get k _ (List.getElem?_eq_getElem hlt)
        obtain rfl : ad = a0 := by simpa using h0
        rw [add_block]; exact hc0.lt
      have hL' : (ad'.add (k * 4)).block < wr.heap.size := by
        obtain ⟨a0, _, h0, _, hc0, _⟩ := (H'.at_ HB).get k _ (List.getElem?_eq_getElem hlt)
        obtain rfl : ad' = a0 := by simpa using h0
        rw [add_block]; exact hc0.lt
      generalize xs[k] = x at *
      have q1 : (0 : Int) ≤ (k : Int) := by omega
      have q2 : (k : Int) < (xs.length : Int) := by omega
      go_wp2
      go_region_held3 (fun w' => (w'.cell? (ad.add (k * 4)) = some (.int .i64 x.term) ∧ w'.cell? ⟨(ad.add (k * 4)).block, (ad.add (k * 4)).off + 1, none⟩ = some (.int .i64 x.index) ∧ w'.cell? ⟨(ad.add (k * 4)).block, (ad.add (k * 4)).off + 2, none⟩ = some (.int .i64 x.kind) ∧ w'.cell? ⟨(ad.add (k * 4)).block, (ad.add (k * 4)).off + 3, none⟩ = some u) ∧
          (w'.cell? (ad'.add (k * 4)) = some (.int .i64 x.term) ∧ w'.cell? ⟨(ad'.add (k * 4)).block, (ad'.add (k * 4)).off + 1, none⟩ = some (.int .i64 x.index) ∧ w'.cell? ⟨(ad'.add (k * 4)).block, (ad'.add (k * 4)).off + 2, none⟩ = some (.int .i64 x.kind) ∧ w'.cell? ⟨(ad'.add (k * 4)).block, (ad'.add (k * 4)).off + 3, none⟩ = some u'))
        (first | ((try dsimp only); (repeat' apply And.intro) <;> first | (refine (World.cell?_of_block (hb3.block _ hL)).trans ?_; assumption) | (refine (World.cell?_of_block (hb3.block _ hL')).trans ?_; assumption) | (refine (bel_cell hb3 _ hL _).trans ?_; assumption) | (refine (bel_cell hb3 _ hL' _).trans ?_; assumption)) | go_keep)
        ((go_at_call 36; refine (same3_any _ (ltF w) (ltF w) x _ _ hd.drew hd'.drew).mono ?_; rintro e w3 ⟨rfl, hb3⟩; have HB3 := bel_then (bel_drew HB) (Nat.le_refl _) hb3))
      go_wp2
      go_roundw
      case rel => exact ⟨k + 1, by omega, by go_num, HB3⟩
      case measure => simp [intOf]; omega
    · obtain rfl : k = xs.length := by omega
      go_wp2
      go_ret
      exact ⟨rfl, HB⟩

set_option maxRecDepth 100000 in
set_option maxHeartbeats 1000000 in
theorem same12_any (w : World) (F F' : FP) (x : View) (v v' : Value) (h : Rd encEnt w F v x.l) (h' : Rd encEnt w F' v' x.l) :
    Calls Try.prog 11 #[.agg #[.int .i64 x.base, .int .i64 x.term, v], .agg #[.int .i64 x.base, .int .i64 x.term, v']] w fun e w' => e = .returned (.bool true) ∧ Below w.heap.size w w' := by
  obtain ⟨A, c, rfl, hl, hm⟩ := h.slice
  obtain ⟨A', c', rfl, hl', hm'⟩ := h'.slice
  have H := h.arg
  have H' := h'.arg
  clear h h'
  go_enter Try.func11, Try.ntmps11
  go_wp2_with (go_at_call 19; go_must (refine (entries12_any _ (ltF w) (ltF w) x.l _ _ ((H.alloc _).alloc _) ((H'.alloc _).alloc _)).mono ?_); rintro e w1 ⟨rfl, hb1⟩)
  go_ret
  exact ⟨rfl, bel_then (bel_alloc (bel_alloc (Below.refl _ _) (Nat.le_refl _) _) (Nat.le_refl _) _) (Nat.le_refl _) hb1⟩
end Go.Proofs.Ytcmdeaejgldhfaa
