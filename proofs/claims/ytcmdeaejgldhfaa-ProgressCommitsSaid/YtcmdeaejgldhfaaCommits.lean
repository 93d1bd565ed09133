/-
  hustingslaw13.ProgressCommits.
-/
import Derived.Test.YtcmdeaejgldhfaaRComm
import Derived.Test.YtcmdeaejgldhfaaSame
import Derived.Test.YtcmdeaejgldhfaaKnows
import Derived.Test.YtcmdeaejgldhfaaApp
set_option linter.unusedVariables false
set_option linter.unusedSimpArgs false
namespace Go.Proofs.Ytcmdeaejgldhfaa
open Go.RowKit Go.HB Go.Shelf

set_option maxRecDepth 100000 in
set_option maxHeartbeats 4000000 in
theorem pcommits_any (w : World) (F : FP) (x : View) (v s m : Value) (ss ms : List Int) (h : Rd encEnt w F v x.l) (hb : In64 x.base) (ht : In64 x.term) (hs : Rd encInt w F s ss) (hm : Rd encInt w F m ms) (c t : Int) (hc : In64 c) :
    Calls Try.prog 3 #[.agg #[.int .i64 x.base, .int .i64 x.term, v], s, m, .int .i64 c, .int .i64 t] w fun e w' => e = .returned (.bool true) ∧ Below w.heap.size w w' := by
  obtain ⟨A, cp, rfl, hl, hml⟩ := h.slice
  obtain ⟨A2, cp2, rfl, hl2, hml2⟩ := hs.slice
  obtain ⟨A3, cp3, rfl, hl3, hml3⟩ := hm.slice
  have H := h.arg
  have H2 := hs.arg
  have H3 := hm.arg
  have hnt : In64 (nthOf ss ms) := hm.nth64
  clear h hs hm
  obtain ⟨D, hD⟩ : ∃ D, x.commit (nthOf ss ms) c t = D := ⟨_, rfl⟩
  have HD := Lib.hid hD
  clear hD
  go_enter Try.func3, Try.ntmps3
  go_wp2_with (go_at_call 8; go_must (refine (view12_any _ (ltF w) x _ (H.alloc _)).mono ?_); rintro e w1 ⟨v1, rfl, hr1, hb1⟩; obtain ⟨A1, k1, rfl, hl1, hm1⟩ := hr1.slice; have hx1 := (hb1.block w.heap.size (by simp)).trans (heap_new rfl rfl); have HB1 := bel_then (bel_alloc (Below.refl _ _) (Nat.le_refl _) _) (Nat.le_refl _) hb1; have HS1 : w.heap.size < w1.heap.size := (by have := hb1.size; simp at this; omega))
  obtain ⟨W0, hW0⟩ : ∃ W0, w1.alloc (.cells #[.int .i64 x.base, .int .i64 x.term, .slice A1 x.l.length k1] 26) = W0 := ⟨_, rfl⟩
  have G0 : W0.heap[w.heap.size]? = some (.cells #[.int .i64 x.base, .int .i64 x.term, .slice A x.l.length cp] 24 (0, 0)) := by rw [← hW0]; exact heap_old HS1 hx1
  have G1 : W0.heap[w1.heap.size]? = some (.cells #[.int .i64 x.base, .int .i64 x.term, .slice A1 x.l.length k1] 26 (0, 0)) := by rw [← hW0]; exact heap_new rfl rfl
  have HB0 : Below w.heap.size w W0 := by rw [← hW0]; exact bel_alloc HB1 (Nat.le_refl _) _
  have R1 : Rd encEnt W0 (ltF W0) (.slice A1 x.l.length k1) x.l := by rw [← hW0]; exact (hr1.alloc _).arg
  have R0 : Rd encEnt W0 (ltF W0) (.slice A x.l.length cp) x.l := (H.at_ HB0).arg
  have R2 : Rd encInt W0 (ltF W0) (.slice A2 ss.length cp2) ss := (H2.at_ HB0).arg
  have R3 : Rd encInt W0 (ltF W0) (.slice A3 ms.length cp3) ms := (H3.at_ HB0).arg
  have hS : ∀ w', Below W0.heap.size W0 w' → Below W0.heap.size W0 w' ∧ w'.cell? ⟨w.heap.size, 0, none⟩ = some (.int .i64 x.base) ∧ w'.cell? ⟨w.heap.size, 1, none⟩ = some (.int .i64 x.term) ∧ w'.cell? ⟨w.heap.size, 2, none⟩ = some (.slice A x.l.length cp) ∧ w'.cell? ⟨w1.heap.size, 0, none⟩ = some (.int .i64 x.base) ∧ w'.cell? ⟨w1.heap.size, 1, none⟩ = some (.int .i64 x.term) ∧ w'.cell? ⟨w1.heap.size, 2, none⟩ = some (.slice A1 x.l.length k1) := by
    intro w' hb
    obtain ⟨c0, c1, c2, _⟩ := blk3 ((hb.block _ (block_lt G0)).trans G0)
    obtain ⟨d0, d1, d2, _⟩ := blk3 ((hb.block _ (block_lt G1)).trans G1)
    exact ⟨hb, c0, c1, c2, d0, d1, d2⟩
  have HS := Lib.hid hS
  clear hS
  rw [hW0]
  clear hW0 hr1 hb1 hx1 HB1 HS1 G0 G1
  have start : Below W0.heap.size W0 W0 := Below.refl _ _
  go_region_held3 (fun w' => Below W0.heap.size W0 w' ∧ w'.cell? ⟨w.heap.size, 0, none⟩ = some (.int .i64 x.base) ∧ w'.cell? ⟨w.heap.size, 1, none⟩ = some (.int .i64 x.term) ∧ w'.cell? ⟨w.heap.size, 2, none⟩ = some (.slice A x.l.length cp) ∧ w'.cell? ⟨w1.heap.size, 0, none⟩ = some (.int .i64 x.base) ∧ w'.cell? ⟨w1.heap.size, 1, none⟩ = some (.int .i64 x.term) ∧ w'.cell? ⟨w1.heap.size, 2, none⟩ = some (.slice A1 x.l.length k1))
    (first
      | (go_split_ands; refine HS.out _ (bel_then ?_ (Nat.le_refl _) hbn); assumption)
      | (go_split_ands; refine HS.out _ (bel_alloc ?_ (Nat.le_refl _) _); assumption)
      | (go_split_ands; refine HS.out _ (bel_drew (bel_alloc (bel_undrew ?_) (Nat.le_refl _) _)); assumption)
      | (go_split_ands; refine HS.out _ (bel_drew ?_); assumption)
      | (refine HS.out _ (bel_drew start)))
    (first
      | (refine app_step encInt ?_ (.tmp 15) (.tmp 16) 25 3 (.int .i64 0) ?_ Try.underlying25 info3 rfl (ltF W0) (.slice A2 ss.length cp2) ss ?_ ?_ (R2.at_ ?_) ?_; rfl; rfl; exact ⟨_, rfl⟩; rfl; (go_split_ands; assumption); (intro v2 w2 hr2 hbn; replace hr2 := hr2.mono (F' := fun _ => True) (fun _ _ => trivial)))
      | (refine app_step encInt ?_ (.tmp 18) (.tmp 19) 25 3 (.int .i64 0) ?_ Try.underlying25 info3 rfl (ltF W0) (.slice A3 ms.length cp3) ms ?_ ?_ (R3.at_ ?_) ?_; rfl; rfl; exact ⟨_, rfl⟩; rfl; (go_split_ands; assumption); (intro v3 w3 hr3 hbn; replace hr3 := hr3.mono (F' := fun _ => True) (fun _ _ => trivial); (first | replace hr2 := hr2.below hbn | replace hr2 := (hr2.alloc _).below hbn)))
      | (go_at_call 9; refine (pcommit_any _ (fun _ => True) x _ _ _ ss ms ((R1.at_ ?_).mono fun _ _ => trivial) hb ht hr2 hr3 c t hc hnt).mono ?_; (go_split_ands; assumption); (rintro e w4 ⟨rfl, hbn⟩; rw [HD.out]))
      | (go_at_call 10; refine (rcommit_any _ (ltF W0) x _ _ _ ss ms (R0.at_ ?_) hb ht (R2.at_ ?_) (R3.at_ ?_) c t hc).mono ?_; (go_split_ands; assumption); (go_split_ands; assumption); (go_split_ands; assumption); (rintro e w5 ⟨rfl, hbn⟩; rw [HD.out]))
      | (go_at_call 11; refine (same12_any _ (ltF W0) (ltF W0) x _ _ (R1.at_ ?_) (R0.at_ ?_)).mono ?_; (go_split_ands; assumption); (go_split_ands; assumption); (rintro e w6 ⟨rfl, hbn⟩))
      | (go_at_call 12; refine (knows13_any _).mono ?_; (rintro e w7 ⟨rfl, hbn⟩)))
  all_goals (go_wp2; go_ret; refine ⟨rfl, bel_then HB0 (Nat.le_refl _) ?_⟩; go_split_ands; assumption)
end Go.Proofs.Ytcmdeaejgldhfaa
