/-
  hustingslaw13.ProgressSure.
-/
import Derived.Test.YtcmdeaejgldhfaaSure
import Derived.Test.YtcmdeaejgldhfaaKnows
import Derived.Test.YtcmdeaejgldhfaaRef12b
set_option linter.unusedVariables false
set_option linter.unusedSimpArgs false
namespace Go.Proofs.Ytcmdeaejgldhfaa
open Go.RowKit Go.HB Go.Shelf

set_option maxRecDepth 100000 in
set_option maxHeartbeats 4000000 in
theorem psure_any (w : World) (F : FP) (x : View) (v s m : Value) (ss ms : List Int) (h : Rd encEnt w F v x.l) (hb : In64 x.base) (ht : In64 x.term) (hs : Rd encInt w F s ss) (hm : Rd encInt w F m ms) (c t : Int) (hc : In64 c) :
    Calls Try.prog 4 #[.agg #[.int .i64 x.base, .int .i64 x.term, v], s, m, .int .i64 c, .int .i64 t] w fun e w' => e = .returned (.bool true) ∧ Below w.heap.size w w' := by
  obtain ⟨A, cp, rfl, hl, hml⟩ := h.slice
  obtain ⟨A2, cp2, rfl, hl2, hml2⟩ := hs.slice
  obtain ⟨A3, cp3, rfl, hl3, hml3⟩ := hm.slice
  have hbs := hs.bytes_le
  have hbm := hm.bytes_le
  simp only [encInt, encOf] at hbs hbm
  have H := h.arg
  have H2 := hs.arg
  have H3 := hm.arg
  have hnt : In64 (nthOf ss ms) := hm.nth64
  clear h hs hm
  obtain ⟨D, hD⟩ : ∃ D, x.commit (nthOf ss ms) c t = D := ⟨_, rfl⟩
  have HD := Lib.hid hD
  by_cases hne : D = c
  · subst hne
    clear hD
    go_enter Try.func4, Try.ntmps4
    go_wp2_with (first | (go_at_call 8; go_must (refine (view12_any _ (ltF w) x _ (H.alloc _)).mono ?_); rintro e w1 ⟨v1, rfl, hr1, hb1⟩; obtain ⟨A1, k1, rfl, hl1, hm1⟩ := hr1.slice; have HB1 := bel_then (bel_alloc (Below.refl _ _) (Nat.le_refl _) _) (Nat.le_refl _) hb1) | (go_at_call 9; go_must (refine (pcommit_any _ (fun _ => True) x _ _ _ ss ms (hr1.mono fun _ _ => trivial) hb ht ((H2.at_ HB1).mono fun _ _ => trivial) ((H3.at_ HB1).mono fun _ _ => trivial) D t hc hnt).mono ?_); rintro e w2 ⟨rfl, hb2⟩; rw [HD.out]; have HB2 := bel_then HB1 (Nat.le_refl _) hb2) | (go_at_call 12; go_must (refine (knows13_any _).mono ?_); rintro e w3 ⟨rfl, hb3⟩; have HB3 := bel_then HB2 (Nat.le_refl _) hb3))
    go_ret
    exact ⟨rfl, HB3⟩
  · obtain ⟨hok, g1, g2, g3, g4, g5⟩ := commit_spec hD hne
    obtain ⟨r1, r2, r3, r4, r5⟩ := View.ok_range hok
    have HT : Hid (x.termOf D = (t, 0)) := by show _ = _; rw [View.termOf_in hok (by omega) g4, g5]
    have hq := sure_quorum g3 (by omega)
    obtain ⟨M, hM⟩ : ∃ M, min ss.length ms.length = M := ⟨_, rfl⟩
    have hM1 : M ≤ ss.length := by omega
    have hM2 : M ≤ ms.length := by omega
    have hM3 : M = ss.length ∨ M = ms.length := by omega
    rw [hM] at hq
    have HQ := Lib.hid hq
    clear hD g5 hM hq g3
    go_enter Try.func4, Try.ntmps4
    go_wp2_with (first | (go_at_call 8; go_must (refine (view12_any _ (ltF w) x _ (H.alloc _)).mono ?_); rintro e w1 ⟨v1, rfl, hr1, hb1⟩; obtain ⟨A1, k1, rfl, hl1, hm1⟩ := hr1.slice; have hx1 := (hb1.block w.heap.size (by simp)).trans (heap_new rfl rfl); have HB1 := bel_then (bel_alloc (Below.refl _ _) (Nat.le_refl _) _) (Nat.le_refl _) hb1; have HS1 : w.heap.size < w1.heap.size := (by have := hb1.size; simp at this; omega)) | (go_at_call 9; go_must (refine (pcommit_any _ (fun _ => True) x _ _ _ ss ms (hr1.mono fun _ _ => trivial) hb ht ((H2.at_ HB1).mono fun _ _ => trivial) ((H3.at_ HB1).mono fun _ _ => trivial) c t hc hnt).mono ?_); rintro e w2 ⟨rfl, hb2⟩; rw [HD.out]; have hx2 := (hb2.block w.heap.size HS1).trans hx1; have HB2 := bel_then HB1 (Nat.le_refl _) hb2; have HS2 := Nat.lt_of_lt_of_le HS1 hb2.size))
    clear hx1 HB1 HS1 hb1 hb2 hr1
    go_loop [12, 13] (fun r i => ∃ k : Nat, k ≤ M ∧ i = .int .i64 k ∧ r = .int .i64 ((ms.take k).countP (fun x => decide (D ≤ x)) : Nat)) (fun _ i => M - (intOf i).toNat)
    case atStart => exact ⟨0, by omega, rfl, by simp⟩
    case round =>
      obtain ⟨k, hk, rfl, rfl⟩ := hrel
      by_cases hlt : k < M
      · have hk1 : k < ss.length := by omega
        have hk2 : k < ms.length := by omega
        obtain ⟨ad, rfl, hcell, hi⟩ := (H3.at_ HB2).int_at k hk2
        have HS := Lib.hid (countP_take_succ (fun x => decide (D ≤ x)) ms k hk2)
        have hcl : (ms.take k).countP (fun x => decide (D ≤ x)) ≤ k := Nat.le_trans List.countP_le_length (by rw [List.length_take]; omega)
        generalize ms[k] = y at *
        generalize (ms.take k).countP (fun x => decide (D ≤ x)) = q at *
        go_wp2
        all_goals
          go_round
          case rel => exact ⟨k + 1, by omega, by go_num, by rw [HS.out]; first | (rw [if_pos (by simpa using ‹D ≤ y›)]; go_num) | (rw [if_neg (by simp; omega)]; go_num)⟩
          case measure => simp [intOf]; omega
      · obtain rfl : k = M := by omega
        have hq := HQ.out
        obtain ⟨q, hqq⟩ : ∃ q, (ms.take k).countP (fun x => decide (D ≤ x)) = q := ⟨_, rfl⟩
        rw [hqq] at hq ⊢
        clear hqq
        obtain ⟨c0, c1, c2, hf⟩ := blk3 hx2
        go_wp2_with (first | (go_at_call 13; go_must (refine (quorum_any w2 (ltF w) ss _ (H2.at_ HB2)).mono ?_); rintro e w4 ⟨rfl, rfl⟩) | (go_at_call 14; go_must (refine (rtermof_any _ (ltF w) x _ (H.at_ HB2) hb ht D).mono ?_); rintro e w4 ⟨rfl, hb4⟩; rw [HT.out]; obtain ⟨d0, d1, d2, df⟩ := blk3 ((hb4.block _ HS2).trans hx2); have HB4 := bel_then HB2 (Nat.le_refl _) hb4) | (go_at_call 12; go_must (refine (knows13_any _).mono ?_); rintro e w5 ⟨rfl, hb5⟩; have HB5 := bel_then HB4 (Nat.le_refl _) hb5))
        all_goals (go_ret; exact ⟨rfl, HB5⟩)
end Go.Proofs.Ytcmdeaejgldhfaa
