/-
  hustingsref13.Commit: what the document's Commit answers is what the program's does.
-/
import Derived.Test.YtcmdeaejgldhfaaRNth
import Derived.Test.YtcmdeaejgldhfaaRef12b
set_option linter.unusedVariables false
set_option linter.unusedSimpArgs false
namespace Go.HB
theorem rowOk_index : ∀ {l : List Ent} {J T : Int}, rowOk J T l = true → ∀ (k : Nat) (hk : k < l.length), l[k].index = J + 1 + k ∧ rightEnt l[k] = true
  | [], _, _, _, k, hk => by simp at hk
  | x :: t, J, T, h, k, hk => by
    simp only [rowOk, Bool.and_eq_true, decide_eq_true_eq] at h
    cases k with
    | zero => exact ⟨by simp; omega, by simpa using h.1.1.1⟩
    | succ k =>
      have := rowOk_index h.2 k (by simpa using hk)
      refine ⟨?_, by simpa using this.2⟩
      simp only [List.getElem_cons_succ, this.1]
      push_cast; omega
theorem View.row_index {x : View} (h : x.ok = true) (k : Nat) (hk : k < x.l.length) : x.l[k].index = x.base + 1 + k ∧ rightEnt x.l[k] = true := by
  have hr := h
  rw [View.ok_in (View.ok_range h)] at hr
  exact rowOk_index hr k hk
def rstep (N L t b : Int) (e : Ent) : Int := if b < e.index ∧ e.index ≤ N ∧ e.index ≤ L ∧ e.term = t then e.index else b
theorem rstep_yes {N L t b : Int} {e : Ent} (h : b < e.index ∧ e.index ≤ N ∧ e.index ≤ L ∧ e.term = t) : rstep N L t b e = e.index := by rw [rstep, if_pos h]
theorem rstep_no {N L t b : Int} {e : Ent} (h : ¬ (b < e.index ∧ e.index ≤ N ∧ e.index ≤ L ∧ e.term = t)) : rstep N L t b e = b := by rw [rstep, if_neg h]
theorem rfold_at (x : View) (h : x.ok = true) (N c t : Int) : ∀ k, k ≤ x.l.length → (x.l.take k).foldl (rstep N x.last t) c = x.findC (max c x.base) t c (min N (x.base + k) - max c x.base).toNat := by
  intro k
  induction k with
  | zero =>
    intro _
    rw [show (min N (x.base + (0 : Nat)) - max c x.base).toNat = 0 by omega]
    rfl
  | succ k ih =>
    intro hk
    have hkl : k < x.l.length := by omega
    have ih := ih (by omega)
    obtain ⟨hi, _⟩ := View.row_index h k hkl
    have hat : x.at_ (x.base + 1 + k) = x.l[k].term := View.at_row k (by omega) hkl
    have hL : x.last = x.base + x.l.length := rfl
    rw [List.take_succ_eq_append_getElem hkl, List.foldl_append, ih]
    simp only [List.foldl_cons, List.foldl_nil]
    by_cases h1 : x.base + 1 + k ≤ N
    · by_cases h2 : x.base + 1 + k ≤ max c x.base
      · rw [show (min N (x.base + (k : Nat)) - max c x.base).toNat = 0 by omega, show (min N (x.base + ((k + 1 : Nat) : Int)) - max c x.base).toNat = 0 by omega]
        rw [rstep_no]
        rintro ⟨q, _⟩
        simp only [View.findC] at q
        omega
      · obtain ⟨j, hj⟩ : ∃ j, (min N (x.base + (k : Nat)) - max c x.base).toNat = j := ⟨_, rfl⟩
        rw [hj, show (min N (x.base + ((k + 1 : Nat) : Int)) - max c x.base).toNat = j + 1 by omega]
        have hn : max c x.base + ((j : Int) + 1) = x.base + 1 + k := by omega
        have hlt : x.findC (max c x.base) t c j < x.base + 1 + k := by
          rcases findC_spec x (max c x.base) t c j with e | ⟨i, _, h4, e, _⟩ <;> omega
        by_cases h3 : x.l[k].term = t
        · rw [rstep_yes ⟨by omega, by omega, by omega, h3⟩, View.findC_yes (by rw [hn, hat]; exact h3), hi, hn]
        · rw [rstep_no (fun q => h3 q.2.2.2), View.findC_no (by rw [hn, hat]; exact h3)]
    · rw [show min N (x.base + ((k + 1 : Nat) : Int)) = min N (x.base + (k : Nat)) by omega]
      rw [rstep_no]
      rintro ⟨_, q, _⟩
      omega
theorem rfold_commit {x : View} (h : x.ok = true) (N c t : Int) : x.l.foldl (rstep N x.last t) c = x.commit N c t := by
  have := rfold_at x h N c t x.l.length (Nat.le_refl _)
  rw [List.take_length] at this
  rw [this, View.commit_yes h]
  rfl
theorem fold_snoc (f : Int → Ent → Int) (c : Int) (l : List Ent) (k : Nat) (hk : k < l.length) : (l.take (k + 1)).foldl f c = f ((l.take k).foldl f c) l[k] := by
  rw [List.take_succ_eq_append_getElem hk, List.foldl_append]; rfl
end Go.HB
namespace Go.Proofs.Ytcmdeaejgldhfaa
open Go.RowKit Go.HB Go.Shelf

set_option maxRecDepth 100000 in
set_option maxHeartbeats 4000000 in
theorem rcommit_any (w : World) (F : FP) (x : View) (v s m : Value) (ss ms : List Int) (h : Rd encEnt w F v x.l) (hb : In64 x.base) (ht : In64 x.term) (hs : Rd encInt w F s ss) (hm : Rd encInt w F m ms) (c t : Int) (hc : In64 c) :
    Calls Try.prog 10 #[.agg #[.int .i64 x.base, .int .i64 x.term, v], s, m, .int .i64 c, .int .i64 t] w fun e w' => e = .returned (.int .i64 (x.commit (nthOf ss ms) c t)) ∧ Below w.heap.size w w' := by
  obtain ⟨A, cp, rfl, hl, hml⟩ := h.slice
  obtain ⟨A2, cp2, rfl, hl2, hml2⟩ := hs.slice
  obtain ⟨A3, cp3, rfl, hl3, hml3⟩ := hm.slice
  have H := h.arg
  have H2 := hs.arg
  have H3 := hm.arg
  clear h hs hm
  obtain ⟨ok, hx⟩ : ∃ ok, x.ok = ok := ⟨_, rfl⟩
  have HX := Lib.hid hx
  have HR : ok = true → 0 ≤ x.base ∧ x.base ≤ 549755813888 ∧ 0 ≤ x.term ∧ x.term < 1099511627776 ∧ x.l.length ≤ 4096 := fun h => View.ok_range (hx.trans h)
  clear hx
  cases ok with
  | false =>
    have HY := Lib.hid (View.lastR_no HX.out)
    go_enter Try.func10, Try.ntmps10
    go_wp2_with (first | (go_at_call 28; go_must (refine (rlast_any _ (ltF w) x _ (H.alloc _) hb ht).mono ?_); rintro e w1 ⟨rfl, hb1⟩; rw [HY.out]; have hx1 := (hb1.block w.heap.size (by simp)).trans (heap_new rfl rfl); obtain ⟨c0, c1, c2, hf⟩ := blk3 hx1; have HB1 := bel_then (bel_alloc (Below.refl _ _) (Nat.le_refl _) _) (Nat.le_refl _) hb1) | (go_at_call 29; go_must (refine (rright_any _ (ltF w) x _ (H.at_ HB1) hb ht).mono ?_); rintro e w2 ⟨rfl, hb2⟩; rw [HX.out]; have HB2 := bel_then HB1 (Nat.le_refl _) hb2))
    all_goals go_ret
    exact ⟨congrArg (fun n => Ending.returned (Value.int .i64 n)) (View.commit_no HX.out).symm, HB2⟩
  | true =>
    obtain ⟨r1, r2, r3, r4, r5⟩ := HR rfl
    have HY := Lib.hid (View.lastR_yes HX.out)
    have HF := Lib.hid (rfold_commit HX.out (nthOf ss ms) c t)
    obtain ⟨N, hN⟩ : ∃ N, nthOf ss ms = N := ⟨_, rfl⟩
    have HN := Lib.hid hN
    obtain ⟨L, hL⟩ : ∃ L, x.last = L := ⟨_, rfl⟩
    rw [hL] at HY HF
    rw [hN] at HF
    clear hN hL
    go_enter Try.func10, Try.ntmps10
    go_wp2_with (first | (go_at_call 28; go_must (refine (rlast_any _ (ltF w) x _ (H.alloc _) hb ht).mono ?_); rintro e w1 ⟨rfl, hb1⟩; rw [HY.out]; have hx1 := (hb1.block w.heap.size (by simp)).trans (heap_new rfl rfl); obtain ⟨c0, c1, c2, hf⟩ := blk3 hx1; have HB1 := bel_then (bel_alloc (Below.refl _ _) (Nat.le_refl _) _) (Nat.le_refl _) hb1; have HS1 : w.heap.size < w1.heap.size := (by have := hb1.size; simp at this; omega)) | (go_at_call 29; go_must (refine (rright_any _ (ltF w) x _ (H.at_ HB1) hb ht).mono ?_); rintro e w2 ⟨rfl, hb2⟩; rw [HX.out]; have hx2 := (hb2.block w.heap.size HS1).trans hx1; have HB2 := bel_then HB1 (Nat.le_refl _) hb2) | (go_at_call 30; go_must (refine (rnth_any _ (ltF w) ss ms _ _ (H2.at_ HB2) (H3.at_ HB2)).mono ?_); rintro e w3 ⟨rfl, rfl⟩; rw [HN.out]))
    clear c0 c1 c2 hf hx1 HB1 HS1 hb1 hb2
    obtain ⟨c0, c1, c2, hf⟩ := blk3 hx2
    go_loop [13, 15] (fun b i => ∃ k : Nat, k ≤ x.l.length ∧ i = .int .i64 k ∧ b = .int .i64 ((x.l.take k).foldl (rstep N L t) c)) (fun _ i => x.l.length - (intOf i).toNat)
    case atStart => exact ⟨0, by omega, rfl, rfl⟩
    case round =>
      obtain ⟨k, hk, rfl, rfl⟩ := hrel
      by_cases hlt : k < x.l.length
      · obtain ⟨ad, u, rfl, e0, e1, e2, e3, i0, i1, i2, hd⟩ := ent_at (H.at_ HB2) k hlt
        have HS := Lib.hid (fold_snoc (rstep N L t) c x.l k hlt)
        generalize x.l[k] = y at *
        generalize (x.l.take k).foldl (rstep N L t) c = b at *
        go_wp2
        all_goals
          go_round
          case rel => exact ⟨k + 1, by omega, by go_num, by rw [HS.out]; first | (rw [rstep_yes ⟨by omega, by omega, by omega, by (first | omega | (apply eq_of_beq; assumption))⟩]; done) | (rw [rstep_yes ⟨by omega, by omega, by omega, by (first | omega | (apply eq_of_beq; assumption))⟩]; go_num) | (rw [rstep_no (fun q => by first | omega | (exact absurd q.2.2.2 (ne_of_beq_false (by assumption))))])⟩
          case measure => simp [intOf]; omega
      · obtain rfl : k = x.l.length := by omega
        have hF := HF.out
        rw [List.take_length]
        go_wp2
        go_ret
        exact ⟨congrArg (fun n => Ending.returned (Value.int .i64 n)) (congrArg (fun n => x.commit n c t) HN.out.symm), HB2⟩
end Go.Proofs.Ytcmdeaejgldhfaa
