/-
  The document's Reader.Number, where it reads a number.
-/
import Derived.Test.YtcmdeaejgldhfaaRef03c
set_option linter.unusedVariables false
set_option linter.unusedSimpArgs false
namespace Go.Proofs.Ytcmdeaejgldhfaa
open Go.RowKit Go.HB Go.Shelf

theorem rnum_at (t : TypeId) {w w1 : World} {g : Nat} {b : Bytes} {at_ : Nat} {G : FP} {A : Option Addr} {c : Nat} (p : Nat) (q : Int) (hb : w.heap[g]? = some (.cells #[.slice A b.length c, .int .i64 at_, .int .i64 0] t (0, 0))) (hr : Rd encU8 w G (.slice A b.length c) b) (hg : ¬ G g) (hG : ∀ k, G k → k < w.heap.size) (hb1 : Below w.heap.size w w1) (hp : p ≤ b.length) (hq : q = p) :
    RRd t (w1.setCell ⟨g, 1, none⟩ (.int .i64 q)) g b p 0 G ∧ w.grownBy (w1.setCell ⟨g, 1, none⟩ (.int .i64 q)) (some g) := by
  subst hq
  exact ⟨⟨A, c, heap_set ((hb1.block g (block_lt hb)).trans hb) rfl, (hr.below' hb1 hG).set hg _, hp, hg⟩,
    ⟨hb1.os, hb1.tape, hb1.output, by simpa [World.setCell] using hb1.size, fun k hk hne => (Below.heap_setCell _ _ _ k (fun e => hne (by rw [e]))).trans (hb1.block k hk)⟩⟩

set_option maxRecDepth 100000 in
set_option maxHeartbeats 2000000 in
theorem rnumber_ok (w : World) (g : Nat) (b : Bytes) (at_ : Nat) (G : FP) (h : RRd 133 w g b at_ 0 G) (hG : ∀ k, G k → k < w.heap.size) (hlt : at_ < b.length) (h6 : ¬ 6 < (b[at_]'hlt).toNat) (h7 : ¬ b.length - at_ < 1 + (b[at_]'hlt).toNat) (h9 : ¬ (0 < (b[at_]'hlt).toNat ∧ b[at_ + (b[at_]'hlt).toNat]? = some 0)) :
    Calls Try.prog 82 #[.pointer (some ⟨g, 0, none⟩)] w (RNum 133 w g b G ((leNum ((b.drop (at_ + 1)).take (b[at_]'hlt).toNat) : Int), ⟨0, b.drop (at_ + 1 + (b[at_]'hlt).toNat)⟩)) := by
  have h' := h
  obtain ⟨A, c, hb, hr, hl, hg⟩ := h
  have hby := hr.bytes_le
  simp only [encU8, encOf] at hby
  have hgl := block_lt hb
  obtain ⟨n, hn⟩ : ∃ n : Nat, (b[at_]'hlt).toNat = n := ⟨_, rfl⟩
  have hn8 : n < 256 := by rw [← hn]; exact (b[at_]'hlt).toNat_lt
  obtain ⟨ad, rfl, hcell⟩ := hr.byte_at at_ hlt
  rw [hn] at hcell h6 h7 h9
  rw [hn]
  have hz : 1 ≤ b.length - at_ := by omega
  have hE : ∀ w1, Below w.heap.size w w1 → w1.cell? (ad.add at_) = some (.int .u8 (n : Int)) := fun w1 h1 => by
    have := (hr.below' h1 hG).byte_at at_ hlt
    obtain ⟨ad', e, hc⟩ := this
    simp only [Option.some.injEq] at e
    rw [e, hc, hn]
  have hlt2 : at_ + n < b.length := by omega
  have hlt2 : at_ + n < b.length := by omega
  have hE2 : ∀ (k : Nat) (hk : at_ + k < b.length) w1, Below w.heap.size w w1 → w1.cell? (ad.add (at_ + k)) = some (.int .u8 ((b[at_ + k]'hk).toNat : Int)) := fun k hk w1 h1 => by
    have := (hr.below' h1 hG).byte_at (at_ + k) hk
    obtain ⟨ad', e, hc⟩ := this
    simp only [Option.some.injEq] at e
    rw [e, hc]
  have dn : decide ((6 : Int) < (n : Int)) = false := by simp; omega
  clear hn
  obtain ⟨c0, c1, c2, hf⟩ := blk3 hb
  have hgd : n = 0 ∨ (decide ((0 : Int) < (n : Int)) = true ∧ ∃ y : Nat, 0 < n ∧ y < 256 ∧ ((y : Int) == 0) = false ∧ ∀ w1, Below w.heap.size w w1 → w1.cell? (ad.add (at_ + n)) = some (.int .u8 (y : Int))) := by
    by_cases h0 : 0 < n
    · refine .inr ⟨by simp; omega, (b[at_ + n]'hlt2).toNat, h0, (b[at_ + n]'hlt2).toNat_lt, ?_, fun w1 h1 => hE2 n hlt2 w1 h1⟩
      rw [beq_eq_false_iff_ne]
      intro e
      refine h9 ⟨h0, ?_⟩
      rw [List.getElem?_eq_getElem hlt2]
      congr 1
      exact UInt8.toNat_inj.1 (by simpa using e)
    · exact .inl (by omega)
  clear h9
  have HE2 := Lib.hid hE2
  clear hE2
  obtain ⟨N, hN⟩ : ∃ N, n = N := ⟨_, rfl⟩
  have hN6 : N ≤ 6 := by omega
  have hNl : at_ + N < b.length := by omega
  have HN := Lib.hid hN
  have hl0 : b.length - at_ < 1 + n → False := by omega
  clear hN
  rcases hgd with rfl | ⟨g1, y, h8, hy, g2, hyc⟩
  all_goals go_enter Try.func82, Try.ntmps82
  all_goals go_wp2_with (first | (go_at_call 91; go_must (refine (rleft_any w g b at_ 0 G h').mono ?_); rintro e w1 ⟨rfl, hb1⟩; obtain ⟨d0, d1, d2, df⟩ := blk3 ((hb1.block g hgl).trans hb); have hc1 := hE w1 hb1))
  all_goals (go_quiet (fail))
  all_goals have HQ := bel_drewN hb1 nq
  all_goals go_wp2_with (go_at_call 91; go_must (refine (rleft_any _ g b at_ 0 G (h'.move (Agree.of_below HQ (fun k hk => by rcases hk with rfl | hk; exact hgl; exact hG k hk)))).mono ?_); rintro e w2 ⟨rfl, hb2⟩; have HB2 := bel_then HQ (Nat.le_refl _) hb2; obtain ⟨f0, f1, f2, ff⟩ := blk3 ((HB2.block g hgl).trans hb); (try have hc2 := hyc w2 HB2))
  all_goals (go_quiet (fail))
  all_goals go_wp2
  all_goals have HB3 := bel_drewN HB2 nq
  all_goals clear HQ hb1 hb2 HB2 hc1 d0 d1 d2 df
  all_goals try clear hc2
  all_goals (
    go_loopw [4, 5] (fun x i wr => ∃ k : Nat, k ≤ N ∧ i = .int .i64 k ∧ x = .int .i64 (leNum (((b.drop (at_ + 1)).take N).drop k) : Nat) ∧ Below w.heap.size w wr) (fun _ i _ => (intOf i).toNat)
    case atStart => exact ⟨N, Nat.le_refl _, congrArg (Value.int .i64) (by have := HN.out; omega), by rw [List.drop_of_length_le (by rw [List.length_take]; omega)]; rfl, HB3⟩
    case round =>
      obtain ⟨k, hk, rfl, rfl, HB⟩ := hrel
      obtain ⟨c0, c1, c2, hf⟩ := blk3 ((HB.block g hgl).trans hb)
      rcases Nat.eq_zero_or_pos k with rfl | hkp
      · go_wp2
        go_ret
        refine ⟨at_ + 1 + N, ?_, ?_, ?_, ?_⟩
        · have := HN.out; subst this; rfl
        · refine (rnum_at 133 (at_ + 1 + N) _ hb hr hg hG HB (by omega) ?_).1
          have := HN.out; push_cast; omega
        · have := HN.out; subst this; rfl
        · refine (rnum_at 133 (at_ + 1 + N) _ hb hr hg hG HB (by omega) ?_).2
          have := HN.out; push_cast; omega
      · obtain ⟨j, rfl⟩ : ∃ j, k = j + 1 := ⟨k - 1, by omega⟩
        have hjl : at_ + (j + 1) < b.length := by omega
        have hcj := HE2.out (j + 1) hjl wr HB
        obtain ⟨y, hy⟩ : ∃ y : Nat, (b[at_ + (j + 1)]'hjl).toNat = y := ⟨_, rfl⟩
        have hy8 : y < 256 := by rw [← hy]; exact UInt8.toNat_lt _
        obtain ⟨a, ha⟩ : ∃ a : Nat, leNum (((b.drop (at_ + 1)).take N).drop (j + 1)) = a := ⟨_, rfl⟩
        have ha8 : a < 1099511627776 := by
          rw [← ha]
          refine Nat.lt_of_lt_of_le (leNum_lt _) (Nat.le_trans (Nat.pow_le_pow_right (by decide) (show _ ≤ 5 by rw [List.length_drop, List.length_take]; omega)) (by decide))
        have HS : Hid (leNum (((b.drop (at_ + 1)).take N).drop j) = a * 256 + y) := by
          show _ = _
          have hlj : j < ((b.drop (at_ + 1)).take N).length := by rw [List.length_take, List.length_drop]; omega
          rw [List.drop_eq_getElem_cons hlj, leNum, ha]
          have : ((b.drop (at_ + 1)).take N)[j] = b[at_ + (j + 1)] := by simp [List.getElem_take, List.getElem_drop, Nat.add_assoc, Nat.add_comm 1]
          rw [this, hy]; omega
        rw [hy] at hcj
        clear hy
        try clear hyc
        rw [ha]
        clear ha
        have hor := or_byte a y (by omega) (by omega) (by omega) (by omega)
        go_wp2
        go_quiet (fail)
        go_wp2
        go_roundw
        case rel => exact ⟨j, by omega, rfl, by rw [HS.out]; rfl, bel_drewN HB _⟩
        case measure => simp [intOf])
end Go.Proofs.Ytcmdeaejgldhfaa
