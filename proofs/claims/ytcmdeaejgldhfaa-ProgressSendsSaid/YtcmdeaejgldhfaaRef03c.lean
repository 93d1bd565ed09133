/-
  The document's Reader.Number.
-/
import Derived.Test.YtcmdeaejgldhfaaRef12a
set_option linter.unusedVariables false
set_option linter.unusedSimpArgs false
namespace Go.HB
/-- What Number leaves at block g: the state s, the same bytes. -/
def RNum (t : TypeId) (w : World) (g : Nat) (b : Bytes) (G : FP) (s : Int × RS) (e : Ending) (w' : World) : Prop :=
  ∃ at_ : Nat, e = .returned (.int .i64 s.1) ∧ RRd t w' g b at_ s.2.e G ∧ s.2.b = b.drop at_ ∧ w.grownBy w' (some g)
end Go.HB
namespace Go.Proofs.Ytcmdeaejgldhfaa
open Go.RowKit Go.HB Go.Shelf

set_option maxRecDepth 100000 in
set_option maxHeartbeats 2000000 in
theorem rnumber_e (w : World) (g : Nat) (b : Bytes) (at_ : Nat) (er : Int) (G : FP) (h : RRd 133 w g b at_ er G) (he : ¬ er = 0) :
    Calls Try.prog 82 #[.pointer (some ⟨g, 0, none⟩)] w (RNum 133 w g b G (⟨er, b.drop at_⟩ : RS).num) := by
  have h' := h
  obtain ⟨A, c, hb, hr, hl, hg⟩ := h
  obtain ⟨c0, c1, c2, hf⟩ := blk3 hb
  have hn : (⟨er, b.drop at_⟩ : RS).num = (0, ⟨er, b.drop at_⟩) := by simp [RS.num, he]
  rw [hn]
  have H := Lib.hid h'
  clear hn h'
  have hev : (er == 0) = false := by rw [beq_eq_false_iff_ne]; exact he
  go_enter Try.func82, Try.ntmps82
  go_wp2
  go_ret
  exact ⟨at_, rfl, H.out, rfl, World.grownBy.refl _ _⟩

set_option maxRecDepth 100000 in
set_option maxHeartbeats 2000000 in
theorem rnumber_end (w : World) (g : Nat) (b : Bytes) (G : FP) (h : RRd 133 w g b b.length 0 G) (hG : ∀ k, G k → k < w.heap.size) :
    Calls Try.prog 82 #[.pointer (some ⟨g, 0, none⟩)] w (RNum 133 w g b G (0, ⟨20, []⟩)) := by
  have h' := h
  obtain ⟨A, c, hb, hr, hl, hg⟩ := h
  obtain ⟨c0, c1, c2, hf⟩ := blk3 hb
  have hgl := block_lt hb
  have hz : Hid (b.length - b.length = 0) := by show _ = _; omega
  go_enter Try.func82, Try.ntmps82
  go_wp2_with (go_at_call 91; go_must (refine (rleft_any w g b b.length 0 G h').mono ?_); rintro e w1 ⟨rfl, hb1⟩; rw [hz.out]; obtain ⟨d0, d1, d2, df⟩ := blk3 ((hb1.block g hgl).trans hb))
  go_ret
  refine ⟨b.length, rfl, ⟨A, c, heap_set ((hb1.block g hgl).trans hb) rfl, ?_, Nat.le_refl _, hg⟩, by simp, ?_⟩
  · exact (hr.below' hb1 hG).set hg _
  · exact ⟨hb1.os, hb1.tape, hb1.output, by simpa [World.setCell] using hb1.size, fun k hk hne => (Below.heap_setCell _ _ _ k (fun e => hne (by rw [e]))).trans (hb1.block k hk)⟩


theorem rnum_set (t : TypeId) {w w1 : World} {g : Nat} {b : Bytes} {at_ : Nat} {G : FP} {A : Option Addr} {c : Nat} (ec : Int) (q : Nat) (hb : w.heap[g]? = some (.cells #[.slice A b.length c, .int .i64 at_, .int .i64 0] t (0, 0))) (hr : Rd encU8 w G (.slice A b.length c) b) (hl : at_ ≤ b.length) (hg : ¬ G g) (hG : ∀ k, G k → k < w.heap.size) (hb1 : Below w.heap.size w w1) :
    RRd t (w1.setCell ⟨g, 2, none⟩ (.int .i64 ec)) g b at_ ec G ∧ w.grownBy (w1.setCell ⟨g, 2, none⟩ (.int .i64 ec)) (some g) :=
  ⟨⟨A, c, heap_set ((hb1.block g (block_lt hb)).trans hb) rfl, (hr.below' hb1 hG).set hg _, hl, hg⟩,
    ⟨hb1.os, hb1.tape, hb1.output, by simpa [World.setCell] using hb1.size, fun k hk hne => (Below.heap_setCell _ _ _ k (fun e => hne (by rw [e]))).trans (hb1.block k hk)⟩⟩

set_option maxRecDepth 100000 in
set_option maxHeartbeats 2000000 in
theorem rnumber_big (w : World) (g : Nat) (b : Bytes) (at_ : Nat) (G : FP) (h : RRd 133 w g b at_ 0 G) (hG : ∀ k, G k → k < w.heap.size) (hlt : at_ < b.length) (h6 : 6 < (b[at_]'hlt).toNat) :
    Calls Try.prog 82 #[.pointer (some ⟨g, 0, none⟩)] w (RNum 133 w g b G (0, ⟨21, b.drop at_⟩)) := by
  have h' := h
  obtain ⟨A, c, hb, hr, hl, hg⟩ := h
  have hby := hr.bytes_le
  simp only [encU8, encOf] at hby
  have hgl := block_lt hb
  obtain ⟨n, hn⟩ : ∃ n : Nat, (b[at_]'hlt).toNat = n := ⟨_, rfl⟩
  have hn8 : n < 256 := by rw [← hn]; exact (b[at_]'hlt).toNat_lt
  obtain ⟨ad, rfl, hcell⟩ := hr.byte_at at_ hlt
  rw [hn] at hcell h6
  have hz : 1 ≤ b.length - at_ := by omega
  have hE : ∀ w1, Below w.heap.size w w1 → w1.cell? (ad.add at_) = some (.int .u8 (n : Int)) := fun w1 h1 => by
    have := (hr.below' h1 hG).byte_at at_ hlt
    obtain ⟨ad', e, hc⟩ := this
    simp only [Option.some.injEq] at e
    rw [e, hc, hn]
  have dn : decide ((6 : Int) < (n : Int)) = true := by simp; omega
  clear hn
  obtain ⟨c0, c1, c2, hf⟩ := blk3 hb
  go_enter Try.func82, Try.ntmps82
  go_wp2_with (go_at_call 91; go_must (refine (rleft_any w g b at_ 0 G h').mono ?_); rintro e w1 ⟨rfl, hb1⟩; obtain ⟨d0, d1, d2, df⟩ := blk3 ((hb1.block g hgl).trans hb); have hc1 := hE w1 hb1)
  all_goals (go_quiet (fail))
  all_goals go_wp2
  go_ret
  obtain ⟨k1, k2⟩ := rnum_set 133 21 0 hb hr hl hg hG (bel_drewN hb1 _)
  exact ⟨at_, rfl, k1, rfl, k2⟩
set_option maxRecDepth 100000 in
set_option maxHeartbeats 2000000 in
theorem rnumber_short (w : World) (g : Nat) (b : Bytes) (at_ : Nat) (G : FP) (h : RRd 133 w g b at_ 0 G) (hG : ∀ k, G k → k < w.heap.size) (hlt : at_ < b.length) (h6 : ¬ 6 < (b[at_]'hlt).toNat) (h7 : b.length - at_ < 1 + (b[at_]'hlt).toNat) :
    Calls Try.prog 82 #[.pointer (some ⟨g, 0, none⟩)] w (RNum 133 w g b G (0, ⟨20, b.drop at_⟩)) := by
  have h' := h
  obtain ⟨A, c, hb, hr, hl, hg⟩ := h
  have hby := hr.bytes_le
  simp only [encU8, encOf] at hby
  have hgl := block_lt hb
  obtain ⟨n, hn⟩ : ∃ n : Nat, (b[at_]'hlt).toNat = n := ⟨_, rfl⟩
  have hn8 : n < 256 := by rw [← hn]; exact (b[at_]'hlt).toNat_lt
  obtain ⟨ad, rfl, hcell⟩ := hr.byte_at at_ hlt
  rw [hn] at hcell h6 h7
  have hz : 1 ≤ b.length - at_ := by omega
  have hE : ∀ w1, Below w.heap.size w w1 → w1.cell? (ad.add at_) = some (.int .u8 (n : Int)) := fun w1 h1 => by
    have := (hr.below' h1 hG).byte_at at_ hlt
    obtain ⟨ad', e, hc⟩ := this
    simp only [Option.some.injEq] at e
    rw [e, hc, hn]
  have dn : decide ((6 : Int) < (n : Int)) = false := by simp; omega
  clear hn
  obtain ⟨c0, c1, c2, hf⟩ := blk3 hb
  go_enter Try.func82, Try.ntmps82
  go_wp2_with (first | (go_at_call 91; go_must (refine (rleft_any w g b at_ 0 G h').mono ?_); rintro e w1 ⟨rfl, hb1⟩; obtain ⟨d0, d1, d2, df⟩ := blk3 ((hb1.block g hgl).trans hb); have hc1 := hE w1 hb1))
  all_goals (go_quiet (fail))
  have HQ := bel_drewN hb1 nq
  go_wp2_with (go_at_call 91; go_must (refine (rleft_any _ g b at_ 0 G (h'.move (Agree.of_below HQ (fun k hk => by rcases hk with rfl | hk; exact hgl; exact hG k hk)))).mono ?_); rintro e w2 ⟨rfl, hb2⟩; have HB2 := bel_then HQ (Nat.le_refl _) hb2; obtain ⟨f0, f1, f2, ff⟩ := blk3 ((HB2.block g hgl).trans hb))
  all_goals go_ret
  obtain ⟨k1, k2⟩ := rnum_set 133 20 0 hb hr hl hg hG HB2
  exact ⟨at_, rfl, k1, rfl, k2⟩
set_option maxRecDepth 100000 in
set_option maxHeartbeats 2000000 in
theorem rnumber_form (w : World) (g : Nat) (b : Bytes) (at_ : Nat) (G : FP) (h : RRd 133 w g b at_ 0 G) (hG : ∀ k, G k → k < w.heap.size) (hlt : at_ < b.length) (h6 : ¬ 6 < (b[at_]'hlt).toNat) (h7 : ¬ b.length - at_ < 1 + (b[at_]'hlt).toNat) (h8 : 0 < (b[at_]'hlt).toNat) (h9 : b[at_ + (b[at_]'hlt).toNat]? = some 0) :
    Calls Try.prog 82 #[.pointer (some ⟨g, 0, none⟩)] w (RNum 133 w g b G (0, ⟨21, b.drop at_⟩)) := by
  have h' := h
  obtain ⟨A, c, hb, hr, hl, hg⟩ := h
  have hby := hr.bytes_le
  simp only [encU8, encOf] at hby
  have hgl := block_lt hb
  obtain ⟨n, hn⟩ : ∃ n : Nat, (b[at_]'hlt).toNat = n := ⟨_, rfl⟩
  have hn8 : n < 256 := by rw [← hn]; exact (b[at_]'hlt).toNat_lt
  obtain ⟨ad, rfl, hcell⟩ := hr.byte_at at_ hlt
  rw [hn] at hcell h6 h7 h8 h9
  have hz : 1 ≤ b.length - at_ := by omega
  have hE : ∀ w1, Below w.heap.size w w1 → w1.cell? (ad.add at_) = some (.int .u8 (n : Int)) := fun w1 h1 => by
    have := (hr.below' h1 hG).byte_at at_ hlt
    obtain ⟨ad', e, hc⟩ := this
    simp only [Option.some.injEq] at e
    rw [e, hc, hn]
  have hlt2 : at_ + n < b.length := by omega
  have h9' : ((b[at_ + n]'hlt2).toNat : Int) = 0 := by rw [List.getElem?_eq_getElem hlt2] at h9; simp only [Option.some.injEq] at h9; rw [h9]; rfl
  have hE2 : ∀ w1, Below w.heap.size w w1 → w1.cell? (ad.add (at_ + n)) = some (.int .u8 0) := fun w1 h1 => by
    have := (hr.below' h1 hG).byte_at (at_ + n) hlt2
    obtain ⟨ad', e, hc⟩ := this
    simp only [Option.some.injEq] at e
    rw [e, hc, h9']
  have d8 : decide ((0 : Int) < (n : Int)) = true := by simp; omega
  have dn : decide ((6 : Int) < (n : Int)) = false := by simp; omega
  clear hn
  obtain ⟨c0, c1, c2, hf⟩ := blk3 hb
  go_enter Try.func82, Try.ntmps82
  go_wp2_with (first | (go_at_call 91; go_must (refine (rleft_any w g b at_ 0 G h').mono ?_); rintro e w1 ⟨rfl, hb1⟩; obtain ⟨d0, d1, d2, df⟩ := blk3 ((hb1.block g hgl).trans hb); have hc1 := hE w1 hb1))
  all_goals (go_quiet (fail))
  have HQ := bel_drewN hb1 nq
  go_wp2_with (go_at_call 91; go_must (refine (rleft_any _ g b at_ 0 G (h'.move (Agree.of_below HQ (fun k hk => by rcases hk with rfl | hk; exact hgl; exact hG k hk)))).mono ?_); rintro e w2 ⟨rfl, hb2⟩; have HB2 := bel_then HQ (Nat.le_refl _) hb2; obtain ⟨f0, f1, f2, ff⟩ := blk3 ((HB2.block g hgl).trans hb); have hc2 := hE2 w2 HB2)
  all_goals (go_quiet (fail))
  all_goals go_wp2
  all_goals go_ret
  obtain ⟨k1, k2⟩ := rnum_set 133 21 0 hb hr hl hg hG (bel_drewN HB2 _)
  exact ⟨at_, rfl, k1, rfl, k2⟩
end Go.Proofs.Ytcmdeaejgldhfaa
