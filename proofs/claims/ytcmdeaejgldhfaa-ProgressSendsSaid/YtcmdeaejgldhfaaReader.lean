/-
  wire.Reader: one number off the bytes.
-/
import Derived.Test.YtcmdeaejgldhfaaIter
set_option linter.unusedVariables false
set_option linter.unusedSimpArgs false
namespace Go.Proofs.Ytcmdeaejgldhfaa
open Go.RowKit Go.HB Go.Shelf

/-- A wire.Reader in a block of its own. -/
def WRd (w : World) (g : Nat) (s : RS) (G : FP) : Prop :=
  ∃ A c, w.heap[g]? = some (.cells #[.int .i64 s.e, .slice A s.b.length c, .bool true] 137 (0, 0)) ∧ Rd encU8 w G (.slice A s.b.length c) s.b ∧ ¬ G g

theorem or_byte (x c : Int) (h0 : 0 ≤ x) (h1 : x < 281474976710656) (h2 : 0 ≤ c) (h3 : c < 256) : bits .or .i64 (x * 256) c = x * 256 + c :=
  bits_join .i64 56 (by decide) (fun n h0 h1 => IntWalk.i64_in n (by omega)) 8 _ _ (by omega) (by omega) (by omega) h2 (by omega) (by omega)

theorem WRd.set_err {w : World} {g : Nat} {s : RS} {G : FP} (h : WRd w g s G) (c : Int) : WRd (w.setCell ⟨g, 0, none⟩ (.int .i64 c)) g ⟨c, s.b⟩ G ∧ w.grownBy (w.setCell ⟨g, 0, none⟩ (.int .i64 c)) (some g) := by
  obtain ⟨A, c1, hb, hr, hg⟩ := h
  refine ⟨⟨A, c1, heap_set hb rfl, Rd.set hg hr _, hg⟩, ⟨rfl, rfl, rfl, by simp [World.setCell], fun k hk hne => Below.heap_setCell _ _ _ _ (fun e => hne (by rw [e]))⟩⟩

set_option maxHeartbeats 1000000 in
theorem wnumber_bad (w : World) (g : Nat) (s : RS) (G : FP) (h : WRd w g s G) (hbad : ∀ x r, s.e = 0 → readNum s.b ≠ .ok (x, r)) :
    Calls Try.prog 86 #[.pointer (some ⟨g, 0, none⟩)] w fun e w' => e = .returned (.int .i64 s.num.1) ∧ WRd w' g s.num.2 G ∧ w.grownBy w' (some g) := by
  have h' := h
  obtain ⟨A, c, hb, hr, hg⟩ := h
  obtain ⟨c0, c1, c2, hf⟩ := blk3 hb
  by_cases he : s.e = 0
  · have hev : (s.e == 0) = true := by rw [he]; rfl
    cases hs : s.b with
    | nil =>
      have hn : s.num = (0, ⟨20, s.b⟩) := by simp [RS.num, he, hs, readNum]
      have hset := h'.set_err 20
      simp only [hs, List.length_nil] at c1
      rw [hn]
      have H := Lib.hid hset
      clear hset hn hbad hs hb hr h'
      rw [he] at c0
      clear he hev
      go_enter Try.func86, Try.ntmps86
      go_wp2
      go_end0
      go_wp2
      go_ret
      exact ⟨rfl, H.out.1, H.out.2⟩
    | cons n r =>
      have hl : s.b.length = r.length + 1 := by rw [hs]; rfl
      have hle := hr.len_le
      obtain ⟨ad, hA, hcell⟩ := hr.byte_at 0 (by rw [hl]; omega)
      have hn0 : ((s.b[0]'(by rw [hl]; omega)).toNat : Int) = n.toNat := by simp [hs]
      rw [hn0] at hcell
      have hnl := n.toNat_lt
      subst hA
      have had : ad.add 0 = ad := by unfold Addr.add; simp
      rw [had] at hcell
      rw [hl] at c1 hle
      rw [he] at c0
      obtain ⟨m, hm⟩ : ∃ m : Nat, m = n.toNat := ⟨_, rfl⟩
      rw [← hm] at hcell hnl
      by_cases h6 : 6 < m
      · have hn : s.num = (0, ⟨21, s.b⟩) := RS.num_err he (by rw [hs]; exact readNum_big (by omega))
        have hset := h'.set_err 21
        rw [hn]
        have H := Lib.hid hset
        clear hset hn hbad hs hb hr h' he hev hl hn0 hm had
        go_enter Try.func86, Try.ntmps86
        go_wp2
        go_end0
        go_wp2
        go_ret
        exact ⟨rfl, H.out.1, H.out.2⟩
      · by_cases h7 : r.length < m
        · have hn : s.num = (0, ⟨20, s.b⟩) := RS.num_err he (by rw [hs]; exact readNum_short (by omega) (by omega))
          have hset := h'.set_err 20
          rw [hn]
          have H := Lib.hid hset
          clear hset hn hbad hs hb hr h' he hev hl hn0 hm had
          go_enter Try.func86, Try.ntmps86
          go_wp2
          go_end0
          go_wp2
          go_ret
          exact ⟨rfl, H.out.1, H.out.2⟩
        · by_cases h8 : 0 < m ∧ r[m - 1]? = some 0
          · have hn : s.num = (0, ⟨21, s.b⟩) := RS.num_err he (by rw [hs]; exact readNum_form (by omega) (by omega) (by rw [← hm]; exact h8))
            have hset := h'.set_err 21
            rw [hn]
            obtain ⟨h80, h81⟩ := h8
            obtain ⟨ad', hA', hcell'⟩ := hr.byte_at m (by rw [hl]; omega)
            cases hA'
            have hz : ((s.b[m]'(by rw [hl]; omega)).toNat : Int) = 0 := by
              have : s.b[m]? = some 0 := by rw [hs]; cases m with
                | zero => omega
                | succ m => simpa using h81
              rw [List.getElem?_eq_getElem (by rw [hl]; omega)] at this
              injection this with this
              rw [this]; rfl
            rw [hz] at hcell'
            have H := Lib.hid hset
            clear hset hn hbad hs hb hr h' he hev hl hn0 hm had h81 hz
            go_enter Try.func86, Try.ntmps86
            go_wp2
            go_end0
            go_wp2
            go_ret
            exact ⟨rfl, H.out.1, H.out.2⟩
          · exact absurd (by rw [hs]; exact readNum_ok (by omega) (by omega) (by rw [← hm]; exact h8)) (hbad (leNum (r.take n.toNat)) (r.drop n.toNat) he)
  · have hev : (s.e == 0) = false := by rw [beq_eq_false_iff_ne]; exact he
    have hn : s.num = (0, s) := by simp [RS.num, he]
    rw [hn]
    clear hn hbad
    have H := Lib.hid h'
    clear h'
    go_enter Try.func86, Try.ntmps86
    go_wp2
    go_ret
    exact ⟨rfl, H.out, World.grownBy.refl _ _⟩
set_option maxHeartbeats 400000 in
theorem wnone_any (w : World) (g : Nat) (h2 : w.cell? ⟨g, 2, none⟩ = some (.bool true)) : Calls Try.prog 92 #[.pointer (some ⟨g, 0, none⟩)] w fun e w' => e = .returned (.bool false) ∧ w = w' := by
  go_enter Try.func92, Try.ntmps92
  go_wp2
  go_ret
  exact ⟨rfl, rfl⟩
set_option maxHeartbeats 400000 in
theorem fok_yes (w : World) (g : Nat) (h0 : w.cell? ⟨g, 0, none⟩ = some (.int .i64 0)) : Calls Try.prog 93 #[.pointer (some ⟨g, 0, none⟩)] w fun e w' => e = .returned (.bool true) ∧ w = w' := by
  go_enter Try.func93, Try.ntmps93
  go_wp2
  go_ret
  exact ⟨rfl, rfl⟩
attribute [local go_sem] Oper.semAt_some
set_option maxRecDepth 100000 in
set_option maxHeartbeats 2000000 in
theorem wnumber_ok (w : World) (g : Nat) (b : Bytes) (G : FP) (h : WRd w g ⟨0, b⟩ G) (hGw : ∀ b, G b → b < w.heap.size) (n : UInt8) (r : Bytes) (hs : b = n :: r) (h6 : ¬ 6 < n.toNat) (h7 : ¬ r.length < n.toNat) (h8 : ¬ (0 < n.toNat ∧ r[n.toNat - 1]? = some 0)) :
    Calls Try.prog 86 #[.pointer (some ⟨g, 0, none⟩)] w fun e w' => e = .returned (.int .i64 (leNum (r.take n.toNat))) ∧ WRd w' g ⟨0, r.drop n.toNat⟩ G ∧ w.grownBy w' (some g) := by
  have h' := h
  obtain ⟨A, c, hb, hr, hg⟩ := h
  simp only at hb hr
  have hl : b.length = r.length + 1 := by rw [hs]; rfl
  have hgl := block_lt hb
  have hle := hr.len_le
  obtain ⟨ad, rfl, hcell⟩ := hr.byte_at 0 (by rw [hl]; omega)
  have had : ad.add 0 = ad := by unfold Addr.add; simp
  have hn0 : ((b[0]'(by rw [hl]; omega)).toNat : Int) = n.toNat := by simp [hs]
  rw [hn0, had] at hcell
  have hnl := n.toNat_lt
  rw [hl] at hb hr hle
  obtain ⟨c0, c1, c2, hf⟩ := blk3 hb
  obtain ⟨m, hm⟩ : ∃ m : Nat, m = n.toNat := ⟨_, rfl⟩
  rw [← hm] at hcell hnl h6 h7 h8 ⊢
  obtain ⟨i0, hi, hzz⟩ := Option.map_eq_some_iff.1 info5
  simp only [Prod.mk.injEq] at hzz
  obtain ⟨A1, hrun, _, hR1⟩ := Rd.cut 52 5 encU8 i0 Try.underlying52 hi hzz.2.1 hr 1 (m + 1) (by omega) (by omega)
  obtain ⟨A2, _, hrun2, hR2⟩ := Rd.cut 52 5 encU8 i0 Try.underlying52 hi hzz.2.1 hr (m + 1) (r.length + 1) (by omega) (Nat.le_refl _)
  have hlc : r.length + 1 ≤ c := by
    obtain ⟨_, _, e, h, _⟩ := hr.slice
    injection e with _ e1 e2
    omega
  have hrun' : ∀ W kl kh, (Instr.slice 52 (.slice (some ad) (r.length + 1) c) (some (.int kl 1)) (some (.int kh ((m : Int) + 1))) none).run Try.prog W = .ok (.slice A1 m (c - 1)) W := fun W kl kh => by simpa using hrun W kl kh
  have hrun2' : ∀ W kl, (Instr.slice 52 (.slice (some ad) (r.length + 1) c) (some (.int kl ((m : Int) + 1))) none none).run Try.prog W = .ok (.slice A2 (r.length - m) (c - (m + 1))) W := fun W kl => by simpa using hrun2 rfl W kl
  rw [show r.length + 1 - (m + 1) = r.length - m by omega] at hR2
  rw [Nat.add_sub_cancel] at hR1
  have hb1 : (b.drop 1).take m = r.take m := by rw [hs]; rfl
  have hb2 : (b.drop (m + 1)).take (r.length - m) = r.drop m := by rw [hs, List.drop_succ_cons, List.take_of_length_le (by rw [List.length_drop]; omega)]
  rw [hb1] at hR1
  rw [hb2] at hR2
  clear hrun hrun2 hb1 hb2
  refine (callsIn_wide (n := 9)).1 ?_
  refine callsIn_of_wp_marks Try.func86 rfl trivial ?_ rfl
  simp only [Try.ntmps86, List.size_toArray, List.length_cons, List.length_nil, Nat.reduceAdd, Nat.reduceSub, Array.replicate_succ, Array.replicate_zero, List.push_toArray, List.append_toArray, List.nil_append, List.cons_append]
  have C0 := Lib.hid c0
  have C2 := Lib.hid c2
  obtain ⟨v, hcv, hv⟩ : ∃ v : Int, (0 < m → w.cell? (ad.add m) = some (.int .u8 v)) ∧ (v == 0) = false := by
    by_cases h0 : 0 < m
    · obtain ⟨ad', hA', hcell'⟩ := hr.byte_at m (by rw [hl]; omega)
      cases hA'
      refine ⟨_, fun _ => hcell', ?_⟩
      rw [beq_eq_false_iff_ne]
      intro hz
      refine h8 ⟨h0, ?_⟩
      have hz' : b[m]'(by rw [hl]; omega) = 0 := UInt8.toNat.inj (by simpa using hz)
      have hb1 : b[m]? = some 0 := by rw [List.getElem?_eq_getElem (by rw [hl]; omega), hz']
      rw [hs] at hb1
      cases m with
      | zero => omega
      | succ m => simpa using hb1
    · exact ⟨1, fun h => absurd h h0, rfl⟩
  have HB := Lib.hid hb
  clear hb hr had hn0 h' hs hl hm hi hzz h8
  gi_wp2_with (first | (refine ⟨trivial, ?_⟩; gi_at_call 92; refine (callsIn_wide.2 (wnone_any w g C2.out)).mono ?_; rintro e w1 ⟨rfl, rfl⟩) | (refine ⟨trivial, ?_⟩; gi_at_call 93; refine (callsIn_wide.2 (fok_yes w g C0.out)).mono ?_; rintro e w1 ⟨rfl, rfl⟩) | (refine ⟨trivial, ?_⟩; gi_at_call 95; refine (backB_in Fence.wide 8 trivial rfl _ _ _ _).mono ?_; rintro e w1 ⟨rfl, rfl⟩))
  all_goals (
    have hB0 : Below w.heap.size w ((w.alloc (.cells #[.int .i64 0] 3)).alloc (.cells #[.slice A1 m (c - 1)] 52)) := bel_alloc (bel_alloc (Below.refl _ _) (Nat.le_refl _) _) (Nat.le_refl _) _
    have hx := cell_new_l w (.int .i64 0) 3
    have hbx := cell_new_l (w.alloc (.cells #[.int .i64 0] 3)) (.slice A1 m (c - 1)) 52
    rw [World.size_alloc] at hbx
    have hml : (r.take m).length = m := by rw [List.length_take]; omega
    have hGx : ∀ b, (fun b => G b ∨ b = w.heap.size + 1) b → b < ((w.alloc (.cells #[.int .i64 0] 3)).alloc (.cells #[.slice A1 m (c - 1)] 52)).heap.size := by
      intro b hb
      rcases hb with hb | rfl
      · have := hGw b hb; simp; omega
      · simp
    have hseq := backB_stops Fence.wide 8 trivial rfl (by omega) (w.heap.size + 1) A1 (c - 1) (r.take m) (fun b => G b ∨ b = w.heap.size + 1) (.inr rfl) ((w.alloc (.cells #[.int .i64 0] 3)).alloc (.cells #[.slice A1 m (c - 1)] 52)) hGx (by rw [hml]; exact hbx.1) (by rw [hml]; exact (hR1.below hB0).mono fun _ h => .inl h)
    apply wpIn_rangeFunc_ownF (F := Fence.wide) (n := 9) rfl (by omega) (gf := 96) (lb := #[.pointer (some ⟨w.heap.size + 1, 0, none⟩)]) rfl trivial (enters_of Try.func96 (by kernel_rfl) rfl) hseq
      agreeK_t (agreeK_b hGx) (Below.refl _ _) (fun _ => rfl)
      (fun pre W => (W.cell? ⟨w.heap.size, 0, none⟩ = some (.int .i64 (accB pre : Int)) ∧ W.frozen? ⟨w.heap.size, 0, none⟩ = false) ∧ Below w.heap.size w W)
      (fun _ _ _ => False)
      (OwnFrom.and (Own.from (fun s A B row hs hg hr => ⟨cell_kept hs.1 hg hr, (frozen_kept hs.1 hg hr).trans hs.2⟩) _) (ownFrom_below (Nat.le_refl _) (by simp; omega)))
      (fun _ _ _ _ _ hs _ _ => hs)
      ⟨⟨cell_alloc_l _ hx.1, frozen_alloc_l _ hx.1 hx.2⟩, hB0⟩
    · intro l x W K hK
      gi_wp2
      exact hK
    · rintro l pre x W ⟨⟨hc, hf'⟩, hB⟩ hlen
      rw [hml] at hlen
      have hacc : accB pre < 1099511627776 := Nat.lt_of_lt_of_le (accB_lt pre) (Nat.le_trans (Nat.pow_le_pow_right (by decide) (show pre.length ≤ 5 by omega)) (by decide))
      have hx1 := x.1.toNat_lt
      obtain ⟨a, ha⟩ : ∃ a : Nat, accB pre = a := ⟨_, rfl⟩
      obtain ⟨y, hy⟩ : ∃ y : Nat, x.1.toNat = y := ⟨_, rfl⟩
      have hsn : Hid (accB (pre ++ [x]) = a * 256 + y) := by show _ = _; rw [accB_snoc, ha, hy]
      rw [ha] at hc hacc
      rw [hy] at hx1 ⊢
      clear ha hy
      have hor := or_byte a y (by omega) (by omega) (by omega) (by omega)
      first
        | (exfalso; omega)
        | (gi_wp2
           refine ⟨KeepsOthers.setCell _ _ _, agree_set (fun hb => ?_) (Agree.refl _ _) _, ⟨⟨?_, ?_⟩, hB.setCell (p := ⟨w.heap.size, 0, none⟩) (Nat.le_refl _) _⟩⟩
           · rcases hb with hb | hb
             · have := hGw _ hb; simp at this
             · simp at hb
           · rw [hsn.out]; exact World.cell?_setCell_same' _ _ _ (by rw [hc]; rfl)
           · rw [World.frozen?_setCell]; exact hf')
    · rintro D ys W hD rfl ⟨⟨hc, _⟩, hB⟩ hK
      have hDw : w.heap.size ≤ D := by simp at hD; omega
      have hgW : W.heap[g]? = some (.cells #[.int .i64 0, .slice (some ad) (r.length + 1) c, .bool true] 137 (0, 0)) := (hB.block g hgl).trans HB.out
      obtain ⟨d0, d1, d2, hfg⟩ := blk3 hgW
      have HW := Lib.hid hgW
      clear hgW
      have hxv : Hid (accB (back (r.take m)) = leNum (r.take m)) := by show _ = _; exact accB_rev _ 0
      gi_wp2
      have hK' := (KeepsOthers.setCell W ⟨g, 1, none⟩ (.slice A2 (r.length - m) (c - (m + 1)))).same D _ hK rfl
      refine ⟨by simp, .inl ⟨_, _, rfl, run_takeDeferred hK', ?_⟩⟩
      refine ⟨_, results_tmp rfl _ _ _, by rw [hxv.out]; rfl, ⟨A2, c - (m + 1), ?_, ?_, hg⟩, ?_⟩
      · refine (World.putObj_heap_other (by omega)).trans ?_
        rw [heap_set HW.out rfl]
        simp
      · refine Rd.turn (Rd.set hg ?_ _) (grownBy_putObj' _ D _) (fun r e => by cases e; exact ⟨_, hK', rfl⟩)
        have := hR2.below hB
        simpa using this
      · exact ⟨hB.os, hB.tape, hB.output, Nat.le_trans hB.size (Nat.le_trans (KeepsOthers.setCell W ⟨g, 1, none⟩ (.slice A2 (r.length - m) (c - (m + 1)))).size (grownBy_putObj' _ D (.deferred none)).size), fun k hk hne => (World.putObj_heap_other (by omega)).trans ((Below.heap_setCell _ _ _ _ (fun e => hne (by rw [e]))).trans (hB.block k hk))⟩
    · rintro D c' pre W _ _ h _
      exact h.elim)
/-- wire.Reader's Number: every reader. -/
theorem wnumber_any (w : World) (g : Nat) (s : RS) (G : FP) (h : WRd w g s G) (hGw : ∀ b, G b → b < w.heap.size) :
    Calls Try.prog 86 #[.pointer (some ⟨g, 0, none⟩)] w fun e w' => e = .returned (.int .i64 s.num.1) ∧ WRd w' g s.num.2 G ∧ w.grownBy w' (some g) := by
  by_cases hbad : ∀ x r, s.e = 0 → readNum s.b ≠ .ok (x, r)
  · exact wnumber_bad w g s G h hbad
  · obtain ⟨e0, b⟩ := s
    obtain ⟨x, r', rfl, hr'⟩ : ∃ x r', e0 = 0 ∧ readNum b = .ok (x, r') := by
      cases hc : readNum b with
      | error c => exact absurd (fun x r _ => by simp only; rw [hc]; simp) hbad
      | ok p =>
        by_cases he : e0 = 0
        · exact ⟨p.1, p.2, he, rfl⟩
        · exact absurd (fun x r h => absurd h he) hbad
    cases b with
    | nil => simp [readNum] at hr'
    | cons n r =>
      by_cases h6 : 6 < n.toNat
      · rw [readNum_big h6] at hr'; cases hr'
      by_cases h7 : r.length < n.toNat
      · rw [readNum_short h6 h7] at hr'; cases hr'
      by_cases h8 : 0 < n.toNat ∧ r[n.toNat - 1]? = some 0
      · rw [readNum_form h6 h7 h8] at hr'; cases hr'
      rw [RS.num_ok (s := ⟨0, n :: r⟩) rfl (readNum_ok h6 h7 h8)]
      exact wnumber_ok w g (n :: r) G h hGw n r rfl h6 h7 h8
end Go.Proofs.Ytcmdeaejgldhfaa
