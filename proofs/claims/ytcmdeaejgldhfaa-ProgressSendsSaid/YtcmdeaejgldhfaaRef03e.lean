/-
  The document's Reader.Number whole; GetServers; RightEntry.
-/
import Derived.Test.YtcmdeaejgldhfaaRef03d
import Derived.Test.YtcmdeaejgldhfaaSrv
import Derived.Test.YtcmdeaejgldhfaaWire3
set_option linter.unusedVariables false
set_option linter.unusedSimpArgs false
namespace Go.HB
theorem srv_join {er : Int} {at3 n : Nat} {p : Bool} (rs : Bool) (h : at3 ≤ n) : (decide (er = 0) && decide (n - at3 = 0) && p && rs) = (decide ((if er = 0 ∧ at3 < n then 21 else er) = 0) && p && rs) := by
  by_cases q : er = 0 <;> by_cases q2 : at3 < n
  · have : ¬ n - at3 = 0 := by omega
    simp [q, q2, this]
  · have : n - at3 = 0 := by omega
    simp [q, q2, this]
  · simp [q]
  · simp [q]
theorem srv_no {ee n0 k : Int} {rs : Bool} (h : ¬ ee = 0 ∨ ¬ n0 = k ∨ rs = false) : (decide (ee = 0) && decide (n0 = k) && rs) = false := by
  rcases h with h | h | h <;> simp [h]
end Go.HB
namespace Go.Proofs.Ytcmdeaejgldhfaa
open Go.RowKit Go.HB Go.Shelf

theorem rnumber_any (w : World) (g : Nat) (b : Bytes) (at_ : Nat) (er : Int) (G : FP) (h : RRd 133 w g b at_ er G) (hG : ∀ k, G k → k < w.heap.size) :
    Calls Try.prog 82 #[.pointer (some ⟨g, 0, none⟩)] w (RNum 133 w g b G (⟨er, b.drop at_⟩ : RS).num) := by
  have hl : at_ ≤ b.length := by obtain ⟨A, c, _, _, hl, _⟩ := h; exact hl
  by_cases he : er = 0
  · subst he
    rcases Nat.lt_or_ge at_ b.length with hlt | hge
    · have hd : b.drop at_ = b[at_] :: b.drop (at_ + 1) := List.drop_eq_getElem_cons hlt
      have hrl : (b.drop (at_ + 1)).length = b.length - at_ - 1 := by rw [List.length_drop]; omega
      by_cases h6 : 6 < (b[at_]'hlt).toNat
      · rw [RS.num_err (s := ⟨0, b.drop at_⟩) (c := 21) rfl (by show readNum (b.drop at_) = _; rw [hd]; exact readNum_big h6)]
        exact rnumber_big w g b at_ G h hG hlt h6
      by_cases h7 : (b.drop (at_ + 1)).length < (b[at_]'hlt).toNat
      · rw [RS.num_err (s := ⟨0, b.drop at_⟩) (c := 20) rfl (by show readNum (b.drop at_) = _; rw [hd]; exact readNum_short h6 h7)]
        exact rnumber_short w g b at_ G h hG hlt h6 (by omega)
      have hidx : 0 < (b[at_]'hlt).toNat → (b.drop (at_ + 1))[(b[at_]'hlt).toNat - 1]? = b[at_ + (b[at_]'hlt).toNat]? := fun h0 => by
        rw [List.getElem?_drop]; congr 1; omega
      by_cases h8 : 0 < (b[at_]'hlt).toNat ∧ (b.drop (at_ + 1))[(b[at_]'hlt).toNat - 1]? = some 0
      · rw [RS.num_err (s := ⟨0, b.drop at_⟩) (c := 21) rfl (by show readNum (b.drop at_) = _; rw [hd]; exact readNum_form h6 h7 h8)]
        exact rnumber_form w g b at_ G h hG hlt h6 (by omega) h8.1 (by rw [← hidx h8.1]; exact h8.2)
      · rw [RS.num_ok (s := ⟨0, b.drop at_⟩) rfl (by show readNum (b.drop at_) = _; rw [hd]; exact readNum_ok h6 h7 h8)]
        have := rnumber_ok w g b at_ G h hG hlt h6 (by omega) (by rintro ⟨q1, q2⟩; exact h8 ⟨q1, by rw [hidx q1]; exact q2⟩)
        rw [List.drop_drop]
        exact this
    · obtain rfl : at_ = b.length := by omega
      rw [RS.num_err (s := ⟨0, b.drop b.length⟩) (c := 20) rfl (by simp [readNum]), List.drop_length]
      exact rnumber_end w g b G h hG
  · exact rnumber_e w g b at_ er G h he

theorem rnumber_st (w : World) (g : Nat) (b : Bytes) (at_ : Nat) (s : RS) (G : FP) (h : RRd 133 w g b at_ s.e G) (hs : s.b = b.drop at_) (hG : ∀ k, G k → k < w.heap.size) :
    Calls Try.prog 82 #[.pointer (some ⟨g, 0, none⟩)] w (RNum 133 w g b G s.num) := by
  obtain ⟨e0, b0⟩ := s
  simp only at hs h
  subst hs
  exact rnumber_any w g b at_ e0 G h hG

def RGetSrv (w : World) (b : Bytes) (e : Ending) (w' : World) : Prop :=
  ∃ v', e = .returned (.tuple #[v', .int .i64 (if srvOk b then 0 else 21)]) ∧ Below w.heap.size w w'

set_option maxRecDepth 100000 in
set_option maxHeartbeats 2000000 in
theorem rgetservers_any (w : World) (F : FP) (v : Value) (xs : Bytes) (h : Rd encU8 w F v xs) :
    Calls Try.prog 72 #[v] w (RGetSrv w xs) := by
  obtain ⟨A, c, rfl, hl, hm⟩ := h.slice
  have H := h.arg
  clear h
  have hd0 : Hid ((⟨0, xs⟩ : RS).b = xs.drop 0) := rfl
  go_enter Try.func72, Try.ntmps72
  go_wp2_with (first | (go_at_call 81; refine (rnew_any _ (ltF w) _ xs H).mono ?_; rintro e w1 ⟨g, G, rfl, hw1, hG1, hg1, hb1⟩) | (go_at_call 82; go_must (refine (rnumber_st _ g xs 0 ⟨0, xs⟩ G hw1 hd0.out (fun b hb => (hG1 b hb).2)).mono ?_); rintro e w2 ⟨at2, rfl, hw2, hbd2, hb2⟩))
  have hr0 := RS.num_range ⟨0, xs⟩
  obtain ⟨n0, hn0⟩ : ∃ n0, (⟨0, xs⟩ : RS).num.1 = n0 := ⟨_, rfl⟩
  rw [hn0] at hr0 ⊢
  obtain ⟨hr1, hr2⟩ := hr0
  obtain ⟨N, hN⟩ := Int.eq_ofNat_of_zero_le (show 0 ≤ min n0 8 by omega)
  have hN8 : N ≤ 8 := by omega
  have hNn : (N : Int) ≤ n0 := by omega
  have hNx : N = 8 ∨ (N : Int) = n0 := by omega
  obtain ⟨s1, hs1⟩ : ∃ s1, (⟨0, xs⟩ : RS).num.2 = s1 := ⟨_, rfl⟩
  have HL : Hid (srvOk xs = (decide ((s1.nums N).2.e = 0) && decide ((s1.nums N).2.b.length = 0) && decide (n0 = (s1.nums N).1.length) && rightServers (s1.nums N).1)) := by
    show _ = _
    rw [← rsrvOk_eq, rsrvOk]
    simp only [hn0, hs1, hN]
    rfl
  rw [hs1] at hw2 hbd2
  have HN0 := Lib.hid hn0
  clear hN hs1 hn0
  have HBD := Lib.hid hbd2
  clear hbd2
  have hgw := hw1
  clear hw1
  have hB2 : Below w.heap.size w w2 := hb1.grown hb2 hb1.size (fun k hk => by cases hk; exact hg1)
  have hsz := hb2.size
  have hgl : g < w1.heap.size := by obtain ⟨_, _, hbk, _⟩ := hgw; exact block_lt hbk
  clear hgw
  go_loopw [6, 7] (fun out i wr => ∃ (k at3 : Nat) (A2 : Option Addr) (c2 : Nat), k ≤ N ∧ i = .int .i64 k ∧ out = .slice A2 k c2 ∧ RRd 133 wr g xs at3 (s1.nums k).2.e G ∧ Hid ((s1.nums k).2.b = xs.drop at3) ∧ Mine encInt 3 wr w.heap.size none' (.slice A2 k c2) (s1.nums k).1 ∧ (∀ b, (Value.slice A2 k c2).ownBlock = some b → w1.heap.size ≤ b) ∧ w1.heap.size ≤ wr.heap.size ∧ Below w.heap.size w wr) (fun _ i _ => N - (intOf i).toNat)
  case atStart => exact ⟨0, at2, none, 0, by omega, rfl, rfl, hw2, HBD, Mine.nil_ _ _ _ _, fun b h => by simp [Value.ownBlock] at h, hsz, hB2⟩
  case round =>
    obtain ⟨k, at3, A2, c2, hk, rfl, rfl, hw3, HB3, HO, hob, hsr, HB⟩ := hrel
    by_cases hlt : k < N
    · have hk8 : k < 8 := by omega
      have hkn : (k : Int) < n0 := by omega
      have hnr := RS.num_range (s1.nums k).2
      have hz : (s1.nums k).1 ++ [(s1.nums k).2.num.1] = (s1.nums (k + 1)).1 := rfl
      have hzl := RS.nums_len s1 (k + 1)
      have HZ := Lib.hid hz
      have HZL := Lib.hid hzl
      have HS : Hid ((s1.nums k).2.num.2 = (s1.nums (k + 1)).2) := rfl
      clear hz hzl
      go_wp2_with (first | (go_at_call 82; go_must (refine (rnumber_st _ g xs at3 (s1.nums k).2 G hw3 HB3.out (fun b hb => Nat.lt_of_lt_of_le (hG1 b hb).2 hsr)).mono ?_); rintro e w4 ⟨at4, rfl, hw4, hbd4, hb4⟩; have HBD4 := Lib.hid hbd4; clear hbd4) | (at_builtin; go_must (refine own_append (w0 := w) encInt rfl _ _ 25 3 (.int .i64 0) rfl Try.underlying25 info3 rfl none' (geF wr.heap.size) (.slice A2 k c2) (.slice (some ⟨_, 0, none⟩) 1 1) (s1.nums k).1 [(s1.nums k).2.num.1] _ (k + 1) rfl rfl HZ.out HZL.out ?c0 ?c1 ?c2 ?c3 ?c4 ?c5 ?_)))
      case c0 =>
        refine Mine.alloc (HO.move fun b hb => ?_) _
        rcases hb with hb | hb
        · exact hb.elim
        · exact hb4.block b (HO.lt b hb).2 (fun e => by cases e; have := hob g hb; omega)
      case c1 => exact bel_alloc (HB.grown hb4 HB.size (fun k hk => by cases hk; exact hg1)) (Nat.le_refl _) _
      case c2 => exact Rd.one_new encInt w _ _ _ _ _ _ 1 (heap_new rfl rfl) ⟨⟨by omega, by omega⟩, rfl⟩ (by simpa [geF] using hb4.size) (Nat.le_refl _) (by simp [maxLen]) (by decide)
      case c3 => intro b he hb'; have := (HO.lt b he).2; simp [geF] at hb'; omega
      case c4 => simp [encInt, encOf]; omega
      case c5 => simp [maxLen]; omega
      intro A5 c5 w5 HO5 HB5 hl5 hm5 hg5 hat5
      go_wp2
      go_roundw
      case rel =>
        refine ⟨k + 1, at4, A5, c5, by omega, by go_num, rfl, ?_, HBD4, HO5.flat flat_int, ?_, ?_, HB5⟩
        · rw [← HS.out]
          refine hw4.move fun b hb => ?_
          have hbl : b < w1.heap.size := by
            rcases hb with rfl | hb
            · exact hgl
            · exact (hG1 b hb).2
          have h4 := hb4.size
          exact (hg5.block b (by simp; omega) (fun e => by have := hob b e.symm; omega)).trans (Below.heap_alloc _ _ _ (by omega))
        · intro b hb
          rcases hat5 with hat5 | hat5
          · exact hob b (hat5.symm.trans hb)
          · rw [hat5] at hb; injection hb with hb; have h4 := hb4.size; (try simp at hb); omega
        · have h4 := hb4.size; have h5 := hg5.size; (try simp at h5); omega
      case measure => simp [intOf]; omega
    · obtain rfl : k = N := by omega
      have hnl := RS.nums_len s1 k
      have hble : ∀ m : Nat, (s1.nums k).2.b.length = m → m = xs.length - at3 := fun m hm => by rw [← hm, HB3.out, List.length_drop]
      have ha3 : at3 ≤ xs.length := by obtain ⟨_, _, _, _, h, _⟩ := hw3; exact h
      obtain ⟨er, her⟩ : ∃ er, (s1.nums k).2.e = er := ⟨_, rfl⟩
      rw [her] at hw3 HL
      obtain ⟨L, hL⟩ : ∃ L, (s1.nums k).1 = L := ⟨_, rfl⟩
      rw [hL] at HO HL hnl
      obtain ⟨ee, hee⟩ : ∃ ee : Int, (if er = 0 ∧ at3 < xs.length then 21 else er) = ee := ⟨_, rfl⟩
      obtain ⟨rs, hrs⟩ : ∃ rs, rightServers L = rs := ⟨_, rfl⟩
      rw [hrs] at HL
      have HEE := Lib.hid hee
      have HRS := Lib.hid hrs
      have HOK : Hid (srvOk xs = (decide (ee = 0) && decide (n0 = (k : Int)) && rs)) := by
        show _ = _
        rw [HL.out, hnl, ← hee, hble _ rfl]
        exact srv_join rs ha3
      clear hee hrs her hL hble HL HN0
      have hg8 : (k : Int) < n0 → k = 8 := by omega
      by_cases hkn : (k : Int) < n0
      · obtain rfl := hg8 hkn
        go_wp2_with (first | (go_at_call 83; go_must (refine (rend_any _ g xs at3 er G hw3).mono ?_); rintro e w4 ⟨rfl, hb4⟩; rw [HEE.out]) | (go_at_call 84; go_must (refine (rrightservers_any _ _ _ L (HO.rd.below hb4)).mono ?_); rintro e w5 ⟨rfl, hb5⟩; rw [HRS.out]))
        all_goals go_ret2
        · have h0 : srvOk xs = false := by rw [HOK.out]; exact srv_no (.inr (.inl (by assumption)))
          exact ⟨.slice none 0 0, by rw [h0]; rfl, bel_then HB (Nat.le_refl _) hb4⟩
        · have h0 : srvOk xs = false := by rw [HOK.out]; exact srv_no (.inl (by assumption))
          exact ⟨.slice none 0 0, by rw [h0]; rfl, bel_then HB (Nat.le_refl _) hb4⟩
      · go_wp2_with (first | (go_at_call 83; go_must (refine (rend_any _ g xs at3 er G hw3).mono ?_); rintro e w4 ⟨rfl, hb4⟩; rw [HEE.out]) | (go_at_call 84; go_must (refine (rrightservers_any _ _ _ L (HO.rd.below hb4)).mono ?_); rintro e w5 ⟨rfl, hb5⟩; rw [HRS.out]))
        all_goals go_ret2
        · have hr : rs = false := by have h : (!rs) = true := by assumption
                                     simpa using h
          have h0 : srvOk xs = false := by rw [HOK.out]; exact srv_no (.inr (.inr hr))
          exact ⟨.slice none 0 0, by rw [h0]; rfl, bel_then (bel_then HB (Nat.le_refl _) hb4) (Nat.le_refl _) hb5⟩
        · have hr : rs = true := by have h : (!rs) = false := by assumption
                                    simpa using h
          have h0 : srvOk xs = true := by rw [HOK.out, hr, show ee = 0 by assumption, show n0 = k by assumption]; simp
          exact ⟨_, by rw [h0]; rfl, bel_then (bel_then HB (Nat.le_refl _) hb4) (Nat.le_refl _) hb5⟩
        · have h0 : srvOk xs = false := by rw [HOK.out]; exact srv_no (.inl (by assumption))
          exact ⟨.slice none 0 0, by rw [h0]; rfl, bel_then HB (Nat.le_refl _) hb4⟩
end Go.Proofs.Ytcmdeaejgldhfaa
