/-
  wire.GetServers.
-/
import Derived.Test.YtcmdeaejgldhfaaWire2
import Derived.Test.YtcmdeaejgldhfaaPlain2
set_option linter.unusedVariables false
set_option linter.unusedSimpArgs false
namespace Go.Proofs.Ytcmdeaejgldhfaa
open Go.RowKit Go.HB Go.Shelf

theorem WRd.move {w w' : World} {g : Nat} {s : RS} {G : FP} (h : WRd w g s G) (hA : ∀ b, b = g ∨ G b → w'.heap[b]? = w.heap[b]?) : WRd w' g s G := by
  obtain ⟨A, c, hb, hr, hg⟩ := h
  exact ⟨A, c, (hA g (.inl rfl)).trans hb, hr.move fun b hb => hA b (.inr hb), hg⟩
theorem info3 : (Try.prog.info? 3).map (fun i => (i.zero, i.size, i.bytes)) = some (some (.int .i64 0), 1, 8) := by kernel_rfl

def GetSrv (w : World) (b : Bytes) (e : Ending) (w' : World) : Prop :=
  ∃ v', e = .returned (.tuple #[v', .int .i64 (if srvOk b then 0 else 21)]) ∧ Rd encInt w' (geF w.heap.size) v' (if srvOk b then srvList b else []) ∧ Below w.heap.size w w'

set_option maxHeartbeats 1000000 in
theorem getservers_any (w : World) (F : FP) (v : Value) (xs : Bytes) (h : Rd encU8 w F v xs) :
    Calls Try.prog 73 #[v] w (GetSrv w xs) := by
  obtain ⟨A, c, rfl, hl, hm⟩ := h.slice
  have H := h.arg
  clear h
  go_enter Try.func73, Try.ntmps73
  go_wp2_with (first | (go_at_call 85; refine (wnew_any _ (ltF w) _ xs H).mono ?_; rintro e w1 ⟨g, G, rfl, hw1, hG1, hg1, hb1⟩) | (go_at_call 86; go_must (refine (wnumber_any _ g _ G hw1 (fun b hb => (hG1 b hb).2)).mono ?_); rintro e w2 ⟨rfl, hw2, hb2⟩))
  have hr0 := RS.num_range ⟨0, xs⟩
  obtain ⟨N, hN⟩ := Int.eq_ofNat_of_zero_le (show 0 ≤ min (⟨0, xs⟩ : RS).num.1 7 by omega)
  have hN7 : N ≤ 7 := by omega
  rw [hN]
  have HL : Hid (srvList xs = ((⟨0, xs⟩ : RS).num.2.nums N).1) := by show _ = _; rw [srvList, hN]; rfl
  obtain ⟨s1, hs1⟩ : ∃ s1, (⟨0, xs⟩ : RS).num.2 = s1 := ⟨_, rfl⟩
  rw [hs1] at HL hw2
  clear hN hs1 hr0
  have hgw := hw1
  clear hw1
  have hB2 : Below w.heap.size w w2 := hb1.grown hb2 hb1.size (fun k hk => by cases hk; exact hg1)
  have hsz := hb2.size
  have hgl : g < w1.heap.size := by obtain ⟨_, _, hbk, _⟩ := hgw; exact block_lt hbk
  clear hgw
  go_loopw [5, 13] (fun out i wr => ∃ (k : Nat) (A2 : Option Addr) (c2 : Nat), k ≤ N ∧ i = .int .i64 k ∧ out = .slice A2 k c2 ∧ WRd wr g (s1.nums k).2 G ∧ Mine encInt 3 wr w.heap.size none' (.slice A2 k c2) (s1.nums k).1 ∧ (∀ b, (Value.slice A2 k c2).ownBlock = some b → w1.heap.size ≤ b) ∧ w1.heap.size ≤ wr.heap.size ∧ Below w.heap.size w wr) (fun _ i _ => N - (intOf i).toNat)
  case atStart => exact ⟨0, none, 0, by omega, rfl, rfl, hw2, Mine.nil_ _ _ _ _, fun b h => by simp [Value.ownBlock] at h, hsz, hB2⟩
  case round =>
    obtain ⟨k, A2, c2, hk, rfl, rfl, hw3, HO, hob, hsr, HB⟩ := hrel
    by_cases hlt : k < N
    · have hnr := RS.num_range (s1.nums k).2
      have hz : (s1.nums k).1 ++ [(s1.nums k).2.num.1] = (s1.nums (k + 1)).1 := rfl
      have hzl := RS.nums_len s1 (k + 1)
      have HZ := Lib.hid hz
      have HZL := Lib.hid hzl
      have HS : Hid ((s1.nums k).2.num.2 = (s1.nums (k + 1)).2) := rfl
      clear hz hzl
      go_wp2_with (first | (go_at_call 86; go_must (refine (wnumber_any _ g _ G hw3 (fun b hb => Nat.lt_of_lt_of_le (hG1 b hb).2 hsr)).mono ?_); rintro e w4 ⟨rfl, hw4, hb4⟩) | (at_builtin; go_must (refine own_append (w0 := w) encInt rfl _ _ 25 3 (.int .i64 0) rfl Try.underlying25 info3 rfl none' (geF wr.heap.size) (.slice A2 k c2) (.slice (some ⟨_, 0, none⟩) 1 1) (s1.nums k).1 [(s1.nums k).2.num.1] _ (k + 1) rfl rfl HZ.out HZL.out ?c0 ?c1 ?c2 ?c3 ?c4 ?c5 ?_)))
      case c0 =>
        refine Mine.alloc (HO.move fun b hb => ?_) _
        rcases hb with hb | hb
        · exact hb.elim
        · exact hb4.block b (HO.lt b hb).2 (fun e => by cases e; have := hob g hb; omega)
      case c1 => exact bel_alloc (HB.grown hb4 HB.size (fun k hk => by cases hk; exact hg1)) (Nat.le_refl _) _
      case c2 => exact Rd.one_new encInt w _ _ _ _ _ _ 1 (heap_new rfl rfl) ⟨⟨by omega, by omega⟩, rfl⟩ (by simpa [geF] using hb4.size) (Nat.le_refl _) (by simp [maxLen]) (by decide)
      case c3 => intro b he hb'; have := (HO.lt b he).2; simp [geF] at hb'; omega
      case c4 => simp [encInt, encOf]; omega
      case c5 => simp [maxLen]; omega
      intro A5 c5 w5 HO5 HB5 hl5 hm5 hg5 hat5
      go_wp2
      go_roundw
      case rel =>
        refine ⟨k + 1, A5, c5, by omega, by go_num, rfl, ?_, HO5.flat flat_int, ?_, ?_, HB5⟩
        · rw [← HS.out]
          refine hw4.move fun b hb => ?_
          have hbl : b < w1.heap.size := by
            rcases hb with rfl | hb
            · exact hgl
            · exact (hG1 b hb).2
          have h4 := hb4.size
          exact (hg5.block b (by simp; omega) (fun e => by have := hob b e.symm; omega)).trans (Below.heap_alloc _ _ _ (by omega))
        · intro b hb
          rcases hat5 with hat5 | hat5
          · exact hob b (hat5.symm.trans hb)
          · rw [hat5] at hb; injection hb with hb; have h4 := hb4.size; (try simp at hb); omega
        · have h4 := hb4.size; have h5 := hg5.size; (try simp at h5); omega
      case measure => simp [intOf]; omega
    · obtain rfl : k = N := by omega
      rw [← HL.out] at HO
      obtain ⟨ec, hec⟩ : ∃ ec : Int, (if rightServers (srvList xs) then 0 else 1) = ec := ⟨_, rfl⟩
      obtain ⟨ys, hys⟩ : ∃ ys : Bytes, (if rightServers (srvList xs) then encServers (srvList xs) else []) = ys := ⟨_, rfl⟩
      obtain ⟨q, hq⟩ : ∃ q : Bool, decide (ys = xs) = q := ⟨_, rfl⟩
      have HOK : Hid (srvOk xs = (decide (ec = 0) && q)) := by
        show _ = _
        rw [← hq, ← hys, ← hec, srvOk]
        cases rightServers (srvList xs) <;> simp
      have HEC := Lib.hid hec
      have HYS := Lib.hid hys
      have HQ := Lib.hid hq
      clear hec hys hq
      go_wp2_with (first | (go_at_call 87; go_must (refine (putservers_any _ _ _ (srvList xs) HO.rd).mono ?_); rintro e w4 ⟨v4, rfl, hr4, hb4⟩; rw [HEC.out]; rw [HYS.out] at hr4) | (go_at_call 88; go_must (refine (bequal_any _ _ (ltF w) _ _ ys xs hr4 ((H.at_ HB).below hb4)).mono ?_); rintro e w5 ⟨rfl, rfl⟩; rw [HQ.out]))
      all_goals go_ret2
      · rename_i h1 h2
        have h0 : srvOk xs = false := by rw [HOK.out, h1]; simpa using h2
        exact ⟨.slice none 0 0, by rw [h0]; rfl, by rw [h0]; exact Rd.nil_ _ _ _, bel_then HB (Nat.le_refl _) hb4⟩
      · rename_i h1 h2
        have h0 : srvOk xs = true := by rw [HOK.out, h1]; simpa using h2
        exact ⟨_, by rw [h0]; rfl, by rw [h0]; exact (HO.res (fun b hb => hb.elim)).below hb4, bel_then HB (Nat.le_refl _) hb4⟩
      · rename_i h1
        have h0 : srvOk xs = false := by rw [HOK.out]; simp [h1]
        exact ⟨.slice none 0 0, by rw [h0]; rfl, by rw [h0]; exact Rd.nil_ _ _ _, bel_then HB (Nat.le_refl _) hb4⟩
end Go.Proofs.Ytcmdeaejgldhfaa
