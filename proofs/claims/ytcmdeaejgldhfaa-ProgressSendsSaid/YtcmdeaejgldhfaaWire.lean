/-
  wire: numbers as bytes, bytes joined.
-/
import Derived.Test.YtcmdeaejgldhfaaEnts
set_option linter.unusedVariables false
set_option linter.unusedSimpArgs false
namespace Go.Proofs.Ytcmdeaejgldhfaa
open Go.RowKit Go.HB

set_option maxHeartbeats 400000 in
theorem number_own (w : World) (n : Int) (hn : In64 n) :
    Calls Try.prog 60 #[.int .i64 n] w fun e w' => ∃ v', e = .returned v' ∧ Mine encU8 5 w' w.heap.size none' v' (numBytes n) ∧ Below w.heap.size w w' := by
  obtain ⟨hn0, hn1⟩ := hn
  go_enter Try.func60, Try.ntmps60
  go_wp2
  go_loopw [0, 3] (fun i out wr => ∃ (m : Int) (d : Bytes) (A1 : Option Addr) (c1 : Nat), m ≤ n ∧ (0 < n → 0 ≤ m) ∧ i = .int .i64 m ∧ out = .slice A1 (d.length + 1) c1 ∧ Hid (d ++ digits m.toNat = digits n.toNat) ∧ Mine encU8 5 wr w.heap.size none' (.slice A1 (d.length + 1) c1) (0 :: d) ∧ Below w.heap.size w wr) (fun i _ _ => (intOf i).toNat)
  case atStart => exact ⟨n, [], _, _, Int.le_refl _, fun h => by omega, rfl, rfl, by rfl, Mine.lit1 encU8 _ _ _ _ 0 _ rfl (fun _ _ => R_u8.2 rfl) (by decide) (Nat.le_refl _) rfl, bel_alloc (Below.refl _ _) (Nat.le_refl _) _⟩
  case round =>
    obtain ⟨m, d, A1, c1, hm, hm0, rfl, rfl, HD, HO, HB⟩ := hrel
    have hdl : d.length ≤ 8 := by
      have := digits_len8 (n := n.toNat) (by omega)
      rw [← HD.out, List.length_append] at this; omega
    by_cases hlt : 0 < m
    · have hmn : 0 ≤ m := by omega
      have hz : ([0] ++ d) ++ [UInt8.ofNat (m.toNat % 256)] = 0 :: (d ++ [UInt8.ofNat (m.toNat % 256)]) := by simp
      go_wp2_with (at_builtin; go_must (refine own_append (w0 := w) encU8 rfl _ _ 52 5 (.int .u8 0) rfl Try.underlying52 info5 rfl none' (geF wr.heap.size) (.slice A1 (d.length + 1) c1) (.slice (some ⟨_, 0, none⟩) 1 1) (0 :: d) [UInt8.ofNat (m.toNat % 256)] _ (d.length + 1 + 1) rfl rfl hz (by simp) ?c0 ?c1 ?c2 ?c3 ?c4 ?c5 ?_))
      case c0 => exact HO.alloc _
      case c1 => exact bel_alloc HB (Nat.le_refl _) _
      case c2 => 
        refine Rd.one_new encU8 w _ _ _ _ _ _ 1 (heap_new rfl rfl) (R_u8.2 ?_) (by simp [geF]) (Nat.le_refl _) (by simp [maxLen]) (by decide)
        simp; omega
      case c3 => intro b he hb'; have := (HO.lt b he).2; simp [geF] at hb'; omega
      case c4 => simp [encU8, encOf]; omega
      case c5 => simp [maxLen]; omega
      intro A2 c2 w2 HO2 HB2 hl2 hm2 _ _
      go_wp2
      go_roundw
      case rel =>
        refine ⟨m / 256, d ++ [UInt8.ofNat (m.toNat % 256)], A2, c2, by omega, fun _ => by omega, rfl, by simp, ?_, by simpa using HO2.flat flat_u8, HB2⟩
        show _ = _
        rw [← HD.out, digits_pos (n := m.toNat) (by omega), show (m / 256).toNat = m.toNat / 256 by omega]
        simp
      case measure => simp [intOf]; omega
    · have hdm : d = digits n.toNat := by
        have := HD.out
        rwa [show m.toNat = 0 by omega, digits_zero, List.append_nil] at this
      have Hdm := Lib.hid hdm
      clear hdm
      obtain ⟨g, off, rfl, hg1, hg2, hfr⟩ := HO.form (by omega)
      obtain ⟨u, _, hu⟩ := HO.cell1 rfl 0 (by simp)
      rw [Nat.add_zero] at hu
      have HS := HO.store1 rfl 0 (UInt8.ofNat d.length) (.int .u8 (d.length : Int)) (R_u8.2 (by simp; omega))
      rw [Nat.add_zero, List.set_cons_zero, Hdm.out] at HS
      go_wp2
      go_ret
      refine ⟨_, rfl, ?_, ?_⟩
      · rw [Hdm.out]
        simpa [numBytes] using HS
      · repeat (first | with_reducible exact Below.refl _ _ | with_reducible assumption | with_reducible refine bel_alloc ?_ (Nat.le_refl _) _ | with_reducible refine bel_drew ?_ | with_reducible refine bel_drewN ?_ _ | (with_reducible refine bel_set ?_ ?_ _; · (simp <;> omega)))

theorem number_any (w : World) (n : Int) (hn : In64 n) :
    Calls Try.prog 60 #[.int .i64 n] w fun e w' => ∃ v', e = .returned v' ∧ Rd encU8 w' (geF w.heap.size) v' (numBytes n) ∧ Below w.heap.size w w' :=
  (number_own w n hn).mono fun e w' ⟨v', he, ho, hb⟩ => ⟨v', he, ho.res (fun b hb => hb.elim), hb⟩
set_option maxHeartbeats 400000 in
theorem growB_any (w : World) (n : Nat) (hn : n ≤ 140737488355328) :
    Calls Try.prog 89 #[.slice none 0 0, .int .i64 n] w fun e w' => ∃ A c, e = .returned (.slice A 0 c) ∧ Mine encU8 5 w' w.heap.size none' (.slice A 0 c) [] ∧ Below w.heap.size w w' := by
  by_cases h0 : n = 0
  · subst h0
    go_enter Try.func89, Try.ntmps89
    go_wp2
    go_ret
    exact ⟨_, _, rfl, Mine.nil_ _ _ _ _, Below.refl _ _⟩
  · obtain ⟨i0, hi, hzz⟩ := Option.map_eq_some_iff.1 info5
    simp only [Prod.mk.injEq] at hzz
    obtain ⟨hz0, hz1, hz2⟩ := hzz
    have hold : (Builtin.firstCells i0.size 0 (.slice none 0 0)).run Try.prog w.drew = .ok #[] w.drew := run_firstCells_none w.drew i0.size 0 0 0
    have hrz : ∀ ty, (Builtin.append_ #[52, 3] ty #[.slice none 0 0, .int .i64 (n : Int)]).run Try.prog w = .ok (.slice (some ⟨w.heap.size, 0, none⟩) n (grownCap w n 0 5)) (w.drew.alloc (.cells (#[] ++ Builtin.zeroCells #[.int .u8 0] n ++ Builtin.zeroCells #[.int .u8 0] (grownCap w n 0 5 - n)) 5)) := fun ty => by
      have h := Lib.run_append_grow_zeros w 52 3 ty 5 i0 (.int .u8 0) .i64 .i64 Try.underlying52 Try.underlying3 hi hz0 none 0 0 [] hold n (by omega) (by omega) (by omega) (by omega) (by rw [hz2]; omega) (growslice_fits (by omega) (by rw [hz2]; omega))
      simpa [Value.cells] using h
    have hGn : n ≤ grownCap w n 0 5 := grownCap_ge w _ _ _
    have hG63 : grownCap w n 0 5 ≤ 9223372036854775807 := by
      have := grownCap_le_maxLen w n 0 5 (by unfold maxLen; omega)
      unfold maxLen at this; omega
    obtain ⟨G, hG⟩ : ∃ G, grownCap w n 0 5 = G := ⟨_, rfl⟩
    rw [hG] at hrz hGn hG63
    clear hold hG hi hz0 hz1 hz2
    go_enter Try.func89, Try.ntmps89
    go_wp2_with (at_builtin; refine Lib.wpList_append_run _ rfl _ _ _ _ rfl _ _ rfl rfl _ _ (hrz _) ?_)
    go_ret
    refine ⟨_, _, rfl, Mine.room (heap_new rfl rfl) (Nat.le_refl _) ?_ (by unfold maxLen; omega), bel_alloc (bel_drew (Below.refl _ _)) (Nat.le_refl _) _⟩
    simp [encU8, encOf, size_zeroCells]; omega

/-- What is joined: parts behind one another. -/
theorem concat_any (w : World) (F : FP) (v : Value) (bs : List Bytes) (h : Rd (encSlice encU8) w F v bs) (hT : bs.flatten.length ≤ 140737488355328) :
    Calls Try.prog 74 #[v] w fun e w' => ∃ v', e = .returned v' ∧ Rd encU8 w' (geF w.heap.size) v' bs.flatten ∧ Below w.heap.size w w' := by
  obtain ⟨A, c, rfl, hl, hm⟩ := h.slice
  have hbn := h.len_le
  have H := h.arg
  clear h
  go_enter Try.func74, Try.ntmps74
  go_wp2
  go_loop [3, 11] (fun s i => ∃ (k n : Nat), k ≤ bs.length ∧ i = .int .i64 k ∧ s = .int .i64 n ∧ n ≤ 140737488355328 ∧ Hid (n = (bs.take k).flatten.length)) (fun _ i => bs.length - (intOf i).toNat)
  case atStart => exact ⟨0, 0, by omega, rfl, rfl, by omega, rfl⟩
  case round =>
    obtain ⟨k, n, hk, rfl, rfl, hn, HN⟩ := hrel
    by_cases hlt : k < bs.length
    · obtain ⟨ad, A1, c1, rfl, e0, l1, m1, hr⟩ := H.row_at k hlt
      have Hf : Hid (n + bs[k].length = (bs.take (k + 1)).flatten.length) := by
        show _ = _
        rw [HN.out, ← List.take_append_getElem hlt, List.flatten_append, List.length_append]; simp
      have hsum : n + bs[k].length ≤ 140737488355328 := by
        have : bs.flatten = (bs.take (k + 1)).flatten ++ (bs.drop (k + 1)).flatten := by rw [← List.flatten_append, List.take_append_drop]
        rw [this, List.length_append] at hT
        rw [Hf.out]; omega
      go_wp2
      go_round
      case rel => exact ⟨k + 1, n + bs[k].length, by omega, by go_num, by go_num, hsum, Hf⟩
      case measure => simp [intOf]; omega
    · obtain rfl : k = bs.length := by omega
      have HN' : n = bs.flatten.length := by rw [HN.out, List.take_length]
      have HN2 := Lib.hid HN'
      clear HN' HN
      go_wp2_with (go_at_call 89; refine (growB_any _ n hn).mono ?_; rintro e w1 ⟨A1, c1, rfl, HO, HB⟩)
      have HT : Hid (bs.flatten.length ≤ 140737488355328) := hT
      clear hT
      go_loopw [6, 8, 27] (fun out s i wr => ∃ (k : Nat) (A2 : Option Addr) (m c2 : Nat), k ≤ bs.length ∧ i = .int .i64 k ∧ out = .slice A2 m c2 ∧ Hid ((bs.take k).flatten.length = m) ∧ Mine encU8 5 wr w.heap.size none' (.slice A2 m c2) (bs.take k).flatten ∧ Below w.heap.size w wr) (fun _ _ i _ => bs.length - (intOf i).toNat)
      case atStart => exact ⟨0, A1, 0, c1, by omega, rfl, rfl, rfl, HO, HB⟩
      case round =>
        obtain ⟨k, A2, m, c2, hk, rfl, rfl, HM, HO2, HB2⟩ := hrel
        by_cases hlt : k < bs.length
        · obtain ⟨ad, A3, c3, rfl, e0, l3, m3, hr⟩ := (H.at_ HB2).row_at k hlt
          have hz : (bs.take k).flatten ++ bs[k] = (bs.take (k + 1)).flatten := by rw [← List.take_append_getElem hlt, List.flatten_append]; simp
          have HZ := Lib.hid hz
          clear hz
          have hsum : m + bs[k].length ≤ 140737488355328 := by
            have hT := HT.out
            have : bs.flatten = (bs.take (k + 1)).flatten ++ (bs.drop (k + 1)).flatten := by rw [← List.flatten_append, List.take_append_drop]
            rw [this, List.length_append, ← HZ.out, List.length_append, HM.out] at hT
            omega
          go_wp2_with (at_builtin; go_must (refine own_append (w0 := w) encU8 rfl _ _ 52 5 (.int .u8 0) rfl Try.underlying52 info5 rfl none' (ltF w) (.slice A2 m c2) (.slice A3 _ c3) (bs.take k).flatten bs[k] _ (m + bs[k].length) rfl rfl HZ.out ?c6 HO2 HB2 hr ?c3 ?c4 ?c5 ?_))
          case c6 => rw [← HZ.out, List.length_append, HM.out]
          case c3 => intro b he hb'; have := (HO2.lt b he).1; have := ltF_lt hb'; omega
          case c4 => simp [encU8, encOf]; omega
          case c5 => simp [maxLen]; omega
          intro A4 c4 w4 HO4 HB4 hl4 hm4 _ _
          go_wp2
          go_roundw
          case rel => exact ⟨k + 1, A4, _, c4, by omega, by go_num, rfl, by (show _ = _; rw [← HZ.out, List.length_append, HM.out]), HO4.flat flat_u8, HB4⟩
          case measure => simp [intOf]; omega
        · obtain rfl : k = bs.length := by omega
          rw [List.take_length] at HO2
          go_wp2
          go_ret
          exact ⟨_, rfl, HO2.res (fun b hb => hb.elim), HB2⟩

theorem join_any (w : World) (F : FP) (v : Value) (bs : List Bytes) (h : Rd (encSlice encU8) w F v bs) (hT : bs.flatten.length ≤ 140737488355328) :
    Calls Try.prog 59 #[v] w fun e w' => ∃ v', e = .returned v' ∧ Rd encU8 w' (geF w.heap.size) v' bs.flatten ∧ Below w.heap.size w w' := by
  obtain ⟨A, c, rfl, hl, hm⟩ := h.slice
  go_enter Try.func59, Try.ntmps59
  go_wp2_with (go_at_call 74; refine (concat_any _ F _ bs h hT).mono ?_; rintro e w1 ⟨v1, rfl, hr, hb⟩)
  go_ret
  exact ⟨_, rfl, hr, hb⟩
end Go.Proofs.Ytcmdeaejgldhfaa
