/-
  hustingsref12.From.
-/
import Derived.Test.YtcmdeaejgldhfaaFrom
import Derived.Test.YtcmdeaejgldhfaaRef12b
set_option linter.unusedVariables false
set_option linter.unusedSimpArgs false
namespace Go.HB
theorem fromOf_all {l : List Ent} {i : Int} {m : Nat} (h : (l.filter (fun x => decide (i ≤ x.index))).length ≤ m) : fromOf l i m = l.filter (fun x => decide (i ≤ x.index)) := by rw [fromOf, List.take_of_length_le h]
theorem fromOf_part {l : List Ent} {i : Int} {m k : Nat} (h : ((l.take k).filter (fun x => decide (i ≤ x.index))).length = m) : fromOf l i m = (l.take k).filter (fun x => decide (i ≤ x.index)) := by
  obtain ⟨r, hr⟩ := filter_prefix (fun x : Ent => decide (i ≤ x.index)) l k
  rw [fromOf, ← hr, List.take_append_of_le_length (by omega), List.take_of_length_le (by omega)]
theorem filter_snoc_yes {l : List Ent} {k : Nat} {i : Int} {x : Ent} (h : l.take (k + 1) = l.take k ++ [x]) (hi : i ≤ x.index) : (l.take k).filter (fun x => decide (i ≤ x.index)) ++ [x] = (l.take (k + 1)).filter (fun x => decide (i ≤ x.index)) := by
  rw [h, List.filter_append]; simp [hi]
theorem filter_snoc_no {l : List Ent} {k : Nat} {i : Int} {x : Ent} (h : l.take (k + 1) = l.take k ++ [x]) (hi : ¬ i ≤ x.index) : (l.take k).filter (fun x => decide (i ≤ x.index)) = (l.take (k + 1)).filter (fun x => decide (i ≤ x.index)) := by
  rw [h, List.filter_append]; simp [hi]
end Go.HB
namespace Go.Proofs.Ytcmdeaejgldhfaa
open Go.RowKit Go.HB Go.Shelf

set_option maxRecDepth 100000 in
set_option maxHeartbeats 4000000 in
theorem rfrom_any (w : World) (F : FP) (x : View) (v : Value) (h : Rd encEnt w F v x.l) (hb : In64 x.base) (ht : In64 x.term) (hx : x.ok = true) (i : Int) (m : Nat) (hm : m ≤ 1000000) :
    Calls Try.prog 35 #[.agg #[.int .i64 x.base, .int .i64 x.term, v], .int .i64 i, .int .i64 m] w fun e w' => ∃ v', e = .returned v' ∧ Rd encEnt w' (fun b => F b ∨ w.heap.size ≤ b) v' (fromOf x.l i m) ∧ Below w.heap.size w w' := by
  obtain ⟨A, c, rfl, hl, hml⟩ := h.slice
  have H0 := h.lt
  have hFF : ∀ b, (fun b => F b ∧ CellAt w b) b → b < w.heap.size := fun b hb => hb.2.lt
  have Hat : Hid (∀ W, Below w.heap.size w W → Rd encEnt W (fun b => F b ∧ CellAt w b) (.slice A x.l.length c) x.l) := fun W hb => H0.below' hb hFF
  clear h H0
  have HX := Lib.hid hx
  obtain ⟨r1, r2, r3, r4, r5⟩ := View.ok_range hx
  clear hx
  go_enter Try.func35, Try.ntmps35
  go_wp2
  go_loopw [7, 8] (fun out j wr => ∃ (k n : Nat) (A2 : Option Addr) (c2 : Nat) (F2 : FP), k ≤ x.l.length ∧ j = .int .i64 k ∧ out = .slice A2 n c2 ∧ n ≤ c2 ∧ c2 ≤ maxLen ∧ n ≤ m ∧ n ≤ k ∧ Hid (((x.l.take k).filter (fun x => decide (i ≤ x.index))).length = n) ∧ Mine encEnt 54 wr w.heap.size F2 (.slice A2 n c2) ((x.l.take k).filter (fun x => decide (i ≤ x.index))) ∧
      Below w.heap.size w wr ∧ wr.heap[w.heap.size]? = some (.cells #[.int .i64 x.base, .int .i64 x.term, .slice A x.l.length c] 24 (0, 0)) ∧ (∀ b, F2 b → F b ∨ w.heap.size ≤ b)) (fun _ j _ => x.l.length - (intOf j).toNat)
  case atStart => exact ⟨0, 0, none, 0, none', by omega, rfl, rfl, by omega, by simp [maxLen], by omega, by omega, rfl, Mine.nil_ _ _ _ _, bel_alloc (Below.refl _ _) (Nat.le_refl _) _, heap_new rfl rfl, (fun b hb => hb.elim)⟩
  case round =>
    obtain ⟨k, n, A2, c2, F2, hk, rfl, rfl, hn1, hn2, hn3, hn4, HLN, HO, HB, G0, HF2⟩ := hrel
    obtain ⟨c0, c1, c3, hf⟩ := blk3 G0
    have hgl := block_lt G0
    by_cases hlt : k < x.l.length
    · by_cases hnm : n < m
      · obtain ⟨ad, u, rfl, e0, e1, e2, e3, i0, i1, i2, hd⟩ := ent_at (Hat.out _ HB) k hlt
        have hT : x.l.take (k + 1) = x.l.take k ++ [x.l[k]] := List.take_succ_eq_append_getElem hlt
        have HT := Lib.hid hT
        have HK : Hid (∀ w1, Below wr.heap.size wr w1 → ∃ u1, w1.cell? (ad.add (k * 4)) = some (.int .i64 x.l[k].term) ∧ w1.cell? ⟨(ad.add (k * 4)).block, (ad.add (k * 4)).off + 1, none⟩ = some (.int .i64 x.l[k].index) ∧ w1.cell? ⟨(ad.add (k * 4)).block, (ad.add (k * 4)).off + 2, none⟩ = some (.int .i64 x.l[k].kind) ∧ w1.cell? ⟨(ad.add (k * 4)).block, (ad.add (k * 4)).off + 3, none⟩ = some u1 ∧ Rd encU8 w1 (fun b => F b ∧ CellAt w b) u1 x.l[k].data) := by
          show ∀ w1, _
          intro w1 hb1
          obtain ⟨ad', v', hA, f0, f1, f2, f3, _, _, _, hd'⟩ := ent_at (Hat.out _ (bel_then HB (Nat.le_refl _) hb1)) k hlt
          obtain rfl : ad = ad' := by simpa using hA
          exact ⟨v', f0, f1, f2, f3, hd'⟩
        generalize x.l[k] = y at *
        clear hT e0 e1 e2 e3 hd
        by_cases hi : i ≤ y.index
        · go_wp2_with (first | (go_at_call 29; go_must (refine (rright_any _ (fun b => F b ∧ CellAt w b) x _ (Hat.out _ HB) hb ht).mono ?_); rintro e w1 ⟨rfl, hb1⟩; rw [HX.out]; obtain ⟨d0, d1, d3, df⟩ := blk3 ((hb1.block w.heap.size hgl).trans G0); obtain ⟨u1, f0, f1, f2, f3, fd⟩ := HK.out w1 hb1; have HB1 := bel_then HB (Nat.le_refl _) hb1) | (at_builtin; go_must (refine own_append (w0 := w) encEnt rfl _ _ 22 54 (.agg #[(.int .i64 0), (.int .i64 0), (.int .i64 0), (.slice none 0 0)]) rfl Try.underlying22 info54 rfl F2 (fun b => (F b ∧ CellAt w b) ∨ b = w1.heap.size) (.slice A2 n c2) (.slice (some ⟨_, 0, none⟩) 1 1) ((x.l.take k).filter (fun x => decide (i ≤ x.index))) [y] ((x.l.take (k + 1)).filter (fun x => decide (i ≤ x.index))) (n + 1) rfl rfl (filter_snoc_yes HT.out hi) (by rw [← filter_snoc_yes HT.out hi, List.length_append, HLN.out]; rfl) ?c2 ?c3 ?c4 ?c5 ?c6 ?c7 ?_)))
          case c2 => exact (HO.below hb1).alloc _
          case c3 => exact bel_alloc HB1 (Nat.le_refl _) _
          case c4 => exact Rd.one_new encEnt w1 _ _ _ _ _ _ 1 (heap_new rfl rfl) (encEnt_R.2 ⟨_, rfl, i0, i1, i2, (fd.alloc _).mono fun b hb => .inl hb⟩) (.inr rfl) (Nat.le_refl _) (by simp [maxLen]) (by decide)
          case c5 =>
            intro b hb
            have h1 := (HO.below hb1).lt b hb
            rintro (h | h)
            · have := hFF b h; omega
            · omega
          case c6 => simp [encEnt, encIso]; omega
          case c7 => simp [maxLen]; omega
          intro A7 c7 w7 HO7 HB7 hl7 hm7 hg7 hat7
          have G1 := (hb1.block w.heap.size hgl).trans G0
          have G7 := (hg7.block w.heap.size (by have := hb1.size; simp; omega) (fun e => absurd (isT_ne ((HO.below hb1).typed _ e.symm).1 ⟨_, _, G1⟩) (by decide))).trans (heap_old (block_lt G1) G1)
          go_wp2
          go_roundw
          case rel => exact ⟨k + 1, n + 1, A7, c7, _, by omega, by go_num, rfl, hl7, hm7, by omega, by omega, by show _ = _; rw [← filter_snoc_yes HT.out hi, List.length_append, HLN.out]; rfl, HO7, HB7, G7, (fun b hb => by rcases hb with hb | ⟨hb | hb, _⟩; exact HF2 b hb; exact .inl hb.1; exact .inr (by have := HB1.size; omega))⟩
          case measure => simp [intOf]; omega
        · go_wp2_with (first | (go_at_call 29; go_must (refine (rright_any _ (fun b => F b ∧ CellAt w b) x _ (Hat.out _ HB) hb ht).mono ?_); rintro e w1 ⟨rfl, hb1⟩; rw [HX.out]; obtain ⟨d0, d1, d3, df⟩ := blk3 ((hb1.block w.heap.size hgl).trans G0); obtain ⟨u1, f0, f1, f2, f3, fd⟩ := HK.out w1 hb1; have HB1 := bel_then HB (Nat.le_refl _) hb1))
          go_roundw
          case rel => exact ⟨k + 1, n, A2, c2, F2, by omega, by go_num, rfl, hn1, hn2, hn3, by omega, (filter_snoc_no HT.out (Int.not_le.2 hi)) ▸ HLN.out, (filter_snoc_no HT.out (Int.not_le.2 hi)) ▸ HO.below hb1, HB1, (hb1.block w.heap.size hgl).trans G0, HF2⟩
          case measure => simp [intOf]; omega
      · have hR : Rd encEnt wr (fun b => F b ∨ w.heap.size ≤ b) (.slice A2 n c2) ((x.l.take k).filter (fun x => decide (i ≤ x.index))) := HO.rd.mono fun b hb => by rcases hb with hb | hb; exact HF2 b hb; exact .inr (HO.lt b hb).1
        have HE := Lib.hid (fromOf_part (m := m) (HLN.out.trans (by omega)))
        go_wp2_with (first | (go_at_call 29; go_must (refine (rright_any _ (fun b => F b ∧ CellAt w b) x _ (Hat.out _ HB) hb ht).mono ?_); rintro e w1 ⟨rfl, hb1⟩; rw [HX.out]; have HB1 := bel_then HB (Nat.le_refl _) hb1))
        go_ret
        exact ⟨_, rfl, by rw [HE.out]; exact hR.below hb1, HB1⟩
    · obtain rfl : k = x.l.length := by omega
      have hR : Rd encEnt wr (fun b => F b ∨ w.heap.size ≤ b) (.slice A2 n c2) ((x.l.take x.l.length).filter (fun x => decide (i ≤ x.index))) := HO.rd.mono fun b hb => by rcases hb with hb | hb; exact HF2 b hb; exact .inr (HO.lt b hb).1
      have HE : Hid (fromOf x.l i m = (x.l.take x.l.length).filter (fun x => decide (i ≤ x.index))) := by
        show _ = _
        have := HLN.out
        rw [List.take_length] at this ⊢
        exact fromOf_all (by omega)
      go_wp2
      go_ret
      exact ⟨_, rfl, by rw [HE.out]; exact hR, HB⟩
end Go.Proofs.Ytcmdeaejgldhfaa
