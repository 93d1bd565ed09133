/-
  hustingsref11: Quorum, Nth.
-/
import Derived.Test.YtcmdeaejgldhfaaSure
set_option linter.unusedVariables false
set_option linter.unusedSimpArgs false
namespace Go.HB
def padRow (l f : List Int) : List Int := f.take l.length ++ (List.replicate l.length 0).drop f.length
theorem padRow_len (l f : List Int) : (padRow l f).length = l.length := by simp [padRow]; omega
theorem padRow_in {l f : List Int} {k : Nat} (hk : k < l.length) (hf : k < f.length) : (padRow l f)[k]? = some f[k] := by
  rw [padRow, List.getElem?_append_left (by rw [List.length_take]; omega), List.getElem?_take, if_pos hk, List.getElem?_eq_getElem hf]
theorem padRow_out {l f : List Int} {k : Nat} (hk : k < l.length) (hf : f.length ≤ k) : (padRow l f)[k]? = some 0 := by
  rw [padRow, List.getElem?_append_right (by rw [List.length_take]; omega), List.getElem?_drop, List.getElem?_replicate, if_pos (by rw [List.length_take]; omega)]
def qual (R : List Int) (q : Nat) (m : Int) : Prop := q ≤ R.countP (fun x => decide (m ≤ x))
theorem countP_take_succ2 (p : Int → Bool) (l : List Int) (k : Nat) (z : Int) (hz : l[k]? = some z) : (l.take (k + 1)).countP p = (l.take k).countP p + if p z then 1 else 0 := by
  obtain ⟨hk, rfl⟩ := List.getElem?_eq_some_iff.1 hz
  exact countP_take_succ p l k hk
def NthInv (R : List Int) (q i : Nat) (b : Int) (f : Bool) : Prop :=
  (f = false → b = 0) ∧ (∀ j, j < i → ∀ m, R[j]? = some m → qual R q m → f = true ∧ m ≤ b) ∧ (f = true → b ∈ R ∧ qual R q b)
theorem NthInv.start (R : List Int) (q : Nat) : NthInv R q 0 0 false := ⟨fun _ => rfl, (fun j h => by omega), (fun h => by cases h)⟩
theorem NthInv.take {R : List Int} {q i : Nat} {b m : Int} {f : Bool} (h : NthInv R q i b f) (hm : R[i]? = some m) (hq : qual R q m) (hb : f = false ∨ b < m) : NthInv R q (i + 1) m true := by
  obtain ⟨h1, h2, h3⟩ := h
  refine ⟨(fun h => by cases h), fun j hj m' hm' hq' => ⟨rfl, ?_⟩, fun _ => ⟨List.mem_of_getElem? hm, hq⟩⟩
  rcases Nat.lt_or_ge j i with hlt | hge
  · obtain ⟨h4, h5⟩ := h2 j hlt m' hm' hq'
    rcases hb with hb | hb
    · rw [hb] at h4; cases h4
    · omega
  · obtain rfl : j = i := by omega
    rw [hm] at hm'
    cases hm'
    exact Int.le_refl _
theorem NthInv.skip {R : List Int} {q i : Nat} {b m : Int} {f : Bool} (h : NthInv R q i b f) (hm : R[i]? = some m) (hn : ¬ qual R q m ∨ (f = true ∧ m ≤ b)) : NthInv R q (i + 1) b f := by
  obtain ⟨h1, h2, h3⟩ := h
  refine ⟨h1, fun j hj m' hm' hq' => ?_, h3⟩
  rcases Nat.lt_or_ge j i with hlt | hge
  · exact h2 j hlt m' hm' hq'
  · obtain rfl : j = i := by omega
    rw [hm] at hm'
    cases hm'
    rcases hn with hn | hn
    · exact absurd hq' hn
    · exact hn
theorem NthInv.done {l f : List Int} {b : Int} {fd : Bool} (h : NthInv (padRow l f) (l.length / 2 + 1) l.length b fd) : nthOf l f = b := by
  obtain ⟨h1, h2, h3⟩ := h
  rcases Nat.eq_zero_or_pos l.length with hz | hp
  · rw [nthOf_nil hz]
    cases fd with
    | false => exact (h1 rfl).symm
    | true =>
      have := List.length_pos_of_mem (h3 rfl).1
      rw [padRow_len] at this; omega
  · have hn := nthOf_at (f := f) hp
    have hl := nthRow_len l f
    have hsorted : (nthRow l f).Pairwise (fun a b => a ≤ b) := by
      have := List.pairwise_mergeSort (le := fun x y : Int => decide (x ≤ y)) (fun a b c h1 h2 => by simp at *; omega) (fun a b => by simp; omega) (padRow l f)
      exact this.imp (fun h => by simpa using h)
    have hperm : (nthRow l f).Perm (padRow l f) := List.mergeSort_perm _ _
    obtain ⟨p, hpd⟩ : ∃ p, l.length - (l.length / 2 + 1) = p := ⟨_, rfl⟩
    rw [hpd] at hn
    have hpos : p < (nthRow l f).length := by omega
    have hsp : (nthRow l f)[p] = nthOf l f := by rw [List.getElem?_eq_getElem hpos] at hn; simpa using hn
    have hqs : qual (padRow l f) (l.length / 2 + 1) (nthOf l f) := by
      unfold qual
      rw [← hperm.countP_eq]
      have := countP_split (fun x => decide (nthOf l f ≤ x)) (nthRow l f) p (by
        intro x hx
        rw [decide_eq_true_eq, ← hsp]
        obtain ⟨j, hj, rfl⟩ := List.mem_iff_getElem.1 hx
        rw [List.getElem_drop]
        rcases Nat.eq_zero_or_pos j with rfl | h0
        · exact Int.le_refl _
        · exact List.pairwise_iff_getElem.1 hsorted p (p + j) hpos (by rw [List.length_drop] at hj; omega) (by omega))
      omega
    have hmem : nthOf l f ∈ padRow l f := hperm.mem_iff.1 (List.mem_of_getElem? hn)
    obtain ⟨j, hj, hje⟩ := List.mem_iff_getElem.1 hmem
    obtain ⟨hf, hle⟩ := h2 j (by rw [← padRow_len l f]; exact hj) _ (by rw [List.getElem?_eq_getElem hj, hje]) hqs
    obtain ⟨hb1, hb2⟩ := h3 hf
    refine Int.le_antisymm hle ?_
    apply Int.not_lt.1
    intro hlt
    unfold qual at hb2
    rw [← hperm.countP_eq] at hb2
    have hsplit : (nthRow l f).countP (fun x => decide (b ≤ x)) = ((nthRow l f).take (p + 1)).countP (fun x => decide (b ≤ x)) + ((nthRow l f).drop (p + 1)).countP (fun x => decide (b ≤ x)) := by
      rw [← List.countP_append, List.take_append_drop]
    have hz : ((nthRow l f).take (p + 1)).countP (fun x => decide (b ≤ x)) = 0 := by
      rw [List.countP_eq_zero]
      intro x hx
      obtain ⟨i, hi, rfl⟩ := List.mem_iff_getElem.1 hx
      rw [List.getElem_take]
      have hi' : i < p + 1 := by rw [List.length_take] at hi; omega
      have : (nthRow l f)[i]'(by omega) ≤ (nthRow l f)[p] := by
        rcases Nat.lt_or_ge i p with hip | hip
        · exact List.pairwise_iff_getElem.1 hsorted i p (by omega) hpos hip
        · obtain rfl : i = p := by omega
          exact Int.le_refl _
      rw [hsp] at this
      simp; omega
    have hd : ((nthRow l f).drop (p + 1)).countP (fun x => decide (b ≤ x)) ≤ (nthRow l f).length - (p + 1) := by
      refine Nat.le_trans List.countP_le_length ?_
      rw [List.length_drop]; exact Nat.le_refl _
    omega
end Go.HB
namespace Go.Proofs.Ytcmdeaejgldhfaa
open Go.RowKit Go.HB Go.Shelf

set_option maxHeartbeats 400000 in
theorem rquorum_any (w : World) (F : FP) (l : List Int) (v : Value) (h : Rd encInt w F v l) :
    Calls Try.prog 49 #[v] w fun e w' => e = .returned (.int .i64 ((l.length / 2 + 1 : Nat) : Int)) ∧ w = w' := by
  have hb := h.bytes_le
  simp only [encInt, encOf] at hb
  obtain ⟨A, c, rfl, hl, hm⟩ := h.slice
  clear h
  go_enter Try.func49, Try.ntmps49
  go_wp2
  go_ret
  exact ⟨rfl, rfl⟩

set_option maxRecDepth 100000 in
set_option maxHeartbeats 4000000 in
theorem rnth_any (w : World) (F : FP) (l f : List Int) (v u : Value) (h : Rd encInt w F v l) (hf : Rd encInt w F u f) :
    Calls Try.prog 30 #[v, u] w fun e w' => e = .returned (.int .i64 (nthOf l f)) ∧ w = w' := by
  have hb := h.bytes_le
  have hb2 := hf.bytes_le
  simp only [encInt, encOf] at hb hb2
  obtain ⟨A, c, rfl, hl, hm⟩ := h.slice
  obtain ⟨A2, c2, rfl, hl2, hm2⟩ := hf.slice
  obtain ⟨R, hR⟩ : ∃ R, padRow l f = R := ⟨_, rfl⟩
  have hRl : R.length = l.length := by rw [← hR]; exact padRow_len l f
  have HRL := Lib.hid hRl
  have HIN : Hid (∀ k, k < l.length → (k < f.length ∧ ∃ y, R[k]? = some y ∧ f[k]? = some y) ∨ (f.length ≤ k ∧ R[k]? = some 0)) := by
    show ∀ k, _
    intro k hk
    rcases Nat.lt_or_ge k f.length with h1 | h1
    · exact .inl ⟨h1, f[k], by rw [← hR]; exact padRow_in hk h1, List.getElem?_eq_getElem h1⟩
    · exact .inr ⟨h1, by rw [← hR]; exact padRow_out hk h1⟩
  have HDN : Hid (∀ b fd, NthInv R (l.length / 2 + 1) l.length b fd → nthOf l f = b) := by
    show ∀ b fd, _
    intro b fd h
    rw [← hR] at h
    exact h.done
  have hcell : Hid (∀ k y, f[k]? = some y → ∃ ad, A2 = some ad ∧ w.cell? (ad.add k) = some (.int .i64 y)) := by
    show ∀ k y, _
    intro k y hy
    obtain ⟨hk, rfl⟩ := List.getElem?_eq_some_iff.1 hy
    obtain ⟨ad, hA, hc, _⟩ := hf.int_at k hk
    exact ⟨ad, hA, hc⟩
  clear hR hRl
  go_enter Try.func30, Try.ntmps30
  go_wp2
  go_loop [5, 6, 7] (fun b fd i => ∃ (k : Nat) (bb : Int) (ff : Bool), k ≤ l.length ∧ i = .int .i64 k ∧ b = .int .i64 bb ∧ fd = .bool ff ∧ NthInv R (l.length / 2 + 1) k bb ff) (fun _ _ i => l.length - (intOf i).toNat)
  case atStart => exact ⟨0, 0, false, by omega, rfl, rfl, rfl, NthInv.start _ _⟩
  case round =>
    obtain ⟨k, bb, ff, hk, rfl, rfl, rfl, HI⟩ := hrel
    by_cases hlt : k < l.length
    · obtain ⟨mm, hmm, hways⟩ : ∃ mm, R[k]? = some mm ∧ ((k < f.length ∧ ∃ ad, A2 = some ad ∧ w.cell? (ad.add k) = some (.int .i64 mm)) ∨ (f.length ≤ k ∧ mm = 0)) := by
        rcases HIN.out k hlt with ⟨h1, y, h2, h3⟩ | ⟨h1, h2⟩
        · exact ⟨y, h2, .inl ⟨h1, hcell.out k y h3⟩⟩
        · exact ⟨0, h2, .inr ⟨h1, rfl⟩⟩
      have HMM := Lib.hid hmm
      obtain ⟨P, hP⟩ : ∃ P : Int → Bool, (fun x => decide (mm ≤ x)) = P := ⟨_, rfl⟩
      have HP : Hid (∀ x, P x = decide (mm ≤ x)) := by show ∀ x, _; intro x; rw [← hP]
      have HQ : Hid (qual R (l.length / 2 + 1) mm ↔ l.length / 2 + 1 ≤ R.countP P) := by show _ ↔ _; rw [← hP]; exact Iff.rfl
      clear hmm hP
      have HA2 : Hid (∀ k y, f[k]? = some y → ∃ ad, A2 = some ad ∧ w.cell? (ad.add k) = some (.int .i64 y)) := hcell
      rcases hways with ⟨hkf, ad, rfl, hck⟩ | ⟨hkf, rfl⟩
      all_goals go_wp2
      all_goals (
        go_loop [9, 10] (fun n i => ∃ j : Nat, j ≤ l.length ∧ i = .int .i64 j ∧ n = .int .i64 ((R.take j).countP P : Nat)) (fun _ i => l.length - (intOf i).toNat)
        case atStart => exact ⟨0, by omega, rfl, by simp⟩
        case round =>
          obtain ⟨j, hj, rfl, rfl⟩ := hrel
          by_cases hjl : j < l.length
          · have hcl : (R.take j).countP P ≤ j := Nat.le_trans List.countP_le_length (by rw [List.length_take]; omega)
            rcases HIN.out j hjl with ⟨h1, z, h2, h3⟩ | ⟨h1, h2⟩
            · obtain ⟨ad', hA', hcj⟩ := HA2.out j z h3
              first | (cases hA') | (subst hA')
              have HC := Lib.hid (countP_take_succ2 P R j z h2)
              clear h2 h3
              generalize (R.take j).countP P = q at *
              by_cases hp : P z = true
              · have hge := of_decide_eq_true ((HP.out z).symm.trans hp)
                have HPZ := Lib.hid hp
                clear hp
                go_wp2
                go_round
                case rel => exact ⟨j + 1, by omega, by go_num, by rw [HC.out, if_pos HPZ.out]; go_num⟩
                case measure => first | (simp [intOf]; omega) | simp [intOf]
              · have hge := of_decide_eq_false ((HP.out z).symm.trans (by simpa using hp))
                have HPZ := Lib.hid hp
                clear hp
                go_wp2
                go_round
                case rel => exact ⟨j + 1, by omega, by go_num, by rw [HC.out, if_neg HPZ.out]; go_num⟩
                case measure => first | (simp [intOf]; omega) | simp [intOf]
            · have HC := Lib.hid (countP_take_succ2 P R j 0 h2)
              clear h2
              generalize (R.take j).countP P = q at *
              by_cases hp : P 0 = true
              · have hge := of_decide_eq_true ((HP.out 0).symm.trans hp)
                have HPZ := Lib.hid hp
                clear hp
                go_wp2
                go_round
                case rel => exact ⟨j + 1, by omega, by go_num, by rw [HC.out, if_pos HPZ.out]; go_num⟩
                case measure => first | (simp [intOf]; omega) | simp [intOf]
              · have hge := of_decide_eq_false ((HP.out 0).symm.trans (by simpa using hp))
                have HPZ := Lib.hid hp
                clear hp
                first
                  | (exfalso; omega)
                  | (go_wp2
                     go_round
                     case rel => exact ⟨j + 1, by omega, by go_num, by rw [HC.out, if_neg HPZ.out]; go_num⟩
                     case measure => first | (simp [intOf]; omega) | simp [intOf])
          · obtain rfl : j = l.length := by omega
            have hRT : Hid (R.take l.length = R) := by show _ = _; rw [← HRL.out, List.take_length]
            rw [hRT.out]
            have hcl : R.countP P ≤ l.length := by rw [← HRL.out]; exact List.countP_le_length
            generalize R.countP P = q at *
            cases ff
            all_goals go_wp2_with (go_at_call 49; go_must (refine (rquorum_any _ (fun _ => True) l _ (h.mono fun _ _ => trivial)).mono ?_); rintro e w4 ⟨rfl, rfl⟩)
            all_goals go_round
            all_goals first
              | exact ⟨k + 1, _, _, by omega, by go_num, rfl, rfl, NthInv.take HI HMM.out (HQ.out.2 (by omega)) (.inl rfl)⟩
              | exact ⟨k + 1, _, _, by omega, by go_num, rfl, rfl, NthInv.take HI HMM.out (HQ.out.2 (by omega)) (.inr (by omega))⟩
              | exact ⟨k + 1, _, _, by omega, by go_num, rfl, rfl, NthInv.skip HI HMM.out (.inr ⟨rfl, by omega⟩)⟩
              | exact ⟨k + 1, _, _, by omega, by go_num, rfl, rfl, NthInv.skip HI HMM.out (.inl fun h => absurd (HQ.out.1 h) (by omega))⟩
              | (simp [intOf]; omega))
    · obtain rfl : k = l.length := by omega
      have hd := Lib.hid (HDN.out _ _ HI)
      go_wp2
      go_ret
      exact ⟨congrArg (fun n => Ending.returned (Value.int .i64 n)) hd.out.symm, rfl⟩
end Go.Proofs.Ytcmdeaejgldhfaa
