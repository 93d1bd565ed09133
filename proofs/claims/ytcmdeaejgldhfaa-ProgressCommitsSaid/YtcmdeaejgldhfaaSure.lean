/-
  Plain facts: what is newly committed is reached by a quorum, and is an entry of that term. No program stands here.
-/
import Derived.Test.YtcmdeaejgldhfaaComm
set_option linter.unusedVariables false
set_option linter.unusedSimpArgs false
namespace Go.HB
theorem findC_spec (v : View) (low t c : Int) (k : Nat) : v.findC low t c k = c ∨ ∃ j : Nat, 0 < j ∧ j ≤ k ∧ v.findC low t c k = low + j ∧ v.at_ (low + j) = t := by
  induction k with
  | zero => exact .inl rfl
  | succ k ih =>
    by_cases h : v.at_ (low + ((k : Int) + 1)) = t
    · exact .inr ⟨k + 1, by omega, Nat.le_refl _, by rw [View.findC_yes h]; rfl, h⟩
    · rw [View.findC_no h]
      rcases ih with h1 | ⟨j, h1, h2, h3⟩
      · exact .inl h1
      · exact .inr ⟨j, h1, by omega, h3⟩
/-- What Commit answers, if it is not what was committed. -/
theorem commit_spec {v : View} {N c t n : Int} (h : v.commit N c t = n) (hne : ¬ n = c) : v.ok = true ∧ c < n ∧ v.base < n ∧ n ≤ N ∧ n ≤ v.last ∧ v.at_ n = t := by
  cases hok : v.ok with
  | false => rw [View.commit_no hok] at h; exact absurd h.symm hne
  | true =>
    rw [View.commit_yes hok] at h
    rcases findC_spec v (max c v.base) t c (min N v.last - max c v.base).toNat with h1 | ⟨j, h1, h2, h3, h4⟩
    · exact absurd (h.symm.trans h1) hne
    · rw [h3] at h
      subst h
      exact ⟨rfl, by omega, by omega, by omega, by omega, h4⟩
theorem countP_split (p : Int → Bool) (S : List Int) (k : Nat) (h : ∀ x ∈ S.drop k, p x = true) : S.length - k ≤ S.countP p := by
  have h1 : S.countP p = (S.take k).countP p + (S.drop k).countP p := by rw [← List.countP_append, List.take_append_drop]
  have h2 : (S.drop k).countP p = (S.drop k).length := List.countP_eq_length.2 h
  rw [List.length_drop] at h2
  omega
theorem sure_quorum {ss ms : List Int} {n : Int} (h : n ≤ nthOf ss ms) (h0 : 0 < n) : ss.length / 2 + 1 ≤ (ms.take (min ss.length ms.length)).countP (fun x => decide (n ≤ x)) := by
  rcases Nat.eq_zero_or_pos ss.length with hz | hp
  · rw [nthOf_nil hz] at h; omega
  · have hn := nthOf_at (f := ms) hp
    have hl := nthRow_len ss ms
    have hsorted : (nthRow ss ms).Pairwise (fun a b => a ≤ b) := by
      have := List.pairwise_mergeSort (le := fun x y : Int => decide (x ≤ y)) (fun a b c h1 h2 => by simp at *; omega) (fun a b => by simp; omega) (ms.take ss.length ++ (List.replicate ss.length 0).drop ms.length)
      exact this.imp (fun h => by simpa using h)
    have hperm : (nthRow ss ms).Perm (ms.take ss.length ++ (List.replicate ss.length 0).drop ms.length) := List.mergeSort_perm _ _
    have hc : (nthRow ss ms).countP (fun x => decide (n ≤ x)) = (ms.take (min ss.length ms.length)).countP (fun x => decide (n ≤ x)) := by
      rw [hperm.countP_eq, List.countP_append]
      have hz : ((List.replicate ss.length (0 : Int)).drop ms.length).countP (fun x => decide (n ≤ x)) = 0 := by
        rw [List.countP_eq_zero]
        intro x hx
        have := List.eq_of_mem_replicate (List.mem_of_mem_drop hx)
        subst this
        simp; omega
      rw [hz, Nat.add_zero]
      congr 1
      rcases Nat.le_total ss.length ms.length with hle | hle
      · rw [Nat.min_eq_left hle]
      · rw [Nat.min_eq_right hle, List.take_of_length_le hle, List.take_length]
    have hpos : ss.length - (ss.length / 2 + 1) < (nthRow ss ms).length := by omega
    have hge : ∀ x ∈ (nthRow ss ms).drop (ss.length - (ss.length / 2 + 1)), decide (n ≤ x) = true := by
      intro x hx
      rw [decide_eq_true_eq]
      refine Int.le_trans h ?_
      have e : (nthRow ss ms).drop (ss.length - (ss.length / 2 + 1)) = nthOf ss ms :: (nthRow ss ms).drop (ss.length - (ss.length / 2 + 1) + 1) := by
        rw [List.drop_eq_getElem_cons hpos]
        congr 1
        rw [List.getElem?_eq_getElem hpos] at hn
        simpa using hn
      have hs := hsorted.drop (i := ss.length - (ss.length / 2 + 1))
      rw [e] at hs hx
      rcases List.mem_cons.1 hx with rfl | hx
      · exact Int.le_refl _
      · exact (List.pairwise_cons.1 hs).1 x hx
    have := countP_split _ _ _ hge
    rw [hl] at this
    rw [← hc]
    omega
theorem nthOf_mem (ss ms : List Int) : nthOf ss ms = 0 ∨ nthOf ss ms ∈ ms := by
  rcases Nat.eq_zero_or_pos ss.length with hz | hp
  · exact .inl (nthOf_nil hz)
  · have hn := List.mem_of_getElem? (nthOf_at (f := ms) hp)
    have hperm : (nthRow ss ms).Perm (ms.take ss.length ++ (List.replicate ss.length 0).drop ms.length) := List.mergeSort_perm _ _
    rcases List.mem_append.1 (hperm.mem_iff.1 hn) with h | h
    · exact .inr (List.mem_of_mem_take h)
    · exact .inl (List.eq_of_mem_replicate (List.mem_of_mem_drop h))
theorem countP_take_succ (p : Int → Bool) (l : List Int) (k : Nat) (hk : k < l.length) : (l.take (k + 1)).countP p = (l.take k).countP p + if p l[k] then 1 else 0 := by
  rw [List.take_succ_eq_append_getElem hk, List.countP_append]
  simp [List.countP_cons]
theorem Rd.in64 {w : World} {F : FP} {v : Value} {xs : List Int} (h : Rd encInt w F v xs) : ∀ x ∈ xs, In64 x := by
  intro x hx
  obtain ⟨A, c, rfl, _⟩ := h.slice
  obtain ⟨k, hk, rfl⟩ := List.mem_iff_getElem.1 hx
  obtain ⟨_, _, _, h⟩ := h.int_at k hk
  exact h
theorem Rd.nth64 {w : World} {F : FP} {v : Value} {ss ms : List Int} (h : Rd encInt w F v ms) : In64 (nthOf ss ms) := by
  rcases nthOf_mem ss ms with h0 | h0
  · rw [h0]; unfold In64; omega
  · exact h.in64 _ h0
end Go.HB
