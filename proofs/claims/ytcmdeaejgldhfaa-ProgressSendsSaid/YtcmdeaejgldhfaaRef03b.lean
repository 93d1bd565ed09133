/-
  The document's RightServers.
-/
import Derived.Test.YtcmdeaejgldhfaaRef03
set_option linter.unusedVariables false
set_option linter.unusedSimpArgs false
namespace Go.HB
theorem chain_stop {a x : Int} {t : List Int} (h : ¬ (a < x ∧ x < 16)) : chain a (x :: t) = false := by
  cases hc : chain a (x :: t) with
  | false => rfl
  | true => simp only [chain, Bool.and_eq_true, decide_eq_true_eq] at hc; exact absurd hc.1 h
theorem chain_go {a x : Int} {t : List Int} (h : a < x ∧ x < 16) : chain a (x :: t) = chain x t := by simp [chain, h.1, h.2]
theorem rightServers_no {l : List Int} (h : chain (-1) l = false) : rightServers l = false := by simp [rightServers, h]
end Go.HB
namespace Go.Proofs.Ytcmdeaejgldhfaa
open Go.RowKit Go.HB Go.Shelf

set_option maxRecDepth 100000 in
set_option maxHeartbeats 2000000 in
theorem rrightservers_any (w : World) (F : FP) (v : Value) (l : List Int) (h : Rd encInt w F v l) :
    Calls Try.prog 84 #[v] w fun e w' => e = .returned (.bool (rightServers l)) ∧ Below w.heap.size w w' := by
  obtain ⟨A, c, rfl, hl, hm⟩ := h.slice
  have hle := h.bytes_le
  simp only [encInt, encOf] at hle
  have H := h.arg
  clear h
  obtain ⟨R, hR⟩ : ∃ R, rightServers l = R := ⟨_, rfl⟩
  have HR := Lib.hid hR
  clear hR
  go_enter Try.func84, Try.ntmps84
  go_wp2
  go_loopw [3] (fun i wr => ∃ (k : Nat) (last : Int), k ≤ l.length ∧ i = .int .i64 k ∧ -1 ≤ last ∧ (k = 0 → last = -1) ∧ (∀ j, k = j + 1 → l[j]? = some last) ∧ Hid (chain (-1) l = chain last (l.drop k)) ∧ Below w.heap.size w wr) (fun i _ => l.length - (intOf i).toNat)
  case atStart => exact ⟨0, -1, by omega, rfl, by omega, fun _ => rfl, fun j h => by omega, rfl, Below.refl _ _⟩
  case round =>
    obtain ⟨k, last, hk, rfl, h1, hz, hj, HC, HB⟩ := hrel
    by_cases hlt : k < l.length
    · obtain ⟨ad, rfl, hc, hi⟩ := (H.at_ HB).int_at k hlt
      have HD : Hid (l.drop k = l[k] :: l.drop (k + 1)) := List.drop_eq_getElem_cons hlt
      have HX : Hid (l[k]? = some l[k]) := List.getElem?_eq_getElem hlt
      generalize l[k] = x at *
      rcases Nat.eq_zero_or_pos k with h0 | hkp
      · subst h0
        obtain rfl := hz rfl
        have had : ad.add 0 = ad := by unfold Addr.add; simp
        have hc0 : wr.cell? ad = some (.int .i64 x) := by rw [← hc, had]
        have hlp : 0 < l.length := hlt
        have hk0 : decide ((0 : Int) < ((0 : Nat) : Int)) = false := by decide
        have cs : decide (x < 0) = true ∨ (decide (x < 0) = false ∧ decide (16 ≤ x) = true) ∨ (decide (x < 0) = false ∧ decide (16 ≤ x) = false) := by
          by_cases a : x < 0
          · exact .inl (by simpa using a)
          · by_cases b : 16 ≤ x
            · exact .inr (.inl ⟨by simpa using a, by simpa using b⟩)
            · exact .inr (.inr ⟨by simpa using a, by simpa using b⟩)
        rcases cs with a | ⟨a, b⟩ | ⟨a, b⟩
        all_goals go_wp2
        all_goals (go_quiet (fail))
        all_goals go_wp2
        · go_ret
          exact ⟨congrArg (fun b => Ending.returned (Value.bool b)) (rightServers_no (by rw [HC.out, HD.out]; exact chain_stop (by simp at a; omega))).symm, bel_drewN HB _⟩
        · go_ret
          exact ⟨congrArg (fun b => Ending.returned (Value.bool b)) (rightServers_no (by rw [HC.out, HD.out]; exact chain_stop (by simp at a b; omega))).symm, bel_drewN HB _⟩
        · have hx : -1 < x ∧ x < 16 := by simp at a b; omega
          have HC2 : Hid (chain (-1) l = chain x (l.drop (0 + 1))) := by show _ = _; rw [HC.out, HD.out]; exact chain_go hx
          go_roundw
          case rel => exact ⟨0 + 1, x, by omega, by simp, by omega, by omega, fun j h => by (obtain rfl : j = 0 := by omega); exact HX.out, HC2, bel_drewN HB _⟩
          case measure => simp [intOf] <;> omega
      · obtain ⟨j, hkj⟩ : ∃ j : Nat, (k : Int) - 1 = j := ⟨k - 1, by omega⟩
        have hjl := hj j (by omega)
        obtain ⟨ad', hA', hc', hi'⟩ := (H.at_ HB).int_at j (by omega)
        obtain rfl : ad = ad' := by simpa using hA'
        have hlj : l[j]'(by omega) = last := by rw [List.getElem?_eq_getElem (by omega)] at hjl; simpa using hjl
        rw [hlj] at hc' hi'
        have hk0 : decide ((0 : Int) < (k : Int)) = true := by simp; omega
        have cs : decide (x < 0) = true ∨ (decide (x < 0) = false ∧ decide (16 ≤ x) = true) ∨ (decide (x < 0) = false ∧ decide (16 ≤ x) = false ∧ decide (x ≤ last) = true) ∨ (decide (x < 0) = false ∧ decide (16 ≤ x) = false ∧ decide (x ≤ last) = false) := by
          by_cases a : x < 0
          · exact .inl (by simpa using a)
          · by_cases b : 16 ≤ x
            · exact .inr (.inl ⟨by simpa using a, by simpa using b⟩)
            · by_cases d : x ≤ last
              · exact .inr (.inr (.inl ⟨by simpa using a, by simpa using b, by simpa using d⟩))
              · exact .inr (.inr (.inr ⟨by simpa using a, by simpa using b, by simpa using d⟩))
        rcases cs with a | ⟨a, b⟩ | ⟨a, b, d⟩ | ⟨a, b, d⟩
        all_goals go_wp2
        all_goals (go_quiet (fail))
        all_goals go_wp2
        · go_ret
          exact ⟨congrArg (fun b => Ending.returned (Value.bool b)) (rightServers_no (by rw [HC.out, HD.out]; exact chain_stop (by simp at a; omega))).symm, bel_drewN HB _⟩
        · go_ret
          exact ⟨congrArg (fun b => Ending.returned (Value.bool b)) (rightServers_no (by rw [HC.out, HD.out]; exact chain_stop (by simp at a b; omega))).symm, bel_drewN HB _⟩
        · go_ret
          exact ⟨congrArg (fun b => Ending.returned (Value.bool b)) (rightServers_no (by rw [HC.out, HD.out]; exact chain_stop (by simp at d; omega))).symm, bel_drewN HB _⟩
        · have hx : last < x ∧ x < 16 := by simp at b d; omega
          have HC2 : Hid (chain (-1) l = chain x (l.drop (k + 1))) := by show _ = _; rw [HC.out, HD.out]; exact chain_go hx
          go_roundw
          case rel => exact ⟨k + 1, x, by omega, by go_num, by omega, by omega, fun i h => by (obtain rfl : i = k := by omega); exact HX.out, HC2, bel_drewN HB _⟩
          case measure => simp [intOf]; omega
    · obtain rfl : k = l.length := by omega
      have hch := HC.out
      rw [List.drop_length] at hch
      have HF : Hid (rightServers l = (decide (1 ≤ l.length) && decide (l.length ≤ 7))) := by show _ = _; rw [rightServers, hch]; simp [chain]
      clear hch
      go_wp2
      all_goals go_ret
      all_goals (refine ⟨congrArg (fun b => Ending.returned (Value.bool b)) ?_, HB⟩; rw [HF.out]; rw [Bool.eq_iff_iff]; simp only [Bool.and_eq_true, decide_eq_true_eq]; (first | omega | (simp; omega) | skip))
end Go.Proofs.Ytcmdeaejgldhfaa
