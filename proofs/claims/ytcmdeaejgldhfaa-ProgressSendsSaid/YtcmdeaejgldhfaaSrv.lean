/-
  Plain facts: a list of servers read back is the list that was written. No program stands here.
-/
import Derived.Test.YtcmdeaejgldhfaaPlain2
set_option linter.unusedVariables false
set_option linter.unusedSimpArgs false
namespace Go.HB
theorem leNum_digits (n : Nat) : leNum (digits n) = n := by
  induction n using Nat.strongRecOn with
  | ind n ih =>
    rcases Nat.eq_zero_or_pos n with rfl | h
    · rw [digits_zero]; rfl
    · rw [digits_pos h, leNum, ih (n / 256) (by omega)]
      have : (UInt8.ofNat (n % 256)).toNat = n % 256 := by simp
      rw [this]; omega
theorem digits_last (n : Nat) : (digits n)[(digits n).length - 1]? ≠ some 0 := by
  induction n using Nat.strongRecOn with
  | ind n ih =>
    rcases Nat.eq_zero_or_pos n with rfl | h
    · rw [digits_zero]; simp
    · rw [digits_pos h]
      rcases Nat.eq_zero_or_pos (n / 256) with h0 | h0
      · rw [h0, digits_zero]
        intro e
        simp only [List.length_singleton, Nat.sub_self, List.getElem?_cons_zero, Option.some.injEq] at e
        have := congrArg UInt8.toNat e
        simp at this
        omega
      · have h2 := ih (n / 256) (by omega)
        have hl : 0 < (digits (n / 256)).length := by rw [digits_pos h0]; simp
        rw [List.length_cons, Nat.add_sub_cancel]
        rw [show (digits (n / 256)).length = (digits (n / 256)).length - 1 + 1 by omega, List.getElem?_cons_succ]
        exact h2
theorem digits_leNum (l : Bytes) (h : l[l.length - 1]? ≠ some 0) : digits (leNum l) = l := by
  induction l with
  | nil => simp [leNum, digits_zero]
  | cons c t ih =>
    have hc := c.toNat_lt
    have ht : t[t.length - 1]? ≠ some 0 := by
      intro e
      apply h
      have hl : 0 < t.length := by
        rcases Nat.eq_zero_or_pos t.length with h0 | h0
        · rw [List.eq_nil_of_length_eq_zero h0] at e; simp at e
        · exact h0
      rw [List.length_cons, Nat.add_sub_cancel, show t.length = t.length - 1 + 1 by omega, List.getElem?_cons_succ]
      exact e
    have e1 : (leNum (c :: t)) % 256 = c.toNat := by simp only [leNum]; omega
    have e2 : (leNum (c :: t)) / 256 = leNum t := by simp only [leNum]; omega
    rcases Nat.eq_zero_or_pos (leNum (c :: t)) with h0 | h0
    · exfalso
      have h3 : c.toNat = 0 ∧ leNum t = 0 := by simp only [leNum] at h0; omega
      have h4 : t = [] := by
        have := ih ht
        rw [h3.2, digits_zero] at this
        exact this.symm
      subst h4
      apply h
      simp
      exact UInt8.toNat_inj.1 (by simpa using h3.1)
    · rw [digits_pos h0, e1, e2, ih ht]
      simp
/-- A number that was written is read; what is read was written so. -/
theorem readNum_put {x : Nat} (h : (digits x).length ≤ 6) (r : Bytes) : readNum (numBytes x ++ r) = .ok (x, r) := by
  have hn : (UInt8.ofNat (digits x).length).toNat = (digits x).length := by simp; omega
  unfold numBytes
  rw [Int.toNat_natCast, List.cons_append]
  rw [readNum_ok]
  · rw [hn, List.take_left, leNum_digits, List.drop_left]
  · rw [hn]; omega
  · rw [hn]; simp
  · rw [hn]
    rintro ⟨h1, h2⟩
    rw [List.getElem?_append_left (by omega)] at h2
    exact digits_last x h2
theorem readNum_got {b r : Bytes} {x : Nat} (h : readNum b = .ok (x, r)) : b = numBytes x ++ r ∧ x < 281474976710656 := by
  cases b with
  | nil => simp [readNum] at h
  | cons n r' =>
    by_cases h6 : 6 < n.toNat
    · rw [readNum_big h6] at h; cases h
    by_cases h7 : r'.length < n.toNat
    · rw [readNum_short h6 h7] at h; cases h
    by_cases h8 : 0 < n.toNat ∧ r'[n.toNat - 1]? = some 0
    · rw [readNum_form h6 h7 h8] at h; cases h
    rw [readNum_ok h6 h7 h8] at h
    injection h with h
    injection h with h1 h2
    have hlen : (r'.take n.toNat).length = n.toNat := by rw [List.length_take]; omega
    have hd : digits x = r'.take n.toNat := by
      rw [← h1]
      apply digits_leNum
      rw [hlen]
      intro e
      rcases Nat.eq_zero_or_pos n.toNat with h0 | h0
      · rw [List.getElem?_eq_none (by omega)] at e; cases e
      · rw [List.getElem?_take, if_pos (by omega)] at e
        exact h8 ⟨h0, e⟩
    constructor
    · unfold numBytes
      rw [Int.toNat_natCast, hd, hlen, List.cons_append, ← h2, List.take_append_drop]
      congr 1
      simp
    · have := leNum_lt (r'.take n.toNat)
      rw [hlen, h1] at this
      have hp : (256 : Nat) ^ n.toNat ≤ 256 ^ 6 := Nat.pow_le_pow_right (by decide) (by omega)
      omega
theorem RS.nums_err (s : RS) (h : s.e ≠ 0) (k : Nat) : (s.nums k).2 = s := by
  induction k with
  | zero => rfl
  | succ k ih => simp only [RS.nums, ih]; simp [RS.num, h]
theorem RS.num_e (s : RS) (h : s.num.2.e = 0) : s.e = 0 := by
  unfold RS.num at h
  split at h
  · assumption
  · exact h
theorem RS.nums_e (s : RS) (k : Nat) (h : (s.nums k).2.e = 0) : s.e = 0 := by
  induction k with
  | zero => exact h
  | succ k ih => exact ih (RS.num_e _ h)
/-- What was read, and how the bytes read. -/
theorem RS.num_got (s : RS) (h : s.num.2.e = 0) : s.b = numBytes s.num.1 ++ s.num.2.b ∧ 0 ≤ s.num.1 := by
  have he := RS.num_e s h
  cases hr : readNum s.b with
  | error c =>
    rw [RS.num_err he hr] at h
    simp only at h
    subst h
    exfalso
    cases hb : s.b with
    | nil => rw [hb] at hr; simp [readNum] at hr
    | cons n r' =>
      rw [hb] at hr
      by_cases h6 : 6 < n.toNat
      · rw [readNum_big h6] at hr; simp at hr
      by_cases h7 : r'.length < n.toNat
      · rw [readNum_short h6 h7] at hr; simp at hr
      by_cases h8 : 0 < n.toNat ∧ r'[n.toNat - 1]? = some 0
      · rw [readNum_form h6 h7 h8] at hr; simp at hr
      rw [readNum_ok h6 h7 h8] at hr; cases hr
  | ok p =>
    obtain ⟨x, r⟩ := p
    rw [RS.num_ok he hr]
    exact ⟨(readNum_got hr).1, Int.natCast_nonneg _⟩
theorem RS.nums_got (s : RS) (k : Nat) (h : (s.nums k).2.e = 0) : s.b = (s.nums k).1.flatMap numBytes ++ (s.nums k).2.b := by
  induction k with
  | zero => simp [RS.nums]
  | succ k ih =>
    have h1 := ih (RS.num_e _ h)
    have h2 := (RS.num_got _ h).1
    rw [h1, h2]
    simp [RS.nums]
theorem digits_small {x : Int} (h0 : 0 ≤ x) (h1 : x < 16) : (digits x.toNat).length ≤ 6 := by
  have := digits_len 1 x.toNat (by omega)
  omega
theorem num_put {x : Int} (h0 : 0 ≤ x) (h1 : x < 16) (r : Bytes) : (⟨0, numBytes x ++ r⟩ : RS).num = (x, ⟨0, r⟩) := by
  have := readNum_put (digits_small h0 h1) r
  rw [show ((x.toNat : Nat) : Int) = x by omega] at this
  rw [RS.num_ok rfl this]
  congr 1
  omega
theorem chain_all {a : Int} {l : List Int} (ha : -1 ≤ a) (h : chain a l = true) : ∀ x ∈ l, 0 ≤ x ∧ x < 16 := by
  induction l generalizing a with
  | nil => intro x hx; cases hx
  | cons y t ih =>
    simp only [chain, Bool.and_eq_true, decide_eq_true_eq] at h
    intro x hx
    rcases List.mem_cons.1 hx with rfl | hx
    · omega
    · exact ih (by omega) h.2 x hx
theorem nums_put (l : List Int) (hl : ∀ x ∈ l, 0 ≤ x ∧ x < 16) (r : Bytes) : (⟨0, l.flatMap numBytes ++ r⟩ : RS).nums l.length = (l, ⟨0, r⟩) := by
  -- from the front
  have key : ∀ (l : List Int), (∀ x ∈ l, 0 ≤ x ∧ x < 16) → ∀ (k : Nat) (s : RS) (p : List Int), s.nums k = (p, ⟨0, l.flatMap numBytes ++ r⟩) → s.nums (k + l.length) = (p ++ l, ⟨0, r⟩) := by
    intro l
    induction l with
    | nil => intro _ k s p h; simpa using h
    | cons x t ih =>
      intro hl k s p h
      have hx := hl x (by simp)
      have h1 : s.nums (k + 1) = (p ++ [x], ⟨0, t.flatMap numBytes ++ r⟩) := by
        simp only [RS.nums, h]
        rw [List.flatMap_cons, List.append_assoc, num_put hx.1 hx.2]
      have := ih (fun y hy => hl y (by simp [hy])) (k + 1) s (p ++ [x]) h1
      rw [List.length_cons, show k + (t.length + 1) = k + 1 + t.length by omega, this]
      simp
  have := key l hl 0 (⟨0, l.flatMap numBytes ++ r⟩) [] rfl
  simpa using this
/-- What the document's GetServers asks of bytes. -/
def rsrvOk (b : Bytes) : Bool :=
  let s0 : RS := ⟨0, b⟩
  let n := s0.num.1
  let q := s0.num.2.nums (min n 8).toNat
  decide (q.2.e = 0) && decide (q.2.b.length = 0) && decide (n = q.1.length) && rightServers q.1
theorem rightServers_parts {l : List Int} (h : rightServers l = true) : 1 ≤ l.length ∧ l.length ≤ 7 ∧ ∀ x ∈ l, 0 ≤ x ∧ x < 16 := by
  simp only [rightServers, Bool.and_eq_true, decide_eq_true_eq] at h
  exact ⟨h.1.1, h.1.2, chain_all (by omega) h.2⟩
theorem rsrvOk_eq (b : Bytes) : rsrvOk b = srvOk b := by
  rw [Bool.eq_iff_iff]
  constructor
  · intro h
    simp only [rsrvOk, Bool.and_eq_true, decide_eq_true_eq] at h
    obtain ⟨⟨⟨h1, h2⟩, h3⟩, h4⟩ := h
    obtain ⟨l1, l7, _⟩ := rightServers_parts h4
    have he := RS.nums_e _ _ h1
    have g0 := (RS.num_got _ he).1
    have g1 := RS.nums_got _ _ h1
    have hk : min (⟨0, b⟩ : RS).num.1 7 = min (⟨0, b⟩ : RS).num.1 8 := by omega
    have hL : srvList b = ((⟨0, b⟩ : RS).num.2.nums (min (⟨0, b⟩ : RS).num.1 8).toNat).1 := by rw [srvList, hk]
    simp only [srvOk, Bool.and_eq_true, decide_eq_true_eq]
    rw [hL]
    refine ⟨h4, ?_⟩
    rw [encServers, ← h3]
    rw [List.length_eq_zero_iff] at h2
    rw [h2, List.append_nil] at g1
    rw [← g1]
    exact g0.symm
  · intro h
    simp only [srvOk, Bool.and_eq_true, decide_eq_true_eq] at h
    obtain ⟨h1, h2⟩ := h
    obtain ⟨l1, l7, hx⟩ := rightServers_parts h1
    generalize srvList b = l at *
    subst h2
    have hn : (⟨0, encServers l⟩ : RS).num = ((l.length : Int), ⟨0, l.flatMap numBytes ++ []⟩) := by
      rw [List.append_nil]
      exact num_put (by omega) (by omega) _
    have hq : (⟨0, encServers l⟩ : RS).num.2.nums (min (⟨0, encServers l⟩ : RS).num.1 8).toNat = (l, ⟨0, []⟩) := by
      rw [hn]
      simp only
      rw [show (min (l.length : Int) 8).toNat = l.length by omega]
      exact nums_put l hx []
    simp only [rsrvOk, Bool.and_eq_true, decide_eq_true_eq]
    rw [hq, hn]
    exact ⟨⟨⟨rfl, rfl⟩, rfl⟩, h1⟩
end Go.HB
