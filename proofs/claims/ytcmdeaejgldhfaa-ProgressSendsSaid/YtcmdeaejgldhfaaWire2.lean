/-
  wire: clones, bytes held against bytes, readers made, servers there and back.
-/
import Derived.Test.YtcmdeaejgldhfaaReader
import Derived.Shelf.Bytes.SlSmallAll
set_option linter.unusedVariables false
set_option linter.unusedSimpArgs false
namespace Go.HB
open Go.RowKit
def strB (xs : Bytes) : ByteArray := ⟨xs.toArray⟩
theorem strOf_nums (xs : Bytes) : strOfNums (xs.map fun b => (b.toNat : Int)) = strB xs := by
  unfold strOfNums strB
  congr 1
  apply Array.ext
  · simp
  · intro i h1 h2
    simp
theorem strB_inj {a b : Bytes} : strB a = strB b ↔ a = b := by
  constructor
  · intro h
    have := congrArg (fun s => s.data.toList) h
    simpa [strB] using this
  · rintro rfl; rfl
theorem Rd.str {P : Program} {w : World} {F : FP} {A : Option Addr} {n c : Nat} {xs : Bytes} (h : Rd encU8 w F (.slice A n c) xs) (src e dst : TypeId) (hs : P.underlying src = some (.slice e)) (he : P.underlying e = some (.int .u8)) (hd : P.underlying dst = some .string) :
    ∀ W, (∀ a v, w.cell? a = some v → W.cell? a = some v) → (convert src dst (.slice A n c)).run P W = .ok (.string (strB xs)) W := by
  intro W hW
  rw [← strOf_nums]
  obtain ⟨A0, c0, hv, hl, hm, hb, hc⟩ := h
  injection hv with e1 e2 e3
  subst e1; subst e2; subst e3
  rcases Nat.eq_zero_or_pos xs.length with h0 | h0
  · obtain rfl : xs = [] := List.eq_nil_of_length_eq_zero h0
    exact Go.Proofs.run_convert_bytes_zero W src e hs he A c dst hd
  · obtain ⟨ad, rfl, ha, hs', hr⟩ := hc h0
    have hcell : ∀ i, i < xs.length → w.cell? (ad.add i) = some (.int .u8 ((xs.map fun b => (b.toNat : Int)).getD i 0)) := by
      intro i hi
      obtain ⟨cs, ⟨_, rfl⟩, hcs⟩ := hr i xs[i] (List.getElem?_eq_getElem hi)
      have := hcs 0 _ rfl
      simp only [encU8, encOf, Nat.mul_one, Nat.add_zero] at this
      rw [this]; simp [hi]
    obtain ⟨b, o, sp⟩ := ad
    have hsp : sp = none := by
      have := hcell 0 h0
      simp [Addr.add, World.cell?] at this
      split at this
      · split at this
        · cases this
        · rename_i h; simpa using h
      · cases this
    subst hsp
    refine run_convert_bytes_arg (P := P) W src e hs he b o xs.length c _ (by simp) (fun i hi => ?_) dst hd
    have := hcell i hi
    rw [add_at] at this
    exact hW _ _ this
end Go.HB
namespace Go.Proofs.Ytcmdeaejgldhfaa
open Go.RowKit Go.HB Go.Shelf

set_option maxHeartbeats 400000 in
theorem bequal_any (w : World) (F F' : FP) (v v' : Value) (xs ys : Bytes) (h : Rd encU8 w F v xs) (h' : Rd encU8 w F' v' ys) :
    Calls Try.prog 88 #[v, v'] w fun e w' => e = .returned (.bool (decide (xs = ys))) ∧ w = w' := by
  obtain ⟨A, c, rfl, hl, hm⟩ := h.slice
  obtain ⟨A', c', rfl, hl', hm'⟩ := h'.slice
  have k1 := h.str (P := Try.prog) 52 5 9 Try.underlying52 Try.underlying5 Try.underlying9 w (fun _ _ h => h)
  have k2 := h'.str (P := Try.prog) 52 5 9 Try.underlying52 Try.underlying5 Try.underlying9 w (fun _ _ h => h)
  go_enter Try.func88, Try.ntmps88
  go_wp2
  go_ret
  exact ⟨by simp only [strB, ByteArray.toList_mk]; rw [show (xs == ys) = decide (xs = ys) from Bool.eq_iff_iff.2 (by simp)]; rfl, rfl⟩

set_option maxHeartbeats 400000 in
theorem cloneB_any (w : World) (F : FP) (v : Value) (xs : Bytes) (h : Rd encU8 w F v xs) :
    Calls Try.prog 53 #[v] w fun e w' => ∃ v', e = .returned v' ∧ Rd encU8 w' (geF w.heap.size) v' xs ∧ Below w.heap.size w w' := by
  obtain ⟨A, c, rfl, hl, hm⟩ := h.slice
  cases A with
  | none =>
    have hx : xs = [] := by
      obtain ⟨A0, c0, hv, _, _, _, hc⟩ := h
      injection hv with e1 e2 e3
      rcases Nat.eq_zero_or_pos xs.length with h0 | h0
      · exact List.eq_nil_of_length_eq_zero h0
      · obtain ⟨ad, hA, _⟩ := hc h0
        rw [← e1] at hA; cases hA
    subst hx
    have hnil : ∀ W, (binOp .eql 52 (.slice none 0 c) (.slice none 0 0)).run Try.prog W = .ok (.bool true) W := fun W => Lib.run_eql_slice_nil (P := Try.prog) W 52 5 none 0 c 0 0 Try.underlying52
    go_enter Try.func53, Try.ntmps53
    go_wp2
    go_ret
    exact ⟨_, rfl, Rd.nil_ _ _ _, Below.refl _ _⟩
  | some ad =>
    have H := h.arg
    have hb := h.bytes_le
    clear h
    have hnil : ∀ W, (binOp .eql 52 (.slice (some ad) xs.length c) (.slice none 0 0)).run Try.prog W = .ok (.bool false) W := fun W => Lib.run_eql_slice_nil (P := Try.prog) W 52 5 (some ad) xs.length c 0 0 Try.underlying52
    go_enter Try.func53, Try.ntmps53
    go_wp2_with (at_builtin; go_must (refine own_append (w0 := w) encU8 rfl _ _ 52 5 (.int .u8 0) rfl Try.underlying52 info5 rfl none' (ltF w) (.slice (some ⟨_, 0, none⟩) 0 0) (.slice _ _ _) [] xs xs xs.length rfl rfl rfl rfl (Mine.lit0 _ _ _ _ _ ?c1 ?c7) ?c0 (H.at_ ?c2) ?c3 ?c4 ?c5 ?_))
    case c1 => simp
    case c7 => simp
    case c0 => repeat (first | with_reducible exact Below.refl _ _ | with_reducible assumption | with_reducible refine bel_alloc ?_ (Nat.le_refl _) _ | with_reducible refine bel_drew ?_ | with_reducible refine bel_drewN ?_ _ | (with_reducible refine bel_set ?_ ?_ _; · (simp <;> omega)))
    case c2 => repeat (first | with_reducible exact Below.refl _ _ | with_reducible assumption | with_reducible refine bel_alloc ?_ (Nat.le_refl _) _ | with_reducible refine bel_drew ?_ | with_reducible refine bel_drewN ?_ _ | (with_reducible refine bel_set ?_ ?_ _; · (simp <;> omega)))
    case c3 => intro b he hb; have := ltF_lt hb; simp [Value.ownBlock] at he; omega
    case c4 => simpa using hb
    case c5 => simpa [maxLen] using (show xs.length ≤ maxLen by omega)
    intro A1 c1 w1 HO HB hl1 hm1 hg hat
    go_wp2
    go_ret
    exact ⟨_, rfl, (HO.flat flat_u8).res (fun b hb => hb.elim), HB⟩

set_option maxHeartbeats 400000 in
theorem wnew_any (w : World) (F : FP) (v : Value) (xs : Bytes) (h : Rd encU8 w F v xs) :
    Calls Try.prog 85 #[v] w fun e w' => ∃ g G, e = .returned (.pointer (some ⟨g, 0, none⟩)) ∧ WRd w' g ⟨0, xs⟩ G ∧ (∀ b, G b → w.heap.size ≤ b ∧ b < w'.heap.size) ∧ w.heap.size ≤ g ∧ Below w.heap.size w w' := by
  go_enter Try.func85, Try.ntmps85
  go_wp2_with (go_at_call 53; refine (cloneB_any _ F _ xs h).mono ?_; rintro e w1 ⟨v1, rfl, hr, hb⟩; obtain ⟨A1, c1, rfl, hl1, hm1⟩ := hr.slice)
  go_ret
  refine ⟨w1.heap.size, fun b => geF w.heap.size b ∧ b < w1.heap.size, rfl, ⟨A1, c1, heap_new rfl rfl, ?_, fun h => by omega⟩, fun b hb => ⟨hb.1, by simp; omega⟩, hb.size, bel_alloc hb (Nat.le_refl _) _⟩
  exact (hr.lt.mono fun b hb => ⟨hb.1, hb.2.lt⟩).alloc _

def PutSrv (w : World) (l : List Int) (e : Ending) (w' : World) : Prop :=
  ∃ v', e = .returned (.tuple #[v', .int .i64 (if rightServers l then 0 else 1)]) ∧ Rd encU8 w' (geF w.heap.size) v' (if rightServers l then encServers l else []) ∧ Below w.heap.size w w'
set_option maxHeartbeats 1000000 in
theorem putservers_any (w : World) (F : FP) (v : Value) (l : List Int) (h : Rd encInt w F v l) :
    Calls Try.prog 87 #[v] w (PutSrv w l) := by
  obtain ⟨A, c, rfl, hl, hm⟩ := h.slice
  have hle := h.len_le
  have H := h.arg
  clear h
  by_cases h17 : 1 ≤ l.length ∧ l.length ≤ 7
  · obtain ⟨h1, h7⟩ := h17
    have HRS : Hid (rightServers l = chain (-1) l) := by show _ = _; simp [rightServers, h1, h7]
    have d1 : decide ((l.length : Int) < 1) = false := by simp; omega
    go_enter Try.func87, Try.ntmps87
    go_wp2_with (go_at_call 60; refine (number_own _ l.length ⟨by omega, by omega⟩).mono ?_; rintro e w1 ⟨v1, rfl, HO1, hb1⟩; obtain ⟨A1, c1, rfl, hl1, hm1⟩ := HO1.slice)
    have hnb := numBytes_len (n := l.length) (by omega)
    go_loopw [4, 5, 7, 21] (fun out la x i wr => ∃ (k m : Nat) (last : Int) (A2 : Option Addr) (c2 : Nat), k ≤ l.length ∧ i = .int .i64 k ∧ la = .int .i64 last ∧ out = .slice A2 m c2 ∧ m ≤ 9 + 9 * k ∧ Hid (m = (numBytes l.length ++ (l.take k).flatMap numBytes).length) ∧ Hid (chain (-1) l = chain last (l.drop k)) ∧ Mine encU8 5 wr w.heap.size none' (.slice A2 m c2) (numBytes l.length ++ (l.take k).flatMap numBytes) ∧ Below w.heap.size w wr) (fun _ _ _ i _ => l.length - (intOf i).toNat)
    case atStart => exact ⟨0, _, -1, A1, c1, by omega, rfl, rfl, rfl, by omega, by simp [Hid], rfl, by simpa using HO1, hb1⟩
    case round =>
      obtain ⟨k, m, last, A2, c2, hk, rfl, rfl, rfl, hm2, HM, HC, HO, HB⟩ := hrel
      by_cases hlt : k < l.length
      · obtain ⟨ad, rfl, hcell, h64⟩ := (H.at_ HB).int_at k hlt
        obtain ⟨x, hx⟩ : ∃ x, l[k] = x := ⟨_, rfl⟩
        have hdrop : l.drop k = x :: l.drop (k + 1) := by rw [List.drop_eq_getElem_cons hlt, hx]
        have htake : l.take (k + 1) = l.take k ++ [x] := by rw [← List.take_append_getElem hlt, hx]
        rw [hx] at hcell h64
        rw [hdrop] at HC
        have hnx := numBytes_len (n := x) h64.2
        have HT : Hid (l.take (k + 1) = l.take k ++ [x]) := htake
        clear hx hdrop htake
        by_cases hbad : x ≤ last ∨ 16 ≤ x
        · have hcf : chain (-1) l = false := by
            rw [HC.out]
            by_cases h1 : last < x
            · have h2 : ¬ x < 16 := by omega
              simp [chain, h1, h2]
            · simp [chain, h1]
          have HF := Lib.hid hcf
          clear hcf
          by_cases h1 : x ≤ last
          · have d1 : decide (x ≤ last) = true := by simp; omega
            clear hbad
            go_wp2
            go_ret2
            exact ⟨.slice none 0 0, by rw [HRS.out, HF.out]; rfl, by rw [HRS.out, HF.out]; exact Rd.nil_ _ _ _, HB⟩
          · have d1 : decide (x ≤ last) = false := by simp; omega
            have d2 : decide (x ≥ 16) = true := by simp; omega
            clear hbad
            go_wp2
            go_ret2
            exact ⟨.slice none 0 0, by rw [HRS.out, HF.out]; rfl, by rw [HRS.out, HF.out]; exact Rd.nil_ _ _ _, HB⟩
        · have d1 : decide (x ≤ last) = false := by simp; omega
          have d2 : decide (x ≥ 16) = false := by simp; omega
          have HC' : Hid (chain (-1) l = chain x (l.drop (k + 1))) := by
            show _ = _
            rw [HC.out]
            have e1 : last < x := by omega
            have e2 : x < 16 := by omega
            simp [chain, e1, e2]
          have hz : Hid ((numBytes l.length ++ (l.take k).flatMap numBytes) ++ numBytes x = numBytes l.length ++ (l.take (k + 1)).flatMap numBytes) := by
            show _ = _
            rw [HT.out, List.flatMap_append]; simp
          clear hbad
          go_wp2_with (first | (go_at_call 60; refine (number_any _ x h64).mono ?_; rintro e w2 ⟨v2, rfl, hr2, hb2⟩; obtain ⟨A3, c3, rfl, hl3, hm3⟩ := hr2.slice) | (at_builtin; go_must (refine own_append (w0 := w) encU8 rfl _ _ 52 5 (.int .u8 0) rfl Try.underlying52 info5 rfl none' (geF wr.heap.size) (.slice A2 m c2) (.slice A3 _ c3) _ (numBytes x) _ (m + (numBytes x).length) rfl rfl hz.out ?c6 (HO.below hb2) (bel_then HB (Nat.le_refl _) hb2) hr2 ?c3 ?c4 ?c5 ?_)))
          case c6 => rw [← hz.out, List.length_append, ← HM.out]
          case c3 => intro b he hb'; have := (HO.lt b he).2; simp [geF] at hb'; omega
          case c4 => simp [encU8, encOf]; omega
          case c5 => simp [maxLen]; omega
          intro A4 c4 w4 HO4 HB4 hl4 hm4 _ _
          go_wp2
          go_roundw
          case rel => exact ⟨k + 1, m + (numBytes x).length, x, A4, c4, by omega, by go_num, rfl, rfl, by omega, by (show _ = _; rw [← hz.out, List.length_append, ← HM.out]), HC', HO4.flat flat_u8, HB4⟩
          case measure => simp [intOf]; omega
      · obtain rfl : k = l.length := by omega
        have hct : chain (-1) l = true := by rw [HC.out, List.drop_length]; rfl
        have HF := Lib.hid hct
        rw [List.take_length] at HO
        clear hct
        go_wp2
        go_ret2
        exact ⟨.slice A2 m c2, by rw [HRS.out, HF.out]; rfl, by rw [HRS.out, HF.out]; exact HO.res (fun b hb => hb.elim), HB⟩
  · have hrs : rightServers l = false := by
      by_cases h1 : 1 ≤ l.length
      · simp [rightServers, h1]; omega
      · simp [rightServers, h1]
    have HRS := Lib.hid hrs
    clear hrs
    by_cases h1 : 1 ≤ l.length
    · have d1 : decide ((l.length : Int) < 1) = false := by simp; omega
      have d2 : decide ((l.length : Int) > 7) = true := by simp; omega
      go_enter Try.func87, Try.ntmps87
      go_wp2
      go_ret2
      exact ⟨.slice none 0 0, by rw [HRS.out]; rfl, by rw [HRS.out]; exact Rd.nil_ _ _ _, Below.refl _ _⟩
    · have d1 : decide ((l.length : Int) < 1) = true := by simp; omega
      go_enter Try.func87, Try.ntmps87
      go_wp2
      go_ret2
      exact ⟨.slice none 0 0, by rw [HRS.out]; rfl, by rw [HRS.out]; exact Rd.nil_ _ _ _, Below.refl _ _⟩
end Go.Proofs.Ytcmdeaejgldhfaa
