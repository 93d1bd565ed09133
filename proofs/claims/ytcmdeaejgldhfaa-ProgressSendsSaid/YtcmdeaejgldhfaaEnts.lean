/-
  Entries and views: their encodings; that copies of entries read the same.
-/
import Derived.Test.YtcmdeaejgldhfaaProg
import Derived.Test.YtcmdeaejgldhfaaBase
import Derived.Test.YtcmdeaejgldhfaaPlain2
set_option linter.unusedVariables false
set_option linter.unusedSimpArgs false
namespace Go.HB
open Go.RowKit
section
variable {α β : Type}
def encPair (a : Enc α) (b : Enc β) : Enc (α × β) where
  k := a.k + b.k
  bytes := a.bytes + b.bytes
  R := fun w F x cs => ∃ c1 c2, cs = c1 ++ c2 ∧ a.R w F x.1 c1 ∧ b.R w F x.2 c2
  len := by rintro w F x cs ⟨c1, c2, rfl, h1, h2⟩; rw [List.length_append, a.len h1, b.len h2]
  one := by
    rintro w F x cs ⟨c1, c2, rfl, h1, h2⟩ u hu
    rcases List.mem_append.1 hu with hu | hu
    · exact a.one h1 u hu
    · exact b.one h2 u hu
  move := by rintro w w' F x cs hF ⟨c1, c2, rfl, h1, h2⟩; exact ⟨c1, c2, rfl, a.move hF h1, b.move hF h2⟩
  mono := by rintro w F F' x cs hF ⟨c1, c2, rfl, h1, h2⟩; exact ⟨c1, c2, rfl, a.mono hF h1, b.mono hF h2⟩
  lt := by rintro w F x cs ⟨c1, c2, rfl, h1, h2⟩; exact ⟨c1, c2, rfl, a.lt h1, b.lt h2⟩
def encIso (e : Enc α) (f : β → α) (bytes : Nat) : Enc β where
  k := e.k
  bytes := bytes
  R := fun w F x cs => e.R w F (f x) cs
  len := fun h => e.len h
  one := fun h => e.one h
  move := fun h => e.move h
  mono := fun h => e.mono h
  lt := fun h => e.lt h
theorem R_int {w : World} {F : FP} {x : Int} {cs : List Value} : encInt.R w F x cs ↔ In64 x ∧ cs = [.int .i64 x] := Iff.rfl
theorem R_bool {w : World} {F : FP} {x : Bool} {cs : List Value} : encBool.R w F x cs ↔ cs = [.bool x] := ⟨fun h => h.2, fun h => ⟨trivial, h⟩⟩
theorem R_u8 {w : World} {F : FP} {x : UInt8} {cs : List Value} : encU8.R w F x cs ↔ cs = [.int .u8 (x.toNat : Int)] := ⟨fun h => h.2, fun h => ⟨trivial, h⟩⟩
theorem R_slice {e : Enc α} {w : World} {F : FP} {x : List α} {cs : List Value} : (encSlice e).R w F x cs ↔ ∃ v, cs = [v] ∧ Rd e w F v x := Iff.rfl
theorem R_pair {a : Enc α} {b : Enc β} {w : World} {F : FP} {x : α × β} {cs : List Value} : (encPair a b).R w F x cs ↔ ∃ c1 c2, cs = c1 ++ c2 ∧ a.R w F x.1 c1 ∧ b.R w F x.2 c2 := Iff.rfl
theorem R_iso {e : Enc α} {f : β → α} {bytes : Nat} {w : World} {F : FP} {x : β} {cs : List Value} : (encIso e f bytes).R w F x cs ↔ e.R w F (f x) cs := Iff.rfl
end


def encEnt : Enc Ent := encIso (encPair encInt (encPair encInt (encPair encInt (encSlice encU8)))) (fun x => (x.term, x.index, x.kind, x.data)) 48
theorem encEnt_k : encEnt.k = 4 := rfl
theorem encEnt_R {w : World} {F : FP} {x : Ent} {cs : List Value} : encEnt.R w F x cs ↔ ∃ v, cs = [.int .i64 x.term, .int .i64 x.index, .int .i64 x.kind, v] ∧ In64 x.term ∧ In64 x.index ∧ In64 x.kind ∧ Rd encU8 w F v x.data := by
  constructor
  · rintro ⟨_, _, rfl, ⟨h1, rfl⟩, _, _, rfl, ⟨h2, rfl⟩, _, _, rfl, ⟨h3, rfl⟩, v, rfl, h4⟩
    exact ⟨v, rfl, h1, h2, h3, h4⟩
  · rintro ⟨v, rfl, h1, h2, h3, h4⟩
    exact ⟨[_], _, rfl, ⟨h1, rfl⟩, [_], _, rfl, ⟨h2, rfl⟩, [_], _, rfl, ⟨h3, rfl⟩, v, rfl, h4⟩

/-- An entry of a slice, cell by cell, as the walk reads it. -/
theorem ent_at {w : World} {F : FP} {A : Option Addr} {n c : Nat} {xs : List Ent} (h : Rd encEnt w F (.slice A n c) xs) (k : Nat) (hk : k < xs.length) :
    ∃ ad v, A = some ad ∧ w.cell? (ad.add (k * 4)) = some (.int .i64 xs[k].term) ∧ w.cell? ⟨(ad.add (k * 4)).block, (ad.add (k * 4)).off + 1, none⟩ = some (.int .i64 xs[k].index) ∧
      w.cell? ⟨(ad.add (k * 4)).block, (ad.add (k * 4)).off + 2, none⟩ = some (.int .i64 xs[k].kind) ∧ w.cell? ⟨(ad.add (k * 4)).block, (ad.add (k * 4)).off + 3, none⟩ = some v ∧
      In64 xs[k].term ∧ In64 xs[k].index ∧ In64 xs[k].kind ∧ Rd encU8 w F v xs[k].data := by
  obtain ⟨ad, cs, hA, _, _, hR, hc⟩ := h.get k xs[k] (List.getElem?_eq_getElem hk)
  obtain ⟨v, rfl, h1, h2, h3, h4⟩ := encEnt_R.1 hR
  refine ⟨ad, v, hA, hc 0 _ rfl, ?_, ?_, ?_, h1, h2, h3, h4⟩
  · rw [← add_field _ _ 1 (by omega)]; exact hc 1 _ rfl
  · rw [← add_field _ _ 2 (by omega)]; exact hc 2 _ rfl
  · rw [← add_field _ _ 3 (by omega)]; exact hc 3 _ rfl

end Go.HB
namespace Go.Proofs.Ytcmdeaejgldhfaa
open Go.RowKit Go.HB
theorem info5 : (Try.prog.info? 5).map (fun i => (i.zero, i.size, i.bytes)) = some (some (.int .u8 0), 1, 1) := by kernel_rfl
theorem info54 : (Try.prog.info? 54).map (fun i => (i.zero, i.size, i.bytes)) = some (some (.agg #[(.int .i64 0), (.int .i64 0), (.int .i64 0), (.slice none 0 0)]), 4, 48) := by kernel_rfl

set_option maxHeartbeats 400000 in
theorem own3_any (w : World) (F : FP) (x : Ent) (v : Value) (h : Rd encU8 w F v x.data) :
    Calls Try.prog 46 #[.agg #[.int .i64 x.term, .int .i64 x.index, .int .i64 x.kind, v]] w fun e w' =>
      ∃ v', e = .returned (.agg #[.int .i64 x.term, .int .i64 x.index, .int .i64 x.kind, v']) ∧ Rd encU8 w' (geF w.heap.size) v' x.data ∧ Below w.heap.size w w' := by
  obtain ⟨A, c, rfl, hl, hm⟩ := h.slice
  have H := h.arg
  have hb := h.bytes_le
  clear h
  go_enter Try.func46, Try.ntmps46
  go_wp2_with (at_builtin; go_must (refine own_append (w0 := w) encU8 rfl _ _ 52 5 (.int .u8 0) rfl Try.underlying52 info5 rfl none' (ltF w) (.slice (some ⟨_, 0, none⟩) 0 0) (.slice _ _ _) [] x.data x.data x.data.length rfl rfl rfl rfl (Mine.lit0 _ _ _ _ _ ?c1 ?c7) ?c0 (H.at_ ?c2) ?c3 ?c4 ?c5 ?_))
  case c1 => simp; omega
  case c7 => simp
  case c0 => repeat (first | with_reducible exact Below.refl _ _ | with_reducible assumption | with_reducible refine bel_alloc ?_ (Nat.le_refl _) _ | with_reducible refine bel_drew ?_ | with_reducible refine bel_drewN ?_ _ | (with_reducible refine bel_set ?_ ?_ _; · (simp <;> omega)))
  case c2 => repeat (first | with_reducible exact Below.refl _ _ | with_reducible assumption | with_reducible refine bel_alloc ?_ (Nat.le_refl _) _ | with_reducible refine bel_drew ?_ | with_reducible refine bel_drewN ?_ _ | (with_reducible refine bel_set ?_ ?_ _; · (simp <;> omega)))
  case c3 => intro b he hb; have := ltF_lt hb; simp [Value.ownBlock] at he; omega
  case c4 => simpa using hb
  case c5 => simpa [maxLen] using (show x.data.length ≤ maxLen by omega)
  intro A1 c1 w1 HO HB hl1 hm1 hg hat
  have k0 : w1.heap[w.heap.size]? = some (.cells #[_, _, _, _] 54 (0, 0)) := (hg.block w.heap.size (by simp; omega) (by simp [Value.ownBlock]; omega)).trans (by repeat (first | with_reducible assumption | (with_reducible refine heap_new ?_ rfl; (simp; done)) | (with_reducible refine heap_old ?_ ?_; · (simp <;> omega)) | with_reducible refine Go.HB.heap_drew ?_ | with_reducible refine heap_drewN ?_ | (with_reducible apply heap_set; rotate_left; rfl) | (with_reducible refine heap_far ?_ ?_; · (simp <;> omega))))
  have k1 : w1.heap[w.heap.size + 1]? = some (.cells #[_, _, _, _] 54 (0, 0)) := (hg.block (w.heap.size + 1) (by simp) (by simp [Value.ownBlock])).trans (by repeat (first | with_reducible assumption | (with_reducible refine heap_new ?_ rfl; (simp; done)) | (with_reducible refine heap_old ?_ ?_; · (simp <;> omega)) | with_reducible refine Go.HB.heap_drew ?_ | with_reducible refine heap_drewN ?_ | (with_reducible apply heap_set; rotate_left; rfl) | (with_reducible refine heap_far ?_ ?_; · (simp <;> omega))))
  obtain ⟨c00, c01, c02, c03, f0⟩ := blk4 k0
  obtain ⟨c10, c11, c12, c13, f1⟩ := blk4 k1
  go_wp2
  refine ret_cell (w.heap.size + 1) 54 #[.int .i64 x.term, .int .i64 x.index, .int .i64 x.kind, .slice A1 x.data.length c1] rfl rfl Try.underlying54 rfl (by kernel_rfl) rfl ?hh ?_
  case hh => (repeat (first | with_reducible assumption | (with_reducible refine heap_new ?_ rfl; (simp; done)) | (with_reducible refine heap_old ?_ ?_; · (simp <;> omega)) | with_reducible refine Go.HB.heap_drew ?_ | with_reducible refine heap_drewN ?_ | with_reducible apply heap_set | (with_reducible refine heap_far ?_ ?_; · (simp <;> omega)))) <;> rfl
  refine ⟨_, rfl, ?_, ?_⟩
  · have hB : ∀ b, Mine.fp none' (.slice A1 x.data.length c1) b → w.heap.size + 1 < b := by
      rintro b (hb | hb)
      · exact hb.elim
      · rcases hat with hat | hat <;> rw [hat] at hb <;> simp [Value.ownBlock] at hb <;> omega
    refine (Rd.move (HO.flat flat_u8).rd ?_).mono fun b hb => by have := hB b hb; simp [geF]; omega
    repeat (first | with_reducible exact Agree.refl _ _ | (with_reducible refine agree_set (fun h => ?_) ?_ _; · (have := hB _ h; simp at this <;> omega)))
  · repeat (first | with_reducible exact Below.refl _ _ | with_reducible assumption | with_reducible refine bel_alloc ?_ (Nat.le_refl _) _ | with_reducible refine bel_drew ?_ | with_reducible refine bel_drewN ?_ _ | (with_reducible refine bel_set ?_ ?_ _; · (simp <;> omega)))

set_option maxHeartbeats 400000 in
theorem own12_any (w : World) (F : FP) (xs : List Ent) (v : Value) (h : Rd encEnt w F v xs) :
    Calls Try.prog 23 #[v] w fun e w' => ∃ v', e = .returned v' ∧ Rd encEnt w' (geF w.heap.size) v' xs ∧ Below w.heap.size w w' := by
  have hb := h.bytes_le
  have hbn : xs.length ≤ 140737488355328 := by simp only [encEnt, encIso] at hb; omega
  obtain ⟨A, c, rfl, hl, hm⟩ := h.slice
  have H := h.arg
  clear h
  go_enter Try.func23, Try.ntmps23
  go_wp2
  go_loopw [3, 4] (fun out i wr => ∃ (k : Nat) (A1 : Option Addr) (c1 : Nat) (F1 : FP), k ≤ xs.length ∧ i = .int .i64 k ∧ out = .slice A1 k c1 ∧ (∀ b, F1 b → w.heap.size ≤ b) ∧ Mine encEnt 54 wr w.heap.size F1 (.slice A1 k c1) (xs.take k) ∧ Below w.heap.size w wr) (fun _ i _ => xs.length - (intOf i).toNat)
  case atStart => exact ⟨0, none, 0, none', by omega, rfl, rfl, fun b h => h.elim, Mine.nil_ _ _ _ _, Below.refl _ _⟩
  case round =>
    obtain ⟨k, A1, c1, F1, hk, rfl, rfl, hF1, HO, HB⟩ := hrel
    by_cases hlt : k < xs.length
    · obtain ⟨ad, v, rfl, e0, e1, e2, e3, i0, i1, i2, hd⟩ := ent_at (H.at_ HB) k hlt
      have hz : xs.take k ++ [xs[k]] = xs.take (k + 1) := List.take_append_getElem hlt
      have hzn : (xs.take (k + 1)).length = k + 1 := by rw [List.length_take]; omega
      go_wp2_with (first | (go_at_call 46; refine (own3_any wr (ltF w) xs[k] v hd).mono ?_; rintro e w1 ⟨v1, rfl, hr1, hb1⟩) | (at_builtin; go_must (refine own_append (w0 := w) encEnt rfl _ _ 22 54 (.agg #[.int .i64 0, .int .i64 0, .int .i64 0, .slice none 0 0]) rfl Try.underlying22 info54 rfl F1 (geF wr.heap.size) (.slice A1 k c1) (.slice (some ⟨_, 0, none⟩) 1 1) (xs.take k) [xs[k]] _ _ rfl rfl hz hzn ?c0 ?c1 ?c2 ?c3 ?c4 ?c5 ?_)))
      case c0 => exact (HO.below hb1).alloc _
      case c1 => exact bel_alloc (bel_then HB (Nat.le_refl _) hb1) (Nat.le_refl _) _
      case c2 => exact Rd.one_new encEnt w _ _ _ _ _ _ 1 (heap_new rfl rfl) (encEnt_R.2 ⟨v1, rfl, i0, i1, i2, hr1.alloc _⟩) (by simpa [geF] using hb1.size) (Nat.le_refl _) (by simp [maxLen]) (by simp [encEnt, encIso])
      case c3 => intro b he hb'; have := (HO.lt b he).2; simp [geF] at hb'; omega
      case c4 => simp only [encEnt, encIso] at hb ⊢; omega
      case c5 => simp [maxLen]; omega
      intro A2 c2 w2 HO2 HB2 hl2 hm2 _ _
      go_wp2
      go_roundw
      case rel => exact ⟨k + 1, A2, c2, _, by omega, by go_num, rfl, fun b hb => by (rcases hb with hb | hb; · exact hF1 b hb); · have := HB.size; have := hb.1; simp [geF] at this; omega, HO2, HB2⟩
      case measure => simp [intOf]; omega
    · obtain rfl : k = xs.length := by omega
      go_wp2
      go_ret
      rw [List.take_length] at HO
      exact ⟨_, rfl, HO.res hF1, HB⟩
end Go.Proofs.Ytcmdeaejgldhfaa
