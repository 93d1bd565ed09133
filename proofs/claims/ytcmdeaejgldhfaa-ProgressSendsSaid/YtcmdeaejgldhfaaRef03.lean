/-
  The document's reader (hustingsref03.Reader): New, Left, Number, End.
-/
import Derived.Test.YtcmdeaejgldhfaaViews
set_option linter.unusedVariables false
set_option linter.unusedSimpArgs false
namespace Go.HB
/-- The document's reader at block g: what it was given, how far it is, its error; G: where the bytes lie. -/
def RRd (t : TypeId) (w : World) (g : Nat) (b : Bytes) (at_ : Nat) (e : Int) (G : FP) : Prop :=
  ∃ A c, w.heap[g]? = some (.cells #[.slice A b.length c, .int .i64 at_, .int .i64 e] t (0, 0)) ∧ Rd encU8 w G (.slice A b.length c) b ∧ at_ ≤ b.length ∧ ¬ G g
theorem RRd.move {t : TypeId} {w w' : World} {g : Nat} {b : Bytes} {at_ : Nat} {e : Int} {G : FP} (h : RRd t w g b at_ e G) (hF : Agree (fun k => k = g ∨ G k) w w') : RRd t w' g b at_ e G := by
  obtain ⟨A, c, hb, hr, hl, hg⟩ := h
  exact ⟨A, c, (hF g (.inl rfl)).trans hb, hr.move (hF.mono fun k hk => .inr hk), hl, hg⟩
end Go.HB
namespace Go.Proofs.Ytcmdeaejgldhfaa
open Go.RowKit Go.HB Go.Shelf

set_option maxHeartbeats 1000000 in
theorem rleft_any (w : World) (g : Nat) (b : Bytes) (at_ : Nat) (er : Int) (G : FP) (h : RRd 133 w g b at_ er G) :
    Calls Try.prog 91 #[.pointer (some ⟨g, 0, none⟩)] w fun e w' => e = .returned (.int .i64 ((b.length - at_ : Nat) : Int)) ∧ Below w.heap.size w w' := by
  obtain ⟨A, c, hb, hr, hl, hg⟩ := h
  have hby := hr.bytes_le
  simp only [encU8, encOf] at hby
  obtain ⟨c0, c1, c2, hf⟩ := blk3 hb
  have hE : Hid ((b.length : Int) - at_ = ((b.length - at_ : Nat) : Int)) := by show _ = _; omega
  go_enter Try.func91, Try.ntmps91
  go_wp2
  go_quiet (fail)
  go_wp2
  go_ret
  exact ⟨congrArg (fun n => Ending.returned (Value.int .i64 n)) hE.out, bel_drewN (Below.refl _ _) _⟩


set_option maxHeartbeats 1000000 in
theorem rnew_any (w : World) (F : FP) (v : Value) (xs : Bytes) (h : Rd encU8 w F v xs) :
    Calls Try.prog 81 #[v] w fun e w' => ∃ g G, e = .returned (.pointer (some ⟨g, 0, none⟩)) ∧ RRd 133 w' g xs 0 0 G ∧ (∀ b, G b → w.heap.size ≤ b ∧ b < w'.heap.size) ∧ w.heap.size ≤ g ∧ Below w.heap.size w w' := by
  obtain ⟨A, c, rfl, hl, hm⟩ := h.slice
  have H := h.arg
  have hb := h.bytes_le
  clear h
  go_enter Try.func81, Try.ntmps81
  go_wp2_with (at_builtin; go_must (refine own_append (w0 := w) encU8 rfl _ _ 52 5 (.int .u8 0) rfl Try.underlying52 info5 rfl none' (ltF w) (.slice (some ⟨_, 0, none⟩) 0 0) (.slice _ _ _) [] xs xs xs.length rfl rfl rfl rfl (Mine.lit0 _ _ _ _ _ ?c1 ?c7) ?c0 (H.at_ ?c2) ?c3 ?c4 ?c5 ?_))
  case c1 => simp
  case c7 => simp
  case c0 => repeat (first | with_reducible exact Below.refl _ _ | with_reducible assumption | with_reducible refine bel_alloc ?_ (Nat.le_refl _) _ | with_reducible refine bel_drew ?_ | with_reducible refine bel_drewN ?_ _ | (with_reducible refine bel_set ?_ ?_ _; · (simp <;> omega)))
  case c2 => repeat (first | with_reducible exact Below.refl _ _ | with_reducible assumption | with_reducible refine bel_alloc ?_ (Nat.le_refl _) _ | with_reducible refine bel_drew ?_ | with_reducible refine bel_drewN ?_ _ | (with_reducible refine bel_set ?_ ?_ _; · (simp <;> omega)))
  case c3 => intro b he hb; have := ltF_lt hb; simp [Value.ownBlock] at he; omega
  case c4 => simpa using hb
  case c5 => simpa [maxLen] using (show xs.length ≤ maxLen by omega)
  intro A1 c1 w1 HO HB hl1 hm1 hg hat
  go_wp2
  go_ret
  have hr := (HO.flat flat_u8).res (fun b hb => hb.elim)
  refine ⟨w1.heap.size, fun b => geF w.heap.size b ∧ b < w1.heap.size, rfl, ⟨A1, c1, heap_new rfl rfl, ?_, Nat.zero_le _, fun h => by omega⟩, fun b hb => ⟨hb.1, by simp; omega⟩, HB.size, bel_alloc HB (Nat.le_refl _) _⟩
  exact (hr.lt.mono fun b hb => ⟨hb.1, hb.2.lt⟩).alloc _

set_option maxRecDepth 100000 in
set_option maxHeartbeats 2000000 in
theorem rend_any (w : World) (g : Nat) (b : Bytes) (at_ : Nat) (er : Int) (G : FP) (h : RRd 133 w g b at_ er G) :
    Calls Try.prog 83 #[.pointer (some ⟨g, 0, none⟩)] w fun e w' => e = .returned (.int .i64 (if er = 0 ∧ at_ < b.length then 21 else er)) ∧ Below w.heap.size w w' := by
  have h' := h
  obtain ⟨A, c, hb, hr, hl, hg⟩ := h
  have hby := hr.bytes_le
  simp only [encU8, encOf] at hby
  obtain ⟨c0, c1, c2, hf⟩ := blk3 hb
  have hgl := block_lt hb
  by_cases he : er = 0
  · subst he
    by_cases ha : at_ < b.length
    · have hE : (if (0 : Int) = 0 ∧ at_ < b.length then (21 : Int) else 0) = 21 := by simp [ha]
      rw [hE]
      clear hE
      go_enter Try.func83, Try.ntmps83
      go_wp2_with (go_at_call 91; go_must (refine (rleft_any w g b at_ 0 G h').mono ?_); rintro e w1 ⟨rfl, hb1⟩; have d2 := (bel_cell hb1 g hgl 2).trans c2)
      go_ret
      exact ⟨rfl, hb1⟩
    · have hE : (if (0 : Int) = 0 ∧ at_ < b.length then (21 : Int) else 0) = 0 := by simp [ha]
      rw [hE]
      clear hE
      go_enter Try.func83, Try.ntmps83
      go_wp2_with (go_at_call 91; go_must (refine (rleft_any w g b at_ 0 G h').mono ?_); rintro e w1 ⟨rfl, hb1⟩; have d2 := (bel_cell hb1 g hgl 2).trans c2)
      go_ret
      exact ⟨rfl, hb1⟩
  · have hE : (if er = 0 ∧ at_ < b.length then (21 : Int) else er) = er := by simp [he]
    rw [hE]
    clear hE
    go_enter Try.func83, Try.ntmps83
    go_wp2
    go_ret
    exact ⟨rfl, Below.refl _ _⟩
end Go.Proofs.Ytcmdeaejgldhfaa
