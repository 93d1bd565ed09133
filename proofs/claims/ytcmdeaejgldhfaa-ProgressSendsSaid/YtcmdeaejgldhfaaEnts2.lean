/-
  wire: which entries may be; an entry as bytes. entries: rows and views.
-/
import Derived.Test.YtcmdeaejgldhfaaWire3
import Derived.Test.YtcmdeaejgldhfaaPlain3
set_option linter.unusedVariables false
set_option linter.unusedSimpArgs false
namespace Go.HB
open Go.RowKit
theorem Rd.of_block1 {α : Type} {e : Enc α} {W : World} {F : FP} {b n c : Nat} {cs : Array Value} {t : TypeId} {xs : List α} (hk : e.k = 1) (hb : W.heap[b]? = some (.cells cs t (0, 0))) (hn : xs.length = n) (hl : n ≤ c) (hm : c ≤ maxLen) (hby : n * e.bytes ≤ 140737488355328) (hF : F b)
    (h : ∀ (j : Nat) (x : α), xs[j]? = some x → ∃ u : Value, (cs[j]? : Option Value) = some u ∧ e.R W F x [u]) : Rd e W F (.slice (some ⟨b, 0, none⟩) n c) xs := by
  subst hn
  refine ⟨_, c, rfl, hl, hm, hby, fun _ => ⟨_, rfl, hF, ⟨_, _, _, hb⟩, fun j x hx => ?_⟩⟩
  obtain ⟨u, hu, hR⟩ := h j x hx
  refine ⟨[u], hR, fun i v hv => ?_⟩
  obtain ⟨rfl, rfl⟩ : i = 0 ∧ v = u := by
    cases i with
    | zero => simpa using hv.symm
    | succ i => simp at hv
  rw [hk, Nat.mul_one, Nat.add_zero, add_at, Nat.zero_add, cell_of_row W b j cs t (0, 0) hb]
  exact hu
theorem Rd.two {W : World} {F : FP} {b : Nat} {u0 u1 : Value} {t : TypeId} {x0 x1 : Bytes} (hb : W.heap[b]? = some (.cells #[u0, u1] t (0, 0))) (hF : F b) (h0 : Rd encU8 W F u0 x0) (h1 : Rd encU8 W F u1 x1) :
    Rd (encSlice encU8) W F (.slice (some ⟨b, 0, none⟩) 2 2) [x0, x1] :=
  Rd.of_block1 rfl hb rfl (Nat.le_refl _) (by simp [maxLen]) (by simp [encSlice]) hF fun j x hx => by
    match j, hx with
    | 0, hx => obtain rfl : x0 = x := by simpa using hx
               exact ⟨u0, rfl, _, rfl, h0⟩
    | 1, hx => obtain rfl : x1 = x := by simpa using hx
               exact ⟨u1, rfl, _, rfl, h1⟩
    | j + 2, hx => simp at hx
theorem Rd.four {W : World} {F : FP} {b : Nat} {u0 u1 u2 u3 : Value} {t : TypeId} {x0 x1 x2 x3 : Bytes} (hb : W.heap[b]? = some (.cells #[u0, u1, u2, u3] t (0, 0))) (hF : F b) (h0 : Rd encU8 W F u0 x0) (h1 : Rd encU8 W F u1 x1) (h2 : Rd encU8 W F u2 x2) (h3 : Rd encU8 W F u3 x3) :
    Rd (encSlice encU8) W F (.slice (some ⟨b, 0, none⟩) 4 4) [x0, x1, x2, x3] :=
  Rd.of_block1 rfl hb rfl (Nat.le_refl _) (by simp [maxLen]) (by simp [encSlice]) hF fun j x hx => by
    match j, hx with
    | 0, hx => obtain rfl : x0 = x := by simpa using hx
               exact ⟨u0, rfl, _, rfl, h0⟩
    | 1, hx => obtain rfl : x1 = x := by simpa using hx
               exact ⟨u1, rfl, _, rfl, h1⟩
    | 2, hx => obtain rfl : x2 = x := by simpa using hx
               exact ⟨u2, rfl, _, rfl, h2⟩
    | 3, hx => obtain rfl : x3 = x := by simpa using hx
               exact ⟨u3, rfl, _, rfl, h3⟩
    | j + 4, hx => simp at hx
end Go.HB
namespace Go.Proofs.Ytcmdeaejgldhfaa
open Go.RowKit Go.HB Go.Shelf

set_option maxHeartbeats 2000000 in
theorem wright_any (w : World) (F : FP) (x : Ent) (v : Value) (h : Rd encU8 w F v x.data) :
    Calls Try.prog 57 #[.agg #[.int .i64 x.term, .int .i64 x.index, .int .i64 x.kind, v]] w fun e w' => e = .returned (.bool (rightEnt x)) ∧ Below w.heap.size w w' := by
  obtain ⟨A, c, rfl, hl, hm⟩ := h.slice
  have H := h.arg
  clear h
  obtain ⟨ok, hok⟩ : ∃ ok, srvOk x.data = ok := ⟨_, rfl⟩
  have HOK := Lib.hid hok
  obtain ⟨ec, hec⟩ : ∃ ec : Int, (if srvOk x.data then 0 else 21) = ec := ⟨_, rfl⟩
  have HEC := Lib.hid hec
  have HEQ : Hid ((ec == 0) = ok) := by
    show _ = _
    rw [← hec, hok]; cases ok <;> rfl
  clear hok hec
  go_enter Try.func57, Try.ntmps57
  go_wp2_with (go_at_call 73; go_must (refine (getservers_any _ (ltF w) _ x.data (H.at_ ?_)).mono ?_; rotate_left); (rintro e w1 ⟨v1, rfl, _, hb1⟩; rw [HEC.out]); rotate_left; repeat (first | with_reducible exact Below.refl _ _ | with_reducible assumption | with_reducible refine bel_alloc ?_ (Nat.le_refl _) _ | with_reducible refine bel_drew ?_ | with_reducible refine bel_drewN ?_ _ | (with_reducible refine bel_set ?_ ?_ _; · (simp <;> omega))))
  all_goals (go_ret; refine ⟨congrArg (fun b => Ending.returned (Value.bool b)) ?_, ?_⟩; rotate_left)
  all_goals try repeat (first | with_reducible exact Below.refl _ _ | with_reducible assumption | with_reducible refine bel_alloc ?_ (Nat.le_refl _) _ | with_reducible refine bel_drew ?_ | with_reducible refine bel_drewN ?_ _ | (with_reducible refine bel_set ?_ ?_ _; · (simp <;> omega)))
  all_goals try (exact bel_then (bel_alloc (Below.refl _ _) (Nat.le_refl _) _) (Nat.le_refl _) hb1)
  all_goals first
    | exact (rightEnt_false (by omega)).symm
    | exact (rightEnt_k1 (by omega) (by assumption)).symm
    | exact (rightEnt_k2 (by omega) (by assumption) (by assumption)).symm
    | exact (rightEnt_k0 (by assumption) (by assumption) (by assumption)).symm
    | (rw [rightEnt_k3 (by omega) (by assumption) (by assumption) (by assumption), HOK.out, HEQ.out])

theorem info52 : (Try.prog.info? 52).map (fun i => (i.zero, i.size, i.bytes)) = some (some (.slice none 0 0), 1, 24) := by kernel_rfl

set_option maxHeartbeats 400000 in
theorem putbytes_any (w : World) (F : FP) (v : Value) (b : Bytes) (h : Rd encU8 w F v b) (hb : b.length ≤ 1048576) :
    Calls Try.prog 58 #[v] w fun e w' => ∃ v', e = .returned (.tuple #[v', .int .i64 0]) ∧ Rd encU8 w' (geF w.heap.size) v' (numBytes b.length ++ b) ∧ Below w.heap.size w w' := by
  obtain ⟨A, c, rfl, hl, hm⟩ := h.slice
  have H := h.arg
  clear h
  have hnl := numBytes_len (n := (b.length : Int)) (by omega)
  go_enter Try.func58, Try.ntmps58
  go_wp2_with (first | (go_at_call 60; go_must (refine (number_any _ b.length ⟨by omega, by omega⟩).mono ?_); rintro e w1 ⟨v1, rfl, hr1, hb1⟩; obtain ⟨A1, c1, rfl, hl1, hm1⟩ := hr1.slice) | (go_at_call 59; go_must (refine (join_any _ (fun _ => True) _ [numBytes b.length, b] (Rd.two (heap_new rfl rfl) trivial ((hr1.alloc _).mono fun _ _ => trivial) (((H.at_ hb1).alloc _).mono fun _ _ => trivial)) (by simp; omega)).mono ?_); rintro e w2 ⟨v2, rfl, hr2, hb2⟩))
  go_ret2
  refine ⟨_, rfl, ?_, bel_then (bel_alloc hb1 (Nat.le_refl _) _) (Nat.le_refl _) hb2⟩
  have := hr2.mono (F' := geF w.heap.size) fun b hb => by have := hb1.size; simp [geF] at hb ⊢; omega
  simpa using this

set_option maxRecDepth 100000 in
set_option maxHeartbeats 4000000 in
theorem putentry_any (w : World) (F : FP) (x : Ent) (v : Value) (h : Rd encU8 w F v x.data) (hi : In64 x.term ∧ In64 x.index ∧ In64 x.kind) :
    Calls Try.prog 50 #[.agg #[.int .i64 x.term, .int .i64 x.index, .int .i64 x.kind, v]] w fun e w' => ∃ v', e = .returned (.tuple #[v', .int .i64 (if rightEnt x then 0 else 1)]) ∧ Below w.heap.size w w' := by
  obtain ⟨A, c, rfl, hl, hm⟩ := h.slice
  have H := h.arg
  clear h
  cases hr : rightEnt x with
  | false =>
    have HR := Lib.hid hr
    clear hr
    simp only [Bool.false_eq_true, if_false]
    go_enter Try.func50, Try.ntmps50
    go_wp2_with (go_at_call 57; go_must (refine (wright_any _ (ltF w) x _ (H.alloc _)).mono ?_); rintro e w1 ⟨rfl, hb1⟩; rw [HR.out])
    go_ret2
    exact ⟨_, rfl, bel_then (bel_alloc (Below.refl _ _) (Nat.le_refl _) _) (Nat.le_refl _) hb1⟩
  | true =>
    have hlen := rightEnt_len hr
    have HR := Lib.hid hr
    clear hr
    simp only [if_true]
    obtain ⟨Y, hY⟩ : ∃ Y : Bytes, numBytes x.data.length ++ x.data = Y := ⟨_, rfl⟩
    have hJ : ([numBytes x.term, numBytes x.index, numBytes x.kind, Y] : List Bytes).flatten.length ≤ 140737488355328 := by
      have n0 := numBytes_len (n := x.term) (by have := hi.1; unfold In64 at this; omega)
      have n1 := numBytes_len (n := x.index) (by have := hi.2.1; unfold In64 at this; omega)
      have n2 := numBytes_len (n := x.kind) (by have := hi.2.2; unfold In64 at this; omega)
      have n3 := numBytes_len (n := (x.data.length : Int)) (by omega)
      subst hY
      simp; omega
    have HJ := Lib.hid hJ
    have HY := Lib.hid hY
    clear hJ hY
    go_enter Try.func50, Try.ntmps50
    go_wp2_with (first | (go_at_call 57; go_must (refine (wright_any _ (ltF w) x _ (H.alloc _)).mono ?_); rintro e w1 ⟨rfl, hb1⟩; rw [HR.out]; obtain ⟨c0, c1, c2, c3, hf⟩ := blk4 ((hb1.block w.heap.size (by simp)).trans (heap_new rfl rfl)); have HB1 := bel_then (bel_alloc (Below.refl _ _) (Nat.le_refl _) _) (Nat.le_refl _) hb1; have HS : w.heap.size < w1.heap.size := (by have := hb1.size; simp at this; omega)) | (go_at_call 58; go_must (refine (putbytes_any _ (ltF w) _ x.data (H.at_ HB1) (by omega)).mono ?_); rintro e w2 ⟨v2, rfl, hr2, hb2⟩; rw [HY.out] at hr2; obtain ⟨A2, k2, rfl, hl2, hm2⟩ := hr2.slice))
    clear H HR hm hl
    replace hr2 := (hr2.mono (F' := fun _ => True) fun _ _ => trivial).drew
    have d0 := (bel_cell hb2 w.heap.size HS 0).trans c0
    have d1 := (bel_cell hb2 w.heap.size HS 1).trans c1
    have d2 := (bel_cell hb2 w.heap.size HS 2).trans c2
    have HB2 := bel_drew (bel_then HB1 (Nat.le_refl _) hb2)
    have HS2 : w.heap.size < w2.drew.heap.size := Nat.lt_of_lt_of_le HS hb2.size
    clear c0 c1 c2 c3 hf hb2 HB1 HS
    go_region_held3 (fun w' => w'.cell? ⟨w.heap.size, 0, none⟩ = some (.int .i64 x.term) ∧ w'.cell? ⟨w.heap.size, 1, none⟩ = some (.int .i64 x.index) ∧ w'.cell? ⟨w.heap.size, 2, none⟩ = some (.int .i64 x.kind))
      (first
        | go_keep
        | (go_split_ands
           refine ⟨?_, ?_, ?_⟩ <;> (refine (bel_cell hbn w.heap.size ?_ _).trans ?_; (first | exact HSo | (simp only [World.size_alloc]; omega) | (simp; omega)); assumption)))
      (first
        | (go_at_call 60; with_reducible refine (number_any _ x.term hi.1).mono ?_; rintro e w3 ⟨v3, rfl, hr3, hbn⟩; obtain ⟨A3, k3, rfl, hl3, hm3⟩ := hr3.slice; replace hr3 := hr3.mono (F' := fun _ => True) fun _ _ => trivial; replace hr2 := hr2.below hbn; (try replace hr4 := hr4.below hbn); (try replace hr5 := hr5.below hbn); have HSo := HS2; replace HS2 := Nat.lt_of_lt_of_le HS2 hbn.size; replace HB2 := bel_then HB2 (Nat.le_refl _) hbn)
        | (go_at_call 60; with_reducible refine (number_any _ x.index hi.2.1).mono ?_; rintro e w4 ⟨v4, rfl, hr4, hbn⟩; obtain ⟨A4, k4, rfl, hl4, hm4⟩ := hr4.slice; replace hr4 := hr4.mono (F' := fun _ => True) fun _ _ => trivial; replace hr2 := hr2.below hbn; (try replace hr3 := hr3.below hbn); (try replace hr5 := hr5.below hbn); have HSo := HS2; replace HS2 := Nat.lt_of_lt_of_le HS2 hbn.size; replace HB2 := bel_then HB2 (Nat.le_refl _) hbn)
        | (go_at_call 60; with_reducible refine (number_any _ x.kind hi.2.2).mono ?_; rintro e w5 ⟨v5, rfl, hr5, hbn⟩; obtain ⟨A5, k5, rfl, hl5, hm5⟩ := hr5.slice; replace hr5 := hr5.mono (F' := fun _ => True) fun _ _ => trivial; replace hr2 := hr2.below hbn; (try replace hr4 := hr4.below hbn); (try replace hr3 := hr3.below hbn); have HSo := HS2; replace HS2 := Nat.lt_of_lt_of_le HS2 hbn.size; replace HB2 := bel_then HB2 (Nat.le_refl _) hbn)
        | (go_at_call 59; go_must (refine (join_any _ (fun _ => True) _ [numBytes x.term, numBytes x.index, numBytes x.kind, Y] (Rd.four (heap_new rfl rfl) trivial (hr3.alloc _) (hr4.alloc _) (hr5.alloc _) (hr2.alloc _)) HJ.out).mono ?_); rintro e w6 ⟨v6, rfl, hr6, hbn⟩))
    all_goals (go_wp2; go_ret2; exact ⟨_, rfl, bel_then (bel_alloc HB2 (Nat.le_refl _) _) (Nat.le_refl _) hbn⟩)
end Go.Proofs.Ytcmdeaejgldhfaa
