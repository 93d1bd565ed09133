/-
  A range over a function whose elements hold memory: what is given with an element is known of it in the world in which it comes ('V'). No program stands here.
-/
import Derived.Test.YtcmdeaejgldhfaaIter
set_option linter.unusedVariables false
set_option linter.unusedSimpArgs false
namespace Go.HB
open Go.RowKit
/-- The loop's record and the block for the rounds' deferred calls, side by side. -/
def Book (r : Loop) (B : Nat) (W : World) : Prop := W.heap[B + 1]? = some (.loop r) ∧ W.heap[B]? = some (.deferred (some []))
theorem Book.kept {r : Loop} {B : Nat} {W W' : World} (h : Book r B W) (k : KeepsFrom B W W') : Book r B W' := ⟨k.same _ _ (by omega) h.1 rfl, k.same _ _ (Nat.le_refl _) h.2 rfl⟩
theorem Book.grown {r : Loop} {B : Nat} {W W' : World} {row : Option Nat} (h : Book r B W) (hg : W.grownBy W' row) (hr : ∀ q, row = some q → ∃ o : Obj, W.heap[q]? = some o ∧ o.isWalk = true) : Book r B W' :=
  ⟨(grownBy_keeps hg hr h.1 rfl).trans h.1, (grownBy_keeps hg hr h.2 rfl).trans h.2⟩
theorem Book.put {r : Loop} {B : Nat} {W : World} (h : Book r B W) (r' : Loop) : Book r' B (W.putObj (B + 1) (.loop r')) := ⟨World.putObj_heap_same (block_lt h.1), (World.putObj_heap_other (by omega)).trans h.2⟩
theorem Book.laid (r : Loop) (w : World) : Book r w.heap.size ((w.alloc (.deferred (some []))).alloc (.loop r)) :=
  ⟨heap_new (by simp) rfl, heap_old (by simp) (heap_new rfl rfl)⟩
theorem own_book {β : Type} {B : Nat} {I : β → World → Prop} (h : OwnFrom B I) {s : β} {W : World} {r : Loop} (r' : Loop) (hs : I s W) (hb : Book r B W) : I s (W.putObj (B + 1) (.loop r')) :=
  h.putObj _ hs (by omega) hb.1 rfl

variable {α : Type} {F : Fence} {n : Nat} {P : Program}
/-- The contract of an iterator: each element comes with V in the world in which it comes. -/
def SeqV (F : Fence) (n : Nat) (P : Program) (g : Nat) (lb : Array Value) (encs : α → Array Value) (Kp : World → World → Prop) (V : α → World → Prop) (S Sp : List α → Prop) (w : World) : Prop :=
  ∀ (l : Nat) (J Jx : List α → World → Prop) (W : World), Below w.heap.size w W → AbidesFrom W.heap.size J → AbidesFrom W.heap.size Jx →
    (∀ pre x W1, J pre W1 → V x W1 → YieldAt F (n - 1) P l (encs x) W1 fun e W' => (e = .returned (.bool true) ∧ J (pre ++ [x]) W' ∧ Kp W1 W') ∨ (e = .returned (.bool false) ∧ Jx (pre ++ [x]) W')) →
    J [] W → CallsIn F n P g (#[.func (.yield l) #[] #[]] ++ lb) W fun e W' => (∃ v, e = .returned v) ∧ ((∃ xs, S xs ∧ J xs W') ∨ (∃ pre, Sp pre ∧ Jx pre W'))

def rec0 (fn : FuncId) (tmps : Array Value) (ps : Array Tmp) (assign body : Code) (B : Nat) (s : LoopState) (p : Option Code) : Loop := { state := s, pending := p, fn, tmps, params := ps, assign, body, defers := B }

section
variable {fn : FuncId} {tmps : Array Value} {ps : Array Tmp} {assign body : Code} {B : Nat} {args : Array Value} {V0 : World → Prop} {Kp : World → World → Prop} {J0 J1 : World → Prop} {Jx : Code → World → Prop} {A : Act → World → Prop}
/-- How a round may be left. -/
def leftBy (B : Nat) (Kp : World → World → Prop) (J1 : World → Prop) (Jx : Code → World → Prop) (W : World) : Exit → Act → World → Prop
  | .normal, _, W' => KeepsFrom B W W' ∧ Kp W W' ∧ J1 W'
  | .ret, _, W' => KeepsFrom B W W' ∧ Jx .ret W'
  | .exit id, _, W' => KeepsFrom B W W' ∧ Jx (.exit id) W'
  | .goto t, _, W' => KeepsFrom B W W' ∧ Jx (.goto t) W'
  | .panic _, _, _ => False
  | .outgrown, _, _ => False
/-- One call of yield. -/
theorem yield_round (hfn : F.fn fn) (hps : args.size = ps.size) (hKt : ∀ {A B C : World}, Kp A B → Kp B C → Kp A C)
    (hKb : ∀ (W : World) (r r' : Loop), Book r B W → Kp W (W.putObj (B + 1) (.loop r')))
    (hJ0 : OwnFrom B (fun (_ : Unit) W => J0 W)) (hA : ∀ a, OwnFrom B (fun (_ : Unit) W => A a W)) (hJ1 : OwnFrom B (fun (_ : Unit) W => J1 W)) (hJx : ∀ c, OwnFrom B (fun (_ : Unit) W => Jx c W))
    (W : World) (hb : Book (rec0 fn tmps ps assign body B .ready none) B W)
    (hassign : ∀ K : Act → World → Prop, (∀ a' W', KeepsFrom B W W' → Kp W W' → J0 W' → A a' W' → K a' W') →
      assign.wpIn (F.inRound (B + 1)) n P (Exit.then K (fun _ _ _ => False)) { tmps := (ps.zip args).foldl (fun t (p, v) => t.setIfInBounds p v) tmps, defers := [] } W)
    (hbody : ∀ a' W', J0 W' → A a' W' → body.wpIn (F.inRound (B + 1)) n P (leftBy B Kp J1 Jx W') a' W') :
    YieldAt F n P (B + 1) args W fun e W' => (e = .returned (.bool true) ∧ (J1 W' ∧ Book (rec0 fn tmps ps assign body B .ready none) B W') ∧ Kp W W') ∨
      (e = .returned (.bool false) ∧ ∃ c, Jx c W' ∧ Book (rec0 fn tmps ps assign body B .done (some c)) B W') := by
  refine ⟨fn, _, assign, body, run_yield hb.1 hps, roundIn_of_wpIn hfn (hassign _ fun a' Wa hk hkp hj ha => ?_)⟩
  have hba := hb.kept hk
  refine ⟨_, run_beginRound hba.1 rfl, ?_⟩
  have hbb := hba.put (rec0 fn tmps ps assign body B .busy none)
  have hkb := hKb Wa _ (rec0 fn tmps ps assign body B .busy none) hba
  refine wpIn_mono (hbody a' _ (own_book hJ0 (s := ()) _ hj hba) (own_book (hA a') (s := ()) _ ha hba)) ?_
  rintro e a3 W3 hp
  cases e with
  | normal =>
    obtain ⟨h1, h2, h3⟩ := hp
    have h4 := hbb.kept h1
    exact ⟨_, _, run_endRound none h4.1, .inl ⟨rfl, ⟨own_book hJ1 (s := ()) _ h3 h4, h4.put _⟩, hKt hkp (hKt (hKt hkb h2) (hKb _ _ _ h4))⟩⟩
  | ret =>
    obtain ⟨h1, h3⟩ := hp
    have h4 := hbb.kept h1
    exact ⟨_, _, run_endRound (some .ret) h4.1, .inr ⟨rfl, .ret, own_book (hJx _) (s := ()) _ h3 h4, h4.put _⟩⟩
  | exit id =>
    obtain ⟨h1, h3⟩ := hp
    have h4 := hbb.kept h1
    exact ⟨_, _, run_endRound (some (.exit id)) h4.1, .inr ⟨rfl, .exit id, own_book (hJx _) (s := ()) _ h3 h4, h4.put _⟩⟩
  | goto t =>
    obtain ⟨h1, h3⟩ := hp
    have h4 := hbb.kept h1
    exact ⟨_, _, run_endRound (some (.goto t)) h4.1, .inr ⟨rfl, .goto t, own_book (hJx _) (s := ()) _ h3 h4, h4.put _⟩⟩
  | panic ch => exact hp.elim
  | outgrown => exact hp.elim
end

/-- The statement 'for x := range seq { .. }', outermost. -/
theorem range_V {g : Operand} {ps : Array Tmp} {assign body : Code} {Q : Exit → Act → World → Prop} {a : Act} {w : World}
    (hro : F.round = none) (h1 : 1 ≤ n) {gf : Nat} {lb : Array Value} (hg : a.eval g = .func (.func gf) #[] lb) (hFg : F.fn gf) (eg : ∀ args w, (callFunc gf args).run P w = .ok (.enter gf args) w)
    {encs : α → Array Value} {Kp : World → World → Prop} {V : α → World → Prop} {S Sp : List α → Prop} {w0 : World} (hseq : SeqV F (n - 1) P gf lb encs Kp V S Sp w0)
    (hKt : ∀ {A B C : World}, Kp A B → Kp B C → Kp A C) (hKb : ∀ (W : World) (r r' : Loop), Book r w.heap.size W → Kp W (W.putObj (w.heap.size + 1) (.loop r'))) (hb0 : Below w0.heap.size w0 w) (hps : ∀ x, (encs x).size = ps.size)
    (I : List α → World → Prop) (Ix : Code → List α → World → Prop) (hI : OwnFrom w.heap.size I) (hIx : ∀ c, OwnFrom w.heap.size (Ix c)) (h0 : I [] w)
    (A : List α → α → Act → World → Prop) (hA : ∀ pre x a', OwnFrom w.heap.size (fun (_ : Unit) W => A pre x a' W))
    (hassign : ∀ (l : Nat) (pre : List α) (x : α) (W : World), I pre W → V x W → ∀ K : Act → World → Prop, (∀ a' W', KeepsFrom w.heap.size W W' → Kp W W' → A pre x a' W' → K a' W') →
      assign.wpIn (F.inRound l) (n - 1 - 1) P (Exit.then K (fun _ _ _ => False)) { tmps := (ps.zip (encs x)).foldl (fun t (p, v) => t.setIfInBounds p v) a.tmps, defers := [] } W)
    (hbody : ∀ (l : Nat) (pre : List α) (x : α) (a' : Act) (W : World), A pre x a' W → body.wpIn (F.inRound l) (n - 1 - 1) P (leftBy w.heap.size Kp (I (pre ++ [x])) (fun c => Ix c (pre ++ [x])) W) a' W)
    (hdone : ∀ (D : Nat) (xs : List α) (W : World), w.heap.size ≤ D → S xs → I xs W → W.heap[D]? = some (.deferred (some [])) → Q .normal { a with defers := { target := .collected D, args := #[] } :: a.defers } W)
    (hstop : ∀ (D : Nat) (c : Code) (pre : List α) (W : World), w.heap.size ≤ D → Sp pre → Ix c pre W → W.heap[D]? = some (.deferred (some [])) → c.wpIn F n P Q { a with defers := { target := .collected D, args := #[] } :: a.defers } W) :
    (Code.rangeFunc g ps assign body).wpIn F n P Q a w := by
  refine wpIn_rangeFunc fun fn hfn => ?_
  obtain ⟨W1, hW1⟩ : ∃ W1, (w.alloc (.deferred (some []))).alloc (.loop (rec0 fn a.tmps ps assign body w.heap.size .ready none)) = W1 := ⟨_, rfl⟩
  have hL : Book (rec0 fn a.tmps ps assign body w.heap.size .ready none) w.heap.size W1 := hW1 ▸ Book.laid _ w
  have hI1 : I [] W1 := hW1 ▸ hI.alloc _ (hI.alloc _ h0)
  have hB1 : Below w0.heap.size w0 W1 := hW1 ▸ bel_alloc (bel_alloc hb0 (Nat.le_refl _) _) (Nat.le_refl _) _
  have hsz : w.heap.size ≤ W1.heap.size := by rw [← hW1]; simp; omega
  refine ⟨w.heap.size + 1, [{ target := .collected w.heap.size, args := #[] }], W1, { target := .fn (.func gf) lb, args := #[.func (.yield (w.heap.size + 1)) #[] #[]] }, W1, gf, #[.func (.yield (w.heap.size + 1)) #[] #[]] ++ lb, W1, ?_, ?_, ?_, ?_, fun _ => h1, ?_⟩
  · rw [hro, ← hW1]; exact run_enterLoop_outer _ _ _ _ _
  · simp only [resolve, hg]; simp [go_sem]
  · intro f' h
    simp [Target.leads] at h
    subst h; exact hFg
  · simp [invoke, go_sem, eg]
  have cells : ∀ {X : World} {row : Option Nat}, (∀ r, row = some r → W1.heap.size ≤ r ∧ ∃ o : Obj, X.heap[r]? = some o ∧ o.isWalk = true) → ∀ r, row = some r → w.heap.size ≤ r ∧ ∃ o : Obj, X.heap[r]? = some o ∧ o.isCells = false := fun h r e => by
    obtain ⟨h2, o, ho, hw⟩ := h r e
    exact ⟨Nat.le_trans hsz h2, o, ho, Obj.not_cells_of_walk hw⟩
  refine (hseq (w.heap.size + 1) (fun pre W => I pre W ∧ Book (rec0 fn a.tmps ps assign body w.heap.size .ready none) w.heap.size W)
    (fun pre W => ∃ c, Ix c pre W ∧ Book (rec0 fn a.tmps ps assign body w.heap.size .done (some c)) w.heap.size W) W1 hB1
    (fun s X Y row hs hg' hr => ⟨hI s X Y row hs.1 hg' (cells hr), hs.2.grown hg' fun q e => (hr q e).2⟩)
    (fun s X Y row hs hg' hr => by obtain ⟨c, h3, h4⟩ := hs; exact ⟨c, hIx c s X Y row h3 hg' (cells hr), h4.grown hg' fun q e => (hr q e).2⟩)
    (fun pre x W hj hv => ?_) ⟨hI1, hL⟩).mono ?_
  · refine (yield_round (Kp := Kp) (J0 := fun W => ∃ a', A pre x a' W) (J1 := I (pre ++ [x])) (Jx := fun c => Ix c (pre ++ [x])) (A := fun a' W => A pre x a' W) hfn (hps x) (fun h k => hKt h k) hKb ?_ (fun a' => hA pre x a') (fun s X Y row hs => hI _ X Y row hs) (fun c s X Y row hs => hIx c _ X Y row hs) W hj.2
      (fun K hK => hassign _ pre x W hj.1 hv K fun a' W' k1 k2 k3 => hK a' W' k1 k2 ⟨a', k3⟩ k3) (fun a' W' _ ha => hbody _ pre x a' W' ha))
    rintro s X Y row ⟨a', hs⟩ hg' hr
    exact ⟨a', hA pre x a' () X Y row hs hg' hr⟩
  · rintro e W2 ⟨⟨v, rfl⟩, (⟨xs, hS, hi, hb⟩ | ⟨pre, hSp, c, hi, hb⟩)⟩
    · have hd := hb.put (rec0 fn a.tmps ps assign body w.heap.size .exhausted none)
      exact ⟨none, _, run_endLoop hb.1 (by simp [rec0]), hdone _ xs _ (Nat.le_refl _) hS (own_book hI _ hi hb) hd.2⟩
    · have hd := hb.put (rec0 fn a.tmps ps assign body w.heap.size .exhausted (some c))
      exact ⟨some c, _, run_endLoop hb.1 (by simp [rec0]), hstop _ c pre _ (Nat.le_refl _) hSp (own_book (hIx c) _ hi hb) hd.2⟩
/-- What the law itself does between assignment and body, and behind it: cells stay, and so does all below B. -/
structure CK (B : Nat) (W W' : World) : Prop where
  os : W'.os = W.os
  tape : W'.tape = W.tape
  output : W'.output = W.output
  size : W.heap.size ≤ W'.heap.size
  cell : ∀ (b : Nat) (cs : Array Value) (t : TypeId) (fr : Nat × Nat), W.heap[b]? = some (Obj.cells cs t fr) → W'.heap[b]? = some (Obj.cells cs t fr)
  low : ∀ b : Nat, b < B → b < W.heap.size → W'.heap[b]? = W.heap[b]?
theorem CK.refl (B : Nat) (W : World) : CK B W W := ⟨rfl, rfl, rfl, Nat.le_refl _, fun _ _ _ _ h => h, fun _ _ _ => rfl⟩
theorem CK.trans {B : Nat} {X Y Z : World} (h : CK B X Y) (k : CK B Y Z) : CK B X Z :=
  ⟨k.os.trans h.os, k.tape.trans h.tape, k.output.trans h.output, Nat.le_trans h.size k.size, fun b cs t fr hb => k.cell b cs t fr (h.cell b cs t fr hb), fun b hb hl => (k.low b hb (Nat.lt_of_lt_of_le hl h.size)).trans (h.low b hb hl)⟩
theorem CK.of_grownBy {B : Nat} {W W' : World} {row : Option Nat} (hg : W.grownBy W' row) (hr : ∀ r, row = some r → B ≤ r ∧ ∃ o : Obj, W.heap[r]? = some o ∧ o.isCells = false) : CK B W W' :=
  ⟨hg.os, hg.tape, hg.output, hg.size, fun b cs t fr hb => (hg.block b (block_lt hb) (fun e => by
      obtain ⟨_, o, ho, hc⟩ := hr b e.symm
      rw [hb] at ho; injection ho with ho; subst ho; cases hc)).trans hb,
    fun b hb hl => hg.block b hl (fun e => by have := (hr b e.symm).1; omega)⟩
theorem CK.below {B n₀ : Nat} {w W W' : World} (k : CK B W W') (h : Below n₀ w W) (hn : n₀ ≤ B) (hw : n₀ ≤ w.heap.size) : Below n₀ w W' :=
  ⟨k.os.trans h.os, k.tape.trans h.tape, k.output.trans h.output, Nat.le_trans h.size k.size, fun b hb => (k.low b (by omega) (Nat.lt_of_lt_of_le (by omega : b < w.heap.size) h.size)).trans (h.block b hb)⟩
theorem CK.agree {B : Nat} {W W' : World} (k : CK B W W') {F : FP} (hF : ∀ b, F b → CellAt W b) : Agree F W W' := fun b hb => by
  obtain ⟨cs, t, fr, h⟩ := hF b hb
  rw [h]; exact k.cell b cs t fr h
theorem ownFrom_of_CK {β : Type} {B : Nat} {I : β → World → Prop} (h : ∀ s W W', I s W → CK B W W' → I s W') : OwnFrom B I := fun s W W' row hs hg hr => h s W W' hs (CK.of_grownBy hg hr)

/-- The same, the round walked whole: the assignment, then the body from wherever the law leaves it. -/
theorem range_V2 {g : Operand} {ps : Array Tmp} {assign body : Code} {Q : Exit → Act → World → Prop} {a : Act} {w : World}
    (hro : F.round = none) (h1 : 1 ≤ n) {gf : Nat} {lb : Array Value} (hg : a.eval g = .func (.func gf) #[] lb) (hFg : F.fn gf) (eg : ∀ args w, (callFunc gf args).run P w = .ok (.enter gf args) w)
    {encs : α → Array Value} {Kp : World → World → Prop} {V : α → World → Prop} {S Sp : List α → Prop} {w0 : World} (hseq : SeqV F (n - 1) P gf lb encs Kp V S Sp w0)
    (hKt : ∀ {A B C : World}, Kp A B → Kp B C → Kp A C) (hKb : ∀ W W' : World, W.heap.size ≤ W'.heap.size → CK w.heap.size W W' → w.heap.size ≤ W.heap.size → Kp W W') (hb0 : Below w0.heap.size w0 w) (hps : ∀ x, (encs x).size = ps.size)
    (I : List α → World → Prop) (Ix : Code → List α → World → Prop) (hI : ∀ s W W', I s W → CK w.heap.size W W' → I s W') (hIx : ∀ c s W W', Ix c s W → CK w.heap.size W W' → Ix c s W') (h0 : I [] w)
    (hround : ∀ (l : Nat) (pre : List α) (x : α) (W : World), I pre W → V x W → ∀ K : Act → World → Prop,
      (∀ a' W', KeepsFrom w.heap.size W W' → Kp W W' → (∀ l' W'', CK w.heap.size W' W'' → body.wpIn (F.inRound l') (n - 1 - 1) P (leftBy w.heap.size Kp (I (pre ++ [x])) (fun c => Ix c (pre ++ [x])) W'') a' W'') → K a' W') →
      assign.wpIn (F.inRound l) (n - 1 - 1) P (Exit.then K (fun _ _ _ => False)) { tmps := (ps.zip (encs x)).foldl (fun t (p, v) => t.setIfInBounds p v) a.tmps, defers := [] } W)
    (hdone : ∀ (D : Nat) (xs : List α) (W : World), w.heap.size ≤ D → S xs → I xs W → W.heap[D]? = some (.deferred (some [])) → Q .normal { a with defers := { target := .collected D, args := #[] } :: a.defers } W)
    (hstop : ∀ (D : Nat) (c : Code) (pre : List α) (W : World), w.heap.size ≤ D → Sp pre → Ix c pre W → W.heap[D]? = some (.deferred (some [])) → c.wpIn F n P Q { a with defers := { target := .collected D, args := #[] } :: a.defers } W) :
    (Code.rangeFunc g ps assign body).wpIn F n P Q a w := by
  refine range_V (Kp := Kp) hro h1 hg hFg eg hseq (fun h k => hKt h k) (fun W r r' hb => hKb _ _ (by simp) (CK.of_grownBy (grownBy_putObj' W _ _) fun q e => by cases e; exact ⟨by omega, _, hb.1, rfl⟩) (by have := block_lt hb.1; omega)) hb0 hps I Ix (ownFrom_of_CK hI) (fun c => ownFrom_of_CK (hIx c)) h0
    (fun pre x a' W => ∀ l W'', CK w.heap.size W W'' → body.wpIn (F.inRound l) (n - 1 - 1) P (leftBy w.heap.size Kp (I (pre ++ [x])) (fun c => Ix c (pre ++ [x])) W'') a' W'')
    (fun pre x a' => ownFrom_of_CK fun _ W W' h k l W'' k2 => h l W'' (k.trans k2)) ?_ ?_ hdone hstop
  · intro l pre x W hi hv K hK
    refine hround l pre x W hi hv K fun a' W' k1 k2 k3 => hK a' W' k1 k2 fun l' W'' hc => k3 l' W'' hc
  · intro l pre x a' W h
    exact h l W (CK.refl _ _)
/-- append onto a row of the call's own, inside a fence. -/
theorem own_append_in {β : Type} {ops : Array Oper} {rest : List Oper} {o : Oper} {a : Act} {Q : Exit → Act → World → Prop} {w0 W : World} (enc : Enc β) (hgd : o.guard = none) (s x : Operand) (t e : TypeId) (z : Value)
    (ho : o.op = .call { callee := .builtin .append, args := #[s, x], argTypes := #[t, t] })
    (ht : P.underlying t = some (.slice e)) (hinfo : (P.info? e).map (fun i => (i.zero, i.size, i.bytes)) = some (some z, enc.k, enc.bytes)) (hz : z.cells.size = enc.k)
    (Fx Fy : FP) (v vy : Value) (xs ys zs : List β) (m : Nat) (hs : a.eval s = v) (hx : a.eval x = vy) (hzs : xs ++ ys = zs) (hzn : zs.length = m)
    (HO : Mine enc e W w0.heap.size Fx v xs) (HB : Below w0.heap.size w0 W) (HY : Rd enc W Fy vy ys) (hF : ∀ b, v.ownBlock = some b → ¬ Fy b) (hl : m * enc.bytes ≤ 140737488355328)
    (hn : m ≤ maxLen)
    (h : ∀ A1 c1 w1, Mine enc e w1 w0.heap.size (fun b => Fx b ∨ Fy b ∧ CellAt W b) (.slice A1 m c1) zs → Below w0.heap.size w0 w1 → m ≤ c1 → c1 ≤ maxLen → W.grownBy w1 v.ownBlock → ((Value.slice A1 m c1).ownBlock = v.ownBlock ∨ (Value.slice A1 m c1).ownBlock = some W.heap.size) →
      wpListIn F n P ops Q rest (a.put o.dst (.slice A1 m c1)) w1) :
    wpListIn F n P ops Q (o :: rest) a W := by
  subst hzn
  subst hzs
  rw [List.length_append] at hl hn
  obtain ⟨v1, w1, hr, HO1, hg, hat⟩ := own_append_run (P := P) enc t o.type e z ht hinfo hz w0.heap.size Fx Fy v vy xs ys HO HY (fun b hb he => hF b he hb) HB.size hl hn
  obtain ⟨A1, c1, rfl, h1, h2⟩ := HO1.slice
  refine wpListIn_plain hgd fun K hK => ?_
  unfold Oper.wpIn
  refine ⟨by simp [Oper.about, ho, resolve, Target.leads, Sem.run_pure], ?_⟩
  rw [Oper.semAt_plain F _ _ (by rw [ho]; intro c hc; cases hc)]
  simp [execOp, ho, resolve, invoke, builtin, hs, hx, hr, Result.andThen]
  have := h A1 c1 w1 HO1 (HB.grown hg HB.size fun k hk => (HO.lt k hk).1) h1 h2 hg hat
  rw [List.length_append] at this
  exact hK _ _ this
end Go.HB
