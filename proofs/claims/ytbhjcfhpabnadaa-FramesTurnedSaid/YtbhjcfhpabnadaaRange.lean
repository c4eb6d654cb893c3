/-
  A range over a function whose iterator makes memory between two rounds: what the body is handed stands in the world. A law of my own over the kit's step laws. No program in sight.
-/
import Derived.Test.YtbhjcfhpabnadaaMore
import Derived.RangeFuncBox
import Derived.RangeFuncCalls
import Derived.RangeFuncLeaves
namespace Go.Proofs.Ytbhjcfhpabnadaa
open Go.RowKit

/-- Cells, and whatever lies below B, lie as they lay. -/
structure Sm (B : Nat) (W W' : World) : Prop where
  os : W'.os = W.os
  tape : W'.tape = W.tape
  output : W'.output = W.output
  size : W.heap.size ≤ W'.heap.size
  same : ∀ k o, W.heap[k]? = some o → (k < B ∨ o.isCells = true) → W'.heap[k]? = some o

/-- The blocks that M names lie as they lay. -/
structure Kp (M : Nat → Prop) (W W' : World) : Prop where
  os : W'.os = W.os
  tape : W'.tape = W.tape
  output : W'.output = W.output
  size : W.heap.size ≤ W'.heap.size
  block : ∀ k, M k → k < W.heap.size → W'.heap[k]? = W.heap[k]?

section
variable {B : Nat} {W W' W'' : World}
theorem Sm.refl (B : Nat) (W : World) : Sm B W W := ⟨rfl, rfl, rfl, Nat.le_refl _, fun _ _ h _ => h⟩
theorem Sm.trans (h : Sm B W W') (k : Sm B W' W'') : Sm B W W'' :=
  ⟨k.os.trans h.os, k.tape.trans h.tape, k.output.trans h.output, Nat.le_trans h.size k.size, fun i o hi ho => k.same i o (h.same i o hi ho) ho⟩
theorem Sm.of_below (h : Below W.heap.size W W') : Sm B W W' := ⟨h.os, h.tape, h.output, h.size, fun k _ hk _ => (h.block k (Array.getElem?_eq_some_iff.1 hk).1).trans hk⟩
theorem Sm.alloc (W : World) (o : Obj) : Sm B W (W.alloc o) := .of_below ((Below.refl _ _).alloc (Nat.le_refl _) _)
theorem Sm.put {B : Nat} {W : World} {l : Nat} {o : Obj} (hl : W.heap[l]? = some o) (ho : o.isCells = false) (hB : B ≤ l) (o' : Obj) : Sm B W (W.putObj l o') := by
  refine ⟨rfl, rfl, rfl, by simp, fun k u hk hc => ?_⟩
  rw [World.putObj_heap_other]
  · exact hk
  · rintro rfl
    rw [hl] at hk
    cases hk
    rcases hc with hc | hc
    · omega
    · rw [ho] at hc
      cases hc
theorem Sm.below {n : Nat} {w : World} (h : Sm B W W') (hb : Below n w W) (hn : n ≤ B) (hw : n ≤ W.heap.size) : Below n w W' :=
  ⟨h.os.trans hb.os, h.tape.trans hb.tape, h.output.trans hb.output, Nat.le_trans hb.size h.size, fun k hk => by
    rw [← hb.block k hk]
    have hlt : k < W.heap.size := by omega
    rw [Array.getElem?_eq_getElem hlt]
    exact h.same k _ (Array.getElem?_eq_getElem hlt) (.inl (by omega))⟩
theorem Sm.cells {k : Nat} {cs : Array Value} {e : TypeId} {f : Nat × Nat} (h : Sm B W W') (hk : W.heap[k]? = some (.cells cs e f)) : W'.heap[k]? = some (.cells cs e f) := h.same k _ hk (.inr rfl)
theorem Sm.cell {p : Addr} {v : Value} (h : Sm B W W') (hc : W.cell? p = some v) : W'.cell? p = some v := by
  obtain ⟨o, ho, hcs⟩ := cells_of_cell hc
  have := h.same _ _ ho (.inr hcs)
  rw [World.cell?_of_block (w := W) (this.trans ho.symm)]
  exact hc
theorem Sm.boxed {b : Nat} {t : TypeId} {v : Value} (h : Sm B W W') (hb : Boxed W b t v) : Boxed W' b t v := h.cells hb
theorem Sm.rd {b : Nat} {A : Option Addr} {xs : List Value} (h : Sm B W W') (hr : Rd W b A xs) : Rd W' b A xs := fun j u hu => by
  obtain ⟨a, e, hb, hc⟩ := hr j u hu
  exact ⟨a, e, hb, h.cell hc⟩
theorem Sm.own {base e size n c : Nat} {A : Option Addr} {xs : List Value} (h : Sm B W W') (ho : Own W base e size A n c xs) : Own W' base e size A n c xs := by
  refine ⟨ho.1, ?_⟩
  rcases ho.2 with hn | ⟨g, cap, cur, hv, hb, hgg, rest⟩
  · exact .inl hn
  · exact .inr ⟨g, cap, cur, hv, hb, h.cells hgg, rest⟩
theorem Kp.refl (M : Nat → Prop) (W : World) : Kp M W W := ⟨rfl, rfl, rfl, Nat.le_refl _, fun _ _ _ => rfl⟩
theorem Kp.trans {M : Nat → Prop} (h : Kp M W W') (k : Kp M W' W'') : Kp M W W'' :=
  ⟨k.os.trans h.os, k.tape.trans h.tape, k.output.trans h.output, Nat.le_trans h.size k.size, fun i hi hlt => (k.block i hi (Nat.lt_of_lt_of_le hlt h.size)).trans (h.block i hi hlt)⟩
theorem Kp.mono {M M' : Nat → Prop} (h : Kp M W W') (hm : ∀ k, M' k → M k) : Kp M' W W' := ⟨h.os, h.tape, h.output, h.size, fun k hk => h.block k (hm k hk)⟩
theorem Kp.put {M : Nat → Prop} (W : World) {l : Nat} (hl : ¬ M l) (o : Obj) : Kp M W (W.putObj l o) :=
  ⟨rfl, rfl, rfl, by simp, fun k hk _ => World.putObj_heap_other (fun e => hl (e ▸ hk))⟩
theorem Kp.alloc {M : Nat → Prop} (h : Kp M W W') (o : Obj) : Kp M W (W'.alloc o) :=
  h.trans ⟨rfl, rfl, rfl, by simp, fun k _ hlt => Below.heap_alloc _ _ _ hlt⟩
theorem Kp.drewN {M : Nat → Prop} (h : Kp M W W') (n : Nat) : Kp M W (W'.drewN n) := ⟨h.os, h.tape, h.output, h.size, h.block⟩
theorem Kp.setCell {M : Nat → Prop} (h : Kp M W W') {p : Addr} (hp : ¬ M p.block) (u : Value) : Kp M W (W'.setCell p u) :=
  h.trans ⟨rfl, rfl, rfl, by simp [World.setCell], fun k hk _ => Below.heap_setCell _ _ _ _ (fun e => hp (e ▸ hk))⟩
theorem Kp.grown {M : Nat → Prop} {row : Option Nat} (h : Kp M W W') (hg : W'.grownBy W'' row) (hr : ∀ k, row = some k → ¬ M k) : Kp M W W'' :=
  h.trans ⟨hg.os, hg.tape, hg.output, hg.size, fun k hk hlt => hg.block k hlt (fun e => hr k e.symm hk)⟩
theorem Kp.of_below {M : Nat → Prop} (h : Below W.heap.size W W') : Kp M W W' := ⟨h.os, h.tape, h.output, h.size, fun k _ hlt => h.block k hlt⟩
theorem Kp.below {M : Nat → Prop} {n : Nat} (h : Kp M W W') (hm : ∀ k, k < n → M k) (hn : n ≤ W.heap.size) : Below n W W' :=
  ⟨h.os, h.tape, h.output, h.size, fun k hk => h.block k (hm k hk) (by omega)⟩
end

/-- What is asked of an iterator: T: what its own steps leave; R: what stands of an element when it is handed over; M: the blocks that a round must keep. -/
def SeqR {α : Type} (P : Program) (gf : Nat) (lb : Array Value) (encs : α → Array Value) (M : Nat → Prop) (T : World → World → Prop) (R : List α → α → World → World → Prop) (S : List α → Prop) (W : World) : Prop :=
  ∀ (l : Nat) (J Jx : List α → World → Prop),
    (∀ pre x W1 W2, J pre W1 → T W1 W2 → R pre x W1 W2 → YieldAt Fence.wide 2 P l (encs x) W2 fun e W' =>
      (e = .returned (.bool true) ∧ J (pre ++ [x]) W' ∧ Kp M W2 W') ∨ (e = .returned (.bool false) ∧ Jx (pre ++ [x]) W')) →
    J [] W →
    CallsIn Fence.wide 3 P gf (#[.func (.yield l) #[] #[]] ++ lb) W fun e W' => (∃ v, e = .returned v) ∧ ((∃ xs W1, S xs ∧ J xs W1 ∧ T W1 W') ∨ (∃ pre, Jx pre W'))

/-- How a round's body may be left; B, B + 1: the blocks of the loop's book-keeping. -/
def rPost {α : Type} (B : Nat) (M : Nat → Prop) (I : List α → World → Prop) (Ix : Code → List α → World → Prop) (xs : List α) (W : World) : Exit → Act → World → Prop
  | .normal, _, W' => Kp (fun k => M k ∨ k = B ∨ k = B + 1) W W' ∧ I xs W'
  | .ret, _, W' => Kp (fun k => k = B ∨ k = B + 1) W W' ∧ Ix .ret xs W'
  | .exit id, _, W' => Kp (fun k => k = B ∨ k = B + 1) W W' ∧ Ix (.exit id) xs W'
  | .goto t, _, W' => Kp (fun k => k = B ∨ k = B + 1) W W' ∧ Ix (.goto t) xs W'
  | .panic _, _, _ => False
  | .outgrown, _, _ => False

theorem wp_range2 {P : Program} {α : Type} {g : Operand} {ps : Array Tmp} {assign body : Code} {Q : Exit → Act → World → Prop} {a : Act} {w : World} {gf : Nat} {lb : Array Value}
    (hg : a.eval g = .func (.func gf) #[] lb) (eg : ∀ args w, (callFunc gf args).run P w = .ok (.enter gf args) w)
    {encs : α → Array Value} {M : Nat → Prop} {T : World → World → Prop} {R : List α → α → World → World → Prop} {S : List α → Prop}
    (hseq : ∀ W, Below w.heap.size w W → W.heap.size = w.heap.size + 2 → SeqR P gf lb encs M T R S W)
    (hM : ¬ M (w.heap.size + 1)) (hT : ∀ W1 W2 k o, T W1 W2 → (k = w.heap.size ∨ k = w.heap.size + 1) → W1.heap[k]? = some o → W2.heap[k]? = some o)
    (hR : ∀ pre x W1 W2 W3, R pre x W1 W2 → Sm w.heap.size W2 W3 → R pre x W1 W3)
    (hps : ∀ x, (encs x).size = ps.size)
    (I : List α → World → Prop) (Ix : Code → List α → World → Prop) (hI : ∀ s W W', I s W → Sm w.heap.size W W' → I s W') (hIx : ∀ c s W W', Ix c s W → Sm w.heap.size W W' → Ix c s W') (h0 : I [] w)
    (hround : ∀ (l : Nat) (pre : List α) (x : α) (W1 W2 : World), I pre W1 → T W1 W2 → R pre x W1 W2 → w.heap.size + 2 ≤ W1.heap.size → w.heap.size + 2 ≤ W2.heap.size →
      assign.wpIn (Fence.wide.inRound l) 2 P (Exit.then (fun a' W' => W' = W2 ∧ ∀ W, Sm w.heap.size W2 W → R pre x W1 W → w.heap.size + 2 ≤ W.heap.size → body.wpIn (Fence.wide.inRound l) 2 P (rPost w.heap.size M I Ix (pre ++ [x]) W) a' W) (fun _ _ _ => False))
        { tmps := (ps.zip (encs x)).foldl (fun t (p, v) => t.setIfInBounds p v) a.tmps, defers := [] } W2)
    (hdone : ∀ (xs : List α) (W1 W2 W : World), S xs → I xs W1 → T W1 W2 → Sm w.heap.size W2 W → W.heap[w.heap.size]? = some (.deferred (some [])) → Q .normal { a with defers := { target := .collected w.heap.size, args := #[] } :: a.defers } W)
    (hstop : ∀ (c : Code) (pre : List α) (W : World), Ix c pre W → W.heap[w.heap.size]? = some (.deferred (some [])) → c.wpIn Fence.wide 4 P Q { a with defers := { target := .collected w.heap.size, args := #[] } :: a.defers } W) :
    (Code.rangeFunc g ps assign body).wpIn Fence.wide 4 P Q a w := by
  refine wpIn_rangeFunc ?_
  intro fn _
  obtain ⟨rc, hrc⟩ : ∃ rc : LoopState → Option Code → Loop, rc = fun st pe => { state := st, pending := pe, fn, tmps := a.tmps, params := ps, assign, body, defers := w.heap.size } := ⟨_, rfl⟩
  obtain ⟨V, hV⟩ : ∃ V, (w.alloc (.deferred (some []))).alloc (.loop (rc .ready none)) = V := ⟨_, rfl⟩
  have vl : V.heap[w.heap.size + 1]? = some (.loop (rc .ready none)) := by
    rw [← hV]
    have := World.alloc_heap_new (w.alloc (.deferred (some []))) (.loop (rc .ready none))
    rwa [World.size_alloc] at this
  have vd : V.heap[w.heap.size]? = some (.deferred (some [])) := by
    rw [← hV]
    exact (Below.heap_alloc _ _ _ (by simp)).trans (World.alloc_heap_new w _)
  have vb : Below w.heap.size w V := by
    rw [← hV]
    exact ((Below.refl _ w).alloc (Nat.le_refl _) _).alloc (by simp) _
  have vs : V.heap.size = w.heap.size + 2 := by rw [← hV]; simp
  have vI : I [] V := hI _ _ _ h0 (.of_below vb)
  refine ⟨w.heap.size + 1, [{ target := .collected w.heap.size, args := #[] }], V, { target := .fn (.func gf) lb, args := #[.func (.yield (w.heap.size + 1)) #[] #[]] }, V, gf,
    #[.func (.yield (w.heap.size + 1)) #[] #[]] ++ lb, V, ?_, ?_, fun _ _ => trivial, ?_, (fun h => by cases h), ?_⟩
  · rw [← hV, hrc]
    exact run_enterLoop_outer _ _ _ _ _
  · simp only [resolve, hg]
    simp [go_sem]
  · simp [invoke, go_sem, eg]
  refine (hseq V vb vs (w.heap.size + 1)
    (fun pre W => I pre W ∧ W.heap[w.heap.size + 1]? = some (.loop (rc .ready none)) ∧ W.heap[w.heap.size]? = some (.deferred (some [])))
    (fun pre W => ∃ c, Ix c pre W ∧ W.heap[w.heap.size + 1]? = some (.loop (rc .done (some c))) ∧ W.heap[w.heap.size]? = some (.deferred (some [])))
    ?_ ⟨vI, vl, vd⟩).mono ?_
  · rintro pre x W1 W2 ⟨hi, hl, hd⟩ ht hr
    have hl2 := hT _ _ _ _ ht (.inr rfl) hl
    have hd2 := hT _ _ _ _ ht (.inl rfl) hd
    have hlt : w.heap.size + 1 < W2.heap.size := (Array.getElem?_eq_some_iff.1 hl2).1
    have hy := run_yield (P := P) (args := encs x) hl2 (by rw [hrc]; exact hps x)
    rw [hrc] at hy
    refine ⟨fn, _, assign, body, hy, roundIn_of_wpIn trivial (wpIn_mono (hround (w.heap.size + 1) pre x W1 W2 hi ht hr (Array.getElem?_eq_some_iff.1 hl).1 hlt) ?_)⟩
    rintro e a' W' hp
    cases e with
    | normal => ?_
    | ret => exact hp.elim
    | exit id => exact hp.elim
    | goto t => exact hp.elim
    | panic ch => exact hp.elim
    | outgrown => exact hp.elim
    obtain ⟨he, hbody⟩ := hp
    rw [he]
    refine ⟨_, run_beginRound hl2 (by rw [hrc]), ?_⟩
    have sm3 : Sm w.heap.size W2 (W2.putObj (w.heap.size + 1) (.loop { rc .ready none with state := .busy })) := .put hl2 rfl (by omega) _
    have kp3 : Kp M W2 (W2.putObj (w.heap.size + 1) (.loop { rc .ready none with state := .busy })) := .put _ hM _
    have hl3 : (W2.putObj (w.heap.size + 1) (.loop { rc .ready none with state := .busy })).heap[w.heap.size + 1]? = some (.loop { rc .ready none with state := .busy }) := World.putObj_heap_same hlt
    have hd3 : (W2.putObj (w.heap.size + 1) (.loop { rc .ready none with state := .busy })).heap[w.heap.size]? = some (.deferred (some [])) := (World.putObj_heap_other (by omega)).trans hd2
    refine wpIn_mono (hbody _ sm3 (hR _ _ _ _ _ hr sm3) (Array.getElem?_eq_some_iff.1 hl3).1) ?_
    have fin : ∀ (jump : Option Code) (W3 : World), Kp (fun k => k = w.heap.size ∨ k = w.heap.size + 1) (W2.putObj (w.heap.size + 1) (.loop { rc .ready none with state := .busy })) W3 →
        (Instr.endRound (w.heap.size + 1) jump).run P W3 = .ok (.bool jump.isNone) (W3.putObj (w.heap.size + 1) (.loop (rc (if jump.isNone then .ready else .done) jump))) ∧
        Sm w.heap.size W3 (W3.putObj (w.heap.size + 1) (.loop (rc (if jump.isNone then .ready else .done) jump))) ∧
        (W3.putObj (w.heap.size + 1) (.loop (rc (if jump.isNone then .ready else .done) jump))).heap[w.heap.size + 1]? = some (.loop (rc (if jump.isNone then .ready else .done) jump)) ∧
        (W3.putObj (w.heap.size + 1) (.loop (rc (if jump.isNone then .ready else .done) jump))).heap[w.heap.size]? = some (.deferred (some [])) := fun jump W3 hk => by
      have hl4 := (hk.block _ (.inr rfl) (by simpa using hlt)).trans hl3
      have hd4 := (hk.block _ (.inl rfl) (by simp; omega)).trans hd3
      have he := run_endRound (P := P) jump hl4
      have sm4 := Sm.put hl4 rfl (Nat.le_succ w.heap.size) (.loop (rc (if jump.isNone then .ready else .done) jump))
      rw [hrc] at he sm4 ⊢
      exact ⟨he, sm4, World.putObj_heap_same (Array.getElem?_eq_some_iff.1 hl4).1, (World.putObj_heap_other (by omega)).trans hd4⟩
    rintro e a3 W3 hp
    cases e with
    | normal =>
      obtain ⟨hk, hi3⟩ := hp
      obtain ⟨he, sm4, hl4, hd4⟩ := fin none W3 (hk.mono fun k h => .inr h)
      exact ⟨_, _, he, .inl ⟨rfl, ⟨hI _ _ _ hi3 sm4, hl4, hd4⟩, (kp3.trans (hk.mono fun k h => .inl h)).trans (.put _ hM _)⟩⟩
    | ret =>
      obtain ⟨hk, hi3⟩ := hp
      obtain ⟨he, sm4, hl4, hd4⟩ := fin (some .ret) W3 hk
      exact ⟨_, _, he, .inr ⟨rfl, _, hIx _ _ _ _ hi3 sm4, hl4, hd4⟩⟩
    | exit id =>
      obtain ⟨hk, hi3⟩ := hp
      obtain ⟨he, sm4, hl4, hd4⟩ := fin (some (.exit id)) W3 hk
      exact ⟨_, _, he, .inr ⟨rfl, _, hIx _ _ _ _ hi3 sm4, hl4, hd4⟩⟩
    | goto t =>
      obtain ⟨hk, hi3⟩ := hp
      obtain ⟨he, sm4, hl4, hd4⟩ := fin (some (.goto t)) W3 hk
      exact ⟨_, _, he, .inr ⟨rfl, _, hIx _ _ _ _ hi3 sm4, hl4, hd4⟩⟩
    | panic ch => exact hp.elim
    | outgrown => exact hp.elim
  · rintro e W2 ⟨⟨v, rfl⟩, (⟨xs, W1, hS, ⟨hi, hl, hd⟩, ht⟩ | ⟨pre, c, hi, hl, hd⟩)⟩
    · have hl2 := hT _ _ _ _ ht (.inr rfl) hl
      have hd2 := hT _ _ _ _ ht (.inl rfl) hd
      have he := run_endLoop (P := P) hl2 (by rw [hrc]; simp)
      rw [hrc] at he
      exact ⟨none, _, he, hdone xs W1 W2 _ hS hi ht (.put hl2 rfl (by omega) _) ((World.putObj_heap_other (by omega)).trans hd2)⟩
    · have he := run_endLoop (P := P) hl (by rw [hrc]; simp)
      rw [hrc] at he
      exact ⟨some c, _, he, hstop c pre _ (hIx _ _ _ _ hi (.put hl rfl (by omega) _)) ((World.putObj_heap_other (by omega)).trans hd)⟩

theorem wp_range {P : Program} {α : Type} {g : Operand} {ps : Array Tmp} {assign body : Code} {Q : Exit → Act → World → Prop} {a : Act} {w : World} {gf : Nat} {lb : Array Value}
    (hg : a.eval g = .func (.func gf) #[] lb) (eg : ∀ args w, (callFunc gf args).run P w = .ok (.enter gf args) w)
    {encs : α → Array Value} {M : Nat → Prop} {T : World → World → Prop} {R : List α → α → World → World → Prop} {S : List α → Prop}
    (hseq : ∀ W, Below w.heap.size w W → W.heap.size = w.heap.size + 2 → SeqR P gf lb encs M T R S W)
    (hM : ¬ M (w.heap.size + 1)) (hT : ∀ W1 W2 k o, T W1 W2 → (k = w.heap.size ∨ k = w.heap.size + 1) → W1.heap[k]? = some o → W2.heap[k]? = some o)
    (hR : ∀ pre x W1 W2 W3, R pre x W1 W2 → Sm w.heap.size W2 W3 → R pre x W1 W3)
    (hps : ∀ x, (encs x).size = ps.size)
    (I : List α → World → Prop) (Ix : Code → List α → World → Prop) (hI : ∀ s W W', I s W → Sm w.heap.size W W' → I s W') (hIx : ∀ c s W W', Ix c s W → Sm w.heap.size W W' → Ix c s W') (h0 : I [] w) (a₁ : α → Act)
    (hassign : ∀ (l : Nat) (x : α) (W : World) (K : Act → World → Prop), K (a₁ x) W →
      assign.wpIn (Fence.wide.inRound l) 2 P (Exit.then K (fun _ _ _ => False)) { tmps := (ps.zip (encs x)).foldl (fun t (p, v) => t.setIfInBounds p v) a.tmps, defers := [] } W)
    (hbody : ∀ (l : Nat) (pre : List α) (x : α) (W1 W2 W : World), I pre W1 → T W1 W2 → Sm w.heap.size W2 W → R pre x W1 W → w.heap.size + 2 ≤ W1.heap.size → w.heap.size + 2 ≤ W.heap.size →
      body.wpIn (Fence.wide.inRound l) 2 P (rPost w.heap.size M I Ix (pre ++ [x]) W) (a₁ x) W)
    (hdone : ∀ (xs : List α) (W1 W2 W : World), S xs → I xs W1 → T W1 W2 → Sm w.heap.size W2 W → W.heap[w.heap.size]? = some (.deferred (some [])) → Q .normal { a with defers := { target := .collected w.heap.size, args := #[] } :: a.defers } W)
    (hstop : ∀ (c : Code) (pre : List α) (W : World), Ix c pre W → W.heap[w.heap.size]? = some (.deferred (some [])) → c.wpIn Fence.wide 4 P Q { a with defers := { target := .collected w.heap.size, args := #[] } :: a.defers } W) :
    (Code.rangeFunc g ps assign body).wpIn Fence.wide 4 P Q a w := by
  refine wp_range2 hg eg hseq hM hT hR hps I Ix hI hIx h0 ?_ hdone hstop
  intro l pre x W1 W2 hi ht hr h1 h2
  exact hassign l x W2 _ ⟨rfl, fun W hs hrW hW => hbody l pre x W1 W2 W hi ht hs hrW h1 hW⟩

end Go.Proofs.Ytbhjcfhpabnadaa
