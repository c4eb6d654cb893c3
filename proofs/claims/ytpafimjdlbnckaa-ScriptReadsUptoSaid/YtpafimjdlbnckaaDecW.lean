/-
  The walk of script.Decode.
-/
import Derived.Test.YtpafimjdlbnckaaDecE
namespace Go.Proofs.Ytpafimjdlbnckaa
open Go.RowKit Go.Shelf

attribute [local go_sem] Oper.semAt_some

theorem elStep : Elem Try.prog 22 26 4 48 := Elem.of (z := .agg #[.int .i64 0, .int .i64 0, .int .i64 0, .slice none 0 0]) Try.underlying22 (by kernel_rfl) rfl (by decide)

/-- append of values that the statement has just laid, in a walk inside a fence. -/
theorem wpListIn_app_new {F : Fence} {nn : Nat} {P : Program} {w0 : World} {ops : Array Oper} {rest : List Oper} {o : Oper} {a : Act} {Q : Exit → Act → World → Prop} (hgd : o.guard = none) (s x : Operand) (t : TypeId)
    (ho : o.op = .call { callee := .builtin .append, args := #[s, x], argTypes := #[t, t] })
    (base e size bytes : Nat) (el : Elem P t e size bytes) (A : Option Addr) (n c : Nat) (xs : List Value) (hs : a.eval s = .slice A n c) (hown : Go.Proofs.Ytpafimjdlbnckaa.Own w0 base e size A n c xs)
    (cs : Array Value) (g m k : Nat) (hg : g = w0.heap.size) (hx : a.eval x = .slice (some ⟨g, 0, none⟩) m k) (hl : cs.size = m * size) (h1 : ∀ u ∈ cs.toList, u.oneCell' = true)
    (N : Nat) (zs : List Value) (hN : n + m = N) (hzs : xs ++ cs.toList = zs)
    (hbytes : N * bytes ≤ 140737488355328) (h63 : N ≤ maxLen) (hbase : base ≤ w0.heap.size)
    (h : ∀ A' c' w', Go.Proofs.Ytpafimjdlbnckaa.Own w' base e size A' N c' zs → w0.grownBy w' (blk A) → (blk A' = blk A ∨ blk A' = some (w0.heap.size + 1)) → wpListIn F nn P ops Q rest (a.put o.dst (.slice A' N c')) w') : wpListIn F nn P ops Q (o :: rest) a (w0.alloc (.cells cs e)) := by
  subst hg hN hzs
  refine wpListIn_plain hgd fun K hK => ?_
  obtain ⟨A', c', w', hrun, h2, h3, h4⟩ := run_app (P := P) (w0.alloc (.cells cs e)) base t o.type e size bytes el A n c xs (hown.alloc _) (w0.heap.size + 1) (some ⟨w0.heap.size, 0, none⟩) m k cs.toList
    (fun j u hu => ⟨_, rfl, by simp, by
      rw [Addr.add_lit, Nat.zero_add, World.cell?_alloc_new]
      simpa using hu⟩) (by simpa using hl) h1 hbytes h63 (by simp; omega)
  unfold Oper.wpIn
  refine ⟨?_, ?_⟩
  · simp [Oper.about, ho, resolve, Target.leads, Sem.run_pure]
  · rw [Oper.semAt_plain F _ _ (by rw [ho]; intro c hc'; cases hc')]
    simp [execOp, ho, resolve, invoke, builtin, hs, hx, hrun, Result.andThen]
    exact hK _ _ (h A' c' w' h2 ((World.grownBy_alloc w0 _ _).trans h3) (by simpa using h4))

def flatC (els : List El) : List Value := els.flatMap El.cs
theorem flatC_snoc (els : List El) (x : El) : flatC (els ++ [x]) = flatC els ++ x.cs := by simp [flatC]
theorem flatC_len : ∀ (els : List El), (flatC els).length = 4 * els.length
  | [] => rfl
  | x :: r => by
    have := flatC_len r
    unfold flatC at *
    rw [List.flatMap_cons, List.length_append, List.length_cons, this]
    simp [El.cs]
    omega
theorem flatC_at (els : List El) (j : Nat) (hj : j < els.length) : Grp (flatC els) 4 j els[j].cs := by
  induction els generalizing j with
  | nil => simp at hj
  | cons x r ih =>
    intro i u hu
    have hi : i < 4 := by
      have := (List.getElem?_eq_some_iff.1 hu).1
      simpa [El.cs] using this
    cases j with
    | zero =>
      simp only [flatC, List.flatMap_cons, Nat.zero_mul, Nat.zero_add]
      rw [List.getElem?_append_left (by simpa [El.cs] using hi)]
      simpa using hu
    | succ j =>
      have h := ih j (by simpa using hj) i u (by simpa using hu)
      simp only [flatC, List.flatMap_cons] at h ⊢
      rw [List.getElem?_append_right (by simp [El.cs]; omega)]
      rw [show (j + 1) * 4 + i - x.cs.length = j * 4 + i by simp [El.cs]; omega]
      exact h

/-- The data of some steps, in memory of their own. -/
def Dat (W : World) (base : Nat) (els : List El) : Prop := ∀ x ∈ els, Go.Proofs.Ytpafimjdlbnckaa.Own W base 5 1 x.A x.s.data.length x.c (bv x.s.data)
theorem Dat.map_ {W W' : World} {base base' : Nat} {els : List El} (h : Dat W base els) (hm : ∀ x : El, Go.Proofs.Ytpafimjdlbnckaa.Own W base 5 1 x.A x.s.data.length x.c (bv x.s.data) → Go.Proofs.Ytpafimjdlbnckaa.Own W' base' 5 1 x.A x.s.data.length x.c (bv x.s.data)) : Dat W' base' els :=
  fun x hx => hm x (h x hx)

/-- What Decode leaves. -/
def DecOut (w : World) (b : List UInt8) (e : Ending) (w' : World) : Prop :=
  ∃ O c els, e = .returned (.slice O (List.length (α := El) els) c) ∧ Go.Proofs.Ytpafimjdlbnckaa.Own w' w.heap.size 26 4 O els.length c (flatC els) ∧ AllS b els ∧ Dat w' w.heap.size els ∧ Below w.heap.size w w'

/-- Between two rounds of Decode. -/
def DecI (w : World) (pre : List El) (W : World) : Prop :=
  (∃ O c, Boxed W w.heap.size 22 (.slice O pre.length c) ∧ Go.Proofs.Ytpafimjdlbnckaa.Own W (w.heap.size + 5) 26 4 O pre.length c (flatC pre)) ∧ Dat W (w.heap.size + 5) pre ∧ Below w.heap.size w W

theorem DecI.sm {w : World} {B : Nat} {pre : List El} {W W' : World} (h : DecI w pre W) (hs : Sm B W W') (hB : w.heap.size ≤ B) : DecI w pre W' := by
  obtain ⟨⟨O, c, h1, h2⟩, h3, h4⟩ := h
  exact ⟨⟨O, c, hs.boxed h1, hs.own h2⟩, h3.map_ fun x hx => hs.own hx, hs.below h4 hB h4.size⟩
theorem DecI.gr {w : World} {Ba : Nat} {pre : List El} {W W' : World} (h : DecI w pre W) (hs : W.grownBy W' (some Ba)) (hB : Ba = w.heap.size + 4) : DecI w pre W' := by
  obtain ⟨⟨O, c, h1, h2⟩, h3, h4⟩ := h
  refine ⟨⟨O, c, gr_boxed hs h1 (by omega), gr_own hs h2 (by omega)⟩, h3.map_ fun x hx => gr_own hs hx (by omega), h4.grown hs h4.size fun k e => by cases e; omega⟩

theorem StepR.len {Ba : Nat} {b : List UInt8} {pre : List El} {x : El} {W1 W2 : World} (h : StepR Ba b pre x W1 W2) : pre.length + 1 ≤ b.length := by
  obtain ⟨_, rest, hr⟩ := h
  have h1 := decR_len _ 0 b (Nat.le_refl _)
  have h2 : (decR 0 b).length = (pre.map El.g ++ x.g :: rest).length := by rw [hr]
  simp at h2
  omega

theorem rPost_normal {α : Type} {B : Nat} {M : Nat → Prop} {I : List α → World → Prop} {Ix : Code → List α → World → Prop} {xs : List α} {W W' : World} {a : Act} (h : Kp (fun k => M k ∨ k = B ∨ k = B + 1) W W') (hi : I xs W') : rPost B M I Ix xs W .normal a W' := ⟨h, hi⟩

set_option maxHeartbeats 400000 in
theorem each_any (A : Option Addr) (n c : Nat) (w : World) :
    Calls Try.prog 16 #[.slice A n c] w fun e w' => e = .returned (.func (.func 24) #[] #[.pointer (some ⟨w.heap.size, 0, none⟩)]) ∧ w' = w.alloc (.cells #[.slice A n c] 24) := by
  go_enter Try.func16, Try.ntmps16
  go_wp2
  go_ret
  exact ⟨rfl, rfl⟩

set_option maxRecDepth 100000 in
set_option maxHeartbeats 2000000 in
theorem dec_any (b : List UInt8) (n : Nat) (hn : n = b.length) (A : Option Addr) (c : Nat) (hA : A = none → c = 0) (hc : n ≤ c) (hl : n ≤ 16777216) (w : World) (hr : Rd w w.heap.size A (bv b)) :
    Calls Try.prog 15 #[.slice A n c] w (DecOut w b) := by
  have HN := Lib.hid hn
  clear hn
  refine (callsIn_wide (n := 4)).1 ?_
  refine callsIn_of_wp_marks Try.func15 rfl trivial ?_ rfl
  simp only [Try.ntmps15, List.size_toArray, List.length_cons, List.length_nil, Nat.reduceAdd, Nat.reduceSub, Array.replicate_succ, Array.replicate_zero, List.push_toArray, List.append_toArray, List.nil_append, List.cons_append]
  gi_wp2_with (refine ⟨trivial, ?_⟩; gi_at_call 16; refine (callsIn_wide.2 (each_any A n c _)).mono ?_; rintro e w' ⟨rfl, rfl⟩)
  have bO := Boxed.new w 22 (.slice none 0 0)
  have bB := Boxed.new (w.alloc (.cells #[.slice none 0 0] 22)) 24 (.slice A n c)
  rw [World.size_alloc] at bB
  have hB0 : Below w.heap.size w ((w.alloc (.cells #[.slice none 0 0] 22)).alloc (.cells #[.slice A n c] 24)) := ((Below.refl _ w).alloc (Nat.le_refl _) _).alloc (by simp) _
  have hz0 : ((w.alloc (.cells #[.slice none 0 0] 22)).alloc (.cells #[.slice A n c] 24)).heap.size = w.heap.size + 2 := by simp
  obtain ⟨W0, hW0⟩ : ∃ W0, W0 = ((w.alloc (.cells #[.slice none 0 0] 22)).alloc (.cells #[.slice A n c] 24)) := ⟨_, rfl⟩
  rw [← hW0] at hB0 hz0 bB ⊢
  have bO0 : Boxed W0 w.heap.size 22 (.slice none 0 0) := by rw [hW0]; exact bO.alloc _
  clear bO hW0
  refine wp_range3 (gf := 24) (lb := #[.pointer (some ⟨w.heap.size + 1, 0, none⟩)]) rfl (enters_of Try.func24 (by kernel_rfl) rfl) (encs := fun x : El => #[.int .i64 (x.k : Int), .agg #[.int .i64 x.s.op, .int .i64 x.s.a, .int .i64 x.s.b, .slice x.A x.s.data.length x.c]]) (M := KeptM w.heap.size (w.heap.size + 1) (w.heap.size + 4)) (T := StepT (w.heap.size + 4)) (R := StepR (w.heap.size + 4) b) (S := AllS b)
    (fun W hbW hsW => each1_some b n HN.out hl A c w.heap.size (w.heap.size + 1) (w.heap.size + 4) hA hc W (hr.below (hB0.trans (hbW.mono (by omega)))) (by omega) ((hbW.block _ (by omega)).trans bB) (by omega))
    (by unfold KeptM; omega) (fun W1 W2 k o ht hk ho => (ht.block k (Array.getElem?_eq_some_iff.1 ho).1 (by simp; omega)).trans ho) (fun _ => rfl)
    (DecI w) (fun _ _ _ => False) (fun s W W' h hs => h.sm hs (by omega)) (fun _ _ _ _ h _ => h)
    ⟨⟨none, 0, bO0, Own.nil_ _ _ _ _⟩, fun x hx => by simp at hx, hB0⟩ ?round ?done ?stop
  case round =>
    intro l pre x W1 W2 hI ht hR h1 h2
    have hI2 := hI.gr ht rfl
    have hlen := hR.len
    have hx := hR.1
    have HR := Lib.hid hR
    have HI2 := Lib.hid hI2
    clear hR hI hI2
    gi_wp2
    refine ⟨(Kp.refl _ _).alloc _, ?_⟩
    intro W hs hW
    obtain ⟨⟨O, co, bo, ho⟩, hdat, hbel⟩ := HI2.out.sm ((Sm.alloc W2 _).trans hs) (by omega)
    have hsz : w.heap.size + 5 ≤ W.heap.size := by have := hs.size; simp at this; omega
    have hx' := hs.own (hx.alloc (.cells #[.int .i64 x.s.op, .int .i64 x.s.a, .int .i64 x.s.b, .slice x.A x.s.data.length x.c] 26))
    have cells := hs.cells (World.alloc_heap_new W2 (.cells #[.int .i64 x.s.op, .int .i64 x.s.a, .int .i64 x.s.b, .slice x.A x.s.data.length x.c] 26))
    have e0 := cells_at cells (j := 0) rfl
    have e1 := cells_at cells (j := 1) rfl
    have e2 := cells_at cells (j := 2) rfl
    have e3 := cells_at cells (j := 3) rfl
    have hco := bo.cell
    have hbl : b.length ≤ 16777216 := by rw [← HN.out]; exact hl
    have hsW := Lib.hid hs
    clear hs hx cells
    gi_wp2_with (gi_at_builtin; go_loud (refine wpListIn_app_new rfl (.tmp 9) (.tmp 11) 22 rfl (w.heap.size + 5) 26 4 48 elStep O pre.length co (flatC pre) rfl ho #[.int .i64 x.s.op, .int .i64 x.s.a, .int .i64 x.s.b, .slice x.A x.s.data.length x.c] W.heap.size 1 1 rfl rfl rfl (by simp [Value.oneCell']) (pre.length + 1) (flatC (pre ++ [x])) rfl (flatC_snoc pre x).symm (by omega) (by unfold maxLen; omega) hsz ?_; intro O2 c2 w1 ho2 hg2 hat2; have bo1 := Boxed.kept bo hg2 (Ne.symm (ho.blk_low (by omega))); have hc1 := bo1.cell; have hf1 := bo1.frozen))
    have hz0' := hz0
    refine rPost_normal (((Kp.refl _ W).grown hg2 ?_).setCell (p := ⟨w.heap.size, 0, none⟩) ?_ _) ⟨⟨O2, c2, ?_, ?_⟩, ?_, ?_⟩
    · intro k hk
      have := (ho.blk_ge hk).1
      unfold KeptM
      omega
    · unfold KeptM
      simp only
      omega
    · rw [show (pre ++ [x]).length = pre.length + 1 by simp]
      exact Boxed.set _ bo1
    · rw [show (pre ++ [x]).length = pre.length + 1 by simp]
      exact ho2.setCell_low (by simp only; omega) _
    · intro y hy
      rcases List.mem_append.1 hy with hy | hy
      · exact ((hdat y hy).other ho (by decide) hg2).setCell_low (by simp only; omega) _
      · obtain rfl : y = x := by simpa using hy
        exact ((hx'.base_le (base' := w.heap.size + 5) (by omega)).other ho (by decide) hg2).setCell_low (by simp only; omega) _
    · exact (hbel.grown hg2 hbel.size fun k hk => by have := (ho.blk_ge hk).1; omega).setCell (p := ⟨w.heap.size, 0, none⟩) (Nat.le_refl _) _
  case done =>
    intro xs W1 W2 W hS hI ht hs hD
    obtain ⟨⟨O, co, bo, ho⟩, hdat, hbel⟩ := (hI.gr ht rfl).sm hs (by omega : w.heap.size ≤ W0.heap.size)
    have hc1 := bo.cell
    have hf1 := bo.frozen
    clear hI
    gi_wp2
    have hV : ∃ V, V = W.setCell ⟨w.heap.size, 0, none⟩ (.slice O xs.length co) := ⟨_, rfl⟩
    obtain ⟨V, hV⟩ := hV
    have bo2 : Boxed V w.heap.size 22 (.slice O xs.length co) := by rw [hV]; exact Boxed.set _ bo
    have ho2 : Go.Proofs.Ytpafimjdlbnckaa.Own V (w.heap.size + 5) 26 4 O xs.length co (flatC xs) := by rw [hV]; exact ho.setCell_low (by simp only; omega) _
    have hdat2 : Dat V (w.heap.size + 5) xs := by rw [hV]; exact hdat.map_ fun x hx => hx.setCell_low (by simp only; omega) _
    have hbel2 : Below w.heap.size w V := by rw [hV]; exact hbel.setCell (p := ⟨w.heap.size, 0, none⟩) (Nat.le_refl _) _
    have hD2 : V.heap[W0.heap.size]? = some (.deferred (some [])) := by rw [hV]; exact (Below.heap_setCell _ _ _ _ (by simp only; omega)).trans hD
    rw [← hV]
    clear hV
    refine ⟨by simp, .inl ⟨_, _, rfl, run_takeDeferred (w := V) hD2, ?_⟩⟩
    have sm : Sm w.heap.size V (V.putObj W0.heap.size (.deferred none)) := .put (W := V) hD2 rfl (by omega) _
    have hc5 := (sm.boxed bo2).cell
    refine ⟨.slice O xs.length co, by simp [results, Try.f15, go_sem, hc5], O, co, xs, rfl, (sm.own ho2).base_le (by omega), hS, hdat2.map_ fun x hx => (sm.own hx).base_le (by omega), sm.below hbel2 (Nat.le_refl _) hbel2.size⟩
  case stop =>
    intro c pre W h _
    exact h.elim

end Go.Proofs.Ytpafimjdlbnckaa
