/-
  The walk of sum.Scan.
-/
import Derived.Test.YtbhjcfhpabnadaaScanIt
namespace Go.Proofs.Ytbhjcfhpabnadaa
open Go.RowKit Go.Shelf

attribute [local go_sem] Oper.semAt_some

theorem Try.el35 : Elem Try.prog 35 22 1 24 := Elem.of (z := .slice none 0 0) Try.underlying35 (by kernel_rfl) rfl (by decide)

/-- append of values that the statement has just laid, in a walk inside a fence. -/
theorem wpListIn_app_new {F : Fence} {nn : Nat} {P : Program} {w0 : World} {ops : Array Oper} {rest : List Oper} {o : Oper} {a : Act} {Q : Exit → Act → World → Prop} (hgd : o.guard = none) (s x : Operand) (t : TypeId)
    (ho : o.op = .call { callee := .builtin .append, args := #[s, x], argTypes := #[t, t] })
    (base e size bytes : Nat) (el : Elem P t e size bytes) (A : Option Addr) (n c : Nat) (xs : List Value) (hs : a.eval s = .slice A n c) (hown : Go.Proofs.Ytbhjcfhpabnadaa.Own w0 base e size A n c xs)
    (cs : Array Value) (g m k : Nat) (hg : g = w0.heap.size) (hx : a.eval x = .slice (some ⟨g, 0, none⟩) m k) (hl : cs.size = m * size) (h1 : ∀ u ∈ cs.toList, u.oneCell' = true)
    (N : Nat) (zs : List Value) (hN : n + m = N) (hzs : xs ++ cs.toList = zs)
    (hbytes : N * bytes ≤ 140737488355328) (h63 : N ≤ maxLen) (hbase : base ≤ w0.heap.size)
    (h : ∀ A' c' w', Go.Proofs.Ytbhjcfhpabnadaa.Own w' base e size A' N c' zs → w0.grownBy w' (blk A) → (blk A' = blk A ∨ blk A' = some (w0.heap.size + 1)) → wpListIn F nn P ops Q rest (a.put o.dst (.slice A' N c')) w') : wpListIn F nn P ops Q (o :: rest) a (w0.alloc (.cells cs e)) := by
  subst hg hN hzs
  refine wpListIn_plain hgd fun K hK => ?_
  obtain ⟨A', c', w', hrun, h2, h3, h4⟩ := run_app (P := P) (w0.alloc (.cells cs e)) base t o.type e size bytes el A n c xs (hown.alloc _) (w0.heap.size + 1) (some ⟨w0.heap.size, 0, none⟩) m k cs.toList
    (fun j u hu => ⟨_, rfl, by simp, by
      rw [Addr.add_lit, Nat.zero_add, World.cell?_alloc_new]
      simpa using hu⟩) (by simpa using hl) h1 hbytes h63 (by simp; omega)
  unfold Oper.wpIn
  refine ⟨?_, ?_⟩
  · simp [Oper.about, ho, resolve, Target.leads, Sem.run_pure]
  · rw [Oper.semAt_plain F _ _ (by rw [ho]; intro c hc'; cases hc')]
    simp [execOp, ho, resolve, invoke, builtin, hs, hx, hrun, Result.andThen]
    exact hK _ _ (h A' c' w' h2 ((World.grownBy_alloc w0 _ _).trans h3) (by simpa using h4))

/-- Records in memory of their own, each in a block of its own. -/
def Els (W : World) (base : Nat) (els : List El) : Prop :=
  (∀ x ∈ els, Go.Proofs.Ytbhjcfhpabnadaa.Own W base 5 1 x.A x.p.length x.c (bv x.p)) ∧ els.Pairwise (fun x y => x.A = none ∨ blk x.A ≠ blk y.A)

theorem Els.nil_ (W : World) (base : Nat) : Els W base [] := ⟨by simp, .nil⟩
theorem Els.map_ {W W' : World} {base base' : Nat} {els : List El} (h : Els W base els) (hm : ∀ x : El, Go.Proofs.Ytbhjcfhpabnadaa.Own W base 5 1 x.A x.p.length x.c (bv x.p) → Go.Proofs.Ytbhjcfhpabnadaa.Own W' base' 5 1 x.A x.p.length x.c (bv x.p)) : Els W' base' els :=
  ⟨fun x hx => hm x (h.1 x hx), h.2⟩
theorem Els.snoc {W1 W : World} {base : Nat} {els : List El} {x : El} (h : Els W base els) (h1 : Els W1 base els) (hx : Go.Proofs.Ytbhjcfhpabnadaa.Own W W1.heap.size 5 1 x.A x.p.length x.c (bv x.p)) (hb : base ≤ W1.heap.size) : Els W base (els ++ [x]) := by
  refine ⟨fun y hy => ?_, ?_⟩
  · rcases List.mem_append.1 hy with hy | hy
    · exact h.1 y hy
    · obtain rfl := List.mem_singleton.1 hy
      exact hx.base_le hb
  · rw [List.pairwise_append]
    refine ⟨h.2, by simp, fun y hy z hz => ?_⟩
    obtain rfl := List.mem_singleton.1 hz
    rcases (h1.1 y hy).form with ⟨h0, _⟩ | ⟨g, hg, _, hlt, _⟩
    · exact .inl h0
    · refine .inr fun e => ?_
      rw [hg] at e
      have := (hx.blk_ge e.symm).1
      simp at this
      omega

theorem rPost_normal {α : Type} {B : Nat} {M : Nat → Prop} {I : List α → World → Prop} {Ix : Code → List α → World → Prop} {xs : List α} {W W' : World} {a : Act} (h : Kp (fun k => M k ∨ k = B ∨ k = B + 1) W W') (hi : I xs W') : rPost B M I Ix xs W .normal a W' := ⟨h, hi⟩

/-- What Scan leaves. -/
def ScanOut (w : World) (b : List UInt8) (e : Ending) (w' : World) : Prop :=
  ∃ O c els, e = .returned (.tuple #[.slice O els.length c, .int .i64 (lastK (scanR 0 b))]) ∧ Go.Proofs.Ytbhjcfhpabnadaa.Own w' w.heap.size 22 1 O els.length c (els.map El.v) ∧ AllS b els ∧ Els w' w.heap.size els ∧ Below w.heap.size w w'

/-- Between two rounds of Scan. -/
def ScanI (w : World) (pre : List El) (W : World) : Prop :=
  (∃ O c, Boxed W w.heap.size 35 (.slice O pre.length c) ∧ Go.Proofs.Ytbhjcfhpabnadaa.Own W (w.heap.size + 5) 22 1 O pre.length c (pre.map El.v)) ∧
    Boxed W (w.heap.size + 1) 3 (.int .i64 (lastK (pre.map El.g))) ∧ Els W (w.heap.size + 5) pre ∧ Below w.heap.size w W

theorem el_one (x : El) : ∀ u ∈ (#[x.v] : Array Value).toList, u.oneCell' = true := by simp [Value.oneCell', El.v]

theorem ScanI.sm {w : World} {B : Nat} {pre : List El} {W W' : World} (h : ScanI w pre W) (hs : Sm B W W') (hB : w.heap.size ≤ B) : ScanI w pre W' := by
  obtain ⟨⟨O, c, h1, h2⟩, h3, h4, h5⟩ := h
  exact ⟨⟨O, c, hs.boxed h1, hs.own h2⟩, hs.boxed h3, h4.map_ fun x hx => hs.own hx, hs.below h5 hB h5.size⟩

theorem scanR_len : ∀ (f k : Nat) (b : List UInt8), b.length ≤ f → 8 * (scanR k b).length ≤ b.length := by
  intro f
  induction f with
  | zero =>
    intro k b h
    obtain rfl : b = [] := List.eq_nil_of_length_eq_zero (by omega)
    simp [scanR, scanF]
  | succ f ih =>
    intro k b h
    cases hn : nextS b with
    | none => rw [scanR_none hn]; simp
    | some p =>
      have hl := nextS_len hn
      have hd : (b.drop (8 + p.length)).length = b.length - (8 + p.length) := by simp
      rw [scanR_some hn]
      have := ih (k + (8 + p.length)) (b.drop (8 + p.length)) (by omega)
      simp only [List.length_cons]
      omega

theorem RecR.len {b : List UInt8} {pre : List El} {x : El} {W1 W2 : World} (h : RecR b pre x W1 W2) : pre.length + 1 ≤ b.length := by
  obtain ⟨_, rest, hr⟩ := h
  have h1 := scanR_len _ 0 b (Nat.le_refl _)
  have h2 : (scanR 0 b).length = (pre.map El.g ++ x.g :: rest).length := by rw [hr]
  simp at h2
  omega

set_option maxRecDepth 100000 in
set_option maxHeartbeats 2000000 in
theorem scan_any (b : List UInt8) (n : Nat) (hn : n = b.length) (A : Option Addr) (c : Nat) (hA : A = none → c = 0) (hc : n ≤ c) (hl : b.length ≤ 16777216) (w : World) (hr : Rd w w.heap.size A (bv b)) :
    Calls Try.prog 27 #[.slice A n c] w (ScanOut w b) := by
  have HN := Lib.hid hn
  clear hn
  refine (callsIn_wide (n := 4)).1 ?_
  refine callsIn_of_wp_marks Try.func27 rfl trivial ?_ rfl
  simp only [Try.ntmps27, List.size_toArray, List.length_cons, List.length_nil, Nat.reduceAdd, Nat.reduceSub, Array.replicate_succ, Array.replicate_zero, List.push_toArray, List.append_toArray, List.nil_append, List.cons_append]
  gi_wp2_with (refine ⟨trivial, ?_⟩; gi_at_call 28; refine (callsIn_wide.2 (each_any A n c _)).mono ?_; rintro e w' ⟨rfl, rfl⟩)
  have bO := Boxed.new w 35 (.slice none 0 0)
  have bE := Boxed.new (w.alloc (.cells #[.slice none 0 0] 35)) 3 (.int .i64 0)
  have bB := Boxed.new ((w.alloc (.cells #[.slice none 0 0] 35)).alloc (.cells #[.int .i64 0] 3)) 22 (.slice A n c)
  simp only [World.size_alloc] at bE bB
  have hB0 : Below w.heap.size w (((w.alloc (.cells #[.slice none 0 0] 35)).alloc (.cells #[.int .i64 0] 3)).alloc (.cells #[.slice A n c] 22)) := (((Below.refl _ w).alloc (Nat.le_refl _) _).alloc (by simp) _).alloc (by simp; omega) _
  have hz0 : (((w.alloc (.cells #[.slice none 0 0] 35)).alloc (.cells #[.int .i64 0] 3)).alloc (.cells #[.slice A n c] 22)).heap.size = w.heap.size + 3 := by simp
  obtain ⟨W0, hW0⟩ : ∃ W0, W0 = (((w.alloc (.cells #[.slice none 0 0] 35)).alloc (.cells #[.int .i64 0] 3)).alloc (.cells #[.slice A n c] 22)) := ⟨_, rfl⟩
  rw [← hW0] at hB0 hz0 bB ⊢
  have bO0 : Boxed W0 w.heap.size 35 (.slice none 0 0) := by rw [hW0]; exact (bO.alloc _).alloc _
  have bE0 : Boxed W0 (w.heap.size + 1) 3 (.int .i64 0) := by rw [hW0]; exact bE.alloc _
  clear bO bE hW0
  refine wp_range (gf := 58) (lb := #[.pointer (some ⟨w.heap.size + 1 + 1, 0, none⟩)]) rfl (enters_of Try.func58 (by kernel_rfl) rfl) (encs := fun x : El => #[.int .i64 (x.k : Int), .slice x.A x.p.length x.c]) (M := KeptM w.heap.size (w.heap.size + 1 + 1)) (T := StepT) (R := RecR b) (S := AllS b)
    (fun W hbW hsW => each1_any b n HN.out A c w.heap.size (w.heap.size + 1 + 1) hA hc hl W (hr.below (hB0.trans (hbW.mono (by omega)))) (by omega) ((hbW.block _ (by omega)).trans bB))
    (by unfold KeptM; omega) (fun W1 W2 k o ht _ ho => (ht.block k (Array.getElem?_eq_some_iff.1 ho).1).trans ho) (fun pre x W1 W2 W3 ⟨h1, h2⟩ hs => ⟨hs.own h1, h2⟩) (fun _ => rfl)
    (ScanI w) (fun _ _ _ => False) (fun s W W' h hs => h.sm hs (by omega)) (fun _ _ _ _ h _ => h)
    ⟨⟨none, 0, bO0, Own.nil_ _ _ _ _⟩, bE0, Els.nil_ _ _, hB0⟩
    (fun x => { tmps := #[.slice A n c, undef, .slice none 0 0, .int .i64 0, .pointer (some ⟨w.heap.size, 0, none⟩), .pointer (some ⟨w.heap.size + 1, 0, none⟩), .int .i64 x.k, .slice x.A x.p.length x.c, .slice A n c, .func (.func 58) #[] #[.pointer (some ⟨w.heap.size + 1 + 1, 0, none⟩)], .int .i64 x.k, .slice x.A x.p.length x.c, undef, undef, undef, undef, undef, undef, undef], defers := [] }) ?assign ?body ?done ?stop
  case assign =>
    intro l x W K hK
    gi_wp2
    exact hK
  case body =>
    intro l pre x W1 W2 W hI ht hs hR h1 h2
    have hI1 := hI
    obtain ⟨_, _, hels1, _⟩ := hI1
    obtain ⟨⟨O, co, bo, ho⟩, be, hels, hbel⟩ := hI.sm ((Sm.of_below ht).trans hs) (by omega : w.heap.size ≤ W0.heap.size)
    have hlen := hR.len
    have hx := hR.1
    have HR := Lib.hid hR
    clear hR hI
    have hco := bo.cell
    have hsz : w.heap.size + 5 ≤ W.heap.size := by omega
    have hsz1 : w.heap.size + 5 ≤ W1.heap.size := by omega
    gi_wp2_with (gi_at_builtin; refine wpListIn_app_new rfl (.tmp 12) (.tmp 14) 35 rfl (w.heap.size + 5) 22 1 24 Try.el35 O pre.length co (pre.map El.v) rfl ho #[.slice x.A x.p.length x.c] W.heap.size 1 1 rfl rfl rfl (el_one x) (pre.length + 1) ((pre ++ [x]).map El.v) rfl (by simp [El.v]) (by omega) (by unfold maxLen; omega) hsz ?_; intro O2 c2 w1 ho2 hg2 hat2; have bo1 := Boxed.kept bo hg2 (Ne.symm (ho.blk_low (by omega))); have be1 := Boxed.kept be hg2 (Ne.symm (ho.blk_low (by omega))); have hc1 := bo1.cell; have hf1 := bo1.frozen; have hc2 := be1.cell; have hf2 := be1.frozen)
    have hz0' := hz0
    refine rPost_normal ((((Kp.refl _ W).grown hg2 ?_).setCell (p := ⟨w.heap.size, 0, none⟩) ?_ _).setCell (p := ⟨w.heap.size + 1, 0, none⟩) ?_ _) ⟨⟨O2, c2, ?_, ?_⟩, ?_, ?_, ?_⟩
    · intro k hk
      have := (ho.blk_ge hk).1
      unfold KeptM
      omega
    · unfold KeptM
      simp only
      omega
    · unfold KeptM
      simp only
      omega
    · rw [show (pre ++ [x]).length = pre.length + 1 by simp]
      exact Boxed.other (Boxed.set _ bo1) (by omega) _
    · rw [show (pre ++ [x]).length = pre.length + 1 by simp]
      exact (ho2.setCell_low (by simp only; omega) _).setCell_low (by simp only; omega) _
    · rw [List.map_append, List.map_cons, List.map_nil, lastK_snoc]
      exact Boxed.set _ (Boxed.other be1 (by omega) _)
    · refine Els.snoc (hels.map_ fun y hy => ?_) hels1 ?_ hsz1
      · exact ((hy.other ho (by decide) hg2).setCell_low (by simp only; omega) _).setCell_low (by simp only; omega) _
      · exact ((hx.other ho (by decide) hg2).setCell_low (by simp only; omega) _).setCell_low (by simp only; omega) _
    · exact ((hbel.grown hg2 hbel.size fun k hk => by have := (ho.blk_ge hk).1; omega).setCell (p := ⟨w.heap.size, 0, none⟩) (Nat.le_refl _) _).setCell (p := ⟨w.heap.size + 1, 0, none⟩) (by simp) _
  case done =>
    intro xs W1 W2 W hS hI ht hs hD
    obtain ⟨⟨O, co, bo, ho⟩, be, hels, hbel⟩ := hI.sm ((Sm.of_below ht).trans hs) (by omega : w.heap.size ≤ W0.heap.size)
    have hc1 := bo.cell
    have hc2 := be.cell
    clear hI
    gi_wp2
    gi_region
    all_goals gi_wp2
    refine ⟨by simp, .inl ⟨_, _, rfl, run_takeDeferred (w := W.drew) hD, ?_⟩⟩
    have sm : Sm w.heap.size W (W.drew.putObj W0.heap.size (.deferred none)) := (⟨rfl, rfl, rfl, Nat.le_refl _, fun _ _ h _ => h⟩ : Sm w.heap.size W W.drew).trans (.put (W := W.drew) hD rfl (by omega) _)
    refine ⟨.tuple #[.slice O xs.length co, .int .i64 (lastK (xs.map El.g))], by simp [results, Try.f27, go_sem], O, co, xs, ?_, (sm.own ho).base_le (by omega), hS, hels.map_ fun x hx => (sm.own hx).base_le (by omega), sm.below hbel (Nat.le_refl _) hbel.size⟩
    rw [← hS]
  case stop =>
    intro c pre W h _
    exact h.elim

end Go.Proofs.Ytbhjcfhpabnadaa
