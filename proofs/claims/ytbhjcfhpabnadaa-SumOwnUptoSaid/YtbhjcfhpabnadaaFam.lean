/-
  A family of rows of bytes, each in a block of its own. No program's code in sight.
-/
import Derived.Test.YtbhjcfhpabnadaaFramedW
import Derived.Test.YtbhjcfhpabnadaaParts
namespace Go.Proofs.Ytbhjcfhpabnadaa
open Go.RowKit

/-- A slice value. -/
structure En where
  A : Option Addr
  n : Nat
  c : Nat
def En.v (e : En) : Value := .slice e.A e.n e.c
def vals (V : Nat → En) (N : Nat) : List Value := (List.range N).map fun i => (V i).v
def updV (V : Nat → En) (t : Nat) (e : En) : Nat → En := fun i => if i = t then e else V i
def updX (X : Nat → List Value) (t : Nat) (xs : List Value) : Nat → List Value := fun i => if i = t then xs else X i

theorem vals_len (V : Nat → En) (N : Nat) : (vals V N).length = N := by simp [vals]
theorem vals_get (V : Nat → En) {N j : Nat} (h : j < N) : (vals V N)[j]? = some (V j).v := by simp [vals, h]
theorem vals_succ (V : Nat → En) (N : Nat) : vals V (N + 1) = vals V N ++ [(V N).v] := by simp [vals, List.range_succ]
theorem vals_congr {V V' : Nat → En} {N : Nat} (h : ∀ i, i < N → V' i = V i) : vals V' N = vals V N := by
  unfold vals
  refine List.map_congr_left fun i hi => ?_
  rw [h i (List.mem_range.1 hi)]
theorem updV_at (V : Nat → En) (t : Nat) (e : En) : updV V t e t = e := by simp [updV]
theorem updV_ne (V : Nat → En) {t i : Nat} (e : En) (h : i ≠ t) : updV V t e i = V i := by simp [updV, h]
theorem updX_at (X : Nat → List Value) (t : Nat) (e : List Value) : updX X t e t = e := by simp [updX]
theorem updX_ne (X : Nat → List Value) {t i : Nat} (e : List Value) (h : i ≠ t) : updX X t e i = X i := by simp [updX, h]
theorem vals_upd (V : Nat → En) (N : Nat) (e : En) : vals (updV V N e) (N + 1) = vals V N ++ [e.v] := by
  rw [vals_succ, updV_at, vals_congr fun i hi => updV_ne V e (by omega)]
theorem En.one (e : En) : ∀ u ∈ (#[e.v] : Array Value).toList, u.oneCell' = true := by simp [Value.oneCell', En.v]

structure Fam (w : World) (B N : Nat) (V : Nat → En) (X : Nat → List Value) : Prop where
  own : ∀ i, i < N → Own w B 5 1 (V i).A (V i).n (V i).c (X i)
  le : ∀ i, i < N → (V i).n ≤ 16777216
  dis : ∀ i j, i < N → j < N → i ≠ j → ∀ k, blk (V i).A = some k → blk (V j).A ≠ some k

section
variable {w w' : World} {B N : Nat} {V : Nat → En} {X : Nat → List Value}

theorem Fam.nil_ (w : World) (B : Nat) (V : Nat → En) (X : Nat → List Value) : Fam w B 0 V X := ⟨fun i h => by omega, fun i h => by omega, fun i j h => by omega⟩
theorem Fam.map_ (h : Fam w B N V X) (hm : ∀ i, i < N → Own w B 5 1 (V i).A (V i).n (V i).c (X i) → Own w' B 5 1 (V i).A (V i).n (V i).c (X i)) : Fam w' B N V X :=
  ⟨fun i hi => hm i hi (h.own i hi), h.le, h.dis⟩
theorem Fam.below (h : Fam w B N V X) (hb : Below w.heap.size w w') : Fam w' B N V X := h.map_ fun _ _ ho => ho.below hb (Nat.le_refl _)
theorem Fam.mono {N' : Nat} (h : Fam w B N V X) (hN : N' ≤ N) : Fam w B N' V X :=
  ⟨fun i hi => h.own i (by omega), fun i hi => h.le i (by omega), fun i j hi hj => h.dis i j (by omega) (by omega)⟩
theorem Fam.other (h : Fam w B N V X) {base e size n c : Nat} {A : Option Addr} {xs : List Value} (ho : Own w base e size A n c xs) (he : e ≠ 5) (hg : w.grownBy w' (blk A)) : Fam w' B N V X :=
  h.map_ fun _ _ hi => hi.kept hg (hi.ne_ ho (Ne.symm he))
theorem Fam.congr {V' : Nat → En} {X' : Nat → List Value} (h : Fam w B N V X) (hV : ∀ i, i < N → V' i = V i) (hX : ∀ i, i < N → X' i = X i) : Fam w B N V' X' :=
  ⟨fun i hi => by rw [hV i hi, hX i hi]; exact h.own i hi, fun i hi => by rw [hV i hi]; exact h.le i hi, fun i j hi hj => by rw [hV i hi, hV j hj]; exact h.dis i j hi hj⟩
theorem Own.blk_lt {base e size n c k : Nat} {A : Option Addr} {xs : List Value} (h : Own w base e size A n c xs) (hk : blk A = some k) : k < w.heap.size := (h.blk_ge hk).2

theorem Fam.snoc (h : Fam w B N V X) (hb : Below w.heap.size w w') {e : En} {xs : List Value} (ho : Own w' w.heap.size 5 1 e.A e.n e.c xs) (hn : e.n ≤ 16777216) (hB : B ≤ w.heap.size) : Fam w' B (N + 1) (updV V N e) (updX X N xs) := by
  have h1 := h.below hb
  refine ⟨fun i hi => ?_, fun i hi => ?_, fun i j hi hj hne k hk => ?_⟩
  · by_cases hN : i = N
    · subst hN; rw [updV_at, updX_at]; exact ho.base_le hB
    · rw [updV_ne V e hN, updX_ne X xs hN]; exact h1.own i (by omega)
  · by_cases hN : i = N
    · subst hN; rw [updV_at]; exact hn
    · rw [updV_ne V e hN]; exact h.le i (by omega)
  · by_cases hN : i = N
    · subst hN
      rw [updV_at] at hk
      rw [updV_ne V e (by omega)]
      intro hk2
      have := (ho.blk_ge hk).1
      have := (h.own j (by omega)).blk_lt hk2
      omega
    · rw [updV_ne V e hN] at hk
      by_cases hM : j = N
      · subst hM
        rw [updV_at]
        intro hk2
        have := (ho.blk_ge hk2).1
        have := (h.own i (by omega)).blk_lt hk
        omega
      · rw [updV_ne V e hM]
        exact h.dis i j (by omega) (by omega) hne k hk

/-- Many new rows at once. -/
theorem Fam.adds (h : Fam w B N V X) (hb : Below w.heap.size w w') (els : List El) (he : Els w' w.heap.size els) (hn : ∀ x ∈ els, x.p.length ≤ 16777216) (hB : B ≤ w.heap.size) :
    ∃ V' X', Fam w' B (N + els.length) V' X' ∧ (∀ i, i < N → V' i = V i) ∧ ∀ j, (hj : j < els.length) → (V' (N + j)).v = els[j].v := by
  have h1 := h.below hb
  obtain ⟨V', hV⟩ : ∃ V' : Nat → En, V' = fun i => if hi : i < N then V i else if hj : i - N < els.length then ⟨els[i - N].A, els[i - N].p.length, els[i - N].c⟩ else ⟨none, 0, 0⟩ := ⟨_, rfl⟩
  obtain ⟨X', hX⟩ : ∃ X' : Nat → List Value, X' = fun i => if hi : i < N then X i else if hj : i - N < els.length then bv els[i - N].p else [] := ⟨_, rfl⟩
  have v1 : ∀ i, i < N → V' i = V i := fun i hi => by rw [hV]; simp [hi]
  have x1 : ∀ i, i < N → X' i = X i := fun i hi => by rw [hX]; simp [hi]
  have v2 : ∀ j (hj : j < els.length), V' (N + j) = ⟨els[j].A, els[j].p.length, els[j].c⟩ := fun j hj => by rw [hV]; simp [hj, show ¬ N + j < N by omega]
  have x2 : ∀ j (hj : j < els.length), X' (N + j) = bv els[j].p := fun j hj => by rw [hX]; simp [hj, show ¬ N + j < N by omega]
  have up : ∀ i, N ≤ i → ∃ j, i = N + j := fun i hi => ⟨i - N, by omega⟩
  have bl : ∀ j (hj : j < els.length) k, blk (V' (N + j)).A = some k → w.heap.size ≤ k := fun j hj k hk => by
    rw [v2 j hj] at hk
    exact ((he.1 els[j] (List.getElem_mem hj)).blk_ge hk).1
  have pw := List.pairwise_iff_getElem.1 he.2
  refine ⟨V', X', ⟨fun i hi => ?_, fun i hi => ?_, fun i j hi hj hne k hk hk2 => ?_⟩, v1, fun j hj => ?_⟩
  · by_cases hN : i < N
    · rw [v1 i hN, x1 i hN]; exact h1.own i hN
    · obtain ⟨j, rfl⟩ := up i (by omega)
      rw [v2 j (by omega), x2 j (by omega)]
      exact (he.1 els[j] (List.getElem_mem (by omega))).base_le hB
  · by_cases hN : i < N
    · rw [v1 i hN]; exact h.le i hN
    · obtain ⟨j, rfl⟩ := up i (by omega)
      rw [v2 j (by omega)]
      exact hn els[j] (List.getElem_mem (by omega))
  · by_cases hN : i < N
    · rw [v1 i hN] at hk
      by_cases hM : j < N
      · rw [v1 j hM] at hk2
        exact h.dis i j hN hM hne k hk hk2
      · obtain ⟨t, rfl⟩ := up j (by omega)
        have := bl t (by omega) k hk2
        have := (h.own i hN).blk_lt hk
        omega
    · obtain ⟨s, rfl⟩ := up i (by omega)
      by_cases hM : j < N
      · rw [v1 j hM] at hk2
        have := bl s (by omega) k hk
        have := (h.own j hM).blk_lt hk2
        omega
      · obtain ⟨t, rfl⟩ := up j (by omega)
        rw [v2 s (by omega)] at hk
        rw [v2 t (by omega)] at hk2
        simp only at hk hk2
        rcases Nat.lt_or_ge s t with hst | hst
        · rcases pw s t (by omega) (by omega) hst with h0 | h0
          · rw [h0] at hk; cases hk
          · exact h0 (hk.trans hk2.symm)
        · rcases pw t s (by omega) (by omega) (by omega) with h0 | h0
          · rw [h0] at hk2; cases hk2
          · exact h0 (hk2.trans hk.symm)
  · rw [v2 j hj]; rfl

theorem gr_set (w : World) (p : Addr) (u : Value) : w.grownBy (w.setCell p u) (some p.block) :=
  ⟨rfl, rfl, rfl, by simp [World.setCell], fun k _ hne => Below.heap_setCell _ _ _ _ (fun e => hne (by rw [e]))⟩

/-- A cell of the row t is written over. -/
theorem Fam.set (h : Fam w B N V X) {t g j : Nat} (ht : t < N) (hA : (V t).A = some ⟨g, 0, none⟩) (u : Value) : Fam (w.setCell ⟨g, j, none⟩ u) B N V (updX X t ((X t).set j u)) := by
  refine ⟨fun i hi => ?_, h.le, h.dis⟩
  by_cases hN : i = t
  · subst hN
    rw [updX_at]
    have h0 := h.own i hi
    rw [hA] at h0 ⊢
    exact (World.ownsRow.stored h0 j u).1
  · rw [updX_ne X _ hN]
    refine (h.own i hi).kept (gr_set w ⟨g, j, none⟩ u) (.inr ?_)
    intro e
    exact h.dis i t hi ht hN g e (by rw [hA]; rfl)

theorem Fam.cell (h : Fam w B N V X) {t g j : Nat} (ht : t < N) (hA : (V t).A = some ⟨g, 0, none⟩) {u : Value} (hu : (X t)[j]? = some u) : w.cell? ⟨g, j, none⟩ = some u := by
  have h0 := h.own t ht
  rw [hA] at h0
  obtain ⟨a, ha, _, hc⟩ := h0.rd j u hu
  obtain rfl := Option.some.inj ha
  rw [Addr.add_lit, Nat.zero_add] at hc
  exact hc
theorem Fam.free (h : Fam w B N V X) {t g : Nat} (ht : t < N) (hA : (V t).A = some ⟨g, 0, none⟩) (j : Nat) : w.frozen? ⟨g, j, none⟩ = false := by
  have h0 := h.own t ht
  rw [hA] at h0
  exact World.ownsRow.frozenAt h0 j
theorem Fam.some_ (h : Fam w B N V X) {t : Nat} (ht : t < N) (h0 : 0 < (V t).n) : ∃ g, (V t).A = some ⟨g, 0, none⟩ ∧ B ≤ g ∧ g < w.heap.size := by
  obtain ⟨g, e, h1, h2, _⟩ := (h.own t ht).form_pos h0
  exact ⟨g, e, h1, h2⟩
theorem Fam.len (h : Fam w B N V X) {t : Nat} (ht : t < N) : (X t).length = (V t).n := by simpa using (h.own t ht).len
end

/-- append, and what lies of the old row behind it. -/
theorem run_app2 {P : Program} (w : World) (base t ty e : Nat) (size bytes : Nat) (el : Elem P t e size bytes) (A : Option Addr) (n c : Nat) (xs : List Value) (hown : Own w base e size A n c xs)
    (B : Nat) (S : Option Addr) (m k : Nat) (news : List Value) (hr : Rd w B S news) (hl : news.length = m * size) (h1 : ∀ u ∈ news, u.oneCell' = true)
    (hbytes : (n + m) * bytes ≤ 140737488355328) (h63 : n + m ≤ maxLen) (hbase : base ≤ w.heap.size) :
    ∃ A' c' w', (Builtin.append_ #[t, t] ty #[.slice A n c, .slice S m k]).run P w = .ok (.slice A' (n + m) c') w' ∧ Own w' base e size A' (n + m) c' (xs ++ news) ∧ w.grownBy w' (blk A) ∧
      (A' = A ∨ (blk A' = some w.heap.size ∧ Below w.heap.size w w')) := by
  obtain ⟨A', c', w', hrun, h2, h3, h4⟩ := run_app (P := P) w base t ty e size bytes el A n c xs hown B S m k news hr hl h1 hbytes h63 hbase
  refine ⟨A', c', w', hrun, h2, h3, ?_⟩
  rcases hown.form with ⟨rfl, rfl, rfl⟩ | ⟨g, rfl, hb, hlt, hc⟩
  · rcases h4 with h4 | h4
    · left
      cases A' with
      | none => rfl
      | some a => cases h4
    · exact .inr ⟨h4, h3.os, h3.tape, h3.output, h3.size, fun k hk => h3.block k hk (by simp [blk])⟩
  · rcases h4 with h4 | h4
    · left
      rcases h2.form with ⟨rfl, _, _⟩ | ⟨g', rfl, _, _, _⟩
      · cases h4
      · simp only [blk, Option.map_some, Option.some.injEq] at h4
        rw [h4]
    · right
      refine ⟨h4, h3.os, h3.tape, h3.output, h3.size, fun q hq => ?_⟩
      by_cases hqg : q = g
      · subst hqg
        obtain ⟨i, z, hi, hz, hs, hbz, hzs⟩ := el.inf
        rcases S with _ | ad
        · have hnone := run_app_none (P := P) w base t ty e size bytes el (some ⟨q, 0, none⟩) n c xs hown k
          have hm : m = 0 := by
            have hn : news = [] := by
              cases news with
              | nil => rfl
              | cons u us => obtain ⟨a, h, _⟩ := hr 0 u rfl; cases h
            subst hn
            rcases Nat.eq_zero_or_pos m with h0 | h0
            · exact h0
            · have := Nat.mul_pos h0 el.pos
              simp at hl
              omega
          subst hm
          rw [hnone] at hrun
          injection hrun with _ e2
          rw [e2]
        · have hnews : ∀ j u, news[j]? = some u → w.cell? (ad.add j) = some u := fun j u hu => by
            obtain ⟨a, h, _, hc⟩ := hr j u hu
            injection h with h
            subst h
            exact hc
          have hown2 := hown.2
          rcases hown2 with ⟨hv, _⟩ | ⟨g2, cap, cur, hv, _, hgc, hnc, hcm, hcs, hx⟩
          · cases hv
          · injection hv with e1 e2 e3
            injection e1 with e1
            injection e1 with e1 _
            subst e1 e3
            by_cases hroom : n + m ≤ c
            · exfalso
              have hfit : n * i.size + news.length ≤ cur.size := by rw [hl, hcs, hs, ← Nat.add_mul]; exact Nat.mul_le_mul_right _ hroom
              have hr2 := run_append_room (P := P) w t ty e i el.und hi q n c cur hgc ad m k news (by rw [hs]; exact hl) hnews h1 hroom hfit
              rw [hrun] at hr2
              injection hr2 with e4 _
              injection e4 with e4 _ _
              subst e4
              simp [blk] at h4
              omega
            · have hr2 := run_append_grow (P := P) w t ty e i z el.und hi hz ⟨q, 0, none⟩ n c xs (by rw [hs]; exact hown.len) (World.ownsRow.cells hown (g := q) rfl) ad m k news (by rw [hs]; exact hl) hnews (by omega) (by simp only [maxLen] at h63; omega) (growslice_fits (by omega) (by rw [hbz]; exact hbytes))
              rw [hrun] at hr2
              injection hr2 with _ e5
              rw [e5]
              exact Below.heap_alloc w.drew _ q hlt
      · exact h3.block q hq (by simp [blk]; omega)

theorem wpList_app_new2 {P : Program} {w0 : World} {ops : Array Oper} {rest : List Oper} {o : Oper} {a : Act} {Q : Exit → Act → World → Prop} (hgd : o.guard = none) (s x : Operand) (t : TypeId)
    (ho : o.op = .call { callee := .builtin .append, args := #[s, x], argTypes := #[t, t] })
    (base e size bytes : Nat) (el : Elem P t e size bytes) (A : Option Addr) (n c : Nat) (xs : List Value) (hs : a.eval s = .slice A n c) (hown : Own w0 base e size A n c xs)
    (cs : Array Value) (g m k : Nat) (hg : g = w0.heap.size) (hx : a.eval x = .slice (some ⟨g, 0, none⟩) m k) (hl : cs.size = m * size) (h1 : ∀ u ∈ cs.toList, u.oneCell' = true)
    (N : Nat) (zs : List Value) (hN : n + m = N) (hzs : xs ++ cs.toList = zs)
    (hbytes : N * bytes ≤ 140737488355328) (h63 : N ≤ maxLen) (hbase : base ≤ w0.heap.size)
    (h : ∀ A' c' w', Own w' base e size A' N c' zs → w0.grownBy w' (blk A) → (A' = A ∨ (blk A' = some (w0.heap.size + 1) ∧ Below w0.heap.size w0 w')) → wpList P ops Q rest (a.put o.dst (.slice A' N c')) w') : wpList P ops Q (o :: rest) a (w0.alloc (.cells cs e)) := by
  subst hg hN hzs
  refine wpList_plain hgd fun K hK => ?_
  have hr : Rd (w0.alloc (.cells cs e)) (w0.heap.size + 1) (some ⟨w0.heap.size, 0, none⟩) cs.toList := fun j u hu => by
    refine ⟨_, rfl, by simp, ?_⟩
    rw [Addr.add_lit, Nat.zero_add, World.cell?_alloc_new]
    simpa using hu
  obtain ⟨A', c', w', hrun, h2, h3, h4⟩ := run_app2 (P := P) (w0.alloc (.cells cs e)) base t o.type e size bytes el A n c xs (hown.alloc _) (w0.heap.size + 1) _ m k cs.toList hr (by simpa using hl) h1 hbytes h63 (by simp; omega)
  unfold Oper.wp execOp
  simp only [ho, resolve, invoke, builtin, Sem.run_bind, Sem.run_pure, Result.andThen_ok, List.map_toArray, List.map_cons, List.map_nil, hs, hx, hrun]
  refine hK _ _ (h A' c' w' h2 ((World.grownBy_alloc w0 _ _).trans h3) ?_)
  rcases h4 with h4 | ⟨h4, h5⟩
  · exact .inl h4
  · exact .inr ⟨by simpa using h4, ((Below.refl _ w0).alloc (Nat.le_refl _) _).trans (h5.mono (by simp))⟩

theorem Own.shrink1 {w : World} {base n c m : Nat} {A : Option Addr} {xs : List Value} (h : Own w base 5 1 A n c xs) (hm : m ≤ n) : Own w base 5 1 A m c (xs.take m) := by
  refine ⟨by rw [List.length_take, h.len]; omega, ?_⟩
  rcases h.2 with ⟨hv, h0⟩ | ⟨g, cap, cur, hv, hb, hg, hc, hm2, hcs, hx⟩
  · injection hv with h1 h2 h3
    subst h1 h3
    have : m = 0 := by omega
    subst this
    exact .inl ⟨rfl, rfl⟩
  · injection hv with h1 h2 h3
    subst h1 h3
    refine .inr ⟨g, c, cur, rfl, hb, hg, by omega, hm2, hcs, ?_⟩
    rw [← hx, List.take_take]
    congr 1
    omega

/-- Rows that were written full of x i, of which m i values y i more were appended; what V says lies. -/
structure Gro (w : World) (B N : Nat) (V C : Nat → En) (m : Nat → Nat) (x y : Nat → Value) : Prop where
  own : ∀ i, i < N → Own w B 5 1 (C i).A ((V i).n + m i) (C i).c (List.replicate (V i).n (x i) ++ List.replicate (m i) (y i))
  num : ∀ i, i < N → (C i).n = (V i).n + m i
  old : ∀ i, i < N → ∃ c, Own w B 5 1 (V i).A (V i).n c (List.replicate (V i).n (x i))
  dis : ∀ i j, i < N → j < N → i ≠ j → ∀ k, blk (C i).A = some k → blk (C j).A ≠ some k
  sep : ∀ i j, i < N → j < N → i ≠ j → ∀ k, blk (V i).A = some k → blk (C j).A ≠ some k

theorem Gro.init {w : World} {B N : Nat} {V : Nat → En} {X : Nat → List Value} {x : Nat → Value} (y : Nat → Value) (h : Fam w B N V X) (hx : ∀ i, i < N → ∀ k, k < (V i).n → (X i)[k]? = some (x i)) : Gro w B N V V (fun _ => 0) x y := by
  have e : ∀ i, i < N → X i = List.replicate (V i).n (x i) := fun i hi => by
    refine List.ext_getElem? fun k => ?_
    by_cases hk : k < (V i).n
    · rw [hx i hi k hk, List.getElem?_replicate, if_pos hk]
    · rw [List.getElem?_eq_none (by rw [h.len hi]; omega), List.getElem?_replicate, if_neg hk]
  refine ⟨fun i hi => ?_, fun i hi => rfl, fun i hi => ⟨(V i).c, ?_⟩, h.dis, h.dis⟩
  · simpa [e i hi] using h.own i hi
  · rw [← e i hi]; exact h.own i hi

theorem Gro.other {w w' : World} {B N : Nat} {V C : Nat → En} {m : Nat → Nat} {x y : Nat → Value} (h : Gro w B N V C m x y) {base e size n c : Nat} {A : Option Addr} {xs : List Value} (ho : Own w base e size A n c xs) (he : e ≠ 5) (hg : w.grownBy w' (blk A)) : Gro w' B N V C m x y :=
  ⟨fun i hi => (h.own i hi).kept hg ((h.own i hi).ne_ ho (Ne.symm he)), h.num, fun i hi => by obtain ⟨c, hc⟩ := h.old i hi; exact ⟨c, hc.kept hg (hc.ne_ ho (Ne.symm he))⟩, h.dis, h.sep⟩

theorem Gro.step {w w' : World} {B N : Nat} {V C : Nat → En} {m : Nat → Nat} {x y : Nat → Value} (h : Gro w B N V C m x y) {t n' c' : Nat} {A' : Option Addr} (ht : t < N) (hn : n' = (V t).n + (m t + 1)) (ho : Own w' B 5 1 A' n' c' ((List.replicate (V t).n (x t) ++ List.replicate (m t) (y t)) ++ [y t]))
    (hg : w.grownBy w' (blk (C t).A)) (hA : A' = (C t).A ∨ (blk A' = some (w.heap.size + 1) ∧ Below w.heap.size w w')) :
    Gro w' B N V (updV C t ⟨A', n', c'⟩) (fun i => if i = t then m t + 1 else m i) x y := by
  subst hn
  have hlt : ∀ i, i < N → ∀ k, blk (C i).A = some k → k < w.heap.size := fun i hi k hk => (h.own i hi).blk_lt hk
  have hltv : ∀ i, i < N → ∀ k, blk (V i).A = some k → k < w.heap.size := fun i hi k hk => by obtain ⟨c, hc⟩ := h.old i hi; exact hc.blk_lt hk
  have hA2 : ∀ k, blk A' = some k → blk (C t).A = some k ∨ k = w.heap.size + 1 := fun k hk => by
    rcases hA with rfl | ⟨h1, _⟩
    · exact .inl hk
    · rw [h1] at hk; cases hk; exact .inr rfl
  refine ⟨fun i hi => ?_, fun i hi => ?_, fun i hi => ?_, fun i j hi hj hne k hk hk2 => ?_, fun i j hi hj hne k hk hk2 => ?_⟩
  · by_cases hit : i = t
    · subst hit
      rw [updV_at]
      simp only [if_true]
      rw [List.replicate_succ', ← List.append_assoc]
      exact ho
    · rw [updV_ne C _ hit]
      simp only [hit, if_false]
      refine (h.own i hi).kept hg ?_
      cases hb : blk (C i).A with
      | none => left; cases hA0 : (C i).A with
        | none => rfl
        | some a => rw [hA0] at hb; cases hb
      | some k => right; intro e; exact h.dis i t hi ht hit k hb e.symm
  · by_cases hit : i = t
    · subst hit
      rw [updV_at]
      simp
    · rw [updV_ne C _ hit]
      simp only [hit, if_false]
      exact h.num i hi
  · obtain ⟨c0, hc0⟩ := h.old i hi
    by_cases hit : i = t
    · subst hit
      rcases hA with rfl | ⟨_, hb⟩
      · rcases hc0.form with ⟨h1, h2, _⟩ | ⟨g, h1, _, hgl, _⟩
        · exact ⟨c0, hc0.kept hg (.inl h1)⟩
        · by_cases hgg : blk (C i).A = some g
          · have e1 : (C i).A = (V i).A := by
              rw [h1]
              rcases (h.own i hi).form with ⟨h3, _, _⟩ | ⟨g2, h3, _, _, _⟩
              · rw [h3] at hgg; cases hgg
              · rw [h3] at hgg ⊢
                simp only [blk, Option.map_some, Option.some.injEq] at hgg
                rw [hgg]
            refine ⟨c', ?_⟩
            have h4 := ho.shrink1 (m := (V i).n) (by omega)
            rw [e1] at h4
            rwa [List.append_assoc, List.take_append_of_le_length (by simp), List.take_of_length_le (by simp)] at h4
          · exact ⟨c0, hc0.kept hg (.inr (by rw [h1]; intro e; exact hgg (e.symm.trans rfl)))⟩
      · exact ⟨c0, hc0.below hb (Nat.le_refl _)⟩
    · refine ⟨c0, hc0.kept hg ?_⟩
      cases hb : blk (V i).A with
      | none => left; cases hA0 : (V i).A with
        | none => rfl
        | some a => rw [hA0] at hb; cases hb
      | some k => right; intro e; exact h.sep i t hi ht hit k hb e.symm
  · by_cases hit : i = t
    · subst hit
      rw [updV_at] at hk
      rw [updV_ne C _ (Ne.symm hne)] at hk2
      rcases hA2 k hk with h1 | rfl
      · exact h.dis i j hi hj hne k h1 hk2
      · have := hlt j hj _ hk2; omega
    · rw [updV_ne C _ hit] at hk
      by_cases hjt : j = t
      · subst hjt
        rw [updV_at] at hk2
        rcases hA2 k hk2 with h1 | rfl
        · exact h.dis i j hi hj hne k hk h1
        · have := hlt i hi _ hk; omega
      · rw [updV_ne C _ hjt] at hk2
        exact h.dis i j hi hj hne k hk hk2
  · by_cases hjt : j = t
    · subst hjt
      rw [updV_at] at hk2
      rcases hA2 k hk2 with h1 | rfl
      · exact h.sep i j hi hj hne k hk h1
      · have := hltv i hi _ hk; omega
    · rw [updV_ne C _ hjt] at hk2
      exact h.sep i j hi hj hne k hk hk2

theorem own_at {w : World} {B e n c j : Nat} {A : Option Addr} {xs : List Value} (h : Own w B e 1 A n c xs) {u : Value} (hu : xs[j]? = some u) : ∃ g, A = some ⟨g, 0, none⟩ ∧ w.cell? ⟨g, j, none⟩ = some u := by
  have hlt := (List.getElem?_eq_some_iff.1 hu).1
  rw [h.len] at hlt
  obtain ⟨g, rfl, _⟩ := h.form_pos (by omega)
  obtain ⟨a, ha, _, hc⟩ := h.rd j u hu
  obtain rfl := Option.some.inj ha
  rw [Addr.add_lit, Nat.zero_add] at hc
  exact ⟨g, rfl, hc⟩

end Go.Proofs.Ytbhjcfhpabnadaa
