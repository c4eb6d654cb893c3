/-
  The walk of FramesOwn: what is gathered lies in blocks of its own, of any type.
-/
import Derived.Test.YtbhjcfhpabnadaaRowW
import Derived.Test.YtbhjcfhpabnadaaOpenT
import Derived.Deep.DeepCutAuto
namespace Go.Proofs.Ytbhjcfhpabnadaa
open Go.RowKit

/-- A slice value. -/
structure En where
  A : Option Addr
  n : Nat
  c : Nat
def En.v (e : En) : Value := .slice e.A e.n e.c
def vals (V : Nat → En) (N : Nat) : List Value := (List.range N).map fun i => (V i).v
def updV (V : Nat → En) (t : Nat) (e : En) : Nat → En := fun i => if i = t then e else V i
def updX (X : Nat → List Value) (t : Nat) (xs : List Value) : Nat → List Value := fun i => if i = t then xs else X i

theorem vals_len (V : Nat → En) (N : Nat) : (vals V N).length = N := by simp [vals]
theorem vals_get (V : Nat → En) {N j : Nat} (h : j < N) : (vals V N)[j]? = some (V j).v := by simp [vals, h]
theorem vals_succ (V : Nat → En) (N : Nat) : vals V (N + 1) = vals V N ++ [(V N).v] := by simp [vals, List.range_succ]
theorem vals_congr {V V' : Nat → En} {N : Nat} (h : ∀ i, i < N → V' i = V i) : vals V' N = vals V N := by
  unfold vals
  refine List.map_congr_left fun i hi => ?_
  rw [h i (List.mem_range.1 hi)]
theorem updV_at (V : Nat → En) (t : Nat) (e : En) : updV V t e t = e := by simp [updV]
theorem updV_ne (V : Nat → En) {t i : Nat} (e : En) (h : i ≠ t) : updV V t e i = V i := by simp [updV, h]
theorem updX_at (X : Nat → List Value) (t : Nat) (e : List Value) : updX X t e t = e := by simp [updX]
theorem updX_ne (X : Nat → List Value) {t i : Nat} (e : List Value) (h : i ≠ t) : updX X t e i = X i := by simp [updX, h]
theorem vals_upd (V : Nat → En) (N : Nat) (e : En) : vals (updV V N e) (N + 1) = vals V N ++ [e.v] := by
  rw [vals_succ, updV_at, vals_congr fun i hi => updV_ne V e (by omega)]
theorem En.one (e : En) : ∀ u ∈ (#[e.v] : Array Value).toList, u.oneCell' = true := by simp [Value.oneCell', En.v]

theorem gr_set (w : World) (p : Addr) (u : Value) : w.grownBy (w.setCell p u) (some p.block) :=
  ⟨rfl, rfl, rfl, by simp [World.setCell], fun k _ hne => Below.heap_setCell _ _ _ _ (fun e => hne (by rw [e]))⟩

section
variable {w : World} {base e n c g j : Nat} {xs : List Value}
theorem Own.at7 (h : Own w base e 7 (some ⟨g, 0, none⟩) n c xs) (hj : j < n) : ∃ u0 u1 u2 u3 u4 u5 u6, w.cell? ⟨g, j * 7, none⟩ = some u0 ∧ w.cell? ⟨g, j * 7 + 1, none⟩ = some u1 ∧ w.cell? ⟨g, j * 7 + 2, none⟩ = some u2 ∧
    w.cell? ⟨g, j * 7 + 3, none⟩ = some u3 ∧ w.cell? ⟨g, j * 7 + 4, none⟩ = some u4 ∧ w.cell? ⟨g, j * 7 + 5, none⟩ = some u5 ∧ w.cell? ⟨g, j * 7 + 6, none⟩ = some u6 := by
  have hl := h.len
  have at_ : ∀ i, i < 7 → ∃ u, w.cell? ⟨g, j * 7 + i, none⟩ = some u := fun i hi => by
    obtain ⟨a, ha, _, hc⟩ := h.rd (j * 7 + i) _ (List.getElem?_eq_getElem (by omega))
    obtain rfl := Option.some.inj ha
    rw [Addr.add_lit, Nat.zero_add] at hc
    exact ⟨_, hc⟩
  obtain ⟨u0, h0⟩ := at_ 0 (by omega)
  obtain ⟨u1, h1⟩ := at_ 1 (by omega)
  obtain ⟨u2, h2⟩ := at_ 2 (by omega)
  obtain ⟨u3, h3⟩ := at_ 3 (by omega)
  obtain ⟨u4, h4⟩ := at_ 4 (by omega)
  obtain ⟨u5, h5⟩ := at_ 5 (by omega)
  obtain ⟨u6, h6⟩ := at_ 6 (by omega)
  exact ⟨u0, u1, u2, u3, u4, u5, u6, h0, h1, h2, h3, h4, h5, h6⟩
theorem Own.free7 (h : Own w base e 7 (some ⟨g, 0, none⟩) n c xs) (i : Nat) : w.frozen? ⟨g, i, none⟩ = false := World.ownsRow.frozenAt h i
theorem Own.set1 (h : Own w base e 7 (some ⟨g, 0, none⟩) n c xs) (i : Nat) (u : Value) : Own (w.setCell ⟨g, i, none⟩ u) base e 7 (some ⟨g, 0, none⟩) n c (xs.set i u) := (World.ownsRow.stored h i u).1
theorem Own.set7 (h : Own w base e 7 (some ⟨g, 0, none⟩) n c xs) (i : Nat) (v0 v1 v2 v3 v4 v5 v6 : Value) :
    Own (((((((w.setCell ⟨g, i, none⟩ v0).setCell ⟨g, i + 1, none⟩ v1).setCell ⟨g, i + 2, none⟩ v2).setCell ⟨g, i + 3, none⟩ v3).setCell ⟨g, i + 4, none⟩ v4).setCell ⟨g, i + 5, none⟩ v5).setCell ⟨g, i + 6, none⟩ v6) base e 7 (some ⟨g, 0, none⟩) n c
      (((((((xs.set i v0).set (i + 1) v1).set (i + 2) v2).set (i + 3) v3).set (i + 4) v4).set (i + 5) v5).set (i + 6) v6) :=
  ((((((h.set1 _ _).set1 _ _).set1 _ _).set1 _ _).set1 _ _).set1 _ _).set1 _ _
theorem Tur.set7 (w : World) (g i : Nat) (v0 v1 v2 v3 v4 v5 v6 : Value) :
    Tur (fun q => q = g) w (((((((w.setCell ⟨g, i, none⟩ v0).setCell ⟨g, i + 1, none⟩ v1).setCell ⟨g, i + 2, none⟩ v2).setCell ⟨g, i + 3, none⟩ v3).setCell ⟨g, i + 4, none⟩ v4).setCell ⟨g, i + 5, none⟩ v5).setCell ⟨g, i + 6, none⟩ v6) := by
  have one := fun (W : World) (i : Nat) (v : Value) => Tur.of_set W ⟨g, i, none⟩ v
  have k := fun (q : Nat) (_ : q < w.heap.size) (h : q = g) => h
  exact ((((((one w i v0).trans (one _ _ v1) k).trans (one _ _ v2) k).trans (one _ _ v3) k).trans (one _ _ v4) k).trans (one _ _ v5) k).trans (one _ _ v6) k
end

/-- append, and what lies of the old row behind it. -/
theorem run_app2 {P : Program} (w : World) (base t ty e : Nat) (size bytes : Nat) (el : Elem P t e size bytes) (A : Option Addr) (n c : Nat) (xs : List Value) (hown : Own w base e size A n c xs)
    (B : Nat) (S : Option Addr) (m k : Nat) (news : List Value) (hr : Rd w B S news) (hl : news.length = m * size) (h1 : ∀ u ∈ news, u.oneCell' = true)
    (hbytes : (n + m) * bytes ≤ 140737488355328) (h63 : n + m ≤ maxLen) (hbase : base ≤ w.heap.size) :
    ∃ A' c' w', (Builtin.append_ #[t, t] ty #[.slice A n c, .slice S m k]).run P w = .ok (.slice A' (n + m) c') w' ∧ Own w' base e size A' (n + m) c' (xs ++ news) ∧ w.grownBy w' (blk A) ∧
      (A' = A ∨ (blk A' = some w.heap.size ∧ Below w.heap.size w w')) := by
  obtain ⟨A', c', w', hrun, h2, h3, h4⟩ := run_app (P := P) w base t ty e size bytes el A n c xs hown B S m k news hr hl h1 hbytes h63 hbase
  refine ⟨A', c', w', hrun, h2, h3, ?_⟩
  rcases hown.form with ⟨rfl, rfl, rfl⟩ | ⟨g, rfl, hb, hlt, hc⟩
  · rcases h4 with h4 | h4
    · left
      cases A' with
      | none => rfl
      | some a => cases h4
    · exact .inr ⟨h4, h3.os, h3.tape, h3.output, h3.size, fun k hk => h3.block k hk (by simp [blk])⟩
  · rcases h4 with h4 | h4
    · left
      rcases h2.form with ⟨rfl, _, _⟩ | ⟨g', rfl, _, _, _⟩
      · cases h4
      · simp only [blk, Option.map_some, Option.some.injEq] at h4
        rw [h4]
    · right
      refine ⟨h4, h3.os, h3.tape, h3.output, h3.size, fun q hq => ?_⟩
      by_cases hqg : q = g
      · subst hqg
        obtain ⟨i, z, hi, hz, hs, hbz, hzs⟩ := el.inf
        rcases S with _ | ad
        · have hnone := run_app_none (P := P) w base t ty e size bytes el (some ⟨q, 0, none⟩) n c xs hown k
          have hm : m = 0 := by
            have hn : news = [] := by
              cases news with
              | nil => rfl
              | cons u us => obtain ⟨a, h, _⟩ := hr 0 u rfl; cases h
            subst hn
            rcases Nat.eq_zero_or_pos m with h0 | h0
            · exact h0
            · have := Nat.mul_pos h0 el.pos
              simp at hl
              omega
          subst hm
          rw [hnone] at hrun
          injection hrun with _ e2
          rw [e2]
        · have hnews : ∀ j u, news[j]? = some u → w.cell? (ad.add j) = some u := fun j u hu => by
            obtain ⟨a, h, _, hc⟩ := hr j u hu
            injection h with h
            subst h
            exact hc
          have hown2 := hown.2
          rcases hown2 with ⟨hv, _⟩ | ⟨g2, cap, cur, hv, _, hgc, hnc, hcm, hcs, hx⟩
          · cases hv
          · injection hv with e1 e2 e3
            injection e1 with e1
            injection e1 with e1 _
            subst e1 e3
            by_cases hroom : n + m ≤ c
            · exfalso
              have hfit : n * i.size + news.length ≤ cur.size := by rw [hl, hcs, hs, ← Nat.add_mul]; exact Nat.mul_le_mul_right _ hroom
              have hr2 := run_append_room (P := P) w t ty e i el.und hi q n c cur hgc ad m k news (by rw [hs]; exact hl) hnews h1 hroom hfit
              rw [hrun] at hr2
              injection hr2 with e4 _
              injection e4 with e4 _ _
              subst e4
              simp [blk] at h4
              omega
            · have hr2 := run_append_grow (P := P) w t ty e i z el.und hi hz ⟨q, 0, none⟩ n c xs (by rw [hs]; exact hown.len) (World.ownsRow.cells hown (g := q) rfl) ad m k news (by rw [hs]; exact hl) hnews (by omega) (by simp only [maxLen] at h63; omega) (growslice_fits (by omega) (by rw [hbz]; exact hbytes))
              rw [hrun] at hr2
              injection hr2 with _ e5
              rw [e5]
              exact Below.heap_alloc w.drew _ q hlt
      · exact h3.block q hq (by simp [blk]; omega)

theorem wpList_app_new2 {P : Program} {w0 : World} {ops : Array Oper} {rest : List Oper} {o : Oper} {a : Act} {Q : Exit → Act → World → Prop} (hgd : o.guard = none) (s x : Operand) (t : TypeId)
    (ho : o.op = .call { callee := .builtin .append, args := #[s, x], argTypes := #[t, t] })
    (base e size bytes : Nat) (el : Elem P t e size bytes) (A : Option Addr) (n c : Nat) (xs : List Value) (hs : a.eval s = .slice A n c) (hown : Own w0 base e size A n c xs)
    (cs : Array Value) (g m k : Nat) (hg : g = w0.heap.size) (hx : a.eval x = .slice (some ⟨g, 0, none⟩) m k) (hl : cs.size = m * size) (h1 : ∀ u ∈ cs.toList, u.oneCell' = true)
    (N : Nat) (zs : List Value) (hN : n + m = N) (hzs : xs ++ cs.toList = zs)
    (hbytes : N * bytes ≤ 140737488355328) (h63 : N ≤ maxLen) (hbase : base ≤ w0.heap.size)
    (h : ∀ A' c' w', Own w' base e size A' N c' zs → w0.grownBy w' (blk A) → (A' = A ∨ (blk A' = some (w0.heap.size + 1) ∧ Below w0.heap.size w0 w')) → wpList P ops Q rest (a.put o.dst (.slice A' N c')) w') : wpList P ops Q (o :: rest) a (w0.alloc (.cells cs e)) := by
  subst hg hN hzs
  refine wpList_plain hgd fun K hK => ?_
  have hr : Rd (w0.alloc (.cells cs e)) (w0.heap.size + 1) (some ⟨w0.heap.size, 0, none⟩) cs.toList := fun j u hu => by
    refine ⟨_, rfl, by simp, ?_⟩
    rw [Addr.add_lit, Nat.zero_add, World.cell?_alloc_new]
    simpa using hu
  obtain ⟨A', c', w', hrun, h2, h3, h4⟩ := run_app2 (P := P) (w0.alloc (.cells cs e)) base t o.type e size bytes el A n c xs (hown.alloc _) (w0.heap.size + 1) _ m k cs.toList hr (by simpa using hl) h1 hbytes h63 (by simp; omega)
  unfold Oper.wp execOp
  simp only [ho, resolve, invoke, builtin, Sem.run_bind, Sem.run_pure, Result.andThen_ok, List.map_toArray, List.map_cons, List.map_nil, hs, hx, hrun]
  refine hK _ _ (h A' c' w' h2 ((World.grownBy_alloc w0 _ _).trans h3) ?_)
  rcases h4 with h4 | ⟨h4, h5⟩
  · exact .inl h4
  · exact .inr ⟨by simpa using h4, ((Below.refl _ w0).alloc (Nat.le_refl _) _).trans (h5.mono (by simp))⟩

theorem own_at {w : World} {B e n c j : Nat} {A : Option Addr} {xs : List Value} (h : Own w B e 1 A n c xs) {u : Value} (hu : xs[j]? = some u) : ∃ g, A = some ⟨g, 0, none⟩ ∧ w.cell? ⟨g, j, none⟩ = some u := by
  have hlt := (List.getElem?_eq_some_iff.1 hu).1
  rw [h.len] at hlt
  obtain ⟨g, rfl, _⟩ := h.form_pos (by omega)
  obtain ⟨a, ha, _, hc⟩ := h.rd j u hu
  obtain rfl := Option.some.inj ha
  rw [Addr.add_lit, Nat.zero_add] at hc
  exact ⟨g, rfl, hc⟩

theorem Own.blk_lt {w : World} {base e size n c k : Nat} {A : Option Addr} {xs : List Value} (h : Own w base e size A n c xs) (hk : blk A = some k) : k < w.heap.size := (h.blk_ge hk).2
theorem Own.shrinkG {w : World} {base e sz n c m : Nat} {A : Option Addr} {xs : List Value} (h : Own w base e sz A n c xs) (hm : m ≤ n) : Own w base e sz A m c (xs.take (m * sz)) := by
  have hl := h.len
  have hms : m * sz ≤ n * sz := Nat.mul_le_mul_right _ hm
  refine ⟨by rw [List.length_take]; omega, ?_⟩
  rcases h.2 with ⟨hv, h0⟩ | ⟨g, cap, cur, hv, hb, hg, hc, hm2, hcs, hx⟩
  · injection hv with h1 h2 h3
    subst h1 h3
    have : m = 0 := by omega
    subst this
    exact .inl ⟨rfl, rfl⟩
  · injection hv with h1 h2 h3
    subst h1 h3
    refine .inr ⟨g, c, cur, rfl, hb, hg, by omega, hm2, hcs, ?_⟩
    rw [← hx, List.take_take, Nat.min_eq_left hms]
theorem blk_none {A : Option Addr} (h : blk A = none) : A = none := by
  cases A with
  | none => rfl
  | some a => cases h
theorem blk_ne_of {A A' : Option Addr} (h : ∀ k, blk A = some k → blk A' ≠ some k) : A = none ∨ blk A ≠ blk A' := by
  cases hb : blk A with
  | none => exact .inl (blk_none hb)
  | some k => exact .inr fun e => h k hb e.symm

/-- Rows in blocks of their own. -/
structure FamG (w : World) (B N e sz : Nat) (V : Nat → En) (X : Nat → List Value) : Prop where
  own : ∀ i, i < N → Own w B e sz (V i).A (V i).n (V i).c (X i)
  dis : ∀ i j, i < N → j < N → i ≠ j → ∀ k, blk (V i).A = some k → blk (V j).A ≠ some k

section
variable {w w' : World} {B N e sz : Nat} {V : Nat → En} {X : Nat → List Value} {S : Nat → Prop}
theorem FamG.nil_ (w : World) (B e sz : Nat) (V : Nat → En) (X : Nat → List Value) : FamG w B 0 e sz V X := ⟨fun i h => by omega, fun i j h => by omega⟩
theorem FamG.tur (h : FamG w B N e sz V X) (ht : Tur S w w') (hS : ∀ i, i < N → ∀ k, blk (V i).A = some k → ¬ S k) : FamG w' B N e sz V X :=
  ⟨fun i hi => (h.own i hi).tur ht (hS i hi), h.dis⟩
theorem FamG.below (h : FamG w B N e sz V X) (hb : Below w.heap.size w w') : FamG w' B N e sz V X := h.tur (Tur.of_below (fun _ => False) hb) fun _ _ _ _ h => h
/-- A row of another type turns. -/
theorem FamG.other (h : FamG w B N e sz V X) {base e' sz' n c : Nat} {A : Option Addr} {xs : List Value} (ho : Own w base e' sz' A n c xs) (he : e ≠ e') (ht : Tur (fun k => blk A = some k) w w') : FamG w' B N e sz V X :=
  h.tur ht fun i hi k hk hA => by
    rcases (h.own i hi).ne_ ho he with e1 | e1
    · rw [e1] at hk; cases hk
    · exact e1 (hk.trans hA.symm)
theorem Own.otherT {base e' sz' n c base0 n0 c0 : Nat} {A A0 : Option Addr} {xs xs0 : List Value} (h : Own w base0 e sz A0 n0 c0 xs0) (ho : Own w base e' sz' A n c xs) (he : e ≠ e') (ht : Tur (fun k => blk A = some k) w w') : Own w' base0 e sz A0 n0 c0 xs0 :=
  h.tur ht fun k hk hA => by
    rcases h.ne_ ho he with e1 | e1
    · rw [e1] at hk; cases hk
    · exact e1 (hk.trans hA.symm)
theorem FamG.lt (h : FamG w B N e sz V X) {i k : Nat} (hi : i < N) (hk : blk (V i).A = some k) : B ≤ k ∧ k < w.heap.size := (h.own i hi).blk_ge hk
theorem FamG.congr {V' : Nat → En} {X' : Nat → List Value} (h : FamG w B N e sz V X) (hV : ∀ i, i < N → V' i = V i) (hX : ∀ i, i < N → X' i = X i) : FamG w B N e sz V' X' :=
  ⟨fun i hi => by rw [hV i hi, hX i hi]; exact h.own i hi, fun i j hi hj => by rw [hV i hi, hV j hj]; exact h.dis i j hi hj⟩
/-- One row more, in a block that no other has. -/
theorem FamG.snoc (h : FamG w B N e sz V X) {a : En} {xs : List Value} (ho : Own w B e sz a.A a.n a.c xs) (hd : ∀ i, i < N → ∀ k, blk (V i).A = some k → blk a.A ≠ some k) : FamG w B (N + 1) e sz (updV V N a) (updX X N xs) := by
  refine ⟨fun i hi => ?_, fun i j hi hj hne k hk => ?_⟩
  · by_cases hN : i = N
    · subst hN; rw [updV_at, updX_at]; exact ho
    · rw [updV_ne V a hN, updX_ne X xs hN]; exact h.own i (by omega)
  · by_cases hN : i = N
    · subst hN
      rw [updV_at] at hk
      rw [updV_ne V a (by omega)]
      exact fun hk2 => hd j (by omega) k hk2 hk
    · rw [updV_ne V a hN] at hk
      by_cases hM : j = N
      · subst hM
        rw [updV_at]
        exact hd i (by omega) k hk
      · rw [updV_ne V a hM]
        exact h.dis i j (by omega) (by omega) hne k hk
/-- The row t is written over. -/
theorem FamG.put (h : FamG w B N e sz V X) {t : Nat} {xs : List Value} (ht : t < N) (hT : Tur (fun k => blk (V t).A = some k) w w') (ho : Own w' B e sz (V t).A (V t).n (V t).c xs) : FamG w' B N e sz V (updX X t xs) := by
  refine ⟨fun i hi => ?_, h.dis⟩
  by_cases hN : i = t
  · subst hN
    rw [updX_at]
    exact ho
  · rw [updX_ne X _ hN]
    exact (h.own i hi).tur hT fun k hk hA => h.dis i t hi ht hN k hk hA
end

/-- Rows X i, of which the first s were grown by Y i; what V says lies. -/
structure GroG (w : World) (B N e sz : Nat) (V C : Nat → En) (s : Nat) (X Y : Nat → List Value) : Prop where
  own : ∀ i, i < N → Own w B e sz (C i).A (C i).n (C i).c (if i < s then X i ++ Y i else X i)
  num : ∀ i, i < N → (C i).n = if i < s then (V i).n + 1 else (V i).n
  raw : ∀ i, s ≤ i → C i = V i
  old : ∀ i, i < N → ∃ c, Own w B e sz (V i).A (V i).n c (X i)
  dis : ∀ i j, i < N → j < N → i ≠ j → ∀ k, blk (C i).A = some k → blk (C j).A ≠ some k
  sep : ∀ i j, i < N → j < N → i ≠ j → ∀ k, blk (V i).A = some k → blk (C j).A ≠ some k

section
variable {w w' : World} {B N e sz s : Nat} {V C : Nat → En} {X Y : Nat → List Value} {S : Nat → Prop}
theorem GroG.init (Y : Nat → List Value) (h : FamG w B N e sz V X) : GroG w B N e sz V V 0 X Y :=
  ⟨fun i hi => by simpa using h.own i hi, fun i _ => by simp, fun _ _ => rfl, fun i hi => ⟨_, h.own i hi⟩, h.dis, h.dis⟩
theorem GroG.tur (h : GroG w B N e sz V C s X Y) (ht : Tur S w w') (hV : ∀ i, i < N → ∀ k, blk (V i).A = some k → ¬ S k) (hC : ∀ i, i < N → ∀ k, blk (C i).A = some k → ¬ S k) : GroG w' B N e sz V C s X Y :=
  ⟨fun i hi => (h.own i hi).tur ht (hC i hi), h.num, h.raw, fun i hi => by obtain ⟨c, hc⟩ := h.old i hi; exact ⟨c, hc.tur ht (hV i hi)⟩, h.dis, h.sep⟩
theorem GroG.other (h : GroG w B N e sz V C s X Y) {base e' sz' n c : Nat} {A : Option Addr} {xs : List Value} (ho : Own w base e' sz' A n c xs) (he : e ≠ e') (ht : Tur (fun k => blk A = some k) w w') : GroG w' B N e sz V C s X Y :=
  ⟨fun i hi => (h.own i hi).otherT ho he ht, h.num, h.raw, fun i hi => by obtain ⟨c, hc⟩ := h.old i hi; exact ⟨c, hc.otherT ho he ht⟩, h.dis, h.sep⟩

theorem GroG.step (h : GroG w B N e sz V C s X Y) {c' : Nat} {A' : Option Addr} (hs : s < N) (ho : Own w' B e sz A' ((V s).n + 1) c' (X s ++ Y s)) (hg : w.grownBy w' (blk (C s).A)) (hA : A' = (C s).A ∨ (blk A' = some (w.heap.size + 1) ∧ Below w.heap.size w w')) :
    GroG w' B N e sz V (updV C s ⟨A', (V s).n + 1, c'⟩) (s + 1) X Y := by
  have hlt : ∀ i, i < N → ∀ k, blk (C i).A = some k → k < w.heap.size := fun i hi k hk => (h.own i hi).blk_lt hk
  have hltv : ∀ i, i < N → ∀ k, blk (V i).A = some k → k < w.heap.size := fun i hi k hk => by obtain ⟨c, hc⟩ := h.old i hi; exact hc.blk_lt hk
  have hA2 : ∀ k, blk A' = some k → blk (C s).A = some k ∨ k = w.heap.size + 1 := fun k hk => by
    rcases hA with rfl | ⟨h1, _⟩
    · exact .inl hk
    · rw [h1] at hk; cases hk; exact .inr rfl
  refine ⟨fun i hi => ?_, fun i hi => ?_, fun i hi => ?_, fun i hi => ?_, fun i j hi hj hne k hk hk2 => ?_, fun i j hi hj hne k hk hk2 => ?_⟩
  · by_cases hit : i = s
    · subst hit
      rw [updV_at, if_pos (by omega)]
      exact ho
    · rw [updV_ne C _ hit]
      have e1 : (if i < s + 1 then X i ++ Y i else X i) = (if i < s then X i ++ Y i else X i) := by
        by_cases h1 : i < s
        · rw [if_pos h1, if_pos (by omega)]
        · rw [if_neg h1, if_neg (by omega)]
      rw [e1]
      exact (h.own i hi).kept hg (blk_ne_of fun k hb => h.dis i s hi hs hit k hb)
  · by_cases hit : i = s
    · subst hit
      rw [updV_at, if_pos (by omega)]
    · rw [updV_ne C _ hit, h.num i hi]
      by_cases h1 : i < s
      · rw [if_pos h1, if_pos (by omega)]
      · rw [if_neg h1, if_neg (by omega)]
  · rw [updV_ne C _ (by omega)]
    exact h.raw i (by omega)
  · obtain ⟨c0, hc0⟩ := h.old i hi
    by_cases hit : i = s
    · subst hit
      rcases hA with rfl | ⟨_, hb⟩
      · rw [h.raw i (Nat.le_refl _)] at ho
        refine ⟨c', ?_⟩
        have h4 := ho.shrinkG (m := (V i).n) (by omega)
        rwa [← hc0.len, List.take_left] at h4
      · exact ⟨c0, hc0.below hb (Nat.le_refl _)⟩
    · exact ⟨c0, hc0.kept hg (blk_ne_of fun k hb => h.sep i s hi hs hit k hb)⟩
  · by_cases hit : i = s
    · subst hit
      rw [updV_at] at hk
      rw [updV_ne C _ (Ne.symm hne)] at hk2
      rcases hA2 k hk with h1 | rfl
      · exact h.dis i j hi hj hne k h1 hk2
      · have := hlt j hj _ hk2; omega
    · rw [updV_ne C _ hit] at hk
      by_cases hjt : j = s
      · subst hjt
        rw [updV_at] at hk2
        rcases hA2 k hk2 with h1 | rfl
        · exact h.dis i j hi hj hne k hk h1
        · have := hlt i hi _ hk; omega
      · rw [updV_ne C _ hjt] at hk2
        exact h.dis i j hi hj hne k hk hk2
  · by_cases hjt : j = s
    · subst hjt
      rw [updV_at] at hk2
      rcases hA2 k hk2 with h1 | rfl
      · exact h.sep i j hi hj hne k hk h1
      · have := hltv i hi _ hk; omega
    · rw [updV_ne C _ hjt] at hk2
      exact h.sep i j hi hj hne k hk hk2
end


theorem paySpec_size {kind : Int} {name text : ByteArray} {ver frm nonce err : Int} {p : List UInt8} (h : paySpec kind name text ver frm nonce err = some p) : p.length ≤ name.size + text.size + 32 := by
  by_cases h1 : kind = 1
  · subst h1
    rw [rspec1] at h
    split at h
    · rename_i hc
      injection h with h
      subst h
      simp only [List.length_append, beN_len, sB_len, List.length_cons, List.length_nil]
      omega
    · cases h
  by_cases h2 : kind = 2
  · subst h2
    rw [rspec2] at h
    split at h
    · rename_i hc
      injection h with h
      subst h
      simp only [List.length_append, beN_len, sB_len, List.length_cons, List.length_nil]
      omega
    · cases h
  by_cases h3 : kind = 3
  · subst h3
    rw [rspec3] at h
    split at h
    · injection h with h
      subst h
      simp only [List.length_append, beN_len, List.length_cons, List.length_nil]
      omega
    · cases h
  by_cases h4 : kind = 4
  · subst h4
    rw [rspec4] at h
    split at h
    · injection h with h
      subst h
      simp only [List.length_append, beN_len, List.length_cons, List.length_nil]
      omega
    · cases h
  by_cases h5 : kind = 5
  · subst h5
    rw [rspec5] at h
    split at h
    · injection h with h
      subst h
      simp only [List.length_append, beN_len, List.length_cons, List.length_nil]
      omega
    · cases h
  unfold paySpec at h
  rw [if_neg h1, if_neg h2, if_neg h3, if_neg h4, if_neg h5] at h
  cases h

theorem rowP_cons (m : Msg) (ms : List Msg) : rowP (m :: ms) = (match payM m with | none => rowP ms | some p => (p, plainM m) :: rowP ms) := by
  unfold rowP
  rw [List.filterMap_cons]
  cases payM m <;> rfl
theorem rowB_tot : ∀ (ms : List Msg), (rowB (rowP ms)).length ≤ 5 * totM ms
  | [] => by simp [rowP, rowB, catF]
  | m :: ms => by
    have ih := rowB_tot ms
    rw [rowP_cons]
    simp only [totM, List.map_cons, List.sum_cons, wgt] at ih ⊢
    cases hp : payM m with
    | none => simp only; omega
    | some p =>
      have h1 := paySpec_size hp
      simp only [rowB, List.map_cons, catF_cons, List.length_append, frame_len] at ih ⊢
      omega

theorem encF_len {kind : Int} {name text : ByteArray} {ver frm nonce err : Int} : (encF (paySpec kind name text ver frm nonce err)).length ≤ 16777216 := by
  cases h : paySpec kind name text ver frm nonce err with
  | none => simp [encF]
  | some p =>
    have := paySpec_len h
    simp only [encF, frame_len]
    omega

/-- The bytes of a row, in new memory. -/
theorem row_o (ms : List Msg) (n : Nat) (hn : n = ms.length) (A : Option Addr) (c B : Nat) (w : World) (hm : Rd w B A (mv ms)) (hB : B ≤ w.heap.size) (ht : totM ms ≤ 1048576) :
    Calls Try.prog 49 #[.slice A n c] w fun e w' => ∃ Ab M cb v1 v2 b, e = .returned (.tuple #[.slice Ab M cb, v1, v2]) ∧ Own w' w.heap.size 5 1 Ab M cb (bv b) ∧ M = b.length ∧ M ≤ 8388608 ∧ Below w.heap.size w w' := by
  refine (row49_any ms n hn A c B w hm hB (by have := totM_len ms; omega)).mono ?_
  rintro e w' ⟨M, q, Ab, cb, O, co, Pl, cp, rfl, h1, _, h3, _, _, h6⟩
  exact ⟨Ab, M, cb, _, _, _, rfl, h3, h1, by have := rowB_tot ms; omega, h6⟩

theorem feed_o {w : World} {s : RSt} {g base : Nat} {A : Option Addr} (hr : Rdr w 115 base g A s) (hb : base ≤ w.heap.size) (p : List UInt8) (n : Nat) (hn : n = p.length) (S : Option Addr) (c B : Nat) (hp : Rd w B S (bv p)) (hl : s.waits.length + n ≤ 16777216) :
    Calls Try.prog 43 #[.pointer (some ⟨g, 0, none⟩), .slice S n c] w fun e w' => ∃ O q co z A', e = .returned (.tuple #[.slice O q co, z]) ∧ q ≤ 16777216 ∧ (∃ l, Own w' w.heap.size 60 7 O q co (mv l)) ∧ Rdr w' 115 w.heap.size g A' (feedR s p) ∧ Tur (fun k => k = g ∨ blk A = some k) w w' := by
  refine (feed_any s g base A w hr hb p n hn S c B hp hl).mono ?_
  rintro e w' ⟨O, co, A', rfl, ho, hr', ht⟩
  exact ⟨O, _, co, _, A', rfl, (by have := feedM_len s p; omega), ⟨_, ho⟩, hr', ht⟩

/-- What is gathered: nb rows of bytes, no of them told; nm rows of messages, np of them told. -/
structure AllG (w wr : World) (nb no : Nat) (O : Option Addr) (co : Nat) (V : Nat → En) (X : Nat → List Value) (nm np : Nat) (P : Option Addr) (cp : Nat) (Vm : Nat → En) (Xm : Nat → List Value) : Prop where
  fb : FamG wr w.heap.size nb 5 1 V X
  ob : Own wr w.heap.size 22 1 O no co (vals V no)
  lb : ∀ i, i < nb → (V i).n ≤ 16777216
  nb_ : no ≤ nb
  fm : FamG wr w.heap.size nm 60 7 Vm Xm
  om : Own wr w.heap.size 75 1 P np cp (vals Vm np)
  lm : ∀ i, i < nm → (Vm i).n ≤ 16777216
  nm_ : np ≤ nm
  bel : Below w.heap.size w wr

section
variable {w wr w' : World} {nb no co nm np cp : Nat} {O P : Option Addr} {V Vm : Nat → En} {X Xm : Nat → List Value}
theorem AllG.init (h : Below w.heap.size w wr) : AllG w wr 0 0 none 0 (fun _ => ⟨none, 0, 0⟩) (fun _ => []) 0 0 none 0 (fun _ => ⟨none, 0, 0⟩) (fun _ => []) :=
  ⟨FamG.nil_ _ _ _ _ _ _, Own.nil_ _ _ _ _, fun i h => by omega, Nat.le_refl _, FamG.nil_ _ _ _ _ _ _, Own.nil_ _ _ _ _, fun i h => by omega, Nat.le_refl _, h⟩
theorem AllG.below (h : AllG w wr nb no O co V X nm np P cp Vm Xm) (hb : Below wr.heap.size wr w') : AllG w w' nb no O co V X nm np P cp Vm Xm :=
  ⟨h.fb.below hb, h.ob.below hb (Nat.le_refl _), h.lb, h.nb_, h.fm.below hb, h.om.below hb (Nat.le_refl _), h.lm, h.nm_, h.bel.trans (hb.mono h.bel.size)⟩
theorem vals_updV (V : Nat → En) {n N : Nat} (h : n ≤ N) (e : En) : vals (updV V N e) n = vals V n := vals_congr fun i hi => updV_ne V e (by omega)
theorem lt_updV {V : Nat → En} {N : Nat} {e : En} (h : ∀ i, i < N → (V i).n ≤ 16777216) (he : e.n ≤ 16777216) : ∀ i, i < N + 1 → (updV V N e i).n ≤ 16777216 := fun i hi => by
  by_cases hN : i = N
  · subst hN; rw [updV_at]; exact he
  · rw [updV_ne V e hN]; exact h i (by omega)
theorem AllG.addB (h : AllG w wr nb no O co V X nm np P cp Vm Xm) (hb : Below wr.heap.size wr w') {A : Option Addr} {n c : Nat} {xs : List Value} (ho : Own w' wr.heap.size 5 1 A n c xs) (hn : n ≤ 16777216) :
    AllG w w' (nb + 1) no O co (updV V nb ⟨A, n, c⟩) (updX X nb xs) nm np P cp Vm Xm := by
  have h2 := h.below hb
  refine ⟨h2.fb.snoc (ho.base_le h.bel.size) fun i hi k hk hk2 => ?_, ?_, lt_updV h.lb hn, by have := h.nb_; omega, h2.fm, h2.om, h.lm, h.nm_, h2.bel⟩
  · have := (h.fb.lt hi hk).2
    have := (ho.blk_ge hk2).1
    omega
  · rw [vals_updV V h.nb_]; exact h2.ob
theorem AllG.addM (h : AllG w wr nb no O co V X nm np P cp Vm Xm) (hb : Below wr.heap.size wr w') {A : Option Addr} {n c : Nat} {xs : List Value} (ho : Own w' wr.heap.size 60 7 A n c xs) (hn : n ≤ 16777216) :
    AllG w w' nb no O co V X (nm + 1) np P cp (updV Vm nm ⟨A, n, c⟩) (updX Xm nm xs) := by
  have h2 := h.below hb
  refine ⟨h2.fb, h2.ob, h.lb, h.nb_, h2.fm.snoc (ho.base_le h.bel.size) fun i hi k hk hk2 => ?_, ?_, lt_updV h.lm hn, by have := h.nm_; omega, h2.bel⟩
  · have := (h.fm.lt hi hk).2
    have := (ho.blk_ge hk2).1
    omega
  · rw [vals_updV Vm h.nm_]; exact h2.om
theorem AllG.addM2 (h : AllG w wr nb no O co V X nm np P cp Vm Xm) (hb : Below wr.heap.size wr w') {A A2 : Option Addr} {n c n2 c2 : Nat} {xs xs2 : List Value} (ho : Own w' wr.heap.size 60 7 A n c xs) (hn : n ≤ 16777216) (ho2 : Own w' wr.heap.size 60 7 A2 n2 c2 xs2) (hn2 : n2 ≤ 16777216) (hd : ∀ k, blk A = some k → blk A2 ≠ some k) :
    AllG w w' nb no O co V X (nm + 2) np P cp (updV (updV Vm nm ⟨A, n, c⟩) (nm + 1) ⟨A2, n2, c2⟩) (updX (updX Xm nm xs) (nm + 1) xs2) := by
  have h3 := h.addM hb ho hn
  refine ⟨h3.fb, h3.ob, h3.lb, h3.nb_, h3.fm.snoc (ho2.base_le h.bel.size) fun i hi k hk hk2 => ?_, ?_, lt_updV h3.lm hn2, by have := h.nm_; omega, h3.bel⟩
  · by_cases hN : i = nm
    · subst hN
      rw [updV_at] at hk
      exact hd k hk hk2
    · rw [updV_ne _ _ hN] at hk
      have := (h.fm.lt (by omega) hk).2
      have := (ho2.blk_ge hk2).1
      omega
  · rw [vals_updV _ (by have := h.nm_; omega)]; exact h3.om
theorem below_own' {B e sz n c : Nat} {A : Option Addr} {xs : List Value} (h : Below B w wr) (ho : Own wr B e sz A n c xs) (ht : Tur (fun k => blk A = some k) wr w') (hB : B ≤ wr.heap.size) : Below B w w' :=
  h.trans (ht.below hB fun k hk hA => by have := (ho.blk_ge hA).1; omega)
theorem AllG.app22 (h : AllG w wr nb no O co V X nm np P cp Vm Xm) {O' : Option Addr} {co' : Nat} (ho : Own w' w.heap.size 22 1 O' (no + 1) co' (vals V (no + 1))) (hg : wr.grownBy w' (blk O)) (hn : no < nb) :
    AllG w w' nb (no + 1) O' co' V X nm np P cp Vm Xm := by
  have ht := Tur.of_grown hg
  exact ⟨h.fb.other h.ob (by decide) ht, ho, h.lb, hn, h.fm.other h.ob (by decide) ht, h.om.otherT h.ob (by decide) ht, h.lm, h.nm_, below_own' h.bel h.ob ht h.bel.size⟩
theorem AllG.app75 (h : AllG w wr nb no O co V X nm np P cp Vm Xm) {P' : Option Addr} {cp' : Nat} (ho : Own w' w.heap.size 75 1 P' (np + 1) cp' (vals Vm (np + 1))) (hg : wr.grownBy w' (blk P)) (hn : np < nm) :
    AllG w w' nb no O co V X nm (np + 1) P' cp' Vm Xm := by
  have ht := Tur.of_grown hg
  exact ⟨h.fb.other h.om (by decide) ht, h.ob.otherT h.om (by decide) ht, h.lb, h.nb_, h.fm.other h.om (by decide) ht, ho, h.lm, hn, below_own' h.bel h.om ht h.bel.size⟩
theorem AllG.putB (h : AllG w wr nb no O co V X nm np P cp Vm Xm) {t : Nat} {xs : List Value} (ht : t < nb) (hT : Tur (fun k => blk (V t).A = some k) wr w') (ho : Own w' w.heap.size 5 1 (V t).A (V t).n (V t).c xs) : AllG w w' nb no O co V (updX X t xs) nm np P cp Vm Xm :=
  ⟨h.fb.put ht hT ho, h.ob.otherT (h.fb.own t ht) (by decide) hT, h.lb, h.nb_, h.fm.other (h.fb.own t ht) (by decide) hT, h.om.otherT (h.fb.own t ht) (by decide) hT, h.lm, h.nm_, below_own' h.bel (h.fb.own t ht) hT h.bel.size⟩
theorem AllG.putM (h : AllG w wr nb no O co V X nm np P cp Vm Xm) {t : Nat} {xs : List Value} (ht : t < nm) (hT : Tur (fun k => blk (Vm t).A = some k) wr w') (ho : Own w' w.heap.size 60 7 (Vm t).A (Vm t).n (Vm t).c xs) : AllG w w' nb no O co V X nm np P cp Vm (updX Xm t xs) :=
  ⟨h.fb.other (h.fm.own t ht) (by decide) hT, h.ob.otherT (h.fm.own t ht) (by decide) hT, h.lb, h.nb_, h.fm.put ht hT ho, h.om.otherT (h.fm.own t ht) (by decide) hT, h.lm, h.nm_, below_own' h.bel (h.fm.own t ht) hT h.bel.size⟩
end

/-- Two pieces fed to a new reader: both answers lie by themselves, and nothing that lay ahead has changed. -/
theorem two_fed {w1 w2 w3 w4 w5 : World} {g q1 q2 c1 c2 : Nat} {A2 A3 O1 O2 : Option Addr} {s2 s3 : RSt} {l1 l2 : List Msg} (b2 : Below w1.heap.size w1 w2) (b3 : Below w2.heap.size w2 w3) (hg : w2.heap.size ≤ g) (r3 : Rdr w3 115 w2.heap.size g none ⟨[], false⟩)
    (o1 : Own w4 w3.heap.size 60 7 O1 q1 c1 (mv l1)) (r4 : Rdr w4 115 w3.heap.size g A2 s2) (t4 : Tur (fun k => k = g ∨ blk (none : Option Addr) = some k) w3 w4)
    (o2 : Own w5 w4.heap.size 60 7 O2 q2 c2 (mv l2)) (r5 : Rdr w5 115 w4.heap.size g A3 s3) (t5 : Tur (fun k => k = g ∨ blk A2 = some k) w4 w5) :
    Below w1.heap.size w1 w5 ∧ Own w5 w1.heap.size 60 7 O1 q1 c1 (mv l1) ∧ Own w5 w1.heap.size 60 7 O2 q2 c2 (mv l2) ∧ ∀ k, blk O1 = some k → blk O2 ≠ some k := by
  have s12 := b2.size
  have s23 := b3.size
  have s34 := t4.size
  have s45 := t5.size
  have b4 : Below w2.heap.size w3 w4 := t4.below s23 fun k hk h => by
    rcases h with rfl | h
    · omega
    · cases h
  have b5 : Below w2.heap.size w4 w5 := t5.below (by omega) fun k hk h => by
    rcases h with rfl | h
    · omega
    · have := (r4.blk_ge h).1; omega
  refine ⟨b2.trans ((b3.trans (b4.trans b5)).mono s12), ?_, o2.base_le (by omega), fun k hk hk2 => ?_⟩
  · refine (o1.tur t5 fun k hk h => ?_).base_le (by omega)
    rcases h with rfl | h
    · exact r4.ne_row o1 (by decide) hk
    · obtain ⟨⟨c, _, h2⟩, _⟩ := r4
      rcases o1.ne_ h2 (by decide) with e1 | e1
      · rw [e1] at hk; cases hk
      · exact e1 (hk.trans h.symm)
  · have := (o1.blk_ge hk).2
    have := (o2.blk_ge hk2).1
    omega

def x3 (i : Nat) : Value := .int .u8 (3 * (i : Int))
def y3 (i : Nat) : Value := .int .u8 (3 * (i : Int) + 1)
def xk (i : Nat) : Value := .int .i64 (-(i : Int) - 1)
def yk (i : Nat) : Value := .int .i64 (100 + (i : Int))
def yM (i : Nat) : List Value := [yk i, .string ⟨#[]⟩, .int .i64 0, .int .i64 0, .int .i64 0, .int .i64 0, .string ⟨#[]⟩]

theorem one_u8 (z : Int) : ∀ u ∈ (#[.int .u8 z] : Array Value).toList, u.oneCell' = true := by simp [Value.oneCell']
theorem one_slice (A : Option Addr) (n c : Nat) : ∀ u ∈ (#[.slice A n c] : Array Value).toList, u.oneCell' = true := by simp [Value.oneCell']
theorem Try.el85 : Elem Try.prog 85 75 1 24 := Elem.of (z := .slice none 0 0) Try.underlying85 (by kernel_rfl) rfl (by decide)

theorem fed_below {w2 w3 w4 : World} (b3 : Below w2.heap.size w2 w3) (t4 : Tur (fun k => k = w2.heap.size ∨ blk (none : Option Addr) = some k) w3 w4) : Below w2.heap.size w2 w4 :=
  b3.trans (t4.below b3.size fun k hk h => by
    rcases h with rfl | h
    · omega
    · cases h)
theorem enc_o (kind : Int) (name text : ByteArray) (ver frm nonce err : Int) (w : World) :
    Calls Try.prog 33 #[.agg #[.int .i64 kind, .string name, .int .i64 ver, .int .i64 frm, .int .i64 nonce, .int .i64 err, .string text]] w fun e w' => ∃ A n c z xs, e = .returned (.tuple #[.slice A n c, z]) ∧ Own w' w.heap.size 5 1 A n c xs ∧ n ≤ 16777216 ∧ Below w.heap.size w w' := by
  refine (encode_any kind name text ver frm nonce err w).mono ?_
  rintro e w' ⟨A, c, rfl, ho, hb⟩
  exact ⟨A, _, c, _, _, rfl, ho, encF_len, hb⟩

theorem own_atG {w : World} {B e sz n c j : Nat} {A : Option Addr} {xs : List Value} (h : Own w B e sz A n c xs) {u : Value} (hu : xs[j]? = some u) : ∃ g, A = some ⟨g, 0, none⟩ ∧ w.cell? ⟨g, j, none⟩ = some u := by
  have hlt := (List.getElem?_eq_some_iff.1 hu).1
  rw [h.len] at hlt
  obtain ⟨g, rfl, _⟩ := h.form_pos (by
    rcases Nat.eq_zero_or_pos n with h0 | h0
    · subst h0; omega
    · exact h0)
  obtain ⟨a, ha, _, hc⟩ := h.rd j u hu
  obtain rfl := Option.some.inj ha
  rw [Addr.add_lit, Nat.zero_add] at hc
  exact ⟨g, rfl, hc⟩
theorem Own.freeG {w : World} {B e sz n c g : Nat} {xs : List Value} (h : Own w B e sz (some ⟨g, 0, none⟩) n c xs) (i : Nat) : w.frozen? ⟨g, i, none⟩ = false := World.ownsRow.frozenAt h i
theorem Own.setG {w : World} {B e sz n c g : Nat} {xs : List Value} (h : Own w B e sz (some ⟨g, 0, none⟩) n c xs) (i : Nat) (u : Value) : Own (w.setCell ⟨g, i, none⟩ u) B e sz (some ⟨g, 0, none⟩) n c (xs.set i u) := (World.ownsRow.stored h i u).1

section
variable {w wr w' : World} {nb no co nm np cp : Nat} {O P : Option Addr} {V Vm : Nat → En} {X Xm : Nat → List Value}
theorem AllG.addB' (h : AllG w wr nb no O co V X nm np P cp Vm Xm) (hb : Below wr.heap.size wr w') {A : Option Addr} {n c : Nat} {xs : List Value} (ho : Own w' wr.heap.size 5 1 A n c xs) (hn : n ≤ 16777216) :
    ∃ V' X', Hid (AllG w w' (nb + 1) no O co V' X' nm np P cp Vm Xm) ∧ Hid ((V' nb).v = .slice A n c) := ⟨_, _, Lib.hid (h.addB hb ho hn), Lib.hid (by rw [updV_at]; rfl)⟩
theorem AllG.addM2' (h : AllG w wr nb no O co V X nm np P cp Vm Xm) (hb : Below wr.heap.size wr w') {A A2 : Option Addr} {n c n2 c2 : Nat} {xs xs2 : List Value} (ho : Own w' wr.heap.size 60 7 A n c xs) (hn : n ≤ 16777216) (ho2 : Own w' wr.heap.size 60 7 A2 n2 c2 xs2) (hn2 : n2 ≤ 16777216) (hd : ∀ k, blk A = some k → blk A2 ≠ some k) :
    ∃ V' X', Hid (AllG w w' nb no O co V X (nm + 2) np P cp V' X') ∧ Hid ((V' nm).v = .slice A n c ∧ (V' (nm + 1)).v = .slice A2 n2 c2) := ⟨_, _, Lib.hid (h.addM2 hb ho hn ho2 hn2 hd), Lib.hid ⟨by rw [updV_ne _ _ (by omega), updV_at]; rfl, by rw [updV_at]; rfl⟩⟩
theorem AllG.rowB (h : AllG w wr nb no O co V X nm np P cp Vm Xm) {t n c : Nat} {A : Option Addr} (ht : t < nb) (e : (⟨A, n, c⟩ : En) = V t) : Own wr w.heap.size 5 1 A n c (X t) := by
  have := h.fb.own t ht
  rwa [← e] at this
theorem AllG.rowM (h : AllG w wr nb no O co V X nm np P cp Vm Xm) {t n c : Nat} {A : Option Addr} (ht : t < nm) (e : (⟨A, n, c⟩ : En) = Vm t) : Own wr w.heap.size 60 7 A n c (Xm t) := by
  have := h.fm.own t ht
  rwa [← e] at this
theorem AllG.putB' (h : AllG w wr nb no O co V X nm np P cp Vm Xm) {t g n c : Nat} {xs : List Value} (ht : t < nb) (e : (⟨some ⟨g, 0, none⟩, n, c⟩ : En) = V t) (hT : Tur (fun k => k = g) wr w') (ho : Own w' w.heap.size 5 1 (some ⟨g, 0, none⟩) n c xs) :
    AllG w w' nb no O co V (updX X t xs) nm np P cp Vm Xm :=
  h.putB ht (by rw [← e]; exact hT.mono fun k _ hk => by rw [hk]; rfl) (by rw [← e]; exact ho)
theorem AllG.putM' (h : AllG w wr nb no O co V X nm np P cp Vm Xm) {t g n c : Nat} {xs : List Value} (ht : t < nm) (e : (⟨some ⟨g, 0, none⟩, n, c⟩ : En) = Vm t) (hT : Tur (fun k => k = g) wr w') (ho : Own w' w.heap.size 60 7 (some ⟨g, 0, none⟩) n c xs) :
    AllG w w' nb no O co V X nm np P cp Vm (updX Xm t xs) :=
  h.putM ht (by rw [← e]; exact hT.mono fun k _ hk => by rw [hk]; rfl) (by rw [← e]; exact ho)
end

/-- The first t rows hold their marks, and the row t up to its place j. -/
def Mark (V : Nat → En) (X : Nat → List Value) (sz t j : Nat) (u : Nat → Value) : Prop :=
  (∀ i, i < t → ∀ k, k < (V i).n → (X i)[k * sz]? = some (u i)) ∧ ∀ k, k < j → (X t)[k * sz]? = some (u t)
theorem Mark.init (V : Nat → En) (X : Nat → List Value) (sz : Nat) (u : Nat → Value) : Mark V X sz 0 0 u := ⟨fun i h => by omega, fun k h => by omega⟩
theorem Mark.next {V : Nat → En} {X : Nat → List Value} {sz t j : Nat} {u : Nat → Value} (h : Mark V X sz t j u) (hj : (V t).n ≤ j) : Mark V X sz (t + 1) 0 u :=
  ⟨fun i hi k hk => by
    by_cases hit : i = t
    · subst hit; exact h.2 k (by omega)
    · exact h.1 i (by omega) k hk, fun k hk => by omega⟩
theorem Mark.put {V : Nat → En} {X : Nat → List Value} {sz t j : Nat} {u : Nat → Value} (h : Mark V X sz t j u) {xs : List Value} (hx : ∀ k, k < j → xs[k * sz]? = (X t)[k * sz]?) (h1 : xs[j * sz]? = some (u t)) : Mark V (updX X t xs) sz t (j + 1) u :=
  ⟨fun i hi k hk => by rw [updX_ne _ _ (by omega)]; exact h.1 i hi k hk, fun k hk => by
    rw [updX_at]
    by_cases hkj : k = j
    · subst hkj; exact h1
    · rw [hx k (by omega)]; exact h.2 k (by omega)⟩
theorem set7_hd {xs : List Value} {i : Nat} (h : i < xs.length) (v0 v1 v2 v3 v4 v5 v6 : Value) : (((((((xs.set i v0).set (i + 1) v1).set (i + 2) v2).set (i + 3) v3).set (i + 4) v4).set (i + 5) v5).set (i + 6) v6)[i]? = some v0 := by
  rw [List.getElem?_set_ne (by omega), List.getElem?_set_ne (by omega), List.getElem?_set_ne (by omega), List.getElem?_set_ne (by omega), List.getElem?_set_ne (by omega), List.getElem?_set_ne (by omega), List.getElem?_set_self h]
theorem set7_lo {xs : List Value} {i k : Nat} (h : k < i) (v0 v1 v2 v3 v4 v5 v6 : Value) : (((((((xs.set i v0).set (i + 1) v1).set (i + 2) v2).set (i + 3) v3).set (i + 4) v4).set (i + 5) v5).set (i + 6) v6)[k]? = xs[k]? := by
  rw [List.getElem?_set_ne (by omega), List.getElem?_set_ne (by omega), List.getElem?_set_ne (by omega), List.getElem?_set_ne (by omega), List.getElem?_set_ne (by omega), List.getElem?_set_ne (by omega), List.getElem?_set_ne (by omega)]

/-- The rows written over, some of them grown (s of the bytes, t of the messages), some of the grown told (sg, tg). -/
structure BigG (w wr : World) (N s sg : Nat) (O : Option Addr) (co : Nat) (G : Option Addr) (cg : Nat) (V C : Nat → En) (X : Nat → List Value) (Q t tg : Nat) (P : Option Addr) (cp : Nat) (R : Option Addr) (cr : Nat) (Vm Cm : Nat → En) (Xm : Nat → List Value) : Prop where
  gb : GroG wr w.heap.size N 5 1 V C s X fun i => [y3 i]
  ob : Own wr w.heap.size 22 1 O N co (vals V N)
  og : Own wr w.heap.size 22 1 G sg cg (vals C sg)
  dg : ∀ k, blk O = some k → blk G ≠ some k
  gm : GroG wr w.heap.size Q 60 7 Vm Cm t Xm yM
  om : Own wr w.heap.size 75 1 P Q cp (vals Vm Q)
  or_ : Own wr w.heap.size 75 1 R tg cr (vals Cm tg)
  dr : ∀ k, blk P = some k → blk R ≠ some k
  bel : Below w.heap.size w wr

section
variable {w wr w' : World} {N s sg co cg Q t tg cp cr : Nat} {O G P R : Option Addr} {V C Vm Cm : Nat → En} {X Xm : Nat → List Value}
theorem AllG.big (h : AllG w wr N N O co V X Q Q P cp Vm Xm) : BigG w wr N 0 0 O co none 0 V V X Q 0 0 P cp none 0 Vm Vm Xm :=
  ⟨GroG.init _ h.fb, h.ob, Own.nil_ _ _ _ _, (fun k _ h => by cases h), GroG.init _ h.fm, h.om, Own.nil_ _ _ _ _, (fun k _ h => by cases h), h.bel⟩
theorem GroG.below {B e sz : Nat} {Y : Nat → List Value} (h : GroG wr B N e sz V C s X Y) (hb : Below wr.heap.size wr w') : GroG w' B N e sz V C s X Y :=
  h.tur (Tur.of_below (fun _ => False) hb) (fun _ _ _ _ h => h) fun _ _ _ _ h => h
theorem BigG.below (h : BigG w wr N s sg O co G cg V C X Q t tg P cp R cr Vm Cm Xm) (hb : Below wr.heap.size wr w') : BigG w w' N s sg O co G cg V C X Q t tg P cp R cr Vm Cm Xm :=
  ⟨h.gb.below hb, h.ob.below hb (Nat.le_refl _), h.og.below hb (Nat.le_refl _), h.dg, h.gm.below hb, h.om.below hb (Nat.le_refl _), h.or_.below hb (Nat.le_refl _), h.dr, h.bel.trans (hb.mono h.bel.size)⟩
theorem BigG.rowB (h : BigG w wr N s sg O co G cg V C X Q t tg P cp R cr Vm Cm Xm) {n c : Nat} {A : Option Addr} (hs : s < N) (e : (⟨A, n, c⟩ : En) = V s) : Own wr w.heap.size 5 1 A n c (X s) := by
  have h1 := h.gb.own s hs
  rw [if_neg (by omega), h.gb.raw s (Nat.le_refl _), ← e] at h1
  exact h1
theorem BigG.rowM (h : BigG w wr N s sg O co G cg V C X Q t tg P cp R cr Vm Cm Xm) {n c : Nat} {A : Option Addr} (hs : t < Q) (e : (⟨A, n, c⟩ : En) = Vm t) : Own wr w.heap.size 60 7 A n c (Xm t) := by
  have h1 := h.gm.own t hs
  rw [if_neg (by omega), h.gm.raw t (Nat.le_refl _), ← e] at h1
  exact h1
theorem BigG.growB (h : BigG w wr N s s O co G cg V C X Q t tg P cp R cr Vm Cm Xm) {n c c' : Nat} {A A' : Option Addr} (hs : s < N) (e : (⟨A, n, c⟩ : En) = V s) (ho : Own w' w.heap.size 5 1 A' (n + 1) c' (X s ++ [y3 s])) (hg : wr.grownBy w' (blk A)) (hA : A' = A ∨ (blk A' = some (wr.heap.size + 1) ∧ Below wr.heap.size wr w')) :
    ∃ C', Hid (BigG w w' N (s + 1) s O co G cg V C' X Q t tg P cp R cr Vm Cm Xm) ∧ Hid ((C' s).v = .slice A' (n + 1) c') := by
  have eC := h.gb.raw s (Nat.le_refl _)
  have hr := h.rowB hs e
  have ht := Tur.of_grown hg
  have eA : A = (V s).A := by rw [← e]
  have en : n = (V s).n := by rw [← e]
  have h2 := h.gb.step (c' := c') (A' := A') hs (by rw [← en]; exact ho) (by rw [eC, ← eA]; exact hg) (by rw [eC, ← eA]; exact hA)
  refine ⟨_, Lib.hid ⟨h2, h.ob.otherT hr (by decide) ht, ?_, h.dg, h.gm.other hr (by decide) ht, h.om.otherT hr (by decide) ht, h.or_.otherT hr (by decide) ht, h.dr, below_own' h.bel hr ht h.bel.size⟩, Lib.hid (by rw [updV_at, ← en]; rfl)⟩
  rw [vals_updV C (Nat.le_refl _)]
  exact h.og.otherT hr (by decide) ht
theorem BigG.growM (h : BigG w wr N s sg O co G cg V C X Q t t P cp R cr Vm Cm Xm) {n c c' : Nat} {A A' : Option Addr} (hs : t < Q) (e : (⟨A, n, c⟩ : En) = Vm t) (ho : Own w' w.heap.size 60 7 A' (n + 1) c' (Xm t ++ yM t)) (hg : wr.grownBy w' (blk A)) (hA : A' = A ∨ (blk A' = some (wr.heap.size + 1) ∧ Below wr.heap.size wr w')) :
    ∃ C', Hid (BigG w w' N s sg O co G cg V C X Q (t + 1) t P cp R cr Vm C' Xm) ∧ Hid ((C' t).v = .slice A' (n + 1) c') := by
  have eC := h.gm.raw t (Nat.le_refl _)
  have hr := h.rowM hs e
  have ht := Tur.of_grown hg
  have eA : A = (Vm t).A := by rw [← e]
  have en : n = (Vm t).n := by rw [← e]
  have h2 := h.gm.step (c' := c') (A' := A') hs (by rw [← en]; exact ho) (by rw [eC, ← eA]; exact hg) (by rw [eC, ← eA]; exact hA)
  refine ⟨_, Lib.hid ⟨h.gb.other hr (by decide) ht, h.ob.otherT hr (by decide) ht, h.og.otherT hr (by decide) ht, h.dg, h2, h.om.otherT hr (by decide) ht, ?_, h.dr, below_own' h.bel hr ht h.bel.size⟩, Lib.hid (by rw [updV_at, ← en]; rfl)⟩
  rw [vals_updV Cm (Nat.le_refl _)]
  exact h.or_.otherT hr (by decide) ht
theorem dis_step {w : World} {B e sz n c : Nat} {O G G' : Option Addr} {xs : List Value} (h : ∀ k, blk O = some k → blk G ≠ some k) (ho : Own w B e sz O n c xs) (hat : blk G' = blk G ∨ blk G' = some (w.heap.size + 1)) : ∀ k, blk O = some k → blk G' ≠ some k := fun k hk e => by
  rcases hat with e1 | e1
  · exact h k hk (e1.symm.trans e)
  · rw [e1] at e
    have := (ho.blk_ge hk).2
    cases e
    omega
theorem BigG.tellB (h : BigG w wr N (s + 1) s O co G cg V C X Q t tg P cp R cr Vm Cm Xm) {G' : Option Addr} {cg' : Nat} (ho : Own w' w.heap.size 22 1 G' (s + 1) cg' (vals C (s + 1))) (hg : wr.grownBy w' (blk G)) (hat : blk G' = blk G ∨ blk G' = some (wr.heap.size + 1)) :
    BigG w w' N (s + 1) (s + 1) O co G' cg' V C X Q t tg P cp R cr Vm Cm Xm := by
  have ht := Tur.of_grown hg
  exact ⟨h.gb.other h.og (by decide) ht, h.ob.kept hg (blk_ne_of h.dg), ho, dis_step h.dg h.ob hat, h.gm.other h.og (by decide) ht, h.om.otherT h.og (by decide) ht, h.or_.otherT h.og (by decide) ht, h.dr, below_own' h.bel h.og ht h.bel.size⟩
theorem BigG.tellM (h : BigG w wr N s sg O co G cg V C X Q (t + 1) t P cp R cr Vm Cm Xm) {R' : Option Addr} {cr' : Nat} (ho : Own w' w.heap.size 75 1 R' (t + 1) cr' (vals Cm (t + 1))) (hg : wr.grownBy w' (blk R)) (hat : blk R' = blk R ∨ blk R' = some (wr.heap.size + 1)) :
    BigG w w' N s sg O co G cg V C X Q (t + 1) (t + 1) P cp R' cr' Vm Cm Xm := by
  have ht := Tur.of_grown hg
  exact ⟨h.gb.other h.or_ (by decide) ht, h.ob.otherT h.or_ (by decide) ht, h.og.otherT h.or_ (by decide) ht, h.dg, h.gm.other h.or_ (by decide) ht, h.om.kept hg (blk_ne_of h.dr), ho, dis_step h.dr h.om hat, below_own' h.bel h.or_ ht h.bel.size⟩
end

/-- The old row, and the grown one, as they are looked at. -/
theorem GroG.see {w : World} {B N e sz : Nat} {V C : Nat → En} {X Y : Nat → List Value} {u : Nat → Value} (h : GroG w B N e sz V C N X Y) {z : Nat} (hm : Mark V X sz N z u) (hsz : 0 < sz) {i : Nat} (hi : i < N) {ea a2 : Option Addr} {en ec n2 c2 : Nat} (e1 : (⟨ea, en, ec⟩ : En) = V i) (e2 : (⟨a2, n2, c2⟩ : En) = C i) {v : Value} (hY : (Y i)[0]? = some v) :
    n2 = en + 1 ∧ (∃ g2, a2 = some ⟨g2, 0, none⟩ ∧ (∀ k, k < en → w.cell? ⟨g2, k * sz, none⟩ = some (u i)) ∧ w.cell? ⟨g2, en * sz, none⟩ = some v) ∧ ∀ k, k < en → ∃ g, ea = some ⟨g, 0, none⟩ ∧ w.cell? ⟨g, k * sz, none⟩ = some (u i) := by
  have h1 := h.own i hi
  have h2 := h.num i hi
  obtain ⟨c0, h3⟩ := h.old i hi
  have hmi := hm.1 i hi
  rw [if_pos hi] at h1 h2
  rw [← e2] at h1 h2
  rw [← e1] at h2 h3 hmi
  simp only at h1 h2 h3 hmi
  have hl3 := h3.len
  have hl : (X i ++ Y i)[en * sz]? = some v := by rw [List.getElem?_append_right (by omega), show en * sz - (X i).length = 0 by omega]; exact hY
  obtain ⟨g2, rfl, hc⟩ := own_atG h1 hl
  refine ⟨h2, ⟨g2, rfl, fun k hk => ?_, hc⟩, fun k hk => own_atG h3 (hmi k hk)⟩
  have hk2 : k * sz < en * sz := Nat.mul_lt_mul_of_pos_right hk hsz
  obtain ⟨g', hg', hc'⟩ := own_atG (j := k * sz) (u := u i) h1 (by rw [List.getElem?_append_left (by omega)]; exact hmi k hk)
  cases hg'
  exact hc'

theorem msg_at {w wr : World} {l : List Msg} {n j : Nat} {A : Option Addr} (hx : n = l.length ∧ Rd w w.heap.size A (mv l) ∧ totM l ≤ 1048576) (hb : Below w.heap.size w wr) (hj : j < n) : ∃ (kd : Int) (nm : ByteArray) (ve fr no er : Int) (tx : ByteArray) (g o : Nat), A = some ⟨g, o, none⟩ ∧
    wr.cell? ⟨g, o + j * 7, none⟩ = some (.int .i64 kd) ∧ wr.cell? ⟨g, o + j * 7 + 1, none⟩ = some (.string nm) ∧ wr.cell? ⟨g, o + j * 7 + 2, none⟩ = some (.int .i64 ve) ∧ wr.cell? ⟨g, o + j * 7 + 3, none⟩ = some (.int .i64 fr) ∧
    wr.cell? ⟨g, o + j * 7 + 4, none⟩ = some (.int .i64 no) ∧ wr.cell? ⟨g, o + j * 7 + 5, none⟩ = some (.int .i64 er) ∧ wr.cell? ⟨g, o + j * 7 + 6, none⟩ = some (.string tx) := by
  obtain ⟨hn, hr, _⟩ := hx
  have hjl : j < l.length := by omega
  obtain ⟨m, hm⟩ : ∃ m, m = l[j] := ⟨_, rfl⟩
  obtain ⟨kd, nm, ve, fr, no, er, tx⟩ := m
  obtain ⟨g, o, h0, _, h⟩ := (hr.below hb).msg (k := j) (by rw [hm]; exact List.getElem?_eq_getElem hjl)
  exact ⟨kd, nm, ve, fr, no, er, tx, g, o, h0, h⟩

theorem one_msg (z : Int) : ∀ u ∈ (#[.int .i64 z, .string ⟨#[]⟩, .int .i64 0, .int .i64 0, .int .i64 0, .int .i64 0, .string ⟨#[]⟩] : Array Value).toList, u.oneCell' = true := by simp [Value.oneCell']

set_option maxRecDepth 100000 in
set_option maxHeartbeats 4000000 in
theorem framesOwn_any (l m : List Msg) (nl nm : Nat) (hnl : nl = l.length) (hnm : nm = m.length) (A A' : Option Addr) (c c' : Nat) (w : World) (hl : Rd w w.heap.size A (mv l)) (hm : Rd w w.heap.size A' (mv m)) (tl : totM l ≤ 1048576) (tm : totM m ≤ 1048576) :
    Calls Try.prog 14 #[.slice A nl c, .slice A' nm c'] w fun e w' => e = .returned (.bool true) ∧ Below w.heap.size w w' := by
  have HL := Lib.hid (And.intro hnl (And.intro hl tl))
  have HM := Lib.hid (And.intro hnm (And.intro hm tm))
  clear hnl hnm hl hm tl tm
  go_enter Try.func14, Try.ntmps14
  go_wp2_with (first
    | (go_at_call 46; refine (awake46_any w).mono ?_; rintro e w1 ⟨rfl, b1⟩)
    | fail)
  go_loopw [5, 6, 7] (fun all lists i wr => ∃ (t nb : Nat) (O : Option Addr) (co : Nat) (V : Nat → En) (X : Nat → List Value) (nq : Nat) (P : Option Addr) (cp : Nat) (Vm : Nat → En) (Xm : Nat → List Value), t ≤ 3 ∧ i = .int .i64 t ∧ all = .slice O nb co ∧ lists = .slice P nq cp ∧
    Hid (nb ≤ 5 * t ∧ nq = 2 * t) ∧ Hid (AllG w wr nb nb O co V X nq nq P cp Vm Xm)) (fun _ _ i _ => 3 - (intOf i).toNat)
  case atStart => exact ⟨0, 0, none, 0, _, _, 0, none, 0, _, _, by omega, rfl, rfl, rfl, ⟨by omega, rfl⟩, AllG.init b1⟩
  case round =>
    obtain ⟨t, nb, O, co, V, X, nq, P, cp, Vm, Xm, ht, rfl, rfl, rfl, hN, hR⟩ := hrel
    obtain ⟨wa, rfl⟩ : ∃ wa, wa = wr := ⟨_, rfl⟩
    by_cases hlt : t < 3
    · have hbr := hR.out.bel
      have tk : True := trivial
      have tk2 : True := trivial
      obtain ⟨t1, ht1⟩ : ∃ t1, t1 = t + 1 := ⟨_, rfl⟩
      have HT1 := Lib.hid (show t1 = t + 1 ∧ t1 ≤ 3 from ⟨ht1, by omega⟩)
      clear ht1
      have hcase : (∃ lx : Unit, t = 1) ∨ (∃ lx : Unit, ¬ ((t : Int) = 1)) := by
        by_cases h1 : t = 1
        · exact .inl ⟨(), h1⟩
        · exact .inr ⟨(), by omega⟩
      rcases hcase with ⟨_, rfl⟩ | ⟨_, h1⟩
      all_goals
        first
          | (have h1x : ¬ ((t : Int) = 1) := h1; have HX := HL; obtain ⟨n0, hn0⟩ : ∃ n0, n0 = nl := ⟨_, rfl⟩; have HROW := Lib.hid (row_o _ _ HX.out.1 _ c w.heap.size wa (HX.out.2.1.below hbr) hbr.size HX.out.2.2); clear h1x)
          | (have HX := HM; obtain ⟨n0, hn0⟩ : ∃ n0, n0 = nm := ⟨_, rfl⟩; have HROW := Lib.hid (row_o _ _ HX.out.1 _ c' w.heap.size wa (HX.out.2.1.below hbr) hbr.size HX.out.2.2))
        have HN0 := Lib.hid hn0
        clear hn0
        go_wp2_with (first
          | (go_at_call 49; go_loud (with_reducible refine (HROW.out).mono ?_); rintro e w2 ⟨Ab, M, cb, v1, v2, b, rfl, ob, hMb, hM8, b2⟩; obtain ⟨h, hh⟩ : ∃ h, h = M / 2 := ⟨_, rfl⟩; obtain ⟨S, hS⟩ : ∃ S, S = (if cb = h then Ab else Ab.map (·.add h)) := ⟨_, rfl⟩; have hq : (M : Int) / 2 = (h : Int) := (by omega); have hMh : h ≤ M := (by omega); have hcb := own_cap ob; have hhc : h ≤ cb := (by omega); have HS := Lib.hid hS; have hSs := hS.symm; have HMB := Lib.hid hMb; clear hh hS hMb)
          | (go_at_call 40; refine (newReader_at w2).mono ?_; rintro e w3 ⟨rfl, r3, b3, s3⟩; have rb3 := ob.rd.below b3; clear s3)
          | (go_at_call 43; have _t := tk; go_loud (with_reducible refine (feed_o r3 b3.size (b.take h) h (by rw [List.length_take, ← HMB.out]; omega) Ab cb _ (by have := rb3.take h; simpa [bv, List.map_take] using this) (by simp; omega)).mono ?_); rintro e w4 ⟨O1, q1, c1, z1, A1, rfl, hq1, ⟨l1, o1⟩, r4, t4⟩; have hwl := (feedR_ok (s := RSt.mk [] false) ⟨by simp, fun _ => rfl⟩ (b.take h)).1; have rb4 := ob.rd.below (fed_below b3 t4); clear tk _t)
          | (go_at_call 43; go_loud (with_reducible refine (feed_o r4 t4.size (b.drop h) (M - h) (by rw [List.length_drop, ← HMB.out]) S (cb - h) _ (by have := rb4.cut h cb (by rw [bv_length, ← HMB.out]; exact hcb); rw [← HS.out] at this; simpa [bv, List.map_drop] using this) (by omega)).mono ?_); rintro e w5 ⟨O2, q2, c2, z2, A2, rfl, hq2, ⟨l2, o2⟩, r5, t5⟩; obtain ⟨bb, oo1, oo2, odis⟩ := two_fed b2 b3 (Nat.le_refl _) r3 o1 r4 t4 o2 r5 t5; obtain ⟨Vm2, Xm2, HG5, HV5⟩ := hR.out.addM2' bb oo1 hq1 oo2 hq2 odis; have sz5 := HG5.out.bel.size; clear bb oo1 oo2 odis o1 o2 r3 r4 r5 t4 t5 b2 b3 ob rb3 rb4 hcb hhc hMh hq hSs)
          | (at_builtin; have _t := tk2; go_loud (refine wpList_app_new rfl (.tmp 69) (.tmp 71) 85 rfl w.heap.size 75 1 24 Try.el85 P nq cp (vals Vm2 nq) rfl HG5.out.om #[.slice O1 q1 c1] w5.heap.size 1 1 rfl rfl rfl (one_slice _ _ _) (nq + 1) (vals Vm2 (nq + 1)) rfl (by rw [vals_succ, HV5.out.1]) (by have := hN.out; omega) (by have := hN.out; unfold maxLen; omega) sz5 ?_); intro P6 cp6 w6 h6 hg6 at6; have HG6 := Lib.hid (HG5.out.app75 h6 hg6 (by omega)); have sz6 := HG6.out.bel.size; clear tk2 _t h6 hg6 at6)
          | (at_builtin; go_loud (refine wpList_app_new rfl (.tmp 72) (.tmp 74) 85 rfl w.heap.size 75 1 24 Try.el85 P6 (nq + 1) cp6 (vals Vm2 (nq + 1)) rfl HG6.out.om #[.slice O2 q2 c2] w6.heap.size 1 1 rfl rfl rfl (one_slice _ _ _) (nq + 2) (vals Vm2 (nq + 2)) rfl (by rw [vals_succ Vm2 (nq + 1), HV5.out.2]) (by have := hN.out; omega) (by have := hN.out; unfold maxLen; omega) sz6 ?_); intro P7 cp7 w7 h7 hg7 at7; have HG7 := Lib.hid (HG6.out.app75 h7 hg7 (by omega)); clear h7 hg7 at7)
          | fail)
        have HN2 := Lib.hid (And.intro hN.out.1 (And.intro hN.out.2 hlt))
        obtain ⟨K0, hK0⟩ : ∃ K0, K0 = nq + 2 := ⟨_, rfl⟩
        have HK0 := Lib.hid hK0
        have HG8 : Hid (AllG w w7 nb nb O co V X K0 K0 P7 cp7 Vm2 Xm2) := Lib.hid (by rw [hK0]; exact HG7.out)
        rw [← hK0]
        clear hK0 HG7 HG6 HG5 HV5 hR HROW
        go_loopw [5, 18] (fun all k wz => ∃ (j K : Nat) (O' : Option Addr) (co' : Nat) (V' : Nat → En) (X' : Nat → List Value), j ≤ 5 ∧ k = .int .i64 j ∧ all = .slice O' K co' ∧ Hid (K ≤ nb + j ∧ AllG w wz K K O' co' V' X' K0 K0 P7 cp7 Vm2 Xm2)) (fun _ k _ => 5 - (intOf k).toNat)
        case atStart => exact ⟨0, nb, O, co, V, X, by omega, rfl, rfl, Lib.hid ⟨Nat.le_refl _, HG8.out⟩⟩
        case round =>
          obtain ⟨j, K, O', co', V', X', hj, rfl, rfl, hK⟩ := hrel
          by_cases hjq : j < n0 ∧ j < 5
          · obtain ⟨hjq1, hj9⟩ := hjq
            rw [HN0.out] at hjq1
            obtain ⟨kd, nme, ve, fr, no, er, tx, gx, ox, rfl, m0, m1, m2, m3, m4, m5, m6⟩ := msg_at HX.out hK.out.2.bel hjq1
            go_wp2_with (first
              | (go_at_call 34; go_loud (with_reducible refine (own_any _ _ _ _ _ _ _ wr).mono ?_); rintro e w8 ⟨rfl, b8⟩)
              | (go_at_call 33; go_loud (with_reducible refine (enc_o _ _ _ _ _ _ _ w8).mono ?_); rintro e w9 ⟨A9, n9, c9, z9, xs9, rfl, o9, hn9, b9⟩; obtain ⟨V9, X9, HG9, HV9⟩ := (hK.out.2.below b8).addB' b9 o9 hn9; have sz9 := HG9.out.bel.size; clear b8 b9 o9)
              | (at_builtin; go_loud (refine wpList_app_new rfl (.tmp 95) (.tmp 97) 35 rfl w.heap.size 22 1 24 Try.el35 O' K co' (vals V9 K) rfl HG9.out.ob #[.slice A9 n9 c9] w9.heap.size 1 1 rfl rfl rfl (one_slice _ _ _) (K + 1) (vals V9 (K + 1)) rfl (by rw [vals_succ, HV9.out]) (by have := hK.out.1; have := HN2.out; omega) (by have := hK.out.1; have := HN2.out; unfold maxLen; omega) sz9 ?_); intro O10 co10 w10 h10 hg10 at10; have HG10 := Lib.hid (HG9.out.app22 h10 hg10 (by omega)); clear h10 hg10 at10)
              | fail)
            go_roundw
            case rel => exact ⟨j + 1, K + 1, O10, co10, V9, X9, by omega, by go_num, rfl, Lib.hid ⟨by have := hK.out.1; omega, HG10.out⟩⟩
            case measure =>
              show 5 - (intOf (.int .i64 ((j : Int) + 1))).toNat < 5 - (intOf (.int .i64 (j : Int))).toNat
              simp only [intOf]
              omega
          · have hjq2 : ¬ j < n0 ∨ (j < n0 ∧ ¬ j < 5) := by omega
            rw [HN0.out] at hjq2
            rcases hjq2 with hjq2 | ⟨hjq2, hj9⟩
            all_goals
              go_wp2
              go_roundw
              case rel => exact ⟨t1, K, O', co', V', X', K0, P7, cp7, Vm2, Xm2, HT1.out.2, by rw [HT1.out.1]; go_num, rfl, rfl, Lib.hid ⟨by have := hK.out.1; have := HN2.out.1; have := HT1.out.1; omega, by have h1 := HK0.out; have h2 := HT1.out.1; have h3 := HN2.out.2.1; omega⟩, Lib.hid hK.out.2⟩
              case measure => simp [intOf]; try omega
    · have hN15 : nb ≤ 15 := by have := hN.out.1; omega
      have hQ6 : nq ≤ 6 := by have := hN.out.2; omega
      have hR0 := Lib.hid hR.out
      clear hN hR HL HM b1
      go_wp2
      go_loopw [21] (fun i wz => ∃ (t : Nat) (X : Nat → List Value), t ≤ nb ∧ i = .int .i64 t ∧ Hid (AllG w wz nb nb O co V X nq nq P cp Vm Xm ∧ Mark V X 1 t 0 x3)) (fun i _ => nb - (intOf i).toNat)
      case atStart => exact ⟨0, X, Nat.zero_le _, rfl, Lib.hid ⟨hR0.out, Mark.init _ _ _ _⟩⟩
      case round =>
        obtain ⟨t, X1, ht, rfl, hF1⟩ := hrel
        obtain ⟨wb, rfl⟩ : ∃ wb, wb = wr := ⟨_, rfl⟩
        by_cases hlt1 : t < nb
        · obtain ⟨ev, hev⟩ : ∃ ev, ev = V t := ⟨_, rfl⟩
          obtain ⟨ea, en, ec⟩ := ev
          have HEV := Lib.hid hev
          have hen : en ≤ 16777216 := by have := hF1.out.1.lb t hlt1; rw [← HEV.out] at this; exact this
          clear hev
          go_wp2
          go_loopw [22] (fun i wz => ∃ (j : Nat) (X2 : Nat → List Value), j ≤ en ∧ i = .int .i64 j ∧ Hid (AllG w wz nb nb O co V X2 nq nq P cp Vm Xm ∧ Mark V X2 1 t j x3)) (fun i _ => en - (intOf i).toNat)
          case atStart => exact ⟨0, X1, Nat.zero_le _, rfl, hF1⟩
          case round =>
            obtain ⟨j, X2, hj, rfl, hF2⟩ := hrel
            obtain ⟨gO, rfl, hcell⟩ := own_at hF2.out.1.ob (vals_get V hlt1)
            rw [← HEV.out] at hcell
            simp only [En.v] at hcell
            by_cases hlt2 : j < en
            · have hown := hF2.out.1.rowB hlt1 HEV.out
              have hjl : j < (X2 t).length := by rw [hown.len]; omega
              obtain ⟨u, hu⟩ : ∃ u, (X2 t)[j]? = some u := ⟨_, List.getElem?_eq_getElem hjl⟩
              obtain ⟨gA, rfl, hcu⟩ := own_at hown hu
              have hfu := hown.freeG j
              have hmul : IntKind.i64.wrap (3 * (t : Int)) = 3 * (t : Int) := IntWalk.i64_in _ (by omega)
              have hwr8 : IntKind.u8.wrap (3 * (t : Int)) = 3 * (t : Int) := IntWalk.u8_in _ (by omega)
              have HST := Lib.hid (hown.setG j (x3 t))
              clear hown hu
              go_wp2
              go_roundw
              case rel => exact ⟨j + 1, _, by omega, by go_num, Lib.hid ⟨hF2.out.1.putB' hlt1 HEV.out (Tur.of_set wr ⟨gA, j, none⟩ _) HST.out, hF2.out.2.put (fun k hk => by rw [List.getElem?_set_ne (by omega)]) (by rw [Nat.mul_one, List.getElem?_set_self hjl])⟩⟩
              case measure =>
                show en - (intOf (.int .i64 ((j : Int) + 1))).toNat < en - (intOf (.int .i64 (j : Int))).toNat
                simp only [intOf]
                omega
            · obtain rfl : j = en := by omega
              go_wp2
              go_roundw
              case rel => exact ⟨t + 1, X2, by omega, by go_num, Lib.hid ⟨hF2.out.1, hF2.out.2.next (by rw [← HEV.out]; exact Nat.le_refl _)⟩⟩
              case measure =>
                show nb - (intOf (.int .i64 ((t : Int) + 1))).toNat < nb - (intOf (.int .i64 (t : Int))).toNat
                simp only [intOf]
                omega
        · obtain rfl : t = nb := by omega
          have hW := Lib.hid hF1.out
          clear hF1 hR0
          go_wp2
          go_loopw [23] (fun i wz => ∃ (s : Nat) (Y : Nat → List Value), s ≤ nq ∧ i = .int .i64 s ∧ Hid (AllG w wz t t O co V X1 nq nq P cp Vm Y ∧ Mark Vm Y 7 s 0 xk)) (fun i _ => nq - (intOf i).toNat)
          case atStart => exact ⟨0, Xm, Nat.zero_le _, rfl, Lib.hid ⟨hW.out.1, Mark.init _ _ _ _⟩⟩
          case round =>
            obtain ⟨s, Y1, hs, rfl, hM1⟩ := hrel
            obtain ⟨wc, rfl⟩ : ∃ wc, wc = wr := ⟨_, rfl⟩
            by_cases hlt3 : s < nq
            · obtain ⟨ev, hev⟩ : ∃ ev, ev = Vm s := ⟨_, rfl⟩
              obtain ⟨ea, en, ec⟩ := ev
              have HEV := Lib.hid hev
              have hen : en ≤ 16777216 := by have := hM1.out.1.lm s hlt3; rw [← HEV.out] at this; exact this
              clear hev
              go_wp2
              go_loopw [24] (fun i wz => ∃ (j : Nat) (Y2 : Nat → List Value), j ≤ en ∧ i = .int .i64 j ∧ Hid (AllG w wz t t O co V X1 nq nq P cp Vm Y2 ∧ Mark Vm Y2 7 s j xk)) (fun i _ => en - (intOf i).toNat)
              case atStart => exact ⟨0, Y1, Nat.zero_le _, rfl, hM1⟩
              case round =>
                obtain ⟨j, Y2, hj, rfl, hM2⟩ := hrel
                obtain ⟨gP, rfl, hcell⟩ := own_at hM2.out.1.om (vals_get Vm hlt3)
                rw [← HEV.out] at hcell
                simp only [En.v] at hcell
                by_cases hlt4 : j < en
                · have hown := hM2.out.1.rowM hlt3 HEV.out
                  have hjl : j * 7 < (Y2 s).length := by rw [hown.len]; omega
                  obtain ⟨gA, rfl, -⟩ := own_atG hown (List.getElem?_eq_getElem hjl)
                  obtain ⟨u0, u1, u2, u3, u4, u5, u6, h0, h1, h2, h3, h4, h5, h6⟩ := hown.at7 hlt4
                  have f0 := hown.freeG (j * 7)
                  have f1 := hown.freeG (j * 7 + 1)
                  have f2 := hown.freeG (j * 7 + 2)
                  have f3 := hown.freeG (j * 7 + 3)
                  have f4 := hown.freeG (j * 7 + 4)
                  have f5 := hown.freeG (j * 7 + 5)
                  have f6 := hown.freeG (j * 7 + 6)
                  have HST := Lib.hid (hown.set7 (j * 7) (xk s) (.string ⟨#[]⟩) (.int .i64 0) (.int .i64 0) (.int .i64 0) (.int .i64 0) (.string ⟨#[]⟩))
                  have HJL := Lib.hid hjl
                  clear hown hjl
                  go_wp2
                  go_roundw
                  case rel => exact ⟨j + 1, _, by omega, by go_num, Lib.hid ⟨hM2.out.1.putM' hlt3 HEV.out (Tur.set7 _ _ _ _ _ _ _ _ _ _) HST.out, hM2.out.2.put (fun k hk => set7_lo (by omega) _ _ _ _ _ _ _) (set7_hd HJL.out _ _ _ _ _ _ _)⟩⟩
                  case measure =>
                    show en - (intOf (.int .i64 ((j : Int) + 1))).toNat < en - (intOf (.int .i64 (j : Int))).toNat
                    simp only [intOf]
                    omega
                · obtain rfl : j = en := by omega
                  go_wp2
                  go_roundw
                  case rel => exact ⟨s + 1, Y2, by omega, by go_num, Lib.hid ⟨hM2.out.1, hM2.out.2.next (by rw [← HEV.out]; exact Nat.le_refl _)⟩⟩
                  case measure =>
                    show nq - (intOf (.int .i64 ((s : Int) + 1))).toNat < nq - (intOf (.int .i64 (s : Int))).toNat
                    simp only [intOf]
                    omega
            · obtain rfl : s = nq := by omega
              have hbig := Lib.hid hM1.out.1.big
              have hmk := Lib.hid hW.out.2
              have hmm := Lib.hid hM1.out.2
              have hlb := Lib.hid hM1.out.1.lb
              have hlm := Lib.hid hM1.out.1.lm
              clear hM1 hW
              go_wp2
              have tk3 : True := trivial
              have tk4 : True := trivial
              go_loopw [25, 27] (fun lo i wz => ∃ (p : Nat) (G : Option Addr) (cg : Nat) (C : Nat → En), p ≤ t ∧ i = .int .i64 p ∧ lo = .slice G p cg ∧ Hid (BigG w wz t p p O co G cg V C X1 s 0 0 P cp none 0 Vm Vm Y1)) (fun _ i _ => t - (intOf i).toNat)
              case atStart => exact ⟨0, none, 0, V, Nat.zero_le _, rfl, rfl, hbig⟩
              case round =>
                obtain ⟨p, G, cg, C, hp, rfl, rfl, hB⟩ := hrel
                obtain ⟨wd, rfl⟩ : ∃ wd, wd = wr := ⟨_, rfl⟩
                by_cases hlt5 : p < t
                · obtain ⟨gO, rfl, hcell⟩ := own_at hB.out.ob (vals_get V hlt5)
                  obtain ⟨ev, hev⟩ : ∃ ev, ev = V p := ⟨_, rfl⟩
                  obtain ⟨ea, en, ec⟩ := ev
                  rw [← hev] at hcell
                  simp only [En.v] at hcell
                  have HEV := Lib.hid hev
                  have hen : en ≤ 16777216 := by have := hlb.out p hlt5; rw [← HEV.out] at this; exact this
                  clear hev
                  have hmul : IntKind.i64.wrap (3 * (p : Int)) = 3 * (p : Int) := IntWalk.i64_in _ (by omega)
                  have hmul2 : IntKind.i64.wrap (3 * (p : Int) + 1) = 3 * (p : Int) + 1 := IntWalk.i64_in _ (by omega)
                  have hwr8 : IntKind.u8.wrap (3 * (p : Int) + 1) = 3 * (p : Int) + 1 := IntWalk.u8_in _ (by omega)
                  have HRW := Lib.hid (hB.out.rowB hlt5 HEV.out)
                  have hsz := hB.out.bel.size
                  go_wp2_with (first
                    | (at_builtin; have _t := tk3; go_loud (refine wpList_app_new2 rfl (.tmp 158) (.tmp 163) 22 rfl w.heap.size 5 1 1 Try.el22 ea en ec (X1 p) rfl HRW.out #[.int .u8 (3 * (p : Int) + 1)] wd.heap.size 1 1 rfl rfl rfl (one_u8 _) (en + 1) (X1 p ++ [y3 p]) rfl rfl (by omega) (by unfold maxLen; omega) hsz ?_); intro A5 c5 w5 h5 hg5 at5; obtain ⟨C5, HB5, HV5⟩ := hB.out.growB hlt5 HEV.out h5 hg5 at5; have sz5 := HB5.out.bel.size; clear tk3 _t h5 hg5 at5)
                    | (at_builtin; go_loud (refine wpList_app_new rfl (.tmp 154) (.tmp 165) 35 rfl w.heap.size 22 1 24 Try.el35 G p cg (vals C5 p) rfl HB5.out.og #[.slice A5 (en + 1) c5] w5.heap.size 1 1 rfl rfl rfl (one_slice _ _ _) (p + 1) (vals C5 (p + 1)) rfl (by rw [vals_succ, HV5.out]) (by omega) (by unfold maxLen; omega) sz5 ?_); intro G6 cg6 w6 h6 hg6 at6; have HB6 := Lib.hid (HB5.out.tellB h6 hg6 at6); clear h6 hg6 at6)
                    | fail)
                  go_roundw
                  case rel => exact ⟨p + 1, G6, cg6, C5, by omega, by go_num, rfl, HB6⟩
                  case measure =>
                    show t - (intOf (.int .i64 ((p : Int) + 1))).toNat < t - (intOf (.int .i64 (p : Int))).toNat
                    simp only [intOf]
                    omega
                · obtain rfl : p = t := by omega
                  clear hbig
                  go_wp2
                  go_loopw [26, 28] (fun mo i wz => ∃ (r : Nat) (R : Option Addr) (cr : Nat) (Cm : Nat → En), r ≤ s ∧ i = .int .i64 r ∧ mo = .slice R r cr ∧ Hid (BigG w wz p p p O co G cg V C X1 s r r P cp R cr Vm Cm Y1)) (fun _ i _ => s - (intOf i).toNat)
                  case atStart => exact ⟨0, none, 0, Vm, Nat.zero_le _, rfl, rfl, hB⟩
                  case round =>
                    obtain ⟨r, R, cr, Cm, hr, rfl, rfl, hD⟩ := hrel
                    obtain ⟨we, rfl⟩ : ∃ we, we = wr := ⟨_, rfl⟩
                    by_cases hlt6 : r < s
                    · obtain ⟨gP, rfl, hcell⟩ := own_at hD.out.om (vals_get Vm hlt6)
                      obtain ⟨ev, hev⟩ : ∃ ev, ev = Vm r := ⟨_, rfl⟩
                      obtain ⟨ea, en, ec⟩ := ev
                      rw [← hev] at hcell
                      simp only [En.v] at hcell
                      have HEV := Lib.hid hev
                      have hen : en ≤ 16777216 := by have := hlm.out r hlt6; rw [← HEV.out] at this; exact this
                      clear hev
                      have hadd : IntKind.i64.wrap (100 + (r : Int)) = 100 + (r : Int) := IntWalk.i64_in _ (by omega)
                      have HRW := Lib.hid (hD.out.rowM hlt6 HEV.out)
                      have hsz := hD.out.bel.size
                      go_wp2_with (first
                        | (at_builtin; have _t := tk4; go_loud (refine wpList_app_new2 rfl (.tmp 177) (.tmp 181) 75 rfl w.heap.size 60 7 72 Try.el75 ea en ec (Y1 r) rfl HRW.out #[.int .i64 (100 + (r : Int)), .string ⟨#[]⟩, .int .i64 0, .int .i64 0, .int .i64 0, .int .i64 0, .string ⟨#[]⟩] we.heap.size 1 1 rfl rfl rfl (one_msg _) (en + 1) (Y1 r ++ yM r) rfl rfl (by omega) (by unfold maxLen; omega) hsz ?_); intro A5 c5 w5 h5 hg5 at5; obtain ⟨C5, HB5, HV5⟩ := hD.out.growM hlt6 HEV.out h5 hg5 at5; have sz5 := HB5.out.bel.size; clear tk4 _t h5 hg5 at5)
                        | (at_builtin; go_loud (refine wpList_app_new rfl (.tmp 173) (.tmp 183) 85 rfl w.heap.size 75 1 24 Try.el85 R r cr (vals C5 r) rfl HB5.out.or_ #[.slice A5 (en + 1) c5] w5.heap.size 1 1 rfl rfl rfl (one_slice _ _ _) (r + 1) (vals C5 (r + 1)) rfl (by rw [vals_succ, HV5.out]) (by omega) (by unfold maxLen; omega) sz5 ?_); intro G6 cg6 w6 h6 hg6 at6; have HB6 := Lib.hid (HB5.out.tellM h6 hg6 at6); clear h6 hg6 at6)
                        | fail)
                      go_roundw
                      case rel => exact ⟨r + 1, G6, cg6, C5, by omega, by go_num, rfl, HB6⟩
                      case measure =>
                        show s - (intOf (.int .i64 ((r : Int) + 1))).toNat < s - (intOf (.int .i64 (r : Int))).toNat
                        simp only [intOf]
                        omega
                    · obtain rfl : r = s := by omega
                      clear hB
                      go_wp2
                      go_loopw [29] (fun i wz => ∃ a : Nat, a ≤ p ∧ i = .int .i64 a ∧ Hid (BigG w wz p p p O co G cg V C X1 r r r P cp R cr Vm Cm Y1)) (fun i _ => p - (intOf i).toNat)
                      case atStart => exact ⟨0, Nat.zero_le _, rfl, hD⟩
                      case round =>
                        obtain ⟨a, ha, rfl, hS⟩ := hrel
                        obtain ⟨wf, rfl⟩ : ∃ wf, wf = wr := ⟨_, rfl⟩
                        by_cases hlt7 : a < p
                        · obtain ⟨gO, rfl, hcO⟩ := own_at hS.out.ob (vals_get V hlt7)
                          obtain ⟨gG, rfl, hcG⟩ := own_at hS.out.og (vals_get C hlt7)
                          obtain ⟨ev, hev⟩ : ∃ ev, ev = V a := ⟨_, rfl⟩
                          obtain ⟨cv, hcv⟩ : ∃ cv, cv = C a := ⟨_, rfl⟩
                          obtain ⟨ea, en, ec⟩ := ev
                          obtain ⟨a2, n2, c2⟩ := cv
                          rw [← hev] at hcO
                          rw [← hcv] at hcG
                          have hen : en ≤ 16777216 := by have := hlb.out a hlt7; rw [← hev] at this; exact this
                          obtain ⟨rfl, ⟨g2, rfl, hlo, hhi⟩, hold⟩ := hS.out.gb.see hmk.out (by omega) hlt7 hev hcv (v := y3 a) rfl
                          simp only [En.v] at hcO hcG
                          simp only [x3, y3, Nat.mul_one] at hlo hhi hold
                          have HLO := Lib.hid hlo
                          have HOLD := Lib.hid hold
                          clear hlo hold hev hcv
                          have hmul : IntKind.i64.wrap (3 * (a : Int)) = 3 * (a : Int) := IntWalk.i64_in _ (by omega)
                          have hmul2 : IntKind.i64.wrap (3 * (a : Int) + 1) = 3 * (a : Int) + 1 := IntWalk.i64_in _ (by omega)
                          have hwr8 : IntKind.u8.wrap (3 * (a : Int) + 1) = 3 * (a : Int) + 1 := IntWalk.u8_in _ (by omega)
                          have hwr9 : IntKind.u8.wrap (3 * (a : Int)) = 3 * (a : Int) := IntWalk.u8_in _ (by omega)
                          go_wp2
                          go_loop [30] (fun i => ∃ k : Nat, k ≤ en ∧ i = .int .i64 k) (fun i => en - (intOf i).toNat)
                          case atStart => exact ⟨0, Nat.zero_le _, rfl⟩
                          case round =>
                            obtain ⟨k, hk, rfl⟩ := hrel
                            by_cases hlt8 : k < en
                            · obtain ⟨gA, rfl, hcA⟩ := HOLD.out k hlt8
                              have hc2 := HLO.out k hlt8
                              go_wp2
                              go_round
                              case rel => exact ⟨k + 1, by omega, by go_num⟩
                              case measure => simp [intOf]; omega
                            · obtain rfl : k = en := by omega
                              go_wp2
                              go_quiet (fail)
                              go_wp2
                              go_roundw
                              case rel => exact ⟨a + 1, by omega, by go_num, Lib.hid (hS.out.below (below_drewN (Below.refl _ _) nq))⟩
                              case measure =>
                                show p - (intOf (.int .i64 ((a : Int) + 1))).toNat < p - (intOf (.int .i64 (a : Int))).toNat
                                simp only [intOf]
                                omega
                        · obtain rfl : a = p := by omega
                          clear hD
                          go_wp2
                          go_loopw [31] (fun i wz => ∃ b : Nat, b ≤ r ∧ i = .int .i64 b ∧ Hid (BigG w wz a a a O co G cg V C X1 r r r P cp R cr Vm Cm Y1)) (fun i _ => r - (intOf i).toNat)
                          case atStart => exact ⟨0, Nat.zero_le _, rfl, hS⟩
                          case round =>
                            obtain ⟨b, hb, rfl, hT⟩ := hrel
                            obtain ⟨wg, rfl⟩ : ∃ wg, wg = wr := ⟨_, rfl⟩
                            by_cases hlt9 : b < r
                            · obtain ⟨gP, rfl, hcO⟩ := own_at hT.out.om (vals_get Vm hlt9)
                              obtain ⟨gR, rfl, hcG⟩ := own_at hT.out.or_ (vals_get Cm hlt9)
                              obtain ⟨ev, hev⟩ : ∃ ev, ev = Vm b := ⟨_, rfl⟩
                              obtain ⟨cv, hcv⟩ : ∃ cv, cv = Cm b := ⟨_, rfl⟩
                              obtain ⟨ea, en, ec⟩ := ev
                              obtain ⟨a2, n2, c2⟩ := cv
                              rw [← hev] at hcO
                              rw [← hcv] at hcG
                              have hen : en ≤ 16777216 := by have := hlm.out b hlt9; rw [← hev] at this; exact this
                              obtain ⟨rfl, ⟨g2, rfl, hlo, hhi⟩, hold⟩ := hT.out.gm.see hmm.out (by omega) hlt9 hev hcv (v := yk b) rfl
                              simp only [En.v] at hcO hcG
                              simp only [xk, yk] at hlo hhi hold
                              have HLO := Lib.hid hlo
                              have HOLD := Lib.hid hold
                              clear hlo hold hev hcv
                              have hadd : IntKind.i64.wrap (100 + (b : Int)) = 100 + (b : Int) := IntWalk.i64_in _ (by omega)
                              go_wp2
                              go_loop [32] (fun i => ∃ k : Nat, k ≤ en ∧ i = .int .i64 k) (fun i => en - (intOf i).toNat)
                              case atStart => exact ⟨0, Nat.zero_le _, rfl⟩
                              case round =>
                                obtain ⟨k, hk, rfl⟩ := hrel
                                by_cases hlt8 : k < en
                                · obtain ⟨gA, rfl, hcA⟩ := HOLD.out k hlt8
                                  have hc2 := HLO.out k hlt8
                                  go_wp2
                                  go_round
                                  case rel => exact ⟨k + 1, by omega, by go_num⟩
                                  case measure => simp [intOf]; omega
                                · obtain rfl : k = en := by omega
                                  go_wp2
                                  go_quiet (fail)
                                  go_wp2
                                  go_roundw
                                  case rel => exact ⟨b + 1, by omega, by go_num, Lib.hid (hT.out.below (below_drewN (Below.refl _ _) nq))⟩
                                  case measure =>
                                    show r - (intOf (.int .i64 ((b : Int) + 1))).toNat < r - (intOf (.int .i64 (b : Int))).toNat
                                    simp only [intOf]
                                    omega
                            · obtain rfl : b = r := by omega
                              go_wp2
                              go_ret
                              exact ⟨rfl, hT.out.bel⟩

end Go.Proofs.Ytbhjcfhpabnadaa
