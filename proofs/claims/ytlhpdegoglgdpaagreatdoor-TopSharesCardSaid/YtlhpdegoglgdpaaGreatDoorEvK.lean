/- A part of the proof of TopShares: for every row of weights the law returns true, and the row reads as before. No condition beyond the statement's own. -/
import Derived.Test.YtlhpdegoglgdpaaGreatDoorEvQ
import Derived.Laws.MakeOwn
import Derived.Great.BuildSlice
import Derived.Laws.RangeString
import Derived.Lib.UnsafeStr
set_option linter.all false
set_option linter.unusedVariables false
set_option linter.unusedSimpArgs false
set_option linter.constructorNameAsVariable false
set_option linter.deprecated false
namespace Go.Ev
noncomputable section
open Go
def MOut (P : Program) (B : Base) (σ : Sg) (h : AH) (k : KV) (r : Out) (m : Sem Next) (w : World) : Prop :=
  ∃ v h' τ u n w', k v h' = r ∧ m.run P w = .ok n w' ∧ (n = .value u ∨ (n = .skip ∧ u = undef)) ∧ Grows h.next σ τ ∧ VR τ v u ∧ HR B τ h' w' ∧ Keeps h h'
def MSpec1 (P : Program) (F : AV → AH → KV → Out) (S : Value → Sem Next) : Prop :=
  ∀ a h k r, F a h k = r → r.ok → ∀ B σ x w, VR σ a x → HR B σ h w → MOut P B σ h k r (S x) w
def MSpec2 (P : Program) (F : AV → AV → AH → KV → Out) (S : Value → Value → Sem Next) : Prop :=
  ∀ a b h k r, F a b h k = r → r.ok → ∀ B σ x y w, VR σ a x → VR σ b y → HR B σ h w → MOut P B σ h k r (S x y) w
def ESpec (P : Program) (nt : Nat) (o : Oper) (f : OpF) : Prop :=
  ∀ s tr h k r, f s tr h k = r → r.ok → ∀ B σ tm w, (∀ x ∈ o.op.operands, OpR σ nt tr tm x) → HR B σ h w → MOut P B σ h k r (execOp (ev tm) o) w
def vS (s : Sem Value) : Sem Next := do pure (.value (← s))
def uS (s : Sem Unit) : Sem Next := do s; pure .skip
section
variable {G : Cfg} {P : Program} {B : Base} {σ : Sg} {h : AH} {w : World} {nt : Nat} {o : Oper}
theorem RSpec.e {f : OpF} (hf : RSpec P nt o f) : ESpec P nt o f := by
  intro s tr h k r e ok B σ tm w hop hr
  obtain ⟨v, hv, hs⟩ := hf s tr h k r e ok
  obtain ⟨u, hu, hvu⟩ := hs B σ tm w hop hr
  exact ⟨v, h, σ, u, _, w, hv, hu, .inl rfl, Grows.refl _ σ, hvu, hr, .refl _⟩
theorem m1_spec {x : Operand} {F : AV → AH → KV → Out} {S : Value → Sem Next} (hF : MSpec1 P F S) (he : ∀ ρ, execOp ρ o = S (ρ x)) (hx : x ∈ o.op.operands) : ESpec P nt o (h1 nt x F).f := by
  intro s tr h k r e ok B σ tm w hop hr
  obtain ⟨a, ha, e1⟩ := opd_inv (nt := nt) (x := x) (tr := tr) (k := fun v => F v h k) e ok
  rw [he]
  exact hF a h _ r e1 ok B σ _ w (hop x hx a ha) hr
theorem m2_spec {x y : Operand} {F : AV → AV → AH → KV → Out} {S : Value → Value → Sem Next} (hF : MSpec2 P F S) (he : ∀ ρ, execOp ρ o = S (ρ x) (ρ y)) (hx : x ∈ o.op.operands) (hy : y ∈ o.op.operands) :
    ESpec P nt o (h2 nt x y F).f := by
  intro s tr h k r e ok B σ tm w hop hr
  obtain ⟨a, ha, e1⟩ := opd_inv (nt := nt) (x := x) (tr := tr) (k := fun v => (opd nt y).f tr fun w => F v w h k) e ok
  obtain ⟨b, hb, e2⟩ := opd_inv (nt := nt) (x := y) (tr := tr) (k := fun w => F a w h k) e1 ok
  rw [he]
  exact hF a b h _ r e2 ok B σ _ _ w (hop x hx a ha) (hop y hy b hb) hr
theorem one_cell {v : AV} {u : Value} (h : one v = true) (hr : VR σ v u) : u.oneCell' = true := by
  cases v <;> first | (simp [one] at h; done) | skip
  all_goals simp only [VR] at hr
  case bool => subst hr; rfl
  case int => subst hr; rfl
  case flt => subst hr; rfl
  case sym => exact hr.1
  case str => obtain ⟨_, rfl, _⟩ := hr; rfl
  case ptr => obtain ⟨_, _, _, _, rfl⟩ := hr; rfl
  case nilp => subst hr; rfl
  case slc => obtain ⟨_, _, _, _, _, _, rfl, _⟩ := hr; rfl
  case nils => subst hr; rfl
  case map => obtain ⟨_, _, _, _, rfl⟩ := hr; rfl
  case nilm => subst hr; rfl
  case fn => obtain ⟨_, _, rfl, _⟩ := hr; rfl
  case yld => obtain ⟨_, _, _, _, rfl⟩ := hr; rfl
  case nilf => subst hr; rfl
  case ifc => obtain ⟨_, rfl, _⟩ := hr; rfl
  case nili => subst hr; rfl
theorem cells_one {u : Value} (h : u.oneCell' = true) : u.cells = #[u] := by cases u <;> first | rfl | (simp [Value.oneCell'] at h)
theorem allOne_cells : ∀ {l : List AV} {us : List Value}, allOne l = true → VRs σ l us → ∀ u ∈ us, u.oneCell' = true
  | [], us, _, hr => by
    have : us = [] := by simpa [VRs] using hr
    subst this; simp
  | v :: l, us, h, hr => by
    simp only [allOne, Bool.and_eq_true] at h
    simp only [VRs] at hr
    obtain ⟨b, m', rfl, hb, hm⟩ := hr
    intro u hu
    rcases List.mem_cons.1 hu with rfl | hu
    · exact one_cell h.1 hb
    · exact allOne_cells h.2 hm u hu
def over (cc : Array Value) (i : Nat) (us : List Value) : Array Value := (cc.toList.take i ++ us ++ cc.toList.drop (i + us.length)).toArray
theorem over_size {cc : Array Value} {i : Nat} {us : List Value} (h : i + us.length ≤ cc.size) : (over cc i us).size = cc.size := by
  simp only [over, List.size_toArray, List.length_append, List.length_take, List.length_drop, Array.length_toList]
  omega
theorem over_get {cc : Array Value} {i : Nat} {us : List Value} (h : i + us.length ≤ cc.size) (j : Nat) :
    (over cc i us)[j]? = if i ≤ j ∧ j < i + us.length then us[j - i]? else cc[j]? := by
  simp only [over, List.getElem?_toArray]
  by_cases h1 : j < i
  · rw [if_neg (by omega), List.append_assoc, List.getElem?_append_left (by simp; omega), List.getElem?_take, if_pos h1]
    simp
  · by_cases h2 : j < i + us.length
    · rw [if_pos ⟨by omega, h2⟩, List.append_assoc, List.getElem?_append_right (by simp; omega)]
      have : (cc.toList.take i).length = i := by simp; omega
      rw [this, List.getElem?_append_left (by omega)]
    · rw [if_neg (by omega), List.getElem?_append_right (by simp; omega)]
      have : (cc.toList.take i ++ us).length = i + us.length := by simp; omega
      rw [this, List.getElem?_drop, show i + us.length + (j - (i + us.length)) = j from by omega]
      simp
theorem setCell_at {w : World} {c i e lo hi : Nat} {cc : Array Value} {v : Value} (hc : w.heap[c]? = some (.cells cc e (lo, hi))) : w.setCell ⟨c, i, none⟩ v = World.put w c (.cells (cc.setIfInBounds i v) e (lo, hi)) := by
  unfold World.setCell World.put
  congr 1
  apply Array.ext_getElem?
  intro j
  rw [Array.getElem?_modify, Array.getElem?_setIfInBounds]
  by_cases hj : c = j
  · subst hj
    rw [if_pos rfl, if_pos rfl, hc]
    have : c < w.heap.size := (Array.getElem?_eq_some_iff.1 hc).1
    simp [this]
  · rw [if_neg hj, if_neg hj]
theorem put_put {w : World} {c : Nat} {o o' : Obj} : World.put (World.put w c o) c o' = World.put w c o' := by simp [World.put]
theorem put_get {w : World} {c : Nat} {o : Obj} (h : c < w.heap.size) : (World.put w c o).heap[c]? = some o := by simp [World.put, h]
theorem put_self {w : World} {c : Nat} {o : Obj} (h : w.heap[c]? = some o) : World.put w c o = w := by
  unfold World.put
  congr 1
  apply Array.ext_getElem?
  intro j
  rw [Array.getElem?_setIfInBounds]
  by_cases hj : c = j
  · subst hj
    have hlt : c < w.heap.size := (Array.getElem?_eq_some_iff.1 h).1
    rw [if_pos rfl, if_pos hlt, h]
  · rw [if_neg hj]
theorem run_storeCells {c e lo hi j : Nat} : ∀ (us : List Value) (i : Nat) (cc : Array Value) (w : World), w.heap[c]? = some (.cells cc e (lo, hi)) → j + i + us.length ≤ cc.size → (lo = hi ∨ cc.size ≤ lo) →
    (∀ u ∈ us, u.oneCell' = true) → (storeCells ⟨c, j, none⟩ us i).run P w = .ok () (World.put w c (.cells (over cc (j + i) us) e (lo, hi)))
  | [], i, cc, w, hc, hl, hf, ho => by
    have : over cc (j + i) [] = cc := by
      apply Array.ext_getElem?; intro q; rw [over_get (by simpa using hl)]; rw [if_neg (by simp <;> omega)]
    rw [this, put_self hc]; rfl
  | u :: us, i, cc, w, hc, hl, hf, ho => by
    simp only [List.length_cons] at hl
    have hcell : w.cell? ⟨c, j + i, none⟩ = some cc[j + i] := by simp [World.cell?, hc, show j + i < cc.size from by omega]
    have hfz : w.frozen? ⟨c, j + i, none⟩ = false := by
      simp only [World.frozen?, hc]
      rcases hf with rfl | hf
      · simp <;> omega
      · simp; omega
    unfold storeCells
    have hst : (store (Addr.add ⟨c, j, none⟩ i) u).run P w = .ok () (World.put w c (.cells (cc.setIfInBounds (j + i) u) e (lo, hi))) := by
      rw [addr_add, run_store P w _ u .plain (ho u (by simp))]
      simp only [hcell, hfz, setCell_at hc]
      rfl
    simp only [Sem.run_bind, hst, Result.andThen_ok]
    rw [run_storeCells us (i + 1) _ _ (put_get (Array.getElem?_eq_some_iff.1 hc).1) (by simp; omega) (by simpa using hf) (fun v hv => ho v (by simp [hv])), put_put]
    congr 3
    apply Array.ext_getElem?
    intro q
    rw [over_get (by simp; omega), over_get (by simp; omega), Array.getElem?_setIfInBounds]
    simp only [List.length_cons]
    by_cases h1 : j + i = q
    · subst h1
      rw [if_neg (by omega), if_pos rfl, if_pos (by omega), if_pos (by omega)]
      simp
    · by_cases h2 : j + (i + 1) ≤ q ∧ q < j + (i + 1) + us.length
      · rw [if_pos h2, if_pos (by omega), show q - (j + i) = (q - (j + (i + 1))) + 1 from by omega]
        simp
      · rw [if_neg h2, if_neg h1, if_neg (by omega)]
theorem flr_free {f : Fl} {d n lo hi : Nat} (h : FlR f d n lo hi) (hf : f ≠ .ro) : lo = hi ∨ n ≤ lo := by
  cases f with
  | plain => exact .inl h.1
  | stringish => exact h
  | ro => exact absurd rfl hf
theorem HR.over (hr : HR B σ h w) {b c d n e o : Nat} {cs ys : List AV} {us : List Value} {f : Fl} {t' : BT ABlk} (hb : h.t.get b = some (.cells cs e f)) (hs : σ.at_ b = some (c, d, n)) (hf : f ≠ .ro)
    (hl : o + ys.length ≤ cs.length) (hy : VRs σ ys us) (ho : allOne ys = true) (ht : SetAt h b (.cells (cs.take o ++ ys ++ cs.drop (o + ys.length)) e f) t') :
    ∃ w', (storeCells ⟨c, o + d, none⟩ us).run P w = .ok () w' ∧ HR B σ ⟨t', h.next, h.ds, h.lo⟩ w' := by
  obtain ⟨cc, lo, hi, hc, hn, hfl, hv⟩ := hr.cells hb hs
  have hul := hy.length
  by_cases h0 : ys.length = 0
  · have hy0 : ys = [] := List.eq_nil_of_length_eq_zero h0
    subst hy0
    have hu0 : us = [] := List.eq_nil_of_length_eq_zero (by simpa using hul.symm)
    subst hu0
    refine ⟨w, rfl, ?_⟩
    have := hr.put hb rfl (by cases f <;> simp_all [ABlk.writable]) hs ht (o := .cells cc e (lo, hi)) ⟨cc, lo, hi, rfl, hn, hfl, fun i v hi => hv i v (by simpa using hi)⟩ h.ds
    rwa [put_self hc] at this
  · have hsz : o + d + us.length ≤ cc.size := by
      obtain ⟨u, hu, _⟩ := hv (o + ys.length - 1) _ (List.getElem?_eq_getElem (by omega))
      obtain ⟨hlt, _⟩ := Array.getElem?_eq_some_iff.1 hu
      omega
    refine ⟨_, run_storeCells us 0 cc w hc (by omega) (by rw [hn]; exact flr_free hfl hf) (allOne_cells ho hy), ?_⟩
    refine hr.put hb rfl (by cases f <;> simp_all [ABlk.writable]) hs ht ⟨_, lo, hi, rfl, by rw [over_size (by omega)]; exact hn, hfl, fun i v hi' => ?_⟩ h.ds
    rw [over_get (by omega)]
    by_cases h1 : i < o
    · rw [List.append_assoc, List.getElem?_append_left (by simp; omega), List.getElem?_take, if_pos h1] at hi'
      rw [if_neg (by omega)]
      exact hv i v hi'
    · by_cases h2 : i < o + ys.length
      · rw [List.append_assoc, List.getElem?_append_right (by simp; omega)] at hi'
        have hto : (cs.take o).length = o := by simp; omega
        rw [hto, List.getElem?_append_left (by omega)] at hi'
        obtain ⟨u, hu, hru⟩ := hy.get _ _ hi'
        rw [if_pos (by omega)]
        exact ⟨u, by rw [show i + d - (o + d + 0) = i - o from by omega]; exact hu, hru⟩
      · have hto : (cs.take o ++ ys).length = o + ys.length := by simp; omega
        rw [List.getElem?_append_right (by omega), hto, List.getElem?_drop, show o + ys.length + (i - (o + ys.length)) = i from by omega] at hi'
        rw [if_neg (by omega)]
        exact hv i v hi'
end
end
end Go.Ev
namespace Go.Ev
noncomputable section
open Go
section
variable {G : Cfg} {P : Program} {B : Base} {σ : Sg} {h : AH} {w : World} {nt : Nat} {o : Oper}
theorem storeOne_spec (hG : G.Ok) {t : Nat} (hs : G.size t = some 1) : MSpec2 G.P storeOne (fun a v => uS (Instr.storeAt t a v)) := by
  intro a b h k r e ok B σ x y w hx hy hr
  obtain ⟨bl, p, rfl, e1⟩ := asP_inv e ok
  obtain ⟨X, hX, e2⟩ := hget_inv e1 ok
  obtain ⟨cs, ce, f, rfl, e3⟩ := asCells_inv e2 ok
  obtain ⟨hf, e4⟩ := notRo_inv e3 ok
  obtain ⟨h1, e5⟩ := guardB_inv e4 ok
  obtain ⟨hlt, e6⟩ := setK_inv e5 ok
  obtain ⟨t', ht, e7⟩ := hset_inv e6 ok
  simp only [VR] at hx
  obtain ⟨c, d, n, hc, rfl⟩ := hx
  have hset : cs.set p b = cs.take p ++ [b] ++ cs.drop (p + [b].length) := by
    rw [List.set_eq_take_append_cons_drop]; simp [hlt]
  rw [hset] at ht
  have hone := one_cell h1 hy
  obtain ⟨w', hw, hr'⟩ := hr.over (P := G.P) (us := [y]) hX hc hf (show p + [b].length ≤ cs.length from hlt) (VRs.cons hy VRs.nil) (by simp [allOne, h1]) ht
  refine ⟨_, _, σ, undef, .skip, w', e7, ?_, .inr ⟨rfl, rfl⟩, Grows.refl _ σ, by simp [VR, undef], hr', .set ht⟩
  simp only [uS, Instr.storeAt, Instr.sureAddr, storeVar, Sem.run_bind, Sem.run_pure, Result.andThen_ok, run_sizeOf (size_ok hG hs), cells_one hone]
  simp [hw]
theorem storeAgg_spec (hG : G.Ok) {t sz : Nat} (hs : G.size t = some sz) : MSpec2 G.P (storeAgg sz) (fun a v => uS (Instr.storeAt t a v)) := by
  intro a b h k r e ok B σ x y w hx hy hr
  unfold storeAgg at e
  split at e
  · rename_i l
    obtain ⟨bl, p, rfl, e1⟩ := asP_inv e ok
    obtain ⟨X, hX, e2⟩ := hget_inv e1 ok
    obtain ⟨cs, ce, f, rfl, e3⟩ := asCells_inv e2 ok
    obtain ⟨hf, e4⟩ := notRo_inv e3 ok
    obtain ⟨h1, e5⟩ := guardB_inv e4 ok
    obtain ⟨h2, e5'⟩ := guardB_inv e5 ok
    obtain ⟨hlt, e6⟩ := overK_inv ok e5'
    obtain ⟨t', ht, e7⟩ := hset_inv e6 ok
    simp only [VR] at hx hy
    obtain ⟨c, d, n, hc, rfl⟩ := hx
    obtain ⟨us, rfl, hus⟩ := hy
    obtain ⟨w', hw, hr'⟩ := hr.over (P := G.P) hX hc hf hlt hus h1 ht
    have hl : us.size = sz := by
      have := hus.length
      have h2 : l.length = sz := Nat.eq_of_beq_eq_true h2
      simp at this; omega
    refine ⟨_, _, σ, undef, .skip, w', e7, ?_, .inr ⟨rfl, rfl⟩, Grows.refl _ σ, by simp [VR, undef], hr', .set ht⟩
    simp only [uS, Instr.storeAt, Instr.sureAddr, storeVar, Sem.run_bind, Sem.run_pure, Result.andThen_ok, run_sizeOf (size_ok hG hs), Value.cells, hl]
    simp [hw]
  · subst e; exact ok.elim
theorem HR.pushCells (hr : HR B σ h w) {cs : List AV} {us extra : List Value} {e lo hi : Nat} {f : Fl} {t' : BT ABlk} (ht : h.t.set h.next (.cells cs e f) = some t') (hv : VRs σ cs us)
    (hf : FlR f 0 (us ++ extra).length lo hi) :
    HR B (σ.add h.next w.heap.size 0 (us ++ extra).length) ⟨t', h.next + 1, h.ds, h.lo⟩ (w.alloc (.cells (us ++ extra).toArray e (lo, hi))) := by
  have hle := hr.add_le w.heap.size 0 (us ++ extra).length
  refine hr.push ht ⟨_, lo, hi, rfl, by simp, hf, fun i v hi' => ?_⟩ h.ds
  obtain ⟨u, hu, hru⟩ := (hv.mono hle).get i v hi'
  refine ⟨u, ?_, hru⟩
  rw [Nat.add_zero, List.getElem?_toArray, List.getElem?_append_left (List.getElem?_eq_some_iff.1 hu).1]
  exact hu
theorem HR.pushCells' (hr : HR B σ h w) {cs : List AV} {us : Array Value} {e : Nat} {t' : BT ABlk} (ht : h.t.set h.next (.cells cs e .plain) = some t') (hv : VRs σ cs us.toList) :
    HR B (σ.add h.next w.heap.size 0 us.size) ⟨t', h.next + 1, h.ds, h.lo⟩ (w.alloc (.cells us e)) := by
  have := hr.pushCells (extra := []) (lo := 0) (hi := 0) ht hv ⟨rfl, rfl⟩
  simpa using this
theorem cellsOf_ofCell (v : Value) : cellsOf (ofCell v) = [ofCell v] := by
  unfold ofCell
  split <;> first | rfl | (rw [forceB_eq]; rfl) | (rw [forceI_eq]; rfl)
theorem zero_cell (σ : Sg) (v : Value) (h1 : ofValue v = ofCell v) (h2 : v.cells = #[v]) : VRs σ (cellsOf (ofValue v)) v.cells.toList := by
  rw [h1, h2, cellsOf_ofCell]; exact VRs.cons (ofCell_R σ v) VRs.nil
theorem zero_cells (σ : Sg) (z : Value) : VRs σ (cellsOf (ofValue z)) z.cells.toList := by
  cases z with
  | agg cs => exact ofCells_R σ _
  | tuple cs =>
    have : cellsOf (ofValue (.tuple cs)) = [ofValue (.tuple cs)] := by
      unfold ofValue; simp only; split <;> rfl
    rw [this]
    exact VRs.cons (ofValue_R σ _) VRs.nil
  | _ => exact zero_cell σ _ rfl rfl
theorem cellsOf_R {v : AV} {u : Value} (ht : isTop v = false) (hr : VR σ v u) : VRs σ (cellsOf v) u.cells.toList := by
  have one : ∀ {v : AV} {u : Value}, cellsOf v = [v] → u.cells = #[u] → VR σ v u → VRs σ (cellsOf v) u.cells.toList := by
    intro v u h1 h2 h3
    rw [h1, h2]; exact VRs.cons h3 VRs.nil
  cases v <;> first | (simp [isTop] at ht; done) | skip
  case agg => simp only [VR] at hr; obtain ⟨cs, rfl, h⟩ := hr; exact h
  all_goals refine one rfl ?_ hr
  all_goals simp only [VR] at hr
  case undef => subst hr; rfl
  case bool => subst hr; rfl
  case int => subst hr; rfl
  case flt => subst hr; rfl
  case sym => exact cells_one hr.1
  case str => obtain ⟨_, rfl, _⟩ := hr; rfl
  case ptr => obtain ⟨_, _, _, _, rfl⟩ := hr; rfl
  case nilp => subst hr; rfl
  case slc => obtain ⟨_, _, _, _, _, _, rfl, _⟩ := hr; rfl
  case nils => subst hr; rfl
  case map => obtain ⟨_, _, _, _, rfl⟩ := hr; rfl
  case nilm => subst hr; rfl
  case fn => obtain ⟨_, _, rfl, _⟩ := hr; rfl
  case yld => obtain ⟨_, _, _, _, rfl⟩ := hr; rfl
  case nilf => subst hr; rfl
  case ifc => obtain ⟨_, rfl, _⟩ := hr; rfl
  case nili => subst hr; rfl
  case tup => obtain ⟨_, rfl, _⟩ := hr; rfl
theorem ptr_new (σ : Sg) (b c n : Nat) : VR (σ.add b c 0 n) (.ptr b 0) (.pointer (some ⟨c, 0, none⟩)) := by
  simp only [VR]; exact ⟨c, 0, n, Sg.add_self σ b c 0 n, rfl⟩
theorem slc_new (σ : Sg) (b c n len cap' : Nat) (cap : Cap) (hl : len ≤ cap') (hc : capOk cap cap' 0 n) : VR (σ.add b c 0 n) (.slc b 0 len cap) (.slice (some ⟨c, 0, none⟩) len cap') := by
  simp only [VR]; exact ⟨c, 0, n, 0, cap', Sg.add_self σ b c 0 n, rfl, hl, hc, .inl rfl⟩
theorem alloc_spec (hG : G.Ok) {e : Nat} {z : AV} (hz : G.zero e = some z) {h : AH} {k : KV} {r : Out} (eq : newCells e (cellsOf z) h k = r) (ok : r.ok) {B : Base} {σ : Sg} {w : World}
    (hr : HR B σ h w) : MOut G.P B σ h k r (vS (Instr.alloc e true (.tuple #[]))) w := by
  obtain ⟨zv, rfl, hzr⟩ := zero_ok hG hz
  obtain ⟨t', ht, e1⟩ := hnew_inv eq ok
  refine ⟨_, _, _, _, _, _, e1, ?_, .inl rfl, Sg.add_grows _ _ _ _ _, ptr_new _ _ _ _, hr.pushCells' ht (zero_cells σ zv), .push hr ht⟩
  simp only [vS, Instr.alloc, Sem.run_bind, hzr, Result.andThen_ok, newVar, newRow, run_newObj, Sem.run_pure]
  rfl
theorem box_spec {e : Nat} : MSpec1 P (boxV e) (fun x => vS (Instr.box e x)) := by
  intro a h k r eq ok B σ x w hx hr
  obtain ⟨htop, e0⟩ := guardB_inv eq ok
  have htop : isTop a = false := by rw [notB_eq] at htop; simpa using htop
  obtain ⟨t', ht, e1⟩ := hnew_inv e0 ok
  refine ⟨_, _, _, _, _, _, e1, ?_, .inl rfl, Sg.add_grows _ _ _ _ _, ptr_new _ _ _ _, hr.pushCells' ht (cellsOf_R htop hx), .push hr ht⟩
  simp only [vS, Instr.box, Sem.run_bind, Result.andThen_ok, newVar, newRow, run_newObj, Sem.run_pure]
  rfl
theorem makeMap_spec (hG : G.Ok) {t : Nat} {hint : Option Value} (hh : ∀ v, hint = some v → ∃ kt e, G.und t = some (.map kt e) ∧ ∃ kd n, v = .int kd n) {h : AH} {k : KV} {r : Out}
    (eq : hnew h (.amap [] 0) (fun b h' => k (.map b) h') = r) (ok : r.ok) {B : Base} {σ : Sg} {w : World} (hr : HR B σ h w) : MOut G.P B σ h k r (vS (Instr.makeMap t hint)) w := by
  obtain ⟨t', ht, e1⟩ := hnew_inv eq ok
  have hr' := hr.push (n := 0) ht (o := .map #[] 0) ⟨#[], rfl, rfl⟩ h.ds
  refine ⟨_, _, _, .map (some w.heap.size), _, _, e1, ?_, .inl rfl, Sg.add_grows _ _ _ _ _, ?_, hr', .push hr ht⟩
  · cases hint with
    | none => simp only [vS, Instr.makeMap, Sem.run_bind, Result.andThen_ok, run_newObj, Sem.run_pure]
    | some v =>
      obtain ⟨kt, e, hu, kd, n, rfl⟩ := hh v rfl
      simp only [vS, Instr.makeMap, Sem.run_bind, Go.run_underlying (und_ok hG hu), asInt, asIntOf, Result.andThen_ok, run_newObj, Sem.run_pure]
  · simp only [VR]; exact ⟨_, 0, 0, Sg.add_self σ _ _ _ _, rfl⟩
theorem zrow_R {z : List AV} {zs : List Value} (hz : VRs σ z zs) (hp : 0 < zs.length) : ∀ n, VRs σ (zrow z n) ((Array.range (n * zs.length)).map (zs.toArray[· % zs.toArray.size]!)).toList
  | 0 => by simp [zrow, VRs]
  | n + 1 => by
    have e : ((Array.range ((n + 1) * zs.length)).map (zs.toArray[· % zs.toArray.size]!)).toList = zs ++ ((Array.range (n * zs.length)).map (zs.toArray[· % zs.toArray.size]!)).toList := by
      apply List.ext_getElem?
      intro i
      simp only [Array.toList_map, Array.toList_range, List.size_toArray]
      by_cases h1 : i < zs.length
      · rw [List.getElem?_append_left h1]
        have h2 : i < (n + 1) * zs.length := Nat.lt_of_lt_of_le h1 (by rw [Nat.succ_mul]; exact Nat.le_add_left _ _)
        simp [h2, Nat.mod_eq_of_lt h1, h1]
      · rw [List.getElem?_append_right (by omega)]
        by_cases h2 : i < (n + 1) * zs.length
        · have h3 : i - zs.length < n * zs.length := by rw [Nat.succ_mul] at h2; omega
          have h4 : (i - zs.length) % zs.length = i % zs.length := by
            rw [← Nat.mod_eq_sub_mod (by omega)]
          simp [h2, h3, h4]
        · have h3 : ¬ i - zs.length < n * zs.length := by rw [Nat.succ_mul] at h2; omega
          simp [h2, h3]
    rw [e]
    exact hz.append (zrow_R hz hp n)
end
end
end Go.Ev
namespace Go.Ev
noncomputable section
open Go
section
variable {G : Cfg} {P : Program} {B : Base} {σ : Sg} {h : AH} {w : World} {nt : Nat} {o : Oper}
theorem info_zero {t : Nat} {i : TypeInfo} {z : AV} (hi : G.info t = some i) (hz : G.zero t = some z) : ∃ v, i.zero = some v ∧ z = ofValue v := by
  unfold Cfg.zero at hz
  rw [hi] at hz
  simp only [Option.bind_some] at hz
  cases hz' : i.zero with
  | none => rw [hz'] at hz; cases hz
  | some v => rw [hz'] at hz; exact ⟨v, rfl, (Option.some.inj hz).symm⟩
theorem madeRow_R {z : Value} (hp : 0 < (cellsOf (ofValue z)).length) (n : Nat) : VRs σ (zrow (cellsOf (ofValue z)) n) ((Array.range (n * (cellsOf (ofValue z)).length)).map (z.cells[· % z.cells.size]!)).toList := by
  have hz := zero_cells σ z
  have hl := hz.length
  have := zrow_R hz (by rw [← hl]; exact hp) n
  rw [← hl] at this
  simpa using this
theorem makeSlice_spec (hG : G.Ok) {t e : Nat} {i : TypeInfo} {z : AV} (ht : G.und t = some (.slice e)) (hi : G.info e = some i) (hz : G.zero e = some z) (hc : (cellsOf z).length = i.size) (h0 : i.size ≠ 0)
    (hb : i.bytes * 65536 ≤ 140737488355328) : MSpec2 G.P (makeSliceV e i.size (cellsOf z)) (fun l c => vS (Instr.makeSlice t l c)) := by
  intro a b h k r eq ok B σ x y w hx hy hr
  obtain ⟨kl, l, rfl, e1⟩ := asN_inv eq ok
  obtain ⟨kc, c, rfl, e2⟩ := asN_inv e1 ok
  obtain ⟨h1, e3⟩ := guardB_inv e2 ok
  obtain ⟨h2, e4⟩ := guardB_inv e3 ok
  obtain ⟨t', hset, e5⟩ := hnew_inv e4 ok
  have h1 : l ≤ c := Nat.le_of_ble_eq_true h1
  have h2 : c * i.size ≤ 65536 := Nat.le_of_ble_eq_true h2
  simp only [VR] at hx hy; subst hx hy
  obtain ⟨zv, hzv, rfl⟩ := info_zero hi hz
  have hc65 : c ≤ 65536 := Nat.le_trans (by have := Nat.mul_le_mul_left c (Nat.one_le_iff_ne_zero.2 h0); simpa using this) h2
  have hbc : i.bytes * c ≤ 281474976710656 := Nat.le_trans (Nat.mul_le_mul_left _ hc65) (by omega)
  have hrun := run_makeSlice (P := G.P) w t e i zv (und_ok hG ht) (hG.info e i hi) hzv kl kc (Int.ofNat l) (Int.ofNat c) (Int.natCast_nonneg l) (Int.ofNat_le.2 h1) (by show c * i.size ≤ _; omega)
    (by have q : ((i.bytes * c : Nat) : Int) ≤ 281474976710656 := by omega
        rwa [Int.natCast_mul] at q) (by show (c : Int) ≤ _; omega)
  have hrow : VRs σ (zrow (cellsOf (ofValue zv)) c) (madeCells zv.cells (c * i.size)).toList := by
    have := madeRow_R (σ := σ) (z := zv) (by omega) c
    rw [hc] at this
    exact this
  have hsz : (madeCells zv.cells (c * i.size)).size = c * i.size := size_madeCells _ _
  have hpush := hr.pushCells' hset hrow
  refine ⟨_, _, _, .slice (some ⟨w.heap.size, 0, none⟩) l c, _, _, e5, ?_, .inl rfl, Sg.add_grows _ _ _ _ _, slc_new _ _ _ _ _ _ _ h1 rfl, hpush, .push hr hset⟩
  simp only [vS, Sem.run_bind, hrun, Result.andThen_ok, Sem.run_pure]
  rfl
theorem oldK_inv {cs : List AV} {o len sz : Nat} {k : List AV → Out} {r : Out} (e : oldK cs o len sz k = r) (ok : r.ok) :
    ∃ l, k l = r ∧ ((len = 0 ∧ l = []) ∨ (0 < len ∧ o + len * sz ≤ cs.length ∧ l = (cs.drop o).take (len * sz))) := by
  unfold oldK at e
  cases len with
  | zero => exact ⟨[], e, .inl ⟨rfl, rfl⟩⟩
  | succ n =>
    obtain ⟨h1, h2⟩ := sliceK_inv (l := cs) (o := o) (n := Nat.mul (n + 1) sz) (k := k) e ok
    exact ⟨_, h2, .inr ⟨Nat.succ_pos _, h1, rfl⟩⟩
theorem old_run (hr : HR B σ h w) {b c d nn e j o len sz cap' : Nat} {cs l : List AV} {f : Fl} (hb : h.t.get b = some (.cells cs e f)) (hs : σ.at_ b = some (c, d, nn))
    (hj : j = o + d ∨ len = 0) (hl : (len = 0 ∧ l = []) ∨ (0 < len ∧ o + len * sz ≤ cs.length ∧ l = (cs.drop o).take (len * sz))) :
    ∃ us : List Value, us.length = len * sz ∧ VRs σ l us ∧ (Builtin.firstCells sz len (.slice (some ⟨c, j, none⟩) len cap')).run P w = .ok us.toArray w ∧ ∀ i v, us[i]? = some v → w.cell? ⟨c, j + i, none⟩ = some v := by
  rcases hl with ⟨rfl, rfl⟩ | ⟨hp, hle, rfl⟩
  · exact ⟨[], by simp, by simp [VRs], by simp [Builtin.firstCells, loadCells, loadCellsFrom], by simp⟩
  · have hj : j = o + d := hj.resolve_right (by omega)
    subst hj
    obtain ⟨us, h1, h2, h3⟩ := hr.row hb hs hle
    exact ⟨us, h1, h2, run_firstCells_some w sz len ⟨c, o + d, none⟩ len cap' us h1 (fun j v hj => by rw [addr_add]; exact h3 j v hj), h3⟩
def AppOk (P : Program) (tx : TypeId) (i : TypeInfo) (zv : Value) (x : Value) (n : Nat) (us : List Value) (w : World) : Prop :=
  ∃ d, P.underlying tx = some d ∧ us.length = n * i.size ∧
    (((∀ k, d ≠ .int k) ∧ (Builtin.lenOf x).run P w = .ok n w ∧ (Builtin.firstCells i.size n x).run P w = .ok us.toArray w) ∨
     ((∃ k, d = .int k) ∧ (∃ kd, x = .int kd (.ofNat n)) ∧ n ≤ 65536 ∧ us.toArray = Builtin.zeroCells zv.cells n))
theorem lenOf_world {x : Value} {n : Nat} {w w' : World} (h : (Builtin.lenOf x).run P w = .ok n w) : (Builtin.lenOf x).run P w' = .ok n w' := by
  unfold Builtin.lenOf at h ⊢
  split at h <;> simp at h <;> simp [h]
theorem append_fit {t tx ty e : TypeId} {i : TypeInfo} {zv x : Value} {n sLen sCap : Nat} {us : List Value} {base : Option Addr} {w w' : World} (ht : P.underlying t = some (.slice e)) (hi : P.info? e = some i) (hz : i.zero = some zv)
    (hb : i.bytes * 65536 ≤ 140737488355328) (A : AppOk P tx i zv x n us w) (hn : sLen + n ≤ sCap)
    (hs : match base with | none => w' = w | some a => (storeCells (a.add (sLen * i.size)) us).run P w = .ok () w') :
    (Builtin.append_ #[t, tx] ty #[.slice base sLen sCap, x]).run P w = .ok (.slice base (sLen + n) sCap) w' := by
  obtain ⟨d, hd, hl, A⟩ := A
  rcases A with ⟨hni, hlen, hf⟩ | ⟨⟨k, rfl⟩, ⟨kd, rfl⟩, hn6, hus⟩
  · have hm : (match d with | .int _ => true | _ => false) = false := by
      cases d <;> first | rfl | exact absurd rfl (hni _)
    cases base with
    | none =>
      subst hs
      simp [Builtin.append_, Go.run_underlying ht, Go.run_underlying hd, sizeOf, typeInfo, hi, hm, hlen, hf, hn]
    | some a =>
      have hs : (storeCells (a.add (sLen * i.size)) us).run P w = .ok () w' := hs
      simp [Builtin.append_, Go.run_underlying ht, Go.run_underlying hd, sizeOf, typeInfo, hi, hm, hlen, hf, hn, hs]
  · have hw : IntKind.i64.wrap (n : Int) = n := by rw [IntKind.wrap_i64]; omega
    have h0 : ¬ ((n : Int) < 0) := by omega
    have hnb : n * i.bytes ≤ 281474976710656 := by
      rw [Nat.mul_comm]; exact Nat.le_trans (Nat.mul_le_mul_left _ hn6) (by omega)
    have h48 : ¬ (281474976710656 < (n : Int) * (i.bytes : Int)) := by
      have q : ((n * i.bytes : Nat) : Int) ≤ 281474976710656 := by omega
      rw [Int.natCast_mul] at q; omega
    have hap : (if n * i.size = 0 then (pure #[] : Sem (Array Value)) else (do pure (Builtin.zeroCells (← zeroValue e).cells n))).run P w = .ok us.toArray w := by
      split
      · rename_i h
        have : us = [] := List.eq_nil_of_length_eq_zero (by omega)
        subst this; rfl
      · simp [zeroValue, typeInfo, hi, hz, hus]
    cases base with
    | none =>
      subst hs
      simp [Builtin.append_, Go.run_underlying ht, Go.run_underlying hd, sizeOf, typeInfo, hi, asInt, asIntOf, hw, h0, h48, hn]
      intro _
      simp [zeroValue, typeInfo, hi, hz]
    | some a =>
      have hs : (storeCells (a.add (sLen * i.size)) us).run P w = .ok () w' := hs
      have hus' : (Builtin.zeroCells zv.cells n).toList = us := by rw [← hus]
      by_cases hns : n * i.size = 0
      · have : us = [] := List.eq_nil_of_length_eq_zero (by omega)
        subst this
        have hs' : w' = w := by
          have e : (storeCells (a.add (sLen * i.size)) []).run P w = .ok () w := rfl
          rw [e] at hs; cases hs; rfl
        subst hs'
        simp [Builtin.append_, Go.run_underlying ht, Go.run_underlying hd, sizeOf, typeInfo, hi, asInt, asIntOf, hw, h0, h48, hn, hns, hs]
      · simp [Builtin.append_, Go.run_underlying ht, Go.run_underlying hd, sizeOf, typeInfo, hi, asInt, asIntOf, hw, h0, h48, hn, hns, zeroValue, hz, hus', hs]
theorem append_grow {t tx ty e : TypeId} {i : TypeInfo} {zv x : Value} {n sLen sCap : Nat} {us olds : List Value} {base : Option Addr} {w : World} (ht : P.underlying t = some (.slice e)) (hi : P.info? e = some i) (hz : i.zero = some zv)
    (hb0 : i.bytes ≠ 0) (hb : i.bytes * 65536 ≤ 140737488355328) (A : AppOk P tx i zv x n us w.drew) (hn : sCap < sLen + n) (hfit : (2 * (sLen + n) + 1024) * i.bytes ≤ 281474976710656)
    (ho : (Builtin.firstCells i.size sLen (.slice base sLen sCap)).run P w.drew = .ok olds.toArray w.drew) :
    (Builtin.append_ #[t, tx] ty #[.slice base sLen sCap, x]).run P w =
      .ok (.slice (some ⟨w.heap.size, 0, none⟩) (sLen + n) (grownCap w (sLen + n) sCap e))
        (w.drew.alloc (.cells ((olds ++ us) ++ (Builtin.zeroCells zv.cells (grownCap w (sLen + n) sCap e - (sLen + n))).toList).toArray e)) := by
  have hn' : ¬ (sLen + n ≤ sCap) := by omega
  have hneed : sLen + n ≤ 281474976710656 := by
    have h1 : (2 * (sLen + n) + 1024) * 1 ≤ (2 * (sLen + n) + 1024) * i.bytes := Nat.mul_le_mul_left _ (Nat.one_le_iff_ne_zero.2 hb0)
    omega
  have h63 : ¬ (9223372036854775807 < ((sLen : Int) + (n : Int))) := by omega
  have hcap : Builtin.nextslicecap (sLen + n) sCap * i.bytes ≤ 281474976710656 :=
    Nat.le_trans (Nat.mul_le_mul_right _ (Nat.le_trans (nextslicecap_le hn) (by omega))) hfit
  have h48' : ¬ (281474976710656 < Builtin.nextslicecap (sLen + n) sCap * i.bytes) := by omega
  have hcells : ∀ (X : Array Value), olds.toArray ++ us.toArray ++ X = ((olds ++ us) ++ X.toList).toArray := by
    intro X; apply Array.ext'; simp
  obtain ⟨d, hd, hl, A⟩ := A
  rcases A with ⟨hni, hlen, hf⟩ | ⟨⟨k, rfl⟩, ⟨kd, rfl⟩, hn6, hus⟩
  · have hlen' := lenOf_world (w' := w) hlen
    simp [Builtin.append_, Go.run_underlying ht, Go.run_underlying hd, sizeOf, typeInfo, hi, hz, zeroValue, hlen', hf, hn', h63, h48', Question.forced, ho, newRow, grownCap]
    congr 2
    apply Array.ext'; simp [List.append_assoc]
  · have hw : IntKind.i64.wrap (n : Int) = n := by rw [IntKind.wrap_i64]; omega
    have h0 : ¬ ((n : Int) < 0) := by omega
    have hnb : n * i.bytes ≤ 281474976710656 := by
      rw [Nat.mul_comm]; exact Nat.le_trans (Nat.mul_le_mul_left _ hn6) (by omega)
    have h48 : ¬ (281474976710656 < (n : Int) * (i.bytes : Int)) := by
      have q : ((n * i.bytes : Nat) : Int) ≤ 281474976710656 := by omega
      rw [Int.natCast_mul] at q; omega
    by_cases hns : n * i.size = 0
    · have : us = [] := List.eq_nil_of_length_eq_zero (by omega)
      subst this
      simp [Builtin.append_, Go.run_underlying ht, Go.run_underlying hd, sizeOf, typeInfo, hi, hz, zeroValue, asInt, asIntOf, hw, h0, h48, hns, hn', h63, h48', Question.forced, ho, newRow, grownCap]
      congr 2
      apply Array.ext'; simp [List.append_assoc]
    · have hus' : (Builtin.zeroCells zv.cells n) = us.toArray := hus.symm
      simp [Builtin.append_, Go.run_underlying ht, Go.run_underlying hd, sizeOf, typeInfo, hi, hz, zeroValue, asInt, asIntOf, hw, h0, h48, hns, hn', h63, h48', Question.forced, ho, newRow, grownCap, hus']
      congr 2
      apply Array.ext'; simp [List.append_assoc]
end
end
end Go.Ev
namespace Go.Ev
noncomputable section
open Go
section
variable {G : Cfg} {P : Program} {B : Base} {σ : Sg} {h : AH} {w : World} {nt : Nat} {o : Oper}
theorem le_grown (w : World) (need old : Nat) (e : TypeId) : need ≤ grownCap w need old e := by
  unfold grownCap Question.cut; exact Nat.le_add_right _ _
theorem size_zeroCells (z : Array Value) (n : Nat) : (Builtin.zeroCells z n).toList.length = n * z.size := by simp [Builtin.zeroCells]
theorem HR.over' (hr : HR B σ h w) {b c d n e o : Nat} {cs ys : List AV} {us : List Value} {f : Fl} {t' : BT ABlk} (hb : h.t.get b = some (.cells cs e f)) (hs : σ.at_ b = some (c, d, n)) (hf : f ≠ .ro)
    (hl : o ≤ cs.length) (hsz : o + ys.length + d ≤ n) (hy : VRs σ ys us) (ho : allOne ys = true) (ht : SetAt h b (.cells (cs.take o ++ (ys ++ cs.drop (o + ys.length))) e f) t') :
    ∃ w', (storeCells ⟨c, o + d, none⟩ us).run P w = .ok () w' ∧ HR B σ ⟨t', h.next, h.ds, h.lo⟩ w' := by
  obtain ⟨cc, lo, hi, hc, hn, hfl, hv⟩ := hr.cells hb hs
  have hul := hy.length
  have hsz' : o + d + us.length ≤ cc.size := by omega
  refine ⟨_, run_storeCells us 0 cc w hc (by omega) (by rw [hn]; exact flr_free hfl hf) (allOne_cells ho hy), ?_⟩
  refine hr.put hb rfl (by cases f <;> simp_all [ABlk.writable]) hs ht ⟨_, lo, hi, rfl, by rw [over_size (by omega)]; exact hn, hfl, fun i v hi' => ?_⟩ h.ds
  rw [over_get (by omega)]
  by_cases h1 : i < o
  · rw [List.getElem?_append_left (by simp; omega), List.getElem?_take, if_pos h1] at hi'
    rw [if_neg (by omega)]
    exact hv i v hi'
  · have hto : (cs.take o).length = o := by simp; omega
    rw [List.getElem?_append_right (by omega), hto] at hi'
    by_cases h2 : i < o + ys.length
    · rw [List.getElem?_append_left (by omega)] at hi'
      obtain ⟨u, hu, hru⟩ := hy.get _ _ hi'
      rw [if_pos (by omega)]
      exact ⟨u, by rw [show i + d - (o + d + 0) = i - o from by omega]; exact hu, hru⟩
    · rw [List.getElem?_append_right (by omega), List.getElem?_drop, show o + ys.length + (i - o - ys.length) = i from by omega] at hi'
      rw [if_neg (by omega)]
      exact hv i v hi'
theorem HR.drew (hr : HR B σ h w) : HR B σ h w.drew := hr.draw _
theorem anew_out {e sz need n : Nat} {l : List AV} {us : List Value} {zv : Value} {cap : Nat} {h : AH} {k : KV} {r : Out} (eq : anew e sz need l h k = r) (ok : r.ok) (hr : HR B σ h w) (hl : VRs σ l us) (hn : us.length = need * sz)
    (hz : zv.cells.size = sz) (hcap : need ≤ cap) {m : Sem Value} (hm : m.run P w = .ok (.slice (some ⟨w.heap.size, 0, none⟩) need cap) (w.drew.alloc (.cells (us ++ (Builtin.zeroCells zv.cells (cap - need)).toList).toArray e))) (_ : n = n) :
    MOut P B σ h k r (vS m) w := by
  obtain ⟨t', ht, e1⟩ := hnew_inv eq ok
  have hpush := hr.drew.pushCells (us := us) (extra := (Builtin.zeroCells zv.cells (cap - need)).toList) (lo := 0) (hi := 0) ht hl ⟨rfl, rfl⟩
  have hlen : (us ++ (Builtin.zeroCells zv.cells (cap - need)).toList).length = cap * sz := by
    rw [List.length_append, size_zeroCells, hz, hn, ← Nat.add_mul]; congr 1; omega
  rw [hlen] at hpush
  refine ⟨_, _, _, .slice (some ⟨w.heap.size, 0, none⟩) need cap, _, _, e1, ?_, .inl rfl, Sg.add_grows _ _ _ _ _, ?_, hpush, .push hr ht⟩
  · simp only [vS, Sem.run_bind, hm, Result.andThen_ok, Sem.run_pure]
  · exact slc_new _ _ _ _ _ _ _ hcap ⟨hcap, by simp⟩
theorem appOk_inv {need bytes : Nat} {x r : Out} (e : appOk need bytes x = r) (ok : r.ok) : (2 * need + 1024) * bytes ≤ 281474976710656 ∧ x = r := by
  obtain ⟨h1, h2⟩ := guardB_inv e ok
  exact ⟨Nat.le_of_ble_eq_true h1, h2⟩
theorem appendV_spec (hG : G.Ok) {t tx ty e : TypeId} {i : TypeInfo} {zv : Value} (ht : G.und t = some (.slice e)) (hi : G.info e = some i) (hz : i.zero = some zv) (hs0 : i.size ≠ 0) (hb0 : i.bytes ≠ 0)
    (hc : zv.cells.size = i.size) (hb : i.bytes * 65536 ≤ 140737488355328) {s : AV} {n : Nat} {new : List AV} {h : AH} {k : KV} {r : Out} (eq : appendV e i.size i.bytes s n new h k = r) (ok : r.ok) (hnew : new.length = n * i.size)
    {B : Base} {σ : Sg} {x y : Value} {w : World} (hs : VR σ s y) (hr : HR B σ h w) (A : ∀ w', HR B σ h w' → ∃ us, VRs σ new us ∧ AppOk G.P tx i zv x n us w') :
    MOut G.P B σ h k r (vS (Builtin.append_ #[t, tx] ty #[y, x])) w := by
  have ht' := und_ok hG ht
  have hi' := hG.info e i hi
  unfold appendV at eq
  split at eq
  · simp only [VR] at hs; subst hs
    cases n with
    | zero =>
      obtain ⟨us, _, hA⟩ := A w hr
      have := append_fit (ty := ty) (sLen := 0) (sCap := 0) (base := none) (w' := w) ht' hi' hz hb hA (Nat.le_refl _) rfl
      exact ⟨_, _, σ, .slice none 0 0, _, w, eq, by simp only [vS, Sem.run_bind, this, Result.andThen_ok, Sem.run_pure], .inl rfl, Grows.refl _ σ, by simp [VR], hr, .refl _⟩
    | succ n =>
      have eq : guardB (allOne new) 56 (appOk (n + 1) i.bytes (anew e i.size (n + 1) new h k)) = r := eq
      obtain ⟨_, e1⟩ := guardB_inv eq ok
      obtain ⟨hfit, e2⟩ := appOk_inv e1 ok
      obtain ⟨us, hus, hA⟩ := A w.drew hr.drew
      have hl := hA
      obtain ⟨_, _, hl, _⟩ := hl
      have := append_grow (ty := ty) (sLen := 0) (sCap := 0) (base := none) (olds := []) ht' hi' hz hb0 hb hA (by omega) (by simpa using hfit) (by simp [Builtin.firstCells])
      simp only [Nat.zero_add, List.nil_append] at this
      exact anew_out e2 ok hr hus hl hc (le_grown _ _ _ _) this (n := 0) rfl
  · rename_i b o len c
    obtain ⟨X, hX, e1⟩ := hget_inv eq ok
    obtain ⟨cs, ce, f, rfl, e2⟩ := asCells_inv e1 ok
    rw [forceN_eq] at e2
    obtain ⟨hone, e3⟩ := guardB_inv e2 ok
    simp only [VR] at hs
    obtain ⟨c', d, nn, j, cap', hat, rfl, hlen, hcap, hj⟩ := hs
    split at e3
    · rename_i m
      have hcap : cap' = m := hcap
      subst hcap
      have hj : j = o + d := by
        rcases hj with hj | ⟨_, hf⟩
        · exact hj
        · cases hf
      subst hj
      rcases boolCases_inv e3 with ⟨hle, e4⟩ | ⟨hgt, e4⟩
      · have hle : len + n ≤ cap' := Nat.le_of_ble_eq_true hle
        cases n with
        | zero =>
          obtain ⟨us, _, hA⟩ := A w hr
          have hl := hA
          obtain ⟨_, _, hl, _⟩ := hl
          have hu0 : us = [] := List.eq_nil_of_length_eq_zero (by simpa using hl)
          subst hu0
          have := append_fit (ty := ty) (sLen := len) (sCap := cap') (base := some ⟨c', o + d, none⟩) (w' := w) ht' hi' hz hb hA hle rfl
          refine ⟨_, _, σ, _, _, w, e4, by simp only [vS, Sem.run_bind, this, Result.andThen_ok, Sem.run_pure]; rfl, .inl rfl, Grows.refl _ σ, ?_, hr, .refl _⟩
          simp only [VR]; exact ⟨c', d, nn, o + d, cap', hat, rfl, hle, rfl, .inl rfl⟩
        | succ n =>
          have e4 : notRo f (overK (Nat.add o (Nat.mul len i.size)) cs new fun cs' => hset h b (.cells cs' ce f) fun h' => k (.slc b o (Nat.add len (n + 1)) (.exact cap')) h') = r := e4
          obtain ⟨hf, e5⟩ := notRo_inv e4 ok
          obtain ⟨hlt, e6⟩ := overK_inv ok e5
          obtain ⟨t', hset, e7⟩ := hset_inv e6 ok
          obtain ⟨us, hus, hA⟩ := A w hr
          obtain ⟨w', hw, hr'⟩ := hr.over (P := G.P) hX hat hf hlt hus hone hset
          have := append_fit (ty := ty) (sLen := len) (sCap := cap') (base := some ⟨c', o + d, none⟩) (w' := w') ht' hi' hz hb hA hle (by
            show (storeCells (Addr.add ⟨c', o + d, none⟩ (len * i.size)) us).run G.P w = _
            rw [addr_add, show o + d + len * i.size = Nat.add o (Nat.mul len i.size) + d from by simp; omega]; exact hw)
          refine ⟨_, _, σ, _, _, w', e7, by simp only [vS, Sem.run_bind, this, Result.andThen_ok, Sem.run_pure]; rfl, .inl rfl, Grows.refl _ σ, ?_, hr', .set hset⟩
          simp only [VR]; exact ⟨c', d, nn, o + d, cap', hat, rfl, hle, rfl, .inl rfl⟩
      · have hgt : cap' < len + n := by
          have := Nat.not_le_of_not_ble_eq_true (by rw [hgt]; simp : ¬ Nat.ble (Nat.add len n) cap' = true)
          exact Nat.lt_of_not_le this
        obtain ⟨hfit, e5⟩ := appOk_inv e4 ok
        obtain ⟨l, e6, hl⟩ := oldK_inv e5 ok
        rw [appK_eq] at e6
        obtain ⟨olds, ho1, ho2, ho3, _⟩ := old_run (P := G.P) (cap' := cap') hr.drew hX hat (.inl rfl) hl
        obtain ⟨us, hus, hA⟩ := A w.drew hr.drew
        have hul := hA
        obtain ⟨_, _, hul, _⟩ := hul
        have := append_grow (ty := ty) ht' hi' hz hb0 hb hA hgt hfit ho3
        exact anew_out e6 ok hr (ho2.append hus) (by show _ = (len + n) * i.size; rw [List.length_append, ho1, hul, Nat.add_mul]) hc (le_grown _ _ _ _) this (n := 0) rfl
    · rename_i m q
      obtain ⟨hq, e3⟩ := guardB_inv e3 ok
      have hq : q = i.size := Nat.eq_of_beq_eq_true hq
      subst hq
      obtain ⟨hc1, hc2⟩ := hcap
      have hjl : j = o + d ∨ len = 0 := by
        rcases hj with hj | ⟨h0, _⟩
        · exact .inl hj
        · exact .inr h0
      rcases boolCases_inv e3 with ⟨hle, e4⟩ | ⟨hgt, e4⟩
      · have hle : len + n ≤ m := Nat.le_of_ble_eq_true hle
        have hle' : len + n ≤ cap' := Nat.le_trans hle hc1
        cases n with
        | zero =>
          obtain ⟨us, _, hA⟩ := A w hr
          have hl := hA
          obtain ⟨_, _, hl, _⟩ := hl
          have hu0 : us = [] := List.eq_nil_of_length_eq_zero (by simpa using hl)
          subst hu0
          have := append_fit (ty := ty) (sLen := len) (sCap := cap') (base := some ⟨c', j, none⟩) (w' := w) ht' hi' hz hb hA hle' rfl
          refine ⟨_, _, σ, _, _, w, e4, by simp only [vS, Sem.run_bind, this, Result.andThen_ok, Sem.run_pure]; rfl, .inl rfl, Grows.refl _ σ, ?_, hr, .refl _⟩
          simp only [VR]; exact ⟨c', d, nn, j, cap', hat, rfl, hle', ⟨hc1, hc2⟩, hj⟩
        | succ n =>
          have e4 : notRo f (growK (Nat.add o (Nat.mul len i.size)) cs new fun cs' => hset h b (.cells cs' ce f) fun h' => k (.slc b o (Nat.add len (n + 1)) (.least m i.size)) h') = r := e4
          have hj : j = o + d := by
            rcases hj with hj | ⟨_, hf⟩
            · exact hj
            · exfalso
              cases m with
              | zero => omega
              | succ m => cases hf
          subst hj
          obtain ⟨hf, e5⟩ := notRo_inv e4 ok
          obtain ⟨hlt, e6⟩ := growK_inv e5 ok
          obtain ⟨t', hset, e7⟩ := hset_inv e6 ok
          obtain ⟨us, hus, hA⟩ := A w hr
          have hroom : (len + (n + 1)) * i.size ≤ cap' * i.size := Nat.mul_le_mul_right _ hle'
          obtain ⟨w', hw, hr'⟩ := hr.over' (P := G.P) hX hat hf hlt (by
            rw [hnew]
            show o + len * i.size + (n + 1) * i.size + d ≤ nn
            rw [Nat.add_mul] at hroom; omega) hus hone hset
          have := append_fit (ty := ty) (sLen := len) (sCap := cap') (base := some ⟨c', o + d, none⟩) (w' := w') ht' hi' hz hb hA hle' (by
            show (storeCells (Addr.add ⟨c', o + d, none⟩ (len * i.size)) us).run G.P w = _
            rw [addr_add, show o + d + len * i.size = Nat.add o (Nat.mul len i.size) + d from by simp; omega]; exact hw)
          refine ⟨_, _, σ, _, _, w', e7, by simp only [vS, Sem.run_bind, this, Result.andThen_ok, Sem.run_pure]; rfl, .inl rfl, Grows.refl _ σ, ?_, hr', .set hset⟩
          simp only [VR]; exact ⟨c', d, nn, o + d, cap', hat, rfl, hle', ⟨hc1, hc2⟩, .inl rfl⟩
      · obtain ⟨hf, e5⟩ := notRo_inv e4 ok
        obtain ⟨he, e6⟩ := guardB_inv e5 ok
        have he : e = ce := Nat.eq_of_beq_eq_true he
        subst he
        obtain ⟨hfit, e7⟩ := appOk_inv e6 ok
        obtain ⟨l, e8, hl⟩ := oldK_inv e7 ok
        rw [appK_eq] at e8
        obtain ⟨t1, hset, e9⟩ := hset_inv e8 ok
        obtain ⟨t2, hset2, e10⟩ := hnew_inv e9 ok
        have hkill := hr.kill hX hset h.ds
        by_cases hcase : len + n ≤ cap'
        ·
          obtain ⟨us, hus, hA⟩ := A w hr
          have hul := hA
          obtain ⟨_, _, hul, _⟩ := hul
          obtain ⟨olds, ho1, ho2, _, ho4⟩ := old_run (P := G.P) (cap' := cap') hr hX hat hjl hl
          obtain ⟨cc, lo, hi2, hcell, hn, hfl, hv⟩ := hr.cells hX hat
          have hroom : (len + n) * i.size ≤ cap' * i.size := Nat.mul_le_mul_right _ hcase
          rw [Nat.add_mul] at hroom
          have hsz : j + len * i.size + us.length ≤ cc.size := by omega
          have hst := run_storeCells (P := G.P) (j := j + len * i.size) us 0 cc w hcell (by omega) (by rw [hn]; exact flr_free hfl hf) (allOne_cells hone hus)
          have hclt := hr.size _ _ _ _ hat
          have hmv := hkill.move (j := j) (n := nn) (o := .cells (over cc (j + len * i.size + 0) us) e (lo, hi2)) hclt (hr.own _ _ _ _ _ hX (by cases f <;> simp_all [ABlk.writable]) hat) (by
            intro b' y' d' m' hb' hlive hat'
            have hg := BT.get_set h.t b b' _ _ hset.set
            have hb' : t1.get b' = some y' := hb'
            rw [hg] at hb'
            by_cases hbb : b = b'
            · rw [if_pos hbb] at hb'; cases hb'; cases hlive
            · rw [if_neg hbb] at hb'
              exact hbb (hr.inj b b' _ y' c' d nn d' m' hX rfl hb' hlive hat hat')) hset2 (by
            refine ⟨_, lo, hi2, rfl, by rw [over_size (by omega)]; exact hn, flr_free hfl hf, fun q v hq => ?_⟩
            have hle := hkill.add_le c' j nn
            obtain ⟨u, hu, hru⟩ := ((ho2.append hus).mono hle).get q v hq
            refine ⟨u, ?_, hru⟩
            rw [over_get (by omega)]
            by_cases h1 : q < len * i.size
            · rw [if_neg (by omega)]
              rw [List.getElem?_append_left (by omega)] at hu
              have := ho4 q u hu
              simp only [World.cell?, hcell] at this
              rw [show q + j = j + q from by omega]
              simpa using this
            · rw [List.getElem?_append_right (by omega), ho1] at hu
              have : q - len * i.size < us.length := (List.getElem?_eq_some_iff.1 hu).1
              rw [if_pos (by omega), show q + j - (j + len * i.size + 0) = q - len * i.size from by omega]
              exact hu) h.ds
          have := append_fit (ty := ty) (sLen := len) (sCap := cap') (base := some ⟨c', j, none⟩) (w' := World.put w c' (.cells (over cc (j + len * i.size + 0) us) e (lo, hi2))) ht' hi' hz hb hA hcase (by
            show (storeCells (Addr.add ⟨c', j, none⟩ (len * i.size)) us).run G.P w = _
            rw [addr_add]; exact hst)
          refine ⟨_, _, _, _, _, _, e10, by simp only [vS, Sem.run_bind, this, Result.andThen_ok, Sem.run_pure]; rfl, .inl rfl, Sg.add_grows _ _ _ _ _, ?_, hmv, (Keeps.set hset).trans (.push hkill hset2)⟩
          simp only [VR]
          exact ⟨c', j, nn, j, cap', Sg.add_self σ h.next c' j nn, rfl, hcase, ⟨hcase, hc2⟩, .inl (by simp)⟩
        ·
          obtain ⟨us, hus, hA⟩ := A w.drew hr.drew
          have hul := hA
          obtain ⟨_, _, hul, _⟩ := hul
          obtain ⟨olds, ho1, ho2, ho3, _⟩ := old_run (P := G.P) (cap' := cap') hr.drew hX hat hjl hl
          have := append_grow (ty := ty) ht' hi' hz hb0 hb hA (Nat.lt_of_not_le hcase) hfit ho3
          have hlen2 : (olds ++ us).length = (len + n) * i.size := by rw [List.length_append, ho1, hul, Nat.add_mul]
          have hg := le_grown w (len + n) cap' e
          have hpush := hkill.drew.pushCells (us := olds ++ us) (extra := (Builtin.zeroCells zv.cells (grownCap w (len + n) cap' e - (len + n))).toList) (lo := 0) (hi := 0) hset2 (ho2.append hus) (.inl rfl)
          have hlen3 : ((olds ++ us) ++ (Builtin.zeroCells zv.cells (grownCap w (len + n) cap' e - (len + n))).toList).length = grownCap w (len + n) cap' e * i.size := by
            rw [List.length_append, size_zeroCells, hc, hlen2, ← Nat.add_mul]; congr 1; omega
          rw [hlen3] at hpush
          refine ⟨_, _, _, _, _, _, e10, by simp only [vS, Sem.run_bind, this, Result.andThen_ok, Sem.run_pure]; rfl, .inl rfl, Sg.add_grows _ _ _ _ _, ?_, hpush, (Keeps.set hset).trans (.push hkill hset2)⟩
          exact slc_new _ _ _ _ _ _ _ hg ⟨hg, by simp⟩
  · subst eq; exact ok.elim
end
end
end Go.Ev
namespace Go.Ev
noncomputable section
open Go
section
variable {G : Cfg} {P : Program} {B : Base} {σ : Sg} {h : AH} {w : World} {nt : Nat} {o : Oper}
theorem run_setMap {c clock : Nat} {es : Array MapEntry} {ob : Obj} (h : w.heap[c]? = some (.map es clock)) : (setObj c ob).run P w = .ok () (World.put w c ob) := MapKept.run_setObj_map ob h
theorem ER.append {σ : Sg} : ∀ {l : List AE} {m : List MapEntry} {l' : List AE} {m' : List MapEntry}, ER σ l m → ER σ l' m' → ER σ (l ++ l') (m ++ m')
  | [], m, _, _, h, k => by have h : m = [] := h; subst h; simpa using k
  | _ :: l, _, _, _, h, k => by
    obtain ⟨x, m1, rfl, h1, h2, h3, hl⟩ := h
    exact ⟨x, m1 ++ _, rfl, h1, h2, h3, ER.append hl k⟩
theorem ER.get {σ : Sg} : ∀ {l : List AE} {m : List MapEntry}, ER σ l m → ∀ (i : Nat) (e : AE), l[i]? = some e → ∃ x, m[i]? = some x ∧ VR σ e.key x.key ∧ VR σ e.val x.val ∧ x.born = e.born
  | [], _, _, _, _, hi => by simp at hi
  | a :: l, _, h, i, e, hi => by
    obtain ⟨x, m1, rfl, h1, h2, h3, hl⟩ := h
    cases i with
    | zero => simp at hi; subst hi; exact ⟨x, rfl, h1, h2, h3⟩
    | succ i => simpa using ER.get hl i e (by simpa using hi)
theorem ER.set {σ : Sg} : ∀ {l : List AE} {m : List MapEntry}, ER σ l m → ∀ (i : Nat) (e : AE) (x : MapEntry), VR σ e.key x.key → VR σ e.val x.val → x.born = e.born → ER σ (l.set i e) (m.set i x)
  | [], m, h, _, _, _, _, _, _ => by have h : m = [] := h; subst h; rfl
  | a :: l, _, h, i, e, x, k1, k2, k3 => by
    obtain ⟨y, m1, rfl, h1, h2, h3, hl⟩ := h
    cases i with
    | zero => exact ⟨x, m1, rfl, k1, k2, k3, hl⟩
    | succ i => exact ⟨y, m1.set i x, rfl, h1, h2, h3, ER.set hl i e x k1 k2 k3⟩
theorem ER.eraseIdx {σ : Sg} : ∀ {l : List AE} {m : List MapEntry}, ER σ l m → ∀ (i : Nat), ER σ (l.eraseIdx i) (m.eraseIdx i)
  | [], m, h, _ => by have h : m = [] := h; subst h; rfl
  | a :: l, _, h, i => by
    obtain ⟨y, m1, rfl, h1, h2, h3, hl⟩ := h
    cases i with
    | zero => exact hl
    | succ i => exact ⟨y, m1.eraseIdx i, rfl, h1, h2, h3, ER.eraseIdx hl i⟩
theorem update_spec (hG : G.Ok) {t kt e : Nat} {q : KT} (ht : G.und t = some (.map kt e)) (hk : keyT G kt = some q) {m a v : AV} {h : AH} {k : KV} {r : Out} (eq : updateV q m a v h k = r) (ok : r.ok)
    {B : Base} {σ : Sg} {x y z : Value} {w : World} (hm : VR σ m x) (ha : VR σ a y) (hv : VR σ v z) (hr : HR B σ h w) : MOut G.P B σ h k r (uS (Instr.mapUpdate t x y z)) w := by
  obtain ⟨e1, hck⟩ := keyOk_inv hG hk eq ok
  split at e1
  · rename_i b
    obtain ⟨X, hX, e2⟩ := hget_inv e1 ok
    obtain ⟨es, clock, rfl, e3⟩ := asMap_inv e2 ok
    obtain ⟨o, e4, hsame, hrun⟩ := findK_spec hG hk es 0 _ r e3 ok
    simp only [VR] at hm
    obtain ⟨c, d, n, hc, rfl⟩ := hm
    obtain ⟨es', hb, her⟩ := hr.amap hX hc
    obtain ⟨o', h1, h2⟩ := hrun σ y es'.toList w ha her
    have hfk := findKey_run hG hk h1
    have start : ∀ (K : Option (Nat × Value) → Sem Unit), (Instr.mapUpdate t (.map (some c)) y z).run G.P w = ((match o' with
        | some (i, _) => do
          let key ← Instr.keyThatStays (((es'[i]?).map (·.key)).getD y) y
          setObj c (.map (es'.modify i fun e => { e with key, val := z }) clock)
        | none => setObj c (.map (es'.push { key := y, val := z, born := clock }) (clock + 1)) : Sem Unit)).run G.P w := by
      intro K
      simp only [Instr.mapUpdate, Sem.run_bind, Go.run_underlying (und_ok hG ht), Result.andThen_ok, run_getMap hb, hck σ y _ w ha, hfk]
      cases o' with
      | none => rfl
      | some p => obtain ⟨i, u⟩ := p; rfl
    cases o with
    | none =>
      rw [appK_eq] at e4
      rw [forceN_eq] at e4
      obtain ⟨t', hset, e5⟩ := hset_inv e4 ok
      cases o' with
      | some p => exact h2.elim
      | none =>
        have hput := hr.put hX rfl rfl hc hset (o := .map (es'.push { key := y, val := z, born := clock }) (clock + 1))
          ⟨_, rfl, by simpa using her.append (l' := [⟨a, v, clock⟩]) (m' := [{ key := y, val := z, born := clock }]) ⟨_, _, rfl, ha, hv, rfl, rfl⟩⟩ h.ds
        refine ⟨_, _, σ, undef, .skip, _, e5, ?_, .inr ⟨rfl, rfl⟩, Grows.refl _ σ, by simp [VR, undef], hput, .set hset⟩
        have := start (fun _ => pure ())
        simp only [uS, Sem.run_bind, this, run_setMap hb, Result.andThen_ok, Sem.run_pure]
    | some p =>
      obtain ⟨i, v0⟩ := p
      obtain ⟨ae, hae, e5⟩ := nthK_inv e4 ok
      obtain ⟨hlt, e6⟩ := setK_inv e5 ok
      obtain ⟨t', hset, e7⟩ := hset_inv e6 ok
      cases o' with
      | none => exact h2.elim
      | some p =>
        obtain ⟨j, u⟩ := p
        obtain ⟨rfl, hu⟩ := h2
        obtain ⟨_, ae', hae', _, hsb⟩ := hsame i v0 rfl
        rw [Nat.sub_zero, hae] at hae'
        cases hae'
        obtain ⟨me, hme, hk1, hv1, hb1⟩ := her.get i ae hae
        have hme' : es'[i]? = some me := by simpa using hme
        have hsb := hsb σ y me.key ha hk1
        have hmod : (es'.modify i fun e => { e with key := y, val := z }).toList = es'.toList.set i { me with key := y, val := z } := by
          apply List.ext_getElem?
          intro q
          rw [List.getElem?_set]
          simp only [Array.getElem?_toList, Array.getElem?_modify]
          by_cases hq : i = q
          · subst hq
            rw [if_pos rfl, if_pos rfl, hme']
            have : i < es'.size := (Array.getElem?_eq_some_iff.1 hme').1
            simp [this]
          · rw [if_neg hq, if_neg hq]
        have hput := hr.put hX rfl rfl hc hset (o := .map (es'.modify i fun e => { e with key := y, val := z }) clock) ⟨_, rfl, by rw [hmod]; exact her.set i _ _ ha hv hb1⟩ h.ds
        refine ⟨_, _, σ, undef, .skip, _, e7, ?_, .inr ⟨rfl, rfl⟩, Grows.refl _ σ, by simp [VR, undef], hput, .set hset⟩
        have := start (fun _ => pure ())
        simp only [uS, Sem.run_bind, this, hme', Option.map_some, Option.getD_some, Instr.keyThatStays, hsb, if_true, Sem.run_pure, run_setMap hb, Result.andThen_ok]
  · subst e1; exact ok.elim
theorem delete_spec (hG : G.Ok) {t ty kt e : Nat} {u2 : TypeId} {q : KT} (ht : G.und t = some (.map kt e)) (hk : keyT G kt = some q) : MSpec2 G.P (deleteV q) (fun x y => vS (Builtin.delete_ #[t, u2] ty #[x, y])) := by
  intro m a h k r eq ok B σ x y w hm ha hr
  obtain ⟨e1, hck⟩ := keyOk_inv hG hk eq ok
  split at e1
  · simp only [VR] at hm; subst hm
    refine ⟨_, _, σ, .tuple #[], _, w, e1, ?_, .inl rfl, Grows.refl _ σ, by simp only [VR]; exact ⟨_, rfl, VRs.nil⟩, hr, .refl _⟩
    simp [vS, Builtin.delete_, Go.run_underlying (und_ok hG ht), hck σ y _ w ha]
  · rename_i b
    obtain ⟨X, hX, e2⟩ := hget_inv e1 ok
    obtain ⟨es, clock, rfl, e3⟩ := asMap_inv e2 ok
    obtain ⟨o, e4, _, hrun⟩ := findK_spec hG hk es 0 _ r e3 ok
    simp only [VR] at hm
    obtain ⟨c, d, n, hc, rfl⟩ := hm
    obtain ⟨es', hb, her⟩ := hr.amap hX hc
    obtain ⟨o', h1, h2⟩ := hrun σ y es'.toList w ha her
    have hfk := findKey_run hG hk h1
    cases o with
    | none =>
      cases o' with
      | some p => exact h2.elim
      | none =>
        refine ⟨_, _, σ, .tuple #[], _, w, e4, ?_, .inl rfl, Grows.refl _ σ, by simp only [VR]; exact ⟨_, rfl, VRs.nil⟩, hr, .refl _⟩
        have hs := run_setMap (P := G.P) (ob := .map es' clock) hb
        rw [put_self hb] at hs
        simp [vS, Builtin.delete_, Go.run_underlying (und_ok hG ht), run_getMap hb, hck σ y _ w ha, hfk, hs]
    | some p =>
      obtain ⟨i, v0⟩ := p
      obtain ⟨t', hset, e5⟩ := hset_inv e4 ok
      cases o' with
      | none => exact h2.elim
      | some p =>
        obtain ⟨j, u⟩ := p
        obtain ⟨rfl, hu⟩ := h2
        have hput := hr.put hX rfl rfl hc hset (o := .map (es'.eraseIdxIfInBounds i) clock) ⟨_, rfl, by
          have := her.eraseIdx i
          have e : (es'.eraseIdxIfInBounds i).toList = es'.toList.eraseIdx i := by simp
          rw [e]; exact this⟩ h.ds
        refine ⟨_, _, σ, .tuple #[], _, _, e5, ?_, .inl rfl, Grows.refl _ σ, by simp only [VR]; exact ⟨_, rfl, VRs.nil⟩, hput, .set hset⟩
        simp [vS, Builtin.delete_, Go.run_underlying (und_ok hG ht), run_getMap hb, hck σ y _ w ha, hfk, run_setMap hb]
  · subst e1; exact ok.elim
end
end
end Go.Ev
namespace Go.Ev
noncomputable section
open Go
mutual
theorem beq_eq (a b : AV) (h : AV.beq a b = true) : a = b := by
  unfold AV.beq at h
  split at h
  · rfl
  · rfl
  · simp at h; rw [h]
  · simp only [Bool.and_eq_true, beq_iff_eq] at h
    obtain ⟨h1, h2⟩ := h
    rw [eqZ_eq] at h2
    have h2 := of_decide_eq_true h2
    rw [h1, h2]
  · simp only [Bool.and_eq_true, beq_iff_eq] at h; rw [h.1, h.2]
  · simp at h; rw [h]
  · rw [eqLN_iff] at h; rw [of_decide_eq_true h]
  · simp only [Bool.and_eq_true, beq_iff_eq] at h; rw [h.1, h.2]
  · rfl
  · simp only [Bool.and_eq_true, beq_iff_eq] at h; obtain ⟨⟨⟨h1, h2⟩, h3⟩, h4⟩ := h; rw [h1, h2, h3, h4]
  · simp only [Bool.and_eq_true, beq_iff_eq] at h; obtain ⟨⟨⟨⟨h1, h2⟩, h3⟩, h4⟩, h5⟩ := h; rw [h1, h2, h3, h4, h5]
  · rfl
  · simp at h; rw [h]
  · rfl
  · simp only [Bool.and_eq_true, beq_iff_eq] at h
    obtain ⟨⟨h1, h2⟩, h3⟩ := h
    rw [h1, beqs_eq _ _ h2, beqs_eq _ _ h3]
  · simp at h; rw [h]
  · rfl
  · simp only [Bool.and_eq_true, beq_iff_eq] at h
    rw [h.1, beq_eq _ _ h.2]
  · rfl
  · rw [beqs_eq _ _ h]
  · rw [beqs_eq _ _ h]
  · cases h
  termination_by SizeOf.sizeOf a
theorem beqs_eq (a b : List AV) (h : AV.beqs a b = true) : a = b := by
  unfold AV.beqs at h
  split at h
  · rfl
  · simp only [Bool.and_eq_true] at h
    rw [beq_eq _ _ h.1, beqs_eq _ _ h.2]
  · cases h
  termination_by SizeOf.sizeOf a
end
theorem flEq_eq {a b : Fl} (h : flEq a b = true) : a = b := by cases a <;> cases b <;> first | rfl | (simp [flEq] at h)
theorem aesEq_eq : ∀ (a b : List AE), aesEq a b = true → a = b
  | [], [], _ => rfl
  | [], _ :: _, h => by cases h
  | _ :: _, [], h => by cases h
  | ⟨k, v, n⟩ :: l, ⟨k', v', n'⟩ :: m, h => by
    simp only [aesEq, Bool.and_eq_true, beq_iff_eq] at h
    obtain ⟨⟨⟨h1, h2⟩, h3⟩, h4⟩ := h
    rw [beq_eq _ _ h1, beq_eq _ _ h2, h3, aesEq_eq l m h4]
theorem bix_inj' {a b : BinOp} (h : Nat.beq (bix a) (bix b) = true) : a = b := by
  have h := Nat.eq_of_beq_eq_true h
  cases a <;> cases b <;> first | rfl | (simp [bix] at h)
theorem srsEq_eq : ∀ (a b : List SR), srsEq a b = true → a = b
  | [], [], _ => rfl
  | [], _ :: _, h => by cases h
  | _ :: _, [], h => by cases h
  | ⟨o, a, b, r⟩ :: l, ⟨o', a', b', r'⟩ :: m, h => by
    simp only [srsEq, Bool.and_eq_true] at h
    obtain ⟨⟨⟨⟨h1, h2⟩, h3⟩, h4⟩, h5⟩ := h
    rw [bix_inj' h1, beq_eq _ _ h2, beq_eq _ _ h3, beq_eq _ _ h4, srsEq_eq l m h5]
theorem blk_eq (a b : ABlk) (h : ABlk.beq a b = true) : a = b := by
  unfold ABlk.beq at h
  split at h
  · rfl
  · simp only [Bool.and_eq_true, beq_iff_eq] at h
    obtain ⟨⟨h1, h2⟩, h3⟩ := h
    rw [h1, flEq_eq h2, beqs_eq _ _ h3]
  · simp only [Bool.and_eq_true, beq_iff_eq] at h
    rw [h.1, aesEq_eq _ _ h.2]
  · simp only [Bool.and_eq_true, beq_iff_eq] at h
    obtain ⟨h1, h2⟩ := h
    rw [eqLN_iff] at h1
    rw [of_decide_eq_true h1, h2]
  · simp only [Bool.and_eq_true, beq_iff_eq] at h
    obtain ⟨⟨⟨h1, h2⟩, h3⟩, h4⟩ := h
    rw [eqLN_iff] at h3
    rw [h1, h2, of_decide_eq_true h3, h4]
  · rfl
  · rw [srsEq_eq _ _ h]
  · cases h
theorem blks_eq : ∀ (a b : List ABlk), blksEq a b = true → a = b
  | [], [], _ => rfl
  | [], _ :: _, h => by cases h
  | _ :: _, [], h => by cases h
  | x :: l, y :: m, h => by
    simp only [blksEq, Bool.and_eq_true] at h
    rw [blk_eq _ _ h.1, blks_eq l m h.2]
theorem out_eq {a b : Out} (h : outEq a b = true) : a = b := by
  unfold outEq at h
  split at h
  · simp only [Bool.and_eq_true] at h
    rw [beq_eq _ _ h.1, blks_eq _ _ h.2]
  · cases h
theorem allEq_inv {l : List Out} {r : Out} (h : allEq l = r) (ok : r.ok) : ∀ x ∈ l, x = r := by
  unfold allEq at h
  split at h
  · subst h; exact ok.elim
  · subst h; intro x hx; simpa using hx
  · split at h
    · rename_i o os hall
      subst h
      intro x hx
      rcases List.mem_cons.1 hx with rfl | hx
      · rfl
      · exact (out_eq (List.all_eq_true.1 hall x hx)).symm
    · subst h; exact ok.elim
end
end Go.Ev
namespace Go.Ev
noncomputable section
open Go
section
variable {G : Cfg} {P : Program} {B : Base} {σ : Sg} {h : AH} {w : World} {nt : Nat} {o : Oper}
theorem tup_bool (σ : Sg) (t : Bool) : VR σ (.tup [.bool t]) (.tuple #[.bool t]) := by
  simp only [VR]; exact ⟨_, rfl, VRs.cons (by simp [VR]) VRs.nil⟩
theorem range_spec (hG : G.Ok) {t : Nat} (ht : G.und t = some .string ∨ ∃ kt e, G.und t = some (.map kt e)) {a : AV} {h : AH} {k : KV} {r : Out} (eq : rangeV a h k = r) (ok : r.ok) {B : Base} {σ : Sg} {x : Value} {w : World}
    (ha : VR σ a x) (hty : (G.und t = some .string ∧ ∃ l, a = .str l) ∨ ((∃ kt e, G.und t = some (.map kt e)) ∧ ∀ l, a ≠ .str l)) (hr : HR B σ h w) : MOut G.P B σ h k r (vS (Instr.range t x)) w := by
  unfold rangeV at eq
  split at eq
  · rename_i l
    obtain ⟨t', hset, e1⟩ := hnew_inv eq ok
    rcases hty with ⟨ht, _⟩ | ⟨_, hne⟩
    · simp only [VR] at ha
      obtain ⟨s, rfl, hs⟩ := ha
      have hpush := hr.push (n := 0) hset (o := .stringIter s 0) ⟨rfl, s, rfl, hs⟩ h.ds
      refine ⟨_, _, _, .pointer (some ⟨w.heap.size, 0, none⟩), _, _, e1, ?_, .inl rfl, Sg.add_grows _ _ _ _ _, ptr_new _ _ _ _, hpush, .push hr hset⟩
      simp only [vS, Instr.range, Sem.run_bind, Go.run_underlying (und_ok hG ht), Result.andThen_ok, Sem.run_pure, run_newObj]
    · exact absurd rfl (hne l)
  · obtain ⟨t', hset, e1⟩ := hnew_inv eq ok
    rcases hty with ⟨_, l, hl⟩ | ⟨⟨kt, e, ht⟩, _⟩
    · cases hl
    · simp only [VR] at ha; subst ha
      have hpush := hr.push (n := 0) hset (o := .mapIter none 0 #[] 0) ⟨rfl, none, rfl, rfl⟩ h.ds
      refine ⟨_, _, _, .pointer (some ⟨w.heap.size, 0, none⟩), _, _, e1, ?_, .inl rfl, Sg.add_grows _ _ _ _ _, ptr_new _ _ _ _, hpush, .push hr hset⟩
      simp only [vS, Instr.range, Sem.run_bind, Go.run_underlying (und_ok hG ht), Result.andThen_ok, Sem.run_pure, run_newObj]
  · rename_i b
    obtain ⟨X, hX, e1⟩ := hget_inv eq ok
    obtain ⟨es, clock, rfl, e2⟩ := asMap_inv e1 ok
    obtain ⟨t', hset, e3⟩ := hnew_inv e2 ok
    rcases hty with ⟨_, l, hl⟩ | ⟨⟨kt, e, ht⟩, _⟩
    · cases hl
    · simp only [VR] at ha
      obtain ⟨c, d, n, hc, rfl⟩ := ha
      obtain ⟨es', hb, her⟩ := hr.amap hX hc
      have hle := hr.add_le w.heap.size 0 0
      have hpush := hr.push (n := 0) hset (o := .mapIter (some c) clock #[] clock) ⟨rfl, some c, rfl, c, d, n, hle.at_ _ _ hc, rfl⟩ h.ds
      refine ⟨_, _, _, .pointer (some ⟨w.heap.size, 0, none⟩), _, _, e3, ?_, .inl rfl, Sg.add_grows _ _ _ _ _, ptr_new _ _ _ _, hpush, .push hr hset⟩
      simp only [vS, Instr.range, Sem.run_bind, Go.run_underlying (und_ok hG ht), Result.andThen_ok, Sem.run_pure, run_getMap hb, run_newObj]
  · subst eq; exact ok.elim
theorem ER.filter {σ : Sg} {p : AE → Bool} {q : MapEntry → Bool} (hpq : ∀ e x, x.born = e.born → p e = q x) : ∀ {l : List AE} {m : List MapEntry}, ER σ l m → ER σ (l.filter p) (m.filter q)
  | [], m, h => by have h : m = [] := h; subst h; rfl
  | a :: l, _, h => by
    obtain ⟨x, m1, rfl, h1, h2, h3, hl⟩ := h
    have ih := ER.filter hpq hl
    simp only [List.filter_cons, hpq a x h3]
    split
    · exact ⟨x, _, rfl, h1, h2, h3, ih⟩
    · exact ih
theorem ER.all {σ : Sg} {p : AE → Bool} {q : MapEntry → Bool} (hpq : ∀ e x, x.born = e.born → p e = q x) : ∀ {l : List AE} {m : List MapEntry}, ER σ l m → l.all p = m.all q
  | [], m, h => by have h : m = [] := h; subst h; rfl
  | a :: l, _, h => by
    obtain ⟨x, m1, rfl, h1, h2, h3, hl⟩ := h
    simp only [List.all_cons, hpq a x h3, ER.all hpq hl]
theorem hasN_eq (n : Nat) : ∀ l : List Nat, hasN n l = l.contains n
  | [] => rfl
  | m :: l => by
    have : hasN n (m :: l) = (Bool.casesOn (Nat.beq n m) (hasN n l) true : Bool) := rfl
    rw [this, List.contains_cons, hasN_eq n l]
    have e : (n == m) = Nat.beq n m := by rw [Bool.eq_iff_iff, beq_iff_eq, Nat.beq_eq]
    rw [e]
    cases Nat.beq n m <;> rfl
theorem HR0.obj (hr : HR0 B σ h w) {b c d n : Nat} {x : ABlk} (hb : h.t.get b = some x) (hs : σ.at_ b = some (c, d, n)) : BR σ d n x w.heap[c]? := hr.blk b x c d n hb hs
theorem run_getObj' {c : Nat} {ob : Obj} (h : w.heap[c]? = some ob) (hne : ∀ a e f, ob ≠ .cells a e f) : (getObj c).run P w = .ok ob w := by
  cases ob <;> first | (simp only [getObj, Sem.run, h]; done) | exact absurd rfl (hne _ _ _)
theorem run_setObj' {c : Nat} {ob ob' : Obj} (h : w.heap[c]? = some ob) (hne : ∀ a e f, ob ≠ .cells a e f) : (setObj c ob').run P w = .ok () (World.put w c ob') := by
  cases ob <;> first | (simp only [setObj, Sem.run, h]; rfl) | exact absurd rfl (hne _ _ _)
theorem ER.mem {σ : Sg} {l : List AE} {m : List MapEntry} (h : ER σ l m) {x : MapEntry} (hx : x ∈ m) : ∃ e ∈ l, VR σ e.key x.key ∧ VR σ e.val x.val ∧ x.born = e.born := by
  obtain ⟨i, hi, rfl⟩ := List.getElem_of_mem hx
  have hl := h.length
  obtain ⟨x', h1, h2⟩ := h.get i l[i] (by simp)
  have h1 : m[i] = x' := by
    rw [List.getElem?_eq_getElem hi] at h1; exact Option.some.inj h1
  exact ⟨l[i], by simp, by rw [h1]; exact h2⟩
theorem choose_next {n : Nat} (h : 0 < n) (w : World) : ∃ i w', i < n ∧ (w' = w ∨ w' = w.drew) ∧ (choose (.mapNext n)).run P w = .ok i w' := by
  by_cases hf : n ≤ 1
  · refine ⟨0, w, h, .inl rfl, ?_⟩
    simp [choose, Sem.run, Question.forced, hf]
  · refine ⟨w.tape w.drawn (.mapNext n) % n, w.drew, Nat.mod_lt _ h, .inr rfl, ?_⟩
    simp [choose, Sem.run, Question.forced, hf, Question.cut]
theorem nextMap_spec (ty : TypeId) : MSpec1 P nextMap (fun x => vS (Instr.next x false ty)) := by
  intro a h k r eq ok B σ x w ha hr
  obtain ⟨b, o, rfl, e1⟩ := asP_inv eq ok
  obtain ⟨ho, e2⟩ := guardB_inv e1 ok
  have ho : o = 0 := Nat.eq_of_beq_eq_true ho
  subst ho
  obtain ⟨X, hX, e3⟩ := hget_inv e2 ok
  simp only [VR] at ha
  obtain ⟨c, d, n, hc, rfl⟩ := ha
  have hbr := hr.obj hX hc
  split at e3
  · obtain ⟨hd, m', hob, hm'⟩ := hbr
    subst hd
    have hm' : m' = none := hm'
    subst hm'
    refine ⟨_, _, σ, .tuple #[.bool false], _, w, e3, ?_, .inl rfl, Grows.refl _ σ, tup_bool σ false, hr, .refl _⟩
    simp only [vS, Instr.next, Sem.run_bind, Result.andThen_ok, Nat.add_zero, run_getObj' hob (by simp), Sem.run_pure]
  · rename_i m since seen last
    obtain ⟨hd, m', hob, c2, d2, n2, hc2, hm'⟩ := hbr
    subst hd hm'
    obtain ⟨Y, hY, e4⟩ := hget_inv e3 ok
    obtain ⟨es, clock, rfl, e5⟩ := asMap_inv e4 ok
    obtain ⟨es', hb2, her⟩ := hr.amap hY hc2
    simp only at e5
    split at e5
    · subst e5; exact ok.elim
    rename_i hstop
    have hlen := her.length
    have hstop' : (!seen.toArray.isEmpty && !es'.isEmpty && es'.all (fun e => decide (e.born ≥ last))) = false := by
      have h1 := ER.all (p := fun e => Nat.ble last e.born) (q := fun x => decide (x.born ≥ last)) (by intro e x hx; rw [hx, Bool.eq_iff_iff, Nat.ble_eq]; simp) her
      rw [← Array.all_toList, ← h1]
      have h2 : es'.isEmpty = (es.length == 0) := by
        rw [Bool.eq_iff_iff]; simp [Array.isEmpty, hlen]
      have h3 : seen.toArray.isEmpty = (seen.length == 0) := by cases seen <;> rfl
      rw [h2, h3]
      simpa [bne] using hstop
    have hl := ER.filter (p := fun e => notB (hasN e.born seen)) (q := fun e => !seen.toArray.contains e.born) (by
      intro e x hx; rw [hx, notB_eq, hasN_eq]; simp) her
    have hold := ER.filter (p := fun e => Nat.ble (Nat.succ e.born) since) (q := fun e => decide (e.born < since)) (by
      intro e x hx; rw [hx, Bool.eq_iff_iff]; simp [Nat.ble_eq, Nat.succ_le_iff]) hl
    have hnew := ER.filter (p := fun e => Nat.ble since e.born) (q := fun e => decide (e.born ≥ since)) (by
      intro e x hx; rw [hx, Bool.eq_iff_iff]; simp [Nat.ble_eq]) hl
    generalize hL : es.filter (fun e => notB (hasN e.born seen)) = left at *
    generalize hO : left.filter (fun e => Nat.ble (Nat.succ e.born) since) = old at *
    generalize hN : left.filter (fun e => Nat.ble since e.born) = new at *
    have hall := allEq_inv e5 ok
    have happ := hold.append hnew
    generalize hC : (if ((es'.filter fun e => !seen.toArray.contains e.born).filter fun e => decide (e.born < since)).isEmpty then #[(none : Option MapEntry)] else #[]) ++
      (((es'.filter fun e => !seen.toArray.contains e.born).filter fun e => decide (e.born < since)) ++ ((es'.filter fun e => !seen.toArray.contains e.born).filter fun e => decide (e.born ≥ since))).map some = cand
    have hpos : 0 < cand.size := by
      rw [← hC]
      split
      · simp; omega
      · rename_i hne
        have : 0 < ((es'.filter fun e => !seen.toArray.contains e.born).filter fun e => decide (e.born < since)).size := by
          rw [Array.isEmpty_iff_size_eq_zero] at hne; omega
        simp only [Array.size_append, Array.size_map]
        omega
    obtain ⟨i, w', hi, hw', hch⟩ := choose_next (P := P) hpos w
    have hr' : HR B σ h w' := by rcases hw' with rfl | rfl; exact hr; exact hr.drew
    have hheap : w'.heap = w.heap := by rcases hw' with rfl | rfl <;> rfl
    have hnx : (Instr.next (.pointer (some ⟨c, 0, none⟩)) false ty).run P w = ((match cand[i]? with
        | some (some e) => do
          setObj c (.mapIter (some c2) since (seen.toArray.push e.born) clock)
          pure (.tuple #[.bool true, e.key, e.val])
        | some none => pure (.tuple #[.bool false])
        | none => stuck "Next: no such candidate" : Sem Value)).run P w' := by
      simp only [Instr.next, Sem.run_bind, Result.andThen_ok, run_getObj' hob (by simp), run_getMap hb2, hstop', Bool.false_eq_true, if_false]
      rw [hC]
      simp only [hch, Result.andThen_ok]
      rfl
    obtain ⟨ci, hcand⟩ : ∃ ci, cand[i]? = some ci := ⟨cand[i], by simp [hi]⟩
    rw [Nat.zero_add]
    have hmem : ci ∈ cand.toList := List.mem_of_getElem? (i := i) (by simpa using hcand)
    rw [← hC] at hmem
    simp only [Array.toList_append, List.mem_append, Array.toList_map, List.mem_map] at hmem
    have hme := hr'.obj hX hc
    cases ci with
    | none =>
      have hemp : ((es'.filter fun e => !seen.toArray.contains e.born).filter fun e => decide (e.born < since)).isEmpty = true := by
        rcases hmem with hm | ⟨e, _, he⟩
        · split at hm
          · assumption
          · simp at hm
        · cases he
      have hol : old.length = 0 := by
        have := hold.length
        rw [Array.isEmpty_iff_size_eq_zero] at hemp
        have e : (List.filter (fun e => decide (e.born < since)) (List.filter (fun e => !seen.toArray.contains e.born) es'.toList)) = ((es'.filter fun e => !seen.toArray.contains e.born).filter fun e => decide (e.born < since)).toList := by simp
        rw [e] at this
        simp only [Array.length_toList] at this
        omega
      have hin := hall (k (.tup [.bool false]) h) (by rw [if_pos hol]; simp)
      refine ⟨_, _, σ, .tuple #[.bool false], _, w', hin, ?_, .inl rfl, Grows.refl _ σ, tup_bool σ false, hr', .refl _⟩
      simp only [vS, Sem.run_bind, hnx, hcand, Sem.run_pure, Result.andThen_ok]
    | some e =>
      have hin : e ∈ (List.filter (fun e => decide (e.born < since)) (List.filter (fun e => !seen.toArray.contains e.born) es'.toList)) ++ (List.filter (fun e => decide (e.born ≥ since)) (List.filter (fun e => !seen.toArray.contains e.born) es'.toList)) := by
        rcases hmem with hm | ⟨e', he', he⟩
        · split at hm <;> simp at hm
        · cases he
          simpa using he'
      obtain ⟨ae, hae, hk, hv, hborn⟩ := happ.mem hin
      have hgo := hall (hset h b (.miter (some m) since (seen ++ [ae.born]) clock) fun h' => k (.tup [.bool true, ae.key, ae.val]) h') (by
        refine List.mem_append_right _ (List.mem_map.2 ⟨ae, hae, rfl⟩))
      obtain ⟨t', hset, e6⟩ := hset_inv hgo ok
      have hput := hr'.put hX rfl rfl hc hset (o := .mapIter (some c2) since (seen.toArray.push e.born) clock) ⟨rfl, some c2, by rw [hborn]; simp, c2, d2, n2, hc2, rfl⟩ h.ds
      refine ⟨_, _, σ, .tuple #[.bool true, e.key, e.val], _, _, e6, ?_, .inl rfl, Grows.refl _ σ, ?_, hput, .set hset⟩
      · have hob' : w'.heap[c]? = some (.mapIter (some c2) since seen.toArray last) := by rw [hheap]; simpa using hob
        simp only [vS, Sem.run_bind, hnx, hcand, run_setObj' hob' (by simp), Sem.run_pure, Result.andThen_ok]
      · simp only [VR]; exact ⟨_, rfl, VRs.cons (by simp [VR]) (VRs.cons hk (VRs.cons hv VRs.nil))⟩
  · subst e3; exact ok.elim
end
end
end Go.Ev
namespace Go.Ev
noncomputable section
open Go
section
variable {G : Cfg} {P : Program} {B : Base} {σ : Sg} {h : AH} {w : World} {nt : Nat} {o : Oper}
theorem ER.find {σ : Sg} {p : AE → Bool} {q : MapEntry → Bool} (hpq : ∀ e x, x.born = e.born → p e = q x) : ∀ {l : List AE} {m : List MapEntry}, ER σ l m → ∀ e, l.find? p = some e →
    ∃ x, m.find? q = some x ∧ VR σ e.key x.key ∧ VR σ e.val x.val
  | [], _, _, e, he => by simp at he
  | a :: l, _, h, e, he => by
    obtain ⟨x, m1, rfl, h1, h2, h3, hl⟩ := h
    rw [List.find?_cons] at he ⊢
    rw [← hpq a x h3]
    split at he
    · cases he; exact ⟨x, rfl, h1, h2⟩
    · exact ER.find hpq hl e he
theorem entry_spec : MSpec1 P entryV (fun x => vS (Instr.entry x)) := by
  intro a h k r eq ok B σ x w ha hr
  obtain ⟨b, o, rfl, e1⟩ := asP_inv eq ok
  obtain ⟨ho, e2⟩ := guardB_inv e1 ok
  have ho : o = 0 := Nat.eq_of_beq_eq_true ho
  subst ho
  obtain ⟨X, hX, e3⟩ := hget_inv e2 ok
  simp only [VR] at ha
  obtain ⟨c, d, n, hc, rfl⟩ := ha
  have hbr := hr.obj hX hc
  split at e3
  · rename_i m since seen stepped
    obtain ⟨hd, m', hob, c2, d2, n2, hc2, hm'⟩ := hbr
    subst hd hm'
    split at e3
    · subst e3; exact ok.elim
    · rename_i st hst
      obtain ⟨Y, hY, e4⟩ := hget_inv e3 ok
      obtain ⟨es, clock, rfl, e5⟩ := asMap_inv e4 ok
      obtain ⟨hcl, e6⟩ := guardB_inv e5 ok
      have hcl : clock = stepped := Nat.eq_of_beq_eq_true hcl
      obtain ⟨es', hb2, her⟩ := hr.amap hY hc2
      split at e6
      · rename_i e he
        obtain ⟨x, hx, hk, hv⟩ := ER.find (p := fun e => Nat.beq e.born st) (q := fun x => x.born == st) (by
          intro e x hx; rw [hx, Bool.eq_iff_iff, beq_iff_eq, Nat.beq_eq]) her e he
        refine ⟨_, _, σ, .tuple #[x.key, x.val], _, w, e6, ?_, .inl rfl, Grows.refl _ σ, ?_, hr, .refl _⟩
        · have hx' : es'.find? (fun x => x.born == st) = some x := by rw [← Array.find?_toList]; exact hx
          have hback : seen.toArray.back? = some st := by simpa using hst
          have hne : (clock != stepped) = false := by simp [hcl]
          simp only [vS, Instr.entry, Sem.run_bind, Nat.zero_add, run_getObj' hob (by simp), Result.andThen_ok, hback, run_getMap hb2, hne, Bool.false_eq_true, if_false, hx', Sem.run_pure]
        · simp only [VR]; exact ⟨_, rfl, VRs.cons hk (VRs.cons hv VRs.nil)⟩
      · subst e6; exact ok.elim
  · subst e3; exact ok.elim
theorem nextStr_spec (ty : TypeId) : MSpec1 P nextStr (fun x => vS (Instr.next x true ty)) := by
  intro a h k r eq ok B σ x w ha hr
  obtain ⟨b, o, rfl, e1⟩ := asP_inv eq ok
  obtain ⟨ho, e2⟩ := guardB_inv e1 ok
  have ho : o = 0 := Nat.eq_of_beq_eq_true ho
  subst ho
  obtain ⟨X, hX, e3⟩ := hget_inv e2 ok
  simp only [VR] at ha
  obtain ⟨c, d, n, hc, rfl⟩ := ha
  have hbr := hr.obj hX hc
  split at e3
  · rename_i l pos
    obtain ⟨hd, s, hob, hs⟩ := hbr
    subst hd
    rw [lenK_eq] at e3
    have hl := bytesR_len hs
    rcases boolCases_inv e3 with ⟨hlt, e4⟩ | ⟨hge, e4⟩
    · have hlt : pos < l.length + 0 := Nat.le_of_ble_eq_true hlt
      obtain ⟨cv, hcv, e5⟩ := nthK_inv e4 ok
      obtain ⟨h128, e6⟩ := guardB_inv e5 ok
      have h128 : cv < 128 := Nat.le_of_ble_eq_true h128
      rw [forceN_eq] at e6
      obtain ⟨t', hset, e7⟩ := hset_inv e6 ok
      obtain ⟨u, hu, huv⟩ := bytesR_get hs hcv
      have hlt' : pos < s.size := by omega
      have hu' : s[pos]'hlt' = u := by
        rw [getElem?_pos s pos hlt'] at hu; exact Option.some.inj hu
      have hput := hr.put hX rfl rfl hc hset (o := .stringIter s (pos + 1)) ⟨rfl, s, rfl, hs⟩ h.ds
      refine ⟨_, _, σ, .tuple #[.bool true, .int .i64 pos, .int .i32 cv], _, _, e7, ?_, .inl rfl, Grows.refl _ σ, ?_, hput, .set hset⟩
      · have hdec := decode_ascii s pos hlt' (by rw [hu', huv]; exact h128)
        rw [hu', huv] at hdec
        simp only [vS, Instr.next, Sem.run_bind, Nat.zero_add, run_getObj' hob (by simp), Result.andThen_ok, hlt', if_true, hdec, run_setObj' hob (by simp), Sem.run_pure]
        rfl
      · simp only [VR]; exact ⟨_, rfl, VRs.cons (by simp [VR]) (VRs.cons (by simp [VR]) (VRs.cons (by simp [VR]) VRs.nil))⟩
    · have hge : ¬ pos < s.size := by
        have := Nat.not_le_of_not_ble_eq_true (by rw [hge]; simp : ¬ Nat.ble (Nat.succ pos) (l.length + 0) = true)
        omega
      refine ⟨_, _, σ, .tuple #[.bool false], _, w, e4, ?_, .inl rfl, Grows.refl _ σ, tup_bool σ false, hr, .refl _⟩
      simp only [vS, Instr.next, Sem.run_bind, Nat.zero_add, run_getObj' hob (by simp), Result.andThen_ok, hge, if_false, Sem.run_pure]
  · subst e3; exact ok.elim
end
end
end Go.Ev
namespace Go.Ev
noncomputable section
open Go
section
variable {G : Cfg} {P : Program} {B : Base} {σ : Sg} {h : AH} {w : World} {nt : Nat} {o : Oper}
theorem freeze_put {c p n e lo hi : Nat} {cc : Array Value} (hc : w.heap[c]? = some (.cells cc e (lo, hi))) (hn : n ≠ 0) :
    w.freeze ⟨c, p, none⟩ n = World.put w c (.cells cc e (if lo == hi then (p, p + n) else (min lo p, max hi (p + n)))) := by
  unfold World.freeze World.put
  rw [if_neg hn]
  congr 1
  apply Array.ext_getElem?
  intro j
  rw [Array.getElem?_modify, Array.getElem?_setIfInBounds]
  by_cases hj : c = j
  · subst hj
    rw [if_pos rfl, if_pos rfl, hc]
    have : c < w.heap.size := (Array.getElem?_eq_some_iff.1 hc).1
    simp [this]
  · rw [if_neg hj, if_neg hj]
theorem put_alloc (w : World) (a b : Obj) : World.put (w.alloc a) w.heap.size b = w.alloc b := by
  unfold World.put World.alloc
  congr 1
  apply Array.ext_getElem?
  intro j
  rw [Array.getElem?_setIfInBounds]
  simp only [Array.size_push, Array.getElem?_push]
  by_cases hj : w.heap.size = j
  · subst hj; simp
  · rw [if_neg hj, if_neg (Ne.symm hj), if_neg (Ne.symm hj)]
theorem run_markStringish {c p e lo hi : Nat} {cc : Array Value} (hc : w.heap[c]? = some (.cells cc e (lo, hi))) :
    (markStringish ⟨c, p, none⟩).run P w = .ok () (World.put w c (.cells cc e (if lo == hi then (cc.size, cc.size + 1) else (min lo cc.size, max hi (cc.size + 1))))) := by
  have hsh : w.shape? c = some (e, cc.size) := by simp [World.shape?, hc]
  unfold markStringish
  simp only [Sem.run_bind, run_shape, hsh, Result.andThen_ok, run_freeze]
  rw [freeze_put hc (by omega)]
theorem mark_flr {f : Fl} {d n lo hi : Nat} (h : FlR f d n lo hi) (hf : f ≠ .ro) : FlR .stringish d n (if lo == hi then (n, n + 1) else (min lo n, max hi (n + 1))).1 (if lo == hi then (n, n + 1) else (min lo n, max hi (n + 1))).2 := by
  rcases flr_free h hf with rfl | h'
  · simp [FlR]
  · by_cases e : lo = hi
    · subst e; simp [FlR]
    · have e' : (lo == hi) = false := by simp [e]
      rw [e']
      exact .inr (by show n ≤ min lo n; omega)
theorem strToBytes_spec (hG : G.Ok) {src dst e : TypeId} (hs : G.und src = some .string) (hd : G.und dst = some (.slice e)) (he : G.und e = some (.int .u8)) : MSpec1 G.P (strToBytes e) (fun x => vS (convert src dst x)) := by
  intro a h k r eq ok B σ x w ha hr
  obtain ⟨l, rfl, e1⟩ := asS_inv eq ok
  rw [lenK_eq, appK_eq] at e1
  obtain ⟨t', hset, e2⟩ := hnew_inv e1 ok
  simp only [VR] at ha
  obtain ⟨s, rfl, hs'⟩ := ha
  have hl := bytesR_len hs'
  have hg := le_grown w s.size 0 e
  generalize hcap : grownCap w s.size 0 e = cap at hg
  have hrow : (s.data.map fun b => Value.int .u8 b.toNat).toList = l.map fun n => Value.int .u8 (.ofNat n) := by
    unfold bytesR at hs'; subst hs'; simp
  have hlen : (l.map (fun n => Value.int .u8 (.ofNat n)) ++ (Array.replicate (cap - s.size) (Value.int .u8 0)).toList).length = cap := by
    simp; omega
  have hpush := hr.drew.pushCells (us := l.map fun n => Value.int .u8 (.ofNat n)) (extra := (Array.replicate (cap - s.size) (Value.int .u8 0)).toList) (lo := cap) (hi := cap + 1) hset
    (by simpa using bytesV_R' l) (.inr (Nat.le_of_eq hlen))
  rw [hlen] at hpush
  have hcc : (s.data.map (fun b => Value.int .u8 b.toNat) ++ Array.replicate (cap - s.size) (Value.int .u8 0)) = (l.map (fun n => Value.int .u8 (.ofNat n)) ++ (Array.replicate (cap - s.size) (Value.int .u8 0)).toList).toArray := by
    apply Array.ext'; rw [Array.toList_append, hrow]
  refine ⟨_, _, _, .slice (some ⟨w.heap.size, 0, none⟩) s.size cap, _, _, e2, ?_, .inl rfl, Sg.add_grows _ _ _ _ _, ?_, hpush, .push hr hset⟩
  · have hch : (choose (.appendCap s.size 0 e)).run G.P w = .ok cap w.drew := by
      simp only [run_choose, Question.forced, Bool.false_eq_true, if_false]
      rw [← hcap]; rfl
    have hal : (w.drew.alloc (.cells (s.data.map (fun b => Value.int .u8 b.toNat) ++ Array.replicate (cap - s.size) (Value.int .u8 0)) e)).heap[w.heap.size]? = some (.cells (s.data.map (fun b => Value.int .u8 b.toNat) ++ Array.replicate (cap - s.size) (Value.int .u8 0)) e (0, 0)) :=
      heap_alloc_new w.drew _
    have hm := run_markStringish (P := G.P) (p := 0) hal
    have hsz : (s.data.map (fun b => Value.int .u8 b.toNat) ++ Array.replicate (cap - s.size) (Value.int .u8 0)).size = cap := by
      rw [hcc]; simpa using hlen
    rw [hsz] at hm
    have hpa : World.put (w.drew.alloc (.cells (s.data.map (fun b => Value.int .u8 b.toNat) ++ Array.replicate (cap - s.size) (Value.int .u8 0)) e)) w.heap.size
        (.cells (s.data.map (fun b => Value.int .u8 b.toNat) ++ Array.replicate (cap - s.size) (Value.int .u8 0)) e (cap, cap + 1)) = w.drew.alloc (.cells (s.data.map (fun b => Value.int .u8 b.toNat) ++ Array.replicate (cap - s.size) (Value.int .u8 0)) e (cap, cap + 1)) := put_alloc w.drew _ _
    simp only [beq_self_eq_true, if_true] at hm
    rw [hpa] at hm
    simp only [vS, convert, Sem.run_bind, Go.run_underlying (und_ok hG hs), Go.run_underlying (und_ok hG hd), Go.run_underlying (und_ok hG he), Result.andThen_ok, Conv.stringToBytes, hch, newRow, run_newObj, Sem.run_pure]
    have hal' : ({ w.drew with heap := w.drew.heap.push (.cells (s.data.map (fun b => Value.int .u8 b.toNat) ++ Array.replicate (cap - s.size) (Value.int .u8 0)) e) } : World) = w.drew.alloc (.cells (s.data.map (fun b => Value.int .u8 b.toNat) ++ Array.replicate (cap - s.size) (Value.int .u8 0)) e) := rfl
    rw [hal']
    have hsz' : w.drew.heap.size = w.heap.size := rfl
    rw [hsz', hm]
    simp only [Result.andThen_ok]
    rw [hcc]
  · have := slc_new σ h.next w.heap.size cap s.size cap (.least s.size 1) hg ⟨hg, by simp⟩
    rw [show l.length + 0 = s.size from by omega]
    exact this
theorem markV_spec (hG : G.Ok) {t e : TypeId} (hs : G.und t = some (.slice e)) (he : G.und e = some (.int .u8)) : MSpec1 G.P markV (fun x => vS (convert t t x)) := by
  intro a h k r eq ok B σ x w ha hr
  unfold markV at eq
  split at eq
  · subst eq; exact ok.elim
  · rename_i b o n c
    obtain ⟨X, hX, e1⟩ := hget_inv eq ok
    obtain ⟨cs, ce, f, rfl, e2⟩ := asCells_inv e1 ok
    have hf : f ≠ .ro := by rintro rfl; subst e2; exact ok.elim
    have e3 : hset h b (.cells cs ce .stringish) (fun h' => k (.slc b o n c) h') = r := by
      cases f <;> first | exact e2 | exact absurd rfl hf
    obtain ⟨t', hset, e4⟩ := hset_inv e3 ok
    have ha' := ha
    simp only [VR] at ha
    obtain ⟨c', d, nn, j, cap', hat, rfl, _⟩ := ha
    obtain ⟨cc, lo, hi, hc, hn, hfl, hv⟩ := hr.cells hX hat
    have hput := hr.put hX rfl (by cases f <;> simp_all [ABlk.writable]) hat hset (o := .cells cc ce (if lo == hi then (cc.size, cc.size + 1) else (min lo cc.size, max hi (cc.size + 1))))
      ⟨cc, _, _, rfl, hn, by rw [hn]; exact mark_flr hfl hf, hv⟩ h.ds
    refine ⟨_, _, σ, _, _, _, e4, ?_, .inl rfl, Grows.refl _ σ, ha', hput, .set hset⟩
    simp only [vS, convert, Sem.run_bind, Go.run_underlying (und_ok hG hs), Go.run_underlying (und_ok hG he), Result.andThen_ok, beq_self_eq_true, run_markStringish hc, Sem.run_pure]
  · subst eq; exact ok.elim
end
end
end Go.Ev
namespace Go.Ev
noncomputable section
open Go
section
variable {G : Cfg} {P : Program} {B : Base} {σ : Sg} {h : AH} {w : World} {nt : Nat} {o : Oper}
theorem lenK2_inv {v : AV} {k : Nat → Out} {r : Out} (e : lenK2 v k = r) (ok : r.ok) : ∃ n, k n = r ∧ ∀ σ x w, VR σ v x → (Builtin.lenOf x).run P w = .ok n w ∧ ∀ sz, (Builtin.firstCells sz 0 x).run P w = .ok #[] w := by
  unfold lenK2 at e
  split at e
  · rename_i l
    rw [lenK_eq] at e
    refine ⟨_, e, fun σ x w hx => ?_⟩
    simp only [VR] at hx
    obtain ⟨s, rfl, hs⟩ := hx
    have := bytesR_len hs
    exact ⟨by simp [Builtin.lenOf, this], fun sz => by simp [Builtin.firstCells]⟩
  · refine ⟨_, e, fun σ x w hx => ?_⟩
    simp only [VR] at hx; subst hx
    exact ⟨by simp [Builtin.lenOf], fun sz => by simp [Builtin.firstCells]⟩
  · refine ⟨_, e, fun σ x w hx => ?_⟩
    simp only [VR] at hx
    obtain ⟨c, d, n, j, cap', _, rfl, _⟩ := hx
    exact ⟨by simp [Builtin.lenOf], fun sz => by simp [Builtin.firstCells, loadCells, loadCellsFrom]⟩
  · subst e; exact ok.elim
theorem int_R (σ : Sg) (k : IntKind) (n : Int) : VR σ (.int k n) (.int k n) := by simp [VR]
theorem copy_spec (hG : G.Ok) {t u ty e sz : TypeId} (ht : G.und t = some (.slice e)) (hs : G.size e = some sz) : MSpec2 G.P (copyV sz) (fun x y => vS (Builtin.copy_ #[t, u] ty #[x, y])) := by
  intro a b h k r eq ok B σ x y w hx hy hr
  obtain ⟨n, e1, hn⟩ := lenK2_inv (P := G.P) eq ok
  obtain ⟨hlen, hzero⟩ := hn σ y w hy
  split at e1
  · simp only [VR] at hx; subst hx
    refine ⟨_, _, σ, .int .i64 0, _, w, e1, ?_, .inl rfl, Grows.refl _ σ, int_R σ _ _, hr, .refl _⟩
    have hm : Nat.min n 0 = 0 := Nat.min_zero n
    simp only [vS, Builtin.copy_, List.getElem?_toArray, List.getElem?_cons_zero, List.getElem?_cons_succ, Sem.run_bind, Go.run_underlying (und_ok hG ht), Result.andThen_ok, hlen, run_sizeOf (size_ok hG hs), hm, hzero, Sem.run_pure]
    simp [Go.run_underlying (und_ok hG ht), hlen, run_sizeOf (size_ok hG hs), hzero, goInt]
  · rename_i bl o len c
    rw [forceN_eq, minN_eq] at e1
    obtain ⟨n', l, e2, hl, hv⟩ := firstK_inv (P := G.P) e1 ok
    obtain ⟨hlen', hfc⟩ := hv B σ y w hy hr
    have hnn : n' = n := by rw [hlen] at hlen'; simpa using hlen'.symm
    subst hnn
    obtain ⟨htk, e3⟩ := takeK_inv e2 ok
    obtain ⟨hone, e4⟩ := guardB_inv e3 ok
    obtain ⟨us, hus, hvr⟩ := hfc (min n' len) (Nat.min_le_left _ _)
    simp only [VR] at hx
    obtain ⟨c', d, nn, j, cap', hat, rfl, _, _, hj⟩ := hx
    have run : ∀ w', (storeCells ⟨c', j, none⟩ us).run G.P w = .ok () w' → (vS (Builtin.copy_ #[t, u] ty #[.slice (some ⟨c', j, none⟩) len cap', y])).run G.P w = .ok (.value (.int .i64 (min n' len : Nat))) w' := by
      intro w' hst
      simp [vS, Builtin.copy_, Go.run_underlying (und_ok hG ht), hlen, run_sizeOf (size_ok hG hs), goInt]
      rw [show n'.min len = min n' len from rfl, hus]
      simp [hst]
    cases hm : min n' len with
    | zero =>
      rw [hm] at e4 hvr run
      have hu0 : us = [] := by
        have := hvr.length
        exact List.eq_nil_of_length_eq_zero (by simpa using this.symm)
      subst hu0
      exact ⟨_, _, σ, _, _, w, e4, run w rfl, .inl rfl, Grows.refl _ σ, int_R σ _ _, hr, .refl _⟩
    | succ m =>
      rw [hm] at e4 hvr run hone
      have hj : j = o + d := hj.resolve_right (by omega)
      subst hj
      obtain ⟨X, hX, e5⟩ := hget_inv (h := h) (b := bl) (k := fun x => asCells x fun cs e f => notRo f (overK o cs (l.take ((m + 1).mul sz)) fun cs' => hset h bl (.cells cs' e f) fun h' => k (.int .i64 (.ofNat (m + 1))) h')) e4 ok
      obtain ⟨cs, ce, f, rfl, e6⟩ := asCells_inv e5 ok
      obtain ⟨hf, e7⟩ := notRo_inv e6 ok
      obtain ⟨hlt, e8⟩ := overK_inv ok e7
      obtain ⟨t', hset, e9⟩ := hset_inv e8 ok
      obtain ⟨w', hw, hr'⟩ := hr.over (P := G.P) hX hat hf hlt hvr hone hset
      exact ⟨_, _, σ, _, _, w', e9, run w' hw, .inl rfl, Grows.refl _ σ, int_R σ _ _, hr', .set hset⟩
  · subst e1; exact ok.elim
end
end
end Go.Ev
namespace Go.Ev
noncomputable section
open Go
section
variable {G : Cfg} {P : Program} {B : Base} {σ : Sg} {h : AH} {w : World} {nt : Nat} {o : Oper}
theorem tup0 (σ : Sg) : VR σ (.tup []) (.tuple #[]) := by simp only [VR]; exact ⟨_, rfl, VRs.nil⟩
theorem clear_spec (hG : G.Ok) {t ty : TypeId} {sz : Nat} {z : List AV} {d : TypeDesc} (ht : G.und t = some d)
    (hz : (∃ e zv, d = .slice e ∧ z = cellsOf (ofValue zv) ∧ (∀ w, (zeroValue e).run G.P w = .ok zv w)) ∨ ((∀ e, d ≠ .slice e) ∧ z = [] ∧ ∃ kt e, d = .map kt e)) (hsz : (∃ e, d = .slice e) → 0 < sz) {a : AV} {h : AH} {k : KV} {r : Out} (eq : clearV sz z a h k = r) (ok : r.ok)
    {B : Base} {σ : Sg} {x : Value} {w : World} (ha : VR σ a x) (hty : (∀ e, d ≠ .slice e) → ∀ b o n c, a ≠ .slc b o n c) (hr : HR B σ h w) : MOut G.P B σ h k r (vS (Builtin.clear_ #[t] ty #[x])) w := by
  have hu := und_ok hG ht
  unfold clearV at eq
  split at eq
  · simp only [VR] at ha; subst ha
    refine ⟨_, _, σ, .tuple #[], _, w, eq, ?_, .inl rfl, Grows.refl _ σ, tup0 σ, hr, .refl _⟩
    simp [vS, Builtin.clear_, Go.run_underlying hu]
  · simp only [VR] at ha; subst ha
    refine ⟨_, _, σ, .tuple #[], _, w, eq, ?_, .inl rfl, Grows.refl _ σ, tup0 σ, hr, .refl _⟩
    simp [vS, Builtin.clear_, Go.run_underlying hu]
  · rename_i b
    obtain ⟨X, hX, e1⟩ := hget_inv eq ok
    obtain ⟨es, clock, rfl, e2⟩ := asMap_inv e1 ok
    obtain ⟨t', hset, e3⟩ := hset_inv e2 ok
    simp only [VR] at ha
    obtain ⟨c, dd, n, hc, rfl⟩ := ha
    obtain ⟨es', hb, her⟩ := hr.amap hX hc
    have hput := hr.put hX rfl rfl hc hset (o := .map #[] clock) ⟨#[], rfl, rfl⟩ h.ds
    refine ⟨_, _, σ, .tuple #[], _, _, e3, ?_, .inl rfl, Grows.refl _ σ, tup0 σ, hput, .set hset⟩
    simp [vS, Builtin.clear_, Go.run_underlying hu, run_getMap hb, run_setMap hb]
  · rename_i b o n c
    have ha' := ha
    simp only [VR] at ha
    obtain ⟨c', dd, nn, j, cap', hat, rfl, _, _, hj⟩ := ha
    cases n with
    | zero =>
      have eq : k (.tup []) h = r := eq
      refine ⟨_, _, σ, .tuple #[], _, w, eq, ?_, .inl rfl, Grows.refl _ σ, tup0 σ, hr, .refl _⟩
      simp [vS, Builtin.clear_, Go.run_underlying hu]
    | succ n =>
      obtain ⟨X, hX, e1⟩ := hget_inv (h := h) (b := b) (k := fun x => asCells x fun cs e f => notRo f (guardB (allOne z) 127 (guardB (Nat.beq z.length sz) 127 (overK o cs (zrow z (n + 1)) fun cs' => hset h b (.cells cs' e f) fun h' => k (.tup []) h')))) eq ok
      obtain ⟨cs, ce, f, rfl, e2⟩ := asCells_inv e1 ok
      obtain ⟨hf, e3⟩ := notRo_inv e2 ok
      obtain ⟨hone, e4⟩ := guardB_inv e3 ok
      obtain ⟨hl, e5⟩ := guardB_inv e4 ok
      have hl : z.length = sz := Nat.eq_of_beq_eq_true hl
      obtain ⟨hlt, e6⟩ := overK_inv ok e5
      obtain ⟨t', hset, e7⟩ := hset_inv e6 ok
      rcases hz with ⟨e, zv, rfl, rfl, hzr⟩ | ⟨hne, _, _⟩
      · have hp : 0 < (cellsOf (ofValue zv)).length := by
          have := hsz ⟨e, rfl⟩
          omega
        have hrow := madeRow_R (σ := σ) (z := zv) hp (n + 1)
        have hzc : (Builtin.zeroCells zv.cells (n + 1)).toList = ((Array.range ((n + 1) * (cellsOf (ofValue zv)).length)).map (zv.cells[· % zv.cells.size]!)).toList := by
          have := (zero_cells σ zv).length
          simp only [Builtin.zeroCells]
          rw [show zv.cells.size = (cellsOf (ofValue zv)).length from by simpa using this.symm]
        have hone' : ∀ m, allOne (zrow (cellsOf (ofValue zv)) m) = true := by
          intro m
          induction m with
          | zero => rfl
          | succ m ih =>
            have app : ∀ l l', allOne l = true → allOne l' = true → allOne (l ++ l') = true := by
              intro l l' h1 h2
              induction l with
              | nil => exact h2
              | cons a l ih => simp only [allOne, Bool.and_eq_true] at h1; simp only [List.cons_append, allOne, Bool.and_eq_true]; exact ⟨h1.1, ih h1.2⟩
            exact app _ _ hone ih
        have hj : j = o + dd := hj.resolve_right (by omega)
        subst hj
        rw [← hzc] at hrow
        obtain ⟨w', hw, hr'⟩ := hr.over (P := G.P) hX hat hf hlt hrow (hone' _) hset
        refine ⟨_, _, σ, .tuple #[], _, w', e7, ?_, .inl rfl, Grows.refl _ σ, tup0 σ, hr', .set hset⟩
        simp [vS, Builtin.clear_, Go.run_underlying hu, hzr, hw]
      · exact absurd rfl (hty hne b o (n + 1) c)
  · subst eq; exact ok.elim
end
end
end Go.Ev
namespace Go.Ev
noncomputable section
open Go
section
variable {G : Cfg} {P : Program} {B : Base} {σ : Sg} {h : AH} {w : World} {nt : Nat} {o : Oper}
theorem run_viewAt {c e n : Nat} (h : w.shape? c = some (e, n)) : (viewAt c).run P w = .ok none w := by simp [viewAt, h]
theorem run_seenAt {c e n p : Nat} (h : w.shape? c = some (e, n)) : (Conv.seenAt ⟨c, p, none⟩).run P w = .ok ⟨c, p, none⟩ w := by simp [Conv.seenAt, run_viewAt h]
theorem run_cellsIn {c e n : Nat} (h : w.shape? c = some (e, n)) : (cellsIn c).run P w = .ok (some n) w := by simp [cellsIn, h]
theorem HR0.shape (hr : HR0 B σ h w) {b c d n e : Nat} {cs : List AV} {f : Fl} (hb : h.t.get b = some (.cells cs e f)) (hs : σ.at_ b = some (c, d, n)) : w.shape? c = some (e, n) := by
  obtain ⟨cc, lo, hi, hc, hn, _, _⟩ := hr.cells hb hs
  simp [World.shape?, hc, hn]
theorem ptrUnsafe_spec (hG : G.Ok) {src dst t n : TypeId} (hs : G.und src = some (.pointer t)) (hd : G.und dst = some .unsafePointer) (hn : G.size t = some (n + 1)) : HSpec1 G.P ptrUnsafe (convert src dst) := by
  intro a h k r e ok
  unfold ptrUnsafe at e
  split at e
  · refine ⟨_, e, fun B σ x w hx hr => ?_⟩
    simp only [VR] at hx; subst hx
    exact ⟨.pointer none, by simp [convert, Go.run_underlying (und_ok hG hs), Go.run_underlying (und_ok hG hd), Conv.unsafePointer], by simp [VR]⟩
  · rename_i b o
    obtain ⟨X, hX, e1⟩ := hget_inv e ok
    obtain ⟨cs, ce, f, rfl, e2⟩ := asCells_inv e1 ok
    obtain ⟨hlt, e3⟩ := guardB_inv e2 ok
    have hlt : o + 1 ≤ cs.length := Nat.le_of_ble_eq_true hlt
    refine ⟨_, e3, fun B σ x w hx hr => ?_⟩
    have hx' := hx
    simp only [VR] at hx
    obtain ⟨c, d, nn, hc, rfl⟩ := hx
    refine ⟨_, ?_, hx'⟩
    have hsh := hr.shape hX hc
    obtain ⟨cc, lo, hi, hcell, hnn, _, hv⟩ := hr.cells hX hc
    obtain ⟨u, hu, _⟩ := hv o _ (List.getElem?_eq_getElem (by omega))
    have hoff : o + d < nn := by
      have := (Array.getElem?_eq_some_iff.1 hu).1
      omega
    have hge : ¬ (nn ≤ o + d) := by omega
    simp [convert, Go.run_underlying (und_ok hG hs), Go.run_underlying (und_ok hG hd), Conv.unsafePointer, run_seenAt hsh, run_cellsIn hsh, run_sizeOf (size_ok hG hn), hge]
  · subst e; exact ok.elim
theorem sameLayout_self (p : Program) (d : Nat) (t : TypeId) : sameLayout p (d + 1) t t = true := by simp [sameLayout]
theorem rowAt_elem {p : Program} {fits : TypeId → Bool} {d e count off n : Nat} (hs : p.cellsOf e ≠ 0) (hr : off % p.cellsOf e = 0) (hb : off / p.cellsOf e + n ≤ count) (hf : fits e = true) : rowAt p fits (d + 1) e count off n = true := by
  simp [rowAt, hs, hr, hb, hf]
theorem run_variablesAt {c e m p n : Nat} (h : w.shape? c = some (e, m)) (hs : P.cellsOf e ≠ 0) (hr : p % P.cellsOf e = 0) (hb : p / P.cellsOf e + n ≤ m / P.cellsOf e) : (variablesAt ⟨c, p, none⟩ e n).run P w = .ok true w := by
  have hl : liesAt P P.depth e (m / P.cellsOf e) p e n = true := by
    show liesAt P (2 * (P.types.size + Made.depth) + 1 + 1) e _ p e n = true
    unfold liesAt
    have : rowAt P (fun x => sameLayout P P.depth x e) P.depth e (m / P.cellsOf e) p n = true := by
      show rowAt P (fun x => sameLayout P (2 * (P.types.size + Made.depth) + 1 + 1) x e) (2 * (P.types.size + Made.depth) + 1 + 1) e _ p n = true
      exact rowAt_elem hs hr hb (sameLayout_self P _ e)
    rw [this]; rfl
  simp [variablesAt, h, hl]
theorem cellsOf_ok (hG : G.Ok) {t n : Nat} (h : G.size t = some n) : G.P.cellsOf t = n := by
  unfold Program.cellsOf; rw [size_ok hG h]; rfl
theorem unsafePtr_spec (hG : G.Ok) {src dst u n : TypeId} (hs : G.und src = some .unsafePointer) (hd : G.und dst = some (.pointer u)) (hn : G.size u = some (n + 1)) : HSpec1 G.P (unsafePtr u (n + 1)) (convert src dst) := by
  intro a h k r e ok
  unfold unsafePtr at e
  split at e
  · refine ⟨_, e, fun B σ x w hx hr => ?_⟩
    simp only [VR] at hx; subst hx
    exact ⟨.pointer none, by simp [convert, Go.run_underlying (und_ok hG hs), Go.run_underlying (und_ok hG hd), Conv.unsafePointer], by simp [VR]⟩
  · rename_i b o
    obtain ⟨X, hX, e1⟩ := hget_inv e ok
    obtain ⟨cs, ce, f, rfl, e2⟩ := asCells_inv e1 ok
    obtain ⟨hf, e3⟩ := guardB_inv e2 ok
    have hf := flEq_eq hf
    subst hf
    obtain ⟨he, e4⟩ := guardB_inv e3 ok
    have he : ce = u := Nat.eq_of_beq_eq_true he
    subst he
    obtain ⟨hmod, e5⟩ := guardB_inv e4 ok
    have hmod : o % (n + 1) = 0 := Nat.eq_of_beq_eq_true hmod
    obtain ⟨hle, e6⟩ := guardB_inv e5 ok
    have hle : o + (n + 1) ≤ cs.length := Nat.le_of_ble_eq_true hle
    refine ⟨_, e6, fun B σ x w hx hr => ?_⟩
    have hx' := hx
    simp only [VR] at hx
    obtain ⟨c, d, nn, hc, rfl⟩ := hx
    refine ⟨_, ?_, hx'⟩
    have hsh := hr.shape hX hc
    obtain ⟨cc, lo, hi, hcell, hnn, hfl, hv⟩ := hr.cells hX hc
    have hd0 : d = 0 := hfl.2
    subst hd0
    obtain ⟨uu, hu, _⟩ := hv (o + n) _ (List.getElem?_eq_getElem (by omega))
    have hoff : o + n < nn := by
      have := (Array.getElem?_eq_some_iff.1 hu).1
      omega
    have hco := cellsOf_ok hG hn
    have hva := run_variablesAt (P := G.P) (p := o) (n := 1) hsh (by rw [hco]; omega) (by rw [hco]; exact hmod) (by
      rw [hco]
      have h1 : o / (n + 1) + 1 = (o + (n + 1)) / (n + 1) := by rw [Nat.add_div_right _ (Nat.succ_pos n)]
      rw [h1]; exact Nat.div_le_div_right (by omega))
    simp [convert, Go.run_underlying (und_ok hG hs), Go.run_underlying (und_ok hG hd), Conv.unsafePointer, run_seenAt hsh, run_sizeOf (size_ok hG hn), hva]
  · subst e; exact ok.elim
theorem run_sliceData {at_ : Array TypeId} {ty : TypeId} {a : Addr} {l c : Nat} (hc : c ≠ 0) : (Builtin.unsafeSliceData_ at_ ty #[.slice (some a) l c]).run P w = .ok (.pointer (some a)) w := by
  have e : ∃ X : Sem Value, Builtin.unsafeSliceData_ at_ ty #[.slice (some a) l c] = if c ≠ 0 then pure (.pointer (some a)) else X := ⟨_, rfl⟩
  obtain ⟨X, hX⟩ := e
  rw [hX, if_pos hc]; rfl
theorem sliceData_spec {at_ : Array TypeId} {ty : TypeId} : VSpec1 P sliceDataV (fun x => Builtin.unsafeSliceData_ at_ ty #[x]) := by
  intro a k r e ok
  unfold sliceDataV at e
  split at e
  · rename_i b o n m
    refine ⟨_, e, fun σ x w hx => ?_⟩
    simp only [VR] at hx
    obtain ⟨c, d, nn, j, cap', hc, rfl, _, hcap, hj⟩ := hx
    have hj : j = o + d := by
      rcases hj with hj | ⟨_, hf⟩
      · exact hj
      · cases hf
    have hcap : cap' = m + 1 := hcap
    subst hcap hj
    exact ⟨.pointer (some ⟨c, o + d, none⟩), run_sliceData (Nat.succ_ne_zero m), by simp only [VR]; exact ⟨c, d, nn, hc, rfl⟩⟩
  · rename_i b o n m q
    refine ⟨_, e, fun σ x w hx => ?_⟩
    simp only [VR] at hx
    obtain ⟨c, d, nn, j, cap', hc, rfl, _, hcap, hj⟩ := hx
    have hj : j = o + d := by
      rcases hj with hj | ⟨_, hf⟩
      · exact hj
      · cases hf
    have hcap : m + 1 ≤ cap' := hcap.1
    have hne : cap' ≠ 0 := by omega
    subst hj
    exact ⟨.pointer (some ⟨c, o + d, none⟩), run_sliceData hne, by simp only [VR]; exact ⟨c, d, nn, hc, rfl⟩⟩
  · refine ⟨_, e, fun σ x w hx => ?_⟩
    simp only [VR] at hx; subst hx
    exact ⟨.pointer none, rfl, by simp [VR]⟩
  · subst e; exact ok.elim
end
end
end Go.Ev
namespace Go.Ev
noncomputable section
open Go
section
variable {G : Cfg} {P : Program} {B : Base} {σ : Sg} {h : AH} {w : World} {nt : Nat} {o : Oper}
theorem run_unsafeString {pt it ty e : TypeId} (hp : P.underlying pt = some (.pointer e)) (hc : P.cellsOf e = 1) {g p cells n : Nat} {kd : IntKind} (hsh : w.shape? g = some (e, cells)) {l : List UInt8} (h0 : n ≠ 0) (hl : l.length = n) (hn : p + n ≤ cells) (h63 : n ≤ 9223372036854775807)
    (hcell : ∀ j x, l[j]? = some x → w.cell? ((⟨g, p, none⟩ : Addr).add j) = some (.int .u8 x.toNat)) :
    (Builtin.unsafeString_ #[pt, it] ty #[.pointer (some ⟨g, p, none⟩), .int kd (.ofNat n)]).run P w = .ok (.string ⟨l.toArray⟩) (w.freeze ⟨g, p, none⟩ n) := by
  subst hl
  have hlb := Go.Lib.run_loadBytes (P := P) w l ⟨g, p, none⟩ .empty hcell
  have hva := run_variablesAt (P := P) (p := p) (n := l.length) hsh (by rw [hc]; omega) (by rw [hc]; omega) (by rw [hc]; simpa using hn)
  have h63' : ¬ (9223372036854775807 : Int) < (l.length : Int) := by omega
  have hdef : Builtin.unsafeString_ #[pt, it] ty #[.pointer (some ⟨g, p, none⟩), .int kd (.ofNat l.length)] =
      (do
        let n ← asInt (.int kd (.ofNat l.length))
        if n < 0 then runtimePanic (.error "unsafe.String: len out of range")
        if n > IntKind.i64.max then unsupported (.unsafePointer "String: a length above the largest int")
        if n = 0 then pure (.string .empty)
        else if ← variablesAt ⟨g, p, none⟩ (← elemOf pt) n.toNat then do
          let s ← loadBytes ⟨g, p, none⟩ .empty n.toNat
          freeze ⟨g, p, none⟩ n.toNat
          pure (.string s)
        else unsupported (.unsafePointer "String: not so many bytes at ptr")) := rfl
  rw [hdef]
  have hmax : IntKind.i64.max = 9223372036854775807 := rfl
  have hneg : ¬ (l.length : Int) < 0 := by omega
  simp [asInt, asIntOf, hmax, h63', hneg, h0, elemOf, Go.run_underlying hp, hva, hlb]
theorem run_unsafeString0 (pt it ty : TypeId) (p : Option Addr) (kd : IntKind) : (Builtin.unsafeString_ #[pt, it] ty #[.pointer p, .int kd 0]).run P w = .ok (.string .empty) w := by
  have hmax : IntKind.i64.max = 9223372036854775807 := rfl
  cases p with
  | none =>
    have hdef : Builtin.unsafeString_ #[pt, it] ty #[.pointer none, .int kd 0] =
        (do
          let n ← asInt (.int kd 0)
          if n < 0 then runtimePanic (.error "unsafe.String: len out of range")
          if n > IntKind.i64.max then unsupported (.unsafePointer "String: a length above the largest int")
          if n = 0 then pure (.string .empty)
          else runtimePanic (.error "unsafe.String: ptr is nil and len is not zero")) := rfl
    rw [hdef]
    simp [asInt, asIntOf, hmax]
  | some a =>
    have hdef : Builtin.unsafeString_ #[pt, it] ty #[.pointer (some a), .int kd 0] =
        (do
          let n ← asInt (.int kd 0)
          if n < 0 then runtimePanic (.error "unsafe.String: len out of range")
          if n > IntKind.i64.max then unsupported (.unsafePointer "String: a length above the largest int")
          if n = 0 then pure (.string .empty)
          else if ← variablesAt a (← elemOf pt) n.toNat then do
            let s ← loadBytes a .empty n.toNat
            freeze a n.toNat
            pure (.string s)
          else unsupported (.unsafePointer "String: not so many bytes at ptr")) := rfl
    rw [hdef]
    simp [asInt, asIntOf, hmax]
theorem unsafeStr_spec (hG : G.Ok) {pt it ty u : TypeId} (hp : G.und pt = some (.pointer u)) (hs : G.size u = some 1) : MSpec2 G.P (unsafeStr u) (fun x y => vS (Builtin.unsafeString_ #[pt, it] ty #[x, y])) := by
  intro a b h k r eq ok B σ x y w hx hy hr
  obtain ⟨kd, n, rfl, e1⟩ := asN_inv eq ok
  obtain ⟨hmax, e2⟩ := guardB_inv e1 ok
  have hmax : n ≤ 9223372036854775807 := Nat.le_of_ble_eq_true hmax
  simp only [VR] at hy; subst hy
  have zero : ∀ p, k (.str []) h = r → x = .pointer p → n = 0 → MOut G.P B σ h k r (vS (Builtin.unsafeString_ #[pt, it] ty #[x, .int kd (.ofNat n)])) w := by
    rintro p e rfl rfl
    refine ⟨_, _, σ, .string .empty, _, w, e, ?_, .inl rfl, Grows.refl _ σ, by simp only [VR]; exact ⟨_, rfl, rfl⟩, hr, .refl _⟩
    simp only [vS, Sem.run_bind, show (Int.ofNat 0) = (0 : Int) from rfl, run_unsafeString0, Result.andThen_ok, Sem.run_pure]
  split at e2
  · simp only [VR] at hx
    cases n with
    | zero => exact zero none e2 hx rfl
    | succ n => subst e2; exact ok.elim
  · rename_i bl o
    cases n with
    | zero =>
      simp only [VR] at hx
      obtain ⟨c, d, nn, hc, hx⟩ := hx
      exact zero _ e2 hx rfl
    | succ n =>
      obtain ⟨X, hX, e3⟩ := hget_inv (h := h) (b := bl) (k := fun x => asCells x fun cs e f => notRo f (guardB (Nat.beq e u) 126 (sliceK cs o (n + 1) fun l => bytesK l fun s => hset h bl (.cells cs e .ro) fun h' => k (.str s) h'))) e2 ok
      obtain ⟨cs, ce, f, rfl, e4⟩ := asCells_inv e3 ok
      obtain ⟨hf, e5⟩ := notRo_inv e4 ok
      obtain ⟨he, e6⟩ := guardB_inv e5 ok
      have he : ce = u := Nat.eq_of_beq_eq_true he
      subst he
      obtain ⟨hle, e7⟩ := sliceK_inv e6 ok
      obtain ⟨s, e8, hsl, hs255⟩ := bytesK_inv ok e7
      obtain ⟨t', hset, e9⟩ := hset_inv e8 ok
      simp only [VR] at hx
      obtain ⟨c, d, nn, hc, rfl⟩ := hx
      obtain ⟨us, hul, huv, hcell⟩ := hr.row hX hc hle
      rw [hsl] at huv
      have hus := bytesV_R huv
      have hslen : s.length = n + 1 := by rw [← hul, hus]; simp
      obtain ⟨cc, lo, hi, hcc, hnn, hfl, hv⟩ := hr.cells hX hc
      obtain ⟨uu, hu, _⟩ := hv (o + n) _ (List.getElem?_eq_getElem (by omega))
      have hoff : o + n + d < nn := by
        have := (Array.getElem?_eq_some_iff.1 hu).1
        omega
      have hrun := run_unsafeString (P := G.P) (it := it) (ty := ty) (kd := kd) (g := c) (p := o + d) (n := n + 1) (l := s.map UInt8.ofNat) (und_ok hG hp) (cellsOf_ok hG hs) (hr.shape hX hc) (Nat.succ_ne_zero n) (by simpa using hslen) (by omega) hmax (by
        intro j x hj
        rw [List.getElem?_map] at hj
        cases hsj : s[j]? with
        | none => rw [hsj] at hj; cases hj
        | some q =>
          rw [hsj] at hj
          simp only [Option.map_some, Option.some.injEq] at hj
          subst hj
          rw [addr_add]
          have hq := hs255 q (List.mem_of_getElem? hsj)
          have : (UInt8.ofNat q).toNat = q := by rw [UInt8.toNat_ofNat']; omega
          rw [this]
          exact hcell j _ (by rw [hus, List.getElem?_map, hsj]; rfl))
      rw [freeze_put hcc (Nat.succ_ne_zero n)] at hrun
      have hput := hr.put hX rfl (by cases f <;> simp_all [ABlk.writable]) hc hset (o := .cells cc ce (if lo == hi then (o + d, o + d + (n + 1)) else (min lo (o + d), max hi (o + d + (n + 1)))))
        ⟨cc, _, _, rfl, hnn, trivial, hv⟩ h.ds
      refine ⟨_, _, σ, _, _, _, e9, by simp only [vS, Sem.run_bind, hrun, Result.andThen_ok, Sem.run_pure]; rfl, .inl rfl, Grows.refl _ σ, ?_, hput, .set hset⟩
      simp only [VR]
      refine ⟨_, rfl, ?_⟩
      unfold bytesR
      simp only [List.map_map]
      apply List.ext_getElem?
      intro j
      rw [List.getElem?_map]
      cases hsj : s[j]? with
      | none => rfl
      | some q =>
        have hq := hs255 q (List.mem_of_getElem? hsj)
        simp only [Option.map_some, Function.comp]
        rw [UInt8.toNat_ofNat']; congr 1; omega
  · subst e2; exact ok.elim
end
end
end Go.Ev
