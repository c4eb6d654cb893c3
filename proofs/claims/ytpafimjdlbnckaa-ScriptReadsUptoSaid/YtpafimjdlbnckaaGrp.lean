/-
  Rows whose elements are structs: what stands at an element's place; the two rows that ScriptWrites makes. No program in sight.
-/
import Derived.Test.YtpafimjdlbnckaaSteps
import Derived.Deep.RegionLaw
import Derived.Deep.RegionHeld3
namespace Go.Proofs.Ytpafimjdlbnckaa
open Go.RowKit

/-- At element j (of sz cells each) of the cells zs stand vs. -/
def Grp (zs : List Value) (sz j : Nat) (vs : List Value) : Prop := ∀ i u, vs[i]? = some u → zs[j * sz + i]? = some u

theorem Grp.left {zs ys : List Value} {sz j : Nat} {vs : List Value} (h : Grp zs sz j vs) : Grp (zs ++ ys) sz j vs := fun i u hu => by
  have h1 := h i u hu
  rw [List.getElem?_append_left (List.getElem?_eq_some_iff.1 h1).1]
  exact h1
theorem Grp.new {zs vs : List Value} {sz j : Nat} (h : zs.length = j * sz) : Grp (zs ++ vs) sz j vs := fun i u hu => by
  rw [List.getElem?_append_right (by omega)]
  rw [show j * sz + i - zs.length = i by omega]
  exact hu

theorem Own.grp {w : World} {base e sz n c j g : Nat} {zs vs : List Value} (h : Own w base e sz (some ⟨g, 0, none⟩) n c zs) (hg : Grp zs sz j vs) (i : Nat) (u : Value) (hu : vs[i]? = some u) :
    w.cell? ⟨g, j * sz + i, none⟩ = some u := by
  obtain ⟨a, ha, _, hc⟩ := h.rd _ u (hg i u hu)
  injection ha with ha
  subst ha
  simpa [Addr.add_lit] using hc

/-- What the call owns stays while a row of another element type grows. -/
theorem Own.other {w w' : World} {base e size n c base' e' size' n' c' : Nat} {A A' : Option Addr} {xs xs' : List Value} (h : Own w base e size A n c xs) (h' : Own w base' e' size' A' n' c' xs') (hne : e ≠ e') (hg : w.grownBy w' (blk A')) :
    Own w' base e size A n c xs := h.kept hg (h.ne_ h' hne)

/-- A copy that lent has made: the bytes, two marks behind them. -/
def Copy (w : World) (base g cap : Nat) (xs : List UInt8) : Prop := xs.length + 2 ≤ cap ∧ Own w base 5 1 (some ⟨g, 0, none⟩) (xs.length + 2) cap (bv (xs ++ [201, 202]))

theorem Copy.rd {w : World} {base g cap : Nat} {xs : List UInt8} (h : Copy w base g cap xs) : Rd w w.heap.size (some ⟨g, 0, none⟩) (bv xs) := by
  have := h.2.rd.take xs.length
  simpa [bv, List.take_append_of_le_length] using this

/-- The first k steps, copied, in a row of the call's own. -/
def InRel (wr : World) (base : Nat) (l : List St) (k : Nat) (I : Option Addr) (c : Nat) : Prop :=
  ∃ zs, Own wr base 26 4 I k c zs ∧ ∀ j (h : j < l.length), j < k → ∃ g cap, Grp zs 4 j [.int .i64 l[j].op, .int .i64 l[j].a, .int .i64 l[j].b, .slice (some ⟨g, 0, none⟩) l[j].data.length cap] ∧ Copy wr base g cap l[j].data

/-- The first k steps as the reference has them, their data where they came in. -/
def RefRel (w : World) (B : Nat) (wr : World) (base : Nat) (l : List St) (k : Nat) (R : Option Addr) (c : Nat) : Prop :=
  ∃ zs, Own wr base 29 5 R k c zs ∧ ∀ j (h : j < l.length), j < k → ∃ D d, Grp zs 5 j [.int .i64 l[j].op, .int .i64 l[j].a, .int .i64 l[j].b, .slice D l[j].data.length d, .int .i64 0] ∧ Rd w B D (bv l[j].data)

section
variable {w wr w' : World} {B base k c : Nat} {l : List St} {I R : Option Addr}
theorem InRel.below (h : InRel wr base l k I c) (hb : Below wr.heap.size wr w') : InRel w' base l k I c := by
  obtain ⟨zs, ho, hj⟩ := h
  refine ⟨zs, ho.below hb (Nat.le_refl _), fun j h1 h2 => ?_⟩
  obtain ⟨g, cap, hg, hc, hw⟩ := hj j h1 h2
  exact ⟨g, cap, hg, hc, hw.below hb (Nat.le_refl _)⟩
theorem RefRel.below (h : RefRel w B wr base l k R c) (hb : Below wr.heap.size wr w') : RefRel w B w' base l k R c := by
  obtain ⟨zs, ho, hj⟩ := h
  exact ⟨zs, ho.below hb (Nat.le_refl _), hj⟩
/-- in = append(in, s). -/
theorem in_grow {zs : List Value} {g cap c' : Nat} {I' : Option Addr} (hk : k < l.length) (ho : Own wr base 26 4 I k c zs)
    (hj : ∀ j (h : j < l.length), j < k → ∃ g cap, Grp zs 4 j [.int .i64 l[j].op, .int .i64 l[j].a, .int .i64 l[j].b, .slice (some ⟨g, 0, none⟩) l[j].data.length cap] ∧ Copy wr base g cap l[j].data)
    (hcp : Copy wr base g cap l[k].data) (hg : wr.grownBy w' (blk I))
    (ho' : Own w' base 26 4 I' (k + 1) c' (zs ++ [.int .i64 l[k].op, .int .i64 l[k].a, .int .i64 l[k].b, .slice (some ⟨g, 0, none⟩) l[k].data.length cap])) : InRel w' base l (k + 1) I' c' := by
  refine ⟨_, ho', fun j h1 h2 => ?_⟩
  by_cases hjk : j < k
  · obtain ⟨g, cap, hgr, hc, hw⟩ := hj j h1 hjk
    exact ⟨g, cap, hgr.left, hc, hw.other ho (by decide) hg⟩
  · obtain rfl : j = k := by omega
    exact ⟨g, cap, Grp.new (by rw [ho.len]), hcp.1, hcp.2.other ho (by decide) hg⟩

/-- refs = append(refs, Step{..}). -/
theorem ref_grow {w0 : World} {zs : List Value} {d c' : Nat} {D R' : Option Addr} (hk : k < l.length) (ho : Own wr base 29 5 R k c zs)
    (hj : ∀ j (h : j < l.length), j < k → ∃ D d, Grp zs 5 j [.int .i64 l[j].op, .int .i64 l[j].a, .int .i64 l[j].b, .slice D l[j].data.length d, .int .i64 0] ∧ Rd w0 B D (bv l[j].data))
    (hr : Rd w0 B D (bv l[k].data))
    (ho' : Own w' base 29 5 R' (k + 1) c' (zs ++ [.int .i64 l[k].op, .int .i64 l[k].a, .int .i64 l[k].b, .slice D l[k].data.length d, .int .i64 0])) : RefRel w0 B w' base l (k + 1) R' c' := by
  refine ⟨_, ho', fun j h1 h2 => ?_⟩
  by_cases hjk : j < k
  · obtain ⟨D, d, hgr, hr⟩ := hj j h1 hjk
    exact ⟨D, d, hgr.left, hr⟩
  · obtain rfl : j = k := by omega
    exact ⟨D, d, Grp.new (by rw [ho.len]), hr⟩

theorem InRel.ref_grown {n' c' : Nat} {zs : List Value} (h : InRel wr base l k I c) (ho : Own wr base 29 5 R n' c' zs) (hg : wr.grownBy w' (blk R)) : InRel w' base l k I c := by
  obtain ⟨zi, hoi, hj⟩ := h
  refine ⟨zi, hoi.other ho (by decide) hg, fun j h1 h2 => ?_⟩
  obtain ⟨g, cap, hgr, hc, hw⟩ := hj j h1 h2
  exact ⟨g, cap, hgr, hc, hw.other ho (by decide) hg⟩

/-- What the reference's Encode is handed. -/
theorem RefRel.st (h : RefRel w B wr base l l.length R c) (hb : Below w.heap.size w wr) (hB : B ≤ w.heap.size) : StAt5 wr wr.heap.size R l (fun _ => 0) := fun k hk => by
  obtain ⟨zs, ho, hj⟩ := h
  obtain ⟨D, d, hgr, hr⟩ := hj k hk hk
  obtain ⟨g, rfl, _, hlt, _⟩ := ho.form_pos (by omega)
  exact ⟨g, 0, D, d, rfl, hlt, by simpa using ho.grp hgr 0 _ rfl, by simpa using ho.grp hgr 1 _ rfl, by simpa using ho.grp hgr 2 _ rfl, by simpa using ho.grp hgr 3 _ rfl, by simpa using ho.grp hgr 4 _ rfl, (hr.below (hb.mono hB)).more (Nat.le_trans hB hb.size)⟩

/-- What Encode is handed. -/
theorem InRel.st (h : InRel wr base l l.length I c) : StAt wr wr.heap.size 4 I l := fun k hk => by
  obtain ⟨zs, ho, hj⟩ := h
  obtain ⟨g, cap, hgr, hcp⟩ := hj k hk hk
  obtain ⟨G, rfl, _, hlt, _⟩ := ho.form_pos (by omega)
  exact ⟨G, 0, _, _, rfl, hlt, by simpa using ho.grp hgr 0 _ rfl, by simpa using ho.grp hgr 1 _ rfl, by simpa using ho.grp hgr 2 _ rfl, by simpa using ho.grp hgr 3 _ rfl, hcp.rd⟩
end

theorem Own.blk_low {w : World} {base e size n c p : Nat} {A : Option Addr} {xs : List Value} (h : Own w base e size A n c xs) (hp : p < base) : blk A ≠ some p := fun he => by
  have := (h.blk_ge he).1
  omega

/-- What a round of the first loop does to in. -/
theorem in_step {wr wm w' : World} {base k c g cap c' : Nat} {l : List St} {I I' : Option Addr} {zs : List Value} {s : St} (hk : k < l.length) (hs : s = l[k]) (ho : Own wr base 26 4 I k c zs)
    (hj : ∀ j (h : j < l.length), j < k → ∃ g cap, Grp zs 4 j [.int .i64 l[j].op, .int .i64 l[j].a, .int .i64 l[j].b, .slice (some ⟨g, 0, none⟩) l[j].data.length cap] ∧ Copy wr base g cap l[j].data)
    (hb : Below wr.heap.size wr wm) (hcp : Copy wm base g cap s.data) (hg : wm.grownBy w' (blk I))
    (ho' : Own w' base 26 4 I' (k + 1) c' (zs ++ [.int .i64 s.op, .int .i64 s.a, .int .i64 s.b, .slice (some ⟨g, 0, none⟩) s.data.length cap])) : InRel w' base l (k + 1) I' c' := by
  subst hs
  refine in_grow hk (ho.below hb (Nat.le_refl _)) (fun j h1 h2 => ?_) hcp hg ho'
  obtain ⟨g, cap, hgr, hc, hw⟩ := hj j h1 h2
  exact ⟨g, cap, hgr, hc, hw.below hb (Nat.le_refl _)⟩

theorem ref_step {w0 wr w' : World} {B base k c d c' : Nat} {l : List St} {D R R' : Option Addr} {zs : List Value} {s : St} (hk : k < l.length) (hs : s = l[k]) (ho : Own wr base 29 5 R k c zs)
    (hj : ∀ j (h : j < l.length), j < k → ∃ D d, Grp zs 5 j [.int .i64 l[j].op, .int .i64 l[j].a, .int .i64 l[j].b, .slice D l[j].data.length d, .int .i64 0] ∧ Rd w0 B D (bv l[j].data))
    (hr : Rd w0 B D (bv s.data))
    (ho' : Own w' base 29 5 R' (k + 1) c' (zs ++ [.int .i64 s.op, .int .i64 s.a, .int .i64 s.b, .slice D s.data.length d, .int .i64 0])) : RefRel w0 B w' base l (k + 1) R' c' := by
  subst hs
  exact ref_grow hk ho hj hr ho'

/-- append at a step of a region that draws its order. -/
theorem step_app {P : Program} {w : World} {ops : Array Oper} {o : Oper} {a : Act} {K : Act → World → Prop} {Q : Exit → Act → World → Prop} {E : Prop} (hgd : o.guard = none) (s x : Operand) (t : TypeId)
    (ho : o.op = .call { callee := .builtin .append, args := #[s, x], argTypes := #[t, t] })
    (base e size bytes : Nat) (el : Elem P t e size bytes) (A : Option Addr) (n c : Nat) (xs : List Value) (hs : a.eval s = .slice A n c) (hown : Own w base e size A n c xs)
    (B : Nat) (S : Option Addr) (m k : Nat) (news : List Value) (hx : a.eval x = .slice S m k) (hr : Rd w B S news) (hl : news.length = m * size) (h1 : ∀ u ∈ news, u.oneCell' = true)
    (N : Nat) (zs : List Value) (hN : n + m = N) (hzs : xs ++ news = zs)
    (hbytes : N * bytes ≤ 140737488355328) (h63 : N ≤ maxLen) (hbase : base ≤ w.heap.size)
    (h : ∀ A' c' w', Own w' base e size A' N c' zs → w.grownBy w' (blk A) → (blk A' = blk A ∨ blk A' = some w.heap.size) → K (a.put o.dst (.slice A' N c')) w') :
    if Region.wanted o (yielded ops a.tmps) = true then Oper.wp P o a w K Q else E := by
  have hw : Region.wanted o (yielded ops a.tmps) = true := by simp [Region.wanted, hgd]
  rw [if_pos hw]
  subst hN hzs
  obtain ⟨A', c', w', hrun, h2, h3, h4⟩ := run_app (P := P) w base t o.type e size bytes el A n c xs hown B S m k news hr hl h1 hbytes h63 hbase
  unfold Oper.wp execOp
  simp only [ho, resolve, invoke, builtin, Sem.run_bind, Sem.run_pure, Result.andThen_ok, List.map_toArray, List.map_cons, List.map_nil, hs, hx, hrun]
  exact h A' c' w' h2 h3 h4

/-- A box is laid, a call makes memory, the box is written. -/
theorem box_below {wr w1 : World} {o : Obj} {p : Addr} (u : Value) (hb1 : Below (wr.alloc o).heap.size (wr.alloc o) w1) (hp : wr.heap.size ≤ p.block) : Below wr.heap.size wr (w1.setCell p u) :=
  (((Below.refl _ _).alloc (Nat.le_refl _) o).trans (hb1.mono (by simp))).setCell hp u

end Go.Proofs.Ytpafimjdlbnckaa
