/- A part of the proof of TopShares: for every row of weights the law returns true, and the row reads as before. No condition beyond the statement's own. -/
import Derived.Test.YtlhpdegoglgdpaaGreatDoorEvA
import Derived.Laws.Sem
import Derived.Laws.CopyRow
import Derived.Laws.Cells
import Derived.Calls
import Derived.Laws.Strings
import Derived.Laws.Cover3
import Derived.Laws.Pointers
import Derived.Laws.Small
import Derived.Laws.StructEq
set_option linter.all false
set_option linter.unusedVariables false
set_option linter.unusedSimpArgs false
set_option linter.constructorNameAsVariable false
set_option linter.deprecated false
namespace Go.Ev
noncomputable section
open Go
structure Sg where
  at_ : Nat → Option (Nat × Nat × Nat)
  sym : Nat → Option Value
def Cap.low : Cap → Bool
  | .least 0 _ => true
  | _ => false
def capOk (c : Cap) (cap' j n : Nat) : Prop :=
  match c with
  | .exact m => cap' = m
  | .least m k => m ≤ cap' ∧ j + cap' * k ≤ n
def bytesR (l : List Nat) (s : ByteArray) : Prop := s.data.toList.map UInt8.toNat = l
mutual
def VR (σ : Sg) : AV → Value → Prop
  | .undef, v => v = .tuple #[]
  | .top, _ => True
  | .bool b, v => v = .bool b
  | .int k n, v => v = .int k n
  | .flt k n, v => v = .float k n
  | .sym i, v => v.oneCell' = true ∧ σ.sym i = some v
  | .str l, v => ∃ s, v = .string s ∧ bytesR l s
  | .ptr b o, v => ∃ c d n, σ.at_ b = some (c, d, n) ∧ v = .pointer (some ⟨c, o + d, none⟩)
  | .nilp, v => v = .pointer none
  | .slc b o len cap, v => ∃ c d n j cap', σ.at_ b = some (c, d, n) ∧ v = .slice (some ⟨c, j, none⟩) len cap' ∧ len ≤ cap' ∧ capOk cap cap' j n ∧ (j = o + d ∨ (len = 0 ∧ cap.low = true))
  | .nils, v => v = .slice none 0 0
  | .map r, v => ∃ c d n, σ.at_ r = some (c, d, n) ∧ v = .map (some c)
  | .nilm, v => v = .map none
  | .fn f a c, v => ∃ a' c', v = .func (.func f) a' c' ∧ VRs σ a a'.toList ∧ VRs σ c c'.toList
  | .yld l, v => ∃ c d n, σ.at_ l = some (c, d, n) ∧ v = .func (.yield c) #[] #[]
  | .nilf, v => v = .nilFunc
  | .ifc t a, v => ∃ u, v = .iface t u ∧ VR σ a u
  | .nili, v => v = .nilIface
  | .agg l, v => ∃ cs, v = .agg cs ∧ VRs σ l cs.toList
  | .tup l, v => ∃ cs, v = .tuple cs ∧ VRs σ l cs.toList
def VRs (σ : Sg) : List AV → List Value → Prop
  | [], m => m = []
  | a :: l, m => ∃ b m', m = b :: m' ∧ VR σ a b ∧ VRs σ l m'
end
structure Grows (n : Nat) (σ τ : Sg) : Prop where
  at_ : ∀ b, b < n → τ.at_ b = σ.at_ b
  sym : ∀ i x, σ.sym i = some x → τ.sym i = some x
structure Le (σ τ : Sg) : Prop where
  at_ : ∀ b x, σ.at_ b = some x → τ.at_ b = some x
  sym : ∀ i x, σ.sym i = some x → τ.sym i = some x
theorem Le.refl (σ : Sg) : Le σ σ := ⟨fun _ _ h => h, fun _ _ h => h⟩
theorem Le.trans {σ τ ρ : Sg} (h : Le σ τ) (k : Le τ ρ) : Le σ ρ := ⟨fun b x hb => k.at_ b x (h.at_ b x hb), fun i x hi => k.sym i x (h.sym i x hi)⟩
mutual
theorem VR.mono {σ τ : Sg} (h : Le σ τ) : ∀ (a : AV) (v : Value), VR σ a v → VR τ a v
  | .undef, _, hv => by simpa [VR] using hv
  | .top, _, _ => by simp [VR]
  | .bool _, _, hv => by simpa [VR] using hv
  | .int _ _, _, hv => by simpa [VR] using hv
  | .flt _ _, _, hv => by simpa [VR] using hv
  | .sym i, _, hv => by simp only [VR] at hv ⊢; exact ⟨hv.1, h.sym i _ hv.2⟩
  | .str _, _, hv => by simpa [VR] using hv
  | .ptr b o, _, hv => by
    simp only [VR] at hv ⊢
    obtain ⟨c, d, n, hc, hv⟩ := hv
    exact ⟨c, d, n, h.at_ _ _ hc, hv⟩
  | .nilp, _, hv => by simpa [VR] using hv
  | .slc b o len cap, _, hv => by
    simp only [VR] at hv ⊢
    obtain ⟨c, d, n, j, cap', hc, hv⟩ := hv
    exact ⟨c, d, n, j, cap', h.at_ _ _ hc, hv⟩
  | .nils, _, hv => by simpa [VR] using hv
  | .map r, _, hv => by
    simp only [VR] at hv ⊢
    obtain ⟨c, d, n, hc, hv⟩ := hv
    exact ⟨c, d, n, h.at_ _ _ hc, hv⟩
  | .nilm, _, hv => by simpa [VR] using hv
  | .fn f a c, _, hv => by
    simp only [VR] at hv ⊢
    obtain ⟨a', c', hv, ha, hc⟩ := hv
    exact ⟨a', c', hv, VRs.mono h _ _ ha, VRs.mono h _ _ hc⟩
  | .yld l, _, hv => by
    simp only [VR] at hv ⊢
    obtain ⟨c, d, n, hc, hv⟩ := hv
    exact ⟨c, d, n, h.at_ _ _ hc, hv⟩
  | .nilf, _, hv => by simpa [VR] using hv
  | .ifc t a, _, hv => by
    simp only [VR] at hv ⊢
    obtain ⟨u, hv, ha⟩ := hv
    exact ⟨u, hv, VR.mono h _ _ ha⟩
  | .nili, _, hv => by simpa [VR] using hv
  | .agg l, _, hv => by
    simp only [VR] at hv ⊢
    obtain ⟨cs, hv, ha⟩ := hv
    exact ⟨cs, hv, VRs.mono h _ _ ha⟩
  | .tup l, _, hv => by
    simp only [VR] at hv ⊢
    obtain ⟨cs, hv, ha⟩ := hv
    exact ⟨cs, hv, VRs.mono h _ _ ha⟩
theorem VRs.mono {σ τ : Sg} (h : Le σ τ) : ∀ (l : List AV) (m : List Value), VRs σ l m → VRs τ l m
  | [], _, hv => by simpa [VRs] using hv
  | a :: l, _, hv => by
    simp only [VRs] at hv ⊢
    obtain ⟨b, m', hm, ha, hl⟩ := hv
    exact ⟨b, m', hm, VR.mono h _ _ ha, VRs.mono h _ _ hl⟩
end
theorem VRs.nil {σ : Sg} : VRs σ [] [] := by simp [VRs]
theorem VRs.cons {σ : Sg} {a : AV} {b : Value} {l : List AV} {m : List Value} (h : VR σ a b) (k : VRs σ l m) : VRs σ (a :: l) (b :: m) := by
  simp only [VRs]; exact ⟨b, m, rfl, h, k⟩
theorem VRs.length {σ : Sg} : ∀ {l : List AV} {m : List Value}, VRs σ l m → l.length = m.length
  | [], _, h => by simp only [VRs] at h; simp [h]
  | _ :: l, _, h => by
    simp only [VRs] at h
    obtain ⟨b, m', rfl, _, hl⟩ := h
    simp [VRs.length hl]
theorem VRs.get {σ : Sg} : ∀ {l : List AV} {m : List Value}, VRs σ l m → ∀ (i : Nat) (a : AV), l[i]? = some a → ∃ b, m[i]? = some b ∧ VR σ a b
  | [], _, _, _, _, hi => by simp at hi
  | a :: l, _, h, i, x, hi => by
    simp only [VRs] at h
    obtain ⟨b, m', rfl, ha, hl⟩ := h
    cases i with
    | zero => simp at hi; subst hi; exact ⟨b, rfl, ha⟩
    | succ i => simpa using VRs.get hl i x (by simpa using hi)
theorem VRs.of_get {σ : Sg} : ∀ {l : List AV} {m : List Value}, l.length = m.length → (∀ (i : Nat) (a : AV), l[i]? = some a → ∃ b, m[i]? = some b ∧ VR σ a b) → VRs σ l m
  | [], m, hl, _ => by
    have : m = [] := List.eq_nil_of_length_eq_zero (by simpa using hl.symm)
    simp [VRs, this]
  | a :: l, [], hl, _ => by simp at hl
  | a :: l, b :: m, hl, h => by
    refine VRs.cons ?_ (VRs.of_get (by simpa using hl) fun i x hi => ?_)
    · obtain ⟨b', hb, hr⟩ := h 0 a rfl
      simp at hb; subst hb; exact hr
    · obtain ⟨b', hb, hr⟩ := h (i + 1) x (by simpa using hi)
      exact ⟨b', by simpa using hb, hr⟩
theorem VRs.append {σ : Sg} : ∀ {l : List AV} {m : List Value} {l' : List AV} {m' : List Value}, VRs σ l m → VRs σ l' m' → VRs σ (l ++ l') (m ++ m')
  | [], _, _, _, h, k => by simp only [VRs] at h; subst h; simpa using k
  | a :: l, _, _, _, h, k => by
    simp only [VRs] at h
    obtain ⟨b, m1, rfl, ha, hl⟩ := h
    exact VRs.cons ha (VRs.append hl k)
theorem VRs.take {σ : Sg} : ∀ (n : Nat) {l : List AV} {m : List Value}, VRs σ l m → VRs σ (l.take n) (m.take n)
  | 0, _, _, _ => by simp [VRs]
  | n + 1, [], _, h => by simp only [VRs] at h; subst h; simp [VRs]
  | n + 1, a :: l, _, h => by
    simp only [VRs] at h
    obtain ⟨b, m1, rfl, ha, hl⟩ := h
    simpa using VRs.cons ha (VRs.take n hl)
theorem VRs.drop {σ : Sg} : ∀ (n : Nat) {l : List AV} {m : List Value}, VRs σ l m → VRs σ (l.drop n) (m.drop n)
  | 0, _, _, h => by simpa using h
  | n + 1, [], _, h => by simp only [VRs] at h; subst h; simp [VRs]
  | n + 1, a :: l, _, h => by
    simp only [VRs] at h
    obtain ⟨b, m1, rfl, ha, hl⟩ := h
    simpa using VRs.drop n hl
def ER (σ : Sg) : List AE → List MapEntry → Prop
  | [], m => m = []
  | e :: l, m => ∃ x m', m = x :: m' ∧ VR σ e.key x.key ∧ VR σ e.val x.val ∧ x.born = e.born ∧ ER σ l m'
theorem ER.mono {σ τ : Sg} (h : Le σ τ) : ∀ (l : List AE) (m : List MapEntry), ER σ l m → ER τ l m
  | [], _, hv => hv
  | e :: l, _, hv => by
    obtain ⟨x, m', hm, hk, hx, hb, hl⟩ := hv
    exact ⟨x, m', hm, VR.mono h _ _ hk, VR.mono h _ _ hx, hb, ER.mono h _ _ hl⟩
def path (nt t : Nat) : List I8 := if nt ≤ 64 then [i8 (t / 8), i8 (t % 8)] else [i8 (t / 64), i8 (t / 8 % 8), i8 (t % 8)]
def Tr.sub : Tr → I8 → Option Tr
  | .leaf _, _ => none
  | .node a _ _ _ _ _ _ _, .a => some a
  | .node _ b _ _ _ _ _ _, .b => some b
  | .node _ _ c _ _ _ _ _, .c => some c
  | .node _ _ _ d _ _ _ _, .d => some d
  | .node _ _ _ _ e _ _ _, .e => some e
  | .node _ _ _ _ _ f _ _, .f => some f
  | .node _ _ _ _ _ _ g _, .g => some g
  | .node _ _ _ _ _ _ _ h, .h => some h
def Tr.get : Tr → List I8 → Option AV
  | .leaf v, [] => some v
  | .node .., [] => none
  | t, i :: p => match t.sub i with | some x => x.get p | none => none
def tget (nt : Nat) (tr : Tr) (t : Nat) : Option AV := if t < nt ∧ nt ≤ 512 then tr.get (path nt t) else none
structure TR (σ : Sg) (nt : Nat) (tr : Tr) (tmps : Array Value) : Prop where
  size : tmps.size = nt
  val : ∀ t v, tget nt tr t = some v → VR σ v (tmps.getD t undef)
theorem TR.mono {σ τ : Sg} (h : Le σ τ) {nt : Nat} {tr : Tr} {tmps : Array Value} (k : TR σ nt tr tmps) : TR τ nt tr tmps :=
  ⟨k.size, fun t v hv => VR.mono h _ _ (k.val t v hv)⟩
structure LR (σ : Sg) (l : ALoop) (L : Loop) : Prop where
  state : L.state = l.state
  pending : L.pending = l.pending
  tmps : TR σ l.nt l.tr L.tmps
  params : L.params.toList = l.params
  assign : L.assign = l.assign
  body : L.body = l.body
def FlR (f : Fl) (d n lo hi : Nat) : Prop :=
  match f with
  | .plain => lo = hi ∧ d = 0
  | .stringish => lo = hi ∨ n ≤ lo
  | .ro => True
def bin (op : BinOp) (xt : TypeId) (x y : Operand) (a b : Value) : Sem Value := do eqGuard op xt x y a b; Go.binOp op xt a b
def atomV (σ : Sg) : AV → Option Value
  | .flt k b => some (.float k b)
  | .int k n => some (.int k n)
  | .bool b => some (.bool b)
  | .sym i => σ.sym i
  | _ => none
def cellV (σ : Sg) : AV → Option Value
  | .str l => if l.all (fun n => Nat.ble n 255) then some (.string ⟨(l.map UInt8.ofNat).toArray⟩) else none
  | .sym i => σ.sym i
  | _ => none
def cellVs (σ : Sg) : List AV → Option (List Value)
  | [] => some []
  | v :: l => match cellV σ v, cellVs σ l with
    | some u, some us => some (u :: us)
    | _, _ => none
def sumsOf : List (Value × Nat) → Nat → List (Value × Nat)
  | [], _ => []
  | (s, u) :: l, t => if FloatKind.f64.format.order u 0 == some .gt then
      (match FloatKind.f64.format.add t u with | some t' => (s, t') :: sumsOf l t' | none => []) else sumsOf l t
def oneW : Nat := 4607182418800017408
def lastOne : List (Value × Nat) → List (Value × Nat)
  | [] => []
  | [(s, _)] => [(s, oneW)]
  | p :: l => p :: lastOne l
def shareCells : List (Value × Nat) → List Value
  | [] => []
  | (s, u) :: l => s :: .float .f64 u :: shareCells l
def sumsOk : List (Value × Nat) → Nat → Prop
  | [], _ => True
  | (_, u) :: l, t => if FloatKind.f64.format.order u 0 == some .gt then (∃ t', FloatKind.f64.format.add t u = some t' ∧ sumsOk l t') else sumsOk l t
def StepsL (σ : Sg) (a r : AV) : Prop := ∃ ins outs ps, a = .agg ins ∧ r = .agg outs ∧ cellVs σ ins = some (shareCells ps) ∧ (∀ p ∈ ps, ∃ s, p.1 = .string s) ∧ sumsOk ps 0 ∧
  cellVs σ outs = some (shareCells (lastOne (sumsOf ps 0)))
def ShareL (σ : Sg) (a r : AV) : Prop := ∃ ins uv qs u nm s q x, a = .agg (ins ++ [uv]) ∧ r = .str nm ∧ cellVs σ ins = some (shareCells qs) ∧ (∀ p ∈ qs, ∃ s, p.1 = .string s) ∧ atomV σ uv = some (.float .f64 u) ∧
  qs[q]? = some (.string s, x) ∧ bytesR nm s ∧ (FloatKind.f64.format.order x u == some .gt) = true ∧ ∀ (q' : Nat) (p : Value × Nat), q' < q → qs[q']? = some p → (FloatKind.f64.format.order p.2 u == some .gt) = false
def MaxL (σ : Sg) (a b r : AV) : Prop := ∃ x n m, a = .tup [x] ∧ atomV σ x = some (.int .i64 n) ∧ atomV σ b = some (.int .i64 m) ∧ atomV σ r = some (.int .i64 (if m > n then m else n))
def ConvL (σ : Sg) (a r : AV) : Prop := ∃ n, atomV σ a = some (.int .i64 n) ∧ atomV σ r = some (.float .f64 (FloatKind.f64.nearest n))
def SRok (σ : Sg) (q : SR) : Prop := if (Bool.and (atomB q.a) (atomB q.b)) = false then (if aggB q.a = true then (if Nat.beq (bix q.op) (bix .add) = true then StepsL σ q.a q.r else ShareL σ q.a q.r) else if tupB q.a = true then MaxL σ q.a q.b q.r else ConvL σ q.a q.r) else ∃ a b u, atomV σ q.a = some a ∧ atomV σ q.b = some b ∧ atomV σ q.r = some u ∧ u.oneCell' = true ∧
  ∀ (P : Program) xt x y w, (bin q.op xt x y a b).run P w = .ok u w
theorem atomV.mono {σ τ : Sg} (h : ∀ i x, σ.sym i = some x → τ.sym i = some x) {v : AV} {a : Value} (k : atomV σ v = some a) : atomV τ v = some a := by
  cases v <;> first | exact k | exact h _ _ k
theorem atomV.of {σ : Sg} {v : AV} {a x : Value} (k : atomV σ v = some a) (hv : VR σ v x) : x = a := by
  cases v <;> simp only [atomV, VR, Option.some.injEq, reduceCtorEq] at k hv
  case sym => rw [hv.2] at k; exact Option.some.inj k
  all_goals (subst k; exact hv)
theorem atomV.to {σ : Sg} {v : AV} {a : Value} (k : atomV σ v = some a) (h : a.oneCell' = true) : VR σ v a := by
  cases v <;> simp only [atomV, VR, Option.some.injEq, reduceCtorEq] at k ⊢
  case sym => exact ⟨h, k⟩
  all_goals exact k.symm
theorem cellV.mono {σ τ : Sg} (h : ∀ i x, σ.sym i = some x → τ.sym i = some x) {v : AV} {a : Value} (k : cellV σ v = some a) : cellV τ v = some a := by
  cases v <;> first | exact k | exact h _ _ k
theorem cellVs.mono {σ τ : Sg} (h : ∀ i x, σ.sym i = some x → τ.sym i = some x) : ∀ {l : List AV} {m : List Value}, cellVs σ l = some m → cellVs τ l = some m
  | [], _, k => k
  | v :: l, m, k => by
    simp only [cellVs] at k ⊢
    split at k
    · rename_i u us h1 h2
      rw [cellV.mono h h1, cellVs.mono h h2]; exact k
    · cases k
theorem StepsL.mono {σ τ : Sg} (h : ∀ i x, σ.sym i = some x → τ.sym i = some x) {a r : AV} : StepsL σ a r → StepsL τ a r
  | ⟨ins, outs, ps, h1, h2, h3, h4, h5, h6⟩ => ⟨ins, outs, ps, h1, h2, cellVs.mono h h3, h4, h5, cellVs.mono h h6⟩
theorem SRok.mono {σ τ : Sg} (h : ∀ i x, σ.sym i = some x → τ.sym i = some x) {q : SR} (k : SRok σ q) : SRok τ q := by
  unfold SRok at k ⊢
  split
  · rename_i ha
    rw [if_pos ha] at k
    split
    · rename_i hb
      rw [if_pos hb] at k
      split
      · rename_i hc
        rw [if_pos hc] at k; exact k.mono h
      · rename_i hc
        rw [if_neg hc] at k
        obtain ⟨ins, uv, qs, u, nm, s, q', x, h1, h2, h3, h4, h5, h6⟩ := k
        exact ⟨ins, uv, qs, u, nm, s, q', x, h1, h2, cellVs.mono h h3, h4, atomV.mono h h5, h6⟩
    · rename_i hb
      rw [if_neg hb] at k
      split
      · rename_i hc
        rw [if_pos hc] at k
        obtain ⟨x, n, m, h1, h2, h3, h4⟩ := k
        exact ⟨x, n, m, h1, atomV.mono h h2, atomV.mono h h3, atomV.mono h h4⟩
      · rename_i hc
        rw [if_neg hc] at k
        obtain ⟨n, h1, h2⟩ := k
        exact ⟨n, atomV.mono h h1, atomV.mono h h2⟩
  · rename_i ha
    rw [if_neg ha] at k
    obtain ⟨a, b, u, ha, hb, hu, h1, hr⟩ := k
    exact ⟨a, b, u, atomV.mono h ha, atomV.mono h hb, atomV.mono h hu, h1, hr⟩
theorem cellV.of {σ : Sg} {v : AV} {a x : Value} (k : cellV σ v = some a) (hv : VR σ v x) : x = a := by
  cases v <;> simp only [cellV, VR, reduceCtorEq] at k hv
  case sym => rw [hv.2] at k; exact Option.some.inj k
  case str l =>
    obtain ⟨s, rfl, hs⟩ := hv
    split at k
    · cases k
      obtain ⟨⟨b⟩⟩ := s
      unfold bytesR at hs
      subst hs
      congr 2
      simp only [List.map_map]
      apply congrArg
      refine (List.map_id'' (fun x => ?_) _).symm
      simp
    · cases k
theorem cellV.to {σ : Sg} {v : AV} {a : Value} (k : cellV σ v = some a) (h : a.oneCell' = true) : VR σ v a := by
  cases v <;> simp only [cellV, VR, reduceCtorEq] at k ⊢
  case sym => exact ⟨h, k⟩
  case str l =>
    split at k
    · rename_i hl
      cases k
      refine ⟨_, rfl, ?_⟩
      unfold bytesR
      simp only [List.map_map]
      conv => rhs; rw [← List.map_id l]
      refine List.map_congr_left fun n hn => ?_
      have := Nat.le_of_ble_eq_true (List.all_eq_true.1 hl n hn)
      simp only [Function.comp_apply, id_eq]
      simp; omega
    · cases k
theorem cellVs.of {σ : Sg} : ∀ {l : List AV} {m m' : List Value}, cellVs σ l = some m → VRs σ l m' → m' = m
  | [], m, m', k, h => by simp only [VRs] at h; subst h; cases k; rfl
  | v :: l, m, m', k, h => by
    simp only [VRs] at h
    obtain ⟨b, m2, rfl, h1, h2⟩ := h
    simp only [cellVs] at k
    split at k
    · rename_i u us e1 e2
      cases k
      rw [cellV.of e1 h1, cellVs.of e2 h2]
    · cases k
theorem cellVs.to {σ : Sg} : ∀ {l : List AV} {m : List Value}, cellVs σ l = some m → (∀ u ∈ m, u.oneCell' = true) → VRs σ l m
  | [], m, k, _ => by cases k; exact VRs.nil
  | v :: l, m, k, h => by
    simp only [cellVs] at k
    split at k
    · rename_i u us e1 e2
      cases k
      exact VRs.cons (cellV.to e1 (h u (by simp))) (cellVs.to e2 fun x hx => h x (by simp [hx]))
    · cases k
def BR (σ : Sg) (d n : Nat) : ABlk → Option Obj → Prop
  | .dead, _ => True
  | .cells cs e f, o => ∃ cc lo hi, o = some (.cells cc e (lo, hi)) ∧ cc.size = n ∧ FlR f d n lo hi ∧ ∀ i v, cs[i]? = some v → ∃ u, cc[i + d]? = some u ∧ VR σ v u
  | .amap es c, o => ∃ es', o = some (.map es' c) ∧ ER σ es es'.toList
  | .siter s p, o => d = 0 ∧ ∃ b, o = some (.stringIter b p) ∧ bytesR s b
  | .miter m since seen st, o => d = 0 ∧ ∃ m', o = some (.mapIter m' since seen.toArray st) ∧ (match m with | none => m' = none | some r => ∃ c d n, σ.at_ r = some (c, d, n) ∧ m' = some c)
  | .loop l, o => ∃ L, o = some (.loop L) ∧ LR σ l L
  | .defd, o => o = some (.deferred (some []))
  | .syms l, _ => ∀ q ∈ l, SRok σ q
theorem BR.mono {σ τ : Sg} (h : Le σ τ) {d n : Nat} {x : ABlk} {o : Option Obj} (k : BR σ d n x o) : BR τ d n x o := by
  cases x with
  | dead => trivial
  | cells cs e f =>
    obtain ⟨cc, lo, hi, ho, hn, hf, hv⟩ := k
    exact ⟨cc, lo, hi, ho, hn, hf, fun i v hi => let ⟨u, hu, hr⟩ := hv i v hi; ⟨u, hu, VR.mono h _ _ hr⟩⟩
  | amap es c =>
    obtain ⟨es', ho, he⟩ := k
    exact ⟨es', ho, ER.mono h _ _ he⟩
  | siter s p => exact k
  | miter m a b c =>
    obtain ⟨hd, m', ho, hm⟩ := k
    refine ⟨hd, m', ho, ?_⟩
    cases m with
    | none => exact hm
    | some r =>
      obtain ⟨c, d, n, hc, hm⟩ := hm
      exact ⟨c, d, n, h.at_ _ _ hc, hm⟩
  | loop l =>
    obtain ⟨L, ho, hl⟩ := k
    exact ⟨L, ho, ⟨hl.state, hl.pending, hl.tmps.mono h, hl.params, hl.assign, hl.body⟩⟩
  | defd => exact k
  | syms l => exact fun q hq => (k q hq).mono h.sym
def ABlk.live : ABlk → Bool
  | .dead | .syms _ => false
  | _ => true
def ABlk.writable : ABlk → Bool
  | .dead | .syms _ | .cells _ _ .ro => false
  | _ => true
def powL : List Value := [.int .u64 1, .int .u64 10, .int .u64 100, .int .u64 1000, .int .u64 10000, .int .u64 100000, .int .u64 1000000, .int .u64 10000000, .int .u64 100000000, .int .u64 1000000000, .int .u64 10000000000, .int .u64 100000000000, .int .u64 1000000000000, .int .u64 10000000000000, .int .u64 100000000000000, .int .u64 1000000000000000, .int .u64 10000000000000000, .int .u64 100000000000000000, .int .u64 1000000000000000000, .int .u64 10000000000000000000]
structure Base where
  w : World
  len : ∃ m, w.cell? ⟨0, 0, none⟩ = some (.int .i64 m)
  pow : ∃ r, w.heap[2]? = some (.cells powL.toArray 753 r)
  sym : Nat → Option Value
structure HR0 (B : Base) (σ : Sg) (h : AH) (w : World) : Prop where
  blk : ∀ b x c d n, h.t.get b = some x → σ.at_ b = some (c, d, n) → BR σ d n x w.heap[c]?
  inj : ∀ b b' x x' c d n d' n', h.t.get b = some x → x.live = true → h.t.get b' = some x' → x'.live = true → σ.at_ b = some (c, d, n) → σ.at_ b' = some (c, d', n') → b = b'
  glob : ∀ g, g < numG → ∃ n, σ.at_ g = some (g, 0, n)
  syms : (∃ x, σ.at_ symB = some x) ∧ σ.sym = B.sym
structure HR (B : Base) (σ : Sg) (h : AH) (w : World) : Prop extends HR0 B σ h w where
  fresh : ∀ b, h.next ≤ b → σ.at_ b = none
  below : ∀ b x, h.t.get b = some x → b < h.next
  size : ∀ b c d n, σ.at_ b = some (c, d, n) → c < w.heap.size
  own : ∀ b x c d n, h.t.get b = some x → x.writable = true → σ.at_ b = some (c, d, n) → B.w.heap.size ≤ c
  lo : h.lo ≤ h.next
  keep : ∀ c, c < B.w.heap.size → w.heap[c]? = B.w.heap[c]?
  grow : B.w.heap.size ≤ w.heap.size
  os : w.os = B.w.os
  tape : w.tape = B.w.tape
  output : w.output = B.w.output
instance {B : Base} {σ : Sg} {h : AH} {w : World} : Coe (HR B σ h w) (HR0 B σ h w) := ⟨HR.toHR0⟩
def ADR (σ : Sg) : AD → Deferred → Prop
  | .mark r, d => ∃ c x n, σ.at_ r = some (c, x, n) ∧ d = { target := .collected c, args := #[] }
  | .call f l, d => ∃ cap args, d = { target := .fn (.func f) cap, args } ∧ VRs σ l (args ++ cap).toList
def ADRs (σ : Sg) : List AD → List Deferred → Prop
  | [], m => m = []
  | a :: l, m => ∃ b m', m = b :: m' ∧ ADR σ a b ∧ ADRs σ l m'
theorem ADR.mono {σ τ : Sg} (h : Le σ τ) {a : AD} {d : Deferred} (k : ADR σ a d) : ADR τ a d := by
  cases a with
  | mark r =>
    obtain ⟨c, x, n, hc, hd⟩ := k
    exact ⟨c, x, n, h.at_ _ _ hc, hd⟩
  | call f l =>
    obtain ⟨cap, args, hd, hl⟩ := k
    exact ⟨cap, args, hd, VRs.mono h _ _ hl⟩
theorem ADRs.mono {σ τ : Sg} (h : Le σ τ) : ∀ {l : List AD} {m : List Deferred}, ADRs σ l m → ADRs τ l m
  | [], _, k => k
  | a :: l, _, k => by
    obtain ⟨b, m', hm, ha, hl⟩ := k
    exact ⟨b, m', hm, ha.mono h, ADRs.mono h hl⟩
theorem Grows.le {n : Nat} {σ τ : Sg} (h : Grows n σ τ) (fresh : ∀ b, n ≤ b → σ.at_ b = none) : Le σ τ := by
  refine ⟨fun b x hb => ?_, h.sym⟩
  rcases Nat.lt_or_ge b n with hlt | hge
  · rw [h.at_ b hlt]; exact hb
  · rw [fresh b hge] at hb; cases hb
theorem Grows.refl (n : Nat) (σ : Sg) : Grows n σ σ := ⟨fun _ _ => rfl, fun _ _ h => h⟩
theorem Grows.trans {n m : Nat} {σ τ ρ : Sg} (h : Grows n σ τ) (k : Grows m τ ρ) (hm : n ≤ m) : Grows n σ ρ :=
  ⟨fun b hb => (k.at_ b (Nat.lt_of_lt_of_le hb hm)).trans (h.at_ b hb), fun i x hi => k.sym i x (h.sym i x hi)⟩
structure SetAt (h : AH) (b : Nat) (x : ABlk) (t' : BT ABlk) : Prop where
  set : h.t.set b x = some t'
  lo : h.lo ≤ b
structure Stays (h h' : AH) : Prop where
  next : h.next ≤ h'.next
  lo : h'.lo = h.lo
  old : ∀ b, b < h.lo → h'.t.get b = h.t.get b
structure Keeps (h h' : AH) : Prop extends Stays h h' where
  ds : h'.ds = h.ds
theorem Stays.refl (h : AH) : Stays h h := ⟨Nat.le_refl _, rfl, fun _ _ => rfl⟩
theorem Stays.trans {h h' h'' : AH} (a : Stays h h') (b : Stays h' h'') : Stays h h'' :=
  ⟨Nat.le_trans a.next b.next, b.lo.trans a.lo, fun i hi => (b.old i (by rw [a.lo]; exact hi)).trans (a.old i hi)⟩
theorem Stays.ds (h : AH) (ds : List AD) : Stays h ⟨h.t, h.next, ds, h.lo⟩ := ⟨Nat.le_refl _, rfl, fun _ _ => rfl⟩
theorem Stays.set {h : AH} {b : Nat} {x : ABlk} {t' : BT ABlk} (hs : SetAt h b x t') (ds : List AD) : Stays h ⟨t', h.next, ds, h.lo⟩ :=
  ⟨Nat.le_refl _, rfl, fun i hi => by
    have := hs.lo
    rw [BT.get_set h.t b i x t' hs.set, if_neg (by omega)]⟩
theorem Stays.push {h : AH} {x : ABlk} {t' : BT ABlk} (hl : h.lo ≤ h.next) (ht : h.t.set h.next x = some t') (ds : List AD) : Stays h ⟨t', h.next + 1, ds, h.lo⟩ :=
  ⟨Nat.le_succ _, rfl, fun i hi => by rw [BT.get_set h.t h.next i x t' ht, if_neg (by omega)]⟩
theorem Keeps.refl (h : AH) : Keeps h h := ⟨.refl h, rfl⟩
theorem Keeps.trans {h h' h'' : AH} (a : Keeps h h') (b : Keeps h' h'') : Keeps h h'' := ⟨a.toStays.trans b.toStays, b.ds.trans a.ds⟩
theorem Keeps.set {h : AH} {b : Nat} {x : ABlk} {t' : BT ABlk} (hs : SetAt h b x t') : Keeps h ⟨t', h.next, h.ds, h.lo⟩ := ⟨.set hs _, rfl⟩
theorem Keeps.push {B : Base} {σ : Sg} {h : AH} {w : World} {x : ABlk} {t' : BT ABlk} (hr : HR B σ h w) (ht : h.t.set h.next x = some t') : Keeps h ⟨t', h.next + 1, h.ds, h.lo⟩ := ⟨.push hr.lo ht _, rfl⟩
def Out.ok : Out → Prop
  | .bad _ => False
  | _ => True
end
end Go.Ev
namespace Go.Ev
noncomputable section
open Go
theorem Out.not_bad {n : Nat} (h : (Out.bad n).ok) : False := h
theorem nthK_inv {α : Type} {l : List α} {i : Nat} {k : α → Out} {r : Out} (h : nthK l i k = r) (ok : r.ok) : ∃ a, l[i]? = some a ∧ k a = r := by
  rw [nthK_eq] at h
  cases hl : l[i]? with
  | none => rw [hl] at h; subst h; exact ok.elim
  | some a => rw [hl] at h; exact ⟨a, rfl, h⟩
theorem setK_inv {α : Type} {l : List α} {i : Nat} {v : α} {k : List α → Out} {r : Out} (h : setK l i v k = r) (ok : r.ok) : i < l.length ∧ k (l.set i v) = r := by
  rw [setK_eq] at h
  split at h
  · exact ⟨by assumption, h⟩
  · subst h; exact ok.elim
theorem takeK_inv {α : Type} {l : List α} {n : Nat} {k : List α → Out} {r : Out} (h : takeK n l k = r) (ok : r.ok) : n ≤ l.length ∧ k (l.take n) = r := by
  rw [takeK_eq] at h
  split at h
  · exact ⟨by assumption, h⟩
  · subst h; exact ok.elim
theorem sliceK_inv {α : Type} {l : List α} {o n : Nat} {k : List α → Out} {r : Out} (h : sliceK l o n k = r) (ok : r.ok) : o + n ≤ l.length ∧ k ((l.drop o).take n) = r := by
  rw [sliceK_eq] at h
  split at h
  · exact ⟨by assumption, h⟩
  · split at h <;> (subst h; exact ok.elim)
theorem getK_inv {α : Type} {t : BT α} {i : Nat} {k : α → Out} {r : Out} (h : t.getK i k = r) (ok : r.ok) : ∃ a, t.get i = some a ∧ k a = r := by
  rw [BT.getK_eq] at h
  cases hl : t.get i with
  | none => rw [hl] at h; subst h; exact ok.elim
  | some a => rw [hl] at h; exact ⟨a, rfl, h⟩
theorem btSetK_inv {α : Type} {t : BT α} {i : Nat} {v : α} {k : BT α → Out} {r : Out} (h : t.setK i v k = r) (ok : r.ok) : ∃ t', t.set i v = some t' ∧ k t' = r := by
  rw [BT.setK_eq] at h
  cases hl : t.set i v with
  | none => rw [hl] at h; subst h; exact ok.elim
  | some a => rw [hl] at h; exact ⟨a, rfl, h⟩
theorem replK_inv {r : Out} (ok : r.ok) : ∀ {ys l : List AV} {k : List AV → Out}, replK ys l k = r → ys.length ≤ l.length ∧ k (ys ++ l.drop ys.length) = r
  | [], l, k, h => by
    rw [show replK [] l k = k l from rfl] at h
    exact ⟨by simp, by simpa using h⟩
  | y :: ys, [], k, h => by
    rw [show replK (y :: ys) [] k = .bad 32 from rfl] at h
    subst h; exact ok.elim
  | y :: ys, a :: l, k, h => by
    rw [show replK (y :: ys) (a :: l) k = replK ys l (fun l'' => k (y :: l'')) from rfl] at h
    obtain ⟨h1, h2⟩ := replK_inv ok h
    exact ⟨by simpa using h1, by simpa using h2⟩
theorem overK_inv {r : Out} (ok : r.ok) : ∀ {o : Nat} {l ys : List AV} {k : List AV → Out}, overK o l ys k = r → o + ys.length ≤ l.length ∧ k (l.take o ++ ys ++ l.drop (o + ys.length)) = r
  | 0, l, ys, k, h => by
    rw [show overK 0 l ys k = replK ys l k from rfl] at h
    obtain ⟨h1, h2⟩ := replK_inv ok h
    exact ⟨by simpa using h1, by simpa using h2⟩
  | o + 1, [], ys, k, h => by
    rw [show overK (o + 1) [] ys k = .bad 33 from rfl] at h
    subst h; exact ok.elim
  | o + 1, a :: l, ys, k, h => by
    rw [show overK (o + 1) (a :: l) ys k = overK o l ys (fun l'' => k (a :: l'')) from rfl] at h
    obtain ⟨h1, h2⟩ := overK_inv ok h
    refine ⟨by simp; omega, ?_⟩
    rw [show o + 1 + ys.length = (o + ys.length) + 1 from by omega]
    simpa using h2
theorem growK_inv {o : Nat} {l ys : List AV} {k : List AV → Out} {r : Out} (h : growK o l ys k = r) (ok : r.ok) : o ≤ l.length ∧ k (l.take o ++ (ys ++ l.drop (o + ys.length))) = r := by
  unfold growK at h
  obtain ⟨h1, h2⟩ := takeK_inv h ok
  rw [appK_eq, appK_eq] at h2
  exact ⟨h1, h2⟩
theorem guardB_inv {b : Bool} {n : Nat} {x r : Out} (h : guardB b n x = r) (ok : r.ok) : b = true ∧ x = r := by
  cases b with
  | true => exact ⟨rfl, h⟩
  | false => rw [show guardB false n x = .bad n from rfl] at h; subst h; exact ok.elim
theorem kix_inj {a b : IntKind} (h : Nat.beq (kix a) (kix b) = true) : a = b := by
  cases a <;> cases b <;> first | rfl | (exact absurd h (by decide))
theorem eqK_inv {a b : IntKind} {x r : Out} (h : eqK a b x = r) (ok : r.ok) : a = b ∧ x = r := by
  unfold eqK at h
  cases hb : Nat.beq (kix a) (kix b) with
  | true => rw [hb] at h; exact ⟨kix_inj hb, h⟩
  | false => rw [hb] at h; subst h; exact ok.elim
theorem notRo_inv {f : Fl} {x r : Out} (h : notRo f x = r) (ok : r.ok) : f ≠ .ro ∧ x = r := by
  cases f with
  | plain => exact ⟨by simp, h⟩
  | stringish => exact ⟨by simp, h⟩
  | ro => rw [show notRo .ro x = .bad 34 from rfl] at h; subst h; exact ok.elim
theorem hget_inv {h : AH} {b : Nat} {k : ABlk → Out} {r : Out} (e : hget h b k = r) (ok : r.ok) : ∃ x, h.t.get b = some x ∧ k x = r := getK_inv e ok
theorem hset_inv {h : AH} {b : Nat} {x : ABlk} {k : AH → Out} {r : Out} (e : hset h b x k = r) (ok : r.ok) : ∃ t', SetAt h b x t' ∧ k ⟨t', h.next, h.ds, h.lo⟩ = r := by
  have e : (Bool.casesOn (Nat.ble h.lo b) (.bad 29) (h.t.setK b x fun t' => k ⟨t', h.next, h.ds, h.lo⟩) : Out) = r := e
  cases hb : Nat.ble h.lo b with
  | false => rw [hb] at e; subst e; exact ok.elim
  | true =>
    rw [hb] at e
    obtain ⟨t', ht, e1⟩ := btSetK_inv (show h.t.setK b x (fun t' => k ⟨t', h.next, h.ds, h.lo⟩) = r from e) ok
    exact ⟨t', ⟨ht, Nat.le_of_ble_eq_true hb⟩, e1⟩
theorem hnew_inv {h : AH} {x : ABlk} {k : Nat → AH → Out} {r : Out} (e : hnew h x k = r) (ok : r.ok) : ∃ t', h.t.set h.next x = some t' ∧ k h.next ⟨t', h.next + 1, h.ds, h.lo⟩ = r := by
  obtain ⟨t', ht, e1⟩ := btSetK_inv (show h.t.setK h.next x (fun t' => forceN (Nat.succ h.next) fun m => k h.next ⟨t', m, h.ds, h.lo⟩) = r from e) ok
  rw [forceN_eq] at e1
  exact ⟨t', ht, e1⟩
theorem asCells_inv {x : ABlk} {k : List AV → Nat → Fl → Out} {r : Out} (h : asCells x k = r) (ok : r.ok) : ∃ cs e f, x = .cells cs e f ∧ k cs e f = r := by
  cases x with
  | cells cs e f => exact ⟨cs, e, f, rfl, h⟩
  | _ => subst h; exact ok.elim
theorem asMap_inv {x : ABlk} {k : List AE → Nat → Out} {r : Out} (h : asMap x k = r) (ok : r.ok) : ∃ es c, x = .amap es c ∧ k es c = r := by
  cases x with
  | amap es c => exact ⟨es, c, rfl, h⟩
  | _ => subst h; exact ok.elim
theorem asI_inv {v : AV} {k : IntKind → Int → Out} {r : Out} (h : asI v k = r) (ok : r.ok) : ∃ kd n, v = .int kd n ∧ k kd n = r := by
  cases v with
  | int kd n => exact ⟨kd, n, rfl, h⟩
  | _ => subst h; exact ok.elim
theorem asB_inv {v : AV} {k : Bool → Out} {r : Out} (h : asB v k = r) (ok : r.ok) : ∃ b, v = .bool b ∧ k b = r := by
  cases v with
  | bool b => exact ⟨b, rfl, h⟩
  | _ => subst h; exact ok.elim
theorem asS_inv {v : AV} {k : List Nat → Out} {r : Out} (h : asS v k = r) (ok : r.ok) : ∃ l, v = .str l ∧ k l = r := by
  cases v with
  | str l => exact ⟨l, rfl, h⟩
  | _ => subst h; exact ok.elim
theorem asP_inv {v : AV} {k : Nat → Nat → Out} {r : Out} (h : asP v k = r) (ok : r.ok) : ∃ b o, v = .ptr b o ∧ k b o = r := by
  cases v with
  | ptr b o => exact ⟨b, o, rfl, h⟩
  | _ => subst h; exact ok.elim
theorem asAgg_inv {v : AV} {k : List AV → Out} {r : Out} (h : asAgg v k = r) (ok : r.ok) : ∃ l, v = .agg l ∧ k l = r := by
  cases v with
  | agg l => exact ⟨l, rfl, h⟩
  | _ => subst h; exact ok.elim
theorem asN_inv {v : AV} {k : Nat → Out} {r : Out} (h : asN v k = r) (ok : r.ok) : ∃ kd n, v = .int kd (.ofNat n) ∧ k n = r := by
  obtain ⟨kd, a, rfl, h⟩ := asI_inv h ok
  cases a with
  | ofNat n => exact ⟨kd, n, rfl, h⟩
  | negSucc n => subst h; exact ok.elim
theorem asLoop_inv {x : ABlk} {k : ALoop → Out} {r : Out} (h : asLoop x k = r) (ok : r.ok) : ∃ l, x = .loop l ∧ k l = r := by
  cases x with
  | loop l => exact ⟨l, rfl, h⟩
  | _ => subst h; exact ok.elim
theorem boolCases_inv {b : Bool} {x y r : Out} (h : (Bool.casesOn b x y : Out) = r) : (b = true ∧ y = r) ∨ (b = false ∧ x = r) := by
  cases b
  · exact .inr ⟨rfl, h⟩
  · exact .inl ⟨rfl, h⟩
instance : DecidableEq I8 := fun a b => by cases a <;> cases b <;> first | exact isTrue rfl | exact isFalse (by simp)
def Tr.put : Tr → I8 → Tr → Tr
  | .leaf v, _, _ => .leaf v
  | .node _ b c d e f g h, .a, x => .node x b c d e f g h
  | .node a _ c d e f g h, .b, x => .node a x c d e f g h
  | .node a b _ d e f g h, .c, x => .node a b x d e f g h
  | .node a b c _ e f g h, .d, x => .node a b c x e f g h
  | .node a b c d _ f g h, .e, x => .node a b c d x f g h
  | .node a b c d e _ g h, .f, x => .node a b c d e x g h
  | .node a b c d e f _ h, .g, x => .node a b c d e f x h
  | .node a b c d e f g _, .h, x => .node a b c d e f g x
theorem selB_inv {i : I8} {t : Tr} {k : Tr → Out} {r : Out} (h : (selB i).f t k = r) (ok : r.ok) : ∃ x, t.sub i = some x ∧ k x = r := by
  cases t with
  | leaf v => cases i <;> (subst h; exact ok.elim)
  | node a b c d e f g h' => cases i <;> exact ⟨_, rfl, h⟩
theorem putB_inv {i : I8} {t : Tr} {k : Tr → (Tr → (Tr → Out) → Out) → Out} {r : Out} (h : (putB i).f t k = r) (ok : r.ok) : ∃ x, t.sub i = some x ∧ k x (fun y q => q (t.put i y)) = r := by
  cases t with
  | leaf v => cases i <;> (subst h; exact ok.elim)
  | node a b c d e f g h' => cases i <;> exact ⟨_, rfl, h⟩
theorem Tr.sub_put {t x y : Tr} {i j : I8} (h : t.sub i = some x) : (t.put i y).sub j = if i = j then some y else t.sub j := by
  cases t with
  | leaf v => simp [Tr.sub] at h
  | node a b c d e f g h' => cases i <;> cases j <;> rfl
def I8.num : I8 → Nat
  | .a => 0 | .b => 1 | .c => 2 | .d => 3 | .e => 4 | .f => 5 | .g => 6 | .h => 7
theorem num_i8 : ∀ n, n < 8 → (i8 n).num = n
  | 0, _ => rfl | 1, _ => rfl | 2, _ => rfl | 3, _ => rfl | 4, _ => rfl | 5, _ => rfl | 6, _ => rfl | 7, _ => rfl
  | n + 8, h => by omega
theorem i8_inj {m n : Nat} (hm : m < 8) (hn : n < 8) (h : i8 m = i8 n) : m = n := by
  have := congrArg I8.num h
  rwa [num_i8 m hm, num_i8 n hn] at this
theorem cget_inv {nt t : Nat} {tr : Tr} {k : AV → Out} {r : Out} (h : (cget nt t).f tr k = r) (ok : r.ok) : ∃ v, tget nt tr t = some v ∧ k v = r := by
  unfold cget at h
  by_cases h0 : nt ≤ t
  · rw [if_pos h0] at h; subst h; exact ok.elim
  rw [if_neg h0] at h
  by_cases h1 : nt ≤ 64
  · rw [if_pos h1] at h
    obtain ⟨x, hx, h⟩ := selB_inv (i := i8 (t / 8)) h ok
    obtain ⟨y, hy, h⟩ := selB_inv (i := i8 (t % 8)) h ok
    cases y with
    | leaf v =>
      refine ⟨v, ?_, h⟩
      rw [tget, if_pos ⟨by omega, by omega⟩, path, if_pos h1]
      simp only [Tr.get, hx, hy]
    | node a b c d e f g h' => subst h; exact ok.elim
  rw [if_neg h1] at h
  by_cases h2 : nt ≤ 512
  · rw [if_pos h2] at h
    obtain ⟨w, hw, h⟩ := selB_inv (i := i8 (t / 64)) h ok
    obtain ⟨x, hx, h⟩ := selB_inv (i := i8 (t / 8 % 8)) h ok
    obtain ⟨y, hy, h⟩ := selB_inv (i := i8 (t % 8)) h ok
    cases y with
    | leaf v =>
      refine ⟨v, ?_, h⟩
      rw [tget, if_pos ⟨by omega, by omega⟩, path, if_neg h1]
      simp only [Tr.get, hw, hx, hy]
    | node a b c d e f g h' => subst h; exact ok.elim
  · rw [if_neg h2] at h; subst h; exact ok.elim
theorem cput_inv {nt t : Nat} {tr : Tr} {v : AV} {k : Tr → Out} {r : Out} (h : (cput nt t).f tr v k = r) (ok : r.ok) :
    t < nt ∧ ∃ tr', k tr' = r ∧ ∀ u, u < nt → tget nt tr' u = if t = u then some v else tget nt tr u := by
  unfold cput at h
  by_cases h0 : nt ≤ t
  · rw [if_pos h0] at h; subst h; exact ok.elim
  rw [if_neg h0] at h
  refine ⟨by omega, ?_⟩
  by_cases h1 : nt ≤ 64
  · rw [if_pos h1] at h
    obtain ⟨x, hx, h⟩ := putB_inv (i := i8 (t / 8)) h ok
    obtain ⟨y, hy, h⟩ := putB_inv (i := i8 (t % 8)) h ok
    refine ⟨_, h, fun u hu => ?_⟩
    simp only [tget, path, if_pos h1, if_pos (show u < nt ∧ nt ≤ 512 from ⟨hu, by omega⟩)]
    simp only [Tr.get, Tr.sub_put hx]
    by_cases e1 : i8 (t / 8) = i8 (u / 8)
    · rw [← e1]
      simp only [if_true, Tr.sub_put hy, hx]
      by_cases e2 : i8 (t % 8) = i8 (u % 8)
      · have q1 := i8_inj (by omega) (by omega) e1
        have q2 := i8_inj (by omega) (by omega) e2
        have : t = u := by omega
        simp [e2, this, Tr.get]
      · have : t ≠ u := by rintro rfl; exact e2 rfl
        simp [e2, this]
    · have : t ≠ u := by rintro rfl; exact e1 rfl
      simp [e1, this]
  rw [if_neg h1] at h
  by_cases h2 : nt ≤ 512
  · rw [if_pos h2] at h
    obtain ⟨w, hw, h⟩ := putB_inv (i := i8 (t / 64)) h ok
    obtain ⟨x, hx, h⟩ := putB_inv (i := i8 (t / 8 % 8)) h ok
    obtain ⟨y, hy, h⟩ := putB_inv (i := i8 (t % 8)) h ok
    refine ⟨_, h, fun u hu => ?_⟩
    simp only [tget, path, if_neg h1, if_pos (show u < nt ∧ nt ≤ 512 from ⟨hu, h2⟩)]
    simp only [Tr.get, Tr.sub_put hw]
    by_cases e0 : i8 (t / 64) = i8 (u / 64)
    · rw [← e0]
      simp only [if_true, Tr.sub_put hx, hw]
      by_cases e1 : i8 (t / 8 % 8) = i8 (u / 8 % 8)
      · rw [← e1]
        simp only [if_true, Tr.sub_put hy, hx]
        by_cases e2 : i8 (t % 8) = i8 (u % 8)
        · have q0 := i8_inj (by omega) (by omega) e0
          have q1 := i8_inj (by omega) (by omega) e1
          have q2 := i8_inj (by omega) (by omega) e2
          have : t = u := by omega
          simp [e2, this, Tr.get]
        · have : t ≠ u := by rintro rfl; exact e2 rfl
          simp [e2, this]
      · have : t ≠ u := by rintro rfl; exact e1 rfl
        simp [e1, this]
    · have : t ≠ u := by rintro rfl; exact e0 rfl
      simp [e0, this]
  · rw [if_neg h2] at h; subst h; exact ok.elim
theorem TR.put {σ : Sg} {nt t : Nat} {tr tr' : Tr} {tmps : Array Value} {v : AV} {u : Value} (h : TR σ nt tr tmps) (ht : t < nt)
    (hp : ∀ u, u < nt → tget nt tr' u = if t = u then some v else tget nt tr u) (hv : VR σ v u) : TR σ nt tr' (tmps.setIfInBounds t u) := by
  refine ⟨by simpa using h.size, fun q x hx => ?_⟩
  have hq : q < nt := by
    unfold tget at hx
    split at hx
    · rename_i hh; exact hh.1
    · cases hx
  rw [hp q hq] at hx
  by_cases e : t = q
  · subst e
    simp only [if_true, Option.some.injEq] at hx
    subst hx
    have : t < tmps.size := by rw [h.size]; exact ht
    simpa [Array.getD, this] using hv
  · simp only [e, if_false] at hx
    have := h.val q x hx
    rw [Array.getD_eq_getD_getElem?, Array.getElem?_setIfInBounds_ne e, ← Array.getD_eq_getD_getElem?]
    exact this
end
end Go.Ev
namespace Go.Ev
noncomputable section
open Go
theorem HR.hole {B : Base} {σ : Sg} {h : AH} {w : World} (hr : HR B σ h w) {x : ABlk} {t' : BT ABlk} (ht : h.t.set h.next x = some t') (ds : List AD) : HR B σ ⟨t', h.next + 1, ds, h.lo⟩ w := by
  have hget := BT.get_set h.t h.next
  have hn := hr.fresh h.next (Nat.le_refl _)
  have old : ∀ b y, t'.get b = some y → σ.at_ b ≠ none → h.t.get b = some y := by
    intro b y hy hs
    rw [hget _ _ _ ht] at hy
    by_cases e : h.next = b
    · subst e; exact absurd hn hs
    · rw [if_neg e] at hy; exact hy
  refine ⟨⟨?_, ?_, hr.glob, hr.syms⟩, ?_, ?_, hr.size, ?_, Nat.le_succ_of_le hr.lo, hr.keep, hr.grow, hr.os, hr.tape, hr.output⟩
  · intro b y c d n hy hs
    exact hr.blk b y c d n (old b y hy (by rw [hs]; simp)) hs
  · intro b1 b2 y1 y2 c d1 n1 d2 n2 h1 l1 h2 l2 s1 s2
    exact hr.inj b1 b2 y1 y2 c d1 n1 d2 n2 (old _ _ h1 (by rw [s1]; simp)) l1 (old _ _ h2 (by rw [s2]; simp)) l2 s1 s2
  · intro b hb
    exact hr.fresh b (Nat.le_of_succ_le hb)
  · intro b y hy
    rw [hget _ _ _ ht] at hy
    show b < h.next + 1
    by_cases e : h.next = b
    · omega
    · rw [if_neg e] at hy
      have := hr.below _ _ hy
      omega
  · intro b y c d n hy hw hs
    exact hr.own b y c d n (old b y hy (by rw [hs]; simp)) hw hs
def World.put (w : World) (c : Nat) (o : Obj) : World := { w with heap := w.heap.setIfInBounds c o }
variable {B : Base} {σ : Sg} {h : AH} {w : World}
theorem HR.le_grows (hr : HR B σ h w) {τ : Sg} (g : Grows h.next σ τ) : Le σ τ := g.le hr.fresh
theorem HR.draw (hr : HR B σ h w) (n : Nat) : HR B σ h { w with drawn := n } :=
  ⟨⟨hr.blk, hr.inj, hr.glob, hr.syms⟩, hr.fresh, hr.below, hr.size, hr.own, hr.lo, hr.keep, hr.grow, hr.os, hr.tape, hr.output⟩
theorem HR.withDs (hr : HR B σ h w) (ds : List AD) : HR B σ ⟨h.t, h.next, ds, h.lo⟩ w :=
  ⟨⟨hr.blk, hr.inj, hr.glob, hr.syms⟩, hr.fresh, hr.below, hr.size, hr.own, hr.lo, hr.keep, hr.grow, hr.os, hr.tape, hr.output⟩
theorem HR0.cells (hr : HR0 B σ h w) {b c d n e : Nat} {cs : List AV} {f : Fl} (hb : h.t.get b = some (.cells cs e f)) (hs : σ.at_ b = some (c, d, n)) :
    ∃ cc lo hi, w.heap[c]? = some (.cells cc e (lo, hi)) ∧ cc.size = n ∧ FlR f d n lo hi ∧ ∀ i v, cs[i]? = some v → ∃ u, cc[i + d]? = some u ∧ VR σ v u :=
  hr.blk b _ c d n hb hs
theorem HR0.cell (hr : HR0 B σ h w) {b c d n e i : Nat} {cs : List AV} {f : Fl} {v : AV} (hb : h.t.get b = some (.cells cs e f)) (hs : σ.at_ b = some (c, d, n))
    (hi : cs[i]? = some v) : ∃ u, w.cell? ⟨c, i + d, none⟩ = some u ∧ VR σ v u := by
  obtain ⟨cc, lo, hi', hc, _, _, hv⟩ := hr.cells hb hs
  obtain ⟨u, hu, hr⟩ := hv i v hi
  exact ⟨u, by simp [World.cell?, hc, hu], hr⟩
theorem HR.put (hr : HR B σ h w) {b c d n : Nat} {x x' : ABlk} {o : Obj} {t' : BT ABlk} (hb : h.t.get b = some x) (hl : x.live = true) (hw : x.writable = true)
    (hs : σ.at_ b = some (c, d, n)) (ht : SetAt h b x' t') (ho : BR σ d n x' (some o)) (ds : List AD) :
    HR B σ ⟨t', h.next, ds, h.lo⟩ (World.put w c o) := by
  have hget := BT.get_set h.t b
  have hc := hr.size _ _ _ _ hs
  have hown := hr.own _ _ _ _ _ hb hw hs
  refine ⟨⟨?_, ?_, hr.glob, hr.syms⟩, hr.fresh, ?_, ?_, ?_, hr.lo, ?_, ?_, hr.os, hr.tape, hr.output⟩
  · intro b' y c' d' n' hy hs'
    rw [hget _ _ _ ht.set] at hy
    by_cases e : b = b'
    · subst e
      rw [if_pos rfl] at hy
      cases hy
      rw [hs] at hs'
      cases hs'
      have : (World.put w c o).heap[c]? = some o := by simp [World.put, hc]
      rw [this]; exact ho
    · rw [if_neg e] at hy
      have hbr := hr.blk b' y c' d' n' hy hs'
      cases hly : y.live with
      | false => cases y <;> first | trivial | exact hbr | simp [ABlk.live] at hly
      | true =>
        have hne : c ≠ c' := by
          rintro rfl
          exact e (hr.inj b b' x y c d n d' n' hb hl hy hly hs hs')
        have : (World.put w c o).heap[c']? = w.heap[c']? := by simp [World.put, hne]
        rw [this]; exact hbr
  · intro b1 b2 y1 y2 c' d1 n1 d2 n2 h1 l1 h2 l2 s1 s2
    rw [hget _ _ _ ht.set] at h1 h2
    by_cases e1 : b = b1
    · subst e1
      by_cases e2 : b = b2
      · exact e2
      · rw [if_neg e2] at h2
        exact hr.inj b b2 x y2 c' d1 n1 d2 n2 hb hl h2 l2 s1 s2
    · rw [if_neg e1] at h1
      by_cases e2 : b = b2
      · subst e2
        exact hr.inj b1 b y1 x c' d1 n1 d2 n2 h1 l1 hb hl s1 s2
      · rw [if_neg e2] at h2
        exact hr.inj b1 b2 y1 y2 c' d1 n1 d2 n2 h1 l1 h2 l2 s1 s2
  · intro b' y hy
    rw [hget _ _ _ ht.set] at hy
    by_cases e : b = b'
    · subst e; exact hr.below _ _ hb
    · rw [if_neg e] at hy; exact hr.below _ _ hy
  · intro b' c' d' n' hs'
    simpa [World.put] using hr.size _ _ _ _ hs'
  · intro b' y c' d' n' hy hw' hs'
    rw [hget _ _ _ ht.set] at hy
    by_cases e : b = b'
    · subst e; rw [hs] at hs'; cases hs'; exact hown
    · rw [if_neg e] at hy; exact hr.own _ _ _ _ _ hy hw' hs'
  · intro c' hc'
    have hne : c ≠ c' := by omega
    simp only [World.put, Array.getElem?_setIfInBounds_ne hne]
    exact hr.keep c' hc'
  · simpa [World.put] using hr.grow
def Sg.add (σ : Sg) (b c d n : Nat) : Sg := ⟨fun a => if a = b then some (c, d, n) else σ.at_ a, σ.sym⟩
theorem Sg.add_grows (σ : Sg) (b c d n : Nat) : Grows b σ (σ.add b c d n) :=
  ⟨fun a ha => by simp [Sg.add]; omega, fun _ _ h => h⟩
theorem Sg.add_self (σ : Sg) (b c d n : Nat) : (σ.add b c d n).at_ b = some (c, d, n) := by simp [Sg.add]
theorem Sg.add_ne (σ : Sg) {a b : Nat} (c d n : Nat) (h : a ≠ b) : (σ.add b c d n).at_ a = σ.at_ a := by simp [Sg.add, h]
theorem HR.add_le (hr : HR B σ h w) (c d n : Nat) : Le σ (σ.add h.next c d n) := (Sg.add_grows σ h.next c d n).le hr.fresh
theorem HR.push (hr : HR B σ h w) {x : ABlk} {o : Obj} {n : Nat} {t' : BT ABlk} (ht : h.t.set h.next x = some t')
    (ho : BR (σ.add h.next w.heap.size 0 n) 0 n x (some o)) (ds : List AD) :
    HR B (σ.add h.next w.heap.size 0 n) ⟨t', h.next + 1, ds, h.lo⟩ { w with heap := w.heap.push o } := by
  have hget := BT.get_set h.t h.next
  have hle := hr.add_le w.heap.size 0 n
  have old : ∀ a, a ≠ h.next → (σ.add h.next w.heap.size 0 n).at_ a = σ.at_ a := fun a ha => Sg.add_ne σ _ _ _ ha
  refine ⟨⟨?_, ?_, ?_, ?_⟩, ?_, ?_, ?_, ?_, Nat.le_succ_of_le hr.lo, ?_, ?_, hr.os, hr.tape, hr.output⟩
  · intro b y c d m hy hs
    rw [hget _ _ _ ht] at hy
    by_cases e : h.next = b
    · subst e
      rw [if_pos rfl] at hy; cases hy
      rw [Sg.add_self] at hs; cases hs
      simpa using ho
    · rw [if_neg e] at hy
      rw [old b (Ne.symm e)] at hs
      have hc := hr.size _ _ _ _ hs
      have : (w.heap.push o)[c]? = w.heap[c]? := by rw [Array.getElem?_push]; rw [if_neg (by omega)]
      simp only [this]
      exact (hr.blk b y c d m hy hs).mono hle
  · intro b1 b2 y1 y2 c d1 n1 d2 n2 h1 l1 h2 l2 s1 s2
    rw [hget _ _ _ ht] at h1 h2
    by_cases e1 : h.next = b1
    · by_cases e2 : h.next = b2
      · exact e1.symm.trans e2
      · subst e1
        rw [Sg.add_self] at s1; cases s1
        rw [old b2 (Ne.symm e2)] at s2
        have := hr.size _ _ _ _ s2
        omega
    · rw [old b1 (Ne.symm e1)] at s1
      by_cases e2 : h.next = b2
      · subst e2
        rw [Sg.add_self] at s2; cases s2
        have := hr.size _ _ _ _ s1
        omega
      · rw [old b2 (Ne.symm e2)] at s2
        rw [if_neg e1] at h1
        rw [if_neg e2] at h2
        exact hr.inj _ _ _ _ _ _ _ _ _ h1 l1 h2 l2 s1 s2
  · intro g hg
    obtain ⟨m, hm⟩ := hr.glob g hg
    exact ⟨m, hle.at_ _ _ hm⟩
  · obtain ⟨⟨x, hx⟩, hsy⟩ := hr.syms
    exact ⟨⟨x, hle.at_ _ _ hx⟩, hsy⟩
  · intro b hb
    have hb : h.next + 1 ≤ b := hb
    rw [old b (by omega)]
    exact hr.fresh b (by omega)
  · intro b y hy
    rw [hget _ _ _ ht] at hy
    show b < h.next + 1
    by_cases e : h.next = b
    · omega
    · rw [if_neg e] at hy
      have := hr.below _ _ hy
      omega
  · intro b c d m hs
    by_cases e : h.next = b
    · subst e; rw [Sg.add_self] at hs; cases hs; simp
    · rw [old b (Ne.symm e)] at hs
      have := hr.size _ _ _ _ hs
      simp; omega
  · intro b y c d m hy hw hs
    rw [hget _ _ _ ht] at hy
    by_cases e : h.next = b
    · subst e; rw [Sg.add_self] at hs; cases hs; exact hr.grow
    · rw [if_neg e] at hy
      rw [old b (Ne.symm e)] at hs
      exact hr.own _ _ _ _ _ hy hw hs
  · intro c hc
    have : (w.heap.push o)[c]? = w.heap[c]? := by rw [Array.getElem?_push]; rw [if_neg (by have := hr.grow; omega)]
    simp only [this]
    exact hr.keep c hc
  · simp; have := hr.grow; omega
theorem HR.kill (hr : HR B σ h w) {b : Nat} {x : ABlk} {t' : BT ABlk} (hb : h.t.get b = some x) (ht : SetAt h b .dead t') (ds : List AD) : HR B σ ⟨t', h.next, ds, h.lo⟩ w := by
  have hget := BT.get_set h.t b
  refine ⟨⟨?_, ?_, hr.glob, hr.syms⟩, hr.fresh, ?_, hr.size, ?_, hr.lo, hr.keep, hr.grow, hr.os, hr.tape, hr.output⟩
  · intro b' y c d n hy hs
    rw [hget _ _ _ ht.set] at hy
    by_cases e : b = b'
    · rw [if_pos e] at hy; cases hy; trivial
    · rw [if_neg e] at hy; exact hr.blk _ _ _ _ _ hy hs
  · intro b1 b2 y1 y2 c d1 n1 d2 n2 h1 l1 h2 l2 s1 s2
    rw [hget _ _ _ ht.set] at h1 h2
    by_cases e1 : b = b1
    · rw [if_pos e1] at h1; cases h1; simp [ABlk.live] at l1
    · by_cases e2 : b = b2
      · rw [if_pos e2] at h2; cases h2; simp [ABlk.live] at l2
      · rw [if_neg e1] at h1; rw [if_neg e2] at h2
        exact hr.inj _ _ _ _ _ _ _ _ _ h1 l1 h2 l2 s1 s2
  · intro b' y hy
    rw [hget _ _ _ ht.set] at hy
    by_cases e : b = b'
    · subst e; exact hr.below _ _ hb
    · rw [if_neg e] at hy; exact hr.below _ _ hy
  · intro b' y c d n hy hw hs
    rw [hget _ _ _ ht.set] at hy
    by_cases e : b = b'
    · rw [if_pos e] at hy; cases hy; simp [ABlk.writable] at hw
    · rw [if_neg e] at hy; exact hr.own _ _ _ _ _ hy hw hs
theorem HR.move (hr : HR B σ h w) {c j n : Nat} {x : ABlk} {o : Obj} {t' : BT ABlk} (hc : c < w.heap.size) (hn : B.w.heap.size ≤ c)
    (free : ∀ b y d m, h.t.get b = some y → y.live = true → σ.at_ b ≠ some (c, d, m)) (ht : h.t.set h.next x = some t')
    (ho : BR (σ.add h.next c j n) j n x (some o)) (ds : List AD) :
    HR B (σ.add h.next c j n) ⟨t', h.next + 1, ds, h.lo⟩ (World.put w c o) := by
  have hget := BT.get_set h.t h.next
  have hle := hr.add_le c j n
  have old : ∀ a, a ≠ h.next → (σ.add h.next c j n).at_ a = σ.at_ a := fun a ha => Sg.add_ne σ _ _ _ ha
  refine ⟨⟨?_, ?_, ?_, ?_⟩, ?_, ?_, ?_, ?_, Nat.le_succ_of_le hr.lo, ?_, ?_, hr.os, hr.tape, hr.output⟩
  · intro b y c' d m hy hs
    rw [hget _ _ _ ht] at hy
    by_cases e : h.next = b
    · subst e
      rw [if_pos rfl] at hy; cases hy
      rw [Sg.add_self] at hs; cases hs
      have : (World.put w c o).heap[c]? = some o := by simp [World.put, hc]
      rw [this]; exact ho
    · rw [if_neg e] at hy
      rw [old b (Ne.symm e)] at hs
      have hbr := (hr.blk b y c' d m hy hs).mono hle
      cases hly : y.live with
      | false => cases y <;> first | trivial | exact hbr | simp [ABlk.live] at hly
      | true =>
        have hne : c ≠ c' := by rintro rfl; exact free b y d m hy hly hs
        have : (World.put w c o).heap[c']? = w.heap[c']? := by simp [World.put, hne]
        rw [this]; exact hbr
  · intro b1 b2 y1 y2 c' d1 n1 d2 n2 h1 l1 h2 l2 s1 s2
    rw [hget _ _ _ ht] at h1 h2
    by_cases e1 : h.next = b1
    · by_cases e2 : h.next = b2
      · exact e1.symm.trans e2
      · subst e1
        rw [Sg.add_self] at s1; cases s1
        rw [old b2 (Ne.symm e2)] at s2
        rw [if_neg e2] at h2
        exact absurd s2 (free b2 y2 _ _ h2 l2)
    · rw [old b1 (Ne.symm e1)] at s1
      rw [if_neg e1] at h1
      by_cases e2 : h.next = b2
      · subst e2
        rw [Sg.add_self] at s2; cases s2
        exact absurd s1 (free b1 y1 _ _ h1 l1)
      · rw [old b2 (Ne.symm e2)] at s2
        rw [if_neg e2] at h2
        exact hr.inj _ _ _ _ _ _ _ _ _ h1 l1 h2 l2 s1 s2
  · intro g hg
    obtain ⟨m, hm⟩ := hr.glob g hg
    exact ⟨m, hle.at_ _ _ hm⟩
  · obtain ⟨⟨x, hx⟩, hsy⟩ := hr.syms
    exact ⟨⟨x, hle.at_ _ _ hx⟩, hsy⟩
  · intro b hb
    have hb : h.next + 1 ≤ b := hb
    rw [old b (by omega)]
    exact hr.fresh b (by omega)
  · intro b y hy
    rw [hget _ _ _ ht] at hy
    show b < h.next + 1
    by_cases e : h.next = b
    · omega
    · rw [if_neg e] at hy
      have := hr.below _ _ hy
      omega
  · intro b c' d m hs
    by_cases e : h.next = b
    · subst e; rw [Sg.add_self] at hs; cases hs; simpa [World.put] using hc
    · rw [old b (Ne.symm e)] at hs
      simpa [World.put] using hr.size _ _ _ _ hs
  · intro b y c' d m hy hw hs
    rw [hget _ _ _ ht] at hy
    by_cases e : h.next = b
    · subst e; rw [Sg.add_self] at hs; cases hs; exact hn
    · rw [if_neg e] at hy
      rw [old b (Ne.symm e)] at hs
      exact hr.own _ _ _ _ _ hy hw hs
  · intro c' hc'
    have hne : c ≠ c' := by omega
    simp only [World.put, Array.getElem?_setIfInBounds_ne hne]
    exact hr.keep c' hc'
  · simpa [World.put] using hr.grow
end
end Go.Ev
namespace Go.Ev
noncomputable section
open Go
structure Cx where
  fn : FuncId
  kind : CallKind
  rnd : Option Nat
def Cx.fr (c : Cx) (tmps : Array Value) (ds : List Deferred) (todo : List Item) : Frame :=
  { fn := c.fn, tmps, todo, defers := ds, mode := .run, kind := c.kind, roundOf := c.rnd }
def Cx.out (c : Cx) (tmps : Array Value) (ds : List Deferred) (todo : List Item) : Frame :=
  { fn := c.fn, tmps, todo, defers := ds, mode := .returning, kind := c.kind, roundOf := c.rnd }
def Reach (P : Program) (m : Machine) (Z : Machine → Prop) : Prop := ∃ m', Steps P m m' ∧ Z m'
theorem Reach.here {P : Program} {m : Machine} {Z : Machine → Prop} (h : Z m) : Reach P m Z := ⟨m, .refl P m, h⟩
theorem Reach.step {P : Program} {m m₁ : Machine} {Z : Machine → Prop} (h : step P m = .next m₁) (k : Reach P m₁ Z) : Reach P m Z := by
  obtain ⟨m', k, z⟩ := k
  exact ⟨m', .head h k, z⟩
theorem Reach.bind {P : Program} {m : Machine} {Y Z : Machine → Prop} (h : Reach P m Y) (k : ∀ m', Y m' → Reach P m' Z) : Reach P m Z := by
  obtain ⟨m', s, y⟩ := h
  obtain ⟨m'', t, z⟩ := k m' y
  exact ⟨m'', s.trans t, z⟩
theorem Reach.mono {P : Program} {m : Machine} {Y Z : Machine → Prop} (h : Reach P m Y) (k : ∀ m', Y m' → Z m') : Reach P m Z :=
  h.bind fun m' y => .here (k m' y)
def ev (tmps : Array Value) : Operand → Value
  | .tmp t => tmps.getD t undef
  | .const v => v
  | .global g => .pointer (some ⟨g, 0, none⟩)
  | .func f => .func (.func f) #[] #[]
theorem Cx.eval (c : Cx) (tmps : Array Value) (ds : List Deferred) (todo : List Item) : (c.fr tmps ds todo).eval = ev tmps := by
  funext x; cases x <;> rfl
section
variable {P : Program} {c : Cx} {tm : Array Value} {ds : List Deferred} {k : List Item} {cs : List Frame} {w : World} {Z : Machine → Prop}
theorem go_skip (h : Reach P (lone (c.fr tm ds k) cs w) Z) : Reach P (lone (c.fr tm ds (.code .skip :: k)) cs w) Z :=
  .step (step_lone_go (by simp [stepG, stepG.exec, Cx.fr])) h
theorem go_label {l : Nat} (h : Reach P (lone (c.fr tm ds k) cs w) Z) : Reach P (lone (c.fr tm ds (.code (.label l) :: k)) cs w) Z :=
  .step (step_lone_go (by simp [stepG, stepG.exec, Cx.fr])) h
theorem go_inBlock {i : Nat} (h : Reach P (lone (c.fr tm ds k) cs w) Z) : Reach P (lone (c.fr tm ds (.inBlock i :: k)) cs w) Z :=
  .step (step_lone_go (by simp [stepG, stepG.exec, Cx.fr])) h
theorem go_inScope {a : Code} (h : Reach P (lone (c.fr tm ds k) cs w) Z) : Reach P (lone (c.fr tm ds (.inScope a :: k)) cs w) Z :=
  .step (step_lone_go (by simp [stepG, stepG.exec, Cx.fr])) h
theorem go_seq {a b : Code} (h : Reach P (lone (c.fr tm ds (.code a :: .code b :: k)) cs w) Z) : Reach P (lone (c.fr tm ds (.code (.seq a b) :: k)) cs w) Z :=
  .step (step_lone_go (by simp [stepG, stepG.exec, Cx.fr])) h
theorem go_cond {x : Operand} {a b : Code} {t : Bool} (hx : ev tm x = .bool t) (h : Reach P (lone (c.fr tm ds (.code (if t then a else b) :: k)) cs w) Z) :
    Reach P (lone (c.fr tm ds (.code (.cond x a b) :: k)) cs w) Z :=
  .step (step_lone_go (by
    have e := congrFun (c.eval tm ds (.code (.cond x a b) :: k)) x
    simp only [Cx.fr] at e
    simp [stepG, stepG.exec, Cx.fr, e, hx])) h
theorem go_block {i : Nat} {a : Code} (h : Reach P (lone (c.fr tm ds (.code a :: .inBlock i :: k)) cs w) Z) : Reach P (lone (c.fr tm ds (.code (.block i a) :: k)) cs w) Z :=
  .step (step_lone_go (by simp [stepG, stepG.exec, Cx.fr])) h
theorem go_loop {a : Code} (h : Reach P (lone (c.fr tm ds (.code a :: .inLoop a :: k)) cs w) Z) : Reach P (lone (c.fr tm ds (.code (.loop a) :: k)) cs w) Z :=
  .step (step_lone_go (by simp [stepG, stepG.exec, Cx.fr])) h
theorem step_inLoop' {a : Code} : step P (lone (c.fr tm ds (.inLoop a :: k)) cs w) = .next (lone (c.fr tm ds (.code a :: .inLoop a :: k)) cs w) :=
  step_lone_go (by simp [stepG, stepG.exec, Cx.fr])
theorem step_loop' {a : Code} : step P (lone (c.fr tm ds (.code (.loop a) :: k)) cs w) = .next (lone (c.fr tm ds (.code a :: .inLoop a :: k)) cs w) :=
  step_lone_go (by simp [stepG, stepG.exec, Cx.fr])
theorem go_scope {a : Code} (h : Reach P (lone (c.fr tm ds (.code a :: .inScope a :: k)) cs w) Z) : Reach P (lone (c.fr tm ds (.code (.scope a) :: k)) cs w) Z :=
  .step (step_lone_go (by simp [stepG, stepG.exec, Cx.fr])) h
theorem go_exit {i : Nat} {k' : List Item} (e : exitTo i k = some k') (h : Reach P (lone (c.fr tm ds k') cs w) Z) : Reach P (lone (c.fr tm ds (.code (.exit i) :: k)) cs w) Z :=
  .step (step_lone_go (by simp [stepG, stepG.exec, Cx.fr, e])) h
theorem go_goto {l : Nat} {k' : List Item} (e : gotoIn l k = some k') (h : Reach P (lone (c.fr tm ds k') cs w) Z) : Reach P (lone (c.fr tm ds (.code (.goto l) :: k)) cs w) Z :=
  .step (step_lone_go (by simp [stepG, stepG.exec, Cx.fr, e])) h
theorem go_region {i : Nat} {ops : Array Oper} (h : Reach P (lone (c.fr tm ds (.inRegion ops (List.range ops.size) :: k)) cs w) Z) :
    Reach P (lone (c.fr tm ds (.code (.region i ops false) :: k)) cs w) Z :=
  .step (step_lone_go (by simp [stepG, stepG.exec, Cx.fr])) h
theorem go_draw {i : Nat} {ops : Array Oper} (hm : P.follows .mixedOrders = true)
    (h : ∀ t, Reach P (lone (c.fr tm ds (.inRegion ops (Region.linearise .any ops t) :: k)) cs { w with drawn := w.drawn + 1 }) Z) :
    Reach P (lone (c.fr tm ds (.code (.region i ops true) :: k)) cs w) Z :=
  .step (step_lone_go (by simp [stepG, stepG.exec, Cx.fr, choose, Sem.run, Question.forced, Question.cut, Region.schedule, hm])) (h (w.tape w.drawn (.order c.fn i)))
theorem go_endRegion {ops : Array Oper} (h : Reach P (lone (c.fr tm ds k) cs w) Z) : Reach P (lone (c.fr tm ds (.inRegion ops [] :: k)) cs w) Z :=
  .step (step_lone_go (by simp [stepG, stepG.exec, Cx.fr])) h
def put (tm : Array Value) (d : Option Tmp) (v : Value) : Array Value :=
  match d with
  | some d => tm.setIfInBounds d v
  | none => tm
theorem Cx.finish (c : Cx) (tm : Array Value) (ds : List Deferred) (ops : Array Oper) (i : Nat) (rest : List Nat) (k : List Item) (v : Value) :
    (c.fr tm ds (.inRegion ops (i :: rest) :: k)).finish v = c.fr (put tm ((ops[i]?).bind (·.dst)) v) ds (.inRegion ops rest :: k) := by
  cases h : (ops[i]?).bind (·.dst) <;> simp [Frame.finish, Cx.fr, put, h]
theorem go_unwanted {ops : Array Oper} {i : Nat} {rest : List Nat} {o : Oper} (ho : ops[i]? = some o) (hw : Region.wanted o (yielded ops tm) = false)
    (h : Reach P (lone (c.fr (put tm o.dst undef) ds (.inRegion ops rest :: k)) cs w) Z) : Reach P (lone (c.fr tm ds (.inRegion ops (i :: rest) :: k)) cs w) Z := by
  refine .step (step_lone_go ?_) h
  have e := Cx.finish c tm ds ops i rest k undef
  rw [ho] at e
  simp only [Option.bind_some] at e
  rw [← e]
  simp only [Cx.fr]
  simp [stepG, stepG.exec, ho, hw]
theorem stepG_oper {ops : Array Oper} {i : Nat} {rest : List Nat} {o : Oper} (ho : ops[i]? = some o) (hw : Region.wanted o (yielded ops tm) = true) (hr : c.rnd = none ∨ ∀ cl, o.op ≠ .defer cl) :
    stepG P true { frame := c.fr tm ds (.inRegion ops (i :: rest) :: k), callers := cs, status := .running, dying := none } w =
      stepG.apply P true (c.fr tm ds (.inRegion ops (i :: rest) :: k)) cs none (execOp (ev tm) o) w := by
  have he := c.eval tm ds (.inRegion ops (i :: rest) :: k)
  simp only [Cx.fr] at he
  rcases hr with hr | hr
  · simp only [hr] at he; simp [stepG, stepG.exec, stepG.oper, Frame.oper?, Cx.fr, ho, hw, he, hr]
  · cases hc : c.rnd with
    | none => simp only [hc] at he; simp [stepG, stepG.exec, stepG.oper, Frame.oper?, Cx.fr, ho, hw, he, hc]
    | some l =>
      simp only [stepG, stepG.exec, stepG.oper, Frame.oper?, Cx.fr, ho, hw, he, hc, Option.map_some, Option.getD_some, if_true]
      cases hop : o.op <;> first | rfl | exact absurd hop (hr _)
theorem go_value {ops : Array Oper} {i : Nat} {rest : List Nat} {o : Oper} {v : Value} {w' : World} (ho : ops[i]? = some o) (hw : Region.wanted o (yielded ops tm) = true)
    (hr : c.rnd = none ∨ ∀ cl, o.op ≠ .defer cl) (hx : (execOp (ev tm) o).run P w = .ok (.value v) w')
    (h : Reach P (lone (c.fr (put tm o.dst v) ds (.inRegion ops rest :: k)) cs w') Z) : Reach P (lone (c.fr tm ds (.inRegion ops (i :: rest) :: k)) cs w) Z := by
  refine .step (step_lone_go ?_) h
  have e := Cx.finish c tm ds ops i rest k v
  rw [ho] at e
  simp only [Option.bind_some] at e
  rw [stepG_oper ho hw hr, ← e]
  simp [stepG.apply, hx]
theorem go_none {ops : Array Oper} {i : Nat} {rest : List Nat} {o : Oper} {w' : World} (ho : ops[i]? = some o) (hw : Region.wanted o (yielded ops tm) = true)
    (hr : c.rnd = none ∨ ∀ cl, o.op ≠ .defer cl) (hx : (execOp (ev tm) o).run P w = .ok .skip w')
    (h : Reach P (lone (c.fr (put tm o.dst undef) ds (.inRegion ops rest :: k)) cs w') Z) : Reach P (lone (c.fr tm ds (.inRegion ops (i :: rest) :: k)) cs w) Z := by
  refine .step (step_lone_go ?_) h
  have e := Cx.finish c tm ds ops i rest k undef
  rw [ho] at e
  simp only [Option.bind_some] at e
  rw [stepG_oper ho hw hr, ← e]
  simp [stepG.apply, hx]
theorem go_defer {ops : Array Oper} {i : Nat} {rest : List Nat} {o : Oper} {d : Deferred} {w' : World} (ho : ops[i]? = some o) (hw : Region.wanted o (yielded ops tm) = true)
    (hr : c.rnd = none ∨ ∀ cl, o.op ≠ .defer cl) (hx : (execOp (ev tm) o).run P w = .ok (.defer d) w')
    (h : Reach P (lone (c.fr (put tm o.dst undef) (d :: ds) (.inRegion ops rest :: k)) cs w') Z) : Reach P (lone (c.fr tm ds (.inRegion ops (i :: rest) :: k)) cs w) Z := by
  refine .step (step_lone_go ?_) h
  have e := Cx.finish c tm (d :: ds) ops i rest k undef
  rw [ho] at e
  simp only [Option.bind_some] at e
  rw [stepG_oper ho hw hr, ← e]
  simp [stepG.apply, hx, Cx.fr]
theorem go_enter {ops : Array Oper} {i : Nat} {rest : List Nat} {o : Oper} {f : FuncId} {args : Array Value} {w' : World} (ho : ops[i]? = some o) (hw : Region.wanted o (yielded ops tm) = true)
    (hr : c.rnd = none ∨ ∀ cl, o.op ≠ .defer cl) (hx : (execOp (ev tm) o).run P w = .ok (.enter f args) w')
    (h : Reach P (lone (Frame.enter P f args .normal) (c.fr tm ds (.inRegion ops (i :: rest) :: k) :: cs) w') Z) : Reach P (lone (c.fr tm ds (.inRegion ops (i :: rest) :: k)) cs w) Z := by
  refine .step (step_lone_go ?_) h
  rw [stepG_oper ho hw hr]
  simp [stepG.apply, hx, Cx.fr]
theorem go_round {ops : Array Oper} {i : Nat} {rest : List Nat} {o : Oper} {l : Nat} {f : FuncId} {tmps : Array Value} {assign body : Code} {w' : World} (ho : ops[i]? = some o)
    (hw : Region.wanted o (yielded ops tm) = true)
    (hr : c.rnd = none ∨ ∀ cl, o.op ≠ .defer cl) (hx : (execOp (ev tm) o).run P w = .ok (.round l f tmps assign body) w')
    (h : Reach P (lone (Frame.round l f tmps assign body .normal) (c.fr tm ds (.inRegion ops (i :: rest) :: k) :: cs) w') Z) :
    Reach P (lone (c.fr tm ds (.inRegion ops (i :: rest) :: k)) cs w) Z := by
  refine .step (step_lone_go ?_) h
  rw [stepG_oper ho hw hr]
  simp [stepG.apply, hx, Cx.fr]
end
end
end Go.Ev
namespace Go.Ev
noncomputable section
open Go
section
variable {P : Program} {c : Cx} {tm : Array Value} {ds : List Deferred} {k : List Item} {cs : List Frame} {w : World} {Z : Machine → Prop}
theorem go_ret (hr : c.rnd = none) (h : Reach P (lone (c.out tm ds (.code .ret :: k)) cs w) Z) : Reach P (lone (c.fr tm ds (.code .ret :: k)) cs w) Z :=
  .step (m₁ := lone (c.out tm ds (.code .ret :: k)) cs w) (step_lone_go (by simp [stepG, stepG.exec, Cx.fr, Cx.out, hr])) h
theorem go_end (hr : c.rnd = none) (h : Reach P (lone (c.out tm ds []) cs w) Z) : Reach P (lone (c.fr tm ds []) cs w) Z :=
  .step (m₁ := lone (c.out tm ds []) cs w) (step_lone_go (by simp [stepG, stepG.exec, Cx.fr, Cx.out, hr])) h
theorem go_return {fn : Func} {caller : Frame} {v : Value} (hf : P.funcs[c.fn]? = some fn) (hv : (results fn tm).run P w = .ok v w) (hk : c.kind = .normal)
    (h : Reach P (lone (caller.finish v) cs w) Z) : Reach P (lone (c.out tm [] k) (caller :: cs) w) Z :=
  .step (step_lone_go (by simp [stepG, unwind, doReturn, Cx.out, hf, hv, hk])) h
theorem go_returnD {fn : Func} {caller : Frame} {v : Value} (hf : P.funcs[c.fn]? = some fn) (hv : (results fn tm).run P w = .ok v w) (hk : c.kind = .deferred)
    (hm : caller.mode = .returning) (h : Reach P (lone caller cs w) Z) : Reach P (lone (c.out tm [] k) (caller :: cs) w) Z :=
  .step (step_lone_go (by simp [stepG, unwind, doReturn, Cx.out, hf, hv, hk, hm])) h
theorem go_collected {b : Nat} {calls : List Deferred} {w' : World} (hx : (Instr.takeDeferred b).run P w = .ok calls w')
    (h : Reach P (lone (c.out tm (calls ++ ds) k) cs w') Z) : Reach P (lone (c.out tm ({ target := .collected b, args := #[] } :: ds) k) cs w) Z :=
  .step (m₁ := lone (c.out tm (calls ++ ds) k) cs w') (step_lone_go (by simp [stepG, unwind, Cx.out, hx])) h
theorem go_deferred {f : FuncId} {cap args : Array Value} (hx : (invoke (.fn (.func f) cap) args).run P w = .ok (.enter f (args ++ cap)) w)
    (h : Reach P (lone (Frame.enter P f (args ++ cap) .deferred) (c.out tm ds k :: cs) w) Z) : Reach P (lone (c.out tm ({ target := .fn (.func f) cap, args } :: ds) k) cs w) Z :=
  .step (m₁ := lone (Frame.enter P f (args ++ cap) .deferred) (c.out tm ds k :: cs) w) (step_lone_go (by simp [stepG, unwind, callDeferred, Cx.out, hx])) h
theorem go_leaveRound {l : Nat} {j : Option Code} {caller : Frame} {v : Value} {w' : World} (hr : c.rnd = some l) (hk : c.kind = .normal)
    (hx : (Instr.endRound l j).run P w = .ok v w') (h : Reach P (lone (caller.finish v) cs w') Z) :
    (j = none → Reach P (lone (c.fr tm ds []) (caller :: cs) w) Z) ∧
    (j = some .ret → ∀ k, Reach P (lone (c.fr tm ds (.code .ret :: k)) (caller :: cs) w) Z) ∧
    (∀ i, j = some (.exit i) → ∀ k, exitTo i k = none → Reach P (lone (c.fr tm ds (.code (.exit i) :: k)) (caller :: cs) w) Z) ∧
    (∀ i, j = some (.goto i) → ∀ k, gotoIn i k = none → Reach P (lone (c.fr tm ds (.code (.goto i) :: k)) (caller :: cs) w) Z) := by
  refine ⟨?_, ?_, ?_, ?_⟩
  · rintro rfl
    exact .step (step_lone_go (by simp [stepG, stepG.exec, Cx.fr, hr, hx, doReturn, hk])) h
  · rintro rfl k
    exact .step (step_lone_go (by simp [stepG, stepG.exec, Cx.fr, hr, hx, doReturn, hk])) h
  · rintro i rfl k e
    exact .step (step_lone_go (by simp [stepG, stepG.exec, Cx.fr, hr, hx, doReturn, hk, e])) h
  · rintro i rfl k e
    exact .step (step_lone_go (by simp [stepG, stepG.exec, Cx.fr, hr, hx, doReturn, hk, e])) h
theorem go_beginRound {l : Nat} {w' : World} (hr : c.rnd = some l) (hx : (Instr.beginRound l).run P w = .ok () w')
    (h : Reach P (lone (c.fr tm ds k) cs w') Z) : Reach P (lone (c.fr tm ds (.beginRound :: k)) cs w) Z :=
  .step (m₁ := lone (c.fr tm ds k) cs w') (step_lone_go (by simp [stepG, stepG.exec, stepG.apply, Cx.fr, hr, hx, Frame.finish])) h
theorem go_rangeFunc {f : Operand} {params : Array Tmp} {assign body : Code} {l : Nat} {mark : List Deferred} {w₁ w₂ : World} {g : FuncId} {args : Array Value}
    (hx : (Instr.enterLoop c.fn tm params assign body c.rnd).run P w = .ok (l, mark) w₁)
    (hy : (do let d ← resolve (ev tm) { callee := .value f, args := #[.const (.func (.yield l) #[] #[])], argTypes := #[] } 0; invoke d.target d.args : Sem Next).run P w₁ = .ok (.enter g args) w₂)
    (h : Reach P (lone (Frame.enter P g args .normal) (c.fr tm (mark ++ ds) (.inRangeFunc l :: k) :: cs) w₂) Z) :
    Reach P (lone (c.fr tm ds (.code (.rangeFunc f params assign body) :: k)) cs w) Z :=
  .step (step_lone_go (by
    have he := c.eval tm (mark ++ ds) (.inRangeFunc l :: k)
    simp only [Cx.fr] at he
    simp only [stepG, stepG.exec, Cx.fr, Sem.runT_eq, hx, GStep.bare_after, he, stepG.apply, hy, if_true]; rfl)) h
theorem go_inRangeFunc {l : Nat} {v : Value} : (c.fr tm ds (.inRangeFunc l :: k)).finish v = c.fr tm ds (.endRangeFunc l :: k) := rfl
theorem go_endRangeFunc {l : Nat} {j : Option Code} {w' : World} (hx : (Instr.endLoop l).run P w = .ok j w')
    (h : Reach P (lone (c.fr tm ds ((j.map Item.code).toList ++ k)) cs w') Z) : Reach P (lone (c.fr tm ds (.endRangeFunc l :: k)) cs w) Z :=
  .step (m₁ := lone (c.fr tm ds ((j.map Item.code).toList ++ k)) cs w') (step_lone_go (by simp [stepG, stepG.exec, Cx.fr, hx])) h
end
end
end Go.Ev
namespace Go.Ev
noncomputable section
open Go
theorem casesB {b : Bool} {x y : Out} : (Bool.casesOn b x y : Out) = if b = true then y else x := by cases b <;> rfl
theorem subN_eq (m n : Nat) (k : KI) : subN m n k = k ((m : Int) - n) := by
  unfold subN
  rw [casesB, forceN_eq, forceN_eq]
  by_cases h : n ≤ m
  · rw [if_pos (Nat.ble_eq_true_of_le h)]
    congr 1
    exact Int.ofNat_sub h
  · rw [if_neg (by intro e; exact h (Nat.le_of_ble_eq_true e))]
    congr 1
    show Int.negSucc (n - m - 1) = _
    rw [Int.negSucc_eq]; omega
theorem negN_eq (m : Nat) (k : KI) : negN m k = k (-(m : Int)) := by
  cases m with
  | zero => rfl
  | succ m => show k (.negSucc m) = _; congr 1
theorem addZ_eq (a b : Int) (k : KI) : addZ a b k = k (a + b) := by
  cases a with
  | ofNat m => cases b with
    | ofNat n => show forceN (Nat.add m n) (fun r => k (.ofNat r)) = _; rw [forceN_eq]; rfl
    | negSucc n => show subN m (Nat.succ n) k = _; rw [subN_eq]; congr 1
  | negSucc m => cases b with
    | ofNat n => show subN n (Nat.succ m) k = _; rw [subN_eq]; congr 1
    | negSucc n => show forceN (Nat.succ (Nat.add m n)) (fun r => k (.negSucc r)) = _; rw [forceN_eq]; rfl
theorem subZ_eq (a b : Int) (k : KI) : subZ a b k = k (a - b) := by
  cases a with
  | ofNat m => cases b with
    | ofNat n => show subN m n k = _; rw [subN_eq]; rfl
    | negSucc n => show forceN (Nat.succ (Nat.add m n)) (fun r => k (.ofNat r)) = _; rw [forceN_eq]; congr 1
  | negSucc m => cases b with
    | ofNat n => show forceN (Nat.add m n) (fun r => k (.negSucc r)) = _; rw [forceN_eq]; congr 1; show Int.negSucc (m + n) = Int.negSucc m - (n : Int); rw [Int.negSucc_eq, Int.negSucc_eq]; omega
    | negSucc n => show subN n m k = _; rw [subN_eq]; congr 1; rw [Int.negSucc_eq, Int.negSucc_eq]; omega
theorem mulZ_eq (a b : Int) (k : KI) : mulZ a b k = k (a * b) := by
  cases a with
  | ofNat m => cases b with
    | ofNat n => show forceN (Nat.mul m n) (fun r => k (.ofNat r)) = _; rw [forceN_eq]; rfl
    | negSucc n => show negN (Nat.mul m (Nat.succ n)) k = _; rw [negN_eq]; rfl
  | negSucc m => cases b with
    | ofNat n => show negN (Nat.mul (Nat.succ m) n) k = _; rw [negN_eq]; rfl
    | negSucc n => show forceN (Nat.mul (Nat.succ m) (Nat.succ n)) (fun r => k (.ofNat r)) = _; rw [forceN_eq]; rfl
theorem ltZ_eq (a b : Int) : ltZ a b = decide (a < b) := by
  cases a with
  | ofNat m => cases b with
    | ofNat n => show Nat.ble (m + 1) n = _; rw [Bool.eq_iff_iff]; simp only [Nat.ble_eq, decide_eq_true_eq]; show _ ↔ (m : Int) < n; omega
    | negSucc n => show false = _; symm; simp only [decide_eq_false_iff_not]; rw [Int.negSucc_eq]; show ¬ (m : Int) < _; omega
  | negSucc m => cases b with
    | ofNat n => show true = _; symm; simp only [decide_eq_true_eq]; rw [Int.negSucc_eq]; show _ < (n : Int); omega
    | negSucc n => show Nat.ble (n + 1) m = _; rw [Bool.eq_iff_iff]; simp only [Nat.ble_eq, decide_eq_true_eq]; rw [Int.negSucc_eq, Int.negSucc_eq]; omega
theorem eqZ_eq (a b : Int) : eqZ a b = decide (a = b) := by
  cases a with
  | ofNat m => cases b with
    | ofNat n => show Nat.beq m n = _; rw [Bool.eq_iff_iff]; simp only [Nat.beq_eq, decide_eq_true_eq]; show _ ↔ (m : Int) = n; omega
    | negSucc n => show false = _; symm; simp
  | negSucc m => cases b with
    | ofNat n => show false = _; symm; simp
    | negSucc n => show Nat.beq m n = _; rw [Bool.eq_iff_iff]; simp
theorem notB_eq (b : Bool) : notB b = !b := by cases b <;> rfl
theorem kmod_bits (k : IntKind) : (kmod k : Int) = 2 ^ k.bits := by cases k <;> rfl
theorem toU_eq (k : IntKind) (a : Int) : (toU k a : Int) = a % (2 ^ k.bits : Int) := by
  rw [← kmod_bits]
  have hp : 0 < kmod k := by cases k <;> decide
  cases a with
  | ofNat m => rfl
  | negSucc m =>
    show ((kmod k - 1 - m % kmod k : Nat) : Int) = _
    have h1 : m % kmod k < kmod k := Nat.mod_lt _ hp
    rw [Int.negSucc_emod m (by omega)]
    omega
theorem toU_lt (k : IntKind) (a : Int) : toU k a < kmod k := by
  have hp : (0 : Int) < kmod k := by cases k <;> decide
  have := Int.emod_lt_of_pos a hp
  have e := toU_eq k a
  rw [← kmod_bits] at e
  omega
theorem wrapU_eq (kd : IntKind) (r : Nat) (h : r < kmod kd) (k : KI) : wrapU kd r k = k (kd.wrap r) := by
  unfold wrapU
  rw [forceN_eq, casesB, forceN_eq]
  have hm : ((r : Int) % (2 ^ kd.bits : Int)) = r := by rw [← kmod_bits]; exact Int.emod_eq_of_lt (by omega) (by omega)
  unfold IntKind.wrap
  simp only [hm]
  by_cases hr : r ≤ kmax kd
  · rw [if_pos (Nat.ble_eq_true_of_le hr)]
    congr 1
    rw [if_neg]
    · rfl
    · revert hr h; cases kd <;> simp [kmax, kmod, IntKind.signed, IntKind.bits] <;> intros <;> omega
  · rw [if_neg (by intro e; exact hr (Nat.le_of_ble_eq_true e))]
    congr 1
    rw [if_pos]
    · show Int.negSucc (kmod kd - r - 1) = _
      rw [Int.negSucc_eq, ← kmod_bits]
      omega
    · revert hr h; cases kd <;> simp [kmax, kmod, IntKind.signed, IntKind.bits] <;> intros <;> omega
theorem wrap_toU (kd : IntKind) (a : Int) : kd.wrap (toU kd a) = kd.wrap a := by
  unfold IntKind.wrap
  rw [toU_eq]
  simp only [Int.emod_emod_of_dvd _ (Int.dvd_refl _)]
theorem wrapZ_eq (kd : IntKind) (a : Int) (k : KI) : wrapZ kd a k = k (kd.wrap a) := by
  unfold wrapZ
  rw [wrapU_eq kd _ (toU_lt kd a), wrap_toU]
theorem wrap_of_nat (kd : IntKind) (m : Nat) (h : m ≤ kmax kd) : kd.wrap m = m := by
  have hm : ((m : Int) % (2 ^ kd.bits : Int)) = m := by
    rw [← kmod_bits]; refine Int.emod_eq_of_lt (by omega) ?_
    revert h; cases kd <;> simp [kmax, kmod] <;> omega
  unfold IntKind.wrap
  simp only [hm]
  rw [if_neg]
  revert h; cases kd <;> simp [kmax, IntKind.signed, IntKind.bits] <;> omega
theorem wrap_of_neg (kd : IntKind) (m : Nat) (h : m + 1 ≤ kneg kd) : kd.wrap (.negSucc m) = .negSucc m := by
  have hm : ((Int.negSucc m) % (2 ^ kd.bits : Int)) = kmod kd - 1 - m := by
    rw [← kmod_bits]
    have hp : m < kmod kd := by revert h; cases kd <;> simp [kneg, kmod] <;> omega
    rw [Int.negSucc_emod m (by omega)]
    have : (m : Int) % (kmod kd : Int) = m := Int.emod_eq_of_lt (by omega) (by omega)
    rw [this]
  unfold IntKind.wrap
  simp only [hm]
  rw [if_pos, Int.negSucc_eq, ← kmod_bits]
  · omega
  · revert h; cases kd <;> simp [kneg, kmod, IntKind.signed, IntKind.bits] <;> omega
theorem fitZ_eq (kd : IntKind) (a : Int) (k : KI) : fitZ kd a k = k (kd.wrap a) := by
  cases a with
  | ofNat m =>
    show (Bool.casesOn (Nat.ble m (kmax kd)) (wrapZ kd (.ofNat m) k) (k (.ofNat m)) : Out) = _
    rw [casesB]
    by_cases h : m ≤ kmax kd
    · rw [if_pos (Nat.ble_eq_true_of_le h)]; congr 1; exact (wrap_of_nat kd m h).symm
    · rw [if_neg (by intro e; exact h (Nat.le_of_ble_eq_true e))]; exact wrapZ_eq kd _ k
  | negSucc m =>
    show (Bool.casesOn (Nat.ble (m + 1) (kneg kd)) (wrapZ kd (.negSucc m) k) (k (.negSucc m)) : Out) = _
    rw [casesB]
    by_cases h : m + 1 ≤ kneg kd
    · rw [if_pos (Nat.ble_eq_true_of_le h)]; congr 1; exact (wrap_of_neg kd m h).symm
    · rw [if_neg (by intro e; exact h (Nat.le_of_ble_eq_true e))]; exact wrapZ_eq kd _ k
theorem toU_toNat (kd : IntKind) (a : Int) : (BitVec.ofInt kd.bits a).toNat = toU kd a := by
  rw [BitVec.toNat_ofInt]
  have e := toU_eq kd a
  have : ((2 ^ kd.bits : Nat) : Int) = (2 ^ kd.bits : Int) := by simp
  rw [this, ← e]; simp
theorem zAnd_eq (kd : IntKind) (a b : Int) (k : KI) : zAnd kd a b k = k (kd.wrap ((BitVec.ofInt kd.bits a &&& BitVec.ofInt kd.bits b).toNat)) := by
  unfold zAnd
  rw [BitVec.toNat_and, toU_toNat, toU_toNat]
  exact wrapU_eq kd _ (Nat.lt_of_le_of_lt Nat.and_le_left (toU_lt kd a)) k
theorem kmod_pow (kd : IntKind) : kmod kd = 2 ^ kd.bits := by cases kd <;> rfl
theorem zOr_eq (kd : IntKind) (a b : Int) (k : KI) : zOr kd a b k = k (kd.wrap ((BitVec.ofInt kd.bits a ||| BitVec.ofInt kd.bits b).toNat)) := by
  unfold zOr
  rw [BitVec.toNat_or, toU_toNat, toU_toNat]
  refine wrapU_eq kd _ ?_ k
  have h1 := toU_lt kd a
  have h2 := toU_lt kd b
  rw [kmod_pow] at *
  exact Nat.or_lt_two_pow h1 h2
theorem zXor_eq (kd : IntKind) (a b : Int) (k : KI) : zXor kd a b k = k (kd.wrap ((BitVec.ofInt kd.bits a ^^^ BitVec.ofInt kd.bits b).toNat)) := by
  unfold zXor
  rw [BitVec.toNat_xor, toU_toNat, toU_toNat]
  refine wrapU_eq kd _ ?_ k
  have h1 := toU_lt kd a
  have h2 := toU_lt kd b
  rw [kmod_pow] at *
  exact Nat.xor_lt_two_pow h1 h2
theorem zAndNot_eq (kd : IntKind) (a b : Int) (k : KI) : zAndNot kd a b k = k (kd.wrap ((BitVec.ofInt kd.bits a &&& ~~~BitVec.ofInt kd.bits b).toNat)) := by
  unfold zAndNot
  rw [BitVec.toNat_and, BitVec.toNat_not, toU_toNat, toU_toNat, ← kmod_pow]
  exact wrapU_eq kd _ (Nat.lt_of_le_of_lt Nat.and_le_left (toU_lt kd a)) k
theorem kbits_eq (kd : IntKind) : kbits kd = kd.bits := by cases kd <;> rfl
theorem minN_eq (m n : Nat) : minN m n = min m n := by
  unfold minN
  cases h : Nat.ble m n with
  | true => have := Nat.le_of_ble_eq_true h; simp [Nat.min_eq_left this]
  | false =>
    have : ¬ m ≤ n := by intro e; rw [Nat.ble_eq_true_of_le e] at h; cases h
    simp [Nat.min_eq_right (Nat.le_of_not_le this)]
theorem shlZ_eq (a : Int) (n : Nat) (k : KI) : shlZ a n k = k (a * 2 ^ n) := by
  cases a with
  | ofNat m => show forceN (m <<< n) (fun r => k (.ofNat r)) = _; rw [forceN_eq]; rw [Nat.shiftLeft_eq]; congr 1
  | negSucc m => show negN ((m + 1) <<< n) k = _; rw [negN_eq, Nat.shiftLeft_eq]; congr 1; first | done | (rw [Int.negSucc_eq]; simp [Int.neg_mul])
theorem shrZ_eq (a : Int) (n : Nat) (k : KI) : shrZ a n k = k (a.fdiv (2 ^ n)) := by
  cases a with
  | ofNat m =>
    show forceN (m >>> n) (fun r => k (.ofNat r)) = _; rw [forceN_eq]
    rw [Nat.shiftRight_eq_div_pow]
    congr 1
    have : ((2 : Int) ^ n) = ((2 ^ n : Nat) : Int) := by simp
    rw [this, Int.fdiv_eq_ediv_of_nonneg _ (Int.natCast_nonneg _)]
    rfl
  | negSucc m =>
    show forceN (m >>> n) (fun r => k (.negSucc r)) = _; rw [forceN_eq]
    rw [Nat.shiftRight_eq_div_pow]
    congr 1
    have : ((2 : Int) ^ n) = ((2 ^ n : Nat) : Int) := by simp
    rw [this, Int.fdiv_eq_ediv_of_nonneg _ (Int.natCast_nonneg _)]
    have hp : 0 < 2 ^ n := Nat.two_pow_pos n
    rw [Int.negSucc_ediv m (Int.natCast_pos.2 hp)]
    rfl
theorem quoZ_eq (a b : Int) (k : KI) : quoZ a b k = k (a.tdiv b) := by
  cases a with
  | ofNat m => cases b with
    | ofNat n => show forceN (m / n) (fun r => k (.ofNat r)) = _; rw [forceN_eq]; rfl
    | negSucc n => show negN (m / (n + 1)) k = _; rw [negN_eq]; rfl
  | negSucc m => cases b with
    | ofNat n => show negN ((m + 1) / n) k = _; rw [negN_eq]; rfl
    | negSucc n => show forceN ((m + 1) / (n + 1)) (fun r => k (.ofNat r)) = _; rw [forceN_eq]; rfl
theorem remZ_eq (a b : Int) (k : KI) : remZ a b k = k (a.tmod b) := by
  cases a with
  | ofNat m => cases b with
    | ofNat n => show forceN (m % n) (fun r => k (.ofNat r)) = _; rw [forceN_eq]; rfl
    | negSucc n => show forceN (m % (n + 1)) (fun r => k (.ofNat r)) = _; rw [forceN_eq]; rfl
  | negSucc m => cases b with
    | ofNat n => show negN ((m + 1) % n) k = _; rw [negN_eq]; rfl
    | negSucc n => show negN ((m + 1) % (n + 1)) k = _; rw [negN_eq]; rfl
end
end Go.Ev
namespace Go.Ev
noncomputable section
open Go
def oget (nt : Nat) (tr : Tr) : Operand → Option AV
  | .tmp t => tget nt tr t
  | .const v => some (ofValue v)
  | .global g => if g < numG then some (.ptr g 0) else none
  | .func f => some (.fn f [] [])
theorem forceV_eq {α : Type} (v : AV) (k : AV → α) : forceV v k = k v := by cases v <;> rfl
theorem forceL_eq {α : Type} : ∀ (l : List AV) (k : List AV → α), forceL l k = k l
  | [], _ => rfl
  | v :: l, k => by
    rw [show forceL (v :: l) k = forceV v fun v => forceL l fun l => k (v :: l) from rfl, forceV_eq, forceL_eq l]
theorem opd_inv {nt : Nat} {x : Operand} {tr : Tr} {k : AV → Out} {r : Out} (h : (opd nt x).f tr k = r) (ok : r.ok) : ∃ v, oget nt tr x = some v ∧ k v = r := by
  cases x with
  | tmp t => exact cget_inv h ok
  | const v =>
    refine ⟨ofValue v, rfl, ?_⟩
    simp only [opd, forceV_eq] at h
    exact h
  | global g =>
    simp only [opd] at h
    by_cases hg : g < numG
    · rw [if_pos hg] at h
      exact ⟨.ptr g 0, by simp [oget, hg], h⟩
    · rw [if_neg hg] at h; subst h; exact ok.elim
  | func f => exact ⟨_, rfl, h⟩
theorem ofCell_R (σ : Sg) (v : Value) : VR σ (ofCell v) v := by
  unfold ofCell
  split
  · rw [forceB_eq]; simp [VR]
  · rw [forceI_eq]; simp [VR]
  · simp [VR]
  · simp only [VR]; exact ⟨_, rfl, rfl⟩
  · simp [VR]
  · simp [VR]
  · simp [VR]
  · simp [VR]
  · simp [VR]
  · simp [VR]
theorem ofCells_R (σ : Sg) : ∀ l : List Value, VRs σ (ofCells l) l
  | [] => by simp [ofCells, VRs]
  | v :: l => VRs.cons (ofCell_R σ v) (ofCells_R σ l)
theorem ofValue_R (σ : Sg) (v : Value) : VR σ (ofValue v) v := by
  unfold ofValue
  split
  · simp only [VR]; exact ⟨_, rfl, ofCells_R σ _⟩
  · split
    · rename_i cs hs
      have : cs = #[] := by simpa using hs
      simp [VR, this]
    · simp only [VR]; exact ⟨_, rfl, ofCells_R σ _⟩
  · exact ofCell_R σ v
def OpR (σ : Sg) (nt : Nat) (tr : Tr) (tm : Array Value) (x : Operand) : Prop := ∀ v, oget nt tr x = some v → VR σ v (ev tm x)
theorem TR.opR {B : Base} {σ : Sg} {h : AH} {w : World} (hr : HR0 B σ h w) {nt : Nat} {tr : Tr} {tm : Array Value} (t : TR σ nt tr tm) (x : Operand) : OpR σ nt tr tm x := by
  intro v hv
  cases x with
  | tmp i => exact t.val i v hv
  | const c => simp only [oget, Option.some.injEq] at hv; subst hv; exact ofValue_R σ c
  | global g =>
    simp only [oget] at hv
    split at hv
    · rename_i hg
      obtain ⟨n, hn⟩ := hr.glob g hg
      simp only [Option.some.injEq] at hv; subst hv
      simp only [VR, ev]
      exact ⟨g, 0, n, hn, by simp⟩
    · cases hv
  | func f =>
    simp only [oget, Option.some.injEq] at hv; subst hv
    simp only [VR, ev]
    exact ⟨#[], #[], rfl, VRs.nil, VRs.nil⟩
def RSpec (P : Program) (nt : Nat) (o : Oper) (f : OpF) : Prop :=
  ∀ s tr h k r, f s tr h k = r → r.ok → ∃ v, k v h = r ∧ ∀ B σ tm w, (∀ x ∈ o.op.operands, OpR σ nt tr tm x) → HR0 B σ h w → ∃ u, (execOp (ev tm) o).run P w = .ok (.value u) w ∧ VR σ v u
def VSpec1 (P : Program) (F : AV → (AV → Out) → Out) (S : Value → Sem Value) : Prop :=
  ∀ a k r, F a k = r → r.ok → ∃ v, k v = r ∧ ∀ σ x w, VR σ a x → ∃ u, (S x).run P w = .ok u w ∧ VR σ v u
def VSpec2 (P : Program) (F : AV → AV → (AV → Out) → Out) (S : Value → Value → Sem Value) : Prop :=
  ∀ a b k r, F a b k = r → r.ok → ∃ v, k v = r ∧ ∀ σ x y w, VR σ a x → VR σ b y → ∃ u, (S x y).run P w = .ok u w ∧ VR σ v u
def HSpec1 (P : Program) (F : AV → AH → KV → Out) (S : Value → Sem Value) : Prop :=
  ∀ a h k r, F a h k = r → r.ok → ∃ v, k v h = r ∧ ∀ B σ x w, VR σ a x → HR0 B σ h w → ∃ u, (S x).run P w = .ok u w ∧ VR σ v u
def HSpec2 (P : Program) (F : AV → AV → AH → KV → Out) (S : Value → Value → Sem Value) : Prop :=
  ∀ a b h k r, F a b h k = r → r.ok → ∃ v, k v h = r ∧ ∀ B σ x y w, VR σ a x → VR σ b y → HR0 B σ h w → ∃ u, (S x y).run P w = .ok u w ∧ VR σ v u
section
variable {P : Program} {nt : Nat} {o : Oper}
theorem p1_spec {x : Operand} {F : AV → (AV → Out) → Out} {S : Value → Sem Value} (hF : VSpec1 P F S) (he : ∀ ρ, execOp ρ o = do pure (.value (← S (ρ x)))) (hx : x ∈ o.op.operands) :
    RSpec P nt o (p1 nt x F).f := by
  intro s tr h k r e ok
  obtain ⟨a, ha, e⟩ := opd_inv (nt := nt) (x := x) (tr := tr) (k := fun v => F v fun r => k r h) e ok
  obtain ⟨v, hv, hs⟩ := hF a _ r e ok
  refine ⟨v, hv, fun B σ tm w hop hr => ?_⟩
  obtain ⟨u, hu, hvu⟩ := hs σ (ev tm x) w (hop x hx a ha)
  exact ⟨u, by rw [he]; simp [hu], hvu⟩
theorem h1_spec {x : Operand} {F : AV → AH → KV → Out} {S : Value → Sem Value} (hF : HSpec1 P F S) (he : ∀ ρ, execOp ρ o = do pure (.value (← S (ρ x)))) (hx : x ∈ o.op.operands) :
    RSpec P nt o (h1 nt x F).f := by
  intro s tr h k r e ok
  obtain ⟨a, ha, e⟩ := opd_inv (nt := nt) (x := x) (tr := tr) (k := fun v => F v h k) e ok
  obtain ⟨v, hv, hs⟩ := hF a h _ r e ok
  refine ⟨v, hv, fun B σ tm w hop hr => ?_⟩
  obtain ⟨u, hu, hvu⟩ := hs B σ (ev tm x) w (hop x hx a ha) hr
  exact ⟨u, by rw [he]; simp [hu], hvu⟩
theorem p2_spec {x y : Operand} {F : AV → AV → (AV → Out) → Out} {S : Value → Value → Sem Value} (hF : VSpec2 P F S) (he : ∀ ρ, execOp ρ o = do pure (.value (← S (ρ x) (ρ y))))
    (hx : x ∈ o.op.operands) (hy : y ∈ o.op.operands) : RSpec P nt o (p2 nt x y F).f := by
  intro s tr h k r e ok
  obtain ⟨a, ha, e⟩ := opd_inv (nt := nt) (x := x) (tr := tr) (k := fun v => (opd nt y).f tr fun w => F v w fun r => k r h) e ok
  obtain ⟨b, hb, e⟩ := opd_inv (nt := nt) (x := y) (tr := tr) (k := fun w => F a w fun r => k r h) e ok
  obtain ⟨v, hv, hs⟩ := hF a b _ r e ok
  refine ⟨v, hv, fun B σ tm w hop hr => ?_⟩
  obtain ⟨u, hu, hvu⟩ := hs σ (ev tm x) (ev tm y) w (hop x hx a ha) (hop y hy b hb)
  exact ⟨u, by rw [he]; simp [hu], hvu⟩
theorem h2_spec {x y : Operand} {F : AV → AV → AH → KV → Out} {S : Value → Value → Sem Value} (hF : HSpec2 P F S) (he : ∀ ρ, execOp ρ o = do pure (.value (← S (ρ x) (ρ y))))
    (hx : x ∈ o.op.operands) (hy : y ∈ o.op.operands) : RSpec P nt o (h2 nt x y F).f := by
  intro s tr h k r e ok
  obtain ⟨a, ha, e⟩ := opd_inv (nt := nt) (x := x) (tr := tr) (k := fun v => (opd nt y).f tr fun w => F v w h k) e ok
  obtain ⟨b, hb, e⟩ := opd_inv (nt := nt) (x := y) (tr := tr) (k := fun w => F a w h k) e ok
  obtain ⟨v, hv, hs⟩ := hF a b h _ r e ok
  refine ⟨v, hv, fun B σ tm w hop hr => ?_⟩
  obtain ⟨u, hu, hvu⟩ := hs B σ (ev tm x) (ev tm y) w (hop x hx a ha) (hop y hy b hb) hr
  exact ⟨u, by rw [he]; simp [hu], hvu⟩
end
end
end Go.Ev
namespace Go.Ev
noncomputable section
open Go
section
variable {P : Program} {op : BinOp} {xt : TypeId} {x y : Operand}
theorem guard_int (k l : IntKind) (a b : Int) (w : World) : (eqGuard op xt x y (.int k a) (.int l b)).run P w = .ok () w := by
  unfold eqGuard; split <;> simp
theorem guard_str (a b : ByteArray) (w : World) : (eqGuard op xt x y (.string a) (.string b)).run P w = .ok () w := by
  unfold eqGuard; split <;> simp
theorem guard_bool (a b : Bool) (w : World) : (eqGuard op xt x y (.bool a) (.bool b)).run P w = .ok () w := by
  unfold eqGuard; split <;> simp
theorem guard_float (k l : FloatKind) (a b : Nat) (w : World) : (eqGuard op xt x y (.float k a) (.float l b)).run P w = .ok () w := by
  unfold eqGuard; split <;> simp
theorem int2_spec {F : IntKind → Int → Int → KI → Out}
    (hF : ∀ kd a b k r, F kd a b k = r → r.ok → ∃ z, k z = r ∧ ∀ w, (Go.binOp op xt (.int kd a) (.int kd b)).run P w = .ok (.int kd z) w) : VSpec2 P (int2 F) (bin op xt x y) := by
  intro a b k r e ok
  unfold int2 at e
  obtain ⟨kd, m, rfl, e1⟩ := asI_inv e ok
  obtain ⟨kd', n, rfl, e2⟩ := asI_inv e1 ok
  obtain ⟨rfl, e3⟩ := eqK_inv e2 ok
  obtain ⟨z, hz, hr⟩ := hF _ _ _ _ _ e3 ok
  refine ⟨_, hz, fun σ u v w hu hv => ?_⟩
  simp only [VR] at hu hv
  subst hu hv
  refine ⟨_, by simp only [bin, Sem.run_bind, guard_int, Result.andThen_ok]; exact hr w, by simp [VR]⟩
theorem cmp2_spec {F : Int → Int → Bool} (hF : ∀ kd a b w, (Go.binOp op xt (.int kd a) (.int kd b)).run P w = .ok (.bool (F a b)) w) : VSpec2 P (cmp2 F) (bin op xt x y) := by
  intro a b k r e ok
  unfold cmp2 at e
  obtain ⟨kd, m, rfl, e1⟩ := asI_inv e ok
  obtain ⟨kd', n, rfl, e2⟩ := asI_inv e1 ok
  obtain ⟨rfl, e3⟩ := eqK_inv e2 ok
  rw [forceB_eq] at e3
  refine ⟨_, e3, fun σ u v w hu hv => ?_⟩
  simp only [VR] at hu hv
  subst hu hv
  exact ⟨_, by simp only [bin, Sem.run_bind, guard_int, Result.andThen_ok]; exact hF kd m n w, by simp [VR]⟩
theorem add_spec : VSpec2 P (int2 zAdd) (bin .add xt x y) := int2_spec fun kd a b k r e _ => by
  unfold zAdd at e; rw [addZ_eq, fitZ_eq] at e
  exact ⟨_, e, fun w => by simp [Go.binOp, Op.intArith]⟩
theorem sub_spec : VSpec2 P (int2 zSub) (bin .sub xt x y) := int2_spec fun kd a b k r e _ => by
  unfold zSub at e; rw [subZ_eq, fitZ_eq] at e
  exact ⟨_, e, fun w => by simp [Go.binOp, Op.intArith]⟩
theorem mul_spec : VSpec2 P (int2 zMul) (bin .mul xt x y) := int2_spec fun kd a b k r e _ => by
  unfold zMul at e; rw [mulZ_eq, fitZ_eq] at e
  exact ⟨_, e, fun w => by simp [Go.binOp, Op.intArith]⟩
theorem quo_spec : VSpec2 P (int2 zQuo) (bin .quo xt x y) := int2_spec fun kd a b k r e ok => by
  unfold zQuo at e; rw [eqZ_eq] at e
  rcases boolCases_inv e with ⟨_, e⟩ | ⟨h0, e⟩
  · subst e; exact ok.elim
  · rw [quoZ_eq, fitZ_eq] at e
    have hb : ¬ b = 0 := by simpa using h0
    exact ⟨_, e, fun w => by simp [Go.binOp, Op.intDiv, hb]⟩
theorem rem_spec : VSpec2 P (int2 zRem) (bin .rem xt x y) := int2_spec fun kd a b k r e ok => by
  unfold zRem at e; rw [eqZ_eq] at e
  rcases boolCases_inv e with ⟨_, e⟩ | ⟨h0, e⟩
  · subst e; exact ok.elim
  · rw [remZ_eq] at e
    have hb : ¬ b = 0 := by simpa using h0
    exact ⟨_, e, fun w => by simp [Go.binOp, Op.intDiv, hb]⟩
theorem and_spec : VSpec2 P (int2 zAnd) (bin .and xt x y) := int2_spec fun kd a b k r e _ => by
  rw [zAnd_eq] at e; exact ⟨_, e, fun w => by simp [Go.binOp, Op.intBits]⟩
theorem or_spec : VSpec2 P (int2 zOr) (bin .or xt x y) := int2_spec fun kd a b k r e _ => by
  rw [zOr_eq] at e; exact ⟨_, e, fun w => by simp [Go.binOp, Op.intBits]⟩
theorem xor_spec : VSpec2 P (int2 zXor) (bin .xor xt x y) := int2_spec fun kd a b k r e _ => by
  rw [zXor_eq] at e; exact ⟨_, e, fun w => by simp [Go.binOp, Op.intBits]⟩
theorem andNot_spec : VSpec2 P (int2 zAndNot) (bin .andNot xt x y) := int2_spec fun kd a b k r e _ => by
  rw [zAndNot_eq] at e; exact ⟨_, e, fun w => by simp [Go.binOp, Op.intBits]⟩
theorem eql_spec : VSpec2 P (cmp2 eqZ) (bin .eql xt x y) := cmp2_spec fun kd a b w => by simp [Go.binOp, Op.intCmp, eqZ_eq, Bool.beq_eq_decide_eq]
theorem neq_spec : VSpec2 P (cmp2 fun a b => notB (eqZ a b)) (bin .neq xt x y) := cmp2_spec fun kd a b w => by simp [Go.binOp, Op.intCmp, eqZ_eq, notB_eq, bne, Bool.beq_eq_decide_eq]
theorem lss_spec : VSpec2 P (cmp2 ltZ) (bin .lss xt x y) := cmp2_spec fun kd a b w => by simp [Go.binOp, Op.intCmp, ltZ_eq]
theorem leq_spec : VSpec2 P (cmp2 fun a b => notB (ltZ b a)) (bin .leq xt x y) := cmp2_spec fun kd a b w => by simp [Go.binOp, Op.intCmp, ltZ_eq, notB_eq, ← decide_not]
theorem gtr_spec : VSpec2 P (cmp2 fun a b => ltZ b a) (bin .gtr xt x y) := cmp2_spec fun kd a b w => by simp [Go.binOp, Op.intCmp, ltZ_eq]
theorem geq_spec : VSpec2 P (cmp2 fun a b => notB (ltZ a b)) (bin .geq xt x y) := cmp2_spec fun kd a b w => by simp [Go.binOp, Op.intCmp, ltZ_eq, notB_eq, ← decide_not]
theorem shf_spec (left : Bool) (hop : op = if left then .shl else .shr) : VSpec2 P (shf left) (bin op xt x y) := by
  intro a b k r e ok
  unfold shf at e
  obtain ⟨kd, m, rfl, e1⟩ := asI_inv e ok
  obtain ⟨kd', n, rfl, e2⟩ := asI_inv e1 ok
  cases n with
  | negSucc n => subst e2; exact ok.elim
  | ofNat n =>
    have hn : ¬ ((n : Int) < 0) := by omega
    have hnn : min (Int.ofNat n).toNat kd.bits = min n kd.bits := rfl
    cases left with
    | true =>
      subst hop
      have e : shlZ m (minN n (kbits kd)) (fun r => fitZ kd r fun r => k (.int kd r)) = r := e2
      rw [shlZ_eq, fitZ_eq, minN_eq, kbits_eq] at e
      refine ⟨_, e, fun σ u v w hu hv => ?_⟩
      simp only [VR] at hu hv
      subst hu hv
      refine ⟨.int kd (kd.wrap (m * 2 ^ min n kd.bits)), ?_, by simp [VR]⟩
      simp only [bin, Sem.run_bind, guard_int, Result.andThen_ok]
      simp [Go.binOp, Op.shift, hn]
    | false =>
      subst hop
      have e : shrZ m (minN n (kbits kd)) (fun r => k (.int kd r)) = r := e2
      rw [shrZ_eq, minN_eq, kbits_eq] at e
      refine ⟨_, e, fun σ u v w hu hv => ?_⟩
      simp only [VR] at hu hv
      subst hu hv
      refine ⟨.int kd (m.fdiv (2 ^ min n kd.bits)), ?_, by simp [VR]⟩
      simp only [bin, Sem.run_bind, guard_int, Result.andThen_ok]
      simp [Go.binOp, Op.shift, hn]
theorem bytesR_len {l : List Nat} {s : ByteArray} (h : bytesR l s) : l.length = s.size := by
  unfold bytesR at h; subst h; rw [List.length_map, Array.length_toList]; rfl
theorem u8_inj : ∀ {l m : List UInt8}, l.map UInt8.toNat = m.map UInt8.toNat → l = m
  | [], [], _ => rfl
  | [], _ :: _, h => by simp at h
  | _ :: _, [], h => by simp at h
  | a :: l, b :: m, h => by
    simp only [List.map_cons, List.cons.injEq] at h
    rw [UInt8.toNat_inj.1 h.1, u8_inj h.2]
theorem bytesR_inj {l m : List Nat} {s t : ByteArray} (h : bytesR l s) (k : bytesR m t) : l = m ↔ s = t := by
  unfold bytesR at h k
  constructor
  · rintro rfl
    have := u8_inj (h.trans k.symm)
    have hd : s.data = t.data := by rw [← Array.toList_inj]; exact this
    cases s; cases t; simpa using hd
  · rintro rfl; exact h.symm.trans k
theorem str2_spec {F : List Nat → List Nat → Bool} (hF : ∀ l m s t w, bytesR l s → bytesR m t → (Go.binOp op xt (.string s) (.string t)).run P w = .ok (.bool (F l m)) w) : VSpec2 P (str2 F) (bin op xt x y) := by
  intro a b k r e ok
  unfold str2 at e
  obtain ⟨l, rfl, e1⟩ := asS_inv e ok
  obtain ⟨m, rfl, e2⟩ := asS_inv e1 ok
  rw [forceB_eq] at e2
  refine ⟨_, e2, fun σ u v w hu hv => ?_⟩
  simp only [VR] at hu hv
  obtain ⟨s, rfl, hs⟩ := hu
  obtain ⟨t, rfl, ht⟩ := hv
  exact ⟨_, by simp only [bin, Sem.run_bind, guard_str, Result.andThen_ok]; exact hF l m s t w hs ht, by simp [VR]⟩
theorem toList_data' (s : ByteArray) : s.toList = s.data.toList := by rw [ByteArray.toList_eq]
theorem seq_eq {l m : List Nat} {s t : ByteArray} (hs : bytesR l s) (ht : bytesR m t) : (s.toList == t.toList) = eqLN l m := by
  rw [eqLN_iff, toList_data', toList_data', Bool.beq_eq_decide_eq]
  congr 1
  apply propext
  constructor
  · intro h; unfold bytesR at hs ht; rw [← hs, ← ht, h]
  · intro h; unfold bytesR at hs ht; exact u8_inj (hs.trans (h.trans ht.symm))
theorem slt_eq : ∀ {l m : List Nat} {s t : List UInt8}, s.map UInt8.toNat = l → t.map UInt8.toNat = m → Op.bytesLess s t = ltLN l m
  | _, _, s, [], h, k => by subst h k; cases s <;> rfl
  | _, _, [], b :: t, h, k => by subst h k; rfl
  | _, _, a :: s, b :: t, h, k => by
    subst h k
    simp only [Op.bytesLess, List.map_cons, ltLN, slt_eq (l := s.map UInt8.toNat) (m := t.map UInt8.toNat) rfl rfl]
    congr 2
    rw [Bool.beq_eq_decide_eq, Bool.beq_eq_decide_eq]
    congr 1
    exact propext UInt8.toNat_inj.symm
theorem slt_eq' {l m : List Nat} {s t : ByteArray} (hs : bytesR l s) (ht : bytesR m t) : Op.bytesLess s.toList t.toList = ltLN l m := by
  rw [toList_data', toList_data']; exact slt_eq hs ht
theorem seql_spec : VSpec2 P (str2 eqLN) (bin .eql xt x y) := str2_spec fun l m s t w hs ht => by simp [Go.binOp, Op.stringOp, seq_eq hs ht]
theorem sneq_spec : VSpec2 P (str2 fun a b => notB (eqLN a b)) (bin .neq xt x y) := str2_spec fun l m s t w hs ht => by simp [Go.binOp, Op.stringOp, seq_eq hs ht, notB_eq]
theorem slss_spec : VSpec2 P (str2 ltLN) (bin .lss xt x y) := str2_spec fun l m s t w hs ht => by simp [Go.binOp, Op.stringOp, slt_eq' hs ht]
theorem sleq_spec : VSpec2 P (str2 fun a b => ltLN a b || eqLN a b) (bin .leq xt x y) := str2_spec fun l m s t w hs ht => by simp [Go.binOp, Op.stringOp, slt_eq' hs ht, seq_eq hs ht]
theorem sgtr_spec : VSpec2 P (str2 fun a b => notB (ltLN a b || eqLN a b)) (bin .gtr xt x y) := str2_spec fun l m s t w hs ht => by simp [Go.binOp, Op.stringOp, slt_eq' hs ht, seq_eq hs ht, notB_eq]
theorem sgeq_spec : VSpec2 P (str2 fun a b => notB (ltLN a b)) (bin .geq xt x y) := str2_spec fun l m s t w hs ht => by simp [Go.binOp, Op.stringOp, slt_eq' hs ht, notB_eq]
theorem strAdd_spec : VSpec2 P strAdd (bin .add xt x y) := by
  intro a b k r e ok
  unfold strAdd at e
  obtain ⟨l, rfl, e1⟩ := asS_inv e ok
  obtain ⟨m, rfl, e2⟩ := asS_inv e1 ok
  rw [lenK_eq, lenK_eq] at e2
  rcases boolCases_inv e2 with ⟨hb, e3⟩ | ⟨_, e3⟩
  · rw [appK_eq] at e3
    refine ⟨_, e3, fun σ u v w hu hv => ?_⟩
    simp only [VR] at hu hv
    obtain ⟨s, rfl, hs⟩ := hu
    obtain ⟨t, rfl, ht⟩ := hv
    have hl := bytesR_len hs
    have hm := bytesR_len ht
    have hb := Nat.le_of_ble_eq_true hb
    have hb : l.length + m.length ≤ 9223372036854775807 := by simpa using hb
    refine ⟨.string (s ++ t), ?_, ?_⟩
    · simp only [bin, Sem.run_bind, guard_str, Result.andThen_ok]
      have : ¬ ((s.size + t.size : Nat) : Int) > IntKind.i64.max := by
        have : IntKind.i64.max = 9223372036854775807 := rfl
        omega
      simp only [Go.binOp, Op.stringOp, this, if_false, Sem.run_pure]
    · simp only [VR]
      refine ⟨_, rfl, ?_⟩
      unfold bytesR at hs ht ⊢
      rw [← hs, ← ht]
      simp [ByteArray.data_append]
  · subst e3; exact ok.elim
theorem run_underlying {t : TypeId} {d : TypeDesc} (h : P.underlying t = some d) (w : World) : (underlying t).run P w = .ok d w := by simp [underlying, h]
theorem eql_run {a b : Value} {t : Bool} (he : ∀ w, (eqGuard .eql xt x y a b).run P w = .ok () w) (h : Go.binOp .eql xt a b = (do pure (.bool (← Op.equal xt a b))))
    {w : World} (hq : (Op.equal xt a b).run P w = .ok t w) : (bin .eql xt x y a b).run P w = .ok (.bool t) w := by
  simp only [bin, Sem.run_bind, he, Result.andThen_ok, h, hq, Sem.run_pure]
theorem neq_run {a b : Value} {t : Bool} (he : ∀ w, (eqGuard .neq xt x y a b).run P w = .ok () w) (h : Go.binOp .neq xt a b = (do pure (.bool (!(← Op.equal xt a b)))))
    {w : World} (hq : (Op.equal xt a b).run P w = .ok t w) : (bin .neq xt x y a b).run P w = .ok (.bool (!t)) w := by
  simp only [bin, Sem.run_bind, he, Result.andThen_ok, h, hq, Sem.run_pure]
def opOf (neg : Bool) : BinOp := if neg then .neq else .eql
theorem eq_run {neg : Bool} {a b : Value} {t : Bool} (he : ∀ op w, (eqGuard op xt x y a b).run P w = .ok () w) (h : Go.binOp .eql xt a b = (do pure (.bool (← Op.equal xt a b))))
    (h' : Go.binOp .neq xt a b = (do pure (.bool (!(← Op.equal xt a b))))) {w : World} (hq : (Op.equal xt a b).run P w = .ok t w) :
    (bin (opOf neg) xt x y a b).run P w = .ok (.bool (if neg then !t else t)) w := by
  cases neg with
  | false => exact eql_run (he _) h hq
  | true => exact neq_run (he _) h' hq
theorem boolEq_spec (neg : Bool) (hx : P.underlying xt = some .bool) : VSpec2 P (boolEq neg) (bin (opOf neg) xt x y) := by
  intro a b k r e ok
  unfold boolEq at e
  obtain ⟨c, rfl, e1⟩ := asB_inv e ok
  obtain ⟨d, rfl, e2⟩ := asB_inv e1 ok
  refine ⟨_, e2, fun σ u v w hu hv => ?_⟩
  simp only [VR] at hu hv
  subst hu hv
  refine ⟨_, eq_run (fun _ _ => guard_bool _ _ _) rfl rfl (run_equal_bool w xt c d hx), ?_⟩
  cases neg <;> simp [VR, bne]
end
end
end Go.Ev
