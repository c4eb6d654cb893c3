/- A part of the proof of TopShares: for every row of weights the law returns true, and the row reads as before. No condition beyond the statement's own. -/
import Derived.Test.YtlhpdegoglgdpaaGreatDoorEvR
import Derived.Laws.BytesString
import Derived.Laws.Append
import Derived.Laws.Tables
import Derived.MapKept
set_option linter.all false
set_option linter.unusedVariables false
set_option linter.unusedSimpArgs false
set_option linter.constructorNameAsVariable false
set_option linter.deprecated false
namespace Go.Ev
noncomputable section
open Go
structure Cfg.Ok (G : Cfg) : Prop where
  info : ∀ t i, G.info t = some i → G.P.info? t = some i
  fn : ∀ f fn, G.ft.get f = some fn → G.P.funcs[f]? = some fn ∧ fn.name ≠ "runtime.NumGoroutine"
  follows : G.P.follows .mixedOrders = true
theorem und_ok {G : Cfg} (hG : G.Ok) {t : Nat} {d : TypeDesc} (h : G.und t = some d) : G.P.underlying t = some d := by
  unfold Cfg.und at h
  cases hi : G.info t with
  | none => rw [hi] at h; cases h
  | some i =>
    rw [hi] at h
    have e := hG.info t i hi
    unfold Program.underlying
    rw [e]
    obtain ⟨desc, str, size, bytes, hasP, align, fa, zero, cmp, ms⟩ := i
    cases desc with
    | named n u =>
      simp only at h ⊢
      cases hu : G.info u with
      | none => rw [hu] at h; cases h
      | some j =>
        rw [hu] at h
        simp only [Option.map_some, Option.some.injEq] at h
        rw [hG.info u j hu]; simp [h]
    | _ => simp_all
theorem size_ok {G : Cfg} (hG : G.Ok) {t n : Nat} (h : G.size t = some n) : (G.P.info? t).map (·.size) = some n := by
  unfold Cfg.size at h
  cases hi : G.info t with
  | none => rw [hi] at h; cases h
  | some i => rw [hi] at h; rw [hG.info t i hi]; exact h
section
variable {G : Cfg} {xt : TypeId} {x y : Operand} {P : Program}
theorem give_neg (neg t : Bool) : (if neg then notB t else t) = (if neg then !t else t) := by cases neg <;> simp [notB_eq]
theorem guard_ptr (a b : Option Addr) (op : BinOp) (w : World) : (eqGuard op xt x y (.pointer a) (.pointer b)).run P w = .ok () w := by
  unfold eqGuard; split <;> simp
theorem guard_slice (a b : Option Addr) (l m c d : Nat) (op : BinOp) (w : World) : (eqGuard op xt x y (.slice a l c) (.slice b m d)).run P w = .ok () w := by
  unfold eqGuard; split <;> simp
theorem guard_map (a b : Option Nat) (op : BinOp) (w : World) : (eqGuard op xt x y (.map a) (.map b)).run P w = .ok () w := by
  unfold eqGuard; split <;> simp
theorem run_sizeOf {t n : Nat} (h : (P.info? t).map (·.size) = some n) (w : World) : (sizeOf t).run P w = .ok n w := by
  unfold sizeOf typeInfo
  cases hi : P.info? t with
  | none => rw [hi] at h; cases h
  | some i => rw [hi] at h; simp only [Option.map_some, Option.some.injEq] at h; simp [hi, h]
theorem run_sameAddr {w : World} {a b : Addr} {ca cb : Array Value} {ea eb la lb : Nat} (ha : w.heap[a.block]? = some (.cells ca ea (la, la))) (hb : w.heap[b.block]? = some (.cells cb eb (lb, lb))) :
    (sameAddr a b).run P w = .ok (a == b) w := by
  unfold sameAddr
  by_cases e : a.block = b.block
  · simp [e]
  · have hne : (a == b) = false := by
      rw [beq_eq_false_iff_ne]; rintro rfl; exact e rfl
    have fa : w.frozen? a = false := by simp only [World.frozen?, ha]; simp
    have fb : ∀ o, w.frozen? ⟨b.block, o, none⟩ = false := fun o => by simp only [World.frozen?, hb]; simp
    have fb' : w.frozen? b = false := by simp only [World.frozen?, hb]; simp
    have fa' : ∀ o, w.frozen? ⟨a.block, o, none⟩ = false := fun o => by simp only [World.frozen?, ha]; simp
    have sa : w.shape? a.block = some (ea, ca.size) := by simp [World.shape?, ha]
    have sb : w.shape? b.block = some (eb, cb.size) := by simp [World.shape?, hb]
    simp [e, fa, fb', noView, viewAt, sa, sb, mayBeOne, stringish, fb, fa', hne]
theorem equalIn_nilptr (d : Nat) {t e : TypeId} (h : P.underlying t = some (.pointer e)) (b : Option Addr) (w : World) : (Op.equalIn (d + 1) t (.pointer none) (.pointer b)).run P w = .ok b.isNone w := by
  simp only [Op.equalIn, Sem.run_bind, Go.run_underlying h, Result.andThen_ok, Sem.run_pure]
theorem equalIn_ptr (d : Nat) {t e n : Nat} (h : P.underlying t = some (.pointer e)) (hs : (P.info? e).map (·.size) = some (n + 1)) (a b : Addr) (w : World) :
    (Op.equalIn (d + 1) t (.pointer (some a)) (.pointer (some b))).run P w = (sameAddr a b).run P w := by
  simp only [Op.equalIn, Sem.run_bind, Go.run_underlying h, Result.andThen_ok, run_sizeOf hs]
  simp
theorem ptrEq_spec (hG : G.Ok) (neg : Bool) (e : Nat) (hx : G.und xt = some (.pointer e)) : HSpec2 G.P (ptrEq G xt neg) (bin (opOf neg) xt x y) := by
  intro a b h k r eq ok
  have hp := und_ok hG hx
  unfold ptrEq at eq
  simp only [give_neg] at eq
  split at eq
  · refine ⟨_, eq, fun B σ u v w hu hv hr => ?_⟩
    simp only [VR] at hu hv; subst hu hv
    refine ⟨.bool (if neg then !true else true), eq_run (fun _ _ => guard_ptr _ _ _ _) rfl rfl (equalIn_nilptr 9999 hp none w), by cases neg <;> simp [VR]⟩
  · refine ⟨_, eq, fun B σ u v w hu hv hr => ?_⟩
    simp only [VR] at hu hv; obtain ⟨c, d, n, _, rfl⟩ := hv; subst hu
    exact ⟨.bool (if neg then !false else false), eq_run (fun _ _ => guard_ptr _ _ _ _) rfl rfl (equalIn_nilptr 9999 hp _ w), by cases neg <;> simp [VR]⟩
  · refine ⟨_, eq, fun B σ u v w hu hv hr => ?_⟩
    simp only [VR] at hu hv; obtain ⟨c, d, n, _, rfl⟩ := hu; subst hv
    have hp' : G.P.underlying xt = some (.pointer (G.P.pointee xt)) := by rw [hp]; congr 2; simp [Program.pointee, hp]
    exact ⟨.bool (if neg then !false else false), eq_run (fun _ _ => guard_ptr _ _ _ _) rfl rfl (run_equal_pointer_nil w xt _ hp'), by cases neg <;> simp [VR]⟩
  · rename_i b o c p
    split at eq
    · rename_i m hm
      have hsz : (G.P.info? e).map (·.size) = some (m + 1) := by
        refine size_ok hG ?_
        unfold Cfg.elemSize at hm; rw [hx] at hm; exact hm
      rcases boolCases_inv eq with ⟨hbc, eq1⟩ | ⟨hbc, eq1⟩
      · have hbc : b = c := Nat.eq_of_beq_eq_true hbc
        subst hbc
        refine ⟨_, eq1, fun B σ u v w hu hv hr => ?_⟩
        simp only [VR] at hu hv
        obtain ⟨c1, d1, n1, h1, rfl⟩ := hu
        obtain ⟨c2, d2, n2, h2, rfl⟩ := hv
        rw [h1] at h2; cases h2
        refine ⟨.bool (if neg then !(Nat.beq o p) else Nat.beq o p), eq_run (fun _ _ => guard_ptr _ _ _ _) rfl rfl ((equalIn_ptr 9999 hp hsz _ _ w).trans ?_), by cases neg <;> simp [VR]⟩
        simp only [sameAddr, beq_self_eq_true, if_true, Sem.run_pure]
        congr 1
        rw [Bool.eq_iff_iff]
        simp
      · obtain ⟨X, hX, eq2⟩ := hget_inv eq1 ok
        obtain ⟨cs, ce, f, rfl, eq3⟩ := asCells_inv eq2 ok
        obtain ⟨Y, hY, eq4⟩ := hget_inv eq3 ok
        obtain ⟨cs', ce', f', rfl, eq5⟩ := asCells_inv eq4 ok
        have hne : b ≠ c := Nat.ne_of_beq_eq_false hbc
        cases f <;> cases f' <;> first | (subst eq5; exact ok.elim) | skip
        refine ⟨_, eq5, fun B σ u v w hu hv hr => ?_⟩
        simp only [VR] at hu hv
        obtain ⟨c1, d1, n1, h1, rfl⟩ := hu
        obtain ⟨c2, d2, n2, h2, rfl⟩ := hv
        obtain ⟨cc, lo, hi, hc, _, hf, _⟩ := hr.cells hX h1
        obtain ⟨cc', lo', hi', hc', _, hf', _⟩ := hr.cells hY h2
        simp only [FlR] at hf hf'; replace hf := hf.1; replace hf' := hf'.1; subst hf hf'
        have hcc : c1 ≠ c2 := by rintro rfl; exact hne (hr.inj b c _ _ c1 d1 n1 d2 n2 hX rfl hY rfl h1 h2)
        refine ⟨.bool (if neg then !false else false), eq_run (fun _ _ => guard_ptr _ _ _ _) rfl rfl ((equalIn_ptr 9999 hp hsz _ _ w).trans ?_), by cases neg <;> simp [VR]⟩
        rw [run_sameAddr (P := G.P) (w := w) (a := ⟨c1, o + d1, none⟩) (b := ⟨c2, p + d2, none⟩) hc hc']
        congr 1
        rw [beq_eq_false_iff_ne]
        intro h; exact hcc (congrArg Addr.block h)
    · subst eq; exact ok.elim
  · subst eq; exact ok.elim
theorem nilEqS_spec (hG : G.Ok) (neg : Bool) {e : Nat} (hx : G.und xt = some (.slice e)) : VSpec2 G.P (nilEqS neg) (bin (opOf neg) xt x y) := by
  intro a b k r eq ok
  have hp := und_ok hG hx
  unfold nilEqS at eq
  simp only [give_neg] at eq
  split at eq
  · refine ⟨_, eq, fun σ u v w hu hv => ?_⟩
    simp only [VR] at hu hv; subst hu hv
    exact ⟨.bool (if neg then !true else true), eq_run (fun _ _ => guard_slice _ _ _ _ _ _ _ _) rfl rfl (run_equal_slice_nil w xt e none 0 0 hp), by cases neg <;> simp [VR]⟩
  · refine ⟨_, eq, fun σ u v w hu hv => ?_⟩
    simp only [VR] at hu hv; subst hu
    obtain ⟨c, d, n, j, cap', _, rfl, _, _⟩ := hv
    refine ⟨.bool (if neg then !false else false), eq_run (fun _ _ => guard_slice _ _ _ _ _ _ _ _) rfl rfl ?_, by cases neg <;> simp [VR]⟩
    show (Op.equalIn (9999 + 1) xt _ _).run G.P w = _
    generalize 9999 = dd
    simp only [Op.equalIn, Sem.run_bind, Go.run_underlying hp, Result.andThen_ok, Sem.run_pure]; rfl
  · refine ⟨_, eq, fun σ u v w hu hv => ?_⟩
    simp only [VR] at hu hv; subst hv
    obtain ⟨c, d, n, j, cap', _, rfl, _, _⟩ := hu
    exact ⟨.bool (if neg then !false else false), eq_run (fun _ _ => guard_slice _ _ _ _ _ _ _ _) rfl rfl (run_equal_slice_nil w xt e _ _ _ hp), by cases neg <;> simp [VR]⟩
  · subst eq; exact ok.elim
theorem nilEqM_spec (hG : G.Ok) (neg : Bool) {kt e : Nat} (hx : G.und xt = some (.map kt e)) : VSpec2 G.P (nilEqM neg) (bin (opOf neg) xt x y) := by
  intro a b k r eq ok
  have hp := und_ok hG hx
  unfold nilEqM at eq
  simp only [give_neg] at eq
  split at eq
  · refine ⟨_, eq, fun σ u v w hu hv => ?_⟩
    simp only [VR] at hu hv; subst hu hv
    exact ⟨.bool (if neg then !true else true), eq_run (fun _ _ => guard_map _ _ _ _) rfl rfl (run_equal_map_nil w xt kt e none hp), by cases neg <;> simp [VR]⟩
  · refine ⟨_, eq, fun σ u v w hu hv => ?_⟩
    simp only [VR] at hu hv; subst hu
    obtain ⟨c, d, n, _, rfl⟩ := hv
    refine ⟨.bool (if neg then !false else false), eq_run (fun _ _ => guard_map _ _ _ _) rfl rfl ?_, by cases neg <;> simp [VR]⟩
    show (Op.equalIn (9999 + 1) xt _ _).run G.P w = _
    generalize 9999 = dd
    simp only [Op.equalIn, Sem.run_bind, Go.run_underlying hp, Result.andThen_ok, Sem.run_pure]; rfl
  · refine ⟨_, eq, fun σ u v w hu hv => ?_⟩
    simp only [VR] at hu hv; subst hv
    obtain ⟨c, d, n, _, rfl⟩ := hu
    exact ⟨.bool (if neg then !false else false), eq_run (fun _ _ => guard_map _ _ _ _) rfl rfl (run_equal_map_nil w xt kt e _ hp), by cases neg <;> simp [VR]⟩
  · subst eq; exact ok.elim
theorem guard_nilFunc (b : Value) (hb : b ≠ .nilIface) (op : BinOp) (w : World) : (eqGuard op xt x y .nilFunc b).run P w = .ok () w := by
  unfold eqGuard; split <;> simp
theorem guard_func (fn : Fn) (a c : Array Value) (b : Value) (op : BinOp) (w : World) : (eqGuard op xt x y (.func fn a c) b).run P w = .ok () w := by
  unfold eqGuard; split <;> simp
theorem nilEqF_spec (hG : G.Ok) (neg : Bool) {ps rs : Array TypeId} {vd : Bool} (hx : G.und xt = some (.func ps rs vd)) : VSpec2 G.P (nilEqF neg) (bin (opOf neg) xt x y) := by
  intro a b k r eq ok
  have hp := und_ok hG hx
  unfold nilEqF at eq
  simp only [give_neg] at eq
  split at eq
  · refine ⟨_, eq, fun σ u v w hu hv => ?_⟩
    simp only [VR] at hu hv; subst hu hv
    refine ⟨.bool (if neg then !true else true), eq_run (fun _ _ => guard_nilFunc _ (by simp) _ _) rfl rfl ?_, by cases neg <;> simp [VR]⟩
    show (Op.equalIn (9999 + 1) xt _ _).run G.P w = _
    generalize 9999 = dd
    simp only [Op.equalIn, Sem.run_bind, Go.run_underlying hp, Result.andThen_ok, Sem.run_pure]
  · refine ⟨_, eq, fun σ u v w hu hv => ?_⟩
    simp only [VR] at hu hv; subst hu
    obtain ⟨a', c', rfl, _⟩ := hv
    refine ⟨.bool (if neg then !false else false), eq_run (fun _ _ => guard_nilFunc _ (by simp) _ _) rfl rfl ?_, by cases neg <;> simp [VR]⟩
    show (Op.equalIn (9999 + 1) xt _ _).run G.P w = _
    generalize 9999 = dd
    simp only [Op.equalIn, Sem.run_bind, Go.run_underlying hp, Result.andThen_ok, Sem.run_pure]
  · refine ⟨_, eq, fun σ u v w hu hv => ?_⟩
    simp only [VR] at hu hv; subst hv
    obtain ⟨a', c', rfl, _⟩ := hu
    refine ⟨.bool (if neg then !false else false), eq_run (fun _ _ => guard_func _ _ _ _ _ _) rfl rfl ?_, by cases neg <;> simp [VR]⟩
    show (Op.equalIn (9999 + 1) xt _ _).run G.P w = _
    generalize 9999 = dd
    simp only [Op.equalIn, Sem.run_bind, Go.run_underlying hp, Result.andThen_ok, Sem.run_pure]
  · subst eq; exact ok.elim
theorem bix_inj {a b : BinOp} (h : Nat.beq (bix a) (bix b) = true) : a = b := by
  have h := Nat.eq_of_beq_eq_true h
  cases a <;> cases b <;> first | rfl | (simp [bix] at h)
theorem findS_inv {op : BinOp} {v w : AV} {r : Out} (ok : r.ok) : ∀ {l : List SR} {k : AV → Out}, findS op v w l k = r → ∃ q ∈ l, k q.r = r ∧ q.op = op ∧ AV.beq q.a v = true ∧ AV.beq q.b w = true
  | [], k, e => by subst e; exact ok.elim
  | q :: l, k, e => by
    have e : (Bool.casesOn (Nat.beq (bix q.op) (bix op) && AV.beq q.a v && AV.beq q.b w) (findS op v w l k) (k q.r) : Out) = r := e
    rcases boolCases_inv e with ⟨h, e⟩ | ⟨_, e⟩
    · simp only [Bool.and_eq_true] at h
      exact ⟨q, List.mem_cons_self, e, bix_inj h.1.1, h.1.2, h.2⟩
    · obtain ⟨q', hq, h⟩ := findS_inv ok e
      exact ⟨q', List.mem_cons_of_mem _ hq, h⟩
theorem symBin_spec {op : BinOp} (beq_eq : ∀ a b, AV.beq a b = true → a = b) : HSpec2 P (symBin op) (bin op xt x y) := by
  intro a b h k r eq ok
  unfold symBin at eq
  obtain ⟨hna, eq⟩ := guardB_inv eq ok
  obtain ⟨xb, hx, eq⟩ := hget_inv eq ok
  split at eq
  · rename_i l
    obtain ⟨q, hq, e1, h1, h2, h3⟩ := findS_inv ok eq
    have h2 := beq_eq _ _ h2
    have h3 := beq_eq _ _ h3
    refine ⟨q.r, e1, fun B σ p p' w hp hp' hr => ?_⟩
    obtain ⟨⟨c, d, n⟩, hs⟩ := hr.syms.1
    have hsr := (show ∀ q ∈ l, SRok σ q from hr.blk _ _ _ _ _ hx hs) q hq
    unfold SRok at hsr
    rw [if_neg (by rw [h2, h3, hna]; simp)] at hsr
    obtain ⟨va, vb, u, ha, hb, hu, ho, hrun⟩ := hsr
    subst h1
    have e1 := atomV.of ha (h2 ▸ hp)
    have e2 := atomV.of hb (h3 ▸ hp')
    subst e1 e2
    exact ⟨u, hrun P xt x y w, atomV.to hu ho⟩
  · subst eq; exact ok.elim
theorem symQ_inv {v : AV} {yes no r : Out} (e : symQ v yes no = r) : (yes = r ∧ ∃ i, v = .sym i) ∨ no = r := by
  cases v <;> first | exact .inr e | exact .inl ⟨e, _, rfl⟩
theorem int2S_spec {op : BinOp} (beq_eq : ∀ a b, AV.beq a b = true → a = b) {F : AV → AV → (AV → Out) → Out} (hF : VSpec2 P F (bin op xt x y)) : HSpec2 P (int2S op F) (bin op xt x y) := by
  intro a b h k r eq ok
  unfold int2S at eq
  rcases symQ_inv eq with ⟨eq, _⟩ | eq
  · exact symBin_spec beq_eq _ _ _ _ _ eq ok
  · rcases symQ_inv eq with ⟨eq, _⟩ | eq
    · exact symBin_spec beq_eq _ _ _ _ _ eq ok
    · obtain ⟨v, e1, hv⟩ := hF a b _ r eq ok
      exact ⟨v, e1, fun B σ p q w hp hq _ => hv σ p q w hp hq⟩
theorem findC_inv {v : AV} {r : Out} (ok : r.ok) : ∀ {l : List SR} {k : AV → Out}, findC v l k = r → ∃ q ∈ l, k q.r = r ∧ AV.beq q.a v = true ∧ AV.beq q.b .undef = true
  | [], k, e => by have e : Out.bad 85 = r := e; subst e; exact ok.elim
  | q :: l, k, e => by
    have e : (Bool.casesOn (AV.beq q.a v && AV.beq q.b .undef) (findC v l k) (k q.r) : Out) = r := e
    rcases boolCases_inv e with ⟨hb, e⟩ | ⟨hb, e⟩
    · simp only [Bool.and_eq_true] at hb
      exact ⟨q, by simp, e, hb.1, hb.2⟩
    · obtain ⟨q', hq, h⟩ := findC_inv ok e
      exact ⟨q', by simp [hq], h⟩
theorem fltBin_spec {op : BinOp} (beq_eq : ∀ a b, AV.beq a b = true → a = b) : HSpec2 P (fltBin op) (bin op xt x y) := by
  intro a b h k r eq ok
  unfold fltBin at eq
  split at eq
  · rename_i kd a kd' b
    split at eq
    · subst eq; exact ok.elim
    · rename_i hk
      have hk : kd = kd' := Classical.not_not.1 hk
      subst hk
      have key : ∃ v u, k v h = r ∧ (∀ w, (bin op xt x y (.float kd a) (.float kd b)).run P w = .ok u w) ∧ ∀ σ, VR σ v u := by
        have hb : ∀ w, (bin op xt x y (.float kd a) (.float kd b)).run P w = (Go.binOp op xt (.float kd a) (.float kd b)).run P w := fun w => by
          simp only [bin, Sem.run_bind, guard_float, Result.andThen_ok]
        simp only [hb]
        cases op <;> simp only at eq
        case add =>
          split at eq
          · rename_i z hz
            exact ⟨_, .float kd z, eq, fun w => by simp [Go.binOp, Op.floatArith, hz], fun σ => by simp [VR]⟩
          · subst eq; exact ok.elim
        case sub =>
          split at eq
          · rename_i z hz
            exact ⟨_, .float kd z, eq, fun w => by simp [Go.binOp, Op.floatArith, hz], fun σ => by simp [VR]⟩
          · subst eq; exact ok.elim
        case mul =>
          split at eq
          · rename_i z hz
            exact ⟨_, .float kd z, eq, fun w => by simp [Go.binOp, Op.floatArith, hz], fun σ => by simp [VR]⟩
          · subst eq; exact ok.elim
        case quo =>
          split at eq
          · rename_i z hz
            exact ⟨_, .float kd z, eq, fun w => by simp [Go.binOp, Op.floatArith, hz], fun σ => by simp [VR]⟩
          · subst eq; exact ok.elim
        case eql => exact ⟨_, _, eq, fun w => by simp only [Go.binOp, Op.floatCmp, ne_eq, not_true_eq_false, if_false]; rfl, fun σ => by simp [VR]⟩
        case neq => exact ⟨_, _, eq, fun w => by simp only [Go.binOp, Op.floatCmp, ne_eq, not_true_eq_false, if_false]; rfl, fun σ => by simp [VR]⟩
        case lss => exact ⟨_, _, eq, fun w => by simp only [Go.binOp, Op.floatCmp, ne_eq, not_true_eq_false, if_false]; rfl, fun σ => by simp [VR]⟩
        case leq => exact ⟨_, _, eq, fun w => by simp only [Go.binOp, Op.floatCmp, ne_eq, not_true_eq_false, if_false]; rfl, fun σ => by simp [VR]⟩
        case gtr => exact ⟨_, _, eq, fun w => by simp only [Go.binOp, Op.floatCmp, ne_eq, not_true_eq_false, if_false]; rfl, fun σ => by simp [VR]⟩
        case geq => exact ⟨_, _, eq, fun w => by simp only [Go.binOp, Op.floatCmp, ne_eq, not_true_eq_false, if_false]; rfl, fun σ => by simp [VR]⟩
        all_goals (subst eq; exact ok.elim)
      obtain ⟨v, u, hv, hu, hR⟩ := key
      refine ⟨v, hv, fun B σ p q w hp hq _ => ?_⟩
      simp only [VR] at hp hq; subst hp hq
      exact ⟨u, hu w, hR σ⟩
  · exact symBin_spec beq_eq _ _ _ _ _ eq ok
end
end
end Go.Ev
namespace Go.Ev
noncomputable section
open Go
section
variable {G : Cfg} {xt : TypeId} {x y : Operand}
theorem notIface_tag {fl : Bool} {t : Nat} {tg : Tg} (hG : G.Ok) (h : tagOf G fl t = some tg) :
    match tg with
    | .int => ∃ k, G.P.underlying t = some (.int k)
    | .str => G.P.underlying t = some .string
    | .bool => G.P.underlying t = some .bool
    | .flt => ∃ k, G.P.underlying t = some (.float k) := by
  unfold tagOf at h
  split at h
  · rename_i k hk; cases h; exact ⟨k, und_ok hG hk⟩
  · rename_i hk; cases h; exact und_ok hG hk
  · rename_i hk; cases h; exact und_ok hG hk
  · rename_i k hk
    split at h
    · cases h; exact ⟨k, und_ok hG hk⟩
    · cases h
  · cases h
theorem cellEq_spec (hG : G.Ok) {fl : Bool} {t : Nat} {tg : Tg} (ht : tagOf G fl t = some tg) {a b : AV} {k : Bool → Out} {r : Out} (e : cellEq tg a b k = r) (ok : r.ok) :
    ∃ q, k q = r ∧ ∀ σ u v, VR σ a u → VR σ b v → ∀ d w, (Op.equalIn (d + 1) t u v).run G.P w = .ok q w := by
  have hu := notIface_tag hG ht
  cases tg with
  | int =>
    obtain ⟨ki, hu⟩ := hu
    obtain ⟨kd, m, rfl, e1⟩ := asI_inv e ok
    obtain ⟨kd', n, rfl, e2⟩ := asI_inv e1 ok
    obtain ⟨rfl, e3⟩ := eqK_inv e2 ok
    rw [forceB_eq] at e3
    refine ⟨_, e3, fun σ u v h1 h2 d w => ?_⟩
    simp only [VR] at h1 h2; subst h1 h2
    rw [run_equalIn_int w d t kd ki m n hu, eqZ_eq, Bool.beq_eq_decide_eq]
  | str =>
    obtain ⟨m, rfl, e1⟩ := asS_inv e ok
    obtain ⟨n, rfl, e2⟩ := asS_inv e1 ok
    rw [forceB_eq] at e2
    refine ⟨_, e2, fun σ u v h1 h2 d w => ?_⟩
    simp only [VR] at h1 h2
    obtain ⟨s, rfl, h1⟩ := h1
    obtain ⟨s', rfl, h2⟩ := h2
    rw [run_equalIn_string w d t s s' hu, seq_eq h1 h2]
  | bool =>
    obtain ⟨m, rfl, e1⟩ := asB_inv e ok
    obtain ⟨n, rfl, e2⟩ := asB_inv e1 ok
    rw [forceB_eq] at e2
    refine ⟨_, e2, fun σ u v h1 h2 d w => ?_⟩
    simp only [VR] at h1 h2; subst h1 h2
    exact run_equalIn_bool w d t m n hu
  | flt =>
    obtain ⟨kf, hu⟩ := hu
    simp only [cellEq] at e
    split at e
    · rename_i kd m kd' n
      split at e
      · rename_i hk; subst hk
        rw [forceB_eq] at e
        refine ⟨_, e, fun σ u v h1 h2 d w => ?_⟩
        simp only [VR] at h1 h2; subst h1 h2
        simp [Op.equalIn, Go.run_underlying hu, Op.floatEq]
      · subst e; exact ok.elim
    · subst e; exact ok.elim
theorem agg_tag {fl : Bool} {t : Nat} {tg : Tg} (hG : G.Ok) (h : tagOf G fl t = some tg) (w : World) : (isAgg t).run G.P w = .ok false w := by
  have hu := notIface_tag hG h
  unfold isAgg
  cases tg with
  | int => obtain ⟨k, hu⟩ := hu; simp [Go.run_underlying hu]
  | str => simp [Go.run_underlying (show G.P.underlying t = some .string from hu)]
  | bool => simp [Go.run_underlying (show G.P.underlying t = some .bool from hu)]
  | flt => obtain ⟨k, hu⟩ := hu; simp [Go.run_underlying hu]
theorem run_part {P : Program} {t off : Nat} {cs : Array Value} {v : Value} {w : World} (ha : (isAgg t).run P w = .ok false w) (hc : cs[off]? = some v) : (part t cs off).run P w = .ok v w := by
  unfold part
  simp [ha, hc]
theorem cellsEq_spec (hG : G.Ok) {fl : Bool} : ∀ (fs : List Field) (i : Nat) (ts : List Tg), tagsOf G fl fs i = some ts → ∀ (a b : List AV) (k : Bool → Out) (r : Out), cellsEq ts a b k = r → r.ok →
    ∃ q, k q = r ∧ ∀ σ (xs ys : Array Value), VRs σ a (xs.toList.drop i) → VRs σ b (ys.toList.drop i) → ∀ d w, (Op.eqFields (d + 1) xs ys fs).run G.P w = .ok q w
  | [], i, ts, ht, a, b, k, r, e, ok => by
    simp only [tagsOf, Option.some.injEq] at ht; subst ht
    cases a with
    | nil => cases b with
      | nil => exact ⟨true, e, fun σ xs ys _ _ d w => by simp [Op.eqFields]⟩
      | cons b l => subst e; exact ok.elim
    | cons a l => subst e; exact ok.elim
  | f :: fs, i, ts, ht, a, b, k, r, e, ok => by
    simp only [tagsOf] at ht
    split at ht
    · cases ht
    · rename_i hn
      simp only [Bool.or_eq_true, not_or, beq_iff_eq, bne_iff_ne, ne_eq, Classical.not_not] at hn
      obtain ⟨hn, ho⟩ := hn
      split at ht
      · rename_i tg ts' htg hts
        cases ht
        cases a with
        | nil => subst e; exact ok.elim
        | cons a l => cases b with
          | nil => subst e; exact ok.elim
          | cons b m =>
            have e : cellEq tg a b (fun q => Bool.casesOn q (k false) (cellsEq ts' l m k)) = r := e
            obtain ⟨q, e1, hq⟩ := cellEq_spec hG htg e ok
            have step : ∀ σ (xs ys : Array Value), VRs σ (a :: l) (xs.toList.drop i) → VRs σ (b :: m) (ys.toList.drop i) → ∀ d w,
                (Op.eqFields (d + 1) xs ys (f :: fs)).run G.P w = if (!q) = true then .ok false w else (Op.eqFields (d + 1) xs ys fs).run G.P w := by
              intro σ xs ys hx hy d w
              obtain ⟨u, hu, ru⟩ := hx.get 0 a rfl
              obtain ⟨v, hv, rv⟩ := hy.get 0 b rfl
              have hu : xs[f.offset]? = some u := by rw [ho]; simpa using hu
              have hv : ys[f.offset]? = some v := by rw [ho]; simpa using hv
              simp only [Op.eqFields, if_pos hn, Sem.run_bind, run_part (agg_tag hG htg w) hu, run_part (agg_tag hG htg w) hv, Result.andThen_ok, hq σ u v ru rv d w, Sem.run_ite, Sem.run_pure]
            rcases boolCases_inv e1 with ⟨rfl, e2⟩ | ⟨rfl, e2⟩
            · obtain ⟨q2, e3, h3⟩ := cellsEq_spec hG fs (i + 1) ts' hts l m k r e2 ok
              refine ⟨q2, e3, fun σ xs ys hx hy d w => ?_⟩
              rw [step σ xs ys hx hy d w]
              simp only [Bool.not_true, Bool.false_eq_true, if_false]
              refine h3 σ xs ys ?_ ?_ d w
              · have := hx.drop 1; simpa [Nat.add_comm] using this
              · have := hy.drop 1; simpa [Nat.add_comm] using this
            · exact ⟨false, e2, fun σ xs ys hx hy d w => by rw [step σ xs ys hx hy d w]; simp⟩
      · cases ht
theorem eqGuard_tag {fl : Bool} {t : Nat} {tg : Tg} (hG : G.Ok) (h : tagOf G fl t = some tg) (d : Nat) : G.P.eqGuardType (d + 1) t = false := by
  have hu := notIface_tag hG h
  cases tg with
  | int => obtain ⟨k, hu⟩ := hu; simp [Program.eqGuardType, hu]
  | str => simp [Program.eqGuardType, show G.P.underlying t = some .string from hu]
  | bool => simp [Program.eqGuardType, show G.P.underlying t = some .bool from hu]
  | flt => obtain ⟨k, hu⟩ := hu; simp [Program.eqGuardType, hu]
theorem eqGuard_tags (hG : G.Ok) {fl : Bool} : ∀ (fs : List Field) (i : Nat) (ts : List Tg), tagsOf G fl fs i = some ts → ∀ d, (fs.any fun f => f.name != "_" && G.P.eqGuardType (d + 1) f.type) = false
  | [], _, _, _, _ => rfl
  | f :: fs, i, ts, ht, d => by
    simp only [tagsOf] at ht
    split at ht
    · cases ht
    · split at ht
      · rename_i tg ts' htg hts
        simp only [List.any_cons, eqGuard_tag hG htg d, Bool.and_false, Bool.false_or]
        exact eqGuard_tags hG fs (i + 1) ts' hts d
      · cases ht
theorem aggEq_spec (hG : G.Ok) (neg : Bool) {ts : List Tg} (hx : eqT G xt = some ts) : VSpec2 G.P (aggEq ts neg) (bin (opOf neg) xt x y) := by
  intro a b k r e ok
  unfold eqT at hx
  split at hx
  · rename_i fs hfs
    split at hx
    · cases hx
    · rename_i hst
      have hst : G.P.stoodInHeld xt = false := by simpa using hst
      have hu := und_ok hG hfs
      have hf : G.P.fieldsOf xt = fs := by simp [Program.fieldsOf, hu]
      have hu' : G.P.underlying xt = some (.struct (G.P.fieldsOf xt)) := by rw [hf]; exact hu
      unfold aggEq at e
      obtain ⟨l, rfl, e1⟩ := asAgg_inv e ok
      obtain ⟨m, rfl, e2⟩ := asAgg_inv e1 ok
      obtain ⟨q, e3, hq⟩ := cellsEq_spec hG fs.toList 0 ts hx l m _ r e2 ok
      refine ⟨_, e3, fun σ u v w h1 h2 => ?_⟩
      simp only [VR] at h1 h2
      obtain ⟨xs, rfl, h1⟩ := h1
      obtain ⟨ys, rfl, h2⟩ := h2
      have hg : G.P.eqGuardType G.P.depth xt = false := by
        show G.P.eqGuardType (2 * (G.P.types.size + Made.depth) + 1 + 1) xt = false
        simp only [Program.eqGuardType, hu]
        rw [← Array.any_toList]
        exact eqGuard_tags hG fs.toList 0 ts hx _
      have hrun : (Op.equal xt (.agg xs) (.agg ys)).run G.P w = .ok q w := by
        show (Op.equalIn (9999 + 1) xt _ _).run G.P w = _
        rw [run_equalIn_struct w 9999 xt xs ys hu' hst, hf]
        exact hq σ xs ys (by simpa using h1) (by simpa using h2) 9998 w
      rw [give_neg]
      exact ⟨.bool (if neg then !q else q), eq_run (fun op w => run_eqGuard_agg w op xt x y xs ys hg) rfl rfl hrun, by cases neg <;> simp [VR]⟩
  · cases hx
end
end
end Go.Ev
namespace Go.Ev
noncomputable section
open Go
section
variable {G : Cfg} {xt : TypeId} {x y : Operand} {P : Program}
theorem guard_nilIfc {op : BinOp} (hG : G.Ok) {ms : Array (String × TypeId)} (hfree : (isConst x || isConst y || ms.isEmpty) = true)
    (hx : G.und xt = some (.interface ms)) (w : World) : (eqGuard op xt x y .nilIface .nilIface).run G.P w = .ok () w := by
  have hp := und_ok hG hx
  have hr : (Op.eqGuardIn Op.maxDepth xt .nilIface .nilIface).run G.P w = .ok (!ms.isEmpty) w := by
    show (Op.eqGuardIn (9999 + 1) xt _ _).run G.P w = _
    generalize 9999 = d
    simp only [Op.eqGuardIn, Sem.run_bind, Go.run_underlying hp, Result.andThen_ok, Sem.run_pure]
  have key : ∀ op : BinOp, (eqGuard op xt x y .nilIface .nilIface).run G.P w = if !(op matches .eql | .neq) then .ok () w else if (isConst x || isConst y) = true then .ok () w else
      (if (!ms.isEmpty) = true then (eqGuard op xt x y .nilIface .nilIface).run G.P w else .ok () w) := by
    intro op
    cases h1 : (isConst x || isConst y)
    · cases h2 : ms.isEmpty
      · cases op <;> simp [eqGuard]
      · have hm : (Op.eqGuardIn Op.maxDepth xt .nilIface .nilIface).run G.P w = .ok false w := by rw [hr, h2]; rfl
        cases op <;> simp [eqGuard, hm] <;> (cases x <;> cases y <;> simp_all [isConst])
    · cases op <;> simp [eqGuard] <;> (cases x <;> cases y <;> simp_all [isConst])
  rw [key op]
  by_cases h1 : (isConst x || isConst y) = true
  · simp only [h1, if_true, ite_self]
  · have h2 : (isConst x || isConst y) = false := by simpa using h1
    have h3 : ms.isEmpty = true := by rw [h2] at hfree; simpa using hfree
    simp only [h3, Bool.not_true, Bool.false_eq_true, if_false, ite_self]
theorem guard_nilIfc' {op : BinOp} (t : TypeId) (v : Value) (w : World) : (eqGuard op xt x y .nilIface (.iface t v)).run P w = .ok () w := by
  unfold eqGuard; split <;> simp
theorem guard_ifc {op : BinOp} (t : TypeId) (v b : Value) (w : World) : (eqGuard op xt x y (.iface t v) b).run P w = .ok () w := by
  unfold eqGuard; split <;> simp
theorem info_run {t : Nat} {i : TypeInfo} (h : P.info? t = some i) (w : World) : (typeInfo t).run P w = .ok i w := by simp [typeInfo, h]
theorem equalIn_ifc (d : Nat) {xt : TypeId} {ms : Array (String × TypeId)} (hx : P.underlying xt = some (.interface ms)) (t u : TypeId) (v v' : Value) (w : World) :
    (Op.equalIn (d + 1) xt (.iface t v) (.iface u v')).run P w = if t ≠ u then .ok false w else match P.info? t with
      | some i => if i.comparable = true then (Op.equalIn d t v v').run P w else (Op.equalIn (d + 1) xt (.iface t v) (.iface u v')).run P w
      | none => (Op.equalIn (d + 1) xt (.iface t v) (.iface u v')).run P w := by
  by_cases h : t = u
  · subst h
    simp only [ne_eq, not_true_eq_false, if_false]
    split
    · rename_i i hi
      split
      · rename_i hc
        simp only [Op.equalIn, Sem.run_bind, Go.run_underlying hx, Result.andThen_ok, ne_eq, not_true_eq_false, if_false, info_run hi, hc, Bool.not_true, Bool.false_eq_true]
      · rfl
    · rfl
  · simp only [Op.equalIn, Sem.run_bind, Go.run_underlying hx, Result.andThen_ok, ne_eq, h, not_false_eq_true, if_true, Sem.run_pure]
theorem ptrEq_val (hG : G.Ok) (neg : Bool) {t e : Nat} (hx : G.und t = some (.pointer e)) {a b : AV} {h : AH} {k : KV} {r : Out} (eq : ptrEq G t neg a b h k = r) (ok : r.ok) :
    ∃ q, k (.bool (if neg then !q else q)) h = r ∧ ∀ B σ u v w, VR σ a u → VR σ b v → HR0 B σ h w → (Op.equalIn (9998 + 1) t u v).run G.P w = .ok q w := by
  have hp := und_ok hG hx
  unfold ptrEq at eq
  simp only [give_neg] at eq
  split at eq
  · refine ⟨_, eq, fun B σ u v w hu hv hr => ?_⟩
    simp only [VR] at hu hv; subst hu hv
    exact equalIn_nilptr 9998 hp none w
  · refine ⟨_, eq, fun B σ u v w hu hv hr => ?_⟩
    simp only [VR] at hu hv; obtain ⟨c, d, n, _, rfl⟩ := hv; subst hu
    exact equalIn_nilptr 9998 hp _ w
  · refine ⟨_, eq, fun B σ u v w hu hv hr => ?_⟩
    simp only [VR] at hu hv; obtain ⟨c, d, n, _, rfl⟩ := hu; subst hv
    have hp' : G.P.underlying t = some (.pointer (G.P.pointee t)) := by rw [hp]; congr 2; simp [Program.pointee, hp]
    exact run_equalIn_pointer_nil w 9998 t _ hp'
  · rename_i b o c p
    split at eq
    · rename_i m hm
      have hsz : (G.P.info? e).map (·.size) = some (m + 1) := by
        refine size_ok hG ?_
        unfold Cfg.elemSize at hm; rw [hx] at hm; exact hm
      rcases boolCases_inv eq with ⟨hbc, eq1⟩ | ⟨hbc, eq1⟩
      · have hbc : b = c := Nat.eq_of_beq_eq_true hbc
        subst hbc
        refine ⟨_, eq1, fun B σ u v w hu hv hr => ?_⟩
        simp only [VR] at hu hv
        obtain ⟨c1, d1, n1, h1, rfl⟩ := hu
        obtain ⟨c2, d2, n2, h2, rfl⟩ := hv
        rw [h1] at h2; cases h2
        refine (equalIn_ptr 9998 hp hsz _ _ w).trans ?_
        simp only [sameAddr, beq_self_eq_true, if_true, Sem.run_pure]
        congr 1
        rw [Bool.eq_iff_iff]
        simp
      · obtain ⟨X, hX, eq2⟩ := hget_inv eq1 ok
        obtain ⟨cs, ce, f, rfl, eq3⟩ := asCells_inv eq2 ok
        obtain ⟨Y, hY, eq4⟩ := hget_inv eq3 ok
        obtain ⟨cs', ce', f', rfl, eq5⟩ := asCells_inv eq4 ok
        have hne : b ≠ c := Nat.ne_of_beq_eq_false hbc
        cases f <;> cases f' <;> first | (subst eq5; exact ok.elim) | skip
        refine ⟨_, eq5, fun B σ u v w hu hv hr => ?_⟩
        simp only [VR] at hu hv
        obtain ⟨c1, d1, n1, h1, rfl⟩ := hu
        obtain ⟨c2, d2, n2, h2, rfl⟩ := hv
        obtain ⟨cc, lo, hi, hc, _, hf, _⟩ := hr.cells hX h1
        obtain ⟨cc', lo', hi', hc', _, hf', _⟩ := hr.cells hY h2
        simp only [FlR] at hf hf'; replace hf := hf.1; replace hf' := hf'.1; subst hf hf'
        have hcc : c1 ≠ c2 := by rintro rfl; exact hne (hr.inj b c _ _ c1 d1 n1 d2 n2 hX rfl hY rfl h1 h2)
        refine (equalIn_ptr 9998 hp hsz _ _ w).trans ?_
        rw [run_sameAddr (P := G.P) (w := w) (a := ⟨c1, o + d1, none⟩) (b := ⟨c2, p + d2, none⟩) hc hc']
        congr 1
        rw [beq_eq_false_iff_ne]
        intro h; exact hcc (congrArg Addr.block h)
    · subst eq; exact ok.elim
  · subst eq; exact ok.elim
theorem ifcEq_spec (hG : G.Ok) (free neg : Bool) {ms : Array (String × TypeId)} (hx : G.und xt = some (.interface ms)) (hf : free = (isConst x || isConst y || ms.isEmpty)) :
    HSpec2 G.P (ifcEq G free neg) (bin (opOf neg) xt x y) := by
  intro a b h k r eq ok
  have hp := und_ok hG hx
  unfold ifcEq at eq
  simp only [give_neg] at eq
  split at eq
  · split at eq
    · rename_i hfree
      refine ⟨_, eq, fun B σ u v w hu hv hr => ?_⟩
      simp only [VR] at hu hv; subst hu hv
      refine ⟨.bool (if neg then !true else true), eq_run (fun op w => guard_nilIfc hG (by rw [← hf]; exact hfree) hx w) rfl rfl ?_, by cases neg <;> simp [VR]⟩
      show (Op.equalIn (9999 + 1) xt _ _).run G.P w = _
      generalize 9999 = d
      simp only [Op.equalIn, Sem.run_bind, Go.run_underlying hp, Result.andThen_ok, Sem.run_pure]
    · subst eq; exact ok.elim
  · refine ⟨_, eq, fun B σ u v w hu hv hr => ?_⟩
    simp only [VR] at hu hv; subst hu
    obtain ⟨v', rfl, _⟩ := hv
    refine ⟨.bool (if neg then !false else false), eq_run (fun op w => guard_nilIfc' _ _ w) rfl rfl ?_, by cases neg <;> simp [VR]⟩
    show (Op.equalIn (9999 + 1) xt _ _).run G.P w = _
    generalize 9999 = d
    simp only [Op.equalIn, Sem.run_bind, Go.run_underlying hp, Result.andThen_ok, Sem.run_pure]
  · refine ⟨_, eq, fun B σ u v w hu hv hr => ?_⟩
    simp only [VR] at hu hv; subst hv
    obtain ⟨v', rfl, _⟩ := hu
    refine ⟨.bool (if neg then !false else false), eq_run (fun op w => guard_ifc _ _ _ w) rfl rfl ?_, by cases neg <;> simp [VR]⟩
    show (Op.equalIn (9999 + 1) xt _ _).run G.P w = _
    generalize 9999 = d
    simp only [Op.equalIn, Sem.run_bind, Go.run_underlying hp, Result.andThen_ok, Sem.run_pure]
  · rename_i t a u b
    rcases boolCases_inv eq with ⟨htu, eq1⟩ | ⟨htu, eq1⟩
    · have htu : t = u := Nat.eq_of_beq_eq_true htu
      subst htu
      split at eq1
      · rename_i i hi
        split at eq1
        · rename_i hc
          have hinfo := hG.info t i hi
          have lift : ∀ (p q : Value) (w : World) (z : Bool), (Op.equalIn (9998 + 1) t p q).run G.P w = .ok z w → (Op.equal xt (.iface t p) (.iface t q)).run G.P w = .ok z w := by
            intro p q w z hz
            show (Op.equalIn (9999 + 1) xt _ _).run G.P w = _
            rw [equalIn_ifc 9999 hp]
            simp only [ne_eq, not_true_eq_false, if_false, hinfo, hc, if_true]
            exact hz
          split at eq1
          · rename_i e hpt
            obtain ⟨q, e1, hq⟩ := ptrEq_val hG neg hpt eq1 ok
            refine ⟨_, e1, fun B σ p p' w hu hv hr => ?_⟩
            simp only [VR] at hu hv
            obtain ⟨v1, rfl, h1⟩ := hu
            obtain ⟨v2, rfl, h2⟩ := hv
            exact ⟨_, eq_run (fun op w => guard_ifc _ _ _ w) rfl rfl (lift _ _ w q (hq B σ v1 v2 w h1 h2 hr)), by cases neg <;> simp [VR]⟩
          · split at eq1
            · rename_i tg htg
              obtain ⟨q, e1, hq⟩ := cellEq_spec hG htg eq1 ok
              refine ⟨_, e1, fun B σ p p' w hu hv hr => ?_⟩
              simp only [VR] at hu hv
              obtain ⟨v1, rfl, h1⟩ := hu
              obtain ⟨v2, rfl, h2⟩ := hv
              exact ⟨_, eq_run (fun op w => guard_ifc _ _ _ w) rfl rfl (lift _ _ w q (hq σ v1 v2 h1 h2 9998 w)), by cases neg <;> simp [VR]⟩
            · subst eq1; exact ok.elim
        · subst eq1; exact ok.elim
      · subst eq1; exact ok.elim
    · have hne : t ≠ u := Nat.ne_of_beq_eq_false htu
      refine ⟨_, eq1, fun B σ p p' w hu hv hr => ?_⟩
      simp only [VR] at hu hv
      obtain ⟨v1, rfl, h1⟩ := hu
      obtain ⟨v2, rfl, h2⟩ := hv
      refine ⟨.bool (if neg then !false else false), eq_run (fun op w => guard_ifc _ _ _ w) rfl rfl ?_, by cases neg <;> simp [VR]⟩
      show (Op.equalIn (9999 + 1) xt _ _).run G.P w = _
      rw [equalIn_ifc 9999 hp]
      simp [hne]
  · subst eq; exact ok.elim
end
end
end Go.Ev
namespace Go.Ev
noncomputable section
open Go
theorem addr_add (c o n : Nat) : (⟨c, o, none⟩ : Addr).add n = ⟨c, o + n, none⟩ := by unfold Addr.add; split <;> simp_all
section
variable {G : Cfg} {P : Program} {nt : Nat} {o : Oper}
theorem negV_spec : VSpec1 P negV (Op.unary .neg) := by
  intro a k r e ok
  obtain ⟨kd, m, rfl, e1⟩ := asI_inv e ok
  unfold zSub at e1; rw [subZ_eq, fitZ_eq] at e1
  refine ⟨_, e1, fun σ x w h => ?_⟩
  simp only [VR] at h; subst h
  refine ⟨.int kd (kd.wrap (0 - m)), by simp [Op.unary, Op.intArith], ?_⟩
  simp only [VR]; rfl
theorem kmax_eq (kd : IntKind) : (kmax kd : Int) = kd.max := by cases kd <;> rfl
theorem compV_spec : VSpec1 P compV (Op.unary .xor) := by
  intro a k r e ok
  obtain ⟨kd, m, rfl, e1⟩ := asI_inv e ok
  rw [zXor_eq] at e1
  refine ⟨_, e1, fun σ x w h => ?_⟩
  simp only [VR] at h; subst h
  refine ⟨_, by simp only [Op.unary, Op.intBits, Sem.run_pure]; rfl, ?_⟩
  simp only [VR]
  congr 3
  cases hs : kd.signed
  · simp only [Bool.false_eq_true, if_false]; rw [← kmax_eq]; rfl
  · simp only [if_true]; rfl
theorem notV_spec : VSpec1 P notV (Op.unary .not) := by
  intro a k r e ok
  obtain ⟨b, rfl, e1⟩ := asB_inv e ok
  rw [forceB_eq, notB_eq] at e1
  refine ⟨_, e1, fun σ x w h => ?_⟩
  simp only [VR] at h; subst h
  exact ⟨.bool (!b), by simp [Op.unary], by simp [VR]⟩
theorem intConv_spec (hG : G.Ok) {src dst : TypeId} {kd k0 : IntKind} (hs : G.und src = some (.int k0)) (hd : G.und dst = some (.int kd)) : VSpec1 G.P (intConv kd) (convert src dst) := by
  intro a k r e ok
  obtain ⟨k1, m, rfl, e1⟩ := asI_inv e ok
  rw [fitZ_eq] at e1
  refine ⟨_, e1, fun σ x w h => ?_⟩
  simp only [VR] at h; subst h
  exact ⟨.int kd (kd.wrap m), by simp [convert, Go.run_underlying (und_ok hG hs), Go.run_underlying (und_ok hG hd), Conv.intToInt], by simp [VR]⟩
theorem intToFlt_spec (hG : G.Ok) {src dst : TypeId} {kd : FloatKind} {k0 : IntKind} (hs : G.und src = some (.int k0)) (hd : G.und dst = some (.float kd)) : VSpec1 G.P (intToFlt kd) (convert src dst) := by
  intro a k r e ok
  obtain ⟨k1, m, rfl, e1⟩ := asI_inv e ok
  refine ⟨_, e1, fun σ x w h => ?_⟩
  simp only [VR] at h; subst h
  exact ⟨.float kd (kd.nearest m), by simp [convert, Go.run_underlying (und_ok hG hs), Go.run_underlying (und_ok hG hd), Conv.intToFloat], by simp [VR]⟩
theorem intToFltS_spec (hG : G.Ok) (beq_eq : ∀ a b, AV.beq a b = true → a = b) {src dst : TypeId} {kd : FloatKind} {k0 : IntKind} (hs : G.und src = some (.int k0)) (hd : G.und dst = some (.float kd)) :
    HSpec1 G.P (intToFltS kd) (convert src dst) := by
  intro a h k r e ok
  unfold intToFltS at e
  rcases symQ_inv e with ⟨e, i, rfl⟩ | e
  · split at e
    · obtain ⟨X, hX, e⟩ := hget_inv e ok
      split at e
      · rename_i l
        obtain ⟨q, hq, e1, h1, h2⟩ := findC_inv ok e
        have h1 := beq_eq _ _ h1
        have h2 := beq_eq _ _ h2
        refine ⟨q.r, e1, fun B σ x w hp hr => ?_⟩
        obtain ⟨⟨c, d, n⟩, hs'⟩ := hr.syms.1
        have hsr := (show ∀ q ∈ l, SRok σ q from hr.blk _ _ _ _ _ hX hs') q hq
        unfold SRok at hsr
        rw [if_pos (by rw [h1, h2]; rfl), if_neg (by rw [h1]; simp [aggB]), if_neg (by rw [h1]; simp [tupB])] at hsr
        obtain ⟨m, ha, hu⟩ := hsr
        have e1 := atomV.of ha (h1 ▸ hp)
        subst e1
        exact ⟨.float .f64 (FloatKind.f64.nearest m), by simp [convert, Go.run_underlying (und_ok hG hs), Go.run_underlying (und_ok hG hd), Conv.intToFloat], atomV.to hu rfl⟩
      · subst e; exact ok.elim
    · subst e; exact ok.elim
  · obtain ⟨v, e1, hv⟩ := intToFlt_spec hG hs hd a _ r e ok
    exact ⟨v, e1, fun B σ x w hp _ => hv σ x w hp⟩
theorem fltToInt_spec (hG : G.Ok) {src dst : TypeId} {kd : IntKind} {k0 : FloatKind} (hs : G.und src = some (.float k0)) (hd : G.und dst = some (.int kd)) : VSpec1 G.P (fltToInt kd) (convert src dst) := by
  intro a k r e ok
  unfold fltToInt at e
  split at e
  · rename_i s b
    split at e
    · rename_i n hn
      split at e
      · rename_i hb
        rw [forceI_eq] at e
        refine ⟨_, e, fun σ x w h => ?_⟩
        simp only [VR] at h; subst h
        refine ⟨.int kd n, ?_, by simp [VR]⟩
        simp only [convert, Sem.run_bind, Go.run_underlying (und_ok hG hs), Go.run_underlying (und_ok hG hd), Result.andThen_ok, Conv.floatToInt, hn]
        rw [if_pos hb]; rfl
      · subst e; exact ok.elim
    · subst e; exact ok.elim
  · subst e; exact ok.elim
theorem strId_spec (hG : G.Ok) {src dst : TypeId} (hs : G.und src = some .string) (hd : G.und dst = some .string) : VSpec1 G.P (fun v k => asS v fun l => k (.str l)) (convert src dst) := by
  intro a k r e ok
  obtain ⟨l, rfl, e1⟩ := asS_inv e ok
  refine ⟨_, e1, fun σ x w h => ?_⟩
  have h' := h
  simp only [VR] at h'
  obtain ⟨s, rfl, _⟩ := h'
  exact ⟨.string s, by simp [convert, Go.run_underlying (und_ok hG hs), Go.run_underlying (und_ok hG hd)], h⟩
theorem makeInterface_spec (hG : G.Ok) {t : TypeId} {d : TypeDesc} (ht : G.und t = some d) (hd : ∀ ms, d ≠ .interface ms) : VSpec1 G.P (fun v k => k (.ifc t v)) (Instr.makeInterface t) := by
  intro a k r e ok
  refine ⟨_, e, fun σ x w h => ?_⟩
  refine ⟨.iface t x, ?_, by simp only [VR]; exact ⟨x, rfl, h⟩⟩
  unfold Instr.makeInterface
  simp only [Sem.run_bind, Go.run_underlying (und_ok hG ht), Result.andThen_ok]
  first | rfl | (split <;> first | rfl | (rename_i ms; exact absurd rfl (hd ms)))
theorem extract_spec (i : Nat) : VSpec1 P (extractV i) (fun v => Instr.extract v i) := by
  intro a k r e ok
  unfold extractV at e
  split at e
  · rename_i l
    obtain ⟨v, hv, e1⟩ := nthK_inv e ok
    refine ⟨v, e1, fun σ x w h => ?_⟩
    simp only [VR] at h
    obtain ⟨cs, rfl, h⟩ := h
    obtain ⟨u, hu, hr⟩ := h.get i v hv
    have hu : cs[i]? = some u := by simpa using hu
    exact ⟨u, by simp [Instr.extract, hu], hr⟩
  · subst e; exact ok.elim
theorem fieldAddr_spec (hG : G.Ok) {s : TypeId} {fs : Array Field} {i n : Nat} {f : Field} (hs : G.und s = some (.struct fs)) (hf : fs[i]? = some f) (hn : G.size f.type = some (n + 1)) :
    VSpec1 G.P (fieldAddr f.offset) (fun v => Instr.fieldAt s v i) := by
  intro a k r e ok
  obtain ⟨b, p, rfl, e1⟩ := asP_inv e ok
  rw [forceN_eq] at e1
  refine ⟨_, e1, fun σ x w h => ?_⟩
  simp only [VR] at h
  obtain ⟨c, d, m, hc, rfl⟩ := h
  refine ⟨.pointer (some ⟨c, p + d + f.offset, none⟩), ?_, ?_⟩
  · simp only [Instr.fieldAt, Sem.run_bind, Go.run_underlying (und_ok hG hs), Result.andThen_ok, hf, Instr.sureAddr, Sem.run_pure, fieldPlace, run_sizeOf (size_ok hG hn), addr_add]
    simp
  · simp only [VR]
    exact ⟨c, d, m, hc, by congr 3; show p + d + f.offset = Nat.add p f.offset + d; simp; omega⟩
theorem isAgg_run (hG : G.Ok) {t : Nat} {b : Bool} (h : G.agg? t = some b) (w : World) : (isAgg t).run G.P w = .ok b w := by
  unfold Cfg.agg? at h
  cases hu : G.und t with
  | none => rw [hu] at h; cases h
  | some d =>
    rw [hu] at h
    simp only [Option.map_some, Option.some.injEq] at h
    subst h
    unfold isAgg
    simp only [Sem.run_bind, Go.run_underlying (und_ok hG hu), Result.andThen_ok]
    cases d <;> rfl
theorem part_one (hG : G.Ok) {t off : Nat} (h : G.agg? t = some false) {l : List AV} {cs : Array Value} {v : AV} {σ : Sg} (hl : VRs σ l cs.toList) (hv : l[off]? = some v) (w : World) :
    ∃ u, (part t cs off).run G.P w = .ok u w ∧ VR σ v u := by
  obtain ⟨u, hu, hr⟩ := hl.get off v hv
  have hu : cs[off]? = some u := by simpa using hu
  exact ⟨u, run_part (isAgg_run hG h w) hu, hr⟩
theorem part_agg (hG : G.Ok) {t off n : Nat} (h : G.agg? t = some true) (hn : G.size t = some n) {l : List AV} {cs : Array Value} {σ : Sg} (hl : VRs σ l cs.toList) (w : World) :
    ∃ u, (part t cs off).run G.P w = .ok u w ∧ VR σ (.agg ((l.drop off).take n)) u := by
  refine ⟨.agg (cs.extract off (off + n)), ?_, ?_⟩
  · unfold part
    simp only [Sem.run_bind, isAgg_run hG h w, Result.andThen_ok, if_true, run_sizeOf (size_ok hG hn), Sem.run_pure]
  · simp only [VR]
    refine ⟨_, rfl, ?_⟩
    have : (cs.extract off (off + n)).toList = (cs.toList.drop off).take n := by simp [List.drop_take]
    rw [this]
    exact (hl.drop off).take n
theorem fieldOne_spec (hG : G.Ok) {s : TypeId} {fs : Array Field} {i : Nat} {f : Field} (hs : G.und s = some (.struct fs)) (hf : fs[i]? = some f) (ha : G.agg? f.type = some false) :
    VSpec1 G.P (fieldOne f.offset) (fun v => Instr.field s v i) := by
  intro a k r e ok
  obtain ⟨l, rfl, e1⟩ := asAgg_inv e ok
  obtain ⟨v, hv, e2⟩ := nthK_inv e1 ok
  refine ⟨v, e2, fun σ x w h => ?_⟩
  simp only [VR] at h
  obtain ⟨cs, rfl, h⟩ := h
  obtain ⟨u, hu, hr⟩ := part_one hG ha h hv w
  exact ⟨u, by simp only [Instr.field, Sem.run_bind, Go.run_underlying (und_ok hG hs), Result.andThen_ok, hf, Go.asAgg, Sem.run_pure, hu], hr⟩
theorem fieldAgg_spec (hG : G.Ok) {s : TypeId} {fs : Array Field} {i n : Nat} {f : Field} (hs : G.und s = some (.struct fs)) (hf : fs[i]? = some f) (ha : G.agg? f.type = some true) (hn : G.size f.type = some n) :
    VSpec1 G.P (fieldAgg f.offset n) (fun v => Instr.field s v i) := by
  intro a k r e ok
  obtain ⟨l, rfl, e1⟩ := asAgg_inv e ok
  obtain ⟨_, e2⟩ := sliceK_inv e1 ok
  refine ⟨_, e2, fun σ x w h => ?_⟩
  simp only [VR] at h
  obtain ⟨cs, rfl, h⟩ := h
  obtain ⟨u, hu, hr⟩ := part_agg hG (off := f.offset) ha hn h w
  exact ⟨u, by simp only [Instr.field, Sem.run_bind, Go.run_underlying (und_ok hG hs), Result.andThen_ok, hf, Go.asAgg, Sem.run_pure, hu], hr⟩
theorem inRange_inv {i n : Nat} {x r : Out} (h : inRange i n x = r) (ok : r.ok) : i < n ∧ x = r := by
  obtain ⟨h1, h2⟩ := guardB_inv h ok
  exact ⟨Nat.le_of_ble_eq_true h1, h2⟩
theorem indexAddrA_spec (hG : G.Ok) {t : TypeId} {n e s : Nat} (ht : G.und t = some (.array n e)) (hs : G.size e = some (s + 1)) : VSpec2 G.P (indexAddrA n (s + 1)) (Instr.indexAt t) := by
  intro a b k r eq ok
  obtain ⟨q, p, rfl, e1⟩ := asP_inv eq ok
  obtain ⟨kd, i, rfl, e2⟩ := asN_inv e1 ok
  obtain ⟨hi, e3⟩ := inRange_inv e2 ok
  rw [forceN_eq] at e3
  refine ⟨_, e3, fun σ x y w h1 h2 => ?_⟩
  simp only [VR] at h1 h2
  obtain ⟨c, d, m, hc, rfl⟩ := h1
  subst h2
  refine ⟨.pointer (some ⟨c, p + d + i * (s + 1), none⟩), ?_, ?_⟩
  · have hb : (0 : Int) ≤ Int.ofNat i ∧ Int.ofNat i < (n : Int) := ⟨Int.natCast_nonneg i, Int.ofNat_lt.2 hi⟩
    simp only [Instr.indexAt, Sem.run_bind, asIntOf, Sem.run_pure, Result.andThen_ok, Go.run_underlying (und_ok hG ht), Instr.sureAddr, run_sizeOf (size_ok hG hs)]
    rw [if_pos hb]
    simp only [Sem.run_bind, run_sizeOf (size_ok hG hs), Result.andThen_ok, Sem.run_pure, addr_add]
    rfl
  · simp only [VR]
    exact ⟨c, d, m, hc, by congr 3; show p + d + i * (s + 1) = Nat.add p (Nat.mul i (s + 1)) + d; simp; omega⟩
theorem indexAddrS_spec (hG : G.Ok) {t : TypeId} {e s : Nat} (ht : G.und t = some (.slice e)) (hs : G.size e = some (s + 1)) : VSpec2 G.P (indexAddrS (s + 1)) (Instr.indexAt t) := by
  intro a b k r eq ok
  unfold indexAddrS at eq
  split at eq
  · rename_i q p len cap
    obtain ⟨kd, i, rfl, e2⟩ := asN_inv eq ok
    obtain ⟨hi, e3⟩ := inRange_inv e2 ok
    rw [forceN_eq] at e3
    refine ⟨_, e3, fun σ x y w h1 h2 => ?_⟩
    simp only [VR] at h1 h2
    obtain ⟨c, d, m, j, cap', hc, rfl, _, _, hj⟩ := h1
    subst h2
    have hj : j = p + d := hj.resolve_right (by omega)
    subst hj
    refine ⟨.pointer (some ⟨c, p + d + i * (s + 1), none⟩), ?_, ?_⟩
    · have hb : (0 : Int) ≤ Int.ofNat i ∧ Int.ofNat i < (len : Int) := ⟨Int.natCast_nonneg i, Int.ofNat_lt.2 hi⟩
      simp only [Instr.indexAt, Sem.run_bind, asIntOf, Sem.run_pure, Result.andThen_ok, Go.run_underlying (und_ok hG ht)]
      rw [if_pos hb]
      simp only [Sem.run_bind, run_sizeOf (size_ok hG hs), Result.andThen_ok, Sem.run_pure, addr_add]
      rfl
    · simp only [VR]
      exact ⟨c, d, m, hc, by congr 3; show p + d + i * (s + 1) = Nat.add p (Nat.mul i (s + 1)) + d; simp; omega⟩
  · subst eq; exact ok.elim
end
end
end Go.Ev
namespace Go.Ev
noncomputable section
open Go
section
variable {G : Cfg} {P : Program} {nt : Nat} {o : Oper}
theorem indexA1_spec (hG : G.Ok) {t : TypeId} {n e s : Nat} (ht : G.und t = some (.array n e)) (ha : G.agg? e = some false) (hs : G.size e = some s) : VSpec2 G.P (indexA1 n s) (Instr.index t) := by
  intro a b k r eq ok
  obtain ⟨l, rfl, e1⟩ := asAgg_inv eq ok
  obtain ⟨kd, i, rfl, e2⟩ := asN_inv e1 ok
  obtain ⟨hi, e3⟩ := inRange_inv e2 ok
  obtain ⟨v, hv, e4⟩ := nthK_inv e3 ok
  refine ⟨v, e4, fun σ x y w h1 h2 => ?_⟩
  simp only [VR] at h1 h2
  obtain ⟨cs, rfl, h1⟩ := h1
  subst h2
  obtain ⟨u, hu, hr⟩ := part_one hG (off := i * s) ha h1 hv w
  refine ⟨u, ?_, hr⟩
  have hb : (0 : Int) ≤ Int.ofNat i ∧ Int.ofNat i < (n : Int) := ⟨Int.natCast_nonneg i, Int.ofNat_lt.2 hi⟩
  simp only [Instr.index, Sem.run_bind, asIntOf, Sem.run_pure, Result.andThen_ok, Go.run_underlying (und_ok hG ht)]
  rw [if_pos hb]
  simp only [Sem.run_bind, run_sizeOf (size_ok hG hs), Result.andThen_ok]
  exact hu
theorem indexAn_spec (hG : G.Ok) {t : TypeId} {n e s : Nat} (ht : G.und t = some (.array n e)) (ha : G.agg? e = some true) (hs : G.size e = some s) : VSpec2 G.P (indexAn n s) (Instr.index t) := by
  intro a b k r eq ok
  obtain ⟨l, rfl, e1⟩ := asAgg_inv eq ok
  obtain ⟨kd, i, rfl, e2⟩ := asN_inv e1 ok
  obtain ⟨hi, e3⟩ := inRange_inv e2 ok
  obtain ⟨_, e4⟩ := sliceK_inv e3 ok
  refine ⟨_, e4, fun σ x y w h1 h2 => ?_⟩
  simp only [VR] at h1 h2
  obtain ⟨cs, rfl, h1⟩ := h1
  subst h2
  obtain ⟨u, hu, hr⟩ := part_agg hG (off := i * s) ha hs h1 w
  refine ⟨u, ?_, hr⟩
  have hb : (0 : Int) ≤ Int.ofNat i ∧ Int.ofNat i < (n : Int) := ⟨Int.natCast_nonneg i, Int.ofNat_lt.2 hi⟩
  simp only [Instr.index, Sem.run_bind, asIntOf, Sem.run_pure, Result.andThen_ok, Go.run_underlying (und_ok hG ht)]
  rw [if_pos hb]
  simp only [Sem.run_bind, run_sizeOf (size_ok hG hs), Result.andThen_ok]
  exact hu
theorem bytesR_get {l : List Nat} {s : ByteArray} (h : bytesR l s) {i b : Nat} (hb : l[i]? = some b) : ∃ u : UInt8, s[i]? = some u ∧ u.toNat = b := by
  unfold bytesR at h
  subst h
  rw [List.getElem?_map] at hb
  cases hs : s.data.toList[i]? with
  | none => rw [hs] at hb; cases hb
  | some u =>
    rw [hs] at hb
    simp only [Option.map_some, Option.some.injEq] at hb
    refine ⟨u, ?_, hb⟩
    have hs' : s.data[i]? = some u := by simpa using hs
    obtain ⟨hlt, hu⟩ := Array.getElem?_eq_some_iff.1 hs'
    have hlt' : i < s.size := hlt
    rw [getElem?_pos s i hlt']
    congr 1
theorem indexStr_spec (hG : G.Ok) {t : TypeId} (ht : G.und t = some .string) : VSpec2 G.P indexStr (Instr.index t) := by
  intro a b k r eq ok
  obtain ⟨l, rfl, e1⟩ := asS_inv eq ok
  obtain ⟨kd, i, rfl, e2⟩ := asN_inv e1 ok
  obtain ⟨v, hv, e4⟩ := nthK_inv e2 ok
  refine ⟨_, e4, fun σ x y w h1 h2 => ?_⟩
  simp only [VR] at h1 h2
  obtain ⟨s, rfl, h1⟩ := h1
  subst h2
  obtain ⟨u, hu, hr⟩ := bytesR_get h1 hv
  refine ⟨.int .u8 u.toNat, ?_, by simp only [VR, ← hr]; rfl⟩
  have h0 : (0 : Int) ≤ Int.ofNat i := Int.natCast_nonneg i
  have hi : (Int.ofNat i).toNat = i := rfl
  simp only [Instr.index, Sem.run_bind, asIntOf, Sem.run_pure, Result.andThen_ok, Go.run_underlying (und_ok hG ht)]
  rw [if_pos h0, hi, hu]
  rfl
def OVR (σ : Sg) : Option AV → Option Value → Prop
  | none, none => True
  | some a, some v => VR σ a v
  | _, _ => False
theorem bounds_inv {len cap : Nat} {lo hi : Option AV} {k : Nat → Nat → Out} {r : Out} (e : bounds len cap lo hi k = r) (ok : r.ok) :
    ∃ l h, k l h = r ∧ (l ≤ h ∨ lo = none) ∧ (hi = none → h = len) ∧ (∀ v, hi = some v → h ≤ cap ∧ ∃ kd, v = .int kd (.ofNat h)) ∧ (lo = none → l = 0) ∧ (∀ v, lo = some v → ∃ kd, v = .int kd (.ofNat l)) := by
  unfold bounds at e
  simp only at e
  have low : ∀ h, (match lo with | none => k 0 h | some v => asN v fun l => guardB (Nat.ble l h) 43 (k l h)) = r →
      ∃ l, k l h = r ∧ (l ≤ h ∨ lo = none) ∧ (lo = none → l = 0) ∧ (∀ v, lo = some v → ∃ kd, v = .int kd (.ofNat l)) := by
    intro h e
    cases lo with
    | none => exact ⟨0, e, .inr rfl, fun _ => rfl, fun v hv => (by cases hv)⟩
    | some v =>
      obtain ⟨kd, l, rfl, e1⟩ := asN_inv e ok
      obtain ⟨h1, e2⟩ := guardB_inv e1 ok
      exact ⟨l, e2, .inl (Nat.le_of_ble_eq_true h1), fun hn => (by cases hn), fun v hv => (by cases hv; exact ⟨kd, rfl⟩)⟩
  cases hi with
  | none =>
    obtain ⟨l, e1, h1, h2, h3⟩ := low len e
    exact ⟨l, len, e1, h1, fun _ => rfl, fun v hv => (by cases hv), h2, h3⟩
  | some v =>
    obtain ⟨kd, h, rfl, e1⟩ := asN_inv e ok
    obtain ⟨hc, e2⟩ := guardB_inv e1 ok
    obtain ⟨l, e3, h1, h2, h3⟩ := low h e2
    exact ⟨l, h, e3, h1, fun hn => (by cases hn), fun v hv => (by cases hv; exact ⟨Nat.le_of_ble_eq_true hc, kd, rfl⟩), h2, h3⟩
theorem run_sliceBound {kd : IntKind} {i y : Nat} (h : i ≤ y) (c : BoundsCode) (w : World) : (Instr.sliceBound (.int kd (.ofNat i)) y c).run P w = .ok i w := by
  have hb : (0 : Int) ≤ Int.ofNat i ∧ Int.ofNat i ≤ (y : Int) := ⟨Int.natCast_nonneg i, Int.ofNat_le.2 h⟩
  simp only [Instr.sliceBound, Sem.run_bind, asIntOf, Sem.run_pure, Result.andThen_ok]
  rw [if_pos hb]
  rfl
theorem run_bounds {σ : Sg} {len cap cap' l h : Nat} {lo hi : Option AV} {low high : Option Value} (hl : OVR σ lo low) (hh : OVR σ hi high) (hcap : cap ≤ cap')
    (h1 : l ≤ h ∨ lo = none) (h2 : hi = none → h = len) (h3 : ∀ v, hi = some v → h ≤ cap ∧ ∃ kd, v = .int kd (.ofNat h)) (h4 : lo = none → l = 0) (h5 : ∀ v, lo = some v → ∃ kd, v = .int kd (.ofNat l)) (isS : Bool) (w : World) :
    (Instr.sliceBounds isS len cap' low high none).run P w = .ok (l, h, cap') w := by
  cases hi with
  | none =>
    cases high with
    | some v => exact hh.elim
    | none =>
      have h2 := h2 rfl
      subst h2
      cases lo with
      | none => cases low with
        | none => rw [h4 rfl]; rfl
        | some v => exact hl.elim
      | some a => cases low with
        | none => exact hl.elim
        | some v =>
          obtain ⟨kd, rfl⟩ := h5 a rfl
          simp only [OVR, VR] at hl; subst hl
          simp only [Instr.sliceBounds, Sem.run_bind, Sem.run_pure, Result.andThen_ok, run_sliceBound (h1.resolve_right (by simp))]
  | some a =>
    cases high with
    | none => exact hh.elim
    | some v =>
      obtain ⟨hc, kd, rfl⟩ := h3 a rfl
      simp only [OVR, VR] at hh; subst hh
      cases lo with
      | none => cases low with
        | none => rw [h4 rfl]; simp only [Instr.sliceBounds, Sem.run_bind, Sem.run_pure, Result.andThen_ok, run_sliceBound (Nat.le_trans hc hcap)]
        | some v => exact hl.elim
      | some a => cases low with
        | none => exact hl.elim
        | some v =>
          obtain ⟨kd, rfl⟩ := h5 a rfl
          simp only [OVR, VR] at hl; subst hl
          simp only [Instr.sliceBounds, Sem.run_bind, Sem.run_pure, Result.andThen_ok, run_sliceBound (Nat.le_trans hc hcap), run_sliceBound (h1.resolve_right (by simp))]
def VSpec3 (P : Program) (F : Option AV → Option AV → AV → (AV → Out) → Out) (S : Value → Option Value → Option Value → Sem Value) : Prop :=
  ∀ lo hi a k r, F lo hi a k = r → r.ok → ∃ v, k v = r ∧ ∀ σ x low high w, VR σ a x → OVR σ lo low → OVR σ hi high → ∃ u, (S x low high).run P w = .ok u w ∧ VR σ v u
theorem bytesR_extract {l : List Nat} {s : ByteArray} (h : bytesR l s) (a b : Nat) : bytesR ((l.drop a).take (b - a)) (s.extract a b) := by
  unfold bytesR at h ⊢
  subst h
  rw [ByteArray.data_extract, Array.toList_extract, List.map_take, List.map_drop]
theorem sliceStr_spec (hG : G.Ok) {t : TypeId} (ht : G.und t = some .string) : VSpec3 G.P sliceStr (fun x lo hi => Instr.sliceAt t x lo hi none) := by
  intro lo hi a k r e ok
  obtain ⟨l, rfl, e1⟩ := asS_inv e ok
  rw [lenK_eq] at e1
  obtain ⟨p, q, e2, h1, h2, h3, h4, h5⟩ := bounds_inv e1 ok
  obtain ⟨_, e3⟩ := sliceK_inv e2 ok
  refine ⟨_, e3, fun σ x low high w hx hl hh => ?_⟩
  simp only [VR] at hx
  obtain ⟨s, rfl, hs⟩ := hx
  have hlen := bytesR_len hs
  refine ⟨.string (s.extract p q), ?_, by simp only [VR]; exact ⟨_, rfl, bytesR_extract hs p q⟩⟩
  unfold Instr.sliceAt
  simp only [Sem.run_bind, Go.run_underlying (und_ok hG ht), Result.andThen_ok]
  unfold Instr.slice
  simp only [Sem.run_bind, Go.run_underlying (und_ok hG ht), Result.andThen_ok, Option.isSome_none, Bool.false_eq_true, if_false]
  rw [show l.length + 0 = s.size from by omega] at h2 h3
  simp only [Sem.run_pure, Result.andThen_ok, run_bounds (P := G.P) hl hh (Nat.le_refl _) h1 h2 h3 h4 h5 false w]
theorem sliceSlc_spec (hG : G.Ok) {t : TypeId} {e s : Nat} (ht : G.und t = some (.slice e)) (hs : G.size e = some (s + 1)) : VSpec3 G.P (sliceSlc (s + 1)) (fun x lo hi => Instr.sliceAt t x lo hi none) := by
  have core : ∀ (a : Option Addr) (len cap l h : Nat) (low high : Option Value) (w : World), (Instr.sliceBounds true len cap low high none).run G.P w = .ok (l, h, cap) w →
      (Instr.sliceAt t (.slice a len cap) low high none).run G.P w = .ok (.slice (if cap = l then a else a.map (·.add (l * (s + 1)))) (h - l) (cap - l)) w := by
    intro a len cap l h low high w hb
    unfold Instr.sliceAt
    simp only [Sem.run_bind, Go.run_underlying (und_ok hG ht), Result.andThen_ok]
    unfold Instr.slice
    simp only [Sem.run_bind, Go.run_underlying (und_ok hG ht), Result.andThen_ok, hb, run_sizeOf (size_ok hG hs), Sem.run_pure]
  intro lo hi a k r e1 ok
  unfold sliceSlc at e1
  split at e1
  · rename_i b o len c
    obtain ⟨l, h, e2, h1, h2, h3, h4, h5⟩ := bounds_inv e1 ok
    have hlh : l ≤ h := by (rcases h1 with h1 | h1; exact h1; rw [h4 h1]; exact Nat.zero_le _)
    rw [forceN_eq, forceN_eq] at e2
    have rel : ∀ σ x low high w, VR σ (.slc b o len (.exact c)) x → OVR σ lo low → OVR σ hi high → ∃ c' d n, σ.at_ b = some (c', d, n) ∧ h ≤ c ∧
        (Instr.sliceAt t x low high none).run G.P w = .ok (.slice (if c = l then some ⟨c', o + d, none⟩ else some ⟨c', o + d + l * (s + 1), none⟩) (h - l) (c - l)) w := by
      intro σ x low high w hx hl hh
      simp only [VR] at hx
      obtain ⟨c', d, n, j, cap', hb, rfl, hlen, hcap, hj⟩ := hx
      have hcap : cap' = c := hcap
      subst hcap
      have hj : j = o + d := by
        rcases hj with hj | ⟨_, hf⟩
        · exact hj
        · cases hf
      subst hj
      refine ⟨c', d, n, hb, ?_, ?_⟩
      · cases hi with
        | none => rw [h2 rfl]; exact hlen
        | some v => exact (h3 v rfl).1
      · rw [core _ len cap' l h low high w (run_bounds hl hh (Nat.le_refl _) h1 h2 h3 h4 h5 true w)]
        simp only [Option.map_some, addr_add]
    cases hcl : Nat.sub c l with
    | zero =>
      rw [hcl] at e2
      obtain ⟨hc, e3⟩ := guardB_inv e2 ok
      have hc : c = l := Nat.eq_of_beq_eq_true hc
      refine ⟨_, e3, fun σ x low high w hx hl hh => ?_⟩
      obtain ⟨c', d, n, hb, hhc, hrun⟩ := rel σ x low high w hx hl hh
      rw [if_pos hc] at hrun
      refine ⟨_, hrun, ?_⟩
      simp only [VR]
      refine ⟨c', d, n, o + d, c - l, hb, rfl, ?_, ?_, .inl rfl⟩
      · show h - l ≤ c - l; omega
      · show c - l = 0; omega
    | succ m =>
      rw [hcl] at e2
      have e3 : forceN (Nat.add o (Nat.mul l (s + 1))) (fun o' => k (.slc b o' (Nat.sub h l) (.exact (m + 1)))) = r := e2
      rw [forceN_eq] at e3
      have hm : c - l = m + 1 := hcl
      refine ⟨_, e3, fun σ x low high w hx hl hh => ?_⟩
      obtain ⟨c', d, n, hb, hhc, hrun⟩ := rel σ x low high w hx hl hh
      rw [if_neg (by omega)] at hrun
      refine ⟨_, hrun, ?_⟩
      simp only [VR]
      refine ⟨c', d, n, o + d + l * (s + 1), c - l, hb, rfl, ?_, hm, .inl ?_⟩
      · show h - l ≤ c - l; omega
      · show o + d + l * (s + 1) = Nat.add o (Nat.mul l (s + 1)) + d
        simp; omega
  · rename_i b o len c q
    obtain ⟨hq, e1'⟩ := guardB_inv e1 ok
    have hq : q = s + 1 := Nat.eq_of_beq_eq_true hq
    subst hq
    obtain ⟨l, h, e2, h1, h2, h3, h4, h5⟩ := bounds_inv e1' ok
    have hlh : l ≤ h := by (rcases h1 with h1 | h1; exact h1; rw [h4 h1]; exact Nat.zero_le _)
    rw [forceN_eq, forceN_eq] at e2
    have rel : ∀ σ x low high w, VR σ (.slc b o len (.least c (s + 1))) x → OVR σ lo low → OVR σ hi high → ∃ c' d n j cap', σ.at_ b = some (c', d, n) ∧ h ≤ cap' ∧ c ≤ cap' ∧ j + cap' * (s + 1) ≤ n ∧
        (j = o + d ∨ (len = 0 ∧ c = 0)) ∧ (hi = none → h = len) ∧ (hi ≠ none → h ≤ c) ∧
        (Instr.sliceAt t x low high none).run G.P w = .ok (.slice (if cap' = l then some ⟨c', j, none⟩ else some ⟨c', j + l * (s + 1), none⟩) (h - l) (cap' - l)) w := by
      intro σ x low high w hx hl hh
      simp only [VR] at hx
      obtain ⟨c', d, n, j, cap', hb, rfl, hlen, ⟨hc1, hc2⟩, hj⟩ := hx
      refine ⟨c', d, n, j, cap', hb, ?_, hc1, hc2, ?_, h2, ?_, ?_⟩
      · cases hi with
        | none => rw [h2 rfl]; exact hlen
        | some v => exact Nat.le_trans (h3 v rfl).1 hc1
      · rcases hj with hj | ⟨h0, hf⟩
        · exact .inl hj
        · refine .inr ⟨h0, ?_⟩
          cases c with
          | zero => rfl
          | succ c => cases hf
      · intro hne
        cases hi with
        | none => exact absurd rfl hne
        | some v => exact (h3 v rfl).1
      · rw [core _ len cap' l h low high w (run_bounds hl hh hc1 h1 h2 h3 h4 h5 true w)]
        simp only [Option.map_some, addr_add]
    cases l with
    | zero =>
      have e3 : k (.slc b o (Nat.sub h 0) (.least (Nat.sub c 0) (s + 1))) = r := e2
      refine ⟨_, e3, fun σ x low high w hx hl hh => ?_⟩
      obtain ⟨c', d, n, j, cap', hb, hhc, hc1, hc2, hj, hh1, hh2, hrun⟩ := rel σ x low high w hx hl hh
      have : (if cap' = 0 then some (⟨c', j, none⟩ : Addr) else some ⟨c', j + 0 * (s + 1), none⟩) = some ⟨c', j, none⟩ := by split <;> simp
      rw [this] at hrun
      refine ⟨_, hrun, ?_⟩
      simp only [VR]
      refine ⟨c', d, n, j, cap' - 0, hb, rfl, by show h - 0 ≤ _; omega, ⟨by show c - 0 ≤ _; omega, by simpa using hc2⟩, ?_⟩
      rcases hj with hj | ⟨h0, hc0⟩
      · exact .inl hj
      · refine .inr ⟨?_, by subst hc0; rfl⟩
        show h - 0 = 0
        cases hhi : hi with
        | none => rw [hh1 hhi]; omega
        | some v => have := hh2 (by rw [hhi]; simp); omega
    | succ l =>
      have e3 : forceN (Nat.add o (Nat.mul (l + 1) (s + 1))) (fun o' => k (.slc b o' (Nat.sub h (l + 1)) (.least (Nat.sub c (l + 1)) (s + 1)))) = r := e2
      rw [forceN_eq] at e3
      refine ⟨_, e3, fun σ x low high w hx hl hh => ?_⟩
      obtain ⟨c', d, n, j, cap', hb, hhc, hc1, hc2, hj, hh1, hh2, hrun⟩ := rel σ x low high w hx hl hh
      have hj : j = o + d := by
        rcases hj with hj | ⟨h0, hc0⟩
        · exact hj
        · exfalso
          cases hhi : hi with
          | none => have := hh1 hhi; omega
          | some v => have := hh2 (by rw [hhi]; simp); omega
      subst hj
      by_cases hcl : cap' = l + 1
      · rw [if_pos hcl] at hrun
        refine ⟨_, hrun, ?_⟩
        simp only [VR]
        have hc0 : c - (l + 1) = 0 := by omega
        refine ⟨c', d, n, o + d, cap' - (l + 1), hb, rfl, by show h - (l + 1) ≤ _; omega, ⟨by show c - (l + 1) ≤ _; omega, ?_⟩, .inr ⟨by show h - (l + 1) = 0; omega, ?_⟩⟩
        · have : cap' - (l + 1) = 0 := by omega
          rw [this]; omega
        · show Cap.low (.least (c - (l + 1)) (s + 1)) = true
          rw [hc0]; rfl
      · rw [if_neg hcl] at hrun
        refine ⟨_, hrun, ?_⟩
        simp only [VR]
        refine ⟨c', d, n, o + d + (l + 1) * (s + 1), cap' - (l + 1), hb, rfl, by show h - (l + 1) ≤ _; omega, ⟨by show c - (l + 1) ≤ _; omega, ?_⟩, .inl ?_⟩
        · have hle : l + 1 ≤ cap' := by omega
          have : (l + 1) * (s + 1) + (cap' - (l + 1)) * (s + 1) = cap' * (s + 1) := by rw [← Nat.add_mul]; congr 1; omega
          omega
        · show o + d + (l + 1) * (s + 1) = Nat.add o (Nat.mul (l + 1) (s + 1)) + d
          have : Nat.mul (l + 1) (s + 1) = (l + 1) * (s + 1) := rfl
          rw [this]
          show _ = o + (l + 1) * (s + 1) + d
          omega
  · obtain ⟨l, h, e2, h1, h2, h3, h4, h5⟩ := bounds_inv e1 ok
    have hlh : l ≤ h := by (rcases h1 with h1 | h1; exact h1; rw [h4 h1]; exact Nat.zero_le _)
    refine ⟨_, e2, fun σ x low high w hx hl hh => ?_⟩
    simp only [VR] at hx; subst hx
    have hh0 : h = 0 := by
      cases hi with
      | none => exact h2 rfl
      | some v => have := (h3 v rfl).1; omega
    refine ⟨_, core none 0 0 l h low high w (run_bounds hl hh (Nat.le_refl _) h1 h2 h3 h4 h5 true w), ?_⟩
    simp only [VR]
    have : l = 0 := by omega
    subst this hh0
    simp
  · subst e1; exact ok.elim
theorem sliceArr_core (hG : G.Ok) {n e s : Nat} (hs : G.size e = some (s + 1)) {lo hi : Option AV} {a : AV} {k : AV → Out} {r : Out} (eq : sliceArr n (s + 1) lo hi a k = r) (ok : r.ok) :
    ∃ v, k v = r ∧ ∀ σ x low high w, VR σ a x → OVR σ lo low → OVR σ hi high → ∃ c j l h, x = .pointer (some ⟨c, j, none⟩) ∧
      (Instr.sliceBounds false n n low high none).run G.P w = .ok (l, h, n) w ∧ n ≠ l ∧ VR σ v (.slice (some ⟨c, j + l * (s + 1), none⟩) (h - l) (n - l)) := by
  obtain ⟨b, o, rfl, e1⟩ := asP_inv eq ok
  obtain ⟨l, h, e2, h1, h2, h3, h4, h5⟩ := bounds_inv e1 ok
  have hlh : l ≤ h := by (rcases h1 with h1 | h1; exact h1; rw [h4 h1]; exact Nat.zero_le _)
  have hhn : h ≤ n := by
    cases hi with
    | none => exact Nat.le_of_eq (h2 rfl)
    | some v => exact (h3 v rfl).1
  rw [forceN_eq, forceN_eq] at e2
  obtain ⟨hln, e3⟩ := guardB_inv e2 ok
  have hln : l + 1 ≤ n := Nat.le_of_ble_eq_true hln
  rw [forceN_eq] at e3
  refine ⟨_, e3, fun σ x low high w hx hl hh => ?_⟩
  simp only [VR] at hx
  obtain ⟨c, d, m, hb, rfl⟩ := hx
  refine ⟨c, o + d, l, h, rfl, run_bounds hl hh (Nat.le_refl _) h1 h2 h3 h4 h5 false w, by omega, ?_⟩
  simp only [VR]
  refine ⟨c, d, m, _, _, hb, rfl, by show h - l ≤ n - l; omega, rfl, .inl ?_⟩
  show o + d + l * (s + 1) = Nat.add o (Nat.mul l (s + 1)) + d
  simp; omega
theorem sliceArr_spec (hG : G.Ok) {t : TypeId} {n e s : Nat} (ht : G.und t = some (.array n e)) (hs : G.size e = some (s + 1)) : VSpec3 G.P (sliceArr n (s + 1)) (fun x lo hi => Instr.sliceAt t x lo hi none) := by
  intro lo hi a k r eq ok
  obtain ⟨v, e1, hv⟩ := sliceArr_core hG hs eq ok
  refine ⟨v, e1, fun σ x low high w hx hl hh => ?_⟩
  obtain ⟨c, j, l, h, rfl, hb, hne, hr⟩ := hv σ x low high w hx hl hh
  refine ⟨_, ?_, hr⟩
  unfold Instr.sliceAt
  simp only [Sem.run_bind, Go.run_underlying (und_ok hG ht), Result.andThen_ok, Instr.sureAddr, Sem.run_pure, hb, run_sizeOf (size_ok hG hs), hne, if_false, addr_add]
theorem sliceArrP_spec (hG : G.Ok) {t a : TypeId} {n e s : Nat} (ht : G.und t = some (.pointer a)) (ha : G.und a = some (.array n e)) (hs : G.size e = some (s + 1)) : VSpec3 G.P (sliceArr n (s + 1)) (fun x lo hi => Instr.sliceAt t x lo hi none) := by
  intro lo hi q k r eq ok
  obtain ⟨v, e1, hv⟩ := sliceArr_core hG hs eq ok
  refine ⟨v, e1, fun σ x low high w hx hl hh => ?_⟩
  obtain ⟨c, j, l, h, rfl, hb, hne, hr⟩ := hv σ x low high w hx hl hh
  refine ⟨_, ?_, hr⟩
  unfold Instr.sliceAt
  simp only [Sem.run_bind, Go.run_underlying (und_ok hG ht), Result.andThen_ok]
  unfold Instr.slice
  simp only [Sem.run_bind, Go.run_underlying (und_ok hG ht), Result.andThen_ok, asAddr, Sem.run_pure, Go.run_underlying (und_ok hG ha), hb, run_sizeOf (size_ok hG hs), hne, if_false, addr_add]
end
end
end Go.Ev
namespace Go.Ev
noncomputable section
open Go
section
variable {G : Cfg} {P : Program} {B : Base} {σ : Sg} {h : AH} {w : World}
theorem HR0.row (hr : HR0 B σ h w) {b c d n e o m : Nat} {cs : List AV} {f : Fl} (hb : h.t.get b = some (.cells cs e f)) (hs : σ.at_ b = some (c, d, n)) (hm : o + m ≤ cs.length) :
    ∃ us : List Value, us.length = m ∧ VRs σ ((cs.drop o).take m) us ∧ ∀ j v, us[j]? = some v → w.cell? ⟨c, o + d + j, none⟩ = some v := by
  obtain ⟨cc, lo, hi, hc, hn, hf, hv⟩ := hr.cells hb hs
  have get : ∀ i, i < m → ∃ u, cc[o + d + i]? = some u ∧ ∀ a, ((cs.drop o).take m)[i]? = some a → VR σ a u := by
    intro i hi'
    have hlt : o + i < cs.length := by omega
    obtain ⟨u, hu, hru⟩ := hv (o + i) _ (List.getElem?_eq_getElem hlt)
    refine ⟨u, by rw [show o + d + i = o + i + d from by omega]; exact hu, fun a ha => ?_⟩
    rw [List.getElem?_take, if_pos hi', List.getElem?_drop, List.getElem?_eq_getElem hlt] at ha
    cases ha; exact hru
  refine ⟨(cc.toList.drop (o + d)).take m, ?_, ?_, ?_⟩
  · rw [List.length_take, List.length_drop, Nat.min_eq_left]
    cases m with
    | zero => omega
    | succ m =>
      obtain ⟨u, hu, _⟩ := get m (by omega)
      obtain ⟨hlt, _⟩ := Array.getElem?_eq_some_iff.1 hu
      simp; omega
  · have hlen : ((cs.drop o).take m).length = m := by simp; omega
    refine VRs.of_get ?_ fun i a ha => ?_
    · rw [hlen, List.length_take, List.length_drop, Nat.min_eq_left]
      cases m with
      | zero => omega
      | succ m =>
        obtain ⟨u, hu, _⟩ := get m (by omega)
        obtain ⟨hlt, _⟩ := Array.getElem?_eq_some_iff.1 hu
        simp; omega
    · have hi' : i < m := by
        obtain ⟨hlt, _⟩ := List.getElem?_eq_some_iff.1 ha
        omega
      obtain ⟨u, hu, hru⟩ := get i hi'
      refine ⟨u, ?_, hru a ha⟩
      rw [List.getElem?_take, if_pos hi', List.getElem?_drop]
      simpa using hu
  · intro j v hj
    have hj' : j < m := by
      obtain ⟨hlt, _⟩ := List.getElem?_eq_some_iff.1 hj
      simp at hlt; omega
    rw [List.getElem?_take, if_pos hj', List.getElem?_drop] at hj
    simp only [World.cell?, hc]
    simpa using hj
theorem loadOne_spec (hG : G.Ok) {t : Nat} (ha : G.agg? t = some false) : HSpec1 G.P loadOne (Instr.loadAt t) := by
  intro a h k r e ok
  obtain ⟨b, o, rfl, e1⟩ := asP_inv e ok
  obtain ⟨x, hx, e2⟩ := hget_inv e1 ok
  obtain ⟨cs, ce, f, rfl, e3⟩ := asCells_inv e2 ok
  obtain ⟨v, hv, e4⟩ := nthK_inv e3 ok
  refine ⟨v, e4, fun B σ x w hp hr => ?_⟩
  simp only [VR] at hp
  obtain ⟨c, d, n, hc, rfl⟩ := hp
  obtain ⟨u, hu, hru⟩ := hr.cell hx hc hv
  exact ⟨u, by simp only [Instr.loadAt, Instr.sureAddr, loadVar, Sem.run_bind, Sem.run_pure, Result.andThen_ok, isAgg_run hG ha, Bool.false_eq_true, if_false, run_load, hu], hru⟩
theorem loadAgg_spec (hG : G.Ok) {t sz : Nat} (ha : G.agg? t = some true) (hs : G.size t = some sz) : HSpec1 G.P (loadAgg sz) (Instr.loadAt t) := by
  intro a h k r e ok
  obtain ⟨b, o, rfl, e1⟩ := asP_inv e ok
  obtain ⟨x, hx, e2⟩ := hget_inv e1 ok
  obtain ⟨cs, ce, f, rfl, e3⟩ := asCells_inv e2 ok
  obtain ⟨hm, e4⟩ := sliceK_inv e3 ok
  refine ⟨_, e4, fun B σ x w hp hr => ?_⟩
  simp only [VR] at hp
  obtain ⟨c, d, n, hc, rfl⟩ := hp
  obtain ⟨us, hl, hv, hcell⟩ := hr.row hx hc hm
  refine ⟨.agg us.toArray, ?_, by simp only [VR]; exact ⟨_, rfl, by simpa using hv⟩⟩
  have := run_loadCells_list (P := G.P) w ⟨c, o + d, none⟩ us (fun j v hj => by rw [addr_add]; exact hcell j v hj)
  rw [hl] at this
  simp only [Instr.loadAt, Instr.sureAddr, loadVar, Sem.run_bind, Sem.run_pure, Result.andThen_ok, isAgg_run hG ha, if_true, run_sizeOf (size_ok hG hs), this]
theorem bytesK_inv {r : Out} (ok : r.ok) : ∀ {l : List AV} {k : List Nat → Out}, bytesK l k = r → ∃ s : List Nat, k s = r ∧ l = bytesV s ∧ ∀ n ∈ s, n ≤ 255
  | [], k, h => ⟨[], h, rfl, by simp⟩
  | v :: l, k, h => by
    unfold bytesK at h
    obtain ⟨kd, a, rfl, h1⟩ := asI_inv h ok
    cases kd <;> first | (subst h1; exact ok.elim) | skip
    cases a with
    | negSucc n => subst h1; exact ok.elim
    | ofNat n =>
      obtain ⟨hn, h2⟩ := guardB_inv h1 ok
      obtain ⟨s, h3, rfl, hs⟩ := bytesK_inv ok h2
      exact ⟨n :: s, h3, rfl, by simpa using ⟨Nat.le_of_ble_eq_true hn, hs⟩⟩
theorem bytesV_R {σ : Sg} : ∀ {s : List Nat} {us : List Value}, VRs σ (bytesV s) us → us = s.map fun n => Value.int .u8 (.ofNat n)
  | [], us, h => by simpa [bytesV, VRs] using h
  | n :: s, us, h => by
    simp only [bytesV, List.map_cons, VRs] at h
    obtain ⟨b, m', rfl, hb, hm⟩ := h
    simp only [VR] at hb
    have := bytesV_R (s := s) (us := m') (by simpa [bytesV] using hm)
    rw [hb, this]; rfl
theorem bytesV_R' {σ : Sg} : ∀ (s : List Nat), VRs σ (bytesV s) (s.map fun n => Value.int .u8 (.ofNat n))
  | [] => by simp [bytesV, VRs]
  | n :: s => by
    simp only [bytesV, List.map_cons]
    exact VRs.cons (by simp [VR]) (bytesV_R' s)
theorem foldl_bytes : ∀ (l : List Nat) (s : ByteArray), (∀ n ∈ l, n ≤ 255) → ((l.map fun n : Nat => (n : Int)).foldl (fun r n => r.push (UInt8.ofNat n.toNat)) s).data.toList.map UInt8.toNat = s.data.toList.map UInt8.toNat ++ l
  | [], s, _ => by simp
  | n :: l, s, h => by
    rw [List.map_cons, List.foldl_cons, foldl_bytes l _ (fun m hm => h m (by simp [hm]))]
    have hn : n ≤ 255 := h n (by simp)
    have : (s.push (UInt8.ofNat (n : Int).toNat)).data.toList = s.data.toList ++ [UInt8.ofNat n] := by simp [ByteArray.push]
    rw [this]
    simp only [List.map_append, List.append_assoc]
    congr 1
    simp only [List.map_cons, List.map_nil, List.singleton_append, List.cons.injEq, and_true]
    show (UInt8.ofNat n).toNat = n
    rw [UInt8.toNat_ofNat']; omega
theorem bytesR_fold (l : List Nat) (h : ∀ n ∈ l, n ≤ 255) : bytesR l ((l.map fun n : Nat => (n : Int)).foldl (fun r n => r.push (UInt8.ofNat n.toNat)) ByteArray.empty) := by
  unfold bytesR; rw [foldl_bytes l _ h]; rfl
theorem firstK_inv {h : AH} {sz : Nat} {v : AV} {k : Nat → List AV → Out} {r : Out} (e : firstK h sz v k = r) (ok : r.ok) :
    ∃ n l, k n l = r ∧ l.length = n * sz ∧ ∀ B σ x w, VR σ v x → HR0 B σ h w → (Builtin.lenOf x).run P w = .ok n w ∧
      ∀ m, m ≤ n → ∃ us : List Value, (Builtin.firstCells sz m x).run P w = .ok us.toArray w ∧ VRs σ (l.take (m * sz)) us := by
  unfold firstK at e
  split at e
  · rename_i s
    obtain ⟨hsz, e⟩ := guardB_inv e ok
    have hsz : sz = 1 := Nat.eq_of_beq_eq_true hsz
    subst hsz
    rw [lenK_eq] at e
    have e1 : k (s.length + 0) (bytesV s ++ []) = r := by
      have e' : appK (bytesV s) [] (fun l => k (s.length + 0) l) = r := e
      rw [appK_eq] at e'; exact e'
    simp only [Nat.add_zero, List.append_nil] at e1
    refine ⟨_, _, e1, by simp [bytesV], fun B σ x w hx hr => ?_⟩
    simp only [VR] at hx
    obtain ⟨b, rfl, hb⟩ := hx
    have hl := bytesR_len hb
    refine ⟨by simp [Builtin.lenOf, hl], fun m hm => ?_⟩
    refine ⟨(s.take m).map fun n => Value.int .u8 (.ofNat n), ?_, ?_⟩
    · simp only [Builtin.firstCells, Sem.run_pure]
      congr 1
      apply Array.ext'
      unfold bytesR at hb
      subst hb
      simp [List.map_take]
      rfl
    · have : (bytesV s).take (m * 1) = bytesV (s.take m) := by simp [bytesV, List.map_take]
      rw [this]; exact bytesV_R' _
  · refine ⟨_, _, e, by simp, fun B σ x w hx hr => ?_⟩
    simp only [VR] at hx; subst hx
    exact ⟨by simp [Builtin.lenOf], fun m hm => ⟨[], by simp [Builtin.firstCells], by simp [VRs]⟩⟩
  · rename_i b o n c
    cases n with
    | zero =>
      refine ⟨0, [], e, by simp, fun B σ x w hx hr => ?_⟩
      simp only [VR] at hx
      obtain ⟨c', d, n, j, cap', hb, rfl, _⟩ := hx
      refine ⟨by simp [Builtin.lenOf], fun m hm => ⟨[], ?_, by simp [VRs]⟩⟩
      have : m = 0 := by omega
      subst this
      simp [Builtin.firstCells, loadCells, loadCellsFrom]
    | succ n =>
      obtain ⟨x, hx, e1⟩ := hget_inv (h := h) (b := b) (k := fun x => asCells x fun cs _ _ => sliceK cs o (Nat.mul (n + 1) sz) fun l => k (n + 1) l) e ok
      obtain ⟨cs, ce, f, rfl, e2⟩ := asCells_inv e1 ok
      obtain ⟨hm, e3⟩ := sliceK_inv e2 ok
      have hm : o + (n + 1) * sz ≤ cs.length := hm
      refine ⟨_, _, e3, ?_, fun B σ x w hv hr => ?_⟩
      · rw [List.length_take, List.length_drop]
        show min ((n + 1) * sz) _ = _
        omega
      simp only [VR] at hv
      obtain ⟨c', d, nn, j, cap', hb, rfl, _, _, hj⟩ := hv
      have hj : j = o + d := hj.resolve_right (by omega)
      subst hj
      refine ⟨by simp [Builtin.lenOf], fun m hmn => ?_⟩
      have hmm : m * sz ≤ (n + 1) * sz := Nat.mul_le_mul_right _ hmn
      obtain ⟨us, hl, hvr, hcell⟩ := hr.row (o := o) (m := m * sz) hx hb (by omega)
      refine ⟨us, run_firstCells_some w sz m ⟨c', o + d, none⟩ _ _ us hl (fun j v hj => by rw [addr_add]; exact hcell j v hj), ?_⟩
      rw [List.take_take, Nat.min_eq_left (by exact hmm)]
      exact hvr
  · subst e; exact ok.elim
theorem bytesToStr_spec (hG : G.Ok) {src dst e0 : TypeId} (hs : G.und src = some (.slice e0)) (hd : G.und dst = some .string) (he : G.und e0 = some (.int .u8)) : HSpec1 G.P bytesToStr (convert src dst) := by
  intro a h k r e ok
  have base : ∀ x w, (convert src dst x).run G.P w = (convert src dst x).run G.P w := fun _ _ => rfl
  unfold bytesToStr at e
  split at e
  · refine ⟨_, e, fun B σ x w hx hr => ?_⟩
    simp only [VR] at hx; subst hx
    refine ⟨.string .empty, ?_, by simp only [VR]; exact ⟨_, rfl, rfl⟩⟩
    simp [convert, Go.run_underlying (und_ok hG hs), Go.run_underlying (und_ok hG hd), Go.run_underlying (und_ok hG he), Conv.bytesToString]
  · rename_i b o n c
    obtain ⟨m, l, e1, hl, hv⟩ := firstK_inv (P := G.P) e ok
    obtain ⟨s, e2, rfl, hs'⟩ := bytesK_inv ok e1
    refine ⟨_, e2, fun B σ x w hx hr => ?_⟩
    obtain ⟨h1, h2⟩ := hv B σ x w hx hr
    obtain ⟨us, h3, h4⟩ := h2 m (Nat.le_refl _)
    rw [List.take_of_length_le (Nat.le_of_eq hl)] at h4
    have h4 := bytesV_R h4
    simp only [VR] at hx
    obtain ⟨c', d, nn, j, cap', hb, rfl, _⟩ := hx
    simp only [Builtin.lenOf, Sem.run_pure, Result.ok.injEq, and_true] at h1
    subst h1
    refine ⟨.string ((s.map fun n : Nat => (n : Int)).foldl (fun r n => r.push (UInt8.ofNat n.toNat)) ByteArray.empty), ?_, by simp only [VR]; exact ⟨_, rfl, bytesR_fold s hs'⟩⟩
    simp only [convert, Sem.run_bind, Go.run_underlying (und_ok hG hs), Go.run_underlying (und_ok hG hd), Go.run_underlying (und_ok hG he), Result.andThen_ok]
    refine run_bytesToString w _ n cap' _ ?_
    simp only [Builtin.firstCells, Nat.mul_one] at h3
    rw [h3, h4]
    simp [List.map_map]
  · subst e; exact ok.elim
end
end
end Go.Ev
namespace Go.Ev
noncomputable section
open Go
section
variable {G : Cfg} {P : Program} {B : Base} {σ : Sg} {h : AH} {w : World}
theorem sameBits_tag {t : Nat} {tg : Tg} (ht : tagOf G false t = some tg) {a b : AV} {k : Bool → Out} {r : Out} (e : cellEq tg a b k = r) (ok : r.ok) :
    ∃ q, k q = r ∧ (q = true → ∀ σ u v, VR σ a u → VR σ b v → ∀ n, Instr.sameBits n v u = true) := by
  cases tg with
  | int =>
    obtain ⟨kd, m, rfl, e1⟩ := asI_inv e ok
    obtain ⟨kd', n, rfl, e2⟩ := asI_inv e1 ok
    obtain ⟨rfl, e3⟩ := eqK_inv e2 ok
    rw [forceB_eq] at e3
    refine ⟨_, e3, fun hq σ u v h1 h2 d => ?_⟩
    simp only [VR] at h1 h2; subst h1 h2
    rw [eqZ_eq] at hq
    have hq : m = n := by simpa using hq
    subst hq
    cases d <;> simp [Instr.sameBits]
  | str =>
    obtain ⟨m, rfl, e1⟩ := asS_inv e ok
    obtain ⟨n, rfl, e2⟩ := asS_inv e1 ok
    rw [forceB_eq] at e2
    refine ⟨_, e2, fun hq σ u v h1 h2 d => ?_⟩
    simp only [VR] at h1 h2
    obtain ⟨s, rfl, h1⟩ := h1
    obtain ⟨s', rfl, h2⟩ := h2
    have hq : m = n := by
      rw [eqLN_iff] at hq; simpa using hq
    have := (bytesR_inj h1 h2).1 hq
    subst this
    have hb : (s == s) = true := by
      show (s.data == s.data) = true
      simp
    cases d <;> exact hb
  | bool =>
    obtain ⟨m, rfl, e1⟩ := asB_inv e ok
    obtain ⟨n, rfl, e2⟩ := asB_inv e1 ok
    rw [forceB_eq] at e2
    refine ⟨_, e2, fun hq σ u v h1 h2 d => ?_⟩
    simp only [VR] at h1 h2; subst h1 h2
    have hq : m = n := by simpa using hq
    subst hq
    cases d <;> simp [Instr.sameBits]
  | flt =>
    exfalso
    unfold tagOf at ht
    split at ht <;> simp at ht
theorem sameBits_tags : ∀ (fs : List Field) (i : Nat) (ts : List Tg), tagsOf G false fs i = some ts → ∀ (a b : List AV) (k : Bool → Out) (r : Out), cellsEq ts a b k = r → r.ok →
    ∃ q, k q = r ∧ (q = true → ∀ σ (xs ys : List Value), VRs σ a xs → VRs σ b ys → xs.length = ys.length ∧ ∀ n, (ys.zip xs).all (fun (x, y) => Instr.sameBits n x y) = true)
  | [], i, ts, ht, a, b, k, r, e, ok => by
    simp only [tagsOf, Option.some.injEq] at ht; subst ht
    cases a with
    | nil => cases b with
      | nil => exact ⟨true, e, fun _ σ xs ys h1 h2 => by simp only [VRs] at h1 h2; subst h1 h2; simp⟩
      | cons b m => subst e; exact ok.elim
    | cons a l => subst e; exact ok.elim
  | f :: fs, i, ts, ht, a, b, k, r, e, ok => by
    simp only [tagsOf] at ht
    split at ht
    · cases ht
    · split at ht
      · rename_i tg ts' h1 h2
        simp only [Option.some.injEq] at ht; subst ht
        cases a with
        | nil => subst e; exact ok.elim
        | cons a l => cases b with
          | nil => subst e; exact ok.elim
          | cons b m =>
            obtain ⟨q, e1, hq⟩ := sameBits_tag h1 (show cellEq tg a b (fun q => Bool.casesOn q (k false) (cellsEq ts' l m k)) = r from e) ok
            cases q with
            | false => exact ⟨false, e1, fun h => by cases h⟩
            | true =>
              obtain ⟨q', e2, hq'⟩ := sameBits_tags fs (i + 1) ts' h2 l m k r e1 ok
              refine ⟨q', e2, fun ht σ xs ys hx hy => ?_⟩
              simp only [VRs] at hx hy
              obtain ⟨u, xs', rfl, hu, hxs⟩ := hx
              obtain ⟨v, ys', rfl, hv, hys⟩ := hy
              obtain ⟨hl, hall⟩ := hq' ht σ xs' ys' hxs hys
              exact ⟨by simp [hl], fun n => by simp [hq rfl σ u v hu hv n, hall n]⟩
      · cases ht
def Nat1 (f : (Bool → Out) → Out) : Prop := (∃ q, ∀ k, f k = k q) ∨ ∃ n, ∀ k, f k = .bad n
theorem Nat1.spec {f : (Bool → Out) → Out} {q : Bool} (hf : ∀ k, f k = k q) {Φ : Bool → Prop} (hs : ∀ (k : Bool → Out) (r : Out), f k = r → r.ok → ∃ q, k q = r ∧ Φ q) : Φ q := by
  obtain ⟨q', h1, h2⟩ := hs (fun x => .val (.bool x) ⟨.leaf, 0, [], 0⟩) _ (hf _) trivial
  simp only [Out.val.injEq, AV.bool.injEq, and_true] at h1
  rw [← h1]; exact h2
theorem Nat1.get {f : (Bool → Out) → Out} (hf : Nat1 f) {k : Bool → Out} {r : Out} (e : f k = r) (ok : r.ok) : ∃ q, k q = r ∧ ∀ k, f k = k q := by
  rcases hf with ⟨q, hq⟩ | ⟨n, hn⟩
  · exact ⟨q, by rw [← hq k]; exact e, hq⟩
  · rw [hn] at e; subst e; exact ok.elim
theorem cellEq_nat (tg : Tg) (a b : AV) : Nat1 (cellEq tg a b) := by
  cases tg with
  | int =>
    cases a <;> first | exact .inr ⟨11, fun _ => rfl⟩ | skip
    rename_i kd m
    cases b <;> first | exact .inr ⟨11, fun _ => rfl⟩ | skip
    rename_i kd' n
    by_cases hk : Nat.beq (kix kd) (kix kd') = true
    · refine .inl ⟨eqZ m n, fun k => ?_⟩
      show eqK kd kd' (forceB (eqZ m n) k) = _
      unfold eqK; rw [hk, forceB_eq]
    · refine .inr ⟨20, fun k => ?_⟩
      show eqK kd kd' (forceB (eqZ m n) k) = _
      unfold eqK; rw [Bool.eq_false_iff.2 hk]
  | str =>
    cases a <;> first | exact .inr ⟨13, fun _ => rfl⟩ | skip
    cases b <;> first | exact .inr ⟨13, fun _ => rfl⟩ | skip
    exact .inl ⟨_, fun k => forceB_eq _ k⟩
  | bool =>
    cases a <;> first | exact .inr ⟨12, fun _ => rfl⟩ | skip
    cases b <;> first | exact .inr ⟨12, fun _ => rfl⟩ | skip
    exact .inl ⟨_, fun k => forceB_eq _ k⟩
  | flt =>
    cases a <;> first | exact .inr ⟨60, fun _ => rfl⟩ | skip
    rename_i kd m
    cases b <;> first | exact .inr ⟨60, fun _ => rfl⟩ | skip
    rename_i kd' n
    by_cases hk : kd = kd'
    · exact .inl ⟨_, fun k => by simp only [cellEq]; rw [if_pos hk]; exact forceB_eq _ k⟩
    · exact .inr ⟨60, fun k => by simp only [cellEq]; rw [if_neg hk]⟩
theorem cellsEq_nat : ∀ (ts : List Tg) (a b : List AV), Nat1 (cellsEq ts a b)
  | [], [], [] => .inl ⟨true, fun _ => rfl⟩
  | [], [], _ :: _ => .inr ⟨61, fun _ => rfl⟩
  | [], _ :: _, _ => .inr ⟨61, fun _ => rfl⟩
  | _ :: _, [], _ => .inr ⟨61, fun _ => rfl⟩
  | _ :: _, _ :: _, [] => .inr ⟨61, fun _ => rfl⟩
  | t :: ts, a :: l, b :: m => by
    have e : ∀ k, cellsEq (t :: ts) (a :: l) (b :: m) k = cellEq t a b fun q => Bool.casesOn q (k false) (cellsEq ts l m k) := fun k => rfl
    rcases cellEq_nat t a b with ⟨q, hq⟩ | ⟨n, hn⟩
    · cases q with
      | false => exact .inl ⟨false, fun k => by rw [e, hq]⟩
      | true =>
        rcases cellsEq_nat ts l m with ⟨q, hq'⟩ | ⟨n, hn⟩
        · exact .inl ⟨q, fun k => by rw [e, hq]; exact hq' k⟩
        · exact .inr ⟨n, fun k => by rw [e, hq]; exact hn k⟩
    · exact .inr ⟨n, fun k => by rw [e, hn]⟩
theorem keyEq_nat (kt : KT) (a b : AV) : Nat1 (keyEq kt a b) := by
  cases kt with
  | one t => exact cellEq_nat t a b
  | many ts =>
    cases a <;> first | exact .inr ⟨40, fun _ => rfl⟩ | skip
    cases b <;> first | exact .inr ⟨40, fun _ => rfl⟩ | skip
    exact cellsEq_nat ts _ _
theorem keyEq_spec (hG : G.Ok) {t : Nat} {kt : KT} (ht : keyT G t = some kt) {a b : AV} {q : Bool} (hq : ∀ k, keyEq kt a b k = k q) :
    ∀ σ u v, VR σ a u → VR σ b v → (∀ w, (Op.equal t u v).run G.P w = .ok q w) ∧ (q = true → Instr.sameBits 10000 v u = true) := by
  unfold keyT at ht
  split at ht
  · rename_i tg htg
    simp only [Option.some.injEq] at ht; subst ht
    have hq : ∀ k, cellEq tg a b k = k q := hq
    have h1 := Nat1.spec hq (fun k r e ok => cellEq_spec hG htg e ok)
    have h2 := Nat1.spec hq (fun k r e ok => sameBits_tag htg e ok)
    exact fun σ u v hu hv => ⟨fun w => h1 σ u v hu hv 9999 w, fun t => h2 t σ u v hu hv 10000⟩
  · split at ht
    · rename_i fs hfs
      split at ht
      · cases ht
      · rename_i hst
        have hst : G.P.stoodInHeld t = false := by simpa using hst
        cases hts : tagsOf G false fs.toList 0 with
        | none => rw [hts] at ht; cases ht
        | some ts =>
          rw [hts] at ht
          simp only [Option.map_some, Option.some.injEq] at ht; subst ht
          have hu := und_ok hG hfs
          have hf : G.P.fieldsOf t = fs := by simp [Program.fieldsOf, hu]
          have hu' : G.P.underlying t = some (.struct (G.P.fieldsOf t)) := by rw [hf]; exact hu
          cases a <;> first | (have := hq (fun x => .val (.bool x) ⟨.leaf, 0, [], 0⟩); cases this; done) | skip
          rename_i l
          cases b <;> first | (have := hq (fun x => .val (.bool x) ⟨.leaf, 0, [], 0⟩); cases this; done) | skip
          rename_i m
          have hq : ∀ k, cellsEq ts l m k = k q := hq
          have h1 := Nat1.spec hq (fun k r e ok => cellsEq_spec hG fs.toList 0 ts hts l m k r e ok)
          have h2 := Nat1.spec hq (fun k r e ok => sameBits_tags fs.toList 0 ts hts l m k r e ok)
          intro σ u v hu hv
          simp only [VR] at hu hv
          obtain ⟨xs, rfl, hxs⟩ := hu
          obtain ⟨ys, rfl, hys⟩ := hv
          refine ⟨fun w => ?_, fun hqt => ?_⟩
          · show (Op.equalIn (9999 + 1) t _ _).run G.P w = _
            rw [run_equalIn_struct w 9999 t xs ys hu' hst, hf]
            exact h1 σ xs ys (by simpa using hxs) (by simpa using hys) 9998 w
          · obtain ⟨hl, hall⟩ := h2 hqt σ xs.toList ys.toList hxs hys
            have hsz : (ys.size == xs.size) = true := by simpa using hl.symm
            show Instr.sameBits (9999 + 1) _ _ = true
            simp only [Instr.sameBits, hsz, hall, Bool.true_and]
    · cases ht
theorem findNow_asking {t : Nat} {d : TypeDesc} (hd : G.P.underlying t = some d) (u : Value) : ∀ (es : List MapEntry) (i : Nat) (o : Option (Nat × Value)), Instr.findNow d u es i = some o → ∀ w, (Instr.findAsking t u es i).run G.P w = .ok o w
  | [], i, o, h, w => by
    simp only [Instr.findNow, Option.some.injEq] at h; subst h; rfl
  | e :: es, i, o, h, w => by
    have sn : ∀ q, Instr.sameNow d u e.key = some q → (Op.equal t u e.key).run G.P w = .ok q w := by
      intro q hq
      show (Op.equalIn (9999 + 1) t _ _).run G.P w = _
      generalize 9999 = dd
      unfold Instr.sameNow at hq
      split at hq
      · rename_i k a k' b he
        split at hq
        · rename_i hk
          simp only [Option.some.injEq] at hq
          rw [he, ← hk, run_equalIn_int w dd t _ _ a b hd, hq]
        · cases hq
      · rename_i a b he
        simp only [Option.some.injEq] at hq
        rw [he]
        simp only [Op.equalIn, Sem.run_bind, Go.run_underlying hd, Result.andThen_ok, Sem.run_pure]
        rw [← hq]
      · rename_i a b he
        simp only [Option.some.injEq] at hq
        rw [he, run_equalIn_bool w dd t a b hd, hq]
      · cases hq
    unfold Instr.findNow at h
    unfold Instr.findAsking
    split at h
    · rename_i hq
      simp only [Option.some.injEq] at h; subst h
      simp only [Sem.run_bind, sn _ hq, Result.andThen_ok, if_true, Sem.run_pure]
    · rename_i hq
      simp only [Sem.run_bind, sn _ hq, Result.andThen_ok, Bool.false_eq_true, if_false]
      exact findNow_asking hd u es (i + 1) o h w
    · cases h
theorem und_keyT (hG : G.Ok) {t : Nat} {kt : KT} (ht : keyT G t = some kt) : ∃ d, G.P.underlying t = some d ∧ ∀ ms, d ≠ .interface ms := by
  unfold keyT at ht
  split at ht
  · rename_i tg htg
    have hu := notIface_tag hG htg
    cases tg with
    | int => obtain ⟨k, hu⟩ := hu; exact ⟨_, hu, by simp⟩
    | str => exact ⟨_, hu, by simp⟩
    | bool => exact ⟨_, hu, by simp⟩
    | flt => obtain ⟨k, hu⟩ := hu; exact ⟨_, hu, by simp⟩
  · split at ht
    · rename_i fs hfs
      exact ⟨_, und_ok hG hfs, by simp⟩
    · cases ht
def OFound (σ : Sg) : Option (Nat × AV) → Option (Nat × Value) → Prop
  | none, none => True
  | some (i, v), some (j, x) => i = j ∧ VR σ v x
  | _, _ => False
theorem findK_spec (hG : G.Ok) {t : Nat} {kt : KT} (ht : keyT G t = some kt) {a : AV} : ∀ (es : List AE) (i : Nat) (k : Option (Nat × AV) → Out) (r : Out), findK kt a es i k = r → r.ok →
    ∃ o, k o = r ∧ (∀ j v, o = some (j, v) → i ≤ j ∧ ∃ e, es[j - i]? = some e ∧ e.val = v ∧ ∀ σ u x, VR σ a u → VR σ e.key x → Instr.sameBits 10000 x u = true) ∧
      ∀ σ u xs w, VR σ a u → ER σ es xs → ∃ o', (Instr.findAsking t u xs i).run G.P w = .ok o' w ∧ OFound σ o o'
  | [], i, k, r, e, ok => by
    refine ⟨none, e, (by intro j v h; cases h), fun σ u xs w _ hx => ⟨none, ?_, trivial⟩⟩
    have hx : xs = [] := hx
    subst hx; rfl
  | ⟨b, v, bn⟩ :: es, i, k, r, e, ok => by
    obtain ⟨q, e1, hq⟩ := Nat1.get (keyEq_nat kt a b) (show keyEq kt a b (fun t => Bool.casesOn t (findK kt a es (i + 1) k) (k (some (i, v)))) = r from e) ok
    have hs := keyEq_spec hG ht hq
    cases q with
    | true =>
      refine ⟨some (i, v), e1, ?_, fun σ u xs w hu hx => ?_⟩
      · intro j x h
        simp only [Option.some.injEq, Prod.mk.injEq] at h
        obtain ⟨rfl, rfl⟩ := h
        exact ⟨Nat.le_refl _, _, by rw [Nat.sub_self]; rfl, rfl, fun σ u x hu hx => (hs σ u x hu hx).2 rfl⟩
      · obtain ⟨x, xs', rfl, hk, hv, hb, hl⟩ := hx
        refine ⟨some (i, x.val), ?_, rfl, hv⟩
        unfold Instr.findAsking
        simp only [Sem.run_bind, (hs σ u x.key hu hk).1 w, Result.andThen_ok, if_true, Sem.run_pure]
    | false =>
      obtain ⟨o, e2, ho, hrun⟩ := findK_spec hG ht es (i + 1) k r e1 ok
      refine ⟨o, e2, ?_, fun σ u xs w hu hx => ?_⟩
      · intro j x h
        obtain ⟨h1, e, h2, h3⟩ := ho j x h
        refine ⟨by omega, e, ?_, h3⟩
        rw [show j - i = (j - (i + 1)) + 1 from by omega]
        exact h2
      · obtain ⟨x, xs', rfl, hk, hv, hb, hl⟩ := hx
        obtain ⟨o', h1, h2⟩ := hrun σ u xs' w hu hl
        refine ⟨o', ?_, h2⟩
        unfold Instr.findAsking
        simp only [Sem.run_bind, (hs σ u x.key hu hk).1 w, Result.andThen_ok, Bool.false_eq_true, if_false]
        exact h1
theorem findKey_run (hG : G.Ok) {t : Nat} {kt : KT} (ht : keyT G t = some kt) {u : Value} {xs : List MapEntry} {o : Option (Nat × Value)} {w : World} (h : (Instr.findAsking t u xs 0).run G.P w = .ok o w) :
    (Instr.findKey t u xs).run G.P w = .ok o w := by
  obtain ⟨d, hd, _⟩ := und_keyT hG ht
  unfold Instr.findKey
  simp only [Sem.run_bind, Go.run_underlying hd, Result.andThen_ok]
  cases hn : Instr.findNow d u xs 0 with
  | none => exact h
  | some o' =>
    have := findNow_asking hd u xs 0 o' hn w
    rw [h] at this
    cases this; rfl
theorem checkKey_tag (hG : G.Ok) {fl : Bool} {t : Nat} {tg : Tg} (ht : tagOf G fl t = some tg) (em : Bool) (n : Nat) (v : Value) (w : World) : (Instr.checkKey em (n + 1) t v).run G.P w = .ok () w := by
  have hu := notIface_tag hG ht
  unfold Instr.checkKey
  cases tg with
  | int => obtain ⟨k, hu⟩ := hu; simp only [Sem.run_bind, Go.run_underlying hu, Result.andThen_ok]; rfl
  | str => simp only [Sem.run_bind, Go.run_underlying (show G.P.underlying t = some .string from hu), Result.andThen_ok]; rfl
  | bool => simp only [Sem.run_bind, Go.run_underlying (show G.P.underlying t = some .bool from hu), Result.andThen_ok]; rfl
  | flt => obtain ⟨k, hu⟩ := hu; simp only [Sem.run_bind, Go.run_underlying hu, Result.andThen_ok]; rfl
end
end
end Go.Ev
namespace Go.Ev
noncomputable section
open Go
section
variable {G : Cfg} {P : Program} {B : Base} {σ : Sg} {h : AH} {w : World}
theorem run_forIn_ok {g : Field → PUnit → Sem (ForInStep PUnit)} {w : World} : ∀ (fs : List Field), (∀ f ∈ fs, ∀ u, (g f u).run P w = .ok (.yield PUnit.unit) w) → (forIn fs PUnit.unit g).run P w = .ok PUnit.unit w
  | [], _ => rfl
  | f :: fs, h => by
    simp only [List.forIn_cons, Sem.run_bind, h f (by simp), Result.andThen_ok]
    exact run_forIn_ok fs fun f hf => h f (by simp [hf])
theorem tags_field : ∀ (fs : List Field) (i : Nat) (ts : List Tg), tagsOf G false fs i = some ts → ∀ f ∈ fs, ∃ tg, tagOf G false f.type = some tg ∧ f.offset < i + ts.length
  | [], _, _, _, f, hf => by cases hf
  | f :: fs, i, ts, ht, f', hf' => by
    simp only [tagsOf] at ht
    split at ht
    · cases ht
    · rename_i hf
      split at ht
      · rename_i tg ts' h1 h2
        simp only [Option.some.injEq] at ht; subst ht
        have hoff : f.offset = i := by
          have : ¬ (f.name == "_") = true ∧ ¬ (f.offset != i) = true := by simpa using hf
          simpa using this.2
        rcases List.mem_cons.1 hf' with rfl | hm
        · exact ⟨tg, h1, by simp; omega⟩
        · obtain ⟨tg', h3, h4⟩ := tags_field fs (i + 1) ts' h2 f' hm
          exact ⟨tg', h3, by simp; omega⟩
      · cases ht
theorem keyOk_inv (hG : G.Ok) {t : Nat} {kt : KT} (ht : keyT G t = some kt) {a : AV} {x r : Out} (e : keyOk kt a x = r) (ok : r.ok) :
    x = r ∧ ∀ σ u em w, VR σ a u → (Instr.checkKey em 10000 t u).run G.P w = .ok () w := by
  unfold keyT at ht
  split at ht
  · rename_i tg htg
    simp only [Option.some.injEq] at ht; subst ht
    exact ⟨e, fun σ u em w _ => checkKey_tag hG htg em 9999 u w⟩
  · split at ht
    · rename_i fs hfs
      split at ht
      · cases ht
      · cases hts : tagsOf G false fs.toList 0 with
        | none => rw [hts] at ht; cases ht
        | some ts =>
          rw [hts] at ht
          simp only [Option.map_some, Option.some.injEq] at ht; subst ht
          obtain ⟨l, rfl, e1⟩ := asAgg_inv (show asAgg a (fun l => guardB (Nat.beq l.length ts.length) 76 x) = r from e) ok
          obtain ⟨hl, e2⟩ := guardB_inv e1 ok
          have hl : l.length = ts.length := Nat.eq_of_beq_eq_true hl
          refine ⟨e2, fun σ u em w hu => ?_⟩
          simp only [VR] at hu
          obtain ⟨cs, rfl, hcs⟩ := hu
          have hsz := hcs.length
          show (Instr.checkKey em (9998 + 1 + 1) t (.agg cs)).run G.P w = _
          generalize 9998 = dd
          rw [Instr.checkKey]
          simp only [Sem.run_bind, Go.run_underlying (und_ok hG hfs), Result.andThen_ok]
          rw [← Array.forIn_toList]
          rw [run_forIn_ok]
          · rfl
          · intro f hf u
            obtain ⟨tg, h1, h2⟩ := tags_field fs.toList 0 ts hts f hf
            have hlt : f.offset < cs.size := by simp at hsz; omega
            have hp : (part f.type cs f.offset).run G.P w = .ok cs[f.offset] w := run_part (agg_tag hG h1 w) (by simp [hlt])
            by_cases hn : f.name ≠ "_"
            · simp [hn, hp, checkKey_tag hG h1]
            · simp [hn]
    · cases ht
theorem zero_ok (hG : G.Ok) {t : Nat} {z : AV} (h : G.zero t = some z) : ∃ v, z = ofValue v ∧ ∀ w, (zeroValue t).run G.P w = .ok v w := by
  unfold Cfg.zero at h
  cases hi : G.info t with
  | none => rw [hi] at h; cases h
  | some i =>
    rw [hi] at h
    simp only [Option.bind_some] at h
    cases hz : i.zero with
    | none => rw [hz] at h; cases h
    | some v =>
      rw [hz] at h
      simp only [Option.map_some, Option.some.injEq] at h
      exact ⟨v, h.symm, fun w => by simp [zeroValue, typeInfo, hG.info t i hi, hz]⟩
theorem HR0.amap (hr : HR0 B σ h w) {b c d n clock : Nat} {es : List AE} (hb : h.t.get b = some (.amap es clock)) (hs : σ.at_ b = some (c, d, n)) :
    ∃ es', w.heap[c]? = some (.map es' clock) ∧ ER σ es es'.toList := hr.blk b _ c d n hb hs
theorem run_getMap {c clock : Nat} {es : Array MapEntry} (h : w.heap[c]? = some (.map es clock)) : (getObj c).run P w = .ok (.map es clock) w := MapKept.run_getObj_map h
theorem ER.length {σ : Sg} : ∀ {l : List AE} {m : List MapEntry}, ER σ l m → l.length = m.length
  | [], m, h => by have h : m = [] := h; simp [h]
  | _ :: l, _, h => by
    obtain ⟨x, m', rfl, _, _, _, hl⟩ := h
    simp [ER.length hl]
theorem lookup_spec (hG : G.Ok) {t kt e : Nat} {q : KT} {z : AV} (ok' : Bool) (ht : G.und t = some (.map kt e)) (hk : keyT G kt = some q) (hz : G.zero e = some z) :
    HSpec2 G.P (lookupV q z ok') (fun x i => Instr.lookup t x i ok') := by
  intro m a h k r eq ok
  obtain ⟨e1, hck⟩ := keyOk_inv hG hk eq ok
  obtain ⟨zv, hzv, hzr⟩ := zero_ok hG hz
  have fin : ∀ (v : AV) (t' : Bool) (σ : Sg) (u : Value), VR σ v u → VR σ (giveL ok' v t') (if ok' then .tuple #[u, .bool t'] else u) := by
    intro v t' σ u hu
    unfold giveL
    cases ok' with
    | true =>
      simp only [if_true, VR]
      exact ⟨_, rfl, VRs.cons hu (VRs.cons (by simp [VR]) VRs.nil)⟩
    | false => exact hu
  obtain ⟨dk, hdk, _⟩ := und_keyT hG hk
  split at e1
  · refine ⟨_, e1, fun B σ x y w hx hy hr => ?_⟩
    simp only [VR] at hx; subst hx
    refine ⟨if ok' then .tuple #[zv, .bool false] else zv, ?_, fin z false σ zv (by rw [hzv]; exact ofValue_R σ zv)⟩
    simp only [Instr.lookup, Sem.run_bind, Go.run_underlying (und_ok hG ht), Result.andThen_ok, Sem.run_pure, hck σ y _ w hy, Instr.findKey, Go.run_underlying hdk, Instr.findNow, hzr]
  · rename_i r'
    obtain ⟨x, hx, e2⟩ := hget_inv e1 ok
    obtain ⟨es, clock, rfl, e3⟩ := asMap_inv e2 ok
    obtain ⟨o, e4, _, hrun⟩ := findK_spec hG hk es 0 _ r e3 ok
    have rel : ∀ B σ x y w, VR σ (.map r') x → VR σ a y → HR0 B σ h w → ∃ o', OFound σ o o' ∧
        (Instr.lookup t x y ok').run G.P w = .ok (match o' with | some (_, v) => if ok' then .tuple #[v, .bool true] else v | none => if ok' then .tuple #[zv, .bool false] else zv) w := by
      intro B σ x y w hxv hy hr
      simp only [VR] at hxv
      obtain ⟨c, d, n, hc, rfl⟩ := hxv
      obtain ⟨es', hb, her⟩ := hr.amap hx hc
      obtain ⟨o', h1, h2⟩ := hrun σ y es'.toList w hy her
      refine ⟨o', h2, ?_⟩
      simp only [Instr.lookup, Sem.run_bind, Go.run_underlying (und_ok hG ht), Result.andThen_ok, Sem.run_pure, run_getMap hb, hck σ y _ w hy, findKey_run hG hk h1]
      cases o' with
      | none => simp only [Sem.run_bind, hzr, Result.andThen_ok, Sem.run_pure]
      | some p => obtain ⟨i, v⟩ := p; rfl
    cases o with
    | none =>
      refine ⟨_, e4, fun B σ x y w hx hy hr => ?_⟩
      obtain ⟨o', h1, h2⟩ := rel B σ x y w hx hy hr
      cases o' with
      | some p => exact h1.elim
      | none => exact ⟨_, h2, fin z false σ zv (by rw [hzv]; exact ofValue_R σ zv)⟩
    | some p =>
      obtain ⟨i, v⟩ := p
      refine ⟨_, e4, fun B σ x y w hx hy hr => ?_⟩
      obtain ⟨o', h1, h2⟩ := rel B σ x y w hx hy hr
      cases o' with
      | none => exact h1.elim
      | some p => obtain ⟨j, u⟩ := p; exact ⟨_, h2, fin v true σ u h1.2⟩
  · subst e1; exact ok.elim
end
end
end Go.Ev
