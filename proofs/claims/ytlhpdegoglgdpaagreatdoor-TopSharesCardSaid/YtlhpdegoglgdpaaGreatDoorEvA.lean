/- A part of the proof of TopShares: for every row of weights the law returns true, and the row reads as before. No condition beyond the statement's own. -/
import Derived.Orders
set_option linter.all false
set_option linter.unusedVariables false
set_option linter.unusedSimpArgs false
set_option linter.constructorNameAsVariable false
set_option linter.deprecated false
namespace Go.Ev
noncomputable section
open Go
inductive Cap where
  | exact (n : Nat)
  | least (n k : Nat)
inductive AV where
  | undef
  | top
  | bool (b : Bool)
  | int (k : IntKind) (n : Int)
  | flt (k : FloatKind) (b : Nat)
  | sym (i : Nat)
  | str (s : List Nat)
  | ptr (b o : Nat)
  | nilp
  | slc (b o len : Nat) (cap : Cap)
  | nils
  | map (r : Nat)
  | nilm
  | fn (f : Nat) (first captured : List AV)
  | yld (l : Nat)
  | nilf
  | ifc (t : Nat) (v : AV)
  | nili
  | agg (l : List AV)
  | tup (l : List AV)
instance : Inhabited AV := ⟨.undef⟩
inductive Tr where
  | leaf (v : AV)
  | node (a b c d e f g h : Tr)
inductive I8 where
  | a | b | c | d | e | f | g | h
inductive Fl where
  | plain | stringish | ro
structure ALoop where
  state : LoopState
  pending : Option Code
  fn : Nat
  nt : Nat
  tr : Tr
  params : List Nat
  assign : Code
  body : Code
structure AE where
  key : AV
  val : AV
  born : Nat
structure SR where
  op : BinOp
  a : AV
  b : AV
  r : AV
inductive ABlk where
  | dead
  | cells (cs : List AV) (elem : Nat) (fl : Fl)
  | amap (es : List AE) (clock : Nat)
  | siter (s : List Nat) (pos : Nat)
  | miter (m : Option Nat) (since : Nat) (seen : List Nat) (stepped : Nat)
  | loop (l : ALoop)
  | defd
  | syms (l : List SR)
inductive BT (α : Type) where
  | leaf
  | node (x : α) (l r : BT α)
inductive AD where
  | mark (r : Nat)
  | call (f : Nat) (args : List AV)
structure AH where
  t : BT ABlk
  next : Nat
  ds : List AD
  lo : Nat
inductive Ex where
  | normal | exit (id : Nat) | goto (l : Nat) | ret
inductive Out where
  | bad (n : Nat)
  | done (x : Ex) (tr : Tr) (keep : List AV) (bs : List ABlk)
  | val (v : AV) (h : AH)
  | jn (v : AV) (bs : List ABlk)
instance : Inhabited Out := ⟨.bad 0⟩
structure Box (α : Type) where
  f : α
@[reducible] def KV := AV → AH → Out
@[reducible] def KX := Ex → Tr → AH → Out
structure Ref where
  nt : Nat
  rnd : Bool
  code : Code
@[reducible] def Self := Ref → Tr → AH → KX → Out
@[reducible] def OpF := Self → Tr → AH → KV → Out
@[reducible] def RgF := Self → Tr → AH → (Tr → AH → Out) → Out
@[reducible] def CdF := Self → Tr → AH → KX → Out
@[reducible] def Get := Tr → (AV → Out) → Out
@[reducible] def Put := Tr → AV → (Tr → Out) → Out
@[inline] def forceN {α : Type} (n : Nat) (k : Nat → α) : α := Nat.casesOn (motive := fun _ => α) n (k 0) (fun m => k (Nat.succ m))
theorem forceN_eq {α : Type} (n : Nat) (k : Nat → α) : forceN n k = k n := by cases n <;> rfl
def forceI {α : Type} (n : Int) (k : Int → α) : α := Int.casesOn (motive := fun _ => α) n (fun m => forceN m fun m => k (.ofNat m)) (fun m => forceN m fun m => k (.negSucc m))
theorem forceI_eq {α : Type} (n : Int) (k : Int → α) : forceI n k = k n := by cases n <;> simp [forceI, forceN_eq]
def forceB {α : Type} (b : Bool) (k : Bool → α) : α := Bool.casesOn (motive := fun _ => α) b (k false) (k true)
theorem forceB_eq {α : Type} (b : Bool) (k : Bool → α) : forceB b k = k b := by cases b <;> rfl
def nthK_impl {α : Type} : List α → Nat → (α → Out) → Out
  | [], _, _ => .bad 2
  | a :: _, 0, k => k a
  | _ :: l, i + 1, k => nthK_impl l i k
def nthK {α : Type} (l : List α) : Nat → (α → Out) → Out :=
  @List.rec α (fun _ => Nat → (α → Out) → Out) (fun _ _ => .bad 2)
    (fun a _ ih i k => @Nat.rec (fun _ => Out) (k a) (fun j _ => ih j k) i) l
theorem nthK_eq {α : Type} (l : List α) : ∀ (i : Nat) (k : α → Out), nthK l i k = match l[i]? with | some a => k a | none => .bad 2 := by
  induction l with
  | nil => intro i k; rfl
  | cons a l ih =>
    intro i k
    cases i with
    | zero => rfl
    | succ i => rw [show nthK (a :: l) (i + 1) k = nthK l i k from rfl, ih]; simp
def setK_impl {α : Type} : List α → Nat → α → (List α → Out) → Out
  | [], _, _, _ => .bad 3
  | _ :: l, 0, v, k => k (v :: l)
  | a :: l, i + 1, v, k => setK_impl l i v fun l' => k (a :: l')
def setK {α : Type} (l : List α) : Nat → α → (List α → Out) → Out :=
  @List.rec α (fun _ => Nat → α → (List α → Out) → Out) (fun _ _ _ => .bad 3)
    (fun a l ih i v k => @Nat.rec (fun _ => Out) (k (v :: l)) (fun j _ => ih j v (fun l' => k (a :: l'))) i) l
theorem setK_eq {α : Type} (l : List α) : ∀ (i : Nat) (v : α) (k : List α → Out), setK l i v k = if i < l.length then k (l.set i v) else .bad 3 := by
  induction l with
  | nil => intro i v k; rfl
  | cons a l ih =>
    intro i v k
    cases i with
    | zero => rw [show setK (a :: l) 0 v k = k (v :: l) from rfl]; simp
    | succ i => rw [show setK (a :: l) (i + 1) v k = setK l i v (fun l' => k (a :: l')) from rfl, ih]; simp
def takeK_impl {α : Type} : Nat → List α → (List α → Out) → Out
  | 0, _, k => k []
  | _ + 1, [], _ => .bad 4
  | n + 1, a :: l, k => takeK_impl n l fun l' => k (a :: l')
def takeK {α : Type} (n : Nat) : List α → (List α → Out) → Out :=
  @Nat.rec (fun _ => List α → (List α → Out) → Out) (fun _ k => k [])
    (fun _ ih l k => @List.casesOn α (fun _ => Out) l (.bad 4) (fun a l' => ih l' (fun l'' => k (a :: l'')))) n
theorem takeK_eq {α : Type} (n : Nat) : ∀ (l : List α) (k : List α → Out), takeK n l k = if n ≤ l.length then k (l.take n) else .bad 4 := by
  induction n with
  | zero => intro l k; rw [show takeK 0 l k = k [] from rfl]; simp
  | succ n ih =>
    intro l k
    cases l with
    | nil => rw [show takeK (n + 1) ([] : List α) k = .bad 4 from rfl]; simp
    | cons a l => rw [show takeK (n + 1) (a :: l) k = takeK n l (fun l' => k (a :: l')) from rfl, ih]; simp
def dropK_impl {α : Type} : Nat → List α → (List α → Out) → Out
  | 0, l, k => k l
  | _ + 1, [], _ => .bad 5
  | n + 1, _ :: l, k => dropK_impl n l k
def dropK {α : Type} (n : Nat) : List α → (List α → Out) → Out :=
  @Nat.rec (fun _ => List α → (List α → Out) → Out) (fun l k => k l)
    (fun _ ih l k => @List.casesOn α (fun _ => Out) l (.bad 5) (fun _ l' => ih l' k)) n
theorem dropK_eq {α : Type} (n : Nat) : ∀ (l : List α) (k : List α → Out), dropK n l k = if n ≤ l.length then k (l.drop n) else .bad 5 := by
  induction n with
  | zero => intro l k; rw [show dropK 0 l k = k l from rfl]; simp
  | succ n ih =>
    intro l k
    cases l with
    | nil => rw [show dropK (n + 1) ([] : List α) k = .bad 5 from rfl]; simp
    | cons a l => rw [show dropK (n + 1) (a :: l) k = dropK n l k from rfl, ih]; simp
def sliceK {α : Type} (l : List α) (o n : Nat) (k : List α → Out) : Out := dropK o l fun l' => takeK n l' k
theorem sliceK_eq {α : Type} (l : List α) (o n : Nat) (k : List α → Out) : sliceK l o n k = if o + n ≤ l.length then k ((l.drop o).take n) else (if o ≤ l.length then .bad 4 else .bad 5) := by
  simp only [sliceK, dropK_eq, takeK_eq, List.length_drop]
  split
  · split
    · rw [if_pos (by omega)]
    · rw [if_neg (by omega)]
  · rw [if_neg (by omega)]
def appK_impl {α : Type} : List α → List α → (List α → Out) → Out
  | [], m, k => k m
  | a :: l, m, k => appK_impl l m fun l' => k (a :: l')
def appK {α : Type} (l : List α) : List α → (List α → Out) → Out :=
  @List.rec α (fun _ => List α → (List α → Out) → Out) (fun m k => k m) (fun a _ ih m k => ih m (fun l' => k (a :: l'))) l
theorem appK_eq {α : Type} (l : List α) : ∀ (m : List α) (k : List α → Out), appK l m k = k (l ++ m) := by
  induction l with
  | nil => intro m k; rfl
  | cons a l ih => intro m k; rw [show appK (a :: l) m k = appK l m (fun l' => k (a :: l')) from rfl, ih]; rfl
def BT.get {α : Type} : BT α → Nat → Option α
  | .leaf, _ => none
  | .node x _ _, 0 => some x
  | .node _ l r, i + 1 => if i % 2 = 0 then l.get (i / 2) else r.get (i / 2)
def BT.set {α : Type} : BT α → Nat → α → Option (BT α)
  | .leaf, 0, v => some (.node v .leaf .leaf)
  | .leaf, _ + 1, _ => none
  | .node _ l r, 0, v => some (.node v l r)
  | .node x l r, i + 1, v => if i % 2 = 0 then (l.set (i / 2) v).map (.node x · r) else (r.set (i / 2) v).map (.node x l ·)
def BT.getK_impl {α : Type} : BT α → Nat → (α → Out) → Out
  | .leaf, _, _ => .bad 6
  | .node x _ _, 0, k => k x
  | .node _ l r, i + 1, k => if i % 2 = 0 then l.getK_impl (i / 2) k else r.getK_impl (i / 2) k
def BT.getK {α : Type} (t : BT α) : Nat → (α → Out) → Out :=
  @BT.rec α (fun _ => Nat → (α → Out) → Out) (fun _ _ => .bad 6)
    (fun x _ _ il ir i k => @Nat.casesOn (fun _ => Out) i (k x) (fun j => @Nat.casesOn (fun _ => Out) (Nat.mod j 2) (il (Nat.div j 2) k) (fun _ => ir (Nat.div j 2) k))) t
theorem BT.getK_eq {α : Type} (t : BT α) : ∀ (i : Nat) (k : α → Out), t.getK i k = match t.get i with | some a => k a | none => .bad 6 := by
  induction t with
  | leaf => intro i k; rfl
  | node x l r il ir =>
    intro i k
    cases i with
    | zero => rfl
    | succ j =>
      have hj : j % 2 = 0 ∨ j % 2 = 1 := by omega
      rw [show (BT.node x l r).getK (j + 1) k = @Nat.casesOn (fun _ => Out) (j % 2) (l.getK (j / 2) k) (fun _ => r.getK (j / 2) k) from rfl]
      rcases hj with hj | hj
      · rw [hj, show (BT.node x l r).get (j + 1) = l.get (j / 2) from by simp [BT.get, hj]]; exact il _ _
      · rw [hj, show (BT.node x l r).get (j + 1) = r.get (j / 2) from by simp [BT.get, hj]]; exact ir _ _
def BT.setK_impl {α : Type} : BT α → Nat → α → (BT α → Out) → Out
  | .leaf, 0, v, k => k (.node v .leaf .leaf)
  | .leaf, _ + 1, _, _ => .bad 7
  | .node _ l r, 0, v, k => k (.node v l r)
  | .node x l r, i + 1, v, k => if i % 2 = 0 then l.setK_impl (i / 2) v fun l' => k (.node x l' r) else r.setK_impl (i / 2) v fun r' => k (.node x l r')
def BT.setK {α : Type} (t : BT α) : Nat → α → (BT α → Out) → Out :=
  @BT.rec α (fun _ => Nat → α → (BT α → Out) → Out)
    (fun i v k => @Nat.casesOn (fun _ => Out) i (k (.node v .leaf .leaf)) (fun _ => .bad 7))
    (fun x l r il ir i v k => @Nat.casesOn (fun _ => Out) i (k (.node v l r)) (fun j => @Nat.casesOn (fun _ => Out) (Nat.mod j 2) (il (Nat.div j 2) v (fun l' => k (.node x l' r))) (fun _ => ir (Nat.div j 2) v (fun r' => k (.node x l r'))))) t
theorem BT.setK_eq {α : Type} (t : BT α) : ∀ (i : Nat) (v : α) (k : BT α → Out), t.setK i v k = match t.set i v with | some t' => k t' | none => .bad 7 := by
  induction t with
  | leaf => intro i v k; cases i <;> rfl
  | node x l r il ir =>
    intro i v k
    cases i with
    | zero => rfl
    | succ j =>
      have hj : j % 2 = 0 ∨ j % 2 = 1 := by omega
      rw [show (BT.node x l r).setK (j + 1) v k = @Nat.casesOn (fun _ => Out) (j % 2) (l.setK (j / 2) v (fun l' => k (.node x l' r))) (fun _ => r.setK (j / 2) v (fun r' => k (.node x l r'))) from rfl]
      rcases hj with hj | hj
      · rw [hj, show (BT.node x l r).set (j + 1) v = (l.set (j / 2) v).map (.node x · r) from by simp [BT.set, hj]]
        refine (il _ _ _).trans ?_
        cases l.set (j / 2) v <;> rfl
      · rw [hj, show (BT.node x l r).set (j + 1) v = (r.set (j / 2) v).map (.node x l ·) from by simp [BT.set, hj]]
        refine (ir _ _ _).trans ?_
        cases r.set (j / 2) v <;> rfl
theorem BT.get_set {α : Type} (t : BT α) : ∀ (i j : Nat) (v : α) (t' : BT α), t.set i v = some t' → t'.get j = if i = j then some v else t.get j := by
  induction t with
  | leaf =>
    intro i j v t' h
    cases i with
    | zero =>
      simp only [BT.set, Option.some.injEq] at h
      subst h
      cases j with
      | zero => simp [BT.get]
      | succ j => simp [BT.get]
    | succ i => simp [BT.set] at h
  | node x l r il ir =>
    intro i j v t' h
    cases i with
    | zero =>
      simp only [BT.set, Option.some.injEq] at h
      subst h
      cases j with
      | zero => simp [BT.get]
      | succ j => simp [BT.get]
    | succ i =>
      simp only [BT.set] at h
      by_cases hi : i % 2 = 0
      · simp only [hi, if_true, Option.map_eq_some_iff] at h
        obtain ⟨l', hl, rfl⟩ := h
        cases j with
        | zero => simp [BT.get]
        | succ j =>
          simp only [BT.get]
          by_cases hj : j % 2 = 0
          · simp only [hj, if_true]
            rw [il _ _ _ _ hl]
            by_cases hij : i = j
            · subst hij; simp
            · have h1 : i / 2 ≠ j / 2 := by omega
              simp [h1, hij]
          · simp only [hj, if_false]
            have : i ≠ j := by rintro rfl; exact hj hi
            simp [this]
      · simp only [hi, if_false, Option.map_eq_some_iff] at h
        obtain ⟨r', hr, rfl⟩ := h
        cases j with
        | zero => simp [BT.get]
        | succ j =>
          simp only [BT.get]
          by_cases hj : j % 2 = 0
          · simp only [hj, if_true]
            have : i ≠ j := by rintro rfl; exact hi hj
            simp [this]
          · simp only [hj, if_false]
            rw [ir _ _ _ _ hr]
            by_cases hij : i = j
            · subst hij; simp
            · have h1 : i / 2 ≠ j / 2 := by omega
              simp [h1, hij]
def odds {α : Type} : List α → List α
  | [] => []
  | [_] => []
  | _ :: b :: l => b :: odds l
def evens {α : Type} : List α → List α
  | [] => []
  | [a] => [a]
  | a :: _ :: l => a :: evens l
theorem evens_get {α : Type} : ∀ (l : List α) (i : Nat), (evens l)[i]? = l[2 * i]?
  | [], i => by simp [evens]
  | [a], i => by cases i <;> simp [evens]
  | a :: b :: l, i => by
    cases i with
    | zero => simp [evens]
    | succ i => have := evens_get l i; simp only [evens, List.getElem?_cons_succ]; rw [this, show 2 * (i + 1) = 2 * i + 1 + 1 from by omega]; simp
theorem odds_get {α : Type} : ∀ (l : List α) (i : Nat), (odds l)[i]? = l[2 * i + 1]?
  | [], i => by simp [odds]
  | [a], i => by simp [odds]
  | a :: b :: l, i => by
    cases i with
    | zero => simp [odds]
    | succ i => have := odds_get l i; simp only [odds, List.getElem?_cons_succ]; rw [this, show 2 * (i + 1) = 2 * i + 1 + 1 from by omega]; simp
def BT.ofList {α : Type} : Nat → List α → BT α
  | 0, _ => .leaf
  | _ + 1, [] => .leaf
  | n + 1, x :: l => .node x (BT.ofList n (evens l)) (BT.ofList n (odds l))
theorem BT.get_ofList {α : Type} : ∀ (n : Nat) (l : List α) (i : Nat) (x : α), (BT.ofList n l).get i = some x → l[i]? = some x
  | 0, l, i, x, h => by simp [BT.ofList, BT.get] at h
  | n + 1, [], i, x, h => by simp [BT.ofList, BT.get] at h
  | n + 1, y :: l, i, x, h => by
    cases i with
    | zero => simpa [BT.ofList, BT.get] using h
    | succ i =>
      simp only [BT.ofList, BT.get] at h
      by_cases hi : i % 2 = 0
      · simp only [hi, if_true] at h
        have := BT.get_ofList n _ _ _ h
        rw [evens_get, show 2 * (i / 2) = i from by omega] at this
        simpa using this
      · simp only [hi, if_false] at h
        have := BT.get_ofList n _ _ _ h
        rw [odds_get, show 2 * (i / 2) + 1 = i from by omega] at this
        simpa using this
def selF (i : I8) : Tr → (Tr → Out) → Out := I8.casesOn (motive := fun _ => Tr → (Tr → Out) → Out) i
  (fun t k => Tr.casesOn (motive := fun _ => Out) t (fun _ => .bad 8) (fun a _ _ _ _ _ _ _ => k a))
  (fun t k => Tr.casesOn (motive := fun _ => Out) t (fun _ => .bad 8) (fun _ b _ _ _ _ _ _ => k b))
  (fun t k => Tr.casesOn (motive := fun _ => Out) t (fun _ => .bad 8) (fun _ _ c _ _ _ _ _ => k c))
  (fun t k => Tr.casesOn (motive := fun _ => Out) t (fun _ => .bad 8) (fun _ _ _ d _ _ _ _ => k d))
  (fun t k => Tr.casesOn (motive := fun _ => Out) t (fun _ => .bad 8) (fun _ _ _ _ e _ _ _ => k e))
  (fun t k => Tr.casesOn (motive := fun _ => Out) t (fun _ => .bad 8) (fun _ _ _ _ _ f _ _ => k f))
  (fun t k => Tr.casesOn (motive := fun _ => Out) t (fun _ => .bad 8) (fun _ _ _ _ _ _ g _ => k g))
  (fun t k => Tr.casesOn (motive := fun _ => Out) t (fun _ => .bad 8) (fun _ _ _ _ _ _ _ h => k h))
def putF (i : I8) : Tr → (Tr → (Tr → (Tr → Out) → Out) → Out) → Out := I8.casesOn (motive := fun _ => Tr → (Tr → (Tr → (Tr → Out) → Out) → Out) → Out) i
  (fun t k => Tr.casesOn (motive := fun _ => Out) t (fun _ => .bad 9) (fun a b c d e f g h => k a fun x q => q (.node x b c d e f g h)))
  (fun t k => Tr.casesOn (motive := fun _ => Out) t (fun _ => .bad 9) (fun a b c d e f g h => k b fun x q => q (.node a x c d e f g h)))
  (fun t k => Tr.casesOn (motive := fun _ => Out) t (fun _ => .bad 9) (fun a b c d e f g h => k c fun x q => q (.node a b x d e f g h)))
  (fun t k => Tr.casesOn (motive := fun _ => Out) t (fun _ => .bad 9) (fun a b c d e f g h => k d fun x q => q (.node a b c x e f g h)))
  (fun t k => Tr.casesOn (motive := fun _ => Out) t (fun _ => .bad 9) (fun a b c d e f g h => k e fun x q => q (.node a b c d x f g h)))
  (fun t k => Tr.casesOn (motive := fun _ => Out) t (fun _ => .bad 9) (fun a b c d e f g h => k f fun x q => q (.node a b c d e x g h)))
  (fun t k => Tr.casesOn (motive := fun _ => Out) t (fun _ => .bad 9) (fun a b c d e f g h => k g fun x q => q (.node a b c d e f x h)))
  (fun t k => Tr.casesOn (motive := fun _ => Out) t (fun _ => .bad 9) (fun a b c d e f g h => k h fun x q => q (.node a b c d e f g x)))
def selB (i : I8) : Box (Tr → (Tr → Out) → Out) := I8.casesOn (motive := fun _ => Box (Tr → (Tr → Out) → Out)) i
  ⟨fun t k => Tr.casesOn (motive := fun _ => Out) t (fun _ => .bad 8) (fun a _ _ _ _ _ _ _ => k a)⟩
  ⟨fun t k => Tr.casesOn (motive := fun _ => Out) t (fun _ => .bad 8) (fun _ b _ _ _ _ _ _ => k b)⟩
  ⟨fun t k => Tr.casesOn (motive := fun _ => Out) t (fun _ => .bad 8) (fun _ _ c _ _ _ _ _ => k c)⟩
  ⟨fun t k => Tr.casesOn (motive := fun _ => Out) t (fun _ => .bad 8) (fun _ _ _ d _ _ _ _ => k d)⟩
  ⟨fun t k => Tr.casesOn (motive := fun _ => Out) t (fun _ => .bad 8) (fun _ _ _ _ e _ _ _ => k e)⟩
  ⟨fun t k => Tr.casesOn (motive := fun _ => Out) t (fun _ => .bad 8) (fun _ _ _ _ _ f _ _ => k f)⟩
  ⟨fun t k => Tr.casesOn (motive := fun _ => Out) t (fun _ => .bad 8) (fun _ _ _ _ _ _ g _ => k g)⟩
  ⟨fun t k => Tr.casesOn (motive := fun _ => Out) t (fun _ => .bad 8) (fun _ _ _ _ _ _ _ h => k h)⟩
def putB (i : I8) : Box (Tr → (Tr → (Tr → (Tr → Out) → Out) → Out) → Out) := I8.casesOn (motive := fun _ => Box (Tr → (Tr → (Tr → (Tr → Out) → Out) → Out) → Out)) i
  ⟨fun t k => Tr.casesOn (motive := fun _ => Out) t (fun _ => .bad 9) (fun a b c d e f g h => k a fun x q => q (.node x b c d e f g h))⟩
  ⟨fun t k => Tr.casesOn (motive := fun _ => Out) t (fun _ => .bad 9) (fun a b c d e f g h => k b fun x q => q (.node a x c d e f g h))⟩
  ⟨fun t k => Tr.casesOn (motive := fun _ => Out) t (fun _ => .bad 9) (fun a b c d e f g h => k c fun x q => q (.node a b x d e f g h))⟩
  ⟨fun t k => Tr.casesOn (motive := fun _ => Out) t (fun _ => .bad 9) (fun a b c d e f g h => k d fun x q => q (.node a b c x e f g h))⟩
  ⟨fun t k => Tr.casesOn (motive := fun _ => Out) t (fun _ => .bad 9) (fun a b c d e f g h => k e fun x q => q (.node a b c d x f g h))⟩
  ⟨fun t k => Tr.casesOn (motive := fun _ => Out) t (fun _ => .bad 9) (fun a b c d e f g h => k f fun x q => q (.node a b c d e x g h))⟩
  ⟨fun t k => Tr.casesOn (motive := fun _ => Out) t (fun _ => .bad 9) (fun a b c d e f g h => k g fun x q => q (.node a b c d e f x h))⟩
  ⟨fun t k => Tr.casesOn (motive := fun _ => Out) t (fun _ => .bad 9) (fun a b c d e f g h => k h fun x q => q (.node a b c d e f g x))⟩
end
end Go.Ev
namespace Go.Ev
noncomputable section
open Go
def kix (k : IntKind) : Nat := IntKind.casesOn k 0 1 2 3 4 5 6 7
def kmax (k : IntKind) : Nat := IntKind.casesOn k 127 32767 2147483647 9223372036854775807 255 65535 4294967295 18446744073709551615
def kneg (k : IntKind) : Nat := IntKind.casesOn k 128 32768 2147483648 9223372036854775808 0 0 0 0
def kmod (k : IntKind) : Nat := IntKind.casesOn k 256 65536 4294967296 18446744073709551616 256 65536 4294967296 18446744073709551616
def kbits (k : IntKind) : Nat := IntKind.casesOn k 8 16 32 64 8 16 32 64
@[reducible] def KI := Int → Out
def subN (m n : Nat) (k : KI) : Out := Bool.casesOn (Nat.ble n m) (forceN (Nat.sub (Nat.sub n m) 1) fun r => k (.negSucc r)) (forceN (Nat.sub m n) fun r => k (.ofNat r))
def addZ (a b : Int) (k : KI) : Out :=
  Int.casesOn a
    (fun m => Int.casesOn b (fun n => forceN (Nat.add m n) fun r => k (.ofNat r)) (fun n => subN m (Nat.succ n) k))
    (fun m => Int.casesOn b (fun n => subN n (Nat.succ m) k) (fun n => forceN (Nat.succ (Nat.add m n)) fun r => k (.negSucc r)))
def subZ (a b : Int) (k : KI) : Out :=
  Int.casesOn a
    (fun m => Int.casesOn b (fun n => subN m n k) (fun n => forceN (Nat.succ (Nat.add m n)) fun r => k (.ofNat r)))
    (fun m => Int.casesOn b (fun n => forceN (Nat.add m n) fun r => k (.negSucc r)) (fun n => subN n m k))
def negN (m : Nat) (k : KI) : Out := Nat.casesOn m (k (.ofNat 0)) (fun r => k (.negSucc r))
def mulZ (a b : Int) (k : KI) : Out :=
  Int.casesOn a
    (fun m => Int.casesOn b (fun n => forceN (Nat.mul m n) fun r => k (.ofNat r)) (fun n => negN (Nat.mul m (Nat.succ n)) k))
    (fun m => Int.casesOn b (fun n => negN (Nat.mul (Nat.succ m) n) k) (fun n => forceN (Nat.mul (Nat.succ m) (Nat.succ n)) fun r => k (.ofNat r)))
def ltZ (a b : Int) : Bool := Int.casesOn a (fun m => Int.casesOn b (fun n => Nat.ble (Nat.succ m) n) (fun _ => false)) (fun m => Int.casesOn b (fun _ => true) (fun n => Nat.ble (Nat.succ n) m))
def eqZ (a b : Int) : Bool := Int.casesOn a (fun m => Int.casesOn b (fun n => Nat.beq m n) (fun _ => false)) (fun m => Int.casesOn b (fun _ => false) (fun n => Nat.beq m n))
def notB (b : Bool) : Bool := Bool.casesOn b true false
def toU (k : IntKind) (a : Int) : Nat := Int.casesOn a (fun m => Nat.mod m (kmod k)) (fun m => Nat.sub (Nat.sub (kmod k) 1) (Nat.mod m (kmod k)))
def wrapU (kd : IntKind) (r : Nat) (k : KI) : Out :=
  forceN r fun r => Bool.casesOn (Nat.ble r (kmax kd)) (forceN (Nat.sub (Nat.sub (kmod kd) r) 1) fun m => k (.negSucc m)) (k (.ofNat r))
def wrapZ (kd : IntKind) (a : Int) (k : KI) : Out := wrapU kd (toU kd a) k
def fitZ (kd : IntKind) (a : Int) (k : KI) : Out :=
  Int.casesOn a (fun m => Bool.casesOn (Nat.ble m (kmax kd)) (wrapZ kd a k) (k (.ofNat m)))
    (fun m => Bool.casesOn (Nat.ble (Nat.succ m) (kneg kd)) (wrapZ kd a k) (k (.negSucc m)))
def shlZ (a : Int) (n : Nat) (k : KI) : Out := Int.casesOn a (fun m => forceN (Nat.shiftLeft m n) fun r => k (.ofNat r)) (fun m => negN (Nat.shiftLeft (Nat.succ m) n) k)
def shrZ (a : Int) (n : Nat) (k : KI) : Out := Int.casesOn a (fun m => forceN (Nat.shiftRight m n) fun r => k (.ofNat r)) (fun m => forceN (Nat.shiftRight m n) fun r => k (.negSucc r))
def minN (m n : Nat) : Nat := Bool.casesOn (Nat.ble m n) n m
def quoZ (a b : Int) (k : KI) : Out :=
  Int.casesOn a
    (fun m => Int.casesOn b (fun n => forceN (Nat.div m n) fun r => k (.ofNat r)) (fun n => negN (Nat.div m (Nat.succ n)) k))
    (fun m => Int.casesOn b (fun n => negN (Nat.div (Nat.succ m) n) k) (fun n => forceN (Nat.div (Nat.succ m) (Nat.succ n)) fun r => k (.ofNat r)))
def remZ (a b : Int) (k : KI) : Out :=
  Int.casesOn a
    (fun m => Int.casesOn b (fun n => forceN (Nat.mod m n) fun r => k (.ofNat r)) (fun n => forceN (Nat.mod m (Nat.succ n)) fun r => k (.ofNat r)))
    (fun m => Int.casesOn b (fun n => negN (Nat.mod (Nat.succ m) n) k) (fun n => negN (Nat.mod (Nat.succ m) (Nat.succ n)) k))
def asI (v : AV) (k : IntKind → Int → Out) : Out :=
  AV.casesOn (motive_1 := fun _ => Out) v (.bad 11) (.bad 11) (fun _ => .bad 11) k (fun _ _ => .bad 11) (fun _ => .bad 11) (fun _ => .bad 11) (fun _ _ => .bad 11) (.bad 11) (fun _ _ _ _ => .bad 11) (.bad 11) (fun _ => .bad 11) (.bad 11) (fun _ _ _ => .bad 11) (fun _ => .bad 11) (.bad 11) (fun _ _ => .bad 11) (.bad 11) (fun _ => .bad 11) (fun _ => .bad 11)
def asB (v : AV) (k : Bool → Out) : Out :=
  AV.casesOn (motive_1 := fun _ => Out) v (.bad 12) (.bad 12) k (fun _ _ => .bad 12) (fun _ _ => .bad 12) (fun _ => .bad 12) (fun _ => .bad 12) (fun _ _ => .bad 12) (.bad 12) (fun _ _ _ _ => .bad 12) (.bad 12) (fun _ => .bad 12) (.bad 12) (fun _ _ _ => .bad 12) (fun _ => .bad 12) (.bad 12) (fun _ _ => .bad 12) (.bad 12) (fun _ => .bad 12) (fun _ => .bad 12)
def asS (v : AV) (k : List Nat → Out) : Out :=
  AV.casesOn (motive_1 := fun _ => Out) v (.bad 13) (.bad 13) (fun _ => .bad 13) (fun _ _ => .bad 13) (fun _ _ => .bad 13) (fun _ => .bad 13) k (fun _ _ => .bad 13) (.bad 13) (fun _ _ _ _ => .bad 13) (.bad 13) (fun _ => .bad 13) (.bad 13) (fun _ _ _ => .bad 13) (fun _ => .bad 13) (.bad 13) (fun _ _ => .bad 13) (.bad 13) (fun _ => .bad 13) (fun _ => .bad 13)
def asP (v : AV) (k : Nat → Nat → Out) : Out :=
  AV.casesOn (motive_1 := fun _ => Out) v (.bad 14) (.bad 14) (fun _ => .bad 14) (fun _ _ => .bad 14) (fun _ _ => .bad 14) (fun _ => .bad 14) (fun _ => .bad 14) k (.bad 14) (fun _ _ _ _ => .bad 14) (.bad 14) (fun _ => .bad 14) (.bad 14) (fun _ _ _ => .bad 14) (fun _ => .bad 14) (.bad 14) (fun _ _ => .bad 14) (.bad 14) (fun _ => .bad 14) (fun _ => .bad 14)
def eqK (a b : IntKind) (x : Out) : Out := Bool.casesOn (Nat.beq (kix a) (kix b)) (.bad 20) x
def asN (v : AV) (k : Nat → Out) : Out := asI v fun _ a => Int.casesOn a k (fun _ => .bad 21)
def int2 (F : IntKind → Int → Int → KI → Out) (v w : AV) (k : AV → Out) : Out := asI v fun kd a => asI w fun kd' b => eqK kd kd' (F kd a b fun r => k (.int kd r))
def cmp2 (F : Int → Int → Bool) (v w : AV) (k : AV → Out) : Out := asI v fun kd a => asI w fun kd' b => eqK kd kd' (forceB (F a b) fun r => k (.bool r))
def zAdd (kd : IntKind) (a b : Int) (k : KI) : Out := addZ a b fun r => fitZ kd r k
def zSub (kd : IntKind) (a b : Int) (k : KI) : Out := subZ a b fun r => fitZ kd r k
def zMul (kd : IntKind) (a b : Int) (k : KI) : Out := mulZ a b fun r => fitZ kd r k
def zQuo (kd : IntKind) (a b : Int) (k : KI) : Out := Bool.casesOn (eqZ b (.ofNat 0)) (quoZ a b fun r => fitZ kd r k) (.bad 22)
def zRem (_kd : IntKind) (a b : Int) (k : KI) : Out := Bool.casesOn (eqZ b (.ofNat 0)) (remZ a b k) (.bad 22)
def zAnd (kd : IntKind) (a b : Int) (k : KI) : Out := wrapU kd (Nat.land (toU kd a) (toU kd b)) k
def zOr (kd : IntKind) (a b : Int) (k : KI) : Out := wrapU kd (Nat.lor (toU kd a) (toU kd b)) k
def zXor (kd : IntKind) (a b : Int) (k : KI) : Out := wrapU kd (Nat.xor (toU kd a) (toU kd b)) k
def zAndNot (kd : IntKind) (a b : Int) (k : KI) : Out := wrapU kd (Nat.land (toU kd a) (Nat.sub (Nat.sub (kmod kd) 1) (toU kd b))) k
def shf (left : Bool) (v w : AV) (k : AV → Out) : Out := asI v fun kd a => asI w fun _ b => Int.casesOn b
  (fun n => Bool.casesOn left (shrZ a (minN n (kbits kd)) fun r => k (.int kd r)) (shlZ a (minN n (kbits kd)) fun r => fitZ kd r fun r => k (.int kd r)))
  (fun _ => .bad 23)
def eqLN_impl : List Nat → List Nat → Bool
  | [], [] => true
  | a :: l, b :: m => a == b && eqLN_impl l m
  | _, _ => false
def eqLN (l : List Nat) : List Nat → Bool :=
  @List.rec Nat (fun _ => List Nat → Bool) (fun m => List.casesOn m true (fun _ _ => false))
    (fun a _ ih m => List.casesOn m false (fun b m' => Bool.casesOn (Nat.beq a b) false (ih m'))) l
theorem eqLN_iff (l : List Nat) : ∀ m, eqLN l m = decide (l = m) := by
  induction l with
  | nil => intro m; cases m <;> simp [eqLN]
  | cons a l ih =>
    intro m
    cases m with
    | nil => rfl
    | cons b m =>
      rw [show eqLN (a :: l) (b :: m) = Bool.casesOn (Nat.beq a b) false (eqLN l m) from rfl, ih]
      cases h : Nat.beq a b with
      | true => have := Nat.eq_of_beq_eq_true h; simp [this]
      | false => have := Nat.ne_of_beq_eq_false h; simp [this]
def ltLN : List Nat → List Nat → Bool
  | _, [] => false
  | [], _ :: _ => true
  | a :: x, b :: y => a < b || (a == b && ltLN x y)
def lenK_impl {α : Type} : List α → Nat → (Nat → Out) → Out
  | [], n, k => k n
  | _ :: l, n, k => lenK_impl l (n + 1) k
def lenK {α : Type} (l : List α) : Nat → (Nat → Out) → Out :=
  @List.rec α (fun _ => Nat → (Nat → Out) → Out) (fun n k => forceN n k) (fun _ _ ih n k => ih (Nat.succ n) k) l
theorem lenK_eq {α : Type} (l : List α) : ∀ (n : Nat) (k : Nat → Out), lenK l n k = k (l.length + n) := by
  induction l with
  | nil => intro n k; rw [show lenK ([] : List α) n k = forceN n k from rfl, forceN_eq]; simp
  | cons a l ih => intro n k; rw [show lenK (a :: l) n k = lenK l (Nat.succ n) k from rfl, ih]; congr 1; simp; omega
def str2 (F : List Nat → List Nat → Bool) (v w : AV) (k : AV → Out) : Out := asS v fun a => asS w fun b => forceB (F a b) fun r => k (.bool r)
def strAdd (v w : AV) (k : AV → Out) : Out := asS v fun a => asS w fun b => lenK a 0 fun m => lenK b 0 fun n => Bool.casesOn (Nat.ble (Nat.add m n) 9223372036854775807) (.bad 24) (appK a b fun c => k (.str c))
mutual
def AV.beq : AV → AV → Bool
  | .undef, .undef => true
  | .top, .top => true
  | .bool a, .bool b => a == b
  | .int k a, .int l b => k == l && eqZ a b
  | .flt k a, .flt l b => k == l && a == b
  | .sym i, .sym j => i == j
  | .str a, .str b => eqLN a b
  | .ptr b o, .ptr c p => b == c && o == p
  | .nilp, .nilp => true
  | .slc b o n (.exact m), .slc c p l (.exact q) => b == c && o == p && n == l && m == q
  | .slc b o n (.least m i), .slc c p l (.least q j) => b == c && o == p && n == l && m == q && i == j
  | .nils, .nils => true
  | .map r, .map s => r == s
  | .nilm, .nilm => true
  | .fn f a c, .fn g b d => f == g && AV.beqs a b && AV.beqs c d
  | .yld l, .yld m => l == m
  | .nilf, .nilf => true
  | .ifc t v, .ifc u w => t == u && AV.beq v w
  | .nili, .nili => true
  | .agg a, .agg b => AV.beqs a b
  | .tup a, .tup b => AV.beqs a b
  | _, _ => false
def AV.beqs : List AV → List AV → Bool
  | [], [] => true
  | a :: l, b :: m => AV.beq a b && AV.beqs l m
  | _, _ => false
end
def flEq : Fl → Fl → Bool
  | .plain, .plain | .stringish, .stringish | .ro, .ro => true
  | _, _ => false
def aesEq : List AE → List AE → Bool
  | [], [] => true
  | ⟨k, v, b⟩ :: l, ⟨k', v', b'⟩ :: m => AV.beq k k' && AV.beq v v' && b == b' && aesEq l m
  | _, _ => false
def bix (o : BinOp) : Nat := BinOp.casesOn o 0 1 2 3 4 5 6 7 8 9 10 11 12 13 14 15 16
def srsEq : List SR → List SR → Bool
  | [], [] => true
  | ⟨o, a, b, r⟩ :: l, ⟨o', a', b', r'⟩ :: m => Nat.beq (bix o) (bix o') && AV.beq a a' && AV.beq b b' && AV.beq r r' && srsEq l m
  | _, _ => false
def ABlk.beq : ABlk → ABlk → Bool
  | .dead, .dead => true
  | .cells a e f, .cells b d g => e == d && flEq f g && AV.beqs a b
  | .amap a c, .amap b d => c == d && aesEq a b
  | .siter a i, .siter b j => eqLN a b && i == j
  | .miter a b c d, .miter e f g i => a == e && b == f && eqLN c g && d == i
  | .defd, .defd => true
  | .syms a, .syms b => srsEq a b
  | _, _ => false
def blksEq : List ABlk → List ABlk → Bool
  | [], [] => true
  | a :: l, b :: m => ABlk.beq a b && blksEq l m
  | _, _ => false
def outEq : Out → Out → Bool
  | .jn v l, .jn w m => AV.beq v w && blksEq l m
  | _, _ => false
def allEq : List Out → Out
  | [] => .bad 25
  | [o] => o
  | o :: os => if os.all (outEq o) then o else .bad 26
end
end Go.Ev
namespace Go.Ev
noncomputable section
open Go
inductive Ext where
  | indexByte | countByte | makeNoZero | same | mapsClone | cmpStr
inductive Smm where
  | strIndex | byteIndex | yes | share
  | steps (e : Nat)
structure Cfg where
  P : Program
  tt : BT TypeInfo
  ft : BT Func
  join : List Nat
  ext : List (Nat × Ext)
  sums : List (Nat × Smm)
def Cfg.info (G : Cfg) (t : Nat) : Option TypeInfo := G.tt.get t
def Cfg.und (G : Cfg) (t : Nat) : Option TypeDesc :=
  match G.info t with
  | some i => (match i.desc with | .named _ u => (G.info u).map (·.desc) | d => some d)
  | none => none
def Cfg.size (G : Cfg) (t : Nat) : Option Nat := (G.info t).map (·.size)
def ofCell : Value → AV
  | .bool b => forceB b fun b => .bool b
  | .int k n => forceI n fun n => .int k n
  | .float k b => .flt k b
  | .string s => .str (s.data.toList.map UInt8.toNat)
  | .pointer none => .nilp
  | .slice none 0 0 => .nils
  | .map none => .nilm
  | .nilFunc => .nilf
  | .nilIface => .nili
  | _ => .top
def ofCells : List Value → List AV
  | [] => []
  | v :: l => ofCell v :: ofCells l
def ofValue : Value → AV
  | .agg cs => .agg (ofCells cs.toList)
  | .tuple cs => if cs.size = 0 then .undef else .tup (ofCells cs.toList)
  | v => ofCell v
def hget (h : AH) (b : Nat) (k : ABlk → Out) : Out := AH.casesOn h fun t _ _ _ => t.getK b k
def hset (h : AH) (b : Nat) (x : ABlk) (k : AH → Out) : Out := AH.casesOn h fun t n ds lo => Bool.casesOn (Nat.ble lo b) (.bad 29) (t.setK b x fun t' => k ⟨t', n, ds, lo⟩)
def hnew (h : AH) (x : ABlk) (k : Nat → AH → Out) : Out := AH.casesOn h fun t n ds lo => t.setK n x fun t' => forceN (Nat.succ n) fun m => k n ⟨t', m, ds, lo⟩
def withDs (h : AH) (ds : List AD) (k : AH → Out) : Out := AH.casesOn h fun t n _ lo => k ⟨t, n, ds, lo⟩
def asCells (b : ABlk) (k : List AV → Nat → Fl → Out) : Out :=
  ABlk.casesOn b (.bad 30) k (fun _ _ => .bad 30) (fun _ _ => .bad 30) (fun _ _ _ _ => .bad 30) (fun _ => .bad 30) (.bad 30) (fun _ => .bad 30)
def asMap (b : ABlk) (k : List AE → Nat → Out) : Out :=
  ABlk.casesOn b (.bad 31) (fun _ _ _ => .bad 31) k (fun _ _ => .bad 31) (fun _ _ _ _ => .bad 31) (fun _ => .bad 31) (.bad 31) (fun _ => .bad 31)
def replK_impl : List AV → List AV → (List AV → Out) → Out
  | [], l, k => k l
  | _ :: _, [], _ => .bad 32
  | y :: ys, _ :: l, k => replK_impl ys l fun l' => k (y :: l')
def replK (ys : List AV) : List AV → (List AV → Out) → Out :=
  @List.rec AV (fun _ => List AV → (List AV → Out) → Out) (fun l k => k l)
    (fun y _ ih l k => @List.casesOn AV (fun _ => Out) l (.bad 32) (fun _ l' => ih l' (fun l'' => k (y :: l'')))) ys
def overK_impl : Nat → List AV → List AV → (List AV → Out) → Out
  | 0, l, ys, k => replK_impl ys l k
  | _ + 1, [], _, _ => .bad 33
  | o + 1, a :: l, ys, k => overK_impl o l ys fun l' => k (a :: l')
def overK (o : Nat) : List AV → List AV → (List AV → Out) → Out :=
  @Nat.rec (fun _ => List AV → List AV → (List AV → Out) → Out) (fun l ys k => replK ys l k)
    (fun _ ih l ys k => @List.casesOn AV (fun _ => Out) l (.bad 33) (fun a l' => ih l' ys (fun l'' => k (a :: l'')))) o
def growK (o : Nat) (l ys : List AV) (k : List AV → Out) : Out := takeK o l fun pre => appK ys (l.drop (o + ys.length)) fun r => appK pre r k
def cellsOf (v : AV) : List AV := match v with | .agg l => l | v => [v]
def isTop (v : AV) : Bool := match v with | .top => true | _ => false
def one (v : AV) : Bool := match v with | .agg _ | .tup _ | .undef | .top => false | _ => true
def allOne : List AV → Bool
  | [] => true
  | v :: l => one v && allOne l
def notRo (f : Fl) (x : Out) : Out := Fl.casesOn f x x (.bad 34)
def guardB (b : Bool) (n : Nat) (x : Out) : Out := Bool.casesOn b (.bad n) x
def loadOne (v : AV) (h : AH) (k : KV) : Out := asP v fun b o => hget h b fun x => asCells x fun cs _ _ => nthK cs o fun v => k v h
def loadAgg (sz : Nat) (v : AV) (h : AH) (k : KV) : Out := asP v fun b o => hget h b fun x => asCells x fun cs _ _ => sliceK cs o sz fun l => k (.agg l) h
def storeOne (a v : AV) (h : AH) (k : KV) : Out := asP a fun b o => hget h b fun x => asCells x fun cs e f => notRo f (guardB (one v) 35 (setK cs o v fun cs' => hset h b (.cells cs' e f) fun h' => k .undef h'))
def storeAgg (sz : Nat) (a v : AV) (h : AH) (k : KV) : Out :=
  match v with
  | .agg l => asP a fun b o => hget h b fun x => asCells x fun cs e f => notRo f (guardB (allOne l) 36 (guardB (Nat.beq l.length sz) 37 (overK o cs l fun cs' => hset h b (.cells cs' e f) fun h' => k .undef h')))
  | _ => .bad 38
def newCells (e : Nat) (cs : List AV) (h : AH) (k : KV) : Out := hnew h (.cells cs e .plain) fun b h' => k (.ptr b 0) h'
def nilCheck (v : AV) (k : AV → Out) : Out := match v with | .ptr b o => k (.ptr b o) | .fn f a c => k (.fn f a c) | .ifc t x => k (.ifc t x) | _ => .bad 39
def boxV (e : Nat) (v : AV) (h : AH) (k : KV) : Out := guardB (notB (isTop v)) 147 (newCells e (cellsOf v) h k)
def fieldAddr (off : Nat) (v : AV) (k : AV → Out) : Out := asP v fun b o => forceN (Nat.add o off) fun o' => k (.ptr b o')
def asAgg (v : AV) (k : List AV → Out) : Out := match v with | .agg l => k l | _ => .bad 40
def fieldOne (off : Nat) (v : AV) (k : AV → Out) : Out := asAgg v fun l => nthK l off k
def fieldAgg (off sz : Nat) (v : AV) (k : AV → Out) : Out := asAgg v fun l => sliceK l off sz fun l => k (.agg l)
def inRange (i n : Nat) (x : Out) : Out := guardB (Nat.ble (Nat.succ i) n) 41 x
def indexAddrA (len sz : Nat) (v i : AV) (k : AV → Out) : Out := asP v fun b o => asN i fun i => inRange i len (forceN (Nat.add o (Nat.mul i sz)) fun o' => k (.ptr b o'))
def indexAddrS (sz : Nat) (v i : AV) (k : AV → Out) : Out :=
  match v with
  | .slc b o len _ => asN i fun i => inRange i len (forceN (Nat.add o (Nat.mul i sz)) fun o' => k (.ptr b o'))
  | _ => .bad 42
def indexA1 (len sz : Nat) (v i : AV) (k : AV → Out) : Out := asAgg v fun l => asN i fun i => inRange i len (nthK l (Nat.mul i sz) k)
def indexAn (len sz : Nat) (v i : AV) (k : AV → Out) : Out := asAgg v fun l => asN i fun i => inRange i len (sliceK l (Nat.mul i sz) sz fun l => k (.agg l))
def indexStr (v i : AV) (k : AV → Out) : Out := asS v fun l => asN i fun i => nthK l i fun b => k (.int .u8 (.ofNat b))
def bounds (len cap : Nat) (lo hi : Option AV) (k : Nat → Nat → Out) : Out :=
  let fromHigh (h : Nat) : Out := match lo with
    | none => k 0 h
    | some v => asN v fun l => guardB (Nat.ble l h) 43 (k l h)
  match hi with
  | none => fromHigh len
  | some v => asN v fun h => guardB (Nat.ble h cap) 44 (fromHigh h)
def sliceStr (lo hi : Option AV) (v : AV) (k : AV → Out) : Out := asS v fun l => lenK l 0 fun n => bounds n n lo hi fun a b => sliceK l a (Nat.sub b a) fun l => k (.str l)
def sliceSlc (sz : Nat) (lo hi : Option AV) (v : AV) (k : AV → Out) : Out :=
  match v with
  | .slc b o len (.exact c) => bounds len c lo hi fun l h => forceN (Nat.sub h l) fun n => forceN (Nat.sub c l) fun c' =>
      Nat.casesOn (motive := fun _ => Out) (Nat.sub c l) (guardB (Nat.beq c l) 45 (k (.slc b o n (.exact 0)))) (fun _ => forceN (Nat.add o (Nat.mul l sz)) fun o' => k (.slc b o' n (.exact c')))
  | .slc b o len (.least c q) => guardB (Nat.beq q sz) 46 (bounds len c lo hi fun l h => forceN (Nat.sub h l) fun n => forceN (Nat.sub c l) fun c' =>
      Nat.casesOn (motive := fun _ => Out) l (k (.slc b o n (.least c' q))) (fun _ => forceN (Nat.add o (Nat.mul l sz)) fun o' => k (.slc b o' n (.least c' q))))
  | .nils => bounds 0 0 lo hi fun _ _ => k .nils
  | _ => .bad 48
def sliceArr (n sz : Nat) (lo hi : Option AV) (v : AV) (k : AV → Out) : Out :=
  asP v fun b o => bounds n n lo hi fun l h => forceN (Nat.sub h l) fun m => forceN (Nat.sub n l) fun c =>
    guardB (Nat.ble (Nat.succ l) n) 49 (forceN (Nat.add o (Nat.mul l sz)) fun o' => k (.slc b o' m (.exact c)))
def lenL (v : AV) (k : Nat → Out) : Out :=
  match v with
  | .slc _ _ n _ => k n
  | .nils => k 0
  | _ => .bad 50
def lenM (h : AH) (v : AV) (k : Nat → Out) : Out :=
  match v with
  | .nilm => k 0
  | .map r => hget h r fun x => asMap x fun es _ => lenK es 0 k
  | _ => .bad 50
def capV (v : AV) (k : Nat → Out) : Out :=
  match v with
  | .slc _ _ _ (.exact n) => k n
  | .nils => k 0
  | _ => .bad 51
def min2 (v w : AV) (k : AV → Out) : Out := asI v fun kd a => asI w fun _ b => Bool.casesOn (ltZ b a) (k (.int kd a)) (k (.int kd b))
def max2 (v w : AV) (k : AV → Out) : Out := asI v fun kd a => asI w fun _ b => Bool.casesOn (ltZ a b) (k (.int kd a)) (k (.int kd b))
def foldK (F : AV → AV → (AV → Out) → Out) : List AV → AV → (AV → Out) → Out
  | [], v, k => k v
  | w :: l, v, k => F v w fun v' => foldK F l v' k
def bytesV (l : List Nat) : List AV := l.map fun b => .int .u8 (.ofNat b)
def firstK (h : AH) (sz : Nat) (v : AV) (k : Nat → List AV → Out) : Out :=
  match v with
  | .str l => guardB (Nat.beq sz 1) 52 (lenK l 0 fun n => appK (bytesV l) [] fun l => k n l)
  | .nils => k 0 []
  | .slc b o n _ => Nat.casesOn (motive := fun _ => Out) n (k 0 []) (fun _ => hget h b fun x => asCells x fun cs _ _ => sliceK cs o (Nat.mul n sz) fun l => k n l)
  | _ => .bad 52
def lenK2 (v : AV) (k : Nat → Out) : Out :=
  match v with
  | .str l => lenK l 0 k
  | .nils => k 0
  | .slc _ _ n _ => k n
  | _ => .bad 52
def appOk (need bytes : Nat) (x : Out) : Out := guardB (Nat.ble (Nat.mul (Nat.add (Nat.mul 2 need) 1024) bytes) 281474976710656) 53 x
def anew (e sz need : Nat) (cs : List AV) (h : AH) (k : KV) : Out := hnew h (.cells cs e .plain) fun b h' => k (.slc b 0 need (.least need sz)) h'
def oldK (cs : List AV) (o len sz : Nat) (k : List AV → Out) : Out := Nat.casesOn (motive := fun _ => Out) len (k []) (fun _ => sliceK cs o (Nat.mul len sz) k)
def appendV (e sz bytes : Nat) (s : AV) (n : Nat) (new : List AV) (h : AH) (k : KV) : Out :=
  match s with
  | .nils => Nat.casesOn (motive := fun _ => Out) n (k .nils h) (fun _ => guardB (allOne new) 56 (appOk n bytes (anew e sz n new h k)))
  | .slc b o len c => hget h b fun x => asCells x fun cs e' f => forceN (Nat.add len n) fun need => guardB (allOne new) 56 <|
      match c with
      | .exact m => Bool.casesOn (Nat.ble need m)
          (appOk need bytes (oldK cs o len sz fun old => appK old new fun l => anew e sz need l h k))
          (Nat.casesOn (motive := fun _ => Out) n (k (.slc b o need (.exact m)) h) (fun _ => notRo f (overK (Nat.add o (Nat.mul len sz)) cs new fun cs' => hset h b (.cells cs' e' f) fun h' => k (.slc b o need (.exact m)) h')))
      | .least m q => guardB (Nat.beq q sz) 54 <| Bool.casesOn (Nat.ble need m)
          (notRo f (guardB (Nat.beq e e') 77 (appOk need bytes (oldK cs o len sz fun old => appK old new fun l => hset h b .dead fun h' => hnew h' (.cells l e .stringish) fun b' h'' => k (.slc b' 0 need (.least need q)) h''))))
          (Nat.casesOn (motive := fun _ => Out) n (k (.slc b o need (.least m q)) h) (fun _ => notRo f (growK (Nat.add o (Nat.mul len sz)) cs new fun cs' => hset h b (.cells cs' e' f) fun h' => k (.slc b o need (.least m q)) h')))
  | _ => .bad 55
def copyV (sz : Nat) (dst src : AV) (h : AH) (k : KV) : Out :=
  lenK2 src fun n => match dst with
    | .nils => k (.int .i64 (.ofNat 0)) h
    | .slc b o len _ => forceN (minN n len) fun m => firstK h sz src fun _ cells => takeK (Nat.mul m sz) cells fun new => guardB (allOne new) 56 <|
        Nat.casesOn (motive := fun _ => Out) m (k (.int .i64 (.ofNat 0)) h)
          (fun _ => hget h b fun x => asCells x fun cs e f => notRo f (overK o cs new fun cs' => hset h b (.cells cs' e f) fun h' => k (.int .i64 (.ofNat m)) h'))
    | _ => .bad 57
def bytesK : List AV → (List Nat → Out) → Out
  | [], k => k []
  | v :: l, k => asI v fun kd a => match kd with
    | .u8 => Int.casesOn a (fun n => guardB (Nat.ble n 255) 58 (bytesK l fun r => k (n :: r))) (fun _ => .bad 58)
    | _ => .bad 58
def bytesToStr (v : AV) (h : AH) (k : KV) : Out :=
  match v with
  | .nils => k (.str []) h
  | .slc .. => firstK h 1 v fun _ cs => bytesK cs fun l => k (.str l) h
  | _ => .bad 59
def strToBytes (e : Nat) (v : AV) (h : AH) (k : KV) : Out :=
  asS v fun l => lenK l 0 fun n => appK (bytesV l) [] fun cs => hnew h (.cells cs e .stringish) fun b h' => k (.slc b 0 n (.least n 1)) h'
inductive Tg where
  | int | str | bool | flt
inductive KT where
  | one (t : Tg)
  | many (ts : List Tg)
def tagOf (G : Cfg) (fl : Bool) (t : Nat) : Option Tg :=
  match G.und t with
  | some (.int _) => some .int
  | some .string => some .str
  | some .bool => some .bool
  | some (.float _) => if fl then some .flt else none
  | _ => none
def tagsOf (G : Cfg) (fl : Bool) : List Field → Nat → Option (List Tg)
  | [], _ => some []
  | f :: l, i => if f.name == "_" || f.offset != i then none else
    match tagOf G fl f.type, tagsOf G fl l (i + 1) with
    | some a, some as => some (a :: as)
    | _, _ => none
def keyT (G : Cfg) (t : Nat) : Option KT :=
  match tagOf G false t with
  | some a => some (.one a)
  | none => match G.und t with
    | some (.struct fs) => if G.P.stoodInHeld t then none else (tagsOf G false fs.toList 0).map .many
    | _ => none
def eqT (G : Cfg) (t : Nat) : Option (List Tg) :=
  match G.und t with
  | some (.struct fs) => if G.P.stoodInHeld t then none else tagsOf G true fs.toList 0
  | _ => none
def cellEq (t : Tg) (a b : AV) (k : Bool → Out) : Out :=
  match t with
  | .int => asI a fun kd x => asI b fun kd' y => eqK kd kd' (forceB (eqZ x y) k)
  | .str => asS a fun x => asS b fun y => forceB (eqLN x y) k
  | .bool => asB a fun x => asB b fun y => forceB (x == y) k
  | .flt => match a, b with
    | .flt kd x, .flt kd' y => if kd = kd' then forceB (kd.format.order x y == some .eq) k else .bad 60
    | _, _ => .bad 60
def cellsEq : List Tg → List AV → List AV → (Bool → Out) → Out
  | [], [], [], k => k true
  | t :: ts, a :: l, b :: m, k => cellEq t a b fun q => Bool.casesOn q (k false) (cellsEq ts l m k)
  | _, _, _, _ => .bad 61
def keyEq (kt : KT) (a b : AV) (k : Bool → Out) : Out :=
  match kt with
  | .one t => cellEq t a b k
  | .many ts => asAgg a fun l => asAgg b fun m => cellsEq ts l m k
def keyOk (kt : KT) (a : AV) (x : Out) : Out :=
  match kt with
  | .one _ => x
  | .many ts => asAgg a fun l => guardB (Nat.beq l.length ts.length) 76 x
def findK (kt : KT) (a : AV) : List AE → Nat → (Option (Nat × AV) → Out) → Out
  | [], _, k => k none
  | ⟨b, v, _⟩ :: es, i, k => keyEq kt a b fun t => Bool.casesOn t (findK kt a es (i + 1) k) (k (some (i, v)))
def giveL (commaOk : Bool) (v : AV) (t : Bool) : AV := if commaOk then .tup [v, .bool t] else v
def lookupV (kt : KT) (zero : AV) (commaOk : Bool) (m key : AV) (h : AH) (k : KV) : Out :=
  keyOk kt key <| match m with
  | .nilm => k (giveL commaOk zero false) h
  | .map r => hget h r fun x => asMap x fun es _ => findK kt key es 0 fun o => match o with
    | some (_, v) => k (giveL commaOk v true) h
    | none => k (giveL commaOk zero false) h
  | _ => .bad 62
def updateV (kt : KT) (m key v : AV) (h : AH) (k : KV) : Out :=
  keyOk kt key <|
  match m with
  | .map r => hget h r fun x => asMap x fun es c => findK kt key es 0 fun o => match o with
    | some (i, _) => nthK es i fun e => setK es i ⟨key, v, e.born⟩ fun es' => hset h r (.amap es' c) fun h' => k .undef h'
    | none => appK es [⟨key, v, c⟩] fun es' => forceN (Nat.succ c) fun c' => hset h r (.amap es' c') fun h' => k .undef h'
  | _ => .bad 63
def deleteV (kt : KT) (m key : AV) (h : AH) (k : KV) : Out :=
  keyOk kt key <|
  match m with
  | .nilm => k (.tup []) h
  | .map r => hget h r fun x => asMap x fun es c => findK kt key es 0 fun o => match o with
    | some (i, _) => hset h r (.amap (es.eraseIdx i) c) fun h' => k (.tup []) h'
    | none => k (.tup []) h
  | _ => .bad 64
def rangeV (v : AV) (h : AH) (k : KV) : Out :=
  match v with
  | .str l => hnew h (.siter l 0) fun b h' => k (.ptr b 0) h'
  | .nilm => hnew h (.miter none 0 [] 0) fun b h' => k (.ptr b 0) h'
  | .map r => hget h r fun x => asMap x fun _ c => hnew h (.miter (some r) c [] c) fun b h' => k (.ptr b 0) h'
  | _ => .bad 65
def hasN (n : Nat) : List Nat → Bool
  | [] => false
  | m :: l => Bool.casesOn (Nat.beq n m) (hasN n l) true
def nextMap (v : AV) (h : AH) (k : KV) : Out :=
  asP v fun b o => guardB (Nat.beq o 0) 78 <| hget h b fun x => match x with
    | .miter none _ _ _ => k (.tup [.bool false]) h
    | .miter (some m) since seen last => hget h m fun y => asMap y fun es clock =>
        if seen.length != 0 && es.length != 0 && es.all (fun e => Nat.ble last e.born) then .bad 66 else
        let left := es.filter fun e => notB (hasN e.born seen)
        let old := left.filter fun e => Nat.ble (Nat.succ e.born) since
        let new := left.filter fun e => Nat.ble since e.born
        let go (e : AE) : Out := hset h b (.miter (some m) since (seen ++ [e.born]) clock) fun h' => k (.tup [.bool true, e.key, e.val]) h'
        let over : Out := k (.tup [.bool false]) h
        allEq ((if old.length = 0 then [over] else []) ++ (old ++ new).map go)
    | _ => .bad 67
def entryV (v : AV) (h : AH) (k : KV) : Out :=
  asP v fun b o => guardB (Nat.beq o 0) 78 <| hget h b fun x => match x with
    | .miter (some m) _ seen stepped => (match seen.getLast? with
      | none => .bad 68
      | some st => hget h m fun y => asMap y fun es clock => guardB (Nat.beq clock stepped) 69 (match es.find? (fun e => Nat.beq e.born st) with
        | some e => k (.tup [e.key, e.val]) h
        | none => .bad 70))
    | _ => .bad 68
def nextStr (v : AV) (h : AH) (k : KV) : Out :=
  asP v fun b o => guardB (Nat.beq o 0) 78 <| hget h b fun x => match x with
    | .siter l pos => lenK l 0 fun n => Bool.casesOn (Nat.ble (Nat.succ pos) n) (k (.tup [.bool false]) h)
        (nthK l pos fun c => guardB (Nat.ble (Nat.succ c) 128) 74 (forceN (Nat.succ pos) fun p => hset h b (.siter l p) fun h' => k (.tup [.bool true, .int .i64 (.ofNat pos), .int .i32 (.ofNat c)]) h'))
    | _ => .bad 75
def indexOf (c : Nat) : List Nat → Nat → Option Nat
  | [], _ => none
  | b :: l, i => Bool.casesOn (Nat.beq b c) (indexOf c l (i + 1)) (some i)
def countOf (c : Nat) : List Nat → Nat → Nat
  | [], n => n
  | b :: l, n => countOf c l (Bool.casesOn (Nat.beq b c) n (n + 1))
def bytesOfV (v : AV) (h : AH) (k : List Nat → Out) : Out :=
  match v with
  | .str l => k l
  | .nils => k []
  | .slc .. => firstK h 1 v fun _ cs => bytesK cs k
  | _ => .bad 71
def asByteK (v : AV) (k : Nat → Out) : Out := asI v fun kd a => match kd with
  | .u8 => Int.casesOn a (fun n => guardB (Nat.ble n 255) 73 (k n)) (fun _ => .bad 73)
  | _ => .bad 73
def asIntK (v : AV) (k : Nat → Out) : Out := asI v fun kd a => match kd with
  | .i64 => Int.casesOn a k (fun _ => .bad 73)
  | _ => .bad 73
def cmpLN : List Nat → List Nat → Int
  | [], [] => .ofNat 0
  | [], _ :: _ => .negSucc 0
  | _ :: _, [] => .ofNat 1
  | a :: l, b :: m => Bool.casesOn (Nat.ble (Nat.succ a) b) (Bool.casesOn (Nat.ble (Nat.succ b) a) (cmpLN l m) (.ofNat 1)) (.negSucc 0)
def extV (elem : Nat) (x : Ext) (args : List AV) (h : AH) (k : KV) : Out :=
  match x, args with
  | .indexByte, [v, c] => bytesOfV v h fun l => asByteK c fun c => match indexOf c l 0 with
      | some i => forceN i fun i => k (.int .i64 (.ofNat i)) h
      | none => k (.int .i64 (.negSucc 0)) h
  | .countByte, [v, c] => bytesOfV v h fun l => asByteK c fun c => forceN (countOf c l 0) fun n => k (.int .i64 (.ofNat n)) h
  | .same, [v] => k v h
  | .cmpStr, [v, u] => asS v fun a => asS u fun b => forceI (cmpLN a b) fun r => k (.int .i64 r) h
  | .mapsClone, [.ifc t (.map r)] => hget h r fun x => asMap x fun es c => hnew h (.amap es c) fun b h' => k (.ifc t (.map b)) h'
  | .makeNoZero, [n] => asIntK n fun n => guardB (Nat.ble n 1048576) 72 (hnew h (.cells (List.replicate n .top) elem .plain) fun b h' => k (.slc b 0 n (.least n 1)) h')
  | _, _ => .bad 73
def preN : List Nat → List Nat → Bool
  | [], _ => true
  | _ :: _, [] => false
  | a :: l, b :: m => Bool.casesOn (Nat.beq a b) false (preN l m)
def idxN (t : List Nat) : List Nat → Nat → Option Nat
  | [], i => Bool.casesOn (preN t []) none (some i)
  | b :: l, i => Bool.casesOn (preN t (b :: l)) (idxN t l (i + 1)) (some i)
def giveIdx (o : Option Nat) (k : AV → Out) : Out :=
  match o with
  | some i => forceN i fun i => k (.int .i64 (.ofNat i))
  | none => k (.int .i64 (.negSucc 0))
def slcBytes (v : AV) (h : AH) (k : List Nat → Out) : Out :=
  match v with
  | .slc b o n _ => Nat.casesOn (motive := fun _ => Out) n (k []) (fun _ => hget h b fun x => asCells x fun cs _ _ => sliceK cs o n fun cs => bytesK cs k)
  | _ => .bad 167
def slcRow (sz : Nat) (v : AV) (h : AH) (k : Nat → List AV → Out) : Out :=
  match v with
  | .slc b o n _ => Nat.casesOn (motive := fun _ => Out) n (.bad 167) (fun m => guardB (Nat.ble (Nat.succ m) 65536) 167 (hget h b fun x => asCells x fun cs _ _ => sliceK cs o (Nat.mul (Nat.succ m) sz) fun cs => k (Nat.succ m) cs))
  | _ => .bad 167
def aggB (v : AV) : Bool := match v with | .agg _ => true | _ => false
def tupB (v : AV) : Bool := match v with | .tup _ => true | _ => false
def findA (op : BinOp) (cs : List AV) : List SR → (AV → Out) → Out
  | [], _ => .bad 168
  | q :: l, k => Bool.casesOn (Nat.beq (bix q.op) (bix op) && AV.beq q.a (.agg cs)) (findA op cs l k) (k q.r)
def rowA (e sz : Nat) (r : AV) (h : AH) (k : KV) : Out :=
  match r with
  | .agg [] => k .nils h
  | .agg outs => lenK outs 0 fun n => forceN (Nat.div n sz) fun m => guardB (Nat.beq (Nat.mul m sz) n) 169 (hnew h (.cells outs e .plain) fun b h' => k (.slc b 0 m (.least m sz)) h')
  | _ => .bad 169
def sumV (symB : Nat) (x : Smm) (args : List AV) (h : AH) (k : KV) : Out :=
  match x, args with
  | .strIndex, [v, u] => asS v fun s => asS u fun t => lenK s 0 fun n => guardB (Nat.ble n 4294967280) 167 (giveIdx (idxN t s 0) fun i => k i h)
  | .byteIndex, [v, u] => slcBytes v h fun s => slcBytes u h fun t => lenK s 0 fun n => guardB (Nat.ble n 4294967280) 167 (lenK t 0 fun m => guardB (Nat.ble m 4294967280) 167 (giveIdx (idxN t s 0) fun i => k i h))
  | .yes, [] => k (.bool true) h
  | .steps e, [v] => slcRow 2 v h fun _ cs => hget h symB fun x => match x with
    | .syms l => findA .add cs l fun r => rowA e 2 r h k
    | _ => .bad 168
  | .share, [.agg [.str _, .str _, v], u] => slcRow 2 v h fun _ cs => hget h symB fun x => match x with
    | .syms l => appK cs [u] fun cu => findA .sub cu l fun r => asS r fun _ => k r h
    | _ => .bad 168
  | _, _ => .bad 167
end
end Go.Ev
namespace Go.Ev
noncomputable section
open Go
def i8 : Nat → I8
  | 0 => .a | 1 => .b | 2 => .c | 3 => .d | 4 => .e | 5 => .f | 6 => .g | _ => .h
def cget (nt t : Nat) : Box Get :=
  if nt ≤ t then ⟨fun _ _ => .bad 10⟩ else
  if nt ≤ 64 then
    Box.casesOn (selB (i8 (t / 8))) fun s₁ => Box.casesOn (selB (i8 (t % 8))) fun s₂ =>
      ⟨fun tr k => s₁ tr fun x => s₂ x fun y => Tr.casesOn (motive := fun _ => Out) y k (fun _ _ _ _ _ _ _ _ => .bad 8)⟩
  else if nt ≤ 512 then
    Box.casesOn (selB (i8 (t / 64))) fun s₀ => Box.casesOn (selB (i8 (t / 8 % 8))) fun s₁ => Box.casesOn (selB (i8 (t % 8))) fun s₂ =>
      ⟨fun tr k => s₀ tr fun w => s₁ w fun x => s₂ x fun y => Tr.casesOn (motive := fun _ => Out) y k (fun _ _ _ _ _ _ _ _ => .bad 8)⟩
  else ⟨fun _ _ => .bad 10⟩
def cput (nt t : Nat) : Box Put :=
  if nt ≤ t then ⟨fun _ _ _ => .bad 10⟩ else
  if nt ≤ 64 then
    Box.casesOn (putB (i8 (t / 8))) fun s₁ => Box.casesOn (putB (i8 (t % 8))) fun s₂ =>
      ⟨fun tr v k => s₁ tr fun x w₁ => s₂ x fun _ w₂ => w₂ (.leaf v) fun x' => w₁ x' k⟩
  else if nt ≤ 512 then
    Box.casesOn (putB (i8 (t / 64))) fun s₀ => Box.casesOn (putB (i8 (t / 8 % 8))) fun s₁ => Box.casesOn (putB (i8 (t % 8))) fun s₂ =>
      ⟨fun tr v k => s₀ tr fun w w₀ => s₁ w fun x w₁ => s₂ x fun _ w₂ => w₂ (.leaf v) fun x' => w₁ x' fun w' => w₀ w' k⟩
  else ⟨fun _ _ _ => .bad 10⟩
def t1 : Tr := .leaf .undef
def t2 : Tr := .node t1 t1 t1 t1 t1 t1 t1 t1
def t3 : Tr := .node t2 t2 t2 t2 t2 t2 t2 t2
def t4 : Tr := .node t3 t3 t3 t3 t3 t3 t3 t3
def tr0 (nt : Nat) : Tr := if nt ≤ 64 then t3 else t4
def forceV {α : Type} (v : AV) (k : AV → α) : α := match v with
  | .undef => k .undef | .top => k .top | .bool b => k (.bool b) | .int kd n => k (.int kd n) | .flt kd b => k (.flt kd b) | .sym i => k (.sym i) | .str s => k (.str s)
  | .ptr b o => k (.ptr b o) | .nilp => k .nilp | .slc b o l c => k (.slc b o l c) | .nils => k .nils | .map r => k (.map r) | .nilm => k .nilm | .fn f a c => k (.fn f a c)
  | .yld l => k (.yld l) | .nilf => k .nilf | .ifc t v => k (.ifc t v) | .nili => k .nili | .agg l => k (.agg l) | .tup l => k (.tup l)
def numG : Nat := 9
def opd (nt : Nat) : Operand → Box Get
  | .tmp t => cget nt t
  | .const v => forceV (ofValue v) fun v => ⟨fun _ k => k v⟩
  | .global g => if g < numG then ⟨fun _ k => k (.ptr g 0)⟩ else ⟨fun _ _ => .bad 15⟩
  | .func f => ⟨fun _ k => k (.fn f [] [])⟩
def opds (nt : Nat) : List Operand → Box (Tr → (List AV → Out) → Out)
  | [] => ⟨fun _ k => k []⟩
  | x :: l => Box.casesOn (opd nt x) fun g => Box.casesOn (opds nt l) fun gs => ⟨fun tr k => g tr fun v => gs tr fun vs => k (v :: vs)⟩
def opdO (nt : Nat) : Option Operand → Box (Tr → (Option AV → Out) → Out)
  | none => ⟨fun _ k => k none⟩
  | some x => Box.casesOn (opd nt x) fun g => ⟨fun tr k => g tr fun v => k (some v)⟩
def no (n : Nat) : Box OpF := ⟨fun _ _ _ _ => .bad n⟩
def h1 (nt : Nat) (x : Operand) (F : AV → AH → KV → Out) : Box OpF := Box.casesOn (opd nt x) fun g => ⟨fun _ tr h k => g tr fun v => F v h k⟩
def h2 (nt : Nat) (x y : Operand) (F : AV → AV → AH → KV → Out) : Box OpF := Box.casesOn (opd nt x) fun g => Box.casesOn (opd nt y) fun g' => ⟨fun _ tr h k => g tr fun v => g' tr fun w => F v w h k⟩
def p1 (nt : Nat) (x : Operand) (F : AV → (AV → Out) → Out) : Box OpF := Box.casesOn (opd nt x) fun g => ⟨fun _ tr h k => g tr fun v => F v fun r => k r h⟩
def p2 (nt : Nat) (x y : Operand) (F : AV → AV → (AV → Out) → Out) : Box OpF := Box.casesOn (opd nt x) fun g => Box.casesOn (opd nt y) fun g' => ⟨fun _ tr h k => g tr fun v => g' tr fun w => F v w fun r => k r h⟩
def Cfg.elemSize (G : Cfg) (t : Nat) : Option Nat := match G.und t with | some (.pointer e) => G.size e | _ => none
def ptrEq (G : Cfg) (xt : Nat) (neg : Bool) (v w : AV) (h : AH) (k : KV) : Out :=
  let give (t : Bool) : Out := k (.bool (if neg then notB t else t)) h
  match v, w with
  | .nilp, .nilp => give true
  | .nilp, .ptr .. | .ptr .., .nilp => give false
  | .ptr b o, .ptr c p => match G.elemSize xt with
    | some (_ + 1) => Bool.casesOn (Nat.beq b c)
        (hget h b fun x => asCells x fun _ _ f => hget h c fun y => asCells y fun _ _ g => match f, g with | .plain, .plain => give false | _, _ => .bad 80)
        (give (Nat.beq o p))
    | _ => .bad 80
  | _, _ => .bad 80
def nilEqS (neg : Bool) (v w : AV) (k : AV → Out) : Out :=
  match v, w with
  | .nils, .nils => k (.bool (if neg then notB true else true))
  | .nils, .slc .. | .slc .., .nils => k (.bool (if neg then notB false else false))
  | _, _ => .bad 81
def nilEqM (neg : Bool) (v w : AV) (k : AV → Out) : Out :=
  match v, w with
  | .nilm, .nilm => k (.bool (if neg then notB true else true))
  | .nilm, .map _ | .map _, .nilm => k (.bool (if neg then notB false else false))
  | _, _ => .bad 81
def nilEqF (neg : Bool) (v w : AV) (k : AV → Out) : Out :=
  match v, w with
  | .nilf, .nilf => k (.bool (if neg then notB true else true))
  | .nilf, .fn .. | .fn .., .nilf => k (.bool (if neg then notB false else false))
  | _, _ => .bad 81
def ifcEq (G : Cfg) (free neg : Bool) (v w : AV) (h : AH) (k : KV) : Out :=
  let give (t : Bool) : Out := k (.bool (if neg then notB t else t)) h
  match v, w with
  | .nili, .nili => if free then give true else .bad 82
  | .nili, .ifc .. | .ifc .., .nili => give false
  | .ifc t a, .ifc u b => Bool.casesOn (Nat.beq t u) (give false) (match G.info t with
    | some i => if i.comparable then (match G.und t with
      | some (.pointer _) => ptrEq G t neg a b h k
      | _ => (match tagOf G false t with | some tg => cellEq tg a b give | none => .bad 82)) else .bad 82
    | _ => .bad 82)
  | _, _ => .bad 82
def aggEq (ts : List Tg) (neg : Bool) (v w : AV) (k : AV → Out) : Out :=
  asAgg v fun l => asAgg w fun m => cellsEq ts l m fun t => k (.bool (if neg then notB t else t))
def boolEq (neg : Bool) (v w : AV) (k : AV → Out) : Out := asB v fun a => asB w fun b => k (.bool (if neg then a != b else a == b))
def symB : Nat := numG
def findS (op : BinOp) (v w : AV) : List SR → (AV → Out) → Out
  | [], _ => .bad 85
  | q :: l, k => Bool.casesOn (Nat.beq (bix q.op) (bix op) && AV.beq q.a v && AV.beq q.b w) (findS op v w l k) (k q.r)
def atomB (v : AV) : Bool := match v with | .flt .. | .int .. | .bool _ | .sym _ => true | _ => false
def symBin (op : BinOp) (v w : AV) (h : AH) (k : KV) : Out :=
  guardB (Bool.and (atomB v) (atomB w)) 85 <| hget h symB fun x => match x with
    | .syms l => findS op v w l fun r => k r h
    | _ => .bad 85
def symQ (v : AV) (yes no : Out) : Out :=
  AV.casesOn (motive_1 := fun _ => Out) v no no (fun _ => no) (fun _ _ => no) (fun _ _ => no) (fun _ => yes) (fun _ => no) (fun _ _ => no) no (fun _ _ _ _ => no) no (fun _ => no) no (fun _ _ _ => no) (fun _ => no) no (fun _ _ => no) no (fun _ => no) (fun _ => no)
def int2S (op : BinOp) (F : AV → AV → (AV → Out) → Out) (v w : AV) (h : AH) (k : KV) : Out :=
  symQ v (symBin op v w h k) (symQ w (symBin op v w h k) (F v w fun r => k r h))
def findC (v : AV) : List SR → (AV → Out) → Out
  | [], _ => .bad 85
  | q :: l, k => Bool.casesOn (AV.beq q.a v && AV.beq q.b .undef) (findC v l k) (k q.r)
def findM (v w : AV) : List SR → (AV → Out) → Out
  | [], _ => .bad 85
  | q :: l, k => Bool.casesOn (AV.beq q.a (.tup [v]) && AV.beq q.b w) (findM v w l k) (k q.r)
def max2S (v w : AV) (h : AH) (k : KV) : Out :=
  symQ v (hget h symB fun x => match x with
    | .syms l => findM v w l fun r => k r h
    | _ => .bad 85) (max2 v w fun r => k r h)
def fltBin (op : BinOp) (v w : AV) (h : AH) (k : KV) : Out :=
  match v, w with
  | .flt kd a, .flt kd' b => if kd ≠ kd' then .bad 84 else
      let k (v : AV) : Out := k v h
      let ar (r : Option Nat) : Out := match r with | some r => k (.flt kd r) | none => .bad 84
      let c := kd.format.order a b
      match op with
      | .add => ar (kd.format.add a b)
      | .sub => ar (kd.format.sub a b)
      | .mul => ar (kd.format.mul a b)
      | .quo => ar (kd.format.div a b)
      | .eql => k (.bool (c == some .eq))
      | .neq => k (.bool (c != some .eq))
      | .lss => k (.bool (c == some .lt))
      | .leq => k (.bool (c == some .lt || c == some .eq))
      | .gtr => k (.bool (c == some .gt))
      | .geq => k (.bool (c == some .gt || c == some .eq))
      | _ => .bad 84
  | v, w => symBin op v w h k
def isConst : Operand → Bool
  | .const _ => true
  | _ => false
def cBin (G : Cfg) (nt : Nat) (op : BinOp) (xt : Nat) (x y : Operand) : Box OpF :=
  match G.und xt with
  | some (.int _) => (match op with
    | .add => h2 nt x y (int2S .add (int2 zAdd))
    | .sub => h2 nt x y (int2S .sub (int2 zSub))
    | .mul => h2 nt x y (int2S .mul (int2 zMul))
    | .quo => h2 nt x y (int2S .quo (int2 zQuo))
    | .rem => h2 nt x y (int2S .rem (int2 zRem))
    | .and => h2 nt x y (int2S .and (int2 zAnd))
    | .or => h2 nt x y (int2S .or (int2 zOr))
    | .xor => h2 nt x y (int2S .xor (int2 zXor))
    | .andNot => h2 nt x y (int2S .andNot (int2 zAndNot))
    | .shl => h2 nt x y (int2S .shl (shf true))
    | .shr => h2 nt x y (int2S .shr (shf false))
    | .eql => h2 nt x y (int2S .eql (cmp2 eqZ))
    | .neq => h2 nt x y (int2S .neq (cmp2 fun a b => notB (eqZ a b)))
    | .lss => h2 nt x y (int2S .lss (cmp2 ltZ))
    | .leq => h2 nt x y (int2S .leq (cmp2 fun a b => notB (ltZ b a)))
    | .gtr => h2 nt x y (int2S .gtr (cmp2 fun a b => ltZ b a))
    | .geq => h2 nt x y (int2S .geq (cmp2 fun a b => notB (ltZ a b))))
  | some .string => (match op with
    | .add => p2 nt x y strAdd
    | .eql => p2 nt x y (str2 eqLN)
    | .neq => p2 nt x y (str2 fun a b => notB (eqLN a b))
    | .lss => p2 nt x y (str2 ltLN)
    | .leq => p2 nt x y (str2 fun a b => ltLN a b || eqLN a b)
    | .gtr => p2 nt x y (str2 fun a b => notB (ltLN a b || eqLN a b))
    | .geq => p2 nt x y (str2 fun a b => notB (ltLN a b))
    | _ => no 86)
  | some .bool => (match op with | .eql => p2 nt x y (boolEq false) | .neq => p2 nt x y (boolEq true) | _ => no 86)
  | some (.float _) => h2 nt x y (fltBin op)
  | some (.pointer _) => (match op with | .eql => h2 nt x y (ptrEq G xt false) | .neq => h2 nt x y (ptrEq G xt true) | _ => no 86)
  | some (.slice _) => (match op with | .eql => p2 nt x y (nilEqS false) | .neq => p2 nt x y (nilEqS true) | _ => no 86)
  | some (.map ..) => (match op with | .eql => p2 nt x y (nilEqM false) | .neq => p2 nt x y (nilEqM true) | _ => no 86)
  | some (.func ..) => (match op with | .eql => p2 nt x y (nilEqF false) | .neq => p2 nt x y (nilEqF true) | _ => no 86)
  | some (.interface ms) => let free := isConst x || isConst y || ms.isEmpty
    (match op with | .eql => h2 nt x y (ifcEq G free false) | .neq => h2 nt x y (ifcEq G free true) | _ => no 86)
  | some (.struct _) => (match eqT G xt with
    | some ts => (match op with | .eql => p2 nt x y (aggEq ts false) | .neq => p2 nt x y (aggEq ts true) | _ => no 86)
    | none => no 86)
  | _ => no 86
def negV (v : AV) (k : AV → Out) : Out := asI v fun kd a => zSub kd (.ofNat 0) a fun r => k (.int kd r)
def compV (v : AV) (k : AV → Out) : Out := asI v fun kd a => zXor kd (if kd.signed then .negSucc 0 else .ofNat (kmax kd)) a fun r => k (.int kd r)
def notV (v : AV) (k : AV → Out) : Out := asB v fun b => forceB (notB b) fun b => k (.bool b)
def intConv (kd : IntKind) (v : AV) (k : AV → Out) : Out := asI v fun _ a => fitZ kd a fun r => k (.int kd r)
def intToFlt (kd : FloatKind) (v : AV) (k : AV → Out) : Out := asI v fun _ a => k (.flt kd (kd.nearest a))
def intToFltS (kd : FloatKind) (v : AV) (h : AH) (k : KV) : Out :=
  symQ v (match kd with
    | .f64 => hget h symB fun x => (match x with
      | .syms l => findC v l fun r => k r h
      | _ => .bad 85)
    | _ => .bad 85) (intToFlt kd v fun r => k r h)
def fltToInt (kd : IntKind) (v : AV) (k : AV → Out) : Out :=
  match v with
  | .flt s b => match (s.decode b).toInt .zero with
    | some n => if kd.min ≤ n ∧ n ≤ kd.max then forceI n fun n => k (.int kd n) else .bad 87
    | none => .bad 87
  | _ => .bad 87
def intToStr (v : AV) (k : AV → Out) : Out := asN v fun n => guardB (Nat.ble (Nat.succ n) 128) 88 (k (.str [n]))
def markV (v : AV) (h : AH) (k : KV) : Out :=
  match v with
  | .nils => .bad 89
  | .slc b o n c => hget h b fun x => asCells x fun cs e f => match f with
    | .ro => .bad 89
    | _ => hset h b (.cells cs e .stringish) fun h' => k (.slc b o n c) h'
  | _ => .bad 89
def ptrUnsafe (v : AV) (h : AH) (k : KV) : Out :=
  match v with
  | .nilp => k .nilp h
  | .ptr b o => hget h b fun x => asCells x fun cs _ _ => guardB (Nat.ble (Nat.succ o) cs.length) 90 (k (.ptr b o) h)
  | _ => .bad 90
def unsafePtr (u sz : Nat) (v : AV) (h : AH) (k : KV) : Out :=
  match v with
  | .nilp => k .nilp h
  | .ptr b o => hget h b fun x => asCells x fun cs e f => guardB (flEq f .plain) 91 <| guardB (Nat.beq e u) 91 (guardB (Nat.beq (Nat.mod o sz) 0) 91 (guardB (Nat.ble (Nat.add o sz) cs.length) 91 (k (.ptr b o) h)))
  | _ => .bad 91
def cConv (G : Cfg) (nt : Nat) (src dst : Nat) (x : Operand) : Box OpF :=
  match G.und src, G.und dst with
  | some (.int _), some (.int k) => p1 nt x (intConv k)
  | some (.int _), some (.float k) => h1 nt x (intToFltS k)
  | some (.float _), some (.int k) => p1 nt x (fltToInt k)
  | some (.int _), some .string => p1 nt x intToStr
  | some .string, some .string => p1 nt x fun v k => asS v fun l => k (.str l)
  | some .string, some (.slice e) => (match G.und e with | some (.int .u8) => h1 nt x (strToBytes e) | _ => no 92)
  | some (.slice e), some .string => (match G.und e with | some (.int .u8) => h1 nt x bytesToStr | _ => no 92)
  | some (.slice _), some (.slice e) => (match G.und e with | some (.int .u8) => if src == dst then h1 nt x markV else no 92 | _ => no 92)
  | some (.pointer t), some .unsafePointer => (match G.size t with | some (_ + 1) => h1 nt x ptrUnsafe | _ => no 92)
  | some .unsafePointer, some (.pointer u) => (match G.size u with | some (n + 1) => h1 nt x (unsafePtr u (n + 1)) | _ => no 92)
  | _, _ => no 92
def fillB (nt : Nat) : List (Nat × Nat × Operand) → Box (Tr → List AV → (List AV → Out) → Out)
  | [] => ⟨fun _ z k => k z⟩
  | (o, n, x) :: r => Box.casesOn (opd nt x) fun g => Box.casesOn (fillB nt r) fun f =>
      ⟨fun tr z k => g tr fun v => guardB (notB (isTop v)) 93 <| guardB (Nat.beq (cellsOf v).length n) 93 (overK o z (cellsOf v) fun z' => f tr z' k)⟩
def forceL {α : Type} : List AV → (List AV → α) → α
  | [], k => k []
  | v :: l, k => forceV v fun v => forceL l fun l => k (v :: l)
def Cfg.zero (G : Cfg) (t : Nat) : Option AV := (G.info t).bind fun i => i.zero.map ofValue
def Cfg.place (G : Cfg) (t : Nat) (i : Nat) : Option (Nat × Nat) :=
  match G.und t with
  | some (.struct fs) => (fs[i]?).bind fun f => (G.size f.type).map fun n => (f.offset, n)
  | some (.array _ e) => (G.size e).map fun n => (i * n, n)
  | _ => none
def Cfg.places (G : Cfg) (t : Nat) : List (Nat × Operand) → Option (List (Nat × Nat × Operand))
  | [] => some []
  | (i, x) :: r => (G.place t i).bind fun p => (Cfg.places G t r).map fun l => (p.1, p.2, x) :: l
def sizesOk (G : Cfg) (t : Nat) : Bool := match G.und t with | some (.struct fs) => fs.toList.all fun f => (G.size f.type).isSome | some (.array _ e) => (G.size e).isSome | _ => false
def cBuild (G : Cfg) (nt t : Nat) (parts : List (Nat × Operand)) : Box OpF :=
  match G.zero t, G.places t parts with
  | some z, some ps => if sizesOk G t then forceL (cellsOf z) fun z => Box.casesOn (fillB nt ps) fun f => ⟨fun _ tr h k => f tr z fun l => k (.agg l) h⟩ else no 94
  | _, _ => no 94
def zrow (z : List AV) : Nat → List AV
  | 0 => []
  | n + 1 => z ++ zrow z n
def elemPlaces (n : Nat) : List (Nat × Operand) → List (Nat × Nat × Operand)
  | [] => []
  | (i, x) :: r => (i * n, n, x) :: elemPlaces n r
def cBuildSlice (G : Cfg) (nt t len : Nat) (parts : List (Nat × Operand)) : Box OpF :=
  match G.und t with
  | some (.slice e) => (match G.size e, G.zero e with
    | some (n + 1), some z => if (cellsOf z).length = n + 1 ∧ len * (n + 1) ≤ 65536 then
        forceL (zrow (cellsOf z) len) fun z => Box.casesOn (fillB nt (elemPlaces (n + 1) parts)) fun f =>
          ⟨fun _ tr h k => f tr z fun l => hnew h (.cells l e .plain) fun b h' => k (.slc b 0 len (.exact len)) h'⟩
      else no 95
    | _, _ => no 95)
  | _ => no 95
def makeSliceV (e sz : Nat) (z : List AV) (len cap : AV) (h : AH) (k : KV) : Out :=
  asN len fun l => asN cap fun c => guardB (Nat.ble l c) 96 (guardB (Nat.ble (Nat.mul c sz) 65536) 96 (hnew h (.cells (zrow z c) e .plain) fun b h' => k (.slc b 0 l (.exact c)) h'))
def cMakeSlice (G : Cfg) (nt t : Nat) (l c : Operand) : Box OpF :=
  match G.und t with
  | some (.slice e) => (match G.info e, G.zero e with
    | some i, some z => if (cellsOf z).length = i.size ∧ i.size ≠ 0 ∧ i.bytes * 65536 ≤ 140737488355328 then h2 nt l c (makeSliceV e i.size (cellsOf z)) else no 97
    | _, _ => no 97)
  | _ => no 97
def Cfg.agg? (G : Cfg) (t : Nat) : Option Bool := (G.und t).map fun d => match d with | .struct _ | .array .. => true | _ => false
def cLoad (G : Cfg) (nt t : Nat) (x : Operand) : Box OpF :=
  match G.agg? t, G.size t with
  | some false, some _ => h1 nt x loadOne
  | some true, some n => h1 nt x (loadAgg n)
  | _, _ => no 98
def cStore (G : Cfg) (nt t : Nat) (a x : Operand) : Box OpF :=
  match G.agg? t, G.size t with
  | some false, some 1 => h2 nt a x storeOne
  | some true, some n => h2 nt a x (storeAgg n)
  | _, _ => no 98
def cFieldAddr (G : Cfg) (nt s : Nat) (x : Operand) (i : Nat) : Box OpF :=
  match G.und s with
  | some (.struct fs) => (match fs[i]? with
    | some f => (match G.size f.type with | some (_ + 1) => p1 nt x (fieldAddr f.offset) | _ => no 99)
    | none => no 99)
  | _ => no 99
def cField (G : Cfg) (nt s : Nat) (x : Operand) (i : Nat) : Box OpF :=
  match G.und s with
  | some (.struct fs) => (match fs[i]? with
    | some f => (match G.agg? f.type, G.size f.type with | some false, some _ => p1 nt x (fieldOne f.offset) | some true, some n => p1 nt x (fieldAgg f.offset n) | _, _ => no 100)
    | none => no 100)
  | _ => no 100
def cIndexAddr (G : Cfg) (nt t : Nat) (x i : Operand) : Box OpF :=
  match G.und t with
  | some (.array n e) => (match G.size e with | some (s + 1) => p2 nt x i (indexAddrA n (s + 1)) | _ => no 101)
  | some (.slice e) => (match G.size e with | some (s + 1) => p2 nt x i (indexAddrS (s + 1)) | _ => no 101)
  | _ => no 101
def cIndex (G : Cfg) (nt t : Nat) (x i : Operand) : Box OpF :=
  match G.und t with
  | some (.array n e) => (match G.agg? e, G.size e with | some false, some s => p2 nt x i (indexA1 n s) | some true, some s => p2 nt x i (indexAn n s) | _, _ => no 102)
  | some .string => p2 nt x i indexStr
  | _ => no 102
def cSlice (G : Cfg) (nt t : Nat) (x : Operand) (lo hi : Option Operand) : Box OpF :=
  let go (F : Option AV → Option AV → AV → (AV → Out) → Out) : Box OpF :=
    Box.casesOn (opd nt x) fun g => Box.casesOn (opdO nt lo) fun gl => Box.casesOn (opdO nt hi) fun gh => ⟨fun _ tr h k => g tr fun v => gl tr fun l => gh tr fun u => F l u v fun r => k r h⟩
  match G.und t with
  | some .string => go sliceStr
  | some (.slice e) => (match G.size e with | some (s + 1) => go (sliceSlc (s + 1)) | _ => no 103)
  | some (.array n e) => (match G.size e with | some (s + 1) => go (sliceArr n (s + 1)) | _ => no 103)
  | some (.pointer a) => (match G.und a with | some (.array n e) => (match G.size e with | some (s + 1) => go (sliceArr n (s + 1)) | _ => no 103) | _ => no 103)
  | _ => no 103
def cLookup (G : Cfg) (nt t : Nat) (x i : Operand) (ok : Bool) : Box OpF :=
  match G.und t with
  | some (.map kt e) => (match keyT G kt, G.zero e with | some q, some z => forceV z fun z => h2 nt x i (lookupV q z ok) | _, _ => no 104)
  | _ => no 104
def cUpdate (G : Cfg) (nt t : Nat) (m i x : Operand) : Box OpF :=
  match G.und t with
  | some (.map kt _) => (match keyT G kt with
    | some q => Box.casesOn (opd nt m) fun g => Box.casesOn (opd nt i) fun g' => Box.casesOn (opd nt x) fun g'' => ⟨fun _ tr h k => g tr fun v => g' tr fun w => g'' tr fun u => updateV q v w u h k⟩
    | none => no 105)
  | _ => no 105
def assertV (t : Nat) (ok : Bool) (zero : AV) (v : AV) (k : AV → Out) : Out :=
  match v with
  | .nili => if ok then k (.tup [zero, .bool false]) else .bad 106
  | .ifc u x => Bool.casesOn (Nat.beq u t) (if ok then k (.tup [zero, .bool false]) else .bad 106) (k (if ok then .tup [x, .bool true] else x))
  | _ => .bad 106
def assertNil (ok : Bool) (zero : AV) (v : AV) (k : AV → Out) : Out :=
  match v with
  | .nili => if ok then k (.tup [zero, .bool false]) else .bad 107
  | _ => .bad 107
def cAssert (G : Cfg) (nt : Nat) (x : Operand) (t : Nat) (ok : Bool) : Box OpF :=
  match G.und t, G.zero t with
  | some (.interface _), some z => forceV z fun z => p1 nt x (assertNil ok z)
  | some _, some z => forceV z fun z => p1 nt x (assertV t ok z)
  | _, _ => no 107
def extractV (i : Nat) (v : AV) (k : AV → Out) : Out := match v with | .tup l => nthK l i k | _ => .bad 108
@[reducible] def CallF := Self → List AV → AH → KV → Out
def argsB (nt : Nat) : Nat → Nat → Box (List AV → Tr → (Tr → Out) → Out)
  | 0, _ => ⟨fun l tr k => List.casesOn l (k tr) (fun _ _ => .bad 110)⟩
  | n + 1, i => Box.casesOn (cput nt i) fun p => Box.casesOn (argsB nt n (i + 1)) fun f => ⟨fun l tr k => List.casesOn l (.bad 110) (fun a l' => p tr a fun tr' => f l' tr' k)⟩
def resB (G : Cfg) (nt : Nat) : List ResultVar → Box (Tr → AH → (List AV → Out) → Out)
  | [] => ⟨fun _ _ k => k []⟩
  | .tmp t :: l => Box.casesOn (cget nt t) fun g => Box.casesOn (resB G nt l) fun f => ⟨fun tr h k => g tr fun v => f tr h fun vs => k (v :: vs)⟩
  | .cell a t :: l => Box.casesOn (cget nt a) fun g => Box.casesOn (resB G nt l) fun f =>
      match G.agg? t, G.size t with
      | some false, some _ => ⟨fun tr h k => g tr fun p => loadOne p h fun v _ => f tr h fun vs => k (v :: vs)⟩
      | some true, some n => ⟨fun tr h k => g tr fun p => loadAgg n p h fun v _ => f tr h fun vs => k (v :: vs)⟩
      | _, _ => ⟨fun _ _ _ => .bad 111⟩
def oneOf (l : List AV) : AV := match l with | [v] => v | l => .tup l
def unwindK (call : Nat → List AV → AH → KV → Out) : List AD → AH → (AH → Out) → Out
  | [], h, k => k h
  | .mark r :: ds, h, k => hget h r fun x => match x with
    | .defd => hset h r .dead fun h' => withDs h' ds fun h'' => unwindK call ds h'' k
    | _ => .bad 112
  | .call f args :: ds, h, k => withDs h ds fun h' => call f args h' fun _ h'' => unwindK call ds h'' k
mutual
def idsV : AV → List Nat → List Nat
  | .ptr b _, l => b :: l
  | .slc b _ _ _, l => b :: l
  | .map r, l => r :: l
  | .yld r, l => r :: l
  | .ifc _ v, l => idsV v l
  | .fn _ a c, l => idsVs a (idsVs c l)
  | .agg a, l => idsVs a l
  | .tup a, l => idsVs a l
  | _, l => l
def idsVs : List AV → List Nat → List Nat
  | [], l => l
  | v :: vs, l => idsV v (idsVs vs l)
end
def idsE : List AE → List Nat → List Nat
  | [], l => l
  | ⟨k, v, _⟩ :: es, l => idsV k (idsV v (idsE es l))
def idsB : ABlk → List Nat → List Nat
  | .cells cs _ _, l => idsVs cs l
  | .amap es _, l => idsE es l
  | .miter (some m) _ _ _, l => m :: l
  | _, l => l
def idsT : Tr → List Nat → List Nat
  | .leaf v, l => idsV v l
  | .node a b c d e f g h, l => idsT a (idsT b (idsT c (idsT d (idsT e (idsT f (idsT g (idsT h l)))))))
def reachK (t : BT ABlk) (n₀ : Nat) : Nat → List Nat → List Nat → (List Nat → Out) → Out
  | 0, _, _, _ => .bad 28
  | _ + 1, [], seen, k => k seen
  | n + 1, b :: todo, seen, k =>
    Bool.casesOn (Nat.ble n₀ b) (reachK t n₀ n todo seen k)
      (Bool.casesOn (hasN b seen) (t.getK b fun x => appK seen [b] fun seen' => reachK t n₀ n (idsB x todo) seen' k) (reachK t n₀ n todo seen k))
def place (b : Nat) : List Nat → Nat → Option Nat
  | [], _ => none
  | c :: l, i => Bool.casesOn (Nat.beq b c) (place b l (Nat.succ i)) (some i)
def ren (n₀ : Nat) (order : List Nat) (b : Nat) : Option Nat := Bool.casesOn (Nat.ble n₀ b) (some b) (place b order n₀)
def renN {α : Type} (ρ : Nat → Option Nat) (b : Nat) (mk : Nat → α) (z : α) (k : α → Out) : Out := Option.casesOn (ρ b) (k z) fun c => forceN c fun c => k (mk c)
mutual
def renV (ρ : Nat → Option Nat) : AV → (AV → Out) → Out
  | .ptr b o, k => renN ρ b (fun c => .ptr c o) .top k
  | .slc b o n c, k => renN ρ b (fun d => .slc d o n c) .top k
  | .map r, k => renN ρ r .map .top k
  | .yld r, k => renN ρ r .yld .top k
  | .ifc t v, k => renV ρ v fun v' => k (.ifc t v')
  | .fn f a c, k => renVs ρ a fun a' => renVs ρ c fun c' => k (.fn f a' c')
  | .agg a, k => renVs ρ a fun a' => k (.agg a')
  | .tup a, k => renVs ρ a fun a' => k (.tup a')
  | .undef, k => k .undef | .top, k => k .top | .bool b, k => k (.bool b) | .int kd n, k => k (.int kd n) | .flt kd b, k => k (.flt kd b) | .sym i, k => k (.sym i) | .str s, k => k (.str s)
  | .nilp, k => k .nilp | .nils, k => k .nils | .nilm, k => k .nilm | .nilf, k => k .nilf | .nili, k => k .nili
def renVs (ρ : Nat → Option Nat) : List AV → (List AV → Out) → Out
  | [], k => k []
  | v :: l, k => renV ρ v fun v' => renVs ρ l fun l' => k (v' :: l')
end
def renE (ρ : Nat → Option Nat) : List AE → (List AE → Out) → Out
  | [], k => k []
  | ⟨a, v, b⟩ :: l, k => renV ρ a fun a' => renV ρ v fun v' => renE ρ l fun l' => k (⟨a', v', b⟩ :: l')
def renB (ρ : Nat → Option Nat) : ABlk → (ABlk → Out) → Out
  | .cells cs e f, k => renVs ρ cs fun cs' => k (.cells cs' e f)
  | .amap es c, k => renE ρ es fun es' => k (.amap es' c)
  | .siter s p, k => k (.siter s p)
  | .miter none a b c, k => k (.miter none a b c)
  | .miter (some m) a b c, k => renN ρ m (fun m' => .miter (some m') a b c) .dead k
  | .defd, k => k .defd
  | .syms l, k => k (.syms l)
  | _, k => k .dead
def newBlks (t : BT ABlk) (ρ : Nat → Option Nat) : List Nat → (List ABlk → Out) → Out
  | [], k => k []
  | b :: l, k => t.getK b fun x => renB ρ x fun x' => newBlks t ρ l fun l' => k (x' :: l')
def canon (n₀ : Nat) (v : AV) (h : AH) : Out :=
  reachK h.t n₀ 1000000 (idsV v []) [] fun order => renV (ren n₀ order) v fun v' => newBlks h.t (ren n₀ order) order fun bs => .jn v' bs
def renT (ρ : Nat → Option Nat) : Tr → (Tr → Out) → Out
  | .leaf v, k => renV ρ v fun v' => k (.leaf v')
  | .node a b c d e f g h, q => renT ρ a fun a => renT ρ b fun b => renT ρ c fun c => renT ρ d fun d => renT ρ e fun e => renT ρ f fun f => renT ρ g fun g => renT ρ h fun h => q (.node a b c d e f g h)
def gcF (keep : List AV) (x : Ex) (tr : Tr) (h : AH) : Out :=
  match h.ds with
  | [] => reachK h.t h.lo 1000000 (idsT tr (idsVs keep [])) [] fun order => renT (ren h.lo order) tr fun tr' => renVs (ren h.lo order) keep fun keep' => newBlks h.t (ren h.lo order) order fun bs => .done x tr' keep' bs
  | _ => .bad 27
def mergeK : List ABlk → BT ABlk → Nat → (BT ABlk → Nat → Out) → Out
  | [], t, n, k => k t n
  | x :: l, t, n, k => t.setK n x fun t' => forceN (Nat.succ n) fun n' => mergeK l t' n' k
def extOf (f : Nat) : List (Nat × Ext) → Option Ext
  | [] => none
  | (g, x) :: l => if f = g then some x else extOf f l
def bodyF (G : Cfg) (fn : Func) (code : Code) (call : Self → Nat → List AV → AH → KV → Out) : Box CallF :=
  Box.casesOn (argsB fn.ntmps (fn.params.size + fn.nfree) 0) fun args => Box.casesOn (resB G fn.ntmps fn.results.toList) fun res =>
    ⟨fun s l h k => args l (tr0 fn.ntmps) fun tr => AH.casesOn h fun t n ds lo => s ⟨fn.ntmps, false, code⟩ tr ⟨t, n, [], lo⟩ fun x tr' h' =>
      match x with
      | .normal | .ret => AH.casesOn h' fun _ _ ds' _ => unwindK (call s) ds' h' fun h'' => res tr' h'' fun vs => withDs h'' ds fun h3 => k (oneOf vs) h3
      | _ => .bad 113⟩
def prepF (G : Cfg) : Nat → Nat → Box CallF
  | 0, _ => ⟨fun _ _ _ _ => .bad 114⟩
  | d + 1, f =>
    match G.ft.get f with
      | none => ⟨fun _ _ _ _ => .bad 115⟩
      | some fn => match fn.body with
        | none => (match extOf f G.ext with
          | some x => let e := (match (fn.resultTypes[0]?).bind G.und with | some (.slice e) => e | _ => 0)
            ⟨fun _ l h k => extV e x l h k⟩
          | none => ⟨fun _ _ _ _ => .bad 116⟩)
        | some code =>
          Box.casesOn (bodyF G fn code fun s g l h k => match (G.ft.get g).bind (·.body) with | none => .bad 128 | some _ => Box.casesOn (prepF G d g) fun F => F s l h k) fun F =>
          if hasN f G.join then
            ⟨fun s l h k => AH.casesOn h fun t n ds lo => match F s l ⟨t, n, ds, n⟩ (fun v h' => canon n v h') with
              | .jn v bs => mergeK bs t n fun t' m => k v ⟨t', m, ds, lo⟩
              | .bad n => .bad n
              | _ => .bad 117⟩
          else ⟨F⟩
def sumOf (f : Nat) : List (Nat × Smm) → Option Smm
  | [] => none
  | (g, x) :: l => if f = g then some x else sumOf f l
def callF (G : Cfg) (s : Self) (f : Nat) (l : List AV) (h : AH) (k : KV) : Out :=
  Option.casesOn (motive := fun _ => Out) (sumOf f G.sums) (Box.casesOn (prepF G 4 f) fun F => F s l h k) (fun x => sumV symB x l h k)
def putsD (nt : Nat) : List Nat → List AV → Tr → (Tr → Out) → Out
  | [], [], tr, k => k tr
  | t :: ts, v :: vs, tr, k => Box.casesOn (cput nt t) fun p => p tr v fun tr' => putsD nt ts vs tr' k
  | _, _, _, _ => .bad 118
def codeOf : Ex → Option Code
  | .normal => none
  | .exit i => some (.exit i)
  | .goto l => some (.goto l)
  | .ret => some .ret
def exOf : Option Code → Option Ex
  | none => some .normal
  | some (.exit i) => some (.exit i)
  | some (.goto l) => some (.goto l)
  | some .ret => some .ret
  | _ => none
def bodied (G : Cfg) (f : AV) (x : Out) : Out :=
  match f with
  | .fn g _ _ => (match (G.ft.get g).bind (·.body) with | some _ => x | none => .bad 165)
  | _ => .bad 165
def asLoop (b : ABlk) (k : ALoop → Out) : Out := match b with | .loop l => k l | _ => .bad 119
def stOf : Ex → LoopState
  | .normal => .ready
  | _ => .done
def goOn : Ex → Bool
  | .normal => true
  | _ => false
def yieldF (s : Self) (l : Nat) (args : List AV) (h : AH) (k : KV) : Out :=
  hget h l fun x => asLoop x fun lp => putsD lp.nt lp.params args lp.tr fun tr => AH.casesOn h fun t n ds lo =>
    s ⟨lp.nt, true, lp.assign⟩ tr ⟨t, n, [], lo⟩ fun x tr h => match x with
      | .normal => hget h l fun x => asLoop x fun lq => (match lq.state with
        | .ready => hset h l (.loop { lq with state := .busy }) fun h => s ⟨lp.nt, true, lp.body⟩ tr h fun x _ h =>
            hget h l fun y => asLoop y fun lq => hset h l (.loop { lq with state := stOf x, pending := codeOf x }) fun h =>
              withDs h ds fun h => k (.bool (goOn x)) h
        | _ => .bad 120)
      | _ => .bad 121
def callV (G : Cfg) (s : Self) (f : AV) (args : List AV) (h : AH) (k : KV) : Out :=
  match f with
  | .fn g first cap => callF G s g (first ++ args ++ cap) h k
  | .yld l => yieldF s l args h k
  | _ => .bad 122
def methodF (G : Cfg) (t : Nat) (name : String) : Option Nat :=
  (G.info t).bind fun i => (i.methods.find? (·.name == name)).bind fun m => if m.path.isEmpty then m.func.bind fun (f, p) => match G.und t with
    | some (.pointer _) => if p then some f else none
    | some _ => if p then none else some f
    | none => none else none
def invokeF (G : Cfg) (s : Self) (name : String) (recv : AV) (args : List AV) (h : AH) (k : KV) : Out :=
  match recv with
  | .ifc t v => (match methodF G t name with | some f => callF G s f (v :: args) h k | none => .bad 123)
  | _ => .bad 123
def deferF (f : AV) (args : List AV) (h : AH) (k : KV) : Out :=
  match f with
  | .fn g first cap => AH.casesOn h fun t n ds lo => k .undef ⟨t, n, .call g (first ++ args ++ cap) :: ds, lo⟩
  | _ => .bad 124
def sliceDataV (v : AV) (k : AV → Out) : Out := match v with
  | .slc b o _ (.exact (_ + 1)) | .slc b o _ (.least (_ + 1) _) => k (.ptr b o)
  | .nils => k .nilp
  | _ => .bad 125
def unsafeStr (u : Nat) (v n : AV) (h : AH) (k : KV) : Out :=
  asN n fun n => guardB (Nat.ble n 9223372036854775807) 126 <| match v with
    | .nilp => Nat.casesOn (motive := fun _ => Out) n (k (.str []) h) (fun _ => .bad 126)
    | .ptr b o => Nat.casesOn (motive := fun _ => Out) n (k (.str []) h) (fun _ => hget h b fun x => asCells x fun cs e f =>
        notRo f (guardB (Nat.beq e u) 126 (sliceK cs o n fun l => bytesK l fun s => hset h b (.cells cs e .ro) fun h' => k (.str s) h')))
    | _ => .bad 126
def clearV (sz : Nat) (z : List AV) (v : AV) (h : AH) (k : KV) : Out :=
  match v with
  | .nils | .nilm => k (.tup []) h
  | .map r => hget h r fun x => asMap x fun _ c => hset h r (.amap [] c) fun h' => k (.tup []) h'
  | .slc b o n _ => Nat.casesOn (motive := fun _ => Out) n (k (.tup []) h) (fun _ => hget h b fun x => asCells x fun cs e f => notRo f (guardB (allOne z) 127 (guardB (Nat.beq z.length sz) 127 (overK o cs (zrow z n) fun cs' => hset h b (.cells cs' e f) fun h' => k (.tup []) h'))))
  | _ => .bad 127
def clearM (v : AV) (h : AH) (k : KV) : Out := match v with | .slc .. => .bad 135 | v => clearV 0 [] v h k
def rangeS (v : AV) (h : AH) (k : KV) : Out := match v with | .str l => rangeV (.str l) h k | _ => .bad 65
def rangeM (v : AV) (h : AH) (k : KV) : Out := match v with | .str _ => .bad 65 | v => rangeV v h k
def cBuiltin (G : Cfg) (nt : Nat) (b : Builtin) (at_ : List Nat) (xs : List Operand) : Box OpF :=
  match b, at_, xs with
  | .len, [t], [x] => (match G.und t with
    | some (.array n _) => ⟨fun _ _ h k => k (.int .i64 (.ofNat n)) h⟩
    | some (.pointer a) => (match G.und a with | some (.array n _) => ⟨fun _ _ h k => k (.int .i64 (.ofNat n)) h⟩ | _ => no 130)
    | some .string => p1 nt x fun v k => asS v fun l => lenK l 0 fun n => k (.int .i64 (.ofNat n))
    | some (.slice _) => p1 nt x fun v k => lenL v fun n => k (.int .i64 (.ofNat n))
    | some (.map ..) => h1 nt x fun v h k => lenM h v fun n => k (.int .i64 (.ofNat n)) h
    | _ => no 130)
  | .cap, [t], [x] => (match G.und t with
    | some (.slice _) => p1 nt x fun v k => capV v fun n => k (.int .i64 (.ofNat n))
    | _ => no 130)
  | .min, _, x :: ys => Box.casesOn (opd nt x) fun g => Box.casesOn (opds nt ys) fun gs => ⟨fun _ tr h k => g tr fun v => gs tr fun l => foldK min2 l v fun r => k r h⟩
  | .max, _, [x, y] => h2 nt x y max2S
  | .max, _, x :: ys => Box.casesOn (opd nt x) fun g => Box.casesOn (opds nt ys) fun gs => ⟨fun _ tr h k => g tr fun v => gs tr fun l => foldK max2 l v fun r => k r h⟩
  | .append, [s, t], [x, y] => (match G.und s, G.und t with
    | some (.slice e), some d => (match G.info e, G.zero e with
      | some i, some z => if i.size = 0 ∨ i.bytes = 0 ∨ (cellsOf z).length ≠ i.size ∨ 140737488355328 < i.bytes * 65536 then no 131 else (match d with
        | .int _ => h2 nt x y fun v w h k => asN w fun n => guardB (Nat.ble (Nat.mul n i.size) 65536) 132 (appendV e i.size i.bytes v n (zrow (cellsOf z) n) h k)
        | .string | .slice _ => h2 nt x y fun v w h k => firstK h i.size w fun n l => appendV e i.size i.bytes v n l h k
        | _ => no 131)
      | _, _ => no 131)
    | _, _ => no 131)
  | .copy, [s, _], [x, y] => (match G.und s with
    | some (.slice e) => (match G.size e with | some (n + 1) => h2 nt x y (copyV (n + 1)) | _ => no 133)
    | _ => no 133)
  | .delete, [t, _], [x, y] => (match G.und t with
    | some (.map kt _) => (match keyT G kt with | some q => h2 nt x y (deleteV q) | none => no 134)
    | _ => no 134)
  | .clear, [t], [x] => (match G.und t with
    | some (.slice e) => (match G.size e, G.zero e with | some (n + 1), some z => h1 nt x (clearV (n + 1) (cellsOf z)) | _, _ => no 135)
    | some (.map ..) => h1 nt x clearM
    | _ => no 135)
  | .unsafeSliceData, _, [x] => p1 nt x sliceDataV
  | .unsafeString, [pt, _], [x, y] => (match G.und pt with
    | some (.pointer u) => (match G.size u with | some 1 => h2 nt x y (unsafeStr u) | _ => no 136)
    | _ => no 136)
  | _, _, _ => no 136
def cCall (G : Cfg) (nt : Nat) (rnd : Bool) (c : Call) : Box OpF :=
  match c.callee with
  | .builtin .recover => if rnd then no 136 else (match c.args.toList with | [] => ⟨fun _ _ h k => k .nili h⟩ | _ => no 136)
  | .builtin b => cBuiltin G nt b c.argTypes.toList c.args.toList
  | .value (.func f) => Box.casesOn (opds nt c.args.toList) fun gs => ⟨fun s tr h k => gs tr fun l => callF G s f l h k⟩
  | .value x => Box.casesOn (opd nt x) fun g => Box.casesOn (opds nt c.args.toList) fun gs => ⟨fun s tr h k => g tr fun f => gs tr fun l => callV G s f l h k⟩
  | .invoke x name => Box.casesOn (opd nt x) fun g => Box.casesOn (opds nt c.args.toList) fun gs => ⟨fun s tr h k => g tr fun f => gs tr fun l => invokeF G s name f l h k⟩
def cOp (G : Cfg) (nt : Nat) (rnd : Bool) (o : Oper) : Box OpF :=
  match o.op with
  | .move x | .assign x => Box.casesOn (opd nt x) fun g => ⟨fun _ tr h k => g tr fun v => k v h⟩
  | .pick c a b => Box.casesOn (opd nt c) fun g => Box.casesOn (opd nt a) fun ga => Box.casesOn (opd nt b) fun gb =>
      ⟨fun _ tr h k => g tr fun v => asB v fun t => Bool.casesOn t (gb tr fun v => k v h) (ga tr fun v => k v h)⟩
  | .alloc e => (match G.zero e with | some z => forceL (cellsOf z) fun z => ⟨fun _ _ h k => newCells e z h k⟩ | none => no 140)
  | .box e x => h1 nt x (boxV e)
  | .build t ps => cBuild G nt t ps.toList
  | .buildSlice t n ps => cBuildSlice G nt t n ps.toList
  | .load t x => cLoad G nt t x
  | .store t a x => cStore G nt t a x
  | .nilCheck x => p1 nt x nilCheck
  | .binOp op xt x y _ => cBin G nt op xt x y
  | .unOp op _ x => (match op with | .neg => p1 nt x negV | .xor => p1 nt x compV | .not => p1 nt x notV | _ => no 141)
  | .convert s d x => cConv G nt s d x
  | .makeInterface t x => (match G.und t with | some (.interface _) | none => no 142 | some _ => p1 nt x fun v k => k (.ifc t v))
  | .makeFunc (.func f) a c => Box.casesOn (opds nt a.toList) fun ga => Box.casesOn (opds nt c.toList) fun gc => ⟨fun _ tr h k => ga tr fun a => gc tr fun c => k (.fn f a c) h⟩
  | .makeMap _ none => ⟨fun _ _ h k => hnew h (.amap [] 0) fun b h' => k (.map b) h'⟩
  | .makeMap t (some x) => (match G.und t with | some (.map ..) => h1 nt x fun v h k => asI v fun _ _ => hnew h (.amap [] 0) fun b h' => k (.map b) h' | _ => no 143)
  | .makeSlice t l c => cMakeSlice G nt t l c
  | .slice t x lo hi none => cSlice G nt t x lo hi
  | .fieldAddr s x i => cFieldAddr G nt s x i
  | .field s x i => cField G nt s x i
  | .indexAddr t x i => cIndexAddr G nt t x i
  | .index t x i => cIndex G nt t x i
  | .lookup t x i ok => cLookup G nt t x i ok
  | .mapUpdate t m i x | .insert t m i x => cUpdate G nt t m i x
  | .range t x => (match G.und t with | some .string => h1 nt x rangeS | some (.map ..) => h1 nt x rangeM | _ => no 144)
  | .next x false => h1 nt x nextMap
  | .next x true => h1 nt x nextStr
  | .entry x => h1 nt x entryV
  | .typeAssert x _ t ok => cAssert G nt x t ok
  | .extract x i => p1 nt x (extractV i)
  | .call c => cCall G nt rnd c
  | .defer c => (match rnd, c.callee with
    | false, .value x => Box.casesOn (opd nt x) fun g => Box.casesOn (opds nt c.args.toList) fun gs => ⟨fun _ tr h k => g tr fun f => gs tr fun l => deferF f l h k⟩
    | _, _ => no 145)
  | _ => no 146
def wantK (want : Bool) (v : AV) (yes no_ : Out) : Out :=
  match v with
  | .bool b => Bool.casesOn b (Bool.casesOn want yes no_) (Bool.casesOn want no_ yes)
  | .top | .sym _ => .bad 150
  | _ => no_
def operB (G : Cfg) (nt : Nat) (rnd : Bool) (ops : List Oper) (o : Oper) : Box RgF :=
  Box.casesOn (cOp G nt rnd o) fun f =>
    match o.guard, o.dst with
    | none, none => ⟨fun s tr h k => f s tr h fun _ h' => k tr h'⟩
    | none, some d => Box.casesOn (cput nt d) fun p => ⟨fun s tr h k => f s tr h fun v h' => p tr v fun tr' => k tr' h'⟩
    | some (j, want), dst => match (ops[j]?).bind (·.dst) with
      | none => ⟨fun _ _ _ _ => .bad 151⟩
      | some c => Box.casesOn (cget nt c) fun g => match dst with
        | none => ⟨fun s tr h k => g tr fun v => wantK want v (f s tr h fun _ h' => k tr h') (k tr h)⟩
        | some d => Box.casesOn (cput nt d) fun p => ⟨fun s tr h k => g tr fun v => wantK want v (f s tr h fun v h' => p tr v fun tr' => k tr' h') (p tr .undef fun tr' => k tr' h)⟩
def regionB (G : Cfg) (nt : Nat) (rnd : Bool) (ops : List Oper) : List Oper → Box RgF
  | [] => ⟨fun _ tr h k => k tr h⟩
  | o :: r => Box.casesOn (operB G nt rnd ops o) fun f => Box.casesOn (regionB G nt rnd ops r) fun g => ⟨fun s tr h k => f s tr h fun tr' h' => g s tr' h' k⟩
def reads (G : Cfg) (o : Oper) : Bool :=
  match o.op with
  | .move _ | .pick .. | .build .. | .load .. | .nilCheck _ | .binOp .. | .unOp .. | .makeInterface .. | .makeFunc .. | .slice .. | .fieldAddr .. | .field .. | .indexAddr .. | .index .. | .lookup .. | .extract .. => true
  | .convert s d _ => (match G.und s, G.und d with
    | some (.int _), some (.int _) | some (.int _), some (.float _) | some (.float _), some (.int _) | some (.int _), some .string | some .string, some .string | some (.slice _), some .string => true
    | _, _ => false)
  | .call { callee := .builtin b, .. } => (match b with | .len | .cap | .min | .max => true | _ => false)
  | _ => false
def makes (o : Oper) : Bool :=
  match o.op with
  | .alloc _ | .buildSlice .. => true
  | _ => false
def bit (m i : Nat) : Bool := Nat.beq (Nat.mod (Nat.shiftRight m i) 2) 1
def befs : List Oper → List Nat → List Nat
  | [], acc => acc
  | o :: r, acc => befs r (acc ++ [o.after.toList.foldl (fun s e => if Region.binds .any e then Nat.lor (Nat.lor s (Nat.shiftLeft 1 e.on)) (acc.getD e.on 0) else s) 0])
structure PO where
  i : Nat
  bef : Nat
  eff : Bool
  o : Oper
def planOps (G : Cfg) : List Oper → List Nat → Nat → List PO
  | o :: r, b :: bs, i => ⟨i, b, notB (reads G o || makes o), o⟩ :: planOps G r bs (i + 1)
  | _, _, _ => []
def chainOk : List PO → Bool
  | a :: b :: l => bit b.bef a.i && chainOk (b :: l)
  | _ => true
def looks (ops : List Oper) (o : Oper) : List Nat := o.looksAt ops.toArray
def ownDst (ops : List Oper) (l : List PO) (p : PO) : Bool :=
  match p.o.dst with
  | none => true
  | some d => notB ((looks ops p.o).contains d) && l.all fun q => Nat.beq q.i p.i || (q.o.dst != some d && (notB ((looks ops q.o).contains d) || bit q.bef p.i))
inductive PS where
  | op (p : PO)
  | chk (p : PO)
def eager (eb done : Nat) (dn : List PO) (l : List PO) : List PO :=
  l.filter fun p => notB p.eff && Nat.beq (Nat.lor (Nat.land p.bef eb) done) done && notB (dn.any fun q => Nat.beq q.i p.i)
def planGo (eb : Nat) (l : List PO) : List PO → Nat → List PO → List PS
  | [], done, dn => (eager eb done dn l).map .op
  | e :: es, done, dn =>
    let new := eager eb done dn l
    let dn := dn ++ new
    new.map .op ++ .op e :: (dn.filter fun p => notB (bit e.bef p.i)).map .chk ++ planGo eb l es (Nat.lor done (Nat.shiftLeft 1 e.i)) dn
def plan (G : Cfg) (ops : List Oper) : Option (List PS) :=
  let l := planOps G ops (befs ops []) 0
  let es := l.filter (·.eff)
  if chainOk es && (l.filter fun p => notB p.eff).all (ownDst ops l) && l.all (fun p => Nat.beq (Nat.shiftRight p.bef p.i) 0) then
    some (planGo (es.foldl (fun m e => Nat.lor m (Nat.shiftLeft 1 e.i)) 0) l es 0 [])
  else none
def remadeB (G : Cfg) (nt : Nat) (o : Oper) : Box (Tr → AH → AV → Out → Out) :=
  let no : Box (Tr → AH → AV → Out → Out) := ⟨fun _ _ _ _ => .bad 154⟩
  let same (b e : Nat) (l : List AV) (h : AH) (x : Out) : Out := hget h b fun y => match y with
    | .cells cs e' .plain => guardB (Nat.beq e e') 155 (guardB (AV.beqs cs l) 155 x)
    | _ => .bad 155
  match o.op with
  | .alloc e => (match G.zero e with
    | some z => forceL (cellsOf z) fun z => ⟨fun _ h v x => match v with | .ptr b 0 => same b e z h x | _ => .bad 155⟩
    | none => no)
  | .buildSlice t len parts => (match G.und t with
    | some (.slice e) => (match G.size e, G.zero e with
      | some (n + 1), some z => if (cellsOf z).length = n + 1 ∧ len * (n + 1) ≤ 65536 then forceL (zrow (cellsOf z) len) fun z => Box.casesOn (fillB nt (elemPlaces (n + 1) parts.toList)) fun f =>
          ⟨fun tr h v x => f tr z fun l => match v with | .slc b 0 m (.exact q) => guardB (Nat.beq m len) 155 (guardB (Nat.beq q len) 155 (same b e l h x)) | _ => .bad 155⟩ else no
      | _, _ => no)
    | _ => no)
  | _ => no
def chkB (G : Cfg) (nt : Nat) (rnd : Bool) (ops : List Oper) (o : Oper) : Box RgF :=
  match o.dst with
  | none => if makes o then ⟨fun _ _ _ _ => .bad 156⟩ else Box.casesOn (operB G nt rnd ops o) fun f => ⟨fun s tr h k => f s tr h fun _ _ => k tr h⟩
  | some d => Box.casesOn (cget nt d) fun g =>
    if makes o then Box.casesOn (remadeB G nt o) fun f => (match o.guard with
      | none => ⟨fun _ tr h k => g tr fun v => f tr h v (k tr h)⟩
      | some (j, want) => match (ops[j]?).bind (·.dst) with
        | none => ⟨fun _ _ _ _ => .bad 151⟩
        | some c => Box.casesOn (cget nt c) fun gc => ⟨fun _ tr h k => gc tr fun w => g tr fun v => wantK want w (f tr h v (k tr h)) (match v with | .undef => k tr h | _ => .bad 156)⟩)
    else Box.casesOn (operB G nt rnd ops o) fun f =>
      ⟨fun s tr h k => g tr fun v => f s tr h fun tr' _ => g tr' fun w => guardB (AV.beq v w) 152 (k tr h)⟩
def planB (G : Cfg) (nt : Nat) (rnd : Bool) (ops : List Oper) : List PS → Box RgF
  | [] => ⟨fun _ tr h k => k tr h⟩
  | .op p :: r => Box.casesOn (operB G nt rnd ops p.o) fun f => Box.casesOn (planB G nt rnd ops r) fun g => ⟨fun s tr h k => f s tr h fun tr' h' => g s tr' h' k⟩
  | .chk p :: r => Box.casesOn (chkB G nt rnd ops p.o) fun f => Box.casesOn (planB G nt rnd ops r) fun g => ⟨fun s tr h k => f s tr h fun tr' h' => g s tr' h' k⟩
def cRegion (G : Cfg) (nt : Nat) (rnd : Bool) (ops : List Oper) (draw : Bool) : Box RgF :=
  if draw then (match plan G ops with | some l => planB G nt rnd ops l | none => ⟨fun _ _ _ _ => .bad 153⟩)
  else regionB G nt rnd ops ops
def cCode (G : Cfg) (nt : Nat) (rnd : Bool) : Code → Box CdF
  | .skip => ⟨fun _ tr h k => k .normal tr h⟩
  | .label _ => ⟨fun _ tr h k => k .normal tr h⟩
  | .region _ ops draw => Box.casesOn (cRegion G nt rnd ops.toList draw) fun f => ⟨fun s tr h k => f s tr h fun tr' h' => k .normal tr' h'⟩
  | .seq a b => Box.casesOn (cCode G nt rnd a) fun f => Box.casesOn (cCode G nt rnd b) fun g =>
      ⟨fun s tr h k => f s tr h fun x tr' h' => Ex.casesOn x (g s tr' h' k) (fun i => k (.exit i) tr' h') (fun l => k (.goto l) tr' h') (k .ret tr' h')⟩
  | .cond c a b => Box.casesOn (opd nt c) fun c => Box.casesOn (cCode G nt rnd a) fun f => Box.casesOn (cCode G nt rnd b) fun g =>
      ⟨fun s tr h k => c tr fun v => asB v fun t => Bool.casesOn t (g s tr h k) (f s tr h k)⟩
  | .block i a => Box.casesOn (cCode G nt rnd a) fun f =>
      ⟨fun s tr h k => f s tr h fun x tr' h' => Ex.casesOn x (k .normal tr' h') (fun j => Bool.casesOn (Nat.beq j i) (k (.exit j) tr' h') (k .normal tr' h')) (fun l => k (.goto l) tr' h') (k .ret tr' h')⟩
  | c@(.loop a) => Box.casesOn (cCode G nt rnd a) fun f =>
      ⟨fun s tr h k => f s tr h fun x tr' h' => Ex.casesOn x (s ⟨nt, rnd, c⟩ tr' h' k) (fun i => k (.exit i) tr' h') (fun l => k (.goto l) tr' h') (k .ret tr' h')⟩
  | .scope a => Box.casesOn (cCode G nt rnd a) fun f =>
      ⟨fun s tr h k => f s tr h fun x tr' h' => match x with
        | .goto l => (match findLabel a l with
          | some rest => s ⟨nt, rnd, rest⟩ tr' h' fun y tr'' h'' => (match y with
            | .goto m => (match findLabel a m with | some _ => .bad 160 | none => k (.goto m) tr'' h'')
            | y => k y tr'' h'')
          | none => k (.goto l) tr' h')
        | x => k x tr' h'⟩
  | .rangeFunc f params assign body => if rnd then ⟨fun _ _ _ _ => .bad 161⟩ else Box.casesOn (opd nt f) fun g =>
      ⟨fun s tr h k => g tr fun fv => bodied G fv <| hnew h .defd fun r h₁ => hnew h₁ (.loop ⟨.ready, none, 0, nt, tr, params.toList, assign, body⟩) fun l h₂ => AH.casesOn h₂ fun t n ds lo =>
        callV G s fv [.yld l] ⟨t, n, .mark r :: ds, lo⟩ fun _ h₃ => hget h₃ l fun x => asLoop x fun lp => (match lp.state with
          | .busy => .bad 162
          | _ => (match exOf lp.pending with
            | some ex => hset h₃ l (.loop { lp with state := .exhausted }) fun h₄ => k ex tr h₄
            | none => .bad 163))⟩
  | .exit i => ⟨fun _ tr h k => k (.exit i) tr h⟩
  | .goto l => ⟨fun _ tr h k => k (.goto l) tr h⟩
  | .ret => ⟨fun _ tr h k => k .ret tr h⟩
  | .refuse _ => ⟨fun _ _ _ _ => .bad 164⟩
def run (G : Cfg) : Nat → Self
  | 0 => fun _ _ _ _ => .bad 170
  | n + 1 => fun r tr h k => Ref.casesOn r fun nt rnd code => Box.casesOn (cCode G nt rnd code) fun f => f (run G n) tr h k
def cfg (P : Program) (join : List Nat) (ext : List (Nat × Ext)) (sums : List (Nat × Smm)) : Cfg :=
  { P, tt := BT.ofList P.types.size P.types.toList, ft := BT.ofList P.funcs.size P.funcs.toList, join, ext, sums }
end
end Go.Ev
