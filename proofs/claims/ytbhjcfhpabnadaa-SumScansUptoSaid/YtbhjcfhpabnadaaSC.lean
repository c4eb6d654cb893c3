/-
  The walk of SumScans.
-/
import Derived.Test.YtbhjcfhpabnadaaRScan
import Derived.Test.YtbhjcfhpabnadaaQuietR
namespace Go.Proofs.Ytbhjcfhpabnadaa
open Go.RowKit Go.Shelf

attribute [local go_sem] Oper.semAt_some

def pays (b : List UInt8) : List (List UInt8) := (scanR 0 b).map (·.2)
def spots (b : List UInt8) : List Value := (scanR 0 b).map fun x => .int .i64 (x.1 : Int)

/-- What the reference's Scan leaves, as lists. -/
def RS (w : World) (b : List UInt8) (N : Nat) (e : Ending) (w' : World) : Prop :=
  ∃ O c P cp, e = .returned (.tuple #[.slice O N c, .slice P N cp]) ∧ LL w' w'.heap.size O (pays b) ∧ Rd w' w'.heap.size P (spots b) ∧ Below w.heap.size w w'
/-- What sum.Scan leaves, as lists. -/
def SS (w : World) (b : List UInt8) (N L : Nat) (e : Ending) (w' : World) : Prop :=
  ∃ O c, e = .returned (.tuple #[.slice O N c, .int .i64 L]) ∧ LL w' w'.heap.size O (pays b) ∧ Below w.heap.size w w'

theorem all_len {b : List UInt8} {els : List El} (h : AllS b els) : els.length = (scanR 0 b).length := by
  rw [← h]
  simp
theorem all_pays {b : List UInt8} {els : List El} (h : AllS b els) : els.map El.p = pays b := by
  unfold pays
  rw [← h, List.map_map]
  rfl
theorem all_spots {b : List UInt8} {els : List El} (h : AllS b els) : els.map El.kv = spots b := by
  unfold spots
  rw [← h, List.map_map]
  rfl

theorem rscan_at (b : List UInt8) (N : Nat) (hN : N = (scanR 0 b).length) (n : Nat) (hn : n = b.length) (A : Option Addr) (c : Nat) (hA : A = none → c = 0) (hc : n ≤ c) (hl : b.length ≤ 1048576) (w : World) (hr : Rd w w.heap.size A (bv b)) :
    Calls Try.prog 26 #[.slice A n c] w (RS w b N) := by
  refine (rscan_any b n hn A c hA hc hl w hr).mono ?_
  rintro e w' ⟨O, c, P, cp, els, rfl, hO, hP, hall, hels, hb⟩
  have hl2 := all_len hall
  refine ⟨O, c, P, cp, by rw [hN, ← hl2], ?_, ?_, hb⟩
  · rw [← all_pays hall]
    exact LL.of_els hO hels
  · rw [← all_spots hall]
    exact hP.rd
theorem scan_at (b : List UInt8) (N L : Nat) (hN : N = (scanR 0 b).length) (hL : L = lastK (scanR 0 b)) (n : Nat) (hn : n = b.length) (A : Option Addr) (c : Nat) (hA : A = none → c = 0) (hc : n ≤ c) (hl : b.length ≤ 1048576) (w : World) (hr : Rd w w.heap.size A (bv b)) :
    Calls Try.prog 27 #[.slice A n c] w (SS w b N L) := by
  refine (scan_any b n hn A c hA hc hl w hr).mono ?_
  rintro e w' ⟨O, c, els, rfl, hO, hall, hels, hb⟩
  have hl2 := all_len hall
  refine ⟨O, c, by rw [hN, ← hl2, hL], ?_, hb⟩
  rw [← all_pays hall]
  exact LL.of_els hO hels

/-- What lies while SumScans goes over the records: X: the world where the counter's box was laid. -/
def ScI (X : World) (most : Int) (pre : List El) (W : World) : Prop :=
  Below X.heap.size X W ∧ Boxed W X.heap.size 3 (.int .i64 pre.length) ∧ (most ≤ 0 ∨ (pre.length : Int) < most)
def ScX (X : World) (most : Int) (N : Nat) (c : Code) (_ : List El) (W : World) : Prop :=
  c = .exit 0 ∧ Below X.heap.size X W ∧ Boxed W X.heap.size 3 (.int .i64 most) ∧ 0 < most ∧ most ≤ N
def ScJ (X : World) (pre : List El) (W : World) : Prop :=
  Below X.heap.size X W ∧ Boxed W X.heap.size 3 (.int .i64 pre.length) ∧ W.heap[X.heap.size + 1]? = some (.deferred (some []))
def ScF (most : Int) (N : Nat) (v : Int) : Prop := (v = N ∧ (most ≤ 0 ∨ (N : Int) < most)) ∨ (v = most ∧ 0 < most ∧ most ≤ N)

theorem ScI.sm {X W W' : World} {most : Int} {pre : List El} {B : Nat} (h : ScI X most pre W) (hs : Sm B W W') (hB : X.heap.size ≤ B) : ScI X most pre W' :=
  ⟨hs.below h.1 hB h.1.size, hs.boxed h.2.1, h.2.2⟩
theorem ScX.sm {X W W' : World} {most : Int} {N : Nat} {c : Code} {pre : List El} {B : Nat} (h : ScX X most N c pre W) (hs : Sm B W W') (hB : X.heap.size ≤ B) : ScX X most N c pre W' :=
  ⟨h.1, hs.below h.2.1 hB h.2.1.size, hs.boxed h.2.2.1, h.2.2.2⟩
theorem ScJ.sm {X W W' : World} {pre : List El} {B : Nat} (h : ScJ X pre W) (hs : Sm B W W') (hB : X.heap.size + 1 < B) : ScJ X pre W' :=
  ⟨hs.below h.1 (by omega) h.1.size, hs.boxed h.2.1, hs.same _ _ h.2.2 (.inl hB)⟩

theorem rPost_exit {α : Type} {B : Nat} {M : Nat → Prop} {I : List α → World → Prop} {Ix : Code → List α → World → Prop} {xs : List α} {W W' : World} {a : Act} {id : Nat} (h : Kp (fun k => k = B ∨ k = B + 1) W W') (hi : Ix (.exit id) xs W') : rPost B M I Ix xs W (.exit id) a W' := ⟨h, hi⟩

/-- A draw, then a store into the counter's box. -/
theorem count_step {X W : World} {nq b : Nat} {u v : Value} {t : TypeId} (hb : b = X.heap.size) (h1 : Below X.heap.size X W) (h2 : Boxed W X.heap.size t u) :
    Below X.heap.size X ((W.drewN nq).setCell ⟨b, 0, none⟩ v) ∧ Boxed ((W.drewN nq).setCell ⟨b, 0, none⟩ v) X.heap.size t v := by
  subst hb
  have h3 : Boxed (W.drewN nq) X.heap.size t u := h2
  exact ⟨(below_drewN h1 nq).setCell (p := ⟨X.heap.size, 0, none⟩) (Nat.le_refl _) _, Boxed.set v h3⟩

theorem lentN (xs : List UInt8) (n : Nat) (hn : n = xs.length) (A : Option Addr) (c B : Nat) (w : World) (hx : Rd w B A (bv xs)) (hl : n ≤ 1048576) :
    Calls Try.prog 17 #[.slice A n c] w fun e w' => ∃ g cap, e = .returned (.slice (some ⟨g, 0, none⟩) n cap) ∧ Copy w' w.heap.size g cap xs ∧ n ≤ cap ∧ Below w.heap.size w w' := by
  refine (lent_at xs n hn A c B w hx (by omega)).mono ?_
  rintro e w' ⟨g, cap, rfl, hc, hb⟩
  exact ⟨g, cap, by rw [hn], hc, by have := hc.1; omega, hb⟩

theorem box2 (w : World) (t t' : TypeId) (v v' : Value) :
    Below w.heap.size w ((w.alloc (.cells #[v] t)).alloc (.cells #[v'] t')) ∧ Boxed ((w.alloc (.cells #[v] t)).alloc (.cells #[v'] t')) w.heap.size t v ∧ Boxed ((w.alloc (.cells #[v] t)).alloc (.cells #[v'] t')) (w.heap.size + 1) t' v' := by
  have b2 := Boxed.new (w.alloc (.cells #[v] t)) t' v'
  rw [World.size_alloc] at b2
  exact ⟨((Below.refl _ w).alloc (Nat.le_refl _) _).alloc (by simp) _, (Boxed.new w t v).alloc _, b2⟩

theorem spot_last {b : List UInt8} {N m L : Nat} (hN : N = (scanR 0 b).length) (hm : N = m + 1) (hL : L = lastK (scanR 0 b)) {w : World} {B : Nat} {P : Option Addr} (h : Rd w B P (spots b)) : ∃ a, P = some a ∧ w.cell? (a.add m) = some (.int .i64 L) := by
  have hlt : m < (scanR 0 b).length := by omega
  obtain ⟨a, ha, _, hc⟩ := h m (.int .i64 (scanR 0 b)[m].1) (by simp [spots, hlt])
  refine ⟨a, ha, ?_⟩
  rw [hc, hL]
  unfold lastK
  rw [List.getLast?_eq_getElem?, show (scanR 0 b).length - 1 = m by omega, List.getElem?_eq_getElem hlt]
  rfl

theorem count_kp {X : World} (W : World) (nq b3 : Nat) (v : Value) (hb : X.heap.size = b3 + 1) : Kp (fun k => KeptM X.heap.size b3 k ∨ k = X.heap.size + 1 ∨ k = X.heap.size + 1 + 1) W ((W.drewN nq).setCell ⟨b3 + 1, 0, none⟩ v) := by
  refine ((Kp.refl _ W).drewN nq).setCell (p := ⟨b3 + 1, 0, none⟩) ?_ _
  unfold KeptM
  simp only
  omega

theorem count_kp2 {X : World} (W : World) (nq b3 B : Nat) (v : Value) (hb : X.heap.size = b3 + 1) (hB : X.heap.size + 1 < B) : Kp (fun k => KeptM X.heap.size b3 k ∨ k = B ∨ k = B + 1) W ((W.drewN nq).setCell ⟨b3 + 1, 0, none⟩ v) := by
  refine ((Kp.refl _ W).drewN nq).setCell (p := ⟨b3 + 1, 0, none⟩) ?_ _
  unfold KeptM
  simp only
  omega

theorem range_cut {P : Program} {F : Fence} {nn : Nat} {c : Code} {Q : Exit → Act → World → Prop} {a : Act} {w : World} (D : Nat) (C : World → Prop) (key : ∀ W, C W → Q .normal { a with defers := { target := .collected D, args := #[] } :: a.defers } W)
    (h : (∀ W, C W → Q .normal { a with defers := { target := .collected D, args := #[] } :: a.defers } W) → c.wpIn F nn P Q a w) : c.wpIn F nn P Q a w := h key

theorem rec_at {b : List UInt8} {pre : List El} {x : El} {W1 W2 : World} (h : RecR b pre x W1 W2) : pre.length < (scanR 0 b).length ∧ (scanR 0 b)[pre.length]? = some (x.k, x.p) := by
  obtain ⟨_, rest, hr⟩ := h
  have h2 : (scanR 0 b)[pre.length]? = some (x.k, x.p) := by
    rw [hr, List.getElem?_append_right (by simp)]
    simp [El.g]
  exact ⟨(List.getElem?_eq_some_iff.1 h2).1, h2⟩

/-- What stands of a record of the reference's where sum.Each hands one over. -/
theorem want_at {b : List UInt8} {pre : List El} {x : El} {W1 W2 X W : World} {B k : Nat} {O P : Option Addr} (h : RecR b pre x W1 W2) (hk : k = pre.length) (hO : LL X B O (pays b)) (hP : Rd X B P (spots b)) (hb : Below B X W) :
    ∃ a S c a', O = some a ∧ P = some a' ∧ W.cell? (a.add k) = some (.slice S x.p.length c) ∧ Rd W B S (bv x.p) ∧ W.cell? (a'.add k) = some (.int .i64 x.k) := by
  subst hk
  obtain ⟨hlt, he⟩ := rec_at h
  have hp : (pays b)[pre.length]'(by simpa [pays] using hlt) = x.p := by
    simp only [pays, List.getElem_map]
    rw [List.getElem?_eq_getElem hlt] at he
    rw [Option.some.inj he]
  obtain ⟨a, S, c, hOa, hc, hr⟩ := (hO.below hb).get (j := pre.length) (by simpa [pays] using hlt)
  rw [hp] at hc hr
  obtain ⟨a', hPa, _, hc'⟩ := (hP.below hb) pre.length (.int .i64 x.k) (by simp [spots, he])
  exact ⟨a, S, c, a', hOa, hPa, hc, hr, hc'⟩

theorem each_nil (k : Nat) (w : World) : (binOp BinOp.eql 42 (.func (.func 58) #[] #[.pointer (some ⟨k, 0, none⟩)]) .nilFunc).run Try.prog w = .ok (.bool false) w := by kernel_rfl

theorem Copy.bel {w w' : World} {base g cap : Nat} {xs : List UInt8} (h : Copy w base g cap xs) (hb : Below w.heap.size w w') : Copy w' base g cap xs := ⟨h.1, h.2.below hb (Nat.le_refl _)⟩

set_option maxRecDepth 100000 in
set_option maxHeartbeats 4000000 in
theorem scans_none (b : List UInt8) (most : Int) (A : Option Addr) (c : Nat) (hA : A = none → c = 0) (hc : b.length ≤ c) (hl : b.length ≤ 1048576) (w : World) (hr : Rd w w.heap.size A (bv b))  (hN : 0 = (scanR 0 b).length) (hL : 0 = lastK (scanR 0 b)) :
    Calls Try.prog 5 #[.slice A b.length c, .int .i64 most] w fun e w' => e = .returned (.bool true) ∧ Below w.heap.size w w' := by
  obtain ⟨n, hn⟩ : ∃ n, n = b.length := ⟨_, rfl⟩
  have HR := Lib.hid (fun (w1 : World) (hb : Below w.heap.size w w1) => rscan_at b (0) hN n hn A c hA (by omega) hl w1 ((hr.below hb).more hb.size))
  have HS := Lib.hid (scan_at b (0) (0) hN hL n hn)
  have HL := Lib.hid (fun (w1 : World) (hb : Below w.heap.size w w1) => lentN b n hn A c w.heap.size w1 (hr.below hb) (by omega))
  have HLS := Lib.hid (fun (A A' : Option Addr) (c c' B : Nat) (w : World) (h1 : LL w B A (pays b)) (h2 : LL w B A' (pays b)) => lists_eq (pays b) (0) (0) (by rw [hN]; simp [pays]) (by rw [hN]; simp [pays]) (by have := scanR_len _ 0 b (Nat.le_refl _); simp [pays]; omega) A A' c c' B w h1 h2)
  rw [← hn] at hc ⊢
  have HN := Lib.hid hN
  have HLL := Lib.hid hL
  have Hn := Lib.hid hn
  have hl2 : n ≤ 1048576 := by omega
  have hfn := each_nil
  clear hN hL hn
  refine (callsIn_wide (n := 4)).1 ?_
  refine callsIn_of_wp_marks Try.func5 rfl trivial ?_ rfl
  simp only [Try.ntmps5, List.size_toArray, List.length_cons, List.length_nil, Nat.reduceAdd, Nat.reduceSub, Array.replicate_succ, Array.replicate_zero, List.push_toArray, List.append_toArray, List.nil_append, List.cons_append]
  gi_wp2_with (first
    | (refine ⟨trivial, ?_⟩; gi_at_call 17; (refine (callsIn_wide.2 (HL.out _ (((Below.refl w.heap.size w).alloc (Nat.le_refl _) _).alloc (by simp) _))).mono ?_); rintro e w1 ⟨g, cap, rfl, hcp, hcap, b1⟩;
       have d1 : Below w.heap.size w w1 := (((Below.refl w.heap.size w).alloc (Nat.le_refl _) _).alloc (by simp) _).trans (b1.mono (by simp; omega)))
    | (refine ⟨trivial, ?_⟩; gi_at_call 26; (refine (callsIn_wide.2 (HR.out w1 d1)).mono ?_); rintro e w2 ⟨O, co, P, cp, rfl, hO, hP, b2⟩; have hc2 := hcp.bel b2)
    | (refine ⟨trivial, ?_⟩; gi_at_call 27; have hbx := box2 w2 35 36 (.slice O (0) co) (.slice P (0) cp); (refine (callsIn_wide.2 (HS.out _ cap (fun h => by cases h) hcap hl _ ((hc2.bel hbx.1).rd))).mono ?_); rintro e w3 ⟨O2, c2, rfl, hO2, b3⟩;
       have bW := Boxed.low hbx.2.1 b3; have bP := Boxed.low hbx.2.2 b3; have hO3 := hO.below (hbx.1.trans (b3.mono hbx.1.size)); have hP3 := hP.below (hbx.1.trans (b3.mono hbx.1.size)); have hc3 := (hc2.bel hbx.1).bel b3)
    | (refine ⟨trivial, ?_⟩; gi_at_call 28; (refine (callsIn_wide.2 (each_any (some ⟨g, 0, none⟩) n cap w3)).mono ?_); rintro e w4 ⟨rfl, rfl⟩; have cW4 := (Boxed.alloc bW (.cells #[.slice (some ⟨g, 0, none⟩) n cap] 22)).cell; have cP4 := (Boxed.alloc bP (.cells #[.slice (some ⟨g, 0, none⟩) n cap] 22)).cell)
    | (refine ⟨trivial, ?_⟩; gi_at_call 29; have b5 := (Below.refl w3.heap.size w3).alloc (Nat.le_refl _) (.cells #[.slice (some ⟨g, 0, none⟩) n cap] 22); (refine (callsIn_wide.2 (HLS.out O2 O c2 co w3.heap.size _ (hO2.below b5) ((hO3.more (Nat.le_trans hbx.1.size b3.size)).below b5))).mono ?_); rintro e w5 ⟨rfl, q, rfl⟩)
    | fail)
  obtain ⟨X, hX⟩ : ∃ X, X = ((w3.alloc (.cells #[.slice (some ⟨g, 0, none⟩) n cap] 22)).drewN q) := ⟨_, rfl⟩
  have hXs : X.heap.size = w3.heap.size + 1 := by rw [hX]; simp
  have b3X : Below w3.heap.size w3 X := by rw [hX]; exact below_drewN ((Below.refl _ _).alloc (Nat.le_refl _) _) _
  have xE : Boxed X w3.heap.size 22 (.slice (some ⟨g, 0, none⟩) n cap) := by rw [hX]; exact Boxed.new w3 _ _
  have b2X : Below w2.heap.size w2 X := (hbx.1.trans (b3.mono hbx.1.size)).trans (b3X.mono (Nat.le_trans hbx.1.size b3.size))
  have b1X : Below w1.heap.size w1 X := b2.trans (b2X.mono b2.size)
  have bX : Below w.heap.size w X := d1.trans (b1X.mono d1.size)
  have xW := Boxed.low bW b3X
  have xP := Boxed.low bP b3X
  have hm0 := (Boxed.new w 3 (.int .i64 most)).alloc (.cells #[.bool false] 4)
  have hr0 := Boxed.new (w.alloc (.cells #[.int .i64 most] 3)) 4 (.bool false)
  rw [World.size_alloc] at hr0
  have xM := Boxed.low (Boxed.low hm0 b1) b1X
  have xR := Boxed.low (Boxed.low hr0 b1) b1X
  have xO : LL X X.heap.size O (pays b) := (hO3.below (b3X.mono (Nat.le_trans hbx.1.size b3.size))).more (Nat.le_trans (Nat.le_trans hbx.1.size b3.size) b3X.size)
  have xPl : Rd X X.heap.size _ (spots b) := (hP3.below (b3X.mono (Nat.le_trans hbx.1.size b3.size))).more (Nat.le_trans (Nat.le_trans hbx.1.size b3.size) b3X.size)
  have xC := hc3.bel b3X
  have xS1 : w.heap.size + 1 < X.heap.size := xR.lt
  have xS2 : w2.heap.size + 1 < X.heap.size := xP.lt
  have HXr := Lib.hid (hr.below bX)
  rw [← hX]
  have HXs := Lib.hid hXs
  clear hXs
  clear hX hbx bW bP hO3 hP3 hc3 hO2 hc2 hcp cW4 cP4 hO hP hm0 hr0 b1 b2 b3 d1 b1X b2X b3X hr HR HS HL HLS
  refine range_cut (X.alloc (.cells #[.int .i64 0] 3)).heap.size (fun W => Below X.heap.size X W ∧ (∃ v : Int, Boxed W X.heap.size 3 (.int .i64 v) ∧ ScF most (0) v) ∧ W.heap[(X.alloc (.cells #[.int .i64 0] 3)).heap.size]? = some (.deferred (some []))) ?key ?loop
  case loop =>
    intro key
    refine wp_range2 (gf := 58) (lb := #[.pointer (some ⟨w3.heap.size, 0, none⟩)]) rfl (enters_of Try.func58 (by kernel_rfl) rfl) (encs := fun x : El => #[.int .i64 (x.k : Int), .slice x.A x.p.length x.c]) (M := KeptM X.heap.size w3.heap.size) (T := StepT) (R := RecR b) (S := AllS b)
      (fun W hbW _ => by
        have hZW : Below X.heap.size X W := ((Below.refl _ X).alloc (Nat.le_refl _) _).trans (hbW.mono (by simp))
        exact each1_any b n Hn.out (some ⟨g, 0, none⟩) cap X.heap.size w3.heap.size (fun h => by cases h) hcap hl W (xC.rd.below hZW) hZW.size (Boxed.low xE hZW))
      (by have := HXs.out; unfold KeptM; simp; omega) (fun W1 W2 k o ht _ ho => (ht.block k (Array.getElem?_eq_some_iff.1 ho).1).trans ho) (fun pre x W1 W2 W3 ⟨h1, h2⟩ hs => ⟨hs.own h1, h2⟩) (fun _ => rfl)
      (ScI X most) (ScX X most (0)) (fun s W W' h hs => h.sm hs (by simp)) (fun c s W W' h hs => h.sm hs (by simp))
      ⟨(Below.refl _ X).alloc (Nat.le_refl _) _, Boxed.new X 3 _, by simp; omega⟩ ?round ?done ?stop
    case round =>
      intro l pre x W1 W2 hi ht hR h1 h2
      exact absurd (rec_at hR).1 (by rw [← HN.out]; omega)
    case done =>
      intro xs W1 W2 W hS hi ht hs hD
      obtain ⟨hXW, hcnt, hmost⟩ := hi.sm ((Sm.of_below ht).trans hs) (by simp)
      have hxl : xs.length = 0 := by rw [HN.out]; exact all_len hS
      rw [hxl] at hcnt hmost
      exact key W ⟨hXW, ⟨_, hcnt, .inl ⟨rfl, hmost⟩⟩, hD⟩
    case stop =>
      rintro c pre W ⟨rfl, hXW, hcnt, h0, h1⟩ hD
      exact wpIn_exit (key W ⟨hXW, ⟨_, hcnt, .inr ⟨rfl, h0, h1⟩⟩, hD⟩)
  case key =>
    rintro W ⟨hXW, ⟨v, hcnt, hf⟩, hD⟩
    have c12 := hcnt.cell
    have f12 := hcnt.frozen
    rw [HXs.out] at c12 f12
    have cW := (Boxed.low xW hXW).cell
    have cP := (Boxed.low xP hXW).cell
    have cM := (Boxed.low xM hXW).cell
    have cR := (Boxed.low xR hXW).cell
    have fR := (Boxed.low xR hXW).frozen
    have HF : v = 0 ∧ most ≤ 0 ∨ v = 0 ∧ 0 < most := by
      unfold ScF at hf
      omega
    clear hf
    rcases HF with ⟨rfl, h1⟩ | ⟨rfl, h1⟩
    all_goals
      gi_wp2
    all_goals
      obtain ⟨Y, hY⟩ : ∃ Y, Y = W.setCell ⟨w3.heap.size + 1, 0, none⟩ (.int .i64 0) := ⟨_, rfl⟩
      obtain ⟨hXY, hcY⟩ := count_step (nq := 0) (v := .int .i64 0) HXs.out.symm hXW hcnt
      rw [show (W.drewN 0).setCell ⟨w3.heap.size + 1, 0, none⟩ (.int .i64 0) = Y from hY.symm] at hXY hcY
      have hDY : Y.heap[X.heap.size + 1]? = some (.deferred (some [])) := by
        rw [hY, Below.heap_setCell _ _ _ _ (by have := HXs.out; simp only; omega)]
        simpa using hD
      have hYl : X.heap.size + 1 < Y.heap.size := (Array.getElem?_eq_some_iff.1 hDY).1
      rw [← hY]
      clear hY hD hcnt hXW c12 f12 cW cP cM cR fR
      refine wp_range2 (gf := 58) (lb := #[.pointer (some ⟨w3.heap.size, 0, none⟩)]) rfl (enters_of Try.func58 (by kernel_rfl) rfl) (encs := fun x : El => #[.int .i64 (x.k : Int), .slice x.A x.p.length x.c]) (M := KeptM X.heap.size w3.heap.size) (T := StepT) (R := RecR b) (S := AllS b)
        (fun V hbV _ => by
          have hXV : Below X.heap.size X V := hXY.trans (hbV.mono hXY.size)
          exact each1_any b n Hn.out (some ⟨g, 0, none⟩) cap X.heap.size w3.heap.size (fun h => by cases h) hcap hl V (xC.rd.below hXV) hXV.size (Boxed.low xE hXV))
        (by have := HXs.out; unfold KeptM; omega) (fun W1 W2 k o ht _ ho => (ht.block k (Array.getElem?_eq_some_iff.1 ho).1).trans ho) (fun pre x W1 W2 W3 ⟨h1, h2⟩ hs => ⟨hs.own h1, h2⟩) (fun _ => rfl)
        (ScJ X) (fun _ _ _ => False) (fun s W W' h hs => h.sm hs hYl) (fun _ _ _ _ h _ => h)
        ⟨hXY, hcY, hDY⟩ ?round2 ?done2 ?stop2
      case round2 =>
        intro l pre x W1 W2 hi ht hR h1 h2
        exact absurd (rec_at hR).1 (by rw [← HN.out]; omega)

      case stop2 =>
        intro c pre W h _
        exact h.elim
      case done2 =>
        intro xs W1 W2 W hS hi ht hs hD2
        obtain ⟨hXW, hcnt, hD1⟩ := hi.sm ((Sm.of_below ht).trans hs) hYl
        have hxl : xs.length = 0 := by rw [HN.out]; exact all_len hS
        rw [hxl] at hcnt
        have c12 := hcnt.cell
        rw [HXs.out] at c12
        have cW := (Boxed.low xW hXW).cell
        have bR := Boxed.low xR hXW
        have cR := bR.cell
        have fR := bR.frozen
        have HK := Lib.hid (kept_at b n n Hn.out Hn.out A g cap c _ w.heap.size W (xC.bel hXW) (HXr.out.below (hXW.mono bX.size)) (by omega))
        clear hxl hcnt
        have HD1 := Lib.hid hD1
        have HD2 := Lib.hid hD2
        clear hD1 hD2
        gi_wp2_with (first
          | (refine ⟨trivial, ?_⟩; gi_at_call 20; (refine (callsIn_wide.2 HK.out).mono ?_); rintro e w9 ⟨rfl, rfl⟩)
          | fail)
        have bR' := Boxed.set (.bool true) bR
        have hA1 : (W.setCell ⟨w.heap.size + 1, 0, none⟩ (.bool true)).heap[Y.heap.size]? = some (.deferred (some [])) := (Below.heap_setCell _ _ _ _ (by simp only; omega)).trans HD2.out
        have hB1 : (W.setCell ⟨w.heap.size + 1, 0, none⟩ (.bool true)).heap[X.heap.size + 1]? = some (.deferred (some [])) := (Below.heap_setCell _ _ _ _ (by simp only; omega)).trans HD1.out
        have hB2 : ((W.setCell ⟨w.heap.size + 1, 0, none⟩ (.bool true)).putObj Y.heap.size (.deferred none)).heap[X.heap.size + 1]? = some (.deferred (some [])) := (World.putObj_heap_other (by omega)).trans hB1
        have sm : Sm w.heap.size (W.setCell ⟨w.heap.size + 1, 0, none⟩ (.bool true)) (((W.setCell ⟨w.heap.size + 1, 0, none⟩ (.bool true)).putObj Y.heap.size (.deferred none)).putObj (X.heap.size + 1) (.deferred none)) := (Sm.put hA1 rfl (by omega) _).trans (.put hB2 rfl (by omega) _)
        have hc5 := (sm.boxed bR').cell
        have hbel : Below w.heap.size w (W.setCell ⟨w.heap.size + 1, 0, none⟩ (.bool true)) := (bX.trans (hXW.mono bX.size)).setCell (p := ⟨w.heap.size + 1, 0, none⟩) (by simp) _
        refine ⟨by simp, .inl ⟨_, _, rfl, run_takeDeferred hA1, ⟨by simp, .inl ⟨_, _, rfl, run_takeDeferred hB2, ?_⟩⟩⟩⟩
        exact ⟨.bool true, by simp [results, Try.f5, go_sem, hc5], rfl, sm.below hbel (Nat.le_refl _) hbel.size⟩

set_option maxRecDepth 100000 in
set_option maxHeartbeats 4000000 in
theorem scans_more (b : List UInt8) (most : Int) (A : Option Addr) (c : Nat) (hA : A = none → c = 0) (hc : b.length ≤ c) (hl : b.length ≤ 1048576) (w : World) (hr : Rd w w.heap.size A (bv b)) (N L : Nat) (hpos : 0 < N)  (hN : N = (scanR 0 b).length) (hL : L = lastK (scanR 0 b)) :
    Calls Try.prog 5 #[.slice A b.length c, .int .i64 most] w fun e w' => e = .returned (.bool true) ∧ Below w.heap.size w w' := by
  obtain ⟨n, hn⟩ : ∃ n, n = b.length := ⟨_, rfl⟩
  have HR := Lib.hid (fun (w1 : World) (hb : Below w.heap.size w w1) => rscan_at b (N) hN n hn A c hA (by omega) hl w1 ((hr.below hb).more hb.size))
  have HS := Lib.hid (scan_at b (N) (L) hN hL n hn)
  have HL := Lib.hid (fun (w1 : World) (hb : Below w.heap.size w w1) => lentN b n hn A c w.heap.size w1 (hr.below hb) (by omega))
  have HLS := Lib.hid (fun (A A' : Option Addr) (c c' B : Nat) (w : World) (h1 : LL w B A (pays b)) (h2 : LL w B A' (pays b)) => lists_eq (pays b) (N) (N) (by rw [hN]; simp [pays]) (by rw [hN]; simp [pays]) (by have := scanR_len _ 0 b (Nat.le_refl _); simp [pays]; omega) A A' c c' B w h1 h2)
  rw [← hn] at hc ⊢
  have HN := Lib.hid hN
  have HLL := Lib.hid hL
  have Hn := Lib.hid hn
  have hl2 : n ≤ 1048576 := by omega
  have hfn := each_nil
  have hNb : N ≤ 1048576 := by have := scanR_len _ 0 b (Nat.le_refl _); rw [← hN] at this; omega
  obtain ⟨m, hm⟩ : ∃ m, N = m + 1 := ⟨N - 1, by omega⟩
  have hN1 : (N : Int) - 1 = (m : Int) := by omega
  have HP := Lib.hid (fun (w1 : World) (B : Nat) (P : Option Addr) (h : Rd w1 B P (spots b)) => spot_last hN hm hL h)
  have Hm := Lib.hid hm
  clear hm
  clear hN hL hn
  refine (callsIn_wide (n := 4)).1 ?_
  refine callsIn_of_wp_marks Try.func5 rfl trivial ?_ rfl
  simp only [Try.ntmps5, List.size_toArray, List.length_cons, List.length_nil, Nat.reduceAdd, Nat.reduceSub, Array.replicate_succ, Array.replicate_zero, List.push_toArray, List.append_toArray, List.nil_append, List.cons_append]
  gi_wp2_with (first
    | (refine ⟨trivial, ?_⟩; gi_at_call 17; (refine (callsIn_wide.2 (HL.out _ (((Below.refl w.heap.size w).alloc (Nat.le_refl _) _).alloc (by simp) _))).mono ?_); rintro e w1 ⟨g, cap, rfl, hcp, hcap, b1⟩;
       have d1 : Below w.heap.size w w1 := (((Below.refl w.heap.size w).alloc (Nat.le_refl _) _).alloc (by simp) _).trans (b1.mono (by simp; omega)))
    | (refine ⟨trivial, ?_⟩; gi_at_call 26; (refine (callsIn_wide.2 (HR.out w1 d1)).mono ?_); rintro e w2 ⟨O, co, P, cp, rfl, hO, hP, b2⟩; have hc2 := hcp.bel b2; obtain ⟨ap, rfl, hlastc⟩ := HP.out _ w2.heap.size P (hP.below (box2 w2 35 36 (.slice O N co) (.slice P N cp)).1))
    | (refine ⟨trivial, ?_⟩; gi_at_call 27; have hbx := box2 w2 35 36 (.slice O (N) co) (.slice (some ap) (N) cp); (refine (callsIn_wide.2 (HS.out _ cap (fun h => by cases h) hcap hl _ ((hc2.bel hbx.1).rd))).mono ?_); rintro e w3 ⟨O2, c2, rfl, hO2, b3⟩;
       have bW := Boxed.low hbx.2.1 b3; have bP := Boxed.low hbx.2.2 b3; have hO3 := hO.below (hbx.1.trans (b3.mono hbx.1.size)); have hP3 := hP.below (hbx.1.trans (b3.mono hbx.1.size)); have hc3 := (hc2.bel hbx.1).bel b3)
    | (refine ⟨trivial, ?_⟩; gi_at_call 28; (refine (callsIn_wide.2 (each_any (some ⟨g, 0, none⟩) n cap w3)).mono ?_); rintro e w4 ⟨rfl, rfl⟩; have cW4 := (Boxed.alloc bW (.cells #[.slice (some ⟨g, 0, none⟩) n cap] 22)).cell; have cP4 := (Boxed.alloc bP (.cells #[.slice (some ⟨g, 0, none⟩) n cap] 22)).cell)
    | (refine ⟨trivial, ?_⟩; gi_at_call 29; have b5 := (Below.refl w3.heap.size w3).alloc (Nat.le_refl _) (.cells #[.slice (some ⟨g, 0, none⟩) n cap] 22); (refine (callsIn_wide.2 (HLS.out O2 O c2 co w3.heap.size _ (hO2.below b5) ((hO3.more (Nat.le_trans hbx.1.size b3.size)).below b5))).mono ?_); rintro e w5 ⟨rfl, q, rfl⟩)
    | fail)
  obtain ⟨X, hX⟩ : ∃ X, X = ((w3.alloc (.cells #[.slice (some ⟨g, 0, none⟩) n cap] 22)).drewN q) := ⟨_, rfl⟩
  have hXs : X.heap.size = w3.heap.size + 1 := by rw [hX]; simp
  have b3X : Below w3.heap.size w3 X := by rw [hX]; exact below_drewN ((Below.refl _ _).alloc (Nat.le_refl _) _) _
  have xE : Boxed X w3.heap.size 22 (.slice (some ⟨g, 0, none⟩) n cap) := by rw [hX]; exact Boxed.new w3 _ _
  have b2X : Below w2.heap.size w2 X := (hbx.1.trans (b3.mono hbx.1.size)).trans (b3X.mono (Nat.le_trans hbx.1.size b3.size))
  have b1X : Below w1.heap.size w1 X := b2.trans (b2X.mono b2.size)
  have bX : Below w.heap.size w X := d1.trans (b1X.mono d1.size)
  have xW := Boxed.low bW b3X
  have xP := Boxed.low bP b3X
  have hm0 := (Boxed.new w 3 (.int .i64 most)).alloc (.cells #[.bool false] 4)
  have hr0 := Boxed.new (w.alloc (.cells #[.int .i64 most] 3)) 4 (.bool false)
  rw [World.size_alloc] at hr0
  have xM := Boxed.low (Boxed.low hm0 b1) b1X
  have xR := Boxed.low (Boxed.low hr0 b1) b1X
  have xO : LL X X.heap.size O (pays b) := (hO3.below (b3X.mono (Nat.le_trans hbx.1.size b3.size))).more (Nat.le_trans (Nat.le_trans hbx.1.size b3.size) b3X.size)
  have xPl : Rd X X.heap.size _ (spots b) := (hP3.below (b3X.mono (Nat.le_trans hbx.1.size b3.size))).more (Nat.le_trans (Nat.le_trans hbx.1.size b3.size) b3X.size)
  have xC := hc3.bel b3X
  have xS1 : w.heap.size + 1 < X.heap.size := xR.lt
  have xS2 : w2.heap.size + 1 < X.heap.size := xP.lt
  have HXr := Lib.hid (hr.below bX)
  rw [← hX]
  have HXs := Lib.hid hXs
  clear hXs
  clear hX hbx bW bP hO3 hP3 hc3 hO2 hc2 hcp cW4 cP4 hO hP hm0 hr0 b1 b2 b3 d1 b1X b2X b3X hr HR HS HL HLS
  refine range_cut (X.alloc (.cells #[.int .i64 0] 3)).heap.size (fun W => Below X.heap.size X W ∧ (∃ v : Int, Boxed W X.heap.size 3 (.int .i64 v) ∧ ScF most (N) v) ∧ W.heap[(X.alloc (.cells #[.int .i64 0] 3)).heap.size]? = some (.deferred (some []))) ?key ?loop
  case loop =>
    intro key
    refine wp_range2 (gf := 58) (lb := #[.pointer (some ⟨w3.heap.size, 0, none⟩)]) rfl (enters_of Try.func58 (by kernel_rfl) rfl) (encs := fun x : El => #[.int .i64 (x.k : Int), .slice x.A x.p.length x.c]) (M := KeptM X.heap.size w3.heap.size) (T := StepT) (R := RecR b) (S := AllS b)
      (fun W hbW _ => by
        have hZW : Below X.heap.size X W := ((Below.refl _ X).alloc (Nat.le_refl _) _).trans (hbW.mono (by simp))
        exact each1_any b n Hn.out (some ⟨g, 0, none⟩) cap X.heap.size w3.heap.size (fun h => by cases h) hcap hl W (xC.rd.below hZW) hZW.size (Boxed.low xE hZW))
      (by have := HXs.out; unfold KeptM; simp; omega) (fun W1 W2 k o ht _ ho => (ht.block k (Array.getElem?_eq_some_iff.1 ho).1).trans ho) (fun pre x W1 W2 W3 ⟨h1, h2⟩ hs => ⟨hs.own h1, h2⟩) (fun _ => rfl)
      (ScI X most) (ScX X most (N)) (fun s W W' h hs => h.sm hs (by simp)) (fun c s W W' h hs => h.sm hs (by simp))
      ⟨(Below.refl _ X).alloc (Nat.le_refl _) _, Boxed.new X 3 _, by simp; omega⟩ ?round ?done ?stop
    case round =>
      intro l pre x W1 W2 hi ht hR h1 h2
      gi_wp2
      intro W hs hRW hW
      obtain ⟨hXW, hcnt, hmost⟩ := hi.sm ((Sm.of_below ht).trans hs) (Nat.le_succ _)
      obtain ⟨k, hk⟩ : ∃ k, k = pre.length := ⟨_, rfl⟩
      have hkN : k < N := by rw [HN.out, hk]; exact (rec_at hRW).1
      obtain ⟨a, S, cc, a', rfl, hPe, hcw, hrw, hcp⟩ := want_at hRW hk xO xPl hXW
      obtain rfl := Option.some.inj hPe
      have c12 := hcnt.cell
      have f12 := hcnt.frozen
      rw [← hk] at c12 hmost hcnt
      rw [HXs.out] at c12 f12
      have cW := (Boxed.low xW hXW).cell
      have cP := (Boxed.low xP hXW).cell
      have cM := (Boxed.low xM hXW).cell
      have cv1 := fun m => conv_any (w := W.drewN m) hRW.1.rd x.p.length rfl x.c
      have cv2 := fun m => conv_any (w := W.drewN m) hrw x.p.length rfl cc
      have hge : decide (N ≤ k) = false := by simp; omega
      have HR := Lib.hid hRW
      have Hk := Lib.hid hk
      clear hRW hrw hk
      have hlast : (k : Int) + 1 ≤ 1048576 := by omega
      have hne1 : ¬ w.heap.size = w3.heap.size + 1 := by have := HXs.out; omega
      have hne2 : ¬ w3.heap.size + 1 = w.heap.size := by have := HXs.out; omega
      have hlt1 : w.heap.size < w3.heap.size + 1 := by have := HXs.out; omega
      gi_wp2
      refine wpIn_region_quiet_round (by rfl) (by kernel_rfl) (by kernel_rfl) ?_
      repeat (gi_big_quiet_step (fail))
      refine wpQuietIn_nil ?_
      intro _ hw'
      obtain ⟨nq, hw''⟩ := hw'
      subst hw''
      clear cv1 cv2
      have HB := Lib.hid (fun (v : Value) => count_step (nq := nq) (v := v) (b := w3.heap.size + 1) HXs.out.symm hXW hcnt)
      have HK0 := Lib.hid (fun (v : Value) => count_kp W nq w3.heap.size v HXs.out)
      by_cases hme : (k : Int) + 1 = most
      · have t1 : (((k : Int) + 1) == most) = true := by simpa using hme
        have hlo : 0 < most := by omega
        have hhi : most ≤ N := by omega
        have Hme := Lib.hid hme
        clear hme
        gi_wp2
        refine rPost_exit ((HK0.out _).mono fun k h => .inr h) ⟨rfl, (HB.out _).1, ?_, hlo, hhi⟩
        have := (HB.out (.int .i64 ((k : Int) + 1))).2
        rwa [Hme.out] at this ⊢
      · have t1 : (((k : Int) + 1) == most) = false := by simpa using hme
        have hcond : most ≤ 0 ∨ ((k : Int) + 1) < most := by omega
        have Hcond := Lib.hid hcond
        clear hme hcond
        gi_wp2
        have hlen : (((pre ++ [x]).length : Nat) : Int) = (k : Int) + 1 := by rw [Hk.out]; simp
        refine rPost_normal (HK0.out _) ⟨(HB.out _).1, ?_, ?_⟩
        · rw [hlen]
          exact (HB.out _).2
        · rw [hlen]
          exact Hcond.out
    case done =>
      intro xs W1 W2 W hS hi ht hs hD
      obtain ⟨hXW, hcnt, hmost⟩ := hi.sm ((Sm.of_below ht).trans hs) (by simp)
      have hxl : xs.length = N := by rw [HN.out]; exact all_len hS
      rw [hxl] at hcnt hmost
      exact key W ⟨hXW, ⟨_, hcnt, .inl ⟨rfl, hmost⟩⟩, hD⟩
    case stop =>
      rintro c pre W ⟨rfl, hXW, hcnt, h0, h1⟩ hD
      exact wpIn_exit (key W ⟨hXW, ⟨_, hcnt, .inr ⟨rfl, h0, h1⟩⟩, hD⟩)
  case key =>
    rintro W ⟨hXW, ⟨v, hcnt, hf⟩, hD⟩
    have c12 := hcnt.cell
    have f12 := hcnt.frozen
    rw [HXs.out] at c12 f12
    have cW := (Boxed.low xW hXW).cell
    have cP := (Boxed.low xP hXW).cell
    have cM := (Boxed.low xM hXW).cell
    have cR := (Boxed.low xR hXW).cell
    have fR := (Boxed.low xR hXW).frozen
    have HF : v = (N : Nat) ∧ most ≤ 0 ∨ v = (N : Nat) ∧ 0 < most ∧ ((N : Nat) : Int) < most ∨ v = most ∧ 0 < most ∧ most < (N : Nat) ∨ v = (N : Nat) ∧ 0 < most ∧ most = (N : Nat) := by
      unfold ScF at hf
      omega
    clear hf
    rcases HF with ⟨rfl, h1⟩ | ⟨rfl, h1, h2⟩ | ⟨rfl, h1, h2⟩ | ⟨rfl, h1, rfl⟩
    all_goals
      gi_wp2
    all_goals
      obtain ⟨Y, hY⟩ : ∃ Y, Y = W.setCell ⟨w3.heap.size + 1, 0, none⟩ (.int .i64 0) := ⟨_, rfl⟩
      obtain ⟨hXY, hcY⟩ := count_step (nq := 0) (v := .int .i64 0) HXs.out.symm hXW hcnt
      rw [show (W.drewN 0).setCell ⟨w3.heap.size + 1, 0, none⟩ (.int .i64 0) = Y from hY.symm] at hXY hcY
      have hDY : Y.heap[X.heap.size + 1]? = some (.deferred (some [])) := by
        rw [hY, Below.heap_setCell _ _ _ _ (by have := HXs.out; simp only; omega)]
        simpa using hD
      have hYl : X.heap.size + 1 < Y.heap.size := (Array.getElem?_eq_some_iff.1 hDY).1
      rw [← hY]
      clear hY hD hcnt hXW c12 f12 cW cP cM cR fR
      refine wp_range2 (gf := 58) (lb := #[.pointer (some ⟨w3.heap.size, 0, none⟩)]) rfl (enters_of Try.func58 (by kernel_rfl) rfl) (encs := fun x : El => #[.int .i64 (x.k : Int), .slice x.A x.p.length x.c]) (M := KeptM X.heap.size w3.heap.size) (T := StepT) (R := RecR b) (S := AllS b)
        (fun V hbV _ => by
          have hXV : Below X.heap.size X V := hXY.trans (hbV.mono hXY.size)
          exact each1_any b n Hn.out (some ⟨g, 0, none⟩) cap X.heap.size w3.heap.size (fun h => by cases h) hcap hl V (xC.rd.below hXV) hXV.size (Boxed.low xE hXV))
        (by have := HXs.out; unfold KeptM; omega) (fun W1 W2 k o ht _ ho => (ht.block k (Array.getElem?_eq_some_iff.1 ho).1).trans ho) (fun pre x W1 W2 W3 ⟨h1, h2⟩ hs => ⟨hs.own h1, h2⟩) (fun _ => rfl)
        (ScJ X) (fun _ _ _ => False) (fun s W W' h hs => h.sm hs hYl) (fun _ _ _ _ h _ => h)
        ⟨hXY, hcY, hDY⟩ ?round2 ?done2 ?stop2
      case round2 =>
        intro l pre x W1 W2 hi ht hR h1 h2
        gi_wp2
        refine ⟨trivial, ?_⟩
        intro W hs hRW hW
        obtain ⟨hXW, hcnt, hdef⟩ := hi.sm ((Sm.of_below ht).trans hs) hYl
        obtain ⟨k, hk⟩ : ∃ k, k = pre.length := ⟨_, rfl⟩
        have hkN : k < N := by rw [HN.out, hk]; exact (rec_at hRW).1
        obtain ⟨a, S, cc, a', rfl, hPe, hcw, hrw, hcp⟩ := want_at hRW hk xO xPl hXW
        obtain rfl := Option.some.inj hPe
        have c12 := hcnt.cell
        have f12 := hcnt.frozen
        rw [← hk] at c12 hcnt
        rw [HXs.out] at c12 f12
        have cW := (Boxed.low xW hXW).cell
        have cP := (Boxed.low xP hXW).cell
        have cv1 := fun m => conv_any (w := W.drewN m) hRW.1.rd x.p.length rfl x.c
        have cv2 := fun m => conv_any (w := W.drewN m) hrw x.p.length rfl cc
        have hge : decide (N ≤ k) = false := by simp; omega
        have HR := Lib.hid hRW
        have Hk := Lib.hid hk
        clear hRW hrw hk
        have hlast : (k : Int) + 1 ≤ 1048576 := by omega
        have hne1 : ¬ w.heap.size = w3.heap.size + 1 := by have := HXs.out; omega
        have hne2 : ¬ w3.heap.size + 1 = w.heap.size := by have := HXs.out; omega
        have hlt1 : w.heap.size < w3.heap.size + 1 := by have := HXs.out; omega
        gi_wp2
        refine wpIn_region_quiet_round (by rfl) (by kernel_rfl) (by kernel_rfl) ?_
        repeat (gi_big_quiet_step (fail))
        refine wpQuietIn_nil ?_
        intro _ hw'
        obtain ⟨nq, hw''⟩ := hw'
        subst hw''
        clear cv1 cv2
        have HB := Lib.hid (fun (v : Value) => count_step (nq := nq) (v := v) (b := w3.heap.size + 1) HXs.out.symm hXW hcnt)
        have HK0 := Lib.hid (fun (v : Value) => count_kp2 W nq w3.heap.size Y.heap.size v HXs.out hYl)
        have HDf := Lib.hid hdef
        clear hdef
        gi_wp2
        have hlen : (((pre ++ [x]).length : Nat) : Int) = (k : Int) + 1 := by rw [Hk.out]; simp
        refine rPost_normal (HK0.out _) ⟨(HB.out _).1, ?_, ?_⟩
        · rw [hlen]
          exact (HB.out _).2
        · rw [show ((W.drewN nq).setCell ⟨w3.heap.size + 1, 0, none⟩ (.int .i64 ((k : Int) + 1))).heap[X.heap.size + 1]? = (W.drewN nq).heap[X.heap.size + 1]? from Below.heap_setCell _ _ _ _ (by have := HXs.out; simp only; omega)]
          exact HDf.out

      case stop2 =>
        intro c pre W h _
        exact h.elim
      case done2 =>
        intro xs W1 W2 W hS hi ht hs hD2
        obtain ⟨hXW, hcnt, hD1⟩ := hi.sm ((Sm.of_below ht).trans hs) hYl
        have hxl : xs.length = N := by rw [HN.out]; exact all_len hS
        rw [hxl] at hcnt
        have c12 := hcnt.cell
        rw [HXs.out] at c12
        have cW := (Boxed.low xW hXW).cell
        have bR := Boxed.low xR hXW
        have cR := bR.cell
        have fR := bR.frozen
        have HK := Lib.hid (kept_at b n n Hn.out Hn.out A g cap c _ w.heap.size W (xC.bel hXW) (HXr.out.below (hXW.mono bX.size)) (by omega))
        clear hxl hcnt
        have HD1 := Lib.hid hD1
        have HD2 := Lib.hid hD2
        clear hD1 hD2
        gi_wp2_with (first
          | (refine ⟨trivial, ?_⟩; gi_at_call 20; (refine (callsIn_wide.2 HK.out).mono ?_); rintro e w9 ⟨rfl, rfl⟩)
          | fail)
        have bR' := Boxed.set (.bool true) bR
        have hA1 : (W.setCell ⟨w.heap.size + 1, 0, none⟩ (.bool true)).heap[Y.heap.size]? = some (.deferred (some [])) := (Below.heap_setCell _ _ _ _ (by simp only; omega)).trans HD2.out
        have hB1 : (W.setCell ⟨w.heap.size + 1, 0, none⟩ (.bool true)).heap[X.heap.size + 1]? = some (.deferred (some [])) := (Below.heap_setCell _ _ _ _ (by simp only; omega)).trans HD1.out
        have hB2 : ((W.setCell ⟨w.heap.size + 1, 0, none⟩ (.bool true)).putObj Y.heap.size (.deferred none)).heap[X.heap.size + 1]? = some (.deferred (some [])) := (World.putObj_heap_other (by omega)).trans hB1
        have sm : Sm w.heap.size (W.setCell ⟨w.heap.size + 1, 0, none⟩ (.bool true)) (((W.setCell ⟨w.heap.size + 1, 0, none⟩ (.bool true)).putObj Y.heap.size (.deferred none)).putObj (X.heap.size + 1) (.deferred none)) := (Sm.put hA1 rfl (by omega) _).trans (.put hB2 rfl (by omega) _)
        have hc5 := (sm.boxed bR').cell
        have hbel : Below w.heap.size w (W.setCell ⟨w.heap.size + 1, 0, none⟩ (.bool true)) := (bX.trans (hXW.mono bX.size)).setCell (p := ⟨w.heap.size + 1, 0, none⟩) (by simp) _
        refine ⟨by simp, .inl ⟨_, _, rfl, run_takeDeferred hA1, ⟨by simp, .inl ⟨_, _, rfl, run_takeDeferred hB2, ?_⟩⟩⟩⟩
        exact ⟨.bool true, by simp [results, Try.f5, go_sem, hc5], rfl, sm.below hbel (Nat.le_refl _) hbel.size⟩

theorem scans_any (b : List UInt8) (most : Int) (A : Option Addr) (c : Nat) (hA : A = none → c = 0) (hc : b.length ≤ c) (hl : b.length ≤ 1048576) (w : World) (hr : Rd w w.heap.size A (bv b)) :
    Calls Try.prog 5 #[.slice A b.length c, .int .i64 most] w fun e w' => e = .returned (.bool true) ∧ Below w.heap.size w w' := by
  by_cases h0 : 0 < (scanR 0 b).length
  · exact scans_more b most A c hA hc hl w hr _ _ h0 rfl rfl
  · have h1 : scanR 0 b = [] := List.eq_nil_of_length_eq_zero (by omega)
    exact scans_none b most A c hA hc hl w hr (by rw [h1]; rfl) (by rw [h1]; rfl)

end Go.Proofs.Ytbhjcfhpabnadaa
