/-
  The walk of SumOwn.
-/
import Derived.Test.YtbhjcfhpabnadaaFam
import Derived.Test.YtbhjcfhpabnadaaCut
namespace Go.Proofs.Ytbhjcfhpabnadaa
open Go.RowKit

theorem scanR_small : ∀ (f k : Nat) (b : List UInt8), b.length ≤ f → ∀ x ∈ scanR k b, x.2.length ≤ 131072 := by
  intro f
  induction f with
  | zero =>
    intro k b h x hx
    obtain rfl : b = [] := List.eq_nil_of_length_eq_zero (by omega)
    simp [scanR, scanF] at hx
  | succ f ih =>
    intro k b h x hx
    cases hn : nextS b with
    | none => rw [scanR_none hn] at hx; simp at hx
    | some p =>
      have hl := nextS_len hn
      rw [scanR_some hn] at hx
      rcases List.mem_cons.1 hx with rfl | hx
      · exact hl.1
      · exact ih _ _ (by simp; omega) x hx

/-- A row of bytes in new memory. -/
def NewB (w : World) (A : Option Addr) (n c : Nat) (xs : List UInt8) (w' : World) : Prop :=
  Own w' w.heap.size 5 1 A n c (bv xs) ∧ n = xs.length ∧ n ≤ 16777216 ∧ Below w.heap.size w w'

theorem fm_o (l : List (List UInt8)) (n : Nat) (hn : n = l.length) (A : Option Addr) (c : Nat) (w : World) (hl : LL w w.heap.size A l) (ht : totalB l ≤ 1048576) :
    Calls Try.prog 32 #[.slice A n c] w fun e w' => ∃ A M c v1 v2 b, e = .returned (.tuple #[.slice A M c, v1, v2]) ∧ NewB w A M c b w' ∧ M ≤ 8388608 := by
  refine (framed_at l (goods l) (catF (goods l)).length (goods l).length rfl rfl rfl n hn A c w hl ht).mono ?_
  rintro e w' ⟨A', c', O, co, P, cp, vs, rfl, h1, _, _, _, hb⟩
  have h2 : totalB (goods l) ≤ 1048576 := Nat.le_trans (goods_total l) ht
  have h3 := catF_bound (goods l)
  exact ⟨A', _, c', _, _, _, rfl, ⟨h1, rfl, by omega, hb⟩, by omega⟩

theorem nx_o {w0 w : World} {A : Option Addr} {M c : Nat} {b : List UInt8} (h : NewB w0 A M c b w) (hM : M ≤ 8388608) :
    Calls Try.prog 18 #[.slice A M c] w fun e w' => ∃ A' n c' v1 v2 p, e = .returned (.tuple #[.slice A' n c', v1, v2]) ∧ NewB w A' n c' p w' ∧ n ≤ 131072 := by
  obtain ⟨h1, h2, _, _⟩ := h
  refine (pnext_at b M h2 A c w.heap.size w h1.rd (Nat.le_refl _) (own_cap h1) (by omega)).mono ?_
  rintro e w' ⟨A', c', rfl, h3, hb⟩
  have := nxF_len b
  exact ⟨A', _, c', _, _, _, rfl, ⟨h3, rfl, by omega, hb⟩, this⟩

theorem fr_o {w0 w : World} {A : Option Addr} {n c : Nat} {p : List UInt8} (h : NewB w0 A n c p w) (hM : n ≤ 131072) :
    Calls Try.prog 21 #[.slice A n c] w fun e w' => ∃ A' n' c' v1 p', e = .returned (.tuple #[.slice A' n' c', v1]) ∧ NewB w A' n' c' p' w' := by
  obtain ⟨h1, h2, _, _⟩ := h
  refine (frame_at p n h2 A c w.heap.size w h1.rd (Nat.le_refl _) (by omega)).mono ?_
  rintro e w' ⟨A', c', rfl, h3, hb⟩
  refine ⟨A', _, c', _, _, rfl, h3, rfl, ?_, hb⟩
  unfold frO
  split
  · rw [frame_len]; omega
  · simp

theorem sc_o {w0 w1 w : World} {A : Option Addr} {M c : Nat} {b : List UInt8} (h : NewB w0 A M c b w1) (hM : M ≤ 8388608) (hw : Below w1.heap.size w1 w) :
    Calls Try.prog 27 #[.slice A M c] w fun e w' => ∃ O q c' v1 els, e = .returned (.tuple #[.slice O q c', v1]) ∧ Own w' w.heap.size 22 1 O q c' (els.map El.v) ∧ q = List.length (α := El) els ∧ Els w' w.heap.size els ∧ (∀ x ∈ els, x.p.length ≤ 16777216) ∧ Below w.heap.size w w' := by
  obtain ⟨h1, h2, _, _⟩ := h
  have h1 := h1.below hw (Nat.le_refl _)
  have hA : A = none → c = 0 := by
    rcases h1.form with ⟨_, _, h0⟩ | ⟨_, h0, _⟩
    · exact fun _ => h0
    · exact fun h => by rw [h0] at h; cases h
  refine (scan_any b M h2 A c hA (own_cap h1) (by omega) w h1.rd).mono ?_
  rintro e w' ⟨O, c', els, rfl, h3, h4, h5, hb⟩
  refine ⟨O, _, c', _, els, rfl, h3, rfl, h5, fun x hx => ?_, hb⟩
  have : x.g ∈ scanR 0 b := by rw [← h4]; exact List.mem_map_of_mem hx
  have := scanR_small _ 0 b (Nat.le_refl _) _ this
  have e1 : x.g.2 = x.p := rfl
  rw [e1] at this
  omega

/-- What the first loop of SumOwn has gathered. -/
def AllR (w wr : World) (N : Nat) (O : Option Addr) (co : Nat) (V : Nat → En) (X : Nat → List Value) : Prop :=
  Fam wr w.heap.size N V X ∧ Own wr w.heap.size 22 1 O N co (vals V N) ∧ Below w.heap.size w wr

def x3 (i : Nat) : Value := .int .u8 (3 * (i : Int))
def y3 (i : Nat) : Value := .int .u8 (3 * (i : Int) + 1)

def mUp (s i : Nat) : Nat := if i < s then 20 else 0
def mIn (s j i : Nat) : Nat := if i < s then 20 else if i = s then j else 0
theorem mUp_zero : mUp 0 = fun _ => 0 := by funext i; simp [mUp]
theorem mIn_zero (s : Nat) : mIn s 0 = mUp s := by funext i; unfold mIn mUp; split <;> simp
theorem mIn_at (s j : Nat) : mIn s j s = j := by simp [mIn]
theorem mIn_last (s : Nat) : mIn s 20 = mUp (s + 1) := by
  funext i
  unfold mIn mUp
  by_cases h1 : i < s
  · rw [if_pos h1, if_pos (by omega)]
  · rw [if_neg h1]
    by_cases h2 : i = s
    · rw [if_pos h2, if_pos (by omega)]
    · rw [if_neg h2, if_neg (by omega)]
theorem mIn_step (s j : Nat) : (fun i => if i = s then mIn s j s + 1 else mIn s j i) = mIn s (j + 1) := by
  funext i
  rw [mIn_at]
  by_cases h : i = s
  · subst h; simp [mIn]
  · simp [mIn, h]
theorem one_u8 (z : Int) : ∀ u ∈ (#[.int .u8 z] : Array Value).toList, u.oneCell' = true := by simp [Value.oneCell']

/-- In a round of it: what will be gathered lies. -/
def Mid (w wz : World) (K : Nat) (O : Option Addr) (co NT : Nat) (V : Nat → En) (X : Nat → List Value) (B5 : Nat) (O5 : Option Addr) (q c5 : Nat) (vs : List Value) : Prop :=
  Fam wz w.heap.size NT V X ∧ Own wz w.heap.size 22 1 O K co (vals V K) ∧ Own wz B5 22 1 O5 q c5 vs ∧ (∀ k, blk O5 = some k → blk O ≠ some k) ∧ Below w.heap.size w wz

theorem Mid.app {w wz w' : World} {K co co' NT B5 q c5 : Nat} {O O' O5 : Option Addr} {V : Nat → En} {X : Nat → List Value} {vs : List Value} (h : Mid w wz K O co NT V X B5 O5 q c5 vs) (ho : Own w' w.heap.size 22 1 O' (K + 1) co' (vals V (K + 1))) (hg : wz.grownBy w' (blk O))
    (hat : blk O' = blk O ∨ blk O' = some (wz.heap.size + 1)) : Mid w w' (K + 1) O' co' NT V X B5 O5 q c5 vs := by
  obtain ⟨h1, h2, h3, h4, h5⟩ := h
  refine ⟨h1.other h2 (by decide) hg, ho, h3.kept hg ?_, fun k hk => ?_, below_own h5 hg h2 h5.size⟩
  · cases hb : blk O5 with
    | none => left; cases hA0 : O5 with
      | none => rfl
      | some a => rw [hA0] at hb; cases hb
    | some k => right; intro e; exact h4 k hb e.symm
  · rcases hat with e | e
    · rw [e]; exact h4 k hk
    · rw [e]
      intro e2
      have := h3.blk_lt hk
      cases e2
      omega

theorem gather {w wr w2 w3 w4 w5 : World} {N co M cb n3 c3 n4 c4 q c5 : Nat} {O Ab A3 A4 O5 : Option Addr} {V : Nat → En} {X : Nat → List Value} {b p3 p4 : List UInt8} {els : List El} (hR : AllR w wr N O co V X) (hB : NewB wr Ab M cb b w2) (h3 : NewB w2 A3 n3 c3 p3 w3) (h4 : NewB w3 A4 n4 c4 p4 w4)
    (h5 : Own w5 w4.heap.size 22 1 O5 q c5 (els.map El.v)) (hq : q = els.length) (hE : Els w5 w4.heap.size els) (hEs : ∀ x ∈ els, x.p.length ≤ 16777216) (b5 : Below w4.heap.size w4 w5) :
    ∃ V3 X3, Mid w w5 N O co (N + 2 + q) V3 X3 w4.heap.size O5 q c5 (els.map El.v) ∧ (V3 N).v = .slice A3 n3 c3 ∧ (V3 (N + 1)).v = .slice A4 n4 c4 ∧ ∀ j, j < q → (els.map El.v)[j]? = some (V3 (N + 2 + j)).v := by
  subst hq
  obtain ⟨f1, o1, b1⟩ := hR
  have bB := hB.2.2.2
  have f2 := f1.below bB
  have s2 : w.heap.size ≤ w2.heap.size := Nat.le_trans b1.size bB.size
  have f3 := f2.snoc h3.2.2.2 (e := ⟨A3, n3, c3⟩) h3.1 h3.2.2.1 s2
  have s3 := Nat.le_trans s2 h3.2.2.2.size
  have f4 := f3.snoc h4.2.2.2 (e := ⟨A4, n4, c4⟩) h4.1 h4.2.2.1 s3
  have s4 := Nat.le_trans s3 h4.2.2.2.size
  obtain ⟨V3, X3, f5, e1, e2⟩ := f4.adds b5 els hE hEs s4
  have br2 : Below wr.heap.size wr w5 := (((bB.trans (h3.2.2.2.mono bB.size)).trans (h4.2.2.2.mono (Nat.le_trans bB.size h3.2.2.2.size)))).trans (b5.mono (Nat.le_trans (Nat.le_trans bB.size h3.2.2.2.size) h4.2.2.2.size))
  refine ⟨V3, X3, ⟨f5, ?_, h5, fun k hk hk2 => ?_, b1.trans (br2.mono b1.size)⟩, ?_, ?_, fun j hj => ?_⟩
  · have hv : vals V3 N = vals V N := vals_congr fun i hi => by rw [e1 i (by omega), updV_ne _ _ (by omega), updV_ne _ _ (by omega)]
    rw [hv]
    exact o1.below br2 (Nat.le_refl _)
  · have := (h5.blk_ge hk).1
    have := o1.blk_lt hk2
    have := bB.size
    have := h3.2.2.2.size
    have := h4.2.2.2.size
    omega
  · rw [e1 N (by omega), updV_ne _ _ (by omega), updV_at]; rfl
  · rw [e1 (N + 1) (by omega), updV_at]; rfl
  · rw [List.getElem?_map, List.getElem?_eq_getElem hj, Option.map_some, e2 j hj]

theorem one_slice (A : Option Addr) (n c : Nat) : ∀ u ∈ (#[.slice A n c] : Array Value).toList, u.oneCell' = true := by simp [Value.oneCell']

set_option maxRecDepth 100000 in
set_option maxHeartbeats 4000000 in
theorem sumOwn_any (l m : List (List UInt8)) (nl nm : Nat) (hnl : nl = l.length) (hnm : nm = m.length) (A A' : Option Addr) (c c' : Nat) (w : World) (hl : LL w w.heap.size A l) (hm : LL w w.heap.size A' m) (tl : totalB l ≤ 1048576) (tm : totalB m ≤ 1048576) :
    Calls Try.prog 9 #[.slice A nl c, .slice A' nm c'] w fun e w' => e = .returned (.bool true) ∧ Below w.heap.size w w' := by
  have HL := Lib.hid (fun (w1 : World) (hb : Below w.heap.size w w1) => fm_o l nl hnl A c w1 ((hl.below hb).more hb.size) tl)
  have HM := Lib.hid (fun (w1 : World) (hb : Below w.heap.size w w1) => fm_o m nm hnm A' c' w1 ((hm.below hb).more hb.size) tm)
  clear hnl hnm hl hm
  go_enter Try.func9, Try.ntmps9
  go_wp2_with (first
    | (go_at_call 30; refine (awake_any w).mono ?_; rintro e w1 ⟨rfl, b1⟩)
    | fail)
  go_loopw [5, 6] (fun all i wr => ∃ (t N : Nat) (O : Option Addr) (co : Nat) (V : Nat → En) (X : Nat → List Value), t ≤ 3 ∧ i = .int .i64 t ∧ all = .slice O N co ∧ Hid (N ≤ 11 * t) ∧ Hid (AllR w wr N O co V X)) (fun _ i _ => 3 - (intOf i).toNat)
  case atStart => exact ⟨0, 0, none, 0, fun _ => ⟨none, 0, 0⟩, fun _ => [], by omega, rfl, rfl, Nat.le_refl _, Fam.nil_ _ _ _ _, Own.nil_ _ _ _ _, b1⟩
  case round =>
    obtain ⟨t, N, O, co, V, X, ht, rfl, rfl, hN, hR⟩ := hrel
    obtain ⟨wa, rfl⟩ : ∃ wa, wa = wr := ⟨_, rfl⟩
    by_cases hlt : t < 3
    · have hbr := hR.out.2.2
      have tk : True := trivial
      have hsw := hbr.size
      obtain ⟨t1, ht1⟩ : ∃ t1, t1 = t + 1 := ⟨_, rfl⟩
      have HT1 := Lib.hid (show t1 = t + 1 ∧ t1 ≤ 3 from ⟨ht1, by omega⟩)
      clear ht1
      have hcase : (∃ lx : Unit, t = 1) ∨ (∃ lx : Unit, ¬ ((t : Int) = 1)) := by
        by_cases h1 : t = 1
        · exact .inl ⟨(), h1⟩
        · exact .inr ⟨(), by omega⟩
      have hHF := And.intro (HM.out wa hbr) (HL.out wa hbr)
      rcases hcase with ⟨_, rfl⟩ | ⟨_, h1⟩
      all_goals
        first
          | (have h1x : ¬ ((t : Int) = 1) := h1; have HF := Lib.hid hHF.2; clear hHF h1x)
          | (have HF := Lib.hid hHF.1; clear hHF)
        go_wp2_with (first
          | (go_at_call 32; refine HF.out.mono ?_; rintro e w2 ⟨Ab, M, cb, v1, v2, b, rfl, hB, hM8⟩)
          | (go_at_call 18; refine (nx_o hB hM8).mono ?_; rintro e w3 ⟨A3, n3, c3, v3, v4, p3, rfl, h3, hn3⟩)
          | (go_at_call 21; refine (fr_o h3 hn3).mono ?_; rintro e w4 ⟨A4, n4, c4, v5, p4, rfl, h4⟩)
          | (go_at_call 27; refine (sc_o hB hM8 (h3.2.2.2.trans (h4.2.2.2.mono h3.2.2.2.size))).mono ?_; rintro e w5 ⟨O5, q, c5, v6, els, rfl, h5, hq, hE, hEs, b5⟩; obtain ⟨V3, X3, hG0, ev3, ev4, hvs⟩ := gather hR.out hB h3 h4 h5 hq hE hEs b5; have HG := Lib.hid hG0; have HV := Lib.hid (And.intro ev3 (And.intro ev4 hvs)); have s5 := hG0.2.2.2.2.size; clear hG0 ev3 ev4 hvs hB h3 h4 h5 hq hE hEs b5)
          | (at_builtin; have _t := tk; go_loud (refine wpList_app_new rfl (.tmp 59) (.tmp 61) 35 rfl w.heap.size 22 1 24 Try.el35 O N co (vals V3 N) rfl HG.out.2.1 #[.slice A3 n3 c3] w5.heap.size 1 1 rfl rfl rfl (one_slice _ _ _) (N + 1) (vals V3 (N + 1)) rfl (by rw [vals_succ, HV.out.1]) (by have := hN.out; omega) (by have := hN.out; unfold maxLen; omega) s5 ?_); intro O6 co6 w6 h6 hg6 at6; have HG6 := Lib.hid (HG.out.app h6 hg6 at6); have s6 := HG6.out.2.2.2.2.size; clear tk _t h6 hg6 at6)
          | (at_builtin; go_loud (refine wpList_app_new rfl (.tmp 62) (.tmp 64) 35 rfl w.heap.size 22 1 24 Try.el35 O6 (N + 1) co6 (vals V3 (N + 1)) rfl HG6.out.2.1 #[.slice A4 n4 c4] w6.heap.size 1 1 rfl rfl rfl (one_slice _ _ _) (N + 2) (vals V3 (N + 2)) rfl (by rw [vals_succ V3 (N + 1), HV.out.2.1]) (by have := hN.out; omega) (by have := hN.out; unfold maxLen; omega) s6 ?_); intro O7 co7 w7 h7 hg7 at7; have HG7 := Lib.hid (HG6.out.app h7 hg7 at7); clear h7 hg7 at7)
          | fail)
        obtain ⟨K0, hK0⟩ : ∃ K0, K0 = N + 2 := ⟨_, rfl⟩
        have HK0 := Lib.hid hK0
        rw [← hK0]
        clear hK0
        go_loopw [5, 18] (fun all k wz => ∃ (j K : Nat) (O' : Option Addr) (co' : Nat), j ≤ 9 ∧ k = .int .i64 j ∧ all = .slice O' K co' ∧ Hid (j ≤ q ∧ K = N + 2 + j ∧ Mid w wz K O' co' (N + 2 + q) V3 X3 w4.heap.size O5 q c5 (els.map El.v))) (fun _ k _ => 9 - (intOf k).toNat)
        case atStart => exact ⟨0, K0, O7, co7, by omega, rfl, rfl, Nat.zero_le _, HK0.out, by rw [HK0.out]; exact HG7.out⟩
        case round =>
          obtain ⟨j, K, O', co', hj, rfl, rfl, hK⟩ := hrel
          have hsz := hK.out.2.2.2.2.2.2.size
          by_cases hjq : j < q ∧ j < 9
          · obtain ⟨hjq1, hj9⟩ := hjq
            obtain ⟨gO, rfl, hcell⟩ := own_at hK.out.2.2.2.2.1 (HV.out.2.2 j hjq1)
            obtain ⟨ev, hev⟩ : ∃ ev, ev = V3 (N + 2 + j) := ⟨_, rfl⟩
            obtain ⟨ea, en, ec⟩ := ev
            rw [← hev] at hcell
            simp only [En.v] at hcell
            have HEV := Lib.hid hev
            clear hev
            go_wp2_with (first
              | (at_builtin; go_loud (refine wpList_app_new rfl (.tmp 76) (.tmp 81) 35 rfl w.heap.size 22 1 24 Try.el35 O' K co' (vals V3 K) rfl hK.out.2.2.2.1 #[.slice ea en ec] wr.heap.size 1 1 rfl rfl rfl (one_slice _ _ _) (K + 1) (vals V3 (K + 1)) rfl (by rw [vals_succ, hK.out.2.1, ← HEV.out]; rfl) (by have := hN.out; have := hK.out.2.1; omega) (by have := hN.out; have := hK.out.2.1; unfold maxLen; omega) hsz ?_); intro O8 co8 w8 h8 hg8 at8; have HG8 := Lib.hid (hK.out.2.2.app h8 hg8 at8); clear h8 hg8 at8)
              | fail)
            go_roundw
            case rel => exact ⟨j + 1, K + 1, O8, co8, by omega, by go_num, rfl, by omega, (by have := hK.out.2.1; omega), HG8.out⟩
            case measure =>
              show 9 - (intOf (.int .i64 ((j : Int) + 1))).toNat < 9 - (intOf (.int .i64 (j : Int))).toNat
              simp only [intOf]
              omega
          · have hjq2 : ¬ j < q ∨ (j < q ∧ ¬ j < 9) := by omega
            have HE := Lib.hid (show N + 2 + j ≤ N + 11 by omega)
            rcases hjq2 with hjq2 | ⟨hjq2, hj9⟩
            all_goals
              go_wp2
              go_roundw
              case rel => exact ⟨t1, K, O', co', V3, X3, HT1.out.2, by rw [HT1.out.1]; go_num, rfl, (by have := HE.out; have := hN.out; have := hK.out.2.1; have := HT1.out.1; show K ≤ 11 * t1; omega), (hK.out.2.2.1.mono (by have := hK.out.1; have := hK.out.2.1; omega)), hK.out.2.2.2.1, hK.out.2.2.2.2.2.2⟩
              case measure => simp [intOf]; try omega
    · have hN33 : N ≤ 33 := by have := hN.out; omega
      obtain ⟨hF0, hO0, hB0⟩ := hR.out
      clear hN hR HL HM b1
      go_wp2
      go_loopw [19] (fun i wz => ∃ (t : Nat) (X : Nat → List Value), t ≤ N ∧ i = .int .i64 t ∧ Hid (Fam wz w.heap.size N V X ∧ (∀ i, i < t → ∀ k, k < (V i).n → (X i)[k]? = some (x3 i))) ∧ Own wz w.heap.size 22 1 O N co (vals V N) ∧ Below w.heap.size w wz) (fun i _ => N - (intOf i).toNat)
      case atStart => exact ⟨0, X, Nat.zero_le _, rfl, ⟨hF0, fun i hi => by omega⟩, hO0, hB0⟩
      case round =>
        obtain ⟨t, X1, ht, rfl, hF1, hO1, hB1⟩ := hrel
        obtain ⟨wb, rfl⟩ : ∃ wb, wb = wr := ⟨_, rfl⟩
        by_cases hlt1 : t < N
        · obtain ⟨ev, hev⟩ : ∃ ev, ev = V t := ⟨_, rfl⟩
          obtain ⟨ea, en, ec⟩ := ev
          have HEV := Lib.hid hev
          clear hev
          go_wp2
          go_loopw [20] (fun i wz => ∃ (j : Nat) (X2 : Nat → List Value), j ≤ en ∧ i = .int .i64 j ∧ Hid (Fam wz w.heap.size N V X2 ∧ (∀ i, i < t → ∀ k, k < (V i).n → (X2 i)[k]? = some (x3 i)) ∧ ∀ k, k < j → (X2 t)[k]? = some (x3 t)) ∧ Own wz w.heap.size 22 1 O N co (vals V N) ∧ Below w.heap.size w wz) (fun i _ => en - (intOf i).toNat)
          case atStart => exact ⟨0, X1, Nat.zero_le _, rfl, ⟨hF1.out.1, hF1.out.2, fun k hk => by omega⟩, hO1, hB1⟩
          case round =>
            obtain ⟨j, X2, hj, rfl, hF2, hO2, hB2⟩ := hrel
            obtain ⟨gO, rfl, hcell⟩ := own_at hO2 (vals_get V hlt1)
            rw [← HEV.out] at hcell
            simp only [En.v] at hcell
            by_cases hlt2 : j < en
            · obtain ⟨gA, hgA, hgw, hgl⟩ := hF2.out.1.some_ hlt1 (by rw [← HEV.out]; simp only; omega)
              obtain ⟨u, hu⟩ : ∃ u, (X2 t)[j]? = some u := ⟨_, List.getElem?_eq_getElem (by rw [hF2.out.1.len hlt1, ← HEV.out]; exact hlt2)⟩
              have hcu := hF2.out.1.cell hlt1 hgA hu
              have hfu := hF2.out.1.free hlt1 hgA j
              have hea : ea = some ⟨gA, 0, none⟩ := by rw [← hgA, ← HEV.out]
              have HU := Lib.hid (And.intro hgA (show j < (X2 t).length from (List.getElem?_eq_some_iff.1 hu).1))
              clear hgA hu
              subst hea
              have hen : en ≤ 16777216 := by have := hF2.out.1.le t hlt1; rw [← HEV.out] at this; exact this
              have hmul : IntKind.i64.wrap (3 * (t : Int)) = 3 * (t : Int) := IntWalk.i64_in _ (by omega)
              have hwr8 : IntKind.u8.wrap (3 * (t : Int)) = 3 * (t : Int) := IntWalk.u8_in _ (by omega)
              go_wp2
              go_roundw
              case rel =>
                have F2 := hF2.out.1.set (j := j) hlt1 HU.out.1 (x3 t)
                refine ⟨j + 1, _, by omega, by go_num, ⟨F2, fun i hi k hk => ?_, fun k hk => ?_⟩, ?_, ?_⟩
                · rw [updX_ne _ _ (by omega)]
                  exact hF2.out.2.1 i hi k hk
                · rw [updX_at, List.getElem?_set]
                  by_cases hkj : j = k
                  · rw [if_pos hkj, if_pos HU.out.2]
                  · rw [if_neg hkj]
                    exact hF2.out.2.2 k (by omega)
                · refine hO2.kept (gr_set wr ⟨gA, j, none⟩ (x3 t)) ?_
                  have := hO2.ne_ (hF2.out.1.own t hlt1) (by decide)
                  rw [HU.out.1] at this
                  exact this
                · exact hB2.setCell (p := ⟨gA, j, none⟩) hgw _
              case measure =>
                show en - (intOf (.int .i64 ((j : Int) + 1))).toNat < en - (intOf (.int .i64 (j : Int))).toNat
                simp only [intOf]
                omega
            · obtain rfl : j = en := by omega
              go_wp2
              go_roundw
              case rel => exact ⟨t + 1, X2, by omega, by go_num, ⟨hF2.out.1, fun i hi k hk => by
                by_cases hit : i = t
                · subst hit
                  rw [← HEV.out] at hk
                  exact hF2.out.2.2 k hk
                · exact hF2.out.2.1 i (by omega) k hk⟩, hO2, hB2⟩
              case measure => 
                show N - (intOf (.int .i64 ((t : Int) + 1))).toNat < N - (intOf (.int .i64 (t : Int))).toNat
                simp only [intOf]
                omega
        · obtain rfl : t = N := by omega
          have hG0 := Gro.init y3 hF1.out.1 hF1.out.2
          have hVle := hF1.out.1.le
          have HVL := Lib.hid hVle
          clear hF1 hF0 hO0 hB0 hVle
          go_wp2
          go_loopw [21, 22] (fun gr i wz => ∃ (s : Nat) (G : Option Addr) (cg : Nat) (C : Nat → En), s ≤ t ∧ i = .int .i64 s ∧ gr = .slice G s cg ∧ Hid (Gro wz w.heap.size t V C (mUp s) x3 y3 ∧ (∀ i, s ≤ i → C i = V i) ∧ (∀ k, blk O = some k → blk G ≠ some k)) ∧ Own wz w.heap.size 22 1 O t co (vals V t) ∧ Own wz w.heap.size 22 1 G s cg (vals C s) ∧ Below w.heap.size w wz) (fun _ i _ => t - (intOf i).toNat)
          case atStart => exact ⟨0, none, 0, V, Nat.zero_le _, rfl, rfl, ⟨by rw [mUp_zero]; exact hG0, fun _ _ => rfl, fun k _ h => by cases h⟩, hO1, Own.nil_ _ _ _ _, hB1⟩
          case round =>
            obtain ⟨s, G, cg, C, hs, rfl, rfl, hG, hO3, hGs, hB3⟩ := hrel
            obtain ⟨wc, rfl⟩ : ∃ wc, wc = wr := ⟨_, rfl⟩
            by_cases hlt3 : s < t
            · obtain ⟨gO, rfl, hcell⟩ := own_at hO3 (vals_get V hlt3)
              obtain ⟨ev, hev⟩ : ∃ ev, ev = V s := ⟨_, rfl⟩
              obtain ⟨ea, en, ec⟩ := ev
              rw [← hev] at hcell
              simp only [En.v] at hcell
              have HEV := Lib.hid hev
              have hen : en ≤ 16777216 := by have := HVL.out s hlt3; rw [← HEV.out] at this; exact this
              clear hev
              go_wp2
              go_loopw [23, 24] (fun g i wz => ∃ (j K : Nat) (C2 : Nat → En) (a2 : Option Addr) (c2 : Nat), j ≤ 20 ∧ i = .int .i64 j ∧ g = .slice a2 K c2 ∧ Hid (K = en + j ∧ Gro wz w.heap.size t V C2 (mIn s j) x3 y3 ∧ C2 s = ⟨a2, K, c2⟩ ∧ (∀ i, i < s → C2 i = C i) ∧ (∀ i, s < i → C2 i = V i)) ∧ Own wz w.heap.size 22 1 (some ⟨gO, 0, none⟩) t co (vals V t) ∧ Own wz w.heap.size 22 1 G s cg (vals C s) ∧ Below w.heap.size w wz) (fun _ i _ => 20 - (intOf i).toNat)
              case atStart => exact ⟨0, en, C, ea, ec, by omega, rfl, rfl, ⟨rfl, by rw [mIn_zero]; exact hG.out.1, by rw [hG.out.2.1 s (Nat.le_refl _), HEV.out], fun _ _ => rfl, fun i hi => hG.out.2.1 i (by omega)⟩, hO3, hGs, hB3⟩
              case round =>
                obtain ⟨j, K, C2, a2, c2, hj, rfl, rfl, hK, hO4, hG4, hB4⟩ := hrel
                obtain ⟨wd, rfl⟩ : ∃ wd, wd = wr := ⟨_, rfl⟩
                by_cases hlt4 : j < 20
                · have hmul : IntKind.i64.wrap (3 * (s : Int)) = 3 * (s : Int) := IntWalk.i64_in _ (by omega)
                  have hmul2 : IntKind.i64.wrap (3 * (s : Int) + 1) = 3 * (s : Int) + 1 := IntWalk.i64_in _ (by omega)
                  have hwr8 : IntKind.u8.wrap (3 * (s : Int) + 1) = 3 * (s : Int) + 1 := IntWalk.u8_in _ (by omega)
                  have ho := hK.out.2.1.own s hlt3
                  rw [hK.out.2.2.1, ← HEV.out, mIn_at] at ho
                  simp only at ho
                  rw [← hK.out.1] at ho
                  have HO := Lib.hid ho
                  have hKb : K ≤ 16777300 := by have := hK.out.1; omega
                  have hsz := hB4.size
                  clear ho
                  go_wp2_with (first
                    | (at_builtin; go_loud (refine wpList_app_new2 rfl (.tmp 121) (.tmp 126) 22 rfl w.heap.size 5 1 1 Try.el22 a2 K c2 _ rfl HO.out #[.int .u8 (3 * (s : Int) + 1)] wd.heap.size 1 1 rfl rfl rfl (one_u8 _) (K + 1) _ rfl rfl (by omega) (by unfold maxLen; omega) hsz ?_); intro A5 c5 w5 h5 hg5 at5)
                    | fail)
                  have HA5 := Lib.hid at5
                  have HG5 := Lib.hid hg5
                  have H5 := Lib.hid h5
                  clear at5 hg5 h5
                  go_roundw
                  case rel =>
                    have hst := hK.out.2.1.step (t := s) (n' := K + 1) (c' := c5) (A' := A5) hlt3 (by rw [← HEV.out, mIn_at]; simp only; have := hK.out.1; omega) (by rw [← HEV.out, mIn_at]; exact H5.out) (by rw [hK.out.2.2.1]; exact HG5.out) (by rw [hK.out.2.2.1]; exact HA5.out)
                    rw [mIn_step] at hst
                    refine ⟨j + 1, K + 1, _, A5, c5, by omega, by go_num, rfl, ⟨by have := hK.out.1; omega, hst, updV_at _ _ _, fun i hi => ?_, fun i hi => ?_⟩, hO4.other HO.out (by decide) HG5.out, hG4.other HO.out (by decide) HG5.out, below_own hB4 HG5.out HO.out hB4.size⟩
                    · rw [updV_ne _ _ (by omega)]; exact hK.out.2.2.2.1 i hi
                    · rw [updV_ne _ _ (by omega)]; exact hK.out.2.2.2.2 i hi
                  case measure =>
                    show 20 - (intOf (.int .i64 ((j : Int) + 1))).toNat < 20 - (intOf (.int .i64 (j : Int))).toNat
                    simp only [intOf]
                    omega
                · obtain rfl : j = 20 := by omega
                  have hsz := hB4.size
                  go_wp2_with (first
                    | (at_builtin; go_loud (refine wpList_app_new rfl (.tmp 128) (.tmp 130) 35 rfl w.heap.size 22 1 24 Try.el35 G s cg (vals C s) rfl hG4 #[.slice a2 K c2] wd.heap.size 1 1 rfl rfl rfl (one_slice _ _ _) (s + 1) (vals C2 (s + 1)) rfl (by rw [vals_succ, hK.out.2.2.1, vals_congr hK.out.2.2.2.1]; rfl) (by omega) (by unfold maxLen; omega) hsz ?_); intro G5 cg5 w5 h5 hg5 at5)
                    | fail)
                  have HG5 := Lib.hid hg5
                  have H5 := Lib.hid h5
                  have HA5 := Lib.hid at5
                  clear hg5 h5 at5
                  go_roundw
                  case rel =>
                    refine ⟨s + 1, G5, cg5, C2, by omega, by go_num, rfl, ⟨by rw [← mIn_last]; exact hK.out.2.1.other hG4 (by decide) HG5.out, fun i hi => hK.out.2.2.2.2 i (by omega), fun k hk => ?_⟩, ?_, H5.out, below_own hB4 HG5.out hG4 hB4.size⟩
                    · rcases HA5.out with e | e
                      · rw [e]; exact hG.out.2.2 k hk
                      · rw [e]
                        intro e2
                        have := hO4.blk_lt hk
                        cases e2
                        omega
                    · exact hO4.kept HG5.out (.inr (fun e => hG.out.2.2 gO rfl e.symm))
                  case measure =>
                    show t - (intOf (.int .i64 ((s : Int) + 1))).toNat < t - (intOf (.int .i64 (s : Int))).toNat
                    simp only [intOf]
                    omega
            · obtain rfl : s = t := by omega
              have HG := Lib.hid hG.out.1
              clear hG hO1 hG0 hB1
              go_wp2
              go_loop [25] (fun i => ∃ t : Nat, t ≤ s ∧ i = .int .i64 t) (fun i => s - (intOf i).toNat)
              case atStart => exact ⟨0, Nat.zero_le _, rfl⟩
              case round =>
                obtain ⟨p, hp, rfl⟩ := hrel
                by_cases hlt5 : p < s
                · obtain ⟨gO, rfl, hcO⟩ := own_at hO3 (vals_get V hlt5)
                  obtain ⟨gG, rfl, hcG⟩ := own_at hGs (vals_get C hlt5)
                  have hnum := HG.out.num p hlt5
                  have hown := HG.out.own p hlt5
                  obtain ⟨c0, hold⟩ := HG.out.old p hlt5
                  have hnb := HVL.out p hlt5
                  rw [show mUp s p = 20 by simp [mUp, hlt5]] at hnum hown
                  obtain ⟨ev, hev⟩ : ∃ ev, ev = V p := ⟨_, rfl⟩
                  obtain ⟨cv, hcv⟩ : ∃ cv, cv = C p := ⟨_, rfl⟩
                  obtain ⟨ea, en, ec⟩ := ev
                  obtain ⟨a2, K, c2⟩ := cv
                  rw [← hev] at hcO hnum hown hold hnb
                  rw [← hcv] at hcG hnum hown
                  simp only [En.v] at hcO hcG hnum hown hold hnb
                  have HK := Lib.hid hnum
                  have hKb : K ≤ 16777300 := by omega
                  have HOW := Lib.hid hown
                  have HOL := Lib.hid hold
                  clear hnum hown hold hev hcv
                  go_wp2
                  go_loop [26] (fun i => ∃ j : Nat, j ≤ K ∧ i = .int .i64 j) (fun i => K - (intOf i).toNat)
                  case atStart => exact ⟨0, Nat.zero_le _, rfl⟩
                  case round =>
                    obtain ⟨j, hj, rfl⟩ := hrel
                    by_cases hlt6 : j < K
                    · have hmul : IntKind.i64.wrap (3 * (p : Int)) = 3 * (p : Int) := IntWalk.i64_in _ (by omega)
                      have hmul2 : IntKind.i64.wrap (3 * (p : Int) + 1) = 3 * (p : Int) + 1 := IntWalk.i64_in _ (by omega)
                      have hwr8 : IntKind.u8.wrap (3 * (p : Int) + 1) = 3 * (p : Int) + 1 := IntWalk.u8_in _ (by omega)
                      have hwr9 : IntKind.u8.wrap (3 * (p : Int)) = 3 * (p : Int) := IntWalk.u8_in _ (by omega)
                      by_cases hjn : j < en
                      · obtain ⟨gA, rfl, hcA⟩ := own_at HOL.out (j := j) (u := .int .u8 (3 * (p : Int))) (by rw [List.getElem?_replicate, if_pos hjn]; rfl)
                        obtain ⟨g2, rfl, hc2⟩ := own_at HOW.out (j := j) (u := .int .u8 (3 * (p : Int))) (by rw [List.getElem?_append_left (by simpa using hjn), List.getElem?_replicate, if_pos hjn]; rfl)
                        go_wp2
                        go_round
                        case rel => exact ⟨j + 1, by omega, by go_num⟩
                        case measure => simp [intOf]; omega
                      · obtain ⟨g2, rfl, hc2⟩ := own_at HOW.out (j := j) (u := .int .u8 (3 * (p : Int) + 1)) (by rw [List.getElem?_append_right (by simp; omega), List.getElem?_replicate, if_pos (by have := HK.out; simp; omega)]; rfl)
                        have hjn2 : en ≤ j := by omega
                        go_wp2
                        go_round
                        case rel => exact ⟨j + 1, by omega, by go_num⟩
                        case measure => simp [intOf]; omega
                    · obtain rfl : j = K := by omega
                      go_wp2
                      go_round
                      case rel => exact ⟨p + 1, by omega, by go_num⟩
                      case measure => simp [intOf]; omega
                · obtain rfl : p = s := by omega
                  go_wp2
                  go_ret
                  exact ⟨rfl, hB3⟩

end Go.Proofs.Ytbhjcfhpabnadaa
