/-
  The walk of frames.payload where strings are laid (kinds 1 and 2).
-/
import Derived.Test.YtbhjcfhpabnadaaPay
import Derived.Lib.AppendStr
import Derived.Deep.RegionHeld3
import Derived.Deep.DeepCutAuto
namespace Go.Proofs.Ytbhjcfhpabnadaa
open Go.RowKit

def sB (s : ByteArray) : List UInt8 := s.data.toList
theorem sB_len (s : ByteArray) : (sB s).length = s.size := by
  show s.data.toList.length = s.data.size
  simp
theorem strC (s : ByteArray) : Lib.strCells s = bv (sB s) := rfl

theorem run_appS (w : World) (base ty : Nat) (A : Option Addr) (n c : Nat) (xs : List Value) (hown : Own w base 5 1 A n c xs) (s : ByteArray) (h63 : n + s.size ≤ maxLen) (hbytes : n + s.size ≤ 140737488355328) (hbase : base ≤ w.heap.size) :
    ∃ A' c' w', (Builtin.append_ #[22, 9] ty #[.slice A n c, .string s]).run Try.prog w = .ok (.slice A' (n + s.size) c') w' ∧ Own w' base 5 1 A' (n + s.size) c' (xs ++ bv (sB s)) ∧ w.grownBy w' (blk A) := by
  have hi5 : (Try.prog.info? 5).map (fun i => (i.zero, i.size, i.bytes)) = some (some (.int .u8 0), 1, 1) := by kernel_rfl
  obtain ⟨i, hi, hii⟩ := Option.map_eq_some_iff.1 hi5
  obtain ⟨hz, hs, hb⟩ : i.zero = some (.int .u8 0) ∧ i.size = 1 ∧ i.bytes = 1 := by
    injection hii with h1 h2
    injection h2 with h2 h3
    exact ⟨h1, h2, h3⟩
  obtain ⟨v', w', hrun, h2, h3, _⟩ := Lib.run_append_own_string (P := Try.prog) w base 22 9 ty 5 i Try.underlying22 Try.underlying9 hi hz hs hb (.slice A n c) n xs hown s h63 hbytes hbase
  rw [strC] at h2
  rcases h2.2 with ⟨rfl, h0⟩ | ⟨g, cap, cur, rfl, rest⟩
  · refine ⟨none, 0, w', by rw [hrun, h0], ?_, by rw [← hown.blk_eq]; exact h3⟩
    simp only [Own, h0]
    exact h0 ▸ h2
  · exact ⟨some ⟨g, 0, none⟩, cap, w', hrun, h2, by rw [← hown.blk_eq]; exact h3⟩

/-- append of a string, as the walk meets it. -/
theorem wpList_appS {w : World} {ops : Array Oper} {rest : List Oper} {o : Oper} {a : Act} {Q : Exit → Act → World → Prop} (hgd : o.guard = none) (s x : Operand)
    (ho : o.op = .call { callee := .builtin .append, args := #[s, x], argTypes := #[22, 9] })
    (base : Nat) (A : Option Addr) (n c : Nat) (xs : List Value) (hs : a.eval s = .slice A n c) (hown : Own w base 5 1 A n c xs) (t : ByteArray) (hx : a.eval x = .string t)
    (N : Nat) (zs : List Value) (hN : n + t.size = N) (hzs : xs ++ bv (sB t) = zs) (hbytes : N ≤ 140737488355328) (h63 : N ≤ maxLen) (hbase : base ≤ w.heap.size)
    (h : ∀ A' c' w', Own w' base 5 1 A' N c' zs → w.grownBy w' (blk A) → wpList Try.prog ops Q rest (a.put o.dst (.slice A' N c')) w') : wpList Try.prog ops Q (o :: rest) a w := by
  subst hN hzs
  refine wpList_plain hgd fun K hK => ?_
  obtain ⟨A', c', w', hrun, h2, h3⟩ := run_appS w base o.type A n c xs hown t h63 hbytes hbase
  unfold Oper.wp execOp
  simp only [ho, resolve, invoke, builtin, Sem.run_bind, Sem.run_pure, Result.andThen_ok, List.map_toArray, List.map_cons, List.map_nil, hs, hx, hrun]
  exact hK _ _ (h A' c' w' h2 h3)

/-- The same at a step of a region that draws its order. -/
theorem step_appS {w : World} {ops : Array Oper} {o : Oper} {a : Act} {K : Act → World → Prop} {Q : Exit → Act → World → Prop} {E : Prop} (hgd : o.guard = none) (s x : Operand)
    (ho : o.op = .call { callee := .builtin .append, args := #[s, x], argTypes := #[22, 9] })
    (base : Nat) (A : Option Addr) (n c : Nat) (xs : List Value) (hs : a.eval s = .slice A n c) (hown : Own w base 5 1 A n c xs) (t : ByteArray) (hx : a.eval x = .string t)
    (N : Nat) (zs : List Value) (hN : n + t.size = N) (hzs : xs ++ bv (sB t) = zs) (hbytes : N ≤ 140737488355328) (h63 : N ≤ maxLen) (hbase : base ≤ w.heap.size)
    (h : ∀ A' c' w', Own w' base 5 1 A' N c' zs → w.grownBy w' (blk A) → K (a.put o.dst (.slice A' N c')) w') :
    if Region.wanted o (yielded ops a.tmps) = true then Oper.wp Try.prog o a w K Q else E := by
  have hw : Region.wanted o (yielded ops a.tmps) = true := by simp [Region.wanted, hgd]
  rw [if_pos hw]
  subst hN hzs
  obtain ⟨A', c', w', hrun, h2, h3⟩ := run_appS w base o.type A n c xs hown t h63 hbytes hbase
  unfold Oper.wp execOp
  simp only [ho, resolve, invoke, builtin, Sem.run_bind, Sem.run_pure, Result.andThen_ok, List.map_toArray, List.map_cons, List.map_nil, hs, hx, hrun]
  exact h A' c' w' h2 h3

theorem pay_ofN {w w1 w' : World} {m : Nat} {xs : List UInt8} {zs : List Int} {e : Ending} (hm : m = xs.length) (hb : Below w.heap.size w w1) (h : NumsOut w.heap.size m xs zs w1 e w') : PayOut w (numsS xs zs) e w' := by
  subst hm
  obtain ⟨hb2, h⟩ := h
  refine ⟨hb.trans hb2, ?_⟩
  rcases h with ⟨hall, A, c, rfl, ho⟩ | ⟨⟨z, hz, hf⟩, rfl⟩
  · have : zs.all mayS = true := List.all_eq_true.2 hall
    rw [numsS, if_pos this]
    have hl : (xs ++ flatB zs).length = xs.length + 8 * zs.length := by rw [List.length_append, flatB_len]
    simp only
    rw [hl]
    exact ⟨A, c, rfl, ho⟩
  · have : ¬ zs.all mayS = true := fun h => by
      rw [List.all_eq_true.1 h z hz] at hf
      cases hf
    rw [numsS, if_neg this]
    exact ⟨_, rfl⟩

theorem Own.drew_ {w : World} {base e size n c : Nat} {A : Option Addr} {xs : List Value} (h : Own w base e size A n c xs) : Own w.drew base e size A n c xs := h
theorem nums_at (w W1 : World) (z : Nat) (hW : Below z w W1) (hz : z = w.heap.size) (m : Nat) (xs : List UInt8) (hm : m = xs.length) (zs : List Int) (A : Option Addr) (c : Nat) (L : Option Addr) (q cl : Nat) (hs : z + 1 ≤ W1.heap.size) (hA : Own W1 (z + 1) 5 1 A m c (bv xs)) (hL : Own W1 (z + 1) 3 1 L q cl (iv zs)) (hq : q = zs.length) (hmq : m + 8 * q ≤ 140737488355328) :
    Calls Try.prog 66 #[.slice A m c, .slice L q cl] W1 fun e w' => ∃ A' n' c' ok, e = .returned (.tuple #[.slice A' n' c', .bool ok]) ∧ PayOut w (numsS xs zs) e w' ∧ Below (z + 1) W1 w' := by
  subst hz
  refine (numbers_any (w.heap.size + 1) m xs zs A c L q cl W1 hs hA hL hq hmq).mono fun e w' h => ?_
  have h2 : NumsOut w.heap.size m xs zs W1 e w' := by
    refine ⟨h.1.mono (Nat.le_succ _), ?_⟩
    rcases h.2 with ⟨h3, A', c', h4, h5⟩ | h3
    · exact .inl ⟨h3, A', c', h4, h5.base_le (Nat.le_succ _)⟩
    · exact .inr h3
  have hp := pay_ofN hm hW h2
  rcases h.2 with ⟨_, A', c', he, _⟩ | ⟨_, he⟩
  · exact ⟨_, _, _, _, he, hp, h.1⟩
  · exact ⟨_, _, _, _, he, hp, h.1⟩

theorem lit3 (W : World) (z : Nat) (hz : z ≤ W.heap.size) (v : Int) : Own (W.alloc (.cells #[.int .i64 v] 3)) z 3 1 (some ⟨W.heap.size, 0, none⟩) 1 1 (iv [v]) :=
  Own.lit (w := W) (cs := #[.int .i64 v]) hz rfl (by unfold maxLen; omega)

set_option maxRecDepth 100000 in
set_option maxHeartbeats 800000 in
theorem pay1_bad (name text : ByteArray) (ver frm nonce err : Int) (w : World) (h : name.size < 1 ∨ (1 ≤ name.size ∧ 64 < name.size)) :
    Calls Try.prog 59 #[.agg #[.int .i64 1, .string name, .int .i64 ver, .int .i64 frm, .int .i64 nonce, .int .i64 err, .string text]] w (PayOut w none) := by
  rcases h with h1 | ⟨h1, h2⟩
  all_goals
    go_enter Try.func59, Try.ntmps59
    go_wp2
    go_ret2
    exact ⟨(below_box w _).alloc (by simp) _, _, rfl⟩

set_option maxRecDepth 100000 in
set_option maxHeartbeats 2000000 in
theorem pay1 (name text : ByteArray) (ver frm nonce err : Int) (w : World) (h1 : 1 ≤ name.size) (h2 : name.size ≤ 64) :
    Calls Try.prog 59 #[.agg #[.int .i64 1, .string name, .int .i64 ver, .int .i64 frm, .int .i64 nonce, .int .i64 err, .string text]] w (PayOut w (numsS ([1, UInt8.ofNat name.size] ++ sB name) [ver])) := by
  have hi1 : ¬ (name.size : Int) < 1 := by omega
  have hi2 : ¬ (64 : Int) < (name.size : Int) := by omega
  have hw8 : IntKind.u8.wrap (name.size : Int) = (name.size : Int) := IntWalk.u8_in _ (by omega)
  go_enter Try.func59, Try.ntmps59
  go_upto_region 7 with fail
  obtain ⟨W, hW⟩ : ∃ W, W = ((w.alloc (.cells #[.int .i64 1, .string name, .int .i64 ver, .int .i64 frm, .int .i64 nonce, .int .i64 err, .string text] 60)).alloc (.cells #[.int .u8 1] 5)) := ⟨_, rfl⟩
  have bW : Below w.heap.size w W := by rw [hW]; exact (below_box w _).alloc (by simp) _
  have hOb : Own W (w.heap.size + 1) 5 1 (some ⟨w.heap.size + 1, 0, none⟩) 1 1 (bv [1]) := by
    rw [hW]
    have := Own.lit (w := w.alloc (.cells #[.int .i64 1, .string name, .int .i64 ver, .int .i64 frm, .int .i64 nonce, .int .i64 err, .string text] 60)) (base := w.heap.size + 1) (e := 5) (size := 1) (n := 1) (cs := #[.int .u8 1]) (by simp) rfl (by unfold maxLen; omega)
    rw [World.size_alloc] at this
    exact this
  have c1 : W.cell? ⟨w.heap.size, 1, none⟩ = some (.string name) := by rw [hW]; exact ((below_box _ _).cell (by simp)).trans (new_cell rfl rfl)
  have c2 : W.cell? ⟨w.heap.size, 2, none⟩ = some (.int .i64 ver) := by rw [hW]; exact ((below_box _ _).cell (by simp)).trans (new_cell rfl rfl)
  have hsz : w.heap.size + 2 = W.heap.size := by rw [hW]; simp
  rw [← hW]
  obtain ⟨z, hz⟩ : ∃ z, z = w.heap.size := ⟨_, rfl⟩
  rw [← hz] at bW hOb c1 c2 hsz ⊢
  have HZ := Lib.hid hz
  clear hW hz
  have lz : z < W.heap.size := by omega
  have hdr : Own W (z + 1) 5 1 (some ⟨z + 1, 0, none⟩) 1 1 (bv [1]) := hOb
  have e2 : bv [1] ++ (#[.int .u8 (name.size : Int)] : Array Value).toList = bv [1, UInt8.ofNat name.size] := by
    simp [bv]
    omega
  have E2 := Lib.hid e2
  clear e2
  go_region_held3 (fun w' => w'.cell? ⟨z, 1, none⟩ = some (.string name) ∧ w'.cell? ⟨z, 2, none⟩ = some (.int .i64 ver))
    (first
      | go_keep
      | (go_split_ands
         exact ⟨(hb4.cell (Nat.lt_succ_self _)).trans (by simp [*]), (hb4.cell (Nat.lt_succ_self _)).trans (by simp [*])⟩)
      | (go_split_ands
         exact ⟨grown_cell hg3 (by simp [*]) (h2.blk_low (Nat.lt_succ_self _)), grown_cell hg3 (by simp [*]) (h2.blk_low (Nat.lt_succ_self _))⟩)
      | (go_split_ands
         exact ⟨grown_cell hg2 (by simp [*]) (hdr.blk_low (Nat.lt_succ_self _)), grown_cell hg2 (by simp [*]) (hdr.blk_low (Nat.lt_succ_self _))⟩))
    ((first
      | (refine step_app (by rfl) _ _ _ (by rfl) (z + 1) 5 1 1 Try.el22 _ 1 1 (bv [1]) (by rfl) (hOb.alloc _).drew_ (W.heap.size + 1) (some ⟨W.heap.size, 0, none⟩) 1 1 _ (by rfl) (new_rd W #[.int .u8 (name.size : Int)] 5 _ (Nat.lt_succ_self _)) rfl (oneU8 _) 2 _ rfl E2.out (by omega) (by unfold maxLen; omega) (by simp; omega) ?_; intro A2 c2' w2 h2 hg2 hat2; have b2 := below_own ((Below.refl _ W).alloc (by omega) (.cells #[.int .u8 (name.size : Int)] 5)).drew hg2 (hOb.alloc _).drew_ (by simp; omega))
      | (refine step_app (by rfl) _ _ _ (by rfl) (z + 1) 5 1 1 Try.el22 _ 1 1 (bv [1]) (by rfl) ((hOb.alloc _).alloc _).drew_ (W.heap.size + 1) (some ⟨W.heap.size, 0, none⟩) 1 1 _ (by rfl) ((new_rd W #[.int .u8 (name.size : Int)] 5 _ (Nat.lt_succ_self _)).alloc (by simp) _) rfl (oneU8 _) 2 _ rfl E2.out (by omega) (by unfold maxLen; omega) (by simp; omega) ?_; intro A2 c2' w2 h2 hg2 hat2; have b2 := below_own (((Below.refl _ W).alloc (by omega) (.cells #[.int .u8 (name.size : Int)] 5)).alloc (by simp; omega) (.cells #[.int .i64 ver] 3)).drew hg2 ((hOb.alloc _).alloc _).drew_ (by simp; omega); have hL2 := (lit3 (W.alloc (.cells #[.int .u8 (name.size : Int)] 5)) (z + 1) (by simp; omega) ver).drew_.other ((hOb.alloc _).alloc _).drew_ (by decide) hg2; rw [World.size_alloc] at hL2)
      | (refine step_app (by rfl) _ _ _ (by rfl) (z + 1) 5 1 1 Try.el22 _ 1 1 (bv [1]) (by rfl) ((hOb.alloc _).alloc _).drew_ (W.heap.size + 2) (some ⟨W.heap.size + 1, 0, none⟩) 1 1 _ (by rfl) (by have := new_rd (W.alloc (.cells #[.int .i64 ver] 3)) #[.int .u8 (name.size : Int)] 5 (W.heap.size + 2) (by simp); rw [World.size_alloc] at this; exact this) rfl (oneU8 _) 2 _ rfl E2.out (by omega) (by unfold maxLen; omega) (by simp; omega) ?_; intro A2 c2' w2 h2 hg2 hat2; have b2 := below_own (((Below.refl _ W).alloc (by omega) (.cells #[.int .i64 ver] 3)).alloc (by simp; omega) (.cells #[.int .u8 (name.size : Int)] 5)).drew hg2 ((hOb.alloc _).alloc _).drew_ (by simp; omega); have hL2 := ((lit3 W (z + 1) (by omega) ver).alloc (.cells #[.int .u8 (name.size : Int)] 5)).drew_.other ((hOb.alloc _).alloc _).drew_ (by decide) hg2)
      | (refine step_appS (by rfl) _ _ (by rfl) (z + 1) A2 2 c2' _ (by rfl) h2 name (by rfl) (2 + name.size) (bv ([1, UInt8.ofNat name.size] ++ sB name)) rfl (bv_append _ _).symm (by omega) (by unfold maxLen; omega) (by have := b2.size; omega) ?_; intro A3 c3 w3 h3 hg3; have b3 := below_own b2 hg3 h2 (by have := b2.size; omega); first | (have hL3 := hL2.other h2 (by decide) hg3) | skip)
      | (refine step_appS (by rfl) _ _ (by rfl) (z + 1) A2 2 c2' _ (by rfl) (h2.alloc _) name (by rfl) (2 + name.size) (bv ([1, UInt8.ofNat name.size] ++ sB name)) rfl (bv_append _ _).symm (by omega) (by unfold maxLen; omega) (by have := b2.size; simp; omega) ?_; intro A3 c3 w3 h3 hg3; have b3 := below_own (b2.alloc (by have := b2.size; omega) (.cells #[.int .i64 ver] 3)) hg3 (h2.alloc _) (by have := b2.size; simp; omega); have hL3 := (lit3 w2 (z + 1) (by have := b2.size; omega) ver).other (h2.alloc _) (by decide) hg3)
      | (go_at_call 66; go_loud (refine (nums_at w _ z (bW.trans (b3.mono (Nat.le_succ z))) HZ.out (2 + name.size) ([1, UInt8.ofNat name.size] ++ sB name) (by rw [List.length_append, sB_len]; rfl) [ver] A3 c3 _ 1 1 (by have := b3.size; omega) h3 hL3 rfl (by omega)).mono ?_); rintro e w4 ⟨A4, n4, c4, ok, rfl, hp, hb4⟩)
      | (go_at_call 66; go_loud (refine (nums_at w _ z (bW.trans ((b3.alloc (by have := b3.size; omega) _).mono (Nat.le_succ z))) HZ.out (2 + name.size) ([1, UInt8.ofNat name.size] ++ sB name) (by rw [List.length_append, sB_len]; rfl) [ver] A3 c3 _ 1 1 (by have := b3.size; simp; omega) (h3.alloc _) (lit3 w3 (z + 1) (by have := b3.size; omega) ver) rfl (by omega)).mono ?_); rintro e w4 ⟨A4, n4, c4, ok, rfl, hp, hb4⟩)
      | fail))
  all_goals
    go_wp2
    go_ret2
    exact hp

end Go.Proofs.Ytbhjcfhpabnadaa
