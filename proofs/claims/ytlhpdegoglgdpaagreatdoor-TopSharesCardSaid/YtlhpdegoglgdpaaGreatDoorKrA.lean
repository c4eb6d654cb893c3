/- A part of the proof of TopShares: for every row of weights the law returns true, and the row reads as before. No condition beyond the statement's own. -/
import Derived.Test.YtlhpdegoglgdpaaGreatDoorKjA
import Derived.Test.YtlhpdegoglgdpaaGreatDoorKjI
import Derived.Test.YtlhpdegoglgdpaaGreatDoorKjC
import Derived.Test.YtlhpdegoglgdpaaGreatDoorKjD
import Derived.Test.YtlhpdegoglgdpaaGreatDoorKjF
import Derived.Test.YtlhpdegoglgdpaaGreatDoorKjK
import Derived.Test.YtlhpdegoglgdpaaGreatDoorTsX
import Derived.Test.YtlhpdegoglgdpaaGreatDoorKwA
import Derived.Test.YtlhpdegoglgdpaaGreatDoorKwF
import Derived.Shelf.Vars
import Derived.ShutString
import Derived.OpenShut
import Derived.ChangeOld
import Derived.Below
import Derived.SizedLaws
import Derived.Test.YtlhpdegoglgdpaaGreatDoorKtB
import Derived.Test.YtlhpdegoglgdpaaGreatDoorKtC
import Derived.Test.YtlhpdegoglgdpaaGreatDoorKtD
namespace Go.Proofs.Sh
open Go
open Go.Proofs.YtlhpdegoglgdpaaGreatDoor
theorem joined_of {P : Program} {f : FuncId} {fn : Func} {s : ChangeSpec} {c : OpenClaim}
    (h1 : c.wf (OpenSpec.ofChange s) = true) (h2 : laidOutB P = true) (h3 : mapsRowed P = true) (h4 : fn.params.all (P.readableRec ·) = true) (h5 : namedTie P c.named s.vars = true)
    (h6 : (c.stops == []) = true) (h7 : (P.stops == []) = true) (h8 : (c.knobs == []) = true) (h9 : (P.stopKnobs == []) = true)
    (h10 : (c.inPlace == P.inPlace f) = true) (h11 : (c.unfollowed == P.unfollowed f) = true) (h12 : (c.recurses == P.recurses f) = true) (h13 : (c.named == P.varsNamed f) = true)
    (h14 : (c.maps == (fn.params.toList ++ s.plain.varTypes P).any (P.mapsRec ·)) = true) (h15 : (c.ifaces == (fn.params.toList ++ s.plain.varTypes P).any (P.ifacesRec ·)) = true) (h16 : (c.mapsOut == P.mapsAmong fn.resultTypes.toList) = true)
    (h17 : (c.loops == (fn.params.toList ++ s.plain.varTypes P).any (P.loopsFrom ·)) = true) (h17b : (c.wideKeys == (fn.params.toList ++ s.plain.varTypes P ++ fn.resultTypes.toList).any (P.wideKeysFrom ·)) = true)
    (h18 : s.vars.all (P.varReadable ·) = true) (h19 : fn.resultTypes.all (fun t => P.readableRec t && decide (t < P.types.size)) = true) (h20 : (c.ifacesOut == fn.resultTypes.toList.any (P.ifacesRec ·)) = true) (h21 : (c.loopsOut == fn.resultTypes.toList.any (P.loopsFrom ·)) = true)
    (h22 : (c.plainKeys == P.plainKeys) = true) (h23 : c.shortTexts.isNone = true) (h23b : P.stopsHeard = true) (h24 : P.mayEnter = true) (h24b : (c.lifted == P.liftsFinal) = true) (h24c : (P.make == some c.make) = true)
    (h25 : (c.kinds == (if c.domain.isEmpty then [] else fn.params.toList.map fun t => match P.underlying t with | some (.int k) => some k | _ => none)) = true) (h26 : (c.pinned == c.pinnedBy) = true)
    (h27 : (c.veiled == (fn.params.toList ++ s.plain.varTypes P ++ fn.resultTypes.toList).any (P.veiledRec ·)) = true) (h28 : c.veiledFits P fn.params.toList (fn.params.toList ++ s.plain.varTypes P ++ fn.resultTypes.toList) = true) :
    joinedFacts P f fn s c = true := by
  unfold joinedFacts
  simp only [Bool.and_eq_true]
  exact ⟨⟨⟨⟨⟨⟨⟨⟨⟨⟨⟨⟨⟨⟨⟨⟨⟨⟨⟨⟨⟨⟨⟨⟨⟨⟨⟨⟨⟨⟨⟨h1, h2⟩, h3⟩, h4⟩, h5⟩, h6⟩, h7⟩, h8⟩, h9⟩, h10⟩, h11⟩, h12⟩, h13⟩, h14⟩, h15⟩, h16⟩, h17⟩, h17b⟩, h18⟩, h19⟩, h20⟩, h21⟩, h22⟩, h23⟩, h23b⟩, h24⟩, h24b⟩, h24c⟩, h25⟩, h26⟩, h27⟩, h28⟩
set_option maxRecDepth 100000 in
theorem joined : joinedFacts Tryz.prog 3 Tryz.f3 Rows.topSharesSpec Rows.topSharesRow = true :=
  @joined_of Tryz.prog 3 Tryz.f3 Rows.topSharesSpec Rows.topSharesRow j1 j2 j3 j4 j5 j6 j7 j8 j9 j10 j11 j12 j13 j14 j15 j16 j17 j17b j18 j19 j20 j21 j23 j24 j25 j26 j27 j28 j29 j30 j31 j32
end Go.Proofs.Sh
namespace Go.Proofs.Sh
open Go Go.ChangeShapes Go.WideShapes Go.ChangeAt Go.RowKit
open Go.Proofs.YtlhpdegoglgdpaaGreatDoor
theorem gPow : Tryz.prog.globalNamed "internal/strconv.uint64pow10" = some 2 := by kernel_rfl
theorem tPow : (Tryz.prog.globals[2]?).map (·.type) = some 753 := by kernel_rfl
theorem cPow : Tryz.prog.cellsOf 753 = 20 := by kernel_rfl
theorem cU64 : Tryz.prog.cellsOf 52 = 1 := by kernel_rfl
theorem u753 : Tryz.prog.underlying 753 = some (.array 20 52) := by kernel_rfl
theorem u52 : Tryz.prog.underlying 52 = some (.int .u64) := by kernel_rfl
theorem gsize : Tryz.prog.globals.size = 9 := by kernel_rfl
theorem row0 (g : Nat) (h : g < 9) : ∃ z t, ((begin Tryz.prog (fun _ _ => 0) default).world.heap[g]?).bind Obj.row? = some (z, t) := by
  have hb : (begin Tryz.prog (fun _ _ => 0) default).world.heap[g]? ≠ none ∧ ∀ x, (begin Tryz.prog (fun _ _ => 0) default).world.heap[g]? = some x → x.row?.isSome = true := by
    have key : ((List.range 9).all fun g => (((begin Tryz.prog (fun _ _ => 0) default).world.heap[g]?).bind Obj.row?).isSome) = true := by
      unfold begin
      rw [wt]
      kernel_rfl
    have := List.all_eq_true.1 key g (List.mem_range.2 h)
    cases hh : (begin Tryz.prog (fun _ _ => 0) default).world.heap[g]? with
    | none => rw [hh] at this; cases this
    | some x =>
      rw [hh] at this
      exact ⟨by simp, fun y hy => by cases hy; exact this⟩
  obtain ⟨h1, h2⟩ := hb
  cases hh : (begin Tryz.prog (fun _ _ => 0) default).world.heap[g]? with
  | none => exact absurd hh h1
  | some x =>
    have := h2 x hh
    cases hr : x.row? with
    | none => rw [hr] at this; cases this
    | some zt => exact ⟨zt.1, zt.2, by simp [hr]⟩
theorem glob_lt {W : World} (h : W.ShapedOpen Tryz.prog) : ∀ g, g < Ev.numG → g < W.heap.size := by
  intro g hg
  obtain ⟨z, t, hz⟩ := row0 g hg
  obtain ⟨cs, hcs, _⟩ := h.1 g z t (by rw [gsize]; exact hg) hz
  exact (Array.getElem?_eq_some_iff.1 hcs).1
theorem max_len {W : World} (h : W.ShapedOpen Tryz.prog) : ∃ m, W.cell? ⟨0, 0, none⟩ = some (.int .i64 m) :=
  cell_of_shapedOpen_int (P := Tryz.prog) (g := 0) (t := 3) (zero := #[.int .i64 0]) h (by rw [gsize]; decide) (by unfold begin; rw [wt]; kernel_rfl) rfl (by kernel_rfl) (by kernel_rfl) Tryz.underlying3
theorem row2 : ((begin Tryz.prog (fun _ _ => 0) default).world.heap[2]?).bind Obj.row? = some ((((Tryz.prog.types[753]?).bind (·.zero)).map (·.cells)).getD #[], 753) := by
  unfold begin
  rw [wt]
  kernel_rfl
theorem pow_cells {cs : List Value} {fuel : Nat} {p : List MemPlace} {W : World} (h : DataW.trod (fun _ => ()) Tryz.prog W 0 (fun _ => true) false fuel 753 cs = some (Rows.laid_internal_strconv_uint64pow10, p)) : cs = Ev.powL := by
  obtain ⟨xs, m, _, ex, hlen, hl, hel⟩ := DataW.trod_array u753 h
  rw [cPow] at hlen
  rw [cU64] at hel
  have e3 : Rows.laid_internal_strconv_uint64pow10 = .agg (xs.map (·.1)) := (Prod.mk.inj ex).1
  have e4 : xs.map (·.1) = Ev.powL.map fun v => match v with | .int k n => (DataW.lit (.int k n) : DataW Unit) | _ => .nil := (DataW.agg.inj e3).symm
  apply List.ext_getElem?
  intro i
  by_cases hi : i < 20
  · have h1 := hel i hi
    have hxi : xs[i]? = some xs[i] := List.getElem?_eq_getElem (by omega)
    rw [hxi] at h1
    obtain ⟨n, h2, h3, _⟩ := DataW.trod_int u52 h1
    have h4 : cs[i]? = some (.int .u64 n) := by
      have := congrArg (·[0]?) h2
      simp only [List.getElem?_take, List.getElem?_drop] at this
      simpa using this
    have h5 := congrArg (·[i]?) e4
    simp only [List.getElem?_map, hxi, Option.map_some, h3] at h5
    rw [h4]
    have hp : Ev.powL[i]? = some (Ev.powL[i]'(by show i < 20; exact hi)) := List.getElem?_eq_getElem _
    rw [hp] at h5 ⊢
    simp only [Option.map_some, Option.some.injEq] at h5
    have hk : ∀ v ∈ Ev.powL, ∃ n, v = .int .u64 n := by
      intro v hv
      simp only [Ev.powL, List.mem_cons, List.not_mem_nil, or_false] at hv
      rcases hv with rfl | rfl | rfl | rfl | rfl | rfl | rfl | rfl | rfl | rfl | rfl | rfl | rfl | rfl | rfl | rfl | rfl | rfl | rfl | rfl <;> exact ⟨_, rfl⟩
    obtain ⟨y, hy⟩ := hk _ (List.getElem_mem (by show i < 20; exact hi))
    rw [hy] at h5 ⊢
    simp only [DataW.lit.injEq, Lit.int.injEq, true_and] at h5
    rw [h5]
  · rw [List.getElem?_eq_none (by omega), List.getElem?_eq_none (by show 20 ≤ i; omega)]
theorem pow_of {W : World} (hsh : W.ShapedOpen Tryz.prog) (h : laidMetH Tryz.prog Rows.topSharesRow.laid W) : ∃ r, W.heap[2]? = some (.cells Ev.powL.toArray 753 r) := by
  rw [MakeChecks.laidMetH_plain _ _ _ wit6] at h
  obtain ⟨ps, ⟨g, t, cs, fuel, p, q, hg, ht, hv, hd, _, _⟩, _, _⟩ := h
  obtain rfl := Option.some.inj (gPow.symm.trans hg)
  obtain rfl := Option.some.inj (tPow.symm.trans ht)
  obtain ⟨cs', hcs, _⟩ := hsh.1 2 _ 753 (by rw [gsize]; decide) row2
  unfold World.var? at hv
  rw [gPow] at hv
  simp only [Option.bind_some, hcs, Option.some.injEq] at hv
  subst hv
  have := pow_cells hd
  exact ⟨(0, 0), by rw [hcs, ← this]⟩
theorem cells_open {W : World} {a : Addr} {cap : Nat} {zs : List Int} (h1 : 1 ≤ cap) (hcell : ∀ i, i < cap → W.cell? (a.add i) = some (.int .i64 (zs.getD i 0))) :
    ∃ c j e r cc, a = ⟨c, j, none⟩ ∧ W.heap[c]? = some (.cells cc e r) ∧ j + cap ≤ cc.size ∧ ∀ i, i < cap → cc[j + i]? = some (.int .i64 (zs.getD i 0)) := by
  obtain ⟨c, j, sp⟩ := a
  have h0 := hcell 0 h1
  unfold World.cell? Addr.add at h0
  simp only at h0
  split at h0
  · rename_i cc e r hh
    cases sp with
    | some _ => simp at h0
    | none =>
      have key : ∀ i, i < cap → cc[j + i]? = some (.int .i64 (zs.getD i 0)) := by
        intro i hi
        have := hcell i hi
        have ea : (⟨c, j, none⟩ : Addr).add i = ⟨c, j + i, none⟩ := by unfold Addr.add; split <;> simp_all
        rw [ea] at this
        have hh' : W.heap[c]? = some (.cells cc e r) := hh
        unfold World.cell? at this
        simp only [hh'] at this
        simpa using this
      refine ⟨c, j, e, r, cc, rfl, hh, ?_, key⟩
      have := (Array.getElem?_eq_some_iff.1 (key (cap - 1) (by omega))).1
      omega
  · cases h0
theorem below_of {W W' : World} (h : Ev.OldKept W W') : Below W.heap.size W W' := ⟨h.os, h.tape, h.output, h.size, h.heap⟩
set_option maxRecDepth 100000 in
theorem contract {H : Type} (enc : TypeId × Value → H) (W : World) (base : Nat) (args : Array Value) (ds gs : List (DataW H)) (before : List MemPlace)
    (hval : ∀ (j : Nat) t v, Tryz.f3.params[j]? = some t → args[j]? = some v → Value.okWide Tryz.prog W .any base t v)
    (hW : DataW.Whole enc Tryz.prog Tryz.f3.params.toList Rows.topSharesSpec.vars false W args.toList ds gs before)
    (hL : laidMetH Tryz.prog Rows.topSharesRow.laid W) (hsh : W.ShapedOpen Tryz.prog) :
    Calls Tryz.prog 3 args W fun e W' => ∃ v, e = .returned v ∧ Rows.topSharesSpec.post enc Tryz.prog Tryz.f3 false true false false W args v W' := by
  have hW' := hW
  obtain ⟨p, q, hA0, hV, rfl, hfz, hnd⟩ := hW
  have hA : DataW.TrodAll enc Tryz.prog W 0 (fun _ => true) true Tryz.f3.params.toList args.toList ds p := hA0
  rw [Tryz.params3] at hA hval
  obtain ⟨v0, vs0, d0, ds0, p0, q0, hargs, rfl, rfl, h0, r00⟩ := trodAll_cons hA
  obtain ⟨rfl, rfl, rfl⟩ := trodAll_nil r00
  obtain rfl : args = #[v0] := by cases args; simp_all
  obtain ⟨rfl, rfl⟩ := trodVars_none hV
  have k0 := h0
  have lt0 : ∀ x ∈ p0, x.block < W.heap.size := by obtain ⟨m, hm⟩ := k0; exact DataW.trod_lt m _ _ _ hm
  have s0 := okWide_slice Tryz.underlying22 (hval 0 22 v0 rfl rfl)
  clear hA0
  have walk : Calls Tryz.prog 3 #[v0] W fun e W' => e = .returned (.bool true) ∧ Ev.OldKept W W' := by
    obtain ⟨fuel, hf⟩ := h0
    obtain ⟨a', n', c', rfl⟩ := s0
    rcases open_ints Tryz.underlying22 Tryz.underlying3 (by kernel_rfl) hf with ⟨hcs, _⟩ | ⟨a, len, cap, zs, hcs, _, hl, hm, hz, _, hcell, _⟩
    · have : Value.slice a' n' c' = .slice none 0 0 := by simpa [Value.cells] using hcs
      injection this with h1 h2 h3
      subst h1; subst h2; subst h3
      exact shares_any (max_len hsh) (pow_of hsh hL) (glob_lt hsh) none [] 0 (by decide) (fun h => by simp at h)
    · have : Value.slice a' n' c' = .slice (some a) len cap := by simpa [Value.cells] using hcs
      injection this with h1 h2 h3
      subst h1; subst h2; subst h3
      have hzl : zs.length = c' := by simpa using hz
      have hxl : (zs.take n').length = n' := by simp; omega
      have := shares_any (max_len hsh) (pow_of hsh hL) (glob_lt hsh) (some a) (zs.take n') c' (by rw [hxl]; unfold maxLen at hm; omega) (fun h => by
        rw [hxl] at h
        obtain ⟨c, j, e, r, cc, ha, hheap, hj, hk⟩ := cells_open (W := W) (a := a) (cap := c') (zs := zs) (by omega) (fun i hi => hcell i (by omega))
        refine ⟨c, j, e, r, cc, by rw [ha], hheap, by rw [hxl]; exact hl, hj, fun i z hi => ?_⟩
        have hlt : i < n' := by
          have := (List.getElem?_eq_some_iff.1 hi).1
          omega
        rw [hk i (by omega)]
        rw [List.getElem?_take, if_pos hlt] at hi
        simp [List.getD, hi])
      rw [hxl] at this
      exact this
  refine walk.mono fun e W' ⟨he, hold⟩ => ?_
  subst he
  have bel := below_of hold
  exact ⟨_, rfl, _, _, _, [], _, [], hW', trodAll_mk1 (shut_bool Tryz.underlying4 _), trodAll_cons_mk (Below.trod j2 r22 (by rw [tsize]; decide) k0 bel lt0) trodAll_mk0, rfl, bel.frame _, fun h => by cases h⟩
theorem own : ownKnob Tryz.prog.godebug = none := by kernel_rfl
theorem no_init : Tryz.prog.inits.idxOf? 3 = none := by kernel_rfl
set_option maxRecDepth 100000 in
theorem lifted (os : Os) (started : os.Started) (H : Type) (enc : TypeId × Value → H) :
    ReturnsInHanded {} Tryz.checked os 3 .any (fun w args => (Rows.topSharesSpec.pre enc Tryz.prog Tryz.f3 [] false w args ∧ laidMetH Tryz.prog Rows.topSharesRow.laid w) ∧ sizedMet enc Tryz.prog Tryz.f3 (OpenSpec.ofChange Rows.topSharesSpec) false w args)
      (Rows.topSharesSpec.post enc Tryz.prog Tryz.f3 false true false false) := by
  refine returnsInHanded_of_calls (C := Tryz.checked) own started no_init
    (ChangeSpec.witness_shaped (enc := enc) (C := Tryz.checked) (os := os) (X := fun w _ => laidMetH Tryz.prog Rows.topSharesRow.laid w) false (witW os) witA 8 rfl (World.shaped_of_ZipB (wit1 os) (wit2 os)) (wit3 os) (wit4 enc os) (wit5 enc os) (witL os)) ?_
  intro w tape i _ hsh _ hok hpre _
  obtain ⟨_, _, _, fn', hfn', _, _, _, _, hval⟩ := hok
  have e : fn' = Tryz.f3 := Option.some.inj (hfn'.symm.trans Tryz.func3)
  subst e
  obtain ⟨⟨⟨ds, gs, before, hw, _⟩, hx⟩, _⟩ := hpre
  have hw' := DataW.Whole.of_heap (w' := w.forCall tape i) (by rfl) hw
  have hx' : laidMetH Tryz.prog Rows.topSharesRow.laid (w.forCall tape i) := hx.of_heap (by rfl)
  refine (contract enc (w.forCall tape i) w.heap.size i.args ds gs before hval hw' hx' hsh).mono fun e W' ⟨v, he, hp⟩ => ?_
  subst he
  exact ChangeSpec.post_blind hp
end Go.Proofs.Sh
namespace Go.Proofs.Sh
open Go
open Go.Proofs.YtlhpdegoglgdpaaGreatDoor
theorem tie : Tryz.prog.laidByTextLater l6 [.data, .data, .data, .sentinel, .sentinel, .data] true :=
  Program.laidByTextLater_by_run 400 8 k1 k2 k3 k4 k5 k6 done laid1 laid2 k7
theorem row_tie : Rows.topSharesRow.laidByTextAt .later Tryz.pinned [.data, .data, .data, .sentinel, .sentinel, .pinned, .data] true :=
  OpenClaim.laidByTextAt_pinned rfl rfl tie rfl rfl rfl rfl (fun y hy _e => by
    simp only [Rows.topSharesRow, List.zip_cons_cons, List.zip_nil_right, List.mem_cons, List.mem_nil_iff, or_false] at hy
    rcases hy with rfl | rfl | rfl | rfl | rfl | rfl | rfl
    · cases _e
    · cases _e
    · cases _e
    · cases _e
    · cases _e
    · exact ⟨pin_first, by kernel_rfl⟩
    · cases _e) fits1
end Go.Proofs.Sh
