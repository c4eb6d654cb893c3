/- A part of the proof of TopShares: for every row of weights the law returns true, and the row reads as before. No condition beyond the statement's own. -/
import Derived.Test.YtlhpdegoglgdpaaGreatDoorEvRa
import Derived.Laws.Externs
import Derived.Lib.Bytealg
import Derived.Shelf.Strings.Search2
import Derived.Shelf.Bytes.SlIndexWhole
set_option linter.all false
set_option linter.unusedVariables false
set_option linter.unusedSimpArgs false
set_option linter.constructorNameAsVariable false
set_option linter.deprecated false
namespace Go.Ev
noncomputable section
open Go
def ExtOk1 (G : Cfg) : Prop :=
  ∀ f fn x, G.ft.get f = some fn → fn.body = none → extOf f G.ext = some x → ∀ args h k r, extV (match (fn.resultTypes[0]?).bind G.und with | some (.slice e) => e | _ => 0) x args h k = r → r.ok →
    ∀ B σ (args' : Array Value) w, VRs σ args args'.toList → HR B σ h w → ∃ v h' τ u w', k v h' = r ∧ (callFunc f args').run G.P w = .ok (.value u) w' ∧ Grows h.next σ τ ∧ Keeps h h' ∧ VR τ v u ∧ HR B τ h' w'
structure ExtOk (G : Cfg) : Prop where
  ext : ExtOk1 G
  sum : SumOk G
  there : ∀ f x, sumOf f G.sums = some x → G.ft.get f ≠ none
  apart : ∀ f x fn, sumOf f G.sums = some x → G.ft.get f = some fn → fn.body ≠ none
section
variable {G : Cfg}
theorem callF_takes (hG : G.Ok) (hX : ExtOk G) {s : Self} (hs : SelfOk G s) {f : Nat} {args : List AV} {h : AH} {k : KV} {r : Out} (e : callF G s f args h k = r) (ok : r.ok)
    {B : Base} {σ : Sg} {args' : Array Value} {caller : Frame} {cs : List Frame} {w : World} {Z : Machine → Prop} (hv : VRs σ args args'.toList) (hr : HR B σ h w) (K : Back G.P B σ h k r caller cs Z) :
    Takes G.P ((callFunc f args').run G.P w) caller cs Z := by
  cases hf : G.ft.get f with
  | none =>
    cases hsum : sumOf f G.sums with
    | some x => exact absurd hf (hX.there f x hsum)
    | none =>
    have e : (prepF G 4 f).f s args h k = r := by rw [callF_none hsum] at e; exact e
    unfold prepF at e
    rw [hf] at e
    subst e; exact ok.elim
  | some fn =>
    cases hb : fn.body with
    | some code =>
      have hcode : (G.ft.get f).bind (·.body) = some code := by rw [hf]; exact hb
      obtain ⟨h1, h2⟩ := enter_ok hG hX.sum s hs f args h k r e ok ⟨code, hcode⟩ B σ args' caller cs w Z hv hr K
      rw [h2]; exact h1
    | none =>
      cases hsum : sumOf f G.sums with
      | some x => exact absurd hb (hX.apart f x fn hsum hf)
      | none =>
      have e : (prepF G 4 f).f s args h k = r := by rw [callF_none hsum] at e; exact e
      unfold prepF at e
      rw [hf] at e
      simp only [hb] at e
      cases hx : extOf f G.ext with
      | none => rw [hx] at e; subst e; exact ok.elim
      | some x =>
        rw [hx] at e
        obtain ⟨v, h', τ, u, w', e1, hrun, hg, hk, hv', hr'⟩ := hX.ext f fn x hf hb hx args h k r e ok B σ args' w hv hr
        rw [hrun]
        exact K v h' τ u w' e1 hg hk hv' hr'
theorem putsD_inv {σ : Sg} {nt : Nat} {r : Out} (ok : r.ok) : ∀ (ts : List Nat) (vs : List AV) (tr : Tr) (k : Tr → Out), putsD nt ts vs tr k = r →
    ∃ tr', k tr' = r ∧ ts.length = vs.length ∧ ∀ (us : List Value) (tm : Array Value), VRs σ vs us → TR σ nt tr tm → TR σ nt tr' ((ts.zip us).foldl (fun tmps (t, a) => tmps.setIfInBounds t a) tm)
  | [], [], tr, k, e => ⟨tr, e, rfl, fun us tm _ ht => by simpa using ht⟩
  | [], _ :: _, tr, k, e => by have e : Out.bad 118 = r := e; subst e; exact ok.elim
  | _ :: _, [], tr, k, e => by have e : Out.bad 118 = r := e; subst e; exact ok.elim
  | t :: ts, v :: vs, tr, k, e => by
    have e : (cput nt t).f tr v (fun tr' => putsD nt ts vs tr' k) = r := e
    obtain ⟨hlt, tr1, e, hp⟩ := cput_inv e ok
    obtain ⟨tr', e, hl, hf⟩ := putsD_inv ok ts vs tr1 k e
    refine ⟨tr', e, by simp [hl], fun us tm hu ht => ?_⟩
    simp only [VRs] at hu
    obtain ⟨u, m, rfl, h1, h2⟩ := hu
    exact hf m _ h2 (TR.put ht hlt hp h1)
theorem yield_takes {s : Self} (hs : SelfOk G s) {l : Nat} {args : List AV} {h : AH} {k : KV} {r : Out} (e : yieldF s l args h k = r) (ok : r.ok)
    {B : Base} {σ : Sg} {args' : Array Value} {c d n : Nat} {caller : Frame} {cs : List Frame} {w : World} {Z : Machine → Prop} (hl : σ.at_ l = some (c, d, n)) (hv : VRs σ args args'.toList) (hr : HR B σ h w)
    (K : Back G.P B σ h k r caller cs Z) : Takes G.P ((Instr.yield c args').run G.P w) caller cs Z := by
  obtain ⟨x, hx, e⟩ := hget_inv (show hget h l (fun x => asLoop x fun lp => putsD lp.nt lp.params args lp.tr fun tr =>
    s ⟨lp.nt, true, lp.assign⟩ tr ⟨h.t, h.next, [], h.lo⟩ fun x tr h1 => match x with
      | .normal => hget h1 l fun x => asLoop x fun lq => (match lq.state with
        | .ready => hset h1 l (.loop { lq with state := .busy }) fun h2 => s ⟨lp.nt, true, lp.body⟩ tr h2 fun x _ h3 =>
            hget h3 l fun y => asLoop y fun lq => hset h3 l (.loop { lq with state := stOf x, pending := codeOf x }) fun h4 =>
              withDs h4 h.ds fun h5 => k (.bool (goOn x)) h5
        | _ => .bad 120)
      | _ => .bad 121) = r from e) ok
  obtain ⟨lp, rfl, e⟩ := asLoop_inv e ok
  obtain ⟨L, hL, hLR⟩ := (show BR σ d n (.loop lp) w.heap[c]? from hr.blk _ _ _ _ _ hx hl)
  obtain ⟨tr, e, hlen, hput⟩ := putsD_inv (σ := σ) ok _ _ _ _ e
  have hsz : args'.size = L.params.size := by
    have h1 := hv.length
    have h2 := congrArg List.length hLR.params
    simp at h1 h2; omega
  have hrun : (Instr.yield c args').run G.P w = .ok (.round c L.fn ((L.params.zip args').foldl (fun tmps (t, a) => tmps.setIfInBounds t a) L.tmps) L.assign L.body) w := by
    simp [Instr.yield, Instr.getLoop, run_getObj' hL (by simp), hsz]
  rw [hrun]
  show Reach G.P (lone (Frame.round c L.fn _ L.assign L.body .normal) (caller :: cs) w) Z
  have htm := hput args'.toList L.tmps hv hLR.tmps
  have hfold : ((L.params.zip args').foldl (fun tmps (t, a) => tmps.setIfInBounds t a) L.tmps) = ((lp.params.zip args'.toList).foldl (fun tmps (t, a) => tmps.setIfInBounds t a) L.tmps) := by
    rw [← Array.foldl_toList, Array.toList_zip, hLR.params]
  rw [hfold]
  let cx : Cx := ⟨L.fn, .normal, some c⟩
  have hfit : cx.Fits true (caller :: cs) := ⟨⟨c, rfl⟩, .inl rfl⟩
  show Reach G.P (lone (cx.fr _ [] [.code L.assign, .beginRound, .code L.body]) (caller :: cs) w) Z
  rw [hLR.assign, hLR.body]
  refine hs lp.nt true lp.assign tr _ _ r e ok B σ cx _ [] _ [.beginRound, .code lp.body] (caller :: cs) w Z hfit (.inl rfl) htm (hr.withDs []) rfl ?_
  intro x tr1 h1 τ tm1 ds1 w1 e1 hg1 hst1 ht1 hr1 hds1
  cases x with
  | exit i => have e1 : Out.bad 121 = r := e1; subst e1; exact ok.elim
  | goto i => have e1 : Out.bad 121 = r := e1; subst e1; exact ok.elim
  | ret => have e1 : Out.bad 121 = r := e1; subst e1; exact ok.elim
  | normal =>
    simp only at e1
    obtain ⟨x, hx1, e1a⟩ := hget_inv e1 ok
    obtain ⟨lq, hlq, e1b⟩ := asLoop_inv e1a ok
    rw [hlq] at hx1
    clear e1a hlq x e1
    have e1 := e1b
    have hlt : l < h.next := hr.below l _ hx
    have hl1 : τ.at_ l = some (c, d, n) := by rw [hg1.at_ l hlt]; exact hl
    obtain ⟨L1, hL1, hLR1⟩ := (show BR τ d n (.loop lq) w1.heap[c]? from hr1.blk _ _ _ _ _ hx1 hl1)
    cases hst : lq.state with
    | busy => rw [hst] at e1; subst e1; exact ok.elim
    | done => rw [hst] at e1; subst e1; exact ok.elim
    | exhausted => rw [hst] at e1; subst e1; exact ok.elim
    | ready =>
      rw [hst] at e1
      simp only at e1
      obtain ⟨t2, hset2, e1⟩ := hset_inv e1 ok
      have hput2 := hr1.put hx1 rfl rfl hl1 hset2 (o := .loop { L1 with state := .busy }) ⟨_, rfl, rfl, hLR1.pending, hLR1.tmps, hLR1.params, hLR1.assign, hLR1.body⟩ h1.ds
      have hstL : L1.state = .ready := by rw [hLR1.state, hst]
      refine go_beginRound (c := cx) (l := c) rfl (w' := World.put w1 c (.loop { L1 with state := .busy })) ?_ ?_
      · simp only [Instr.beginRound, Instr.getLoop, Sem.run_bind, run_getObj' hL1 (by simp), Result.andThen_ok, run_setObj' hL1 (by simp), Sem.run_pure, hstL]
      · refine hs lp.nt true lp.body tr1 _ _ r e1 ok B τ cx tm1 ds1 _ [] (caller :: cs) _ Z hfit (.inl rfl) ht1 hput2 hds1 ?_
        intro x tr3 h3 τ3 tm3 ds3 w3 e3 hg3 hst3 ht3 hr3 hds3
        obtain ⟨y, hy3, e3a⟩ := hget_inv e3 ok
        obtain ⟨lr, hlr, e3b⟩ := asLoop_inv e3a ok
        rw [hlr] at hy3
        clear e3a hlr y e3
        have e3 := e3b
        have hlt1 : l < h1.next := Nat.lt_of_lt_of_le hlt hst1.next
        have hl3 : τ3.at_ l = some (c, d, n) := by rw [hg3.at_ l hlt1]; exact hl1
        obtain ⟨L3, hL3, hLR3⟩ := (show BR τ3 d n (.loop lr) w3.heap[c]? from hr3.blk _ _ _ _ _ hy3 hl3)
        obtain ⟨t4, hset4, e4⟩ := hset_inv e3 ok
        have hput4 := hr3.put hy3 rfl rfl hl3 hset4 (o := .loop { L3 with state := stOf x, pending := codeOf x }) ⟨_, rfl, rfl, rfl, hLR3.tmps, hLR3.params, hLR3.assign, hLR3.body⟩ h.ds
        have e4 : k (.bool (goOn x)) ⟨t4, h3.next, h.ds, h3.lo⟩ = r := e4
        have hkeep : Keeps h ⟨t4, h3.next, h.ds, h3.lo⟩ := ⟨(((Stays.ds h []).trans hst1).trans (Stays.set hset2 h1.ds)).trans (hst3.trans (Stays.set hset4 h.ds)), rfl⟩
        have hgr : Grows h.next σ τ3 := hg1.trans hg3 hst1.next
        have hend : (Instr.endRound c (codeOf x)).run G.P w3 = .ok (.bool (goOn x)) (World.put w3 c (.loop { L3 with state := stOf x, pending := codeOf x })) := by
          simp only [Instr.endRound, Instr.getLoop, Sem.run_bind, run_getObj' hL3 (by simp), Result.andThen_ok, Sem.run_pure]
          rw [run_setObj' hL3 (by simp)]
          cases x <;> simp [codeOf, stOf, goOn]
        have hfin := K _ _ τ3 (.bool (goOn x)) _ e4 hgr hkeep (by simp [VR]) hput4
        have hleave := go_leaveRound (P := G.P) (c := cx) (tm := tm3) (ds := ds3) (cs := cs) (caller := caller) (l := c) (j := codeOf x) rfl rfl hend hfin
        cases x with
        | normal => exact hleave.1 rfl
        | exit i => exact fun k' hk' => hleave.2.2.1 i rfl k' (by rw [hk']; rfl)
        | goto i => exact fun k' hk' => hleave.2.2.2 i rfl k' (by rw [hk']; rfl)
        | ret => exact fun k' => hleave.2.1 rfl k'
theorem calls_ok (hG : G.Ok) (hX : ExtOk G) : CallsOk G := by
  intro s hs f args h k r e ok B σ fv args' caller cs w Z hf hv hr K
  unfold callV at e
  split at e
  · rename_i g first cap
    simp only [VR] at hf
    obtain ⟨first', cap', rfl, h1, h2⟩ := hf
    have hall : VRs σ (first ++ args ++ cap) (first' ++ args' ++ cap').toList := by
      simp only [Array.toList_append]
      exact VRs.append (VRs.append h1 hv) h2
    have := callF_takes hG hX hs e ok hall hr K
    have hrun : (calling (.func (.func g) first' cap') args').run G.P w = (callFunc g (first' ++ args' ++ cap')).run G.P w := by
      simp only [calling, Deferred.ofValue, Sem.run_bind, Sem.run_pure, Result.andThen_ok]
      rfl
    rw [hrun]; exact this
  · rename_i l
    simp only [VR] at hf
    obtain ⟨c, d, n, hl, rfl⟩ := hf
    have := yield_takes hs e ok hl hv hr K
    have hrun : (calling (.func (.yield c) #[] #[]) args').run G.P w = (Instr.yield c args').run G.P w := by
      simp only [calling, Deferred.ofValue, Sem.run_bind, Sem.run_pure, Result.andThen_ok]
      simp [invoke]
    rw [hrun]; exact this
  · subst e; exact ok.elim
end
end
end Go.Ev
namespace Go.Ev
noncomputable section
open Go
section
variable {G : Cfg} {nt : Nat} {rnd : Bool} {o : Oper}
theorem no_step {n : Nat} : OStep G nt rnd o (no n).f := by
  intro s _ tr h k r e ok
  have e : Out.bad n = r := e
  subst e; exact ok.elim
theorem go_takes {P : Program} {c : Cx} {tm : Array Value} {ds : List Deferred} {k : List Item} {cs : List Frame} {w : World} {Z : Machine → Prop} {ops : Array Oper} {i : Nat} {rest : List Nat} (ho : ops[i]? = some o)
    (hw : Region.wanted o (yielded ops tm) = true) (hr : ∀ cl, o.op ≠ .defer cl) (h : Takes P ((execOp (ev tm) o).run P w) (c.fr tm ds (.inRegion ops (i :: rest) :: k)) cs Z) :
    Reach P (lone (c.fr tm ds (.inRegion ops (i :: rest) :: k)) cs w) Z := by
  cases hx : (execOp (ev tm) o).run P w with
  | halt x w' => rw [hx] at h; exact h.elim
  | ok n w' =>
    rw [hx] at h
    cases n <;> first | exact h.elim | skip
    case value u =>
      refine go_value ho hw (.inr hr) hx ?_
      have h : Reach P (lone ((c.fr tm ds (.inRegion ops (i :: rest) :: k)).finish u) cs w') Z := h
      rw [Cx.finish, ho] at h
      exact h
    case enter f args => exact go_enter ho hw (.inr hr) hx h
    case round l f tmps assign body => exact go_round ho hw (.inr hr) hx h
theorem call_step {F : OpF} (hd : ∀ cl, o.op ≠ .defer cl)
    (hF : ∀ s, SelfOk G s → ∀ tr h k r, F s tr h k = r → r.ok → ∀ B σ tm w caller cs Z, (∀ x ∈ o.op.operands, OpR σ nt tr tm x) → HR B σ h w → Back G.P B σ h k r caller cs Z →
      Takes G.P ((execOp (ev tm) o).run G.P w) caller cs Z) : OStep G nt rnd o F := by
  intro s hs tr h k r e ok B σ c tm ds cs w Z _ hop hr hds ops i rest todo ho hw K
  refine go_takes ho hw hd (hF s hs tr h k r e ok B σ tm w _ cs Z hop hr ?_)
  intro v h' τ u w' e1 hg hk hv hr'
  rw [Cx.finish, ho]
  exact K v h' τ u w' ds e1 hg hk.toStays hv hr' (by rw [hk.ds]; exact hds.mono (hr.grows_le hg))
theorem value_callee {x : Operand} {args : Array Operand} {at_ : Array TypeId} (ho : o.op = .call ⟨.value x, args, at_⟩) : x ∈ o.op.operands ∧ ∀ y ∈ args.toList, y ∈ o.op.operands := by
  rw [ho]
  simp only [Op.operands, Call.operands]
  constructor
  · simp
  · intro y hy
    have : y ∈ args := by simpa using hy
    simp [this]
theorem invoke_callee {x : Operand} {name : String} {args : Array Operand} {at_ : Array TypeId} (ho : o.op = .call ⟨.invoke x name, args, at_⟩) : x ∈ o.op.operands ∧ ∀ y ∈ args.toList, y ∈ o.op.operands := by
  rw [ho]
  simp only [Op.operands, Call.operands]
  constructor
  · simp
  · intro y hy
    have : y ∈ args := by simpa using hy
    simp [this]
theorem callV_step (hC : CallsOk G) {x : Operand} {args : Array Operand} {at_ : Array TypeId} (ho : o.op = .call ⟨.value x, args, at_⟩) :
    OStep G nt rnd o (Box.casesOn (opd nt x) fun g => Box.casesOn (opds nt args.toList) fun gs => ⟨fun s tr h k => g tr fun f => gs tr fun l => callV G s f l h k⟩ : Box OpF).f := by
  obtain ⟨hx, ha⟩ := value_callee ho
  refine call_step (fun cl h => by rw [ho] at h; cases h) ?_
  intro s hs tr h k r e ok B σ tm w caller cs Z hop hr K
  obtain ⟨f, hf, e⟩ := opd_inv (nt := nt) (x := x) (tr := tr) (k := fun f => (opds nt args.toList).f tr fun l => callV G s f l h k) e ok
  obtain ⟨l, e, hl⟩ := opds_inv ok e
  have := hC s hs f l h k r e ok B σ (ev tm x) (args.map (ev tm)) caller cs w Z (hop x hx f hf) (by simpa using hl σ tm fun y hy => hop y (ha y hy)) hr K
  have hrun : execOp (ev tm) o = calling (ev tm x) (args.map (ev tm)) := by simp only [execOp, ho, resolve, calling]
  rw [hrun]; exact this
theorem callF_step (hC : CallsOk G) {f : FuncId} {args : Array Operand} {at_ : Array TypeId} (ho : o.op = .call ⟨.value (.func f), args, at_⟩) :
    OStep G nt rnd o (Box.casesOn (opds nt args.toList) fun gs => ⟨fun s tr h k => gs tr fun l => callF G s f l h k⟩ : Box OpF).f := by
  obtain ⟨hx, ha⟩ := value_callee ho
  refine call_step (fun cl h => by rw [ho] at h; cases h) ?_
  intro s hs tr h k r e ok B σ tm w caller cs Z hop hr K
  obtain ⟨l, e, hl⟩ := opds_inv (nt := nt) (tr := tr) ok (l := args.toList) (k := fun l => callF G s f l h k) e
  have e : callV G s (.fn f [] []) l h k = r := by
    have : ([] : List AV) ++ l ++ [] = l := by simp
    show callF G s f ([] ++ l ++ []) h k = r
    rw [this]; exact e
  have := hC s hs (.fn f [] []) l h k r e ok B σ (ev tm (.func f)) (args.map (ev tm)) caller cs w Z (by simp only [VR, ev]; exact ⟨#[], #[], rfl, VRs.nil, VRs.nil⟩) (by simpa using hl σ tm fun y hy => hop y (ha y hy)) hr K
  have hrun : execOp (ev tm) o = calling (ev tm (.func f)) (args.map (ev tm)) := by simp only [execOp, ho, resolve, calling]
  rw [hrun]; exact this
theorem method_run (hG : G.Ok) {t f : Nat} {name : String} (h : methodF G t name = some f) (v : Value) (n : Nat) (w : World) :
    (method (n + 1) t v name).run G.P w = .ok (f, v) w := by
  unfold methodF at h
  cases hi : G.info t with
  | none => rw [hi] at h; cases h
  | some i =>
    rw [hi] at h
    simp only [Option.bind_some] at h
    cases hm : i.methods.find? (·.name == name) with
    | none => rw [hm] at h; cases h
    | some m =>
      rw [hm] at h
      simp only [Option.bind_some] at h
      split at h
      · rename_i hp
        cases hfn : m.func with
        | none => rw [hfn] at h; cases h
        | some fp =>
          obtain ⟨g, p⟩ := fp
          rw [hfn] at h
          simp only [Option.bind_some] at h
          have hpath : m.path.toList = [] := by
            have : m.path = #[] := by simpa using hp
            rw [this]
          have hinfo := hG.info t i hi
          split at h
          · rename_i e hu
            split at h
            · rename_i hpp
              cases h
              simp [method, typeInfo, hinfo, hm, hpath, follow, hfn, receiverAt, Go.run_underlying (und_ok hG hu), hpp, Place.get]
            · cases h
          · rename_i d hnp hu
            split at h
            · cases h
            · rename_i hpp
              cases h
              have hpf : p = false := by simpa using hpp
              subst hpf
              have hd : ∀ e, d ≠ .pointer e := fun e he => hnp e he
              have hrec : ∀ wr, (receiverAt t (.val v) false wr).run G.P w = .ok v w := by
                intro wr
                unfold receiverAt
                simp only [Sem.run_bind, Go.run_underlying (und_ok hG hu), Result.andThen_ok]
                cases d <;> first | exact absurd rfl (hd _) | (simp [Place.get])
              simp [method, typeInfo, hinfo, hm, hpath, follow, hfn, hrec]
          · cases h
      · cases h
theorem invoke_step (hG : G.Ok) (hX : ExtOk G) {x : Operand} {name : String} {args : Array Operand} {at_ : Array TypeId} (ho : o.op = .call ⟨.invoke x name, args, at_⟩) :
    OStep G nt rnd o (Box.casesOn (opd nt x) fun g => Box.casesOn (opds nt args.toList) fun gs => ⟨fun s tr h k => g tr fun f => gs tr fun l => invokeF G s name f l h k⟩ : Box OpF).f := by
  obtain ⟨hx, ha⟩ := invoke_callee ho
  refine call_step (fun cl h => by rw [ho] at h; cases h) ?_
  intro s hs tr h k r e ok B σ tm w caller cs Z hop hr K
  obtain ⟨f, hf, e1⟩ := opd_inv (nt := nt) (x := x) (tr := tr) (k := fun f => (opds nt args.toList).f tr fun l => invokeF G s name f l h k) e ok
  obtain ⟨l, e2, hl⟩ := opds_inv ok e1
  clear e e1
  have e := e2
  clear e2
  unfold invokeF at e
  split at e
  · rename_i t v
    cases hm : methodF G t name with
    | none => rw [hm] at e; subst e; exact ok.elim
    | some g =>
      rw [hm] at e
      have hfR := hop x hx _ hf
      simp only [VR] at hfR
      obtain ⟨u, hxe, hvu⟩ := hfR
      have hargs : VRs σ (v :: l) (#[u] ++ args.map (ev tm)).toList := by
        simp only [Array.toList_append]
        exact VRs.cons hvu (by simpa using hl σ tm fun y hy => hop y (ha y hy))
      have := callF_takes hG hX hs e ok hargs hr K
      have hrun : (execOp (ev tm) o).run G.P w = (callFunc g (#[u] ++ args.map (ev tm))).run G.P w := by
        have hmr : ∀ n, 0 < n → (method n t u name).run G.P w = .ok (g, u) w := by
          intro n hn
          obtain ⟨n, rfl⟩ := Nat.exists_eq_succ_of_ne_zero (Nat.pos_iff_ne_zero.1 hn)
          exact method_run hG hm u n w
        simp only [execOp, ho, resolve, pure_bind, invoke, hxe]
        have h0 : (#[Value.iface t u] ++ args.map (ev tm))[0]? = some (.iface t u) := by rw [Array.getElem?_append]; rfl
        have h1 : (#[Value.iface t u] ++ args.map (ev tm)).extract 1 (#[Value.iface t u] ++ args.map (ev tm)).size = args.map (ev tm) := by
          apply Array.ext'
          simp [List.take_of_length_le]
        simp only [h0, h1, callMethod]
        have := hmr (G.P.types.size + Made.depth) (by unfold Made.depth; omega)
        simp [this]
      rw [hrun]; exact this
  · subst e; exact ok.elim
theorem go_recover {P : Program} {c : Cx} {tm : Array Value} {ds : List Deferred} {k : List Item} {cs : List Frame} {w : World} {Z : Machine → Prop} {ops : Array Oper} {i : Nat} {rest : List Nat} (ho : ops[i]? = some o)
    (hw : Region.wanted o (yielded ops tm) = true) (hc : c.Fits false cs) (hd : ∀ cl, o.op ≠ .defer cl) (hx : (execOp (ev tm) o).run P w = .ok .recover w)
    (h : Reach P (lone (c.fr (put tm o.dst .nilIface) ds (.inRegion ops rest :: k)) cs w) Z) : Reach P (lone (c.fr tm ds (.inRegion ops (i :: rest) :: k)) cs w) Z := by
  refine .step (step_lone_go ?_) h
  have e := Cx.finish c tm ds ops i rest k .nilIface
  rw [ho] at e
  simp only [Option.bind_some] at e
  rw [stepG_oper ho hw (.inr hd), ← e]
  have hrec : tryRecover (c.fr tm ds (.inRegion ops (i :: rest) :: k)) cs = none := by
    rcases hc.2 with hk | ⟨hk, fr, rst, rfl, hm⟩
    · unfold tryRecover
      simp [Cx.fr, hk]
    · unfold tryRecover
      simp [Cx.fr, hk, hm]
  have hrnd : c.rnd = none := hc.1
  have hround : (c.fr tm ds (.inRegion ops (i :: rest) :: k)).roundOf = none := hrnd
  simp [stepG.apply, hx, hround, hrec]
theorem recover_step {at_ : Array TypeId} (ho : o.op = .call ⟨.builtin .recover, #[], at_⟩) : OStep G nt false o (⟨fun _ _ h k => k .nili h⟩ : Box OpF).f := by
  intro s _ tr h k r e ok B σ c tm ds cs w Z hc hop hr hds ops i rest todo hoi hw K
  refine go_recover hoi hw hc (fun cl h => by rw [ho] at h; cases h) (by simp [execOp, ho, resolve, invoke, builtin]) ?_
  exact K .nili h σ .nilIface w ds e (.refl _ _) (.refl _) (by simp [VR]) hr hds
theorem defer_step {x : Operand} {args : Array Operand} {at_ : Array TypeId} (ho : o.op = .defer ⟨.value x, args, at_⟩) :
    OStep G nt false o (Box.casesOn (opd nt x) fun g => Box.casesOn (opds nt args.toList) fun gs => ⟨fun _ tr h k => g tr fun f => gs tr fun l => deferF f l h k⟩ : Box OpF).f := by
  have hmem : x ∈ o.op.operands ∧ ∀ y ∈ args.toList, y ∈ o.op.operands := by
    rw [ho]
    simp only [Op.operands, Call.operands]
    exact ⟨by simp, fun y hy => by have : y ∈ args := by simpa using hy
                                   simp [this]⟩
  intro s _ tr h k r e ok B σ c tm ds cs w Z hc hop hr hds ops i rest todo hoi hw K
  obtain ⟨f, hf, e1⟩ := opd_inv (nt := nt) (x := x) (tr := tr) (k := fun f => (opds nt args.toList).f tr fun l => deferF f l h k) e ok
  obtain ⟨l, e2, hl⟩ := opds_inv ok e1
  clear e e1
  have e := e2
  clear e2
  unfold deferF at e
  split at e
  · rename_i g first cap
    have hfR := hop x hmem.1 _ hf
    simp only [VR] at hfR
    obtain ⟨first', cap', hfe, h1, h2⟩ := hfR
    have e : k .undef ⟨h.t, h.next, .call g (first ++ l ++ cap) :: h.ds, h.lo⟩ = r := e
    refine go_defer (w' := w) (d := { target := .fn (.func g) cap', args := first' ++ args.map (ev tm) }) hoi hw (.inl hc.1) ?_ ?_
    · simp [execOp, ho, resolve, hfe, Deferred.ofValue]
    · refine K .undef _ σ undef w _ e (.refl _ _) (Stays.ds h _) (by simp [VR, undef]) (hr.withDs _) ⟨_, _, rfl, ⟨cap', _, rfl, ?_⟩, hds⟩
      simp only [Array.toList_append]
      exact VRs.append (VRs.append h1 (by simpa using hl σ tm fun y hy => hop y (hmem.2 y hy))) h2
  · subst e; exact ok.elim
theorem cOp_step (hG : G.Ok) (hX : ExtOk G) (o : Oper) : OStep G nt rnd o (cOp G nt rnd o).f := by
  by_cases hp : plainOp o = true
  · refine (cOp_E hG hp).step fun cl h => ?_
    simp [plainOp, h] at hp
  · cases hop : o.op <;> simp only [plainOp, hop, not_true_eq_false] at hp
    case call c =>
      obtain ⟨callee, args, at_⟩ := c
      cases callee with
      | builtin b =>
        cases b <;> simp at hp
        case recover =>
          simp only [cOp, hop, cCall]
          cases rnd with
          | true => exact no_step
          | false =>
            simp only [Bool.false_eq_true, if_false]
            split
            · rename_i ha
              obtain rfl : args = #[] := Array.toList_inj.1 ha
              exact recover_step hop
            · exact no_step
      | value x =>
        have hgen := callV_step (nt := nt) (rnd := rnd) (calls_ok hG hX) hop
        cases x with
        | func f => simpa only [cOp, hop, cCall] using callF_step (nt := nt) (rnd := rnd) (calls_ok hG hX) hop
        | tmp t => simpa only [cOp, hop, cCall] using hgen
        | const v => simpa only [cOp, hop, cCall] using hgen
        | global g => simpa only [cOp, hop, cCall] using hgen
      | invoke x name => simpa only [cOp, hop, cCall] using invoke_step (nt := nt) (rnd := rnd) hG hX hop
    case defer c =>
      obtain ⟨callee, args, at_⟩ := c
      cases rnd with
      | true => simpa only [cOp, hop] using no_step
      | false =>
        cases callee with
        | value x => simpa only [cOp, hop] using defer_step (nt := nt) hop
        | builtin b => simpa only [cOp, hop] using no_step
        | invoke x name => simpa only [cOp, hop] using no_step
theorem code_ok (hG : G.Ok) (hX : ExtOk G) (code : Code) : CodeOk G nt rnd code (cCode G nt rnd code).f :=
  cCode_ok hG (cOp_step hG hX) (fun o hr => cOp_R hG hr) (enter_ok hG hX.sum) code
theorem run_ok (hG : G.Ok) (hX : ExtOk G) : ∀ n, SelfOk G (run G n)
  | 0 => by
    intro nt rnd code tr h k r e ok
    have e : Out.bad 170 = r := e
    subst e; exact ok.elim
  | n + 1 => by
    intro nt rnd code tr h k r e ok B σ c tm ds items todo cs w Z hc hb ht hr hds K
    have hs := run_ok hG hX n
    have e : (cCode G nt rnd code).f (run G n) tr h k = r := e
    have key := code_ok (nt := nt) (rnd := rnd) hG hX code (run G n) hs tr h k r e ok B σ c tm ds todo cs w Z hc ht hr hds K
    rcases hb with rfl | ⟨a, rfl, rfl⟩
    · exact key
    ·
      have e' : (cCode G nt rnd a).f (run G n) tr h (fun x tr' h' => Ex.casesOn x ((run G n) ⟨nt, rnd, .loop a⟩ tr' h' k) (fun i => k (.exit i) tr' h') (fun l => k (.goto l) tr' h') (k .ret tr' h')) = r := e
      refine .step step_inLoop' ?_
      refine code_ok (nt := nt) (rnd := rnd) hG hX a (run G n) hs tr h _ r e' ok B σ c tm ds (.inLoop a :: todo) cs w Z hc ht hr hds ?_
      intro x tr' h' τ tm' ds' w' e1 hg hst ht' hr' hds'
      cases x with
      | normal =>
        refine hs nt rnd (.loop a) tr' h' k r e1 ok B τ c tm' ds' _ todo cs w' Z hc (.inr ⟨a, rfl, rfl⟩) ht' hr' hds' ?_
        intro x tr2 h2 τ2 tm2 ds2 w2 e2 hg2 hst2 ht2 hr2 hds2
        exact K x tr2 h2 τ2 tm2 ds2 w2 e2 (hg.trans hg2 hst.next) (hst.trans hst2) ht2 hr2 hds2
      | exit i => exact fun k' hk' => K (.exit i) tr' h' τ tm' ds' w' e1 hg hst ht' hr' hds' k' (by rw [hk']; rfl)
      | goto l => exact fun k' hk' => K (.goto l) tr' h' τ tm' ds' w' e1 hg hst ht' hr' hds' k' (by rw [hk']; rfl)
      | ret => exact K .ret tr' h' τ tm' ds' w' e1 hg hst ht' hr' hds'
end
end
end Go.Ev
namespace Go.Ev
noncomputable section
open Go
def extS (x : Ext) (fn : Func) : Array Value → Sem Value :=
  match x with
  | .indexByte => Extern.BytealgIndexByte.indexByte
  | .countByte => Extern.BytealgCount.count
  | .makeNoZero => Extern.BytealgMakeNoZero.makeNoZero fn.params fn.resultTypes
  | .same => Extern.AbiNoEscape.same
  | .mapsClone => Extern.MapsClone.clone
  | .cmpStr => Extern.BytealgCompare.compare
def ExtNames (G : Cfg) : Prop :=
  ∀ f fn x, G.ft.get f = some fn → fn.body = none → extOf f G.ext = some x → Extern.findNext fn = none ∧ Extern.find fn = some (extS x fn) ∧
    (x = .makeNoZero → ∃ t e, fn.resultTypes[0]? = some t ∧ G.und t = some (.slice e))
section
variable {G : Cfg} {B : Base} {σ : Sg} {h : AH} {w : World} {P : Program}
theorem indexOf_eq (c : Nat) : ∀ (l : List Nat) (i : Nat), indexOf c l i = ((List.range l.length).find? fun j => l[j]? == some c).map (· + i)
  | [], i => rfl
  | b :: l, i => by
    have e : indexOf c (b :: l) i = Bool.casesOn (Nat.beq b c) (indexOf c l (i + 1)) (some i) := rfl
    rw [e, List.length_cons, List.range_succ_eq_map, List.find?_cons]
    cases hb : Nat.beq b c with
    | true =>
      have := Nat.eq_of_beq_eq_true hb
      simp [this]
    | false =>
      have := Nat.ne_of_beq_eq_false hb
      simp only [List.getElem?_cons_zero]
      have hne : (some b == some c) = false := by simpa using this
      simp only [hne]
      rw [List.find?_map, indexOf_eq c l (i + 1)]
      simp only [Option.map_map]
      congr 1
      funext j; simp; omega
theorem bytes_get {l : List Nat} {s : ByteArray} (h : bytesR l s) {c : Nat} (hc : c ≤ 255) (j : Nat) (hj : j < l.length) : (l[j]? == some c) = (s[j]! == c.toUInt8) := by
  have hl := bytesR_len h
  obtain ⟨u, hu, hn⟩ := bytesR_get h (List.getElem?_eq_getElem hj)
  have : s[j]! = u := by
    rw [getElem!_def, hu]
  rw [this, List.getElem?_eq_getElem hj, ← hn]
  have h2 : c.toUInt8.toNat = c := by simp; omega
  rw [Bool.eq_iff_iff]
  simp only [beq_iff_eq, Option.some.injEq]
  constructor
  · intro e; apply UInt8.toNat_inj.1; rw [h2]; exact e
  · intro e; rw [e, h2]
theorem loadBytes_run {c : Nat} : ∀ (l : List Nat) (o : Nat) (acc : ByteArray), (∀ n ∈ l, n ≤ 255) → (∀ (j n : Nat), l[j]? = some n → w.cell? ⟨c, o + j, none⟩ = some (.int .u8 (.ofNat n))) →
    ∃ s, (Extern.Bytes.loadBytes ⟨c, o, none⟩ l.length acc).run P w = .ok s w ∧ s.data.toList.map UInt8.toNat = acc.data.toList.map UInt8.toNat ++ l
  | [], o, acc, _, _ => ⟨acc, by simp [Extern.Bytes.loadBytes], by simp⟩
  | n :: l, o, acc, hn, hc => by
    have h0 := hc 0 n rfl
    rw [Nat.add_zero] at h0
    obtain ⟨s, hs, he⟩ := loadBytes_run l (o + 1) (acc.push n.toUInt8) (fun m hm => hn m (by simp [hm])) (fun j m hj => by
      have := hc (j + 1) m (by simpa using hj)
      rwa [show o + (j + 1) = o + 1 + j from by omega] at this)
    refine ⟨s, ?_, ?_⟩
    · rw [List.length_cons]
      simp only [Extern.Bytes.loadBytes, Sem.run_bind, Go.run_load, h0, Result.andThen_ok, addr_add]
      exact hs
    · have hle := hn n (by simp)
      rw [he]
      simp [ByteArray.push]
      omega
theorem bytesOfV_inv {v : AV} {h : AH} {k : List Nat → Out} {r : Out} (e : bytesOfV v h k = r) (ok : r.ok) :
    ∃ l, k l = r ∧ ∀ B σ x w, VR σ v x → HR0 B σ h w → ∃ s, (Extern.Bytes.bytesOf x).run P w = .ok s w ∧ bytesR l s := by
  unfold bytesOfV at e
  split at e
  · rename_i l
    refine ⟨l, e, fun B σ x w hx _ => ?_⟩
    simp only [VR] at hx
    obtain ⟨s, rfl, hs⟩ := hx
    exact ⟨s, by simp [Extern.Bytes.bytesOf], hs⟩
  · refine ⟨[], e, fun B σ x w hx _ => ?_⟩
    simp only [VR] at hx; subst hx
    exact ⟨.empty, by simp [Extern.Bytes.bytesOf], rfl⟩
  · rename_i b o n c
    cases n with
    | zero =>
      have e : bytesK [] k = r := e
      refine ⟨[], e, fun B σ x w hx _ => ?_⟩
      simp only [VR] at hx
      obtain ⟨c1, d1, n1, j, cap', _, rfl, _⟩ := hx
      exact ⟨.empty, by simp [Extern.Bytes.bytesOf, Extern.Bytes.loadBytes], rfl⟩
    | succ n =>
      obtain ⟨y, hy, e⟩ := hget_inv (show hget h b (fun x => asCells x fun cs _ _ => sliceK cs o (Nat.mul (n + 1) 1) fun l => bytesK l k) = r from e) ok
      obtain ⟨cs, el, f, rfl, e⟩ := asCells_inv e ok
      obtain ⟨hle, e⟩ := sliceK_inv e ok
      obtain ⟨l, e, hl, hb⟩ := bytesK_inv ok e
      refine ⟨l, e, fun B σ x w hx hr => ?_⟩
      simp only [VR] at hx
      obtain ⟨c1, d1, n1, j, cap', hc, rfl, _, _, hj⟩ := hx
      have hj : j = o + d1 := by rcases hj with h | ⟨h, _⟩; exact h; omega
      subst hj
      obtain ⟨us, h1, h2, h3⟩ := hr.row hy hc hle
      rw [hl] at h2
      have hus := bytesV_R h2
      have hlen : l.length = n + 1 := by
        have := congrArg List.length hus
        simp at this h1; omega
      obtain ⟨s, hs, he⟩ := loadBytes_run (P := P) (w := w) (c := c1) l (o + d1) .empty hb (fun i m hi => by
        have := h3 i (.int .u8 (.ofNat m)) (by rw [hus]; simp [hi])
        exact this)
      rw [hlen] at hs
      exact ⟨s, by simpa [Extern.Bytes.bytesOf] using hs, by simpa [bytesR] using he⟩
  · subst e; exact ok.elim
theorem asByteK_inv {v : AV} {k : Nat → Out} {r : Out} (e : asByteK v k = r) (ok : r.ok) : ∃ n, v = .int .u8 (.ofNat n) ∧ n ≤ 255 ∧ k n = r := by
  obtain ⟨kd, a, rfl, e⟩ := asI_inv e ok
  cases kd <;> first | (subst e; exact ok.elim) | skip
  cases a with
  | negSucc n => subst e; exact ok.elim
  | ofNat n =>
    obtain ⟨h, e⟩ := guardB_inv (show guardB (Nat.ble n 255) 73 (k n) = r from e) ok
    exact ⟨n, rfl, Nat.le_of_ble_eq_true h, e⟩
theorem asIntK_inv {v : AV} {k : Nat → Out} {r : Out} (e : asIntK v k = r) (ok : r.ok) : ∃ n, v = .int .i64 (.ofNat n) ∧ k n = r := by
  obtain ⟨kd, a, rfl, e⟩ := asI_inv e ok
  cases kd <;> first | (subst e; exact ok.elim) | skip
  cases a with
  | negSucc n => subst e; exact ok.elim
  | ofNat n => exact ⟨n, rfl, e⟩
theorem find_congr {p q : Nat → Bool} : ∀ l : List Nat, (∀ x ∈ l, p x = q x) → l.find? p = l.find? q
  | [], _ => rfl
  | a :: l, h => by
    rw [List.find?_cons, List.find?_cons, h a (by simp), find_congr l fun x hx => h x (by simp [hx])]
theorem countOf_int (c : Nat) (hc : c ≤ 255) (s : List UInt8) : ∀ n : Nat, (countOf c (s.map UInt8.toNat) n : Int) = s.foldl (fun (n : Int) x => if x == c.toUInt8 then n + 1 else n) n := by
  induction s with
  | nil => intro n; rfl
  | cons x s ih =>
    intro n
    have e : countOf c ((x :: s).map UInt8.toNat) n = countOf c (s.map UInt8.toNat) (Bool.casesOn (Nat.beq x.toNat c) n (n + 1)) := rfl
    rw [e, ih, List.foldl_cons]
    congr 1
    have h2 : c.toUInt8.toNat = c := by simp; omega
    cases hx : Nat.beq x.toNat c with
    | true =>
      have : x = c.toUInt8 := UInt8.toNat_inj.1 (by rw [h2]; exact Nat.eq_of_beq_eq_true hx)
      simp [this]
    | false =>
      have : x ≠ c.toUInt8 := fun e => Nat.ne_of_beq_eq_false hx (by rw [e, h2])
      simp [this]
theorem length_digits : ∀ (n t : Nat) (acc : Array Value), (Extern.BytealgMakeNoZero.digits n t acc).size = acc.size + n
  | 0, _, acc => rfl
  | n + 1, t, acc => by rw [Extern.BytealgMakeNoZero.digits, length_digits n]; simp; omega
theorem run_indexByte2 {y : Value} {c : Int} {s : ByteArray} (hs : (Extern.Bytes.bytesOf y).run P w = .ok s w) :
    (Extern.BytealgIndexByte.indexByte #[y, .int .u8 c]).run P w = .ok (.int .i64 (match (List.range s.size).find? fun i => s[i]! == c.toNat.toUInt8 with | some i => i | none => -1)) w := by
  change Sem.run P (do
    let b ← Extern.Bytes.bytesOf y
    let c' ← Extern.Bytes.asByte (.int .u8 c)
    match (List.range b.size).find? fun i => b[i]! == c' with
    | some i => pure (goInt i)
    | none => pure (goInt (-1))) w = _
  simp only [Extern.Bytes.asByte, Sem.run_bind, Sem.run_pure, hs, Result.andThen_ok]
  split <;> simp_all [goInt]
theorem run_count2 {y : Value} {c : Int} {s : ByteArray} (hs : (Extern.Bytes.bytesOf y).run P w = .ok s w) :
    (Extern.BytealgCount.count #[y, .int .u8 c]).run P w = .ok (.int .i64 (s.foldl (fun (n : Int) x => if x == c.toNat.toUInt8 then n + 1 else n) 0)) w := by
  change Sem.run P (do
    let b ← Extern.Bytes.bytesOf y
    let c' ← Extern.Bytes.asByte (.int .u8 c)
    pure (goInt (b.foldl (fun n x => if x == c' then n + 1 else n) (0 : Nat)))) w = _
  simp only [Extern.Bytes.asByte, Sem.run_bind, Sem.run_pure, hs, Result.andThen_ok, goInt]
  rfl
theorem run_same2 {y : Value} : (Extern.AbiNoEscape.same #[y]).run P w = .ok y w := by
  change Sem.run P (pure y) w = _
  simp
theorem run_clone2 {t r c : Nat} {es : Array MapEntry} (h : w.heap[r]? = some (.map es c)) : (Extern.MapsClone.clone #[.iface t (.map (some r))]).run P w = .ok (.iface t (.map (some w.heap.size))) (w.alloc (.map es c)) := by
  change Sem.run P (do
    let .map entries clock ← getObj r | stuck "maps.clone: a map expected"
    pure (Value.iface t (.map (some (← newObj (.map entries clock)))))) w = _
  simp only [Sem.run_bind, run_getMap h, Result.andThen_ok, run_newObj, Sem.run_pure]
  rfl
theorem cmpLN_eq : ∀ (a b : List UInt8), cmpLN (a.map UInt8.toNat) (b.map UInt8.toNat) = Lib.compareBytes a b
  | [], [] => rfl
  | [], _ :: _ => rfl
  | _ :: _, [] => rfl
  | x :: a, y :: b => by
    have e : cmpLN ((x :: a).map UInt8.toNat) ((y :: b).map UInt8.toNat) = Bool.casesOn (Nat.ble (Nat.succ x.toNat) y.toNat) (Bool.casesOn (Nat.ble (Nat.succ y.toNat) x.toNat) (cmpLN (a.map UInt8.toNat) (b.map UInt8.toNat)) (.ofNat 1)) (.negSucc 0) := rfl
    have e2 : Lib.compareBytes (x :: a) (y :: b) = if x < y then -1 else if y < x then 1 else Lib.compareBytes a b := rfl
    rw [e, e2, cmpLN_eq a b]
    cases h1 : Nat.ble (Nat.succ x.toNat) y.toNat with
    | true =>
      have : x < y := UInt8.lt_iff_toNat_lt.2 (Nat.le_of_ble_eq_true h1)
      rw [if_pos this]; rfl
    | false =>
      have h1' : ¬ x < y := fun h => by
        have := Nat.ble_eq_true_of_le (show Nat.succ x.toNat ≤ y.toNat from UInt8.lt_iff_toNat_lt.1 h)
        rw [this] at h1; cases h1
      rw [if_neg h1']
      cases h2 : Nat.ble (Nat.succ y.toNat) x.toNat with
      | true =>
        have : y < x := UInt8.lt_iff_toNat_lt.2 (Nat.le_of_ble_eq_true h2)
        rw [if_pos this]; rfl
      | false =>
        have h2' : ¬ y < x := fun h => by
          have := Nat.ble_eq_true_of_le (show Nat.succ y.toNat ≤ x.toNat from UInt8.lt_iff_toNat_lt.1 h)
          rw [this] at h2; cases h2
        rw [if_neg h2']
theorem ext_ok (hG : G.Ok) (hN : ExtNames G) : ExtOk1 G := by
  intro f fn x hf hb hx args h k r e ok B σ args' w hv hr
  obtain ⟨hn, he, hty⟩ := hN f fn x hf hb hx
  obtain ⟨h1, h2⟩ := hG.fn f fn hf
  have call : ∀ {u : Value} {w' : World}, (extS x fn args').run G.P w = .ok u w' → (callFunc f args').run G.P w = .ok (.value u) w' := by
    intro u w' hrun
    rw [run_callFunc_extern h1 (by simpa using h2) (by rw [hb]; rfl) hn he args' w, hrun]; rfl
  unfold extV at e
  split at e
  ·
    rename_i v c
    obtain ⟨l, e, hl⟩ := bytesOfV_inv (P := G.P) e ok
    obtain ⟨n, rfl, hn255, e⟩ := asByteK_inv e ok
    simp only [VRs] at hv
    obtain ⟨y, m, hy, hvy, z, m', hz, hvz, rfl⟩ := hv
    simp only [VR] at hvz
    subst hz hvz
    have hargs : args' = #[y, .int .u8 (.ofNat n)] := Array.toList_inj.1 hy
    obtain ⟨s, hs, hbr⟩ := hl B σ y w hvy hr.toHR0
    have hlen := bytesR_len hbr
    have hfind : ((List.range s.size).find? fun i => s[i]! == n.toUInt8) = indexOf n l 0 := by
      rw [indexOf_eq, hlen]
      simp only [Nat.add_zero, Option.map_id']
      refine find_congr _ fun j hj => ?_
      exact (bytes_get hbr hn255 j (by rw [hlen]; exact List.mem_range.1 hj)).symm
    cases hi : indexOf n l 0 with
    | none =>
      rw [hi] at e hfind
      refine ⟨_, h, σ, .int .i64 (-1), w, e, call ?_, .refl _ _, .refl _, by simp only [VR]; rfl, hr⟩
      rw [hargs]
      simp only [extS]
      rw [run_indexByte2 hs]
      simp only [Int.ofNat_eq_natCast, Int.toNat_natCast, hfind]
    | some i =>
      rw [hi] at e hfind
      simp only [forceN_eq] at e
      refine ⟨_, h, σ, .int .i64 i, w, e, call ?_, .refl _ _, .refl _, by simp only [VR]; rfl, hr⟩
      rw [hargs]
      simp only [extS]
      rw [run_indexByte2 hs]
      simp only [Int.ofNat_eq_natCast, Int.toNat_natCast, hfind]
  ·
    rename_i v c
    obtain ⟨l, e, hl⟩ := bytesOfV_inv (P := G.P) e ok
    obtain ⟨n, rfl, hn255, e⟩ := asByteK_inv e ok
    simp only [VRs] at hv
    obtain ⟨y, m, hy, hvy, z, m', hz, hvz, rfl⟩ := hv
    simp only [VR] at hvz
    subst hz hvz
    have hargs : args' = #[y, .int .u8 (.ofNat n)] := Array.toList_inj.1 hy
    obtain ⟨s, hs, hbr⟩ := hl B σ y w hvy hr.toHR0
    simp only [forceN_eq] at e
    have hcount : s.foldl (fun (n' : Int) x => if x == n.toUInt8 then n' + 1 else n') 0 = (countOf n l 0 : Int) := by
      rw [Lib.foldl_data, ← hbr, countOf_int n hn255]; rfl
    refine ⟨_, h, σ, .int .i64 (countOf n l 0), w, e, call ?_, .refl _ _, .refl _, by simp only [VR]; rfl, hr⟩
    rw [hargs]
    simp only [extS]
    rw [run_count2 hs]
    simp only [Int.ofNat_eq_natCast, Int.toNat_natCast, hcount]
  ·
    rename_i v
    simp only [VRs] at hv
    obtain ⟨y, m, hy, hvy, rfl⟩ := hv
    have hargs : args' = #[y] := Array.toList_inj.1 hy
    refine ⟨v, h, σ, y, w, e, call ?_, .refl _ _, .refl _, hvy, hr⟩
    rw [hargs]
    simp only [extS]
    exact run_same2
  ·
    rename_i v u
    obtain ⟨a, rfl, e1⟩ := asS_inv e ok
    obtain ⟨b, rfl, e2⟩ := asS_inv e1 ok
    rw [forceI_eq] at e2
    simp only [VRs, VR] at hv
    obtain ⟨y, m, hy, ⟨s, rfl, hs⟩, z, m', hz, ⟨t, rfl, ht⟩, hm⟩ := hv
    subst hz hm
    have hargs : args' = #[.string s, .string t] := Array.toList_inj.1 hy
    unfold bytesR at hs ht
    subst hs ht
    rw [cmpLN_eq] at e2
    refine ⟨_, h, σ, .int .i64 (Lib.compareBytes s.data.toList t.data.toList), w, e2, call ?_, .refl _ _, .refl _, by simp [VR], hr⟩
    rw [hargs]
    simp only [extS]
    exact Lib.run_compareString s t w
  ·
    rename_i t b
    obtain ⟨y, hy, e1⟩ := hget_inv e ok
    obtain ⟨es, c, hyc, e2⟩ := asMap_inv e1 ok
    rw [hyc] at hy
    obtain ⟨t', ht, e3⟩ := hnew_inv e2 ok
    simp only [VRs] at hv
    obtain ⟨z, m, hz, hvz, rfl⟩ := hv
    simp only [VR] at hvz
    obtain ⟨u, rfl, c1, d1, n1, hc, rfl⟩ := hvz
    have hargs : args' = #[.iface t (.map (some c1))] := Array.toList_inj.1 hz
    obtain ⟨es', hes, hER⟩ := hr.amap hy hc
    have hle := hr.add_le w.heap.size 0 0
    have hpush := hr.push (n := 0) ht (o := .map es' c) ⟨es', rfl, hER.mono hle _ _⟩ h.ds
    refine ⟨_, _, _, .iface t (.map (some w.heap.size)), _, e3, call ?_, Sg.add_grows _ _ _ _ _, .push hr ht, ?_, hpush⟩
    · rw [hargs]
      simp only [extS]
      exact run_clone2 hes
    · simp only [VR]
      exact ⟨_, rfl, _, 0, 0, Sg.add_self σ _ _ _ _, rfl⟩
  ·
    rename_i v
    obtain ⟨n, rfl, e⟩ := asIntK_inv e ok
    obtain ⟨hle, e⟩ := guardB_inv e ok
    obtain ⟨t', ht, e⟩ := hnew_inv e ok
    have hle : n ≤ 1048576 := Nat.le_of_ble_eq_true hle
    simp only [VRs] at hv
    obtain ⟨z, m, hz, hvz, rfl⟩ := hv
    simp only [VR] at hvz
    subst hvz
    have hargs : args' = #[.int .i64 (.ofNat n)] := Array.toList_inj.1 hz
    obtain ⟨rt, el, hrt, hel⟩ := hty rfl
    have hu := und_ok hG hel
    have hg := le_grown w n 0 el
    generalize hcap : grownCap w n 0 el = cap at hg
    have hch : (choose (.appendCap n 0 el)).run G.P w = .ok cap w.drew := by
      simp only [run_choose, Question.forced, Bool.false_eq_true, if_false]
      rw [← hcap]; rfl
    obtain ⟨bytes, w2, hch2, hw2⟩ : ∃ bytes w2, (choose (.extern "internal/bytealg.MakeNoZero.bytes" 0)).run G.P w.drew = .ok bytes w2 ∧ (w2 = w.drew ∨ w2 = w.drew.drew) := by
      by_cases hq : (Question.extern "internal/bytealg.MakeNoZero.bytes" 0).forced = true
      · exact ⟨0, w.drew, by simp [run_choose, hq], .inl rfl⟩
      · exact ⟨_, w.drew.drew, by simp only [run_choose]; rw [if_neg hq]; rfl, .inr rfl⟩
    have hr2 : HR B σ h w2 := by rcases hw2 with rfl | rfl; exact hr.drew; exact hr.drew.drew
    have hh2 : w2.heap = w.heap := by rcases hw2 with rfl | rfl <;> rfl
    have hsz := length_digits cap bytes #[]
    generalize hrow0 : Extern.BytealgMakeNoZero.digits cap bytes #[] = row at hsz
    have hrow : ∃ us ex : List Value, row.toList = us ++ ex ∧ us.length = n := ⟨row.toList.take n, row.toList.drop n, by simp, by simp [hsz]; omega⟩
    obtain ⟨us, ex, hux, hul⟩ := hrow
    have htop : VRs σ (List.replicate n AV.top) us := VRs.of_get (by simp [hul]) fun i a ha => by
      have hi : i < us.length := by
        have := (List.getElem?_eq_some_iff.1 ha).1
        simp at this; omega
      refine ⟨us[i], List.getElem?_eq_getElem hi, ?_⟩
      rw [List.getElem?_replicate, if_pos (by omega)] at ha
      cases ha; simp [VR]
    have e : k (.slc h.next 0 n (.least n 1)) ⟨t', h.next + 1, h.ds, h.lo⟩ = r := e
    have ht : h.t.set h.next (.cells (List.replicate n AV.top) el .plain) = some t' := by
      rw [hrt] at ht
      simp only [Option.bind_some, hel] at ht
      exact ht
    have hpush := hr2.pushCells (us := us) (extra := ex) (lo := 0) (hi := 0) ht htop ⟨rfl, rfl⟩
    have hlen : (us ++ ex).length = cap := by rw [← hux]; simp [hsz]
    rw [hlen] at hpush
    have hrw : (us ++ ex).toArray = row := by rw [← hux]
    rw [hrw] at hpush
    refine ⟨_, _, _, .slice (some ⟨w2.heap.size, 0, none⟩) n cap, _, e, call ?_, Sg.add_grows _ _ _ _ _, .push hr ht, slc_new _ _ _ _ _ _ _ hg ⟨hg, by simp⟩, hpush⟩
    rw [hargs]
    simp only [extS]
    change Sem.run G.P (do
      let some t := fn.resultTypes[0]? | stuck "bytealg.MakeNoZero: no result type"
      let .slice elem ← underlying t | stuck "bytealg.MakeNoZero: slice type expected"
      if (Int.ofNat n) < 0 || (Int.ofNat n) > 2 ^ 48 then runtimePanic (.error "makeslice: len out of range")
      let cap ← choose (.appendCap (Int.ofNat n).toNat 0 elem)
      askRoom cap
      let bytes ← choose (.extern "internal/bytealg.MakeNoZero.bytes" 0)
      let a ← newRow elem (Extern.BytealgMakeNoZero.digits cap bytes #[])
      pure (Value.slice (some a) (Int.ofNat n).toNat cap)) w = _
    have hlt : ((Int.ofNat n) < 0 || (Int.ofNat n) > 2 ^ 48) = false := by
      simp; omega
    have hto : (Int.ofNat n).toNat = n := rfl
    simp only [hrt, hto, hlt, Bool.false_eq_true, if_false, Sem.run_bind, Go.run_underlying hu, Result.andThen_ok, hch, run_askRoom, hch2, newRow, run_newObj, Sem.run_pure, hrow0]
    rfl
  · subst e; exact ok.elim
end
end
end Go.Ev
namespace Go.Ev
noncomputable section
open Go Go.Shelf Go.Proofs
structure OldKept (w w' : World) : Prop where
  heap : ∀ c, c < w.heap.size → w'.heap[c]? = w.heap[c]?
  size : w.heap.size ≤ w'.heap.size
  os : w'.os = w.os
  tape : w'.tape = w.tape
  output : w'.output = w.output
section
variable {G : Cfg} {B : Base} {σ : Sg} {h : AH} {w w' : World} {P : Program}
theorem HR.any (hr : HR B σ h w) (k : OldKept w w') : HR B σ h w' := by
  refine ⟨⟨fun b x c d n hb hs => ?_, hr.inj, hr.glob, hr.syms⟩, hr.fresh, hr.below, fun b c d n hs => Nat.lt_of_lt_of_le (hr.size b c d n hs) k.size, hr.own, hr.lo, fun c hc => ?_, Nat.le_trans hr.grow k.size, k.os.trans hr.os,
    k.tape.trans hr.tape, k.output.trans hr.output⟩
  · rw [k.heap c (hr.size b c d n hs)]; exact hr.blk b x c d n hb hs
  · rw [k.heap c (Nat.lt_of_lt_of_le hc hr.grow)]; exact hr.keep c hc
theorem heap_pos {w : World} {v : Value} (hm : w.cell? ⟨0, 0, none⟩ = some v) : 0 < w.heap.size := by
  rcases Nat.eq_zero_or_pos w.heap.size with h0 | h0
  · have : w.heap[0]? = none := by simp [h0]
    simp [World.cell?, this] at hm
  · exact h0
theorem HR.len (hr : HR B σ h w) : ∃ m, w.cell? ⟨0, 0, none⟩ = some (.int .i64 m) := by
  obtain ⟨m, hm⟩ := B.len
  refine ⟨m, ?_⟩
  have h0 := heap_pos hm
  simp only [World.cell?] at hm ⊢
  rw [hr.keep 0 h0]
  exact hm
theorem HR.pow (hr : HR B σ h w) : ∃ r, w.heap[2]? = some (.cells powL.toArray 753 r) := by
  obtain ⟨r, hr'⟩ := B.pow
  have h2 : 2 < B.w.heap.size := by
    by_cases hlt : 2 < B.w.heap.size
    · exact hlt
    · rw [Array.getElem?_eq_none (by omega)] at hr'; cases hr'
  exact ⟨r, by rw [hr.keep 2 h2]; exact hr'⟩
theorem HR.drewN (hr : HR B σ h w) (n : Nat) : HR B σ h (w.drewN n) := hr.any ⟨fun _ _ => rfl, Nat.le_refl _, rfl, rfl, rfl⟩
theorem preN_eq : ∀ (t s : List UInt8), preN (t.map UInt8.toNat) (s.map UInt8.toNat) = t.isPrefixOf s
  | [], s => by simp [preN]
  | a :: t, [] => rfl
  | a :: t, b :: s => by
    have e : preN ((a :: t).map UInt8.toNat) ((b :: s).map UInt8.toNat) = Bool.casesOn (Nat.beq a.toNat b.toNat) false (preN (t.map UInt8.toNat) (s.map UInt8.toNat)) := rfl
    rw [e, preN_eq t s, List.isPrefixOf]
    cases hb : Nat.beq a.toNat b.toNat with
    | true =>
      have : a = b := UInt8.toNat_inj.1 (Nat.eq_of_beq_eq_true hb)
      simp [this]
    | false =>
      have : a ≠ b := fun e => Nat.ne_of_beq_eq_false hb (by rw [e])
      simp [this]
theorem idxN_eq (t : List UInt8) : ∀ (s : List UInt8) (i : Nat), idxN (t.map UInt8.toNat) (s.map UInt8.toNat) i = if Lib.index s t = -1 then none else some ((Lib.index s t).toNat + i)
  | [], i => by
    have e : idxN (t.map UInt8.toNat) (([] : List UInt8).map UInt8.toNat) i = Bool.casesOn (preN (t.map UInt8.toNat) (([] : List UInt8).map UInt8.toNat)) none (some i) := rfl
    rw [e, preN_eq]
    cases t with
    | nil => simp [Lib.index]
    | cons a t => simp [Lib.index]
  | b :: s, i => by
    have e : idxN (t.map UInt8.toNat) ((b :: s).map UInt8.toNat) i = Bool.casesOn (preN (t.map UInt8.toNat) ((b :: s).map UInt8.toNat)) (idxN (t.map UInt8.toNat) (s.map UInt8.toNat) (i + 1)) (some i) := rfl
    rw [e, preN_eq, idxN_eq t s (i + 1)]
    have hge := Lib.index_ge s t
    have e2 : Lib.index (b :: s) t = if t.isPrefixOf (b :: s) then 0 else if Lib.index s t == -1 then -1 else Lib.index s t + 1 := rfl
    rw [e2]
    cases hp : t.isPrefixOf (b :: s) with
    | true => simp
    | false =>
      simp only [Bool.false_eq_true, if_false, beq_iff_eq]
      by_cases h1 : Lib.index s t = -1
      · simp [h1]
      · rw [if_neg h1, if_neg h1, if_neg (by omega)]
        congr 1
        omega
theorem giveIdx_eq (s t : List UInt8) (k : AV → Out) : giveIdx (idxN (t.map UInt8.toNat) (s.map UInt8.toNat) 0) k = k (.int .i64 (Lib.index s t)) := by
  rw [idxN_eq]
  have hge := Lib.index_ge s t
  by_cases h1 : Lib.index s t = -1
  · rw [if_pos h1, h1]; rfl
  · rw [if_neg h1]
    simp only [giveIdx, forceN_eq, Nat.add_zero]
    congr 2
    exact Int.toNat_of_nonneg (by omega)
theorem slcBytes_inv {v : AV} {h : AH} {k : List Nat → Out} {r : Out} (e : slcBytes v h k = r) (ok : r.ok) :
    ∃ l, k l = r ∧ (∀ n ∈ l, n ≤ 255) ∧ ∀ B σ x w, VR σ v x → HR0 B σ h w → ∃ c1 j cap', x = .slice (some ⟨c1, j, none⟩) l.length cap' ∧ l.length ≤ cap' ∧
      ∀ (i n : Nat), l[i]? = some n → w.cell? ⟨c1, j + i, none⟩ = some (.int .u8 (.ofNat n)) := by
  unfold slcBytes at e
  split at e
  · rename_i b o n c
    cases n with
    | zero =>
      have e : k [] = r := e
      refine ⟨[], e, by simp, fun B σ x w hx _ => ?_⟩
      simp only [VR] at hx
      obtain ⟨c1, d1, n1, j, cap', _, rfl, hcap, _⟩ := hx
      exact ⟨c1, j, cap', rfl, hcap, by simp⟩
    | succ n =>
      obtain ⟨y, hy, e⟩ := hget_inv (show hget h b (fun x => asCells x fun cs _ _ => sliceK cs o (n + 1) fun cs => bytesK cs k) = r from e) ok
      obtain ⟨cs, el, f, rfl, e⟩ := asCells_inv e ok
      obtain ⟨hle, e⟩ := sliceK_inv e ok
      obtain ⟨l, e, hl, hb⟩ := bytesK_inv ok e
      refine ⟨l, e, hb, fun B σ x w hx hr => ?_⟩
      simp only [VR] at hx
      obtain ⟨c1, d1, n1, j, cap', hc, rfl, hcap, _, hj⟩ := hx
      have hj : j = o + d1 := by rcases hj with h | ⟨h, _⟩; exact h; omega
      subst hj
      obtain ⟨us, h1, h2, h3⟩ := hr.row hy hc hle
      rw [hl] at h2
      have hus := bytesV_R h2
      have hlen : l.length = n + 1 := by
        have := congrArg List.length hus
        simp at this h1; omega
      rw [hlen]
      refine ⟨c1, o + d1, cap', rfl, hcap, fun i m hi => ?_⟩
      exact h3 i (.int .u8 (.ofNat m)) (by rw [hus]; simp [hi])
  · subst e; exact ok.elim
theorem slcRow_inv {sz : Nat} {v : AV} {h : AH} {k : Nat → List AV → Out} {r : Out} (e : slcRow sz v h k = r) (ok : r.ok) :
    ∃ n l, k n l = r ∧ l.length = n * sz ∧ n ≤ 65536 ∧ ∀ B σ x w, VR σ v x → HR B σ h w → ∃ c1 j cap' us, x = .slice (some ⟨c1, j, none⟩) n cap' ∧ n ≤ cap' ∧ c1 < w.heap.size ∧ VRs σ l us ∧
      ∀ (i : Nat) (u : Value), us[i]? = some u → w.cell? ⟨c1, j + i, none⟩ = some u := by
  unfold slcRow at e
  split at e
  · rename_i b o n c
    cases n with
    | zero => have e : Out.bad 167 = r := e; subst e; exact ok.elim
    | succ n =>
      obtain ⟨hn6, e⟩ := guardB_inv (show guardB (Nat.ble (n + 1) 65536) 167 (hget h b fun x => asCells x fun cs _ _ => sliceK cs o ((n + 1) * sz) fun cs => k (n + 1) cs) = r from e) ok
      obtain ⟨y, hy, e⟩ := hget_inv e ok
      obtain ⟨cs, el, f, rfl, e⟩ := asCells_inv e ok
      obtain ⟨hle, e⟩ := sliceK_inv e ok
      refine ⟨_, _, e, by rw [List.length_take, List.length_drop]; omega, Nat.le_of_ble_eq_true hn6, fun B σ x w hx hr => ?_⟩
      simp only [VR] at hx
      obtain ⟨c1, d1, n1, j, cap', hc, rfl, hcap, _, hj⟩ := hx
      have hj : j = o + d1 := by rcases hj with h | ⟨h, _⟩; exact h; omega
      subst hj
      obtain ⟨us, h1, h2, h3⟩ := hr.row hy hc hle
      exact ⟨c1, o + d1, cap', us, rfl, hcap, hr.size _ _ _ _ hc, h2, h3⟩
  · subst e; exact ok.elim
theorem lenK_inv {α : Type} {l : List α} {k : Nat → Out} {r : Out} (e : lenK l 0 k = r) : k l.length = r := by rw [lenK_eq] at e; exact e
theorem toBytes (l : List Nat) (hb : ∀ n ∈ l, n ≤ 255) : l = (Lib.bytesOf (l.map Int.ofNat)).map UInt8.toNat := by
  unfold Lib.bytesOf
  rw [List.map_map, List.map_map]
  conv => lhs; rw [← List.map_id l]
  refine List.map_congr_left fun n hn => ?_
  have := hb n hn
  simp only [id_eq, Function.comp_apply]
  simp; omega
def StepsCalls (P : Program) (f e : Nat) : Prop :=
  ∀ (c j cap : Nat) (ps : List (Value × Nat)) (w : World), (∀ p ∈ ps, ∃ s, p.1 = .string s) → sumsOk ps 0 → ps.length ≤ cap → ps.length ≤ 65536 → c < w.heap.size →
    (∀ (i : Nat) (u : Value), (shareCells ps)[i]? = some u → w.cell? ⟨c, j + i, none⟩ = some u) →
    Calls P f #[.slice (some ⟨c, j, none⟩) ps.length cap] w fun e' w' => ∃ u, e' = .returned u ∧ OldKept w w' ∧
      (sumsOf ps 0 = [] → u = .slice none 0 0) ∧
      (sumsOf ps 0 ≠ [] → ∃ b cap' cc lo, u = .slice (some ⟨b, 0, none⟩) (sumsOf ps 0).length cap' ∧ (sumsOf ps 0).length ≤ cap' ∧ cap' * 2 ≤ cc.size ∧ w.heap.size ≤ b ∧ w'.heap[b]? = some (.cells cc e (lo, lo)) ∧
        ∀ (i : Nat) (v : Value), (shareCells (lastOne (sumsOf ps 0)))[i]? = some v → cc[i]? = some v)
def ShareCalls (P : Program) (f : Nat) : Prop :=
  ∀ (s1 s2 : ByteArray) (c j cap : Nat) (qs : List (Value × Nat)) (u : Nat) (w : World), (∀ p ∈ qs, ∃ s, p.1 = .string s) → qs.length ≤ cap → qs.length ≤ 65536 →
    (∀ (i : Nat) (v : Value), (shareCells qs)[i]? = some v → w.cell? ⟨c, j + i, none⟩ = some v) → c < w.heap.size → ∀ (q : Nat) (nm : ByteArray) (x : Nat), qs[q]? = some (.string nm, x) →
    (FloatKind.f64.format.order x u == some .gt) = true → (∀ (q' : Nat) (p : Value × Nat), q' < q → qs[q']? = some p → (FloatKind.f64.format.order p.2 u == some .gt) = false) →
    Calls P f #[.agg #[.string s1, .string s2, .slice (some ⟨c, j, none⟩) qs.length cap], .float .f64 u] w fun e w' => e = .returned (.string nm) ∧ OldKept w w'
def SumLays (G : Cfg) : Prop := ∀ f x, sumOf f G.sums = some x → match x with
  | .strIndex => ∃ ρ : Ren, Lays.n219 G.P ρ ∧ ρ.f 219 = f ∧ ρ.g 1 = 0
  | .byteIndex => ∃ ρ : Ren, Lays.n185 G.P ρ ∧ ρ.f 185 = f ∧ ρ.g 1 = 0
  | .yes => ∀ w : World, (∃ m, w.cell? ⟨0, 0, none⟩ = some (.int .i64 m)) → (∃ r, w.heap[2]? = some (.cells powL.toArray 753 r)) → (∀ g, g < numG → g < w.heap.size) → Calls G.P f #[] w fun e w' => e = .returned (.bool true) ∧ OldKept w w'
  | .share => ShareCalls G.P f
  | .steps e => StepsCalls G.P f e
theorem length_shareCells : ∀ ps : List (Value × Nat), (shareCells ps).length = 2 * ps.length
  | [] => rfl
  | (s, u) :: l => by simp only [shareCells, List.length_cons, length_shareCells l]; omega
theorem length_lastOne : ∀ ps : List (Value × Nat), (lastOne ps).length = ps.length
  | [] => rfl
  | [_] => rfl
  | p :: q :: l => by simp only [lastOne, List.length_cons, length_lastOne (q :: l)]
theorem length_cellVs : ∀ {l : List AV} {m : List Value}, cellVs σ l = some m → l.length = m.length
  | [], m, k => by cases k; rfl
  | v :: l, m, k => by
    simp only [cellVs] at k
    split at k
    · rename_i u us _ h2
      cases k
      simp [length_cellVs h2]
    · cases k
theorem strs_sumsOf : ∀ (ps : List (Value × Nat)) (t : Nat), (∀ p ∈ ps, ∃ s, p.1 = .string s) → ∀ p ∈ sumsOf ps t, ∃ s, p.1 = Value.string s
  | [], t, _, p, hp => by simp [sumsOf] at hp
  | (s, u) :: l, t, h, p, hp => by
    unfold sumsOf at hp
    split at hp
    · split at hp
      · simp only [List.mem_cons] at hp
        rcases hp with rfl | hp
        · exact h (s, u) (by simp)
        · exact strs_sumsOf l _ (fun q hq => h q (by simp [hq])) p hp
      · simp at hp
    · exact strs_sumsOf l t (fun q hq => h q (by simp [hq])) p hp
theorem strs_lastOne : ∀ (ps : List (Value × Nat)), (∀ p ∈ ps, ∃ s, p.1 = .string s) → ∀ p ∈ lastOne ps, ∃ s, p.1 = Value.string s
  | [], _, p, hp => by simp [lastOne] at hp
  | [(s, u)], h, p, hp => by simp only [lastOne, List.mem_singleton] at hp; subst hp; exact h (s, u) (by simp)
  | a :: b :: l, h, p, hp => by
    simp only [lastOne, List.mem_cons] at hp
    rcases hp with rfl | hp
    · exact h _ (by simp)
    · exact strs_lastOne (b :: l) (fun q hq => h q (by simp [hq])) p hp
theorem shareCells_one : ∀ (ps : List (Value × Nat)), (∀ p ∈ ps, ∃ s, p.1 = .string s) → ∀ u ∈ shareCells ps, u.oneCell' = true
  | [], _, u, hu => by simp [shareCells] at hu
  | (s, x) :: l, h, u, hu => by
    simp only [shareCells, List.mem_cons] at hu
    rcases hu with rfl | rfl | hu
    · obtain ⟨s', hs⟩ := h (u, x) (by simp)
      simp only at hs
      subst hs; rfl
    · rfl
    · exact shareCells_one l (fun p hp => h p (by simp [hp])) u hu
theorem findA_inv {op : BinOp} {cs : List AV} {r : Out} (ok : r.ok) : ∀ {l : List SR} {k : AV → Out}, findA op cs l k = r → ∃ q ∈ l, k q.r = r ∧ Nat.beq (bix q.op) (bix op) = true ∧ AV.beq q.a (.agg cs) = true
  | [], k, e => by have e : Out.bad 168 = r := e; subst e; exact ok.elim
  | q :: l, k, e => by
    have e : (Bool.casesOn (Nat.beq (bix q.op) (bix op) && AV.beq q.a (.agg cs)) (findA op cs l k) (k q.r) : Out) = r := e
    rcases boolCases_inv e with ⟨hb, e⟩ | ⟨hb, e⟩
    · simp only [Bool.and_eq_true] at hb
      exact ⟨q, by simp, e, hb.1, hb.2⟩
    · obtain ⟨q', hq, h1, h2⟩ := findA_inv ok e
      exact ⟨q', by simp [hq], h1, h2⟩
theorem sum_ok (hS : SumLays G) : SumOk G := by
  intro f x hx args h k r e ok B σ args' w hv hr
  have hlay := hS f x hx
  unfold sumV at e
  split at e
  ·
    rename_i v u
    obtain ⟨ρ, L, rfl, hg⟩ := hlay
    obtain ⟨s, rfl, e1⟩ := asS_inv e ok
    obtain ⟨t, rfl, e2⟩ := asS_inv e1 ok
    have e3 := lenK_inv e2
    obtain ⟨hle, e4⟩ := guardB_inv e3 ok
    have hle := Nat.le_of_ble_eq_true hle
    simp only [VRs, VR] at hv
    obtain ⟨y, m, hy, ⟨a, rfl, ha⟩, z, m', hz, ⟨b, rfl, hb⟩, rfl⟩ := hv
    subst hz
    have hargs : args' = #[.string a, .string b] := Array.toList_inj.1 hy
    obtain ⟨n, hn⟩ := hr.len
    unfold bytesR at ha hb
    subst ha hb
    rw [giveIdx_eq] at e4
    subst hargs
    refine ⟨_, h, e4, .refl _, (Any.stringslite_Index L a b n w ?_ (by rw [hg]; exact hn)).mono ?_⟩
    · have : a.size = a.data.toList.length := Array.length_toList.symm
      simp only [List.length_map] at hle
      omega
    · rintro e' w' ⟨rfl, rfl⟩
      exact ⟨_, σ, rfl, .refl _ _, by simp [VR], hr⟩
  ·
    rename_i v u
    obtain ⟨ρ, L, rfl, hg⟩ := hlay
    obtain ⟨s, e, hs, hsl⟩ := slcBytes_inv e ok
    obtain ⟨t, e, ht, htl⟩ := slcBytes_inv e ok
    have e := lenK_inv e
    obtain ⟨hle, e⟩ := guardB_inv e ok
    have e := lenK_inv e
    obtain ⟨hle2, e⟩ := guardB_inv e ok
    have hle := Nat.le_of_ble_eq_true hle
    have hle2 := Nat.le_of_ble_eq_true hle2
    simp only [VRs] at hv
    obtain ⟨y, m, hy, hy1, z, m', hz, hz1, rfl⟩ := hv
    subst hz
    obtain ⟨c1, j1, p1, rfl, hp1, hc1⟩ := hsl B σ y w hy1 hr.toHR0
    obtain ⟨c2, j2, p2, rfl, hp2, hc2⟩ := htl B σ z w hz1 hr.toHR0
    have hargs : args' = #[.slice (some ⟨c1, j1, none⟩) s.length p1, .slice (some ⟨c2, j2, none⟩) t.length p2] := Array.toList_inj.1 hy
    obtain ⟨n, hn⟩ := hr.len
    subst hargs
    have e1 := toBytes s hs
    have e2 := toBytes t ht
    generalize hS1 : Lib.bytesOf (s.map Int.ofNat) = bs at e1
    generalize hS2 : Lib.bytesOf (t.map Int.ofNat) = bt at e2
    have hcall := Any.bytes_Index_at L ⟨c1, j1, none⟩ ⟨c2, j2, none⟩ s.length p1 t.length p2 (s.map Int.ofNat) (t.map Int.ofNat) n w (by simp) (by simp)
      (fun x hx => by obtain ⟨m, hm, rfl⟩ := List.mem_map.1 hx; have := hs m hm; simp only [Int.ofNat_eq_natCast]; omega)
      (fun x hx => by obtain ⟨m, hm, rfl⟩ := List.mem_map.1 hx; have := ht m hm; simp only [Int.ofNat_eq_natCast]; omega)
      (fun i hi => by
        have := hc1 i s[i] (List.getElem?_eq_getElem hi)
        rw [addr_add]
        rw [this]
        simp [hi])
      (fun i hi => by
        have := hc2 i t[i] (List.getElem?_eq_getElem hi)
        rw [addr_add]
        rw [this]
        simp [hi]) hp1 (by omega) (by omega) (by rw [hg]; exact hn)
    rw [hS1, hS2] at hcall
    rw [e1, e2, giveIdx_eq] at e
    refine ⟨_, h, e, .refl _, hcall.mono ?_⟩
    rintro e' w' ⟨rfl, q, rfl⟩
    exact ⟨_, σ, rfl, .refl _ _, by simp [VR], hr.drewN q⟩
  ·
    simp only [VRs] at hv
    have hargs : args' = #[] := Array.toList_inj.1 hv
    subst hargs
    refine ⟨.bool true, h, e, .refl _, (hlay w hr.len hr.pow fun g hg => ?_).mono ?_⟩
    · obtain ⟨n, hn⟩ := hr.glob g hg
      exact hr.size _ _ _ _ hn
    · rintro e' w' ⟨rfl, hold⟩
      exact ⟨_, σ, rfl, .refl _ _, by simp [VR], hr.any hold⟩
  ·
    rename_i el v
    have hlay : StepsCalls G.P f el := hlay
    obtain ⟨n, cs, e, hl, hn6, hF⟩ := slcRow_inv e ok
    obtain ⟨X, hX, e⟩ := hget_inv e ok
    split at e
    · rename_i l
      obtain ⟨q, hq, e, hop, hbeq⟩ := findA_inv ok e
      have hbeq := beq_eq _ _ hbeq
      simp only [VRs] at hv
      obtain ⟨y, m, hy, hy1, rfl⟩ := hv
      obtain ⟨c1, j, cap, us, rfl, hcap, hc1, hus, hcell⟩ := hF B σ y w hy1 hr
      have hargs : args' = #[.slice (some ⟨c1, j, none⟩) n cap] := Array.toList_inj.1 hy
      subst hargs
      obtain ⟨⟨c0, d0, n0⟩, hs⟩ := hr.syms.1
      have hsr := (show ∀ q ∈ l, SRok σ q from hr.blk _ _ _ _ _ hX hs) q hq
      unfold SRok at hsr
      rw [if_pos (by rw [hbeq]; rfl), if_pos (by rw [hbeq]; rfl), if_pos hop] at hsr
      obtain ⟨ins, outs, ps, h1, h2, h3, h4, h5, h6⟩ := hsr
      rw [hbeq] at h1
      cases h1
      have hus := cellVs.of h3 hus
      subst hus
      have hn : ps.length = n := by
        have := length_cellVs h3
        rw [length_shareCells, hl] at this
        omega
      subst hn
      have hlen : outs.length = 2 * (sumsOf ps 0).length := by rw [length_cellVs h6, length_shareCells, length_lastOne]
      have hcall := hlay c1 j cap ps w h4 h5 hcap hn6 hc1 hcell
      rw [h2] at e
      cases outs with
      | nil =>
        have e : k .nils h = r := e
        refine ⟨_, h, e, .refl _, hcall.mono ?_⟩
        rintro e' w' ⟨u, rfl, hold, hnil, _⟩
        have h0 : sumsOf ps 0 = [] := List.eq_nil_of_length_eq_zero (by simp at hlen; omega)
        have := hnil h0
        subst this
        exact ⟨_, σ, rfl, .refl _ _, by simp [VR], hr.any hold⟩
      | cons o1 os =>
        generalize hos : o1 :: os = outs at *
        have e : (lenK outs 0 fun n => forceN (Nat.div n 2) fun m => guardB (Nat.beq (Nat.mul m 2) n) 169 (hnew h (.cells outs el .plain) fun b h' => k (.slc b 0 m (.least m 2)) h')) = r := by
          rw [← hos] at e ⊢; exact e
        have e := lenK_inv e
        rw [forceN_eq] at e
        obtain ⟨_, e⟩ := guardB_inv e ok
        obtain ⟨t', ht, e⟩ := hnew_inv e ok
        have hm : Nat.div outs.length 2 = (sumsOf ps 0).length := by
          show outs.length / 2 = _
          omega
        rw [hm] at e
        have hne : sumsOf ps 0 ≠ [] := by
          intro h0
          rw [h0] at hlen
          rw [← hos] at hlen
          simp at hlen
        refine ⟨_, _, e, .push hr ht, hcall.mono ?_⟩
        rintro e' w' ⟨u, rfl, hold, _, hrow⟩
        obtain ⟨b, cap', cc, lo, rfl, hmc, hcc, hb, hheap, hcells⟩ := hrow hne
        have hr' := hr.any hold
        have hbl : b < w'.heap.size := by
          by_cases hlt : b < w'.heap.size
          · exact hlt
          · rw [Array.getElem?_eq_none (by omega)] at hheap; cases hheap
        have hput : World.put w' b (.cells cc el (lo, lo)) = w' := by
          have hx : w'.heap[b] = .cells cc el (lo, lo) := by
            rw [Array.getElem?_eq_getElem hbl] at hheap
            exact Option.some.inj hheap
          unfold World.put
          rw [← hx]
          simp [Array.setIfInBounds, hbl]
        have hle := hr'.add_le b 0 cc.size
        have hvs : VRs σ outs (shareCells (lastOne (sumsOf ps 0))) := cellVs.to h6 (shareCells_one _ (strs_lastOne _ (strs_sumsOf ps 0 h4)))
        have hmove := hr'.move (c := b) (j := 0) (n := cc.size) (x := .cells outs el .plain) (o := .cells cc el (lo, lo)) hbl (Nat.le_trans hr.grow hb)
          (fun b' y d m hy hly hs' => by have := hr.size _ _ _ _ hs'; omega) ht
          ⟨cc, lo, lo, rfl, rfl, ⟨rfl, rfl⟩, fun i v hi => by
            obtain ⟨u, hu, hru⟩ := (VRs.mono hle _ _ hvs).get i v hi
            exact ⟨u, by rw [Nat.add_zero]; exact hcells i u hu, hru⟩⟩ h.ds
        rw [hput] at hmove
        refine ⟨_, _, rfl, Sg.add_grows _ _ _ _ _, ?_, hmove⟩
        simp only [VR]
        exact ⟨b, 0, cc.size, 0, cap', Sg.add_self _ _ _ _ _, rfl, hmc, ⟨hmc, by omega⟩, .inl rfl⟩
    · subst e; exact ok.elim
  ·
    rename_i z1 z2 v u
    have hlay : ShareCalls G.P f := hlay
    obtain ⟨n, cs, e, hl, hn6, hF⟩ := slcRow_inv e ok
    obtain ⟨X, hX, e⟩ := hget_inv e ok
    split at e
    · rename_i l
      rw [appK_eq] at e
      obtain ⟨q, hq, e, hop, hbeq⟩ := findA_inv ok e
      have hbeq := beq_eq _ _ hbeq
      simp only [VRs, VR] at hv
      obtain ⟨y, m, hy, ⟨ag, rfl, y1, m1, hag, ⟨b1, rfl, _⟩, y2, m2, hm1, ⟨b2, rfl, _⟩, y3, m3, hm2, hy3, hm3⟩, z, m', hz, hz1, rfl⟩ := hv
      subst hz hm1 hm2 hm3
      obtain ⟨c1, j, cap, us, rfl, hcap, hc1, hus, hcell⟩ := hF B σ y3 w hy3 hr
      have hag : ag = #[.string b1, .string b2, .slice (some ⟨c1, j, none⟩) n cap] := Array.toList_inj.1 hag
      subst hag
      have hargs : args' = #[.agg #[.string b1, .string b2, .slice (some ⟨c1, j, none⟩) n cap], z] := Array.toList_inj.1 hy
      subst hargs
      obtain ⟨⟨c0, d0, n0⟩, hs⟩ := hr.syms.1
      have hsr := (show ∀ q ∈ l, SRok σ q from hr.blk _ _ _ _ _ hX hs) q hq
      unfold SRok at hsr
      rw [if_pos (by rw [hbeq]; rfl), if_pos (by rw [hbeq]; rfl), if_neg (by rw [Nat.eq_of_beq_eq_true hop]; decide)] at hsr
      obtain ⟨ins, uv, qs, uu, nm, s, q', x, h1, h2, h3, h4, h5, h6, h7, h8, h9⟩ := hsr
      rw [hbeq] at h1
      have h1 := AV.agg.inj h1
      obtain ⟨rfl, he⟩ := List.append_inj' h1 rfl
      cases he
      have hus := cellVs.of h3 hus
      subst hus
      have hn : qs.length = n := by
        have := length_cellVs h3
        rw [length_shareCells, hl] at this
        omega
      subst hn
      have hz2 := atomV.of h5 hz1
      subst hz2
      rw [h2] at e
      have e : k (.str nm) h = r := e
      refine ⟨_, h, e, .refl _, (hlay b1 b2 c1 j cap qs uu w h4 hcap hn6 hcell hc1 q' s x h6 h8 h9).mono ?_⟩
      rintro e' w' ⟨rfl, hold⟩
      exact ⟨_, σ, rfl, .refl _ _, by simp only [VR]; exact ⟨s, rfl, h7⟩, hr.any hold⟩
    · subst e; exact ok.elim
  · subst e; exact ok.elim
end
end
end Go.Ev
namespace Go.Ev
noncomputable section
open Go
theorem Tr.get_node {a b c d e f g h : Tr} {p : List I8} {v : AV} (k : (Tr.node a b c d e f g h).get p = some v) : ∃ i q x, p = i :: q ∧ (Tr.node a b c d e f g h).sub i = some x ∧ x.get q = some v := by
  cases p with
  | nil => simp [Tr.get] at k
  | cons i q =>
    have k : (match (Tr.node a b c d e f g h).sub i with | some x => x.get q | none => none) = some v := k
    cases hs : (Tr.node a b c d e f g h).sub i with
    | none => rw [hs] at k; cases k
    | some x => rw [hs] at k; exact ⟨i, q, x, rfl, hs, k⟩
theorem Tr.get_cons {t x : Tr} {i : I8} {q : List I8} (h : t.sub i = some x) : t.get (i :: q) = x.get q := by
  cases t with
  | leaf v => cases h
  | node a b c d e f g k =>
    show (match (Tr.node a b c d e f g k).sub i with | some x => x.get q | none => none) = _
    rw [h]
def RenT (ρ : Nat → Option Nat) (t t' : Tr) : Prop := ∀ p v', t'.get p = some v' → ∃ v, t.get p = some v ∧ ∀ σ τ, Compat ρ σ τ → ∀ u, VR σ v u → VR τ v' u
theorem RenT.node {ρ : Nat → Option Nat} {a b c d e f g h a' b' c' d' e' f' g' h' : Tr} (ha : RenT ρ a a') (hb : RenT ρ b b') (hc : RenT ρ c c') (hd : RenT ρ d d') (he : RenT ρ e e') (hf : RenT ρ f f') (hg : RenT ρ g g')
    (hh : RenT ρ h h') : RenT ρ (.node a b c d e f g h) (.node a' b' c' d' e' f' g' h') := by
  intro p v' k
  obtain ⟨i, q, x, rfl, hs, hx⟩ := Tr.get_node k
  cases i <;> (simp only [Tr.sub, Option.some.injEq] at hs; subst hs)
  · obtain ⟨v, h1, h2⟩ := ha q v' hx; exact ⟨v, by rw [Tr.get_cons (by rfl)]; exact h1, h2⟩
  · obtain ⟨v, h1, h2⟩ := hb q v' hx; exact ⟨v, by rw [Tr.get_cons (by rfl)]; exact h1, h2⟩
  · obtain ⟨v, h1, h2⟩ := hc q v' hx; exact ⟨v, by rw [Tr.get_cons (by rfl)]; exact h1, h2⟩
  · obtain ⟨v, h1, h2⟩ := hd q v' hx; exact ⟨v, by rw [Tr.get_cons (by rfl)]; exact h1, h2⟩
  · obtain ⟨v, h1, h2⟩ := he q v' hx; exact ⟨v, by rw [Tr.get_cons (by rfl)]; exact h1, h2⟩
  · obtain ⟨v, h1, h2⟩ := hf q v' hx; exact ⟨v, by rw [Tr.get_cons (by rfl)]; exact h1, h2⟩
  · obtain ⟨v, h1, h2⟩ := hg q v' hx; exact ⟨v, by rw [Tr.get_cons (by rfl)]; exact h1, h2⟩
  · obtain ⟨v, h1, h2⟩ := hh q v' hx; exact ⟨v, by rw [Tr.get_cons (by rfl)]; exact h1, h2⟩
theorem renT_inv {ρ : Nat → Option Nat} {r : Out} : ∀ (t : Tr) (k : Tr → Out), renT ρ t k = r → ∃ t', k t' = r ∧ RenT ρ t t'
  | .leaf v, k, e => by
    obtain ⟨v', e, hv⟩ := renV_inv v _ (show renV ρ v (fun v' => k (.leaf v')) = r from e)
    refine ⟨_, e, fun p x hx => ?_⟩
    cases p with
    | nil => simp only [Tr.get, Option.some.injEq] at hx; subst hx; exact ⟨v, rfl, hv⟩
    | cons i q => simp [Tr.get, Tr.sub] at hx
  | .node a b c d e f g h, k, e0 => by
    obtain ⟨a', e1, ha⟩ := renT_inv a _ (show renT ρ a (fun a => renT ρ b fun b => renT ρ c fun c => renT ρ d fun d => renT ρ e fun e => renT ρ f fun f => renT ρ g fun g => renT ρ h fun h => k (.node a b c d e f g h)) = r from e0)
    obtain ⟨b', e1, hb⟩ := renT_inv b _ e1
    obtain ⟨c', e1, hc⟩ := renT_inv c _ e1
    obtain ⟨d', e1, hd⟩ := renT_inv d _ e1
    obtain ⟨e', e1, he⟩ := renT_inv e _ e1
    obtain ⟨f', e1, hf⟩ := renT_inv f _ e1
    obtain ⟨g', e1, hg⟩ := renT_inv g _ e1
    obtain ⟨h', e1, hh⟩ := renT_inv h _ e1
    exact ⟨_, e1, RenT.node ha hb hc hd he hf hg hh⟩
theorem RenT.tr {ρ : Nat → Option Nat} {t t' : Tr} (h : RenT ρ t t') {σ τ : Sg} (hc : Compat ρ σ τ) {nt : Nat} {tm : Array Value} (k : TR σ nt t tm) : TR τ nt t' tm := by
  refine ⟨k.size, fun i v' hv => ?_⟩
  unfold tget at hv
  split at hv
  · rename_i hi
    obtain ⟨v, hg, hr⟩ := h _ _ hv
    exact hr σ τ hc _ (k.val i v (by unfold tget; rw [if_pos hi]; exact hg))
  · cases hv
structure Sta where
  tr : Tr
  keep : List AV
  bs : List ABlk
structure Bas where
  G : Cfg
  ok : G.Ok
  ext : ExtOk G
  B : Base
  t : BT ABlk
  n : Nat
  σ : Sg
  w : World
  hr : HR B σ ⟨t, n, [], n⟩ w
def Bas.Lays (A : Bas) (bs : List ABlk) (t : BT ABlk) : Prop := ∀ a, t.get a = if A.n ≤ a ∧ a < A.n + bs.length then bs[a - A.n]? else A.t.get a
structure Bas.Holds (A : Bas) (S : Sta) (σ : Sg) (nt : Nat) (tm : Array Value) (us : List Value) (w : World) : Prop where
  grows : Grows A.n A.σ σ
  tr : TR σ nt S.tr tm
  keep : VRs σ S.keep us
  heap : ∀ t, A.Lays S.bs t → HR A.B σ ⟨t, A.n + S.bs.length, [], A.n⟩ w
theorem Bas.gc (A : Bas) {τ : Sg} {h : AH} {w : World} {nt : Nat} {tr : Tr} {tm : Array Value} {us : List Value} {keep : List AV} {x x' : Ex} {S : Sta} (hg : Grows A.n A.σ τ) (hold : ∀ b, b < A.n → h.t.get b = A.t.get b)
    (hlo : h.lo = A.n) (hr : HR A.B τ h w) (ht : TR τ nt tr tm) (hk : VRs τ keep us) (e : gcF keep x tr h = .done x' S.tr S.keep S.bs) :
    x' = x ∧ h.ds = [] ∧ ∃ σ, A.Holds S σ nt tm us w := by
  unfold gcF at e
  cases hds : h.ds with
  | cons _ _ => rw [hds] at e; cases e
  | nil =>
    rw [hds] at e
    simp only [hlo] at e
    have okd : (Out.done x' S.tr S.keep S.bs).ok := trivial
    obtain ⟨order, e1, hnd, hge⟩ := reachK_inv okd _ _ _ _ e (by simp) (by simp)
    obtain ⟨tr', e2, htr⟩ := renT_inv tr _ e1
    obtain ⟨keep', e3, hkp⟩ := renVs_inv keep _ e2
    obtain ⟨bs', e4, hlen, hbs⟩ := newBlks_inv okd order _ e3
    cases S with
    | mk str skeep sbs =>
    simp only [Out.done.injEq] at e4
    obtain ⟨rfl, rfl, rfl, rfl⟩ := e4
    refine ⟨rfl, rfl, ?_⟩
    obtain ⟨σ', hcomp, hg', hall⟩ := canon_core (h := ⟨A.t, A.n, [], A.n⟩) A.hr hnd hge hlen hbs hg hold hr
    exact ⟨σ', hg', htr.tr hcomp ht, hkp τ σ' hcomp us hk, fun t hl => (hall t hl).2⟩
def Bas.Runs (A : Bas) (nt : Nat) (code : Code) (S : Sta) (x : Ex) (S' : Sta) : Prop :=
  ∀ (c : Cx) tm items todo cs w us Z, c.Fits false cs → Begins code todo items → (∃ σ, A.Holds S σ nt tm us w) →
    (∀ tm' w', (∃ σ, A.Holds S' σ nt tm' us w') → Leaves A.G.P c x tm' [] todo cs w' Z) → Reach A.G.P (lone (c.fr tm [] items) cs w) Z
section
variable {A : Bas} {nt : Nat} {S S1 S2 S' : Sta} {x : Ex}
theorem Bas.fin (A : Bas) {S S' : Sta} {σ τ : Sg} {t' : BT ABlk} {h : AH} {w w' : World} {nt nt' : Nat} {tr : Tr} {tm tm' : Array Value} {us us' : List Value} {keep : List AV} {x x' : Ex} {ds : List Deferred}
    (H : A.Holds S σ nt' tm' us' w) (hl : A.Lays S.bs t') (hg : Grows (A.n + S.bs.length) σ τ) (hst : Stays ⟨t', A.n + S.bs.length, [], A.n⟩ h) (hr : HR A.B τ h w') (hds : ADRs τ h.ds ds) (ht : TR τ nt tr tm) (hk : VRs τ keep us)
    (e : gcF keep x tr h = .done x' S'.tr S'.keep S'.bs) : x' = x ∧ ds = [] ∧ ∃ σ, A.Holds S' σ nt tm us w' := by
  have hold : ∀ b, b < A.n → h.t.get b = A.t.get b := fun b hb => by
    rw [hst.old b hb]
    show t'.get b = _
    rw [hl b, if_neg (by omega)]
  have hgr : Grows A.n A.σ τ := H.grows.trans hg (Nat.le_add_right _ _)
  obtain ⟨h1, h2, h3⟩ := A.gc hgr hold hst.lo hr ht hk e
  refine ⟨h1, ?_, h3⟩
  rw [h2] at hds
  exact hds
theorem Bas.leaf {code : Code} {n : Nat} (e : mergeK S.bs A.t A.n (fun t m => run A.G n ⟨nt, false, code⟩ S.tr ⟨t, m, [], A.n⟩ (gcF S.keep)) = .done x S'.tr S'.keep S'.bs) : A.Runs nt code S x S' := by
  intro c tm items todo cs w us Z hc hb ⟨σ, H⟩ K
  obtain ⟨t', e1, hl⟩ := mergeK_inv (show (Out.done x S'.tr S'.keep S'.bs).ok from trivial) _ _ _ _ e
  have hr := H.heap t' hl
  refine run_ok A.ok A.ext n nt false code S.tr _ _ _ e1 trivial A.B σ c tm [] items todo cs w Z hc hb H.tr hr rfl ?_
  intro y tr' h' τ tm' ds' w' e2 hg hst ht' hr' hds'
  obtain ⟨rfl, rfl, H'⟩ := A.fin H hl hg hst hr' hds' ht' (VRs.mono (hr.grows_le hg) _ _ H.keep) e2
  exact K tm' w' H'
theorem Bas.seq {a b : Code} (ha : A.Runs nt a S .normal S1) (hb : A.Runs nt b S1 x S') : A.Runs nt (.seq a b) S x S' := by
  intro c tm items todo cs w us Z hc hbg H K
  rcases hbg with rfl | ⟨a', h, _⟩
  · exact go_seq (ha c tm _ (.code b :: todo) cs w us Z hc (.inl rfl) H fun tm' w' H' => hb c tm' _ todo cs w' us Z hc (.inl rfl) H' K)
  · cases h
theorem Bas.seqX {a b : Code} (hx : x ≠ .normal) (ha : A.Runs nt a S x S') : A.Runs nt (.seq a b) S x S' := by
  intro c tm items todo cs w us Z hc hbg H K
  rcases hbg with rfl | ⟨a', h, _⟩
  · refine go_seq (ha c tm _ (.code b :: todo) cs w us Z hc (.inl rfl) H fun tm' w' H' => ?_)
    have := K tm' w' H'
    cases x with
    | normal => exact absurd rfl hx
    | exit i => exact fun k' hk' => this k' (by rw [hk']; rfl)
    | goto l => exact fun k' hk' => this k' (by rw [hk']; rfl)
    | ret => exact this
  · cases h
theorem Bas.block {a : Code} {i : Nat} (hx : x ≠ .exit i) (ha : A.Runs nt a S x S') : A.Runs nt (.block i a) S x S' := by
  intro c tm items todo cs w us Z hc hbg H K
  rcases hbg with rfl | ⟨a', h, _⟩
  · refine go_block (ha c tm _ (.inBlock i :: todo) cs w us Z hc (.inl rfl) H fun tm' w' H' => ?_)
    have := K tm' w' H'
    cases x with
    | normal => exact go_inBlock this
    | exit j =>
      refine fun k' hk' => this k' ?_
      have hji : j ≠ i := fun h => hx (by rw [h])
      rw [hk']; simp [exitTo, Ne.symm hji]
    | goto l => exact fun k' hk' => this k' (by rw [hk']; rfl)
    | ret => exact this
  · cases h
theorem Bas.blockX {a : Code} {i : Nat} (ha : A.Runs nt a S (.exit i) S') : A.Runs nt (.block i a) S .normal S' := by
  intro c tm items todo cs w us Z hc hbg H K
  rcases hbg with rfl | ⟨a', h, _⟩
  · refine go_block (ha c tm _ (.inBlock i :: todo) cs w us Z hc (.inl rfl) H fun tm' w' H' => ?_)
    intro k' hk'
    exact go_exit (k' := todo) (by rw [hk']; simp [exitTo]) (K tm' w' H')
  · cases h
theorem Bas.scope {a : Code} (hx : ∀ l, x ≠ .goto l) (ha : A.Runs nt a S x S') : A.Runs nt (.scope a) S x S' := by
  intro c tm items todo cs w us Z hc hbg H K
  rcases hbg with rfl | ⟨a', h, _⟩
  · refine go_scope (ha c tm _ (.inScope a :: todo) cs w us Z hc (.inl rfl) H fun tm' w' H' => ?_)
    have := K tm' w' H'
    cases x with
    | normal => exact go_inScope this
    | exit i => exact fun k' hk' => this k' (by rw [hk']; rfl)
    | goto l => exact absurd rfl (hx l)
    | ret => exact this
  · cases h
theorem Bas.loop {a : Code} (ha : A.Runs nt a S .normal S1) (hb : A.Runs nt (.loop a) S1 x S') : A.Runs nt (.loop a) S x S' := by
  intro c tm items todo cs w us Z hc hbg H K
  have key : Reach A.G.P (lone (c.fr tm [] (.code a :: .inLoop a :: todo)) cs w) Z :=
    ha c tm _ (.inLoop a :: todo) cs w us Z hc (.inl rfl) H fun tm' w' H' => hb c tm' _ todo cs w' us Z hc (.inr ⟨a, rfl, rfl⟩) H' K
  rcases hbg with rfl | ⟨a', h, rfl⟩
  · exact go_loop key
  · cases h
    exact .step step_inLoop' key
theorem Bas.loopX {a : Code} (hx : x ≠ .normal) (ha : A.Runs nt a S x S') : A.Runs nt (.loop a) S x S' := by
  intro c tm items todo cs w us Z hc hbg H K
  have key : Reach A.G.P (lone (c.fr tm [] (.code a :: .inLoop a :: todo)) cs w) Z := by
    refine ha c tm _ (.inLoop a :: todo) cs w us Z hc (.inl rfl) H fun tm' w' H' => ?_
    have := K tm' w' H'
    cases x with
    | normal => exact absurd rfl hx
    | exit i => exact fun k' hk' => this k' (by rw [hk']; rfl)
    | goto l => exact fun k' hk' => this k' (by rw [hk']; rfl)
    | ret => exact this
  rcases hbg with rfl | ⟨a', h, rfl⟩
  · exact go_loop key
  · cases h
    exact .step step_inLoop' key
theorem Bas.cond {a b : Code} {i : Nat} {t : Bool} (hi : tget nt S.tr i = some (.bool t)) (h : A.Runs nt (if t then a else b) S x S') : A.Runs nt (.cond (.tmp i) a b) S x S' := by
  intro c tm items todo cs w us Z hc hbg ⟨σ, H⟩ K
  rcases hbg with rfl | ⟨a', h, _⟩
  · have hx := H.tr.val i _ hi
    simp only [VR] at hx
    exact go_cond hx (h c tm _ todo cs w us Z hc (.inl rfl) ⟨σ, H⟩ K)
  · cases h
end
def q1 : Tr := .leaf .top
def q2 : Tr := .node q1 q1 q1 q1 q1 q1 q1 q1
def q3 : Tr := .node q2 q2 q2 q2 q2 q2 q2 q2
def q4 : Tr := .node q3 q3 q3 q3 q3 q3 q3 q3
def trTop (nt : Nat) : Tr := if nt ≤ 64 then q3 else q4
theorem trTop_tr {σ : Sg} {nt : Nat} {tm : Array Value} (h : tm.size = nt) : TR σ nt (trTop nt) tm := by
  refine ⟨h, fun t v hv => ?_⟩
  have : v = .top := by
    unfold tget trTop path at hv
    split at hv
    · by_cases h64 : nt ≤ 64
      · rw [if_pos h64, if_pos h64] at hv
        have key : ∀ i j : I8, Tr.get q3 [i, j] = some .top := by intro i j; cases i <;> cases j <;> rfl
        rw [key] at hv; exact (Option.some.inj hv).symm
      · rw [if_neg h64, if_neg h64] at hv
        have key : ∀ i j k : I8, Tr.get q4 [i, j, k] = some .top := by intro i j k; cases i <;> cases j <;> cases k <;> rfl
        rw [key] at hv; exact (Option.some.inj hv).symm
    · cases hv
  subst this
  simp [VR]
def getsK (nt : Nat) : List Nat → Tr → (List AV → Out) → Out
  | [], _, k => k []
  | t :: l, tr, k => (cget nt t).f tr fun v => getsK nt l tr fun vs => k (v :: vs)
def putsK (nt : Nat) : List Nat → List AV → Tr → (Tr → List AV → Out) → Out
  | [], vs, tr, k => k tr vs
  | t :: l, vs, tr, k => List.casesOn vs (.bad 200) fun v vs => (cput nt t).f tr v fun tr' => putsK nt l vs tr' k
def dstK (nt : Nat) (d : Option Tmp) (v : AV) (tr : Tr) (k : Tr → Out) : Out := match d with | none => k tr | some d => (cput nt d).f tr v k
theorem getsK_inv {nt : Nat} {tr : Tr} {r : Out} (ok : r.ok) : ∀ (l : List Nat) (k : List AV → Out), getsK nt l tr k = r → ∃ vs, k vs = r ∧ ∀ σ tm, TR σ nt tr tm → VRs σ vs (l.map fun t => tm.getD t undef)
  | [], k, e => ⟨[], e, fun _ _ _ => VRs.nil⟩
  | t :: l, k, e => by
    obtain ⟨v, hv, e⟩ := cget_inv (show (cget nt t).f tr (fun v => getsK nt l tr fun vs => k (v :: vs)) = r from e) ok
    obtain ⟨vs, e, hs⟩ := getsK_inv ok l _ e
    exact ⟨_, e, fun σ tm ht => VRs.cons (ht.val t v hv) (hs σ tm ht)⟩
theorem putsK_inv {nt : Nat} {r : Out} (ok : r.ok) : ∀ (l : List Nat) (vs : List AV) (tr : Tr) (k : Tr → List AV → Out), putsK nt l vs tr k = r →
    ∃ tr' vs', k tr' vs' = r ∧ ∀ σ tm us, TR σ nt tr tm → VRs σ vs ((l.map fun t => tm.getD t undef) ++ us) → TR σ nt tr' tm ∧ VRs σ vs' us
  | [], vs, tr, k, e => ⟨tr, vs, e, fun _ _ _ ht hv => ⟨ht, hv⟩⟩
  | t :: l, [], tr, k, e => by
    have e : Out.bad 200 = r := e
    subst e; exact ok.elim
  | t :: l, v :: vs, tr, k, e => by
    obtain ⟨hlt, tr1, e, hp⟩ := cput_inv (show (cput nt t).f tr v (fun tr' => putsK nt l vs tr' k) = r from e) ok
    obtain ⟨tr', vs', e, hs⟩ := putsK_inv ok l vs tr1 k e
    refine ⟨tr', vs', e, fun σ tm us ht hv => ?_⟩
    simp only [List.map_cons, List.cons_append, VRs] at hv
    obtain ⟨u, m, hm, hu, hvs⟩ := hv
    obtain ⟨h1, h2⟩ := List.cons.inj hm
    subst h1; subst h2
    refine hs σ tm us ⟨ht.size, fun q x hx => ?_⟩ hvs
    rw [hp q (tget_lt hx)] at hx
    split at hx
    · rename_i h; subst h; cases hx; exact hu
    · exact ht.val q x hx
theorem dstK_inv {nt : Nat} {d : Option Tmp} {v : AV} {tr : Tr} {k : Tr → Out} {r : Out} (ok : r.ok) (e : dstK nt d v tr k = r) :
    ∃ tr', k tr' = r ∧ ∀ σ tm u, TR σ nt tr tm → VR σ v u → TR σ nt tr' (put tm d u) := by
  cases d with
  | none => exact ⟨tr, e, fun _ _ _ ht _ => ht⟩
  | some d =>
    obtain ⟨hlt, tr', e, hp⟩ := cput_inv (show (cput nt d).f tr v k = r from e) ok
    exact ⟨tr', e, fun σ tm u ht hv => TR.put ht hlt hp hv⟩
theorem regionB_pre {G : Cfg} {nt : Nat} {rnd : Bool} {ops : List Oper} (hO : ∀ o ∈ ops, OStep G nt rnd o (cOp G nt rnd o).f) : ∀ (l : List Oper) (n : Nat) (m : List Oper), ops.drop n = l ++ m → ∀ s, SelfOk G s → ∀ tr h k r,
    (regionB G nt rnd ops l).f s tr h k = r → r.ok →
    ∀ B σ (c : Cx) tm ds todo cs w Z, c.Fits rnd cs → TR σ nt tr tm → HR B σ h w → ADRs σ h.ds ds →
    (∀ tr' h' τ tm' ds' w', k tr' h' = r → Grows h.next σ τ → Stays h h' → TR τ nt tr' tm' → HR B τ h' w' → ADRs τ h'.ds ds' →
      Reach G.P (lone (c.fr tm' ds' (.inRegion ops.toArray ((List.range ops.length).drop (n + l.length)) :: todo)) cs w') Z) →
    Reach G.P (lone (c.fr tm ds (.inRegion ops.toArray ((List.range ops.length).drop n) :: todo)) cs w) Z
  | [], n, m, hl, s, hs, tr, h, k, r, e, ok, B, σ, c, tm, ds, todo, cs, w, Z, hc, ht, hr, hds, K => K tr h σ tm ds w e (.refl _ _) (.refl _) ht hr hds
  | o :: l, n, m, hl, s, hs, tr, h, k, r, e, ok, B, σ, c, tm, ds, todo, cs, w, Z, hc, ht, hr, hds, K => by
    have e : (operB G nt rnd ops o).f s tr h (fun tr' h' => (regionB G nt rnd ops l).f s tr' h' k) = r := e
    have hn : n < ops.length := by
      have := congrArg List.length hl
      simp at this; omega
    have ho : ops[n]? = some o := by
      have := congrArg (·[0]?) hl
      simpa using this
    have hrest : ops.drop (n + 1) = l ++ m := by
      have := congrArg List.tail hl
      simpa using this
    have hrg : (List.range ops.length).drop n = n :: (List.range ops.length).drop (n + 1) := by
      rw [List.drop_eq_getElem_cons (by simpa using hn)]
      simp
    rw [hrg]
    refine operB_step (hO o (List.mem_of_getElem? ho)) s hs tr h _ r e ok B σ c tm ds cs w Z hc (fun x _ => ht.opR hr.toHR0 x) (fun _ _ _ x _ => ht.opR hr.toHR0 (.tmp x)) hr hds n _ todo (by simpa using ho) ?_
    intro tr' h' v τ u w' ds' e1 hg hst hd hv hr' hds'
    refine regionB_pre hO l (n + 1) m hrest s hs tr' h' k r e1 ok B τ c _ ds' todo cs w' Z hc (hd.tr (hr.grows_le hg) ht hv) hr' hds' ?_
    intro tr2 h2 τ2 tm2 ds2 w2 e2 hg2 hst2 ht2 hr2 hds2
    have := K tr2 h2 τ2 tm2 ds2 w2 e2 (hg.trans hg2 hst.next) (hst.trans hst2) ht2 hr2 hds2
    rw [show n + (o :: l).length = n + 1 + l.length from by simp; omega] at this
    exact this
theorem Bas.call {A : Bas} {nt id n f : Nat} {S S1 S2 S3 : Sta} {pre post : List Oper} {o : Oper} {args : Array Operand} {at_ : Array TypeId} {fn : Func} {body : Code} {regs : List Nat} {x : Ex}
    (ho : o.op = .call ⟨.value (.func f), args, at_⟩) (hgd : o.guard = none) (hfn : A.G.ft.get f = some fn) (hb : fn.body = some body)
    (e1 : mergeK S.bs A.t A.n (fun t m => (regionB A.G nt false (pre ++ o :: post) pre).f (run A.G n) S.tr ⟨t, m, [], A.n⟩ fun tr h => (opds nt args.toList).f tr fun l =>
      (argsB fn.ntmps (fn.params.size + fn.nfree) 0).f l (tr0 fn.ntmps) fun tr1 => getsK nt regs tr fun vs => gcF (vs ++ S.keep) .normal tr1 h) = .done .normal S1.tr S1.keep S1.bs)
    (hx : x = .normal ∨ x = .ret) (h2 : A.Runs fn.ntmps body S1 x S2)
    (e3 : mergeK S2.bs A.t A.n (fun t m => (resB A.G fn.ntmps fn.results.toList).f S2.tr ⟨t, m, [], A.n⟩ fun vs => putsK nt regs S2.keep (trTop nt) fun tr keep => dstK nt o.dst (oneOf vs) tr fun tr' =>
      (regionB A.G nt false (pre ++ o :: post) post).f (run A.G n) tr' ⟨t, m, [], A.n⟩ fun tr2 h2 => gcF keep .normal tr2 h2) = .done .normal S3.tr S3.keep S3.bs) :
    A.Runs nt (.region id (pre ++ o :: post).toArray false) S .normal S3 := by
  intro c tm items todo cs w us Z hc hbg ⟨σ, H⟩ K
  rcases hbg with rfl | ⟨a', h, _⟩
  case inr => cases h
  have hO : ∀ o' ∈ pre ++ o :: post, OStep A.G nt false o' (cOp A.G nt false o').f := fun o' _ => cOp_step A.ok A.ext o'
  have okd : ∀ S : Sta, (Out.done .normal S.tr S.keep S.bs).ok := fun _ => trivial
  obtain ⟨t', e2, hl⟩ := mergeK_inv (okd S1) _ _ _ _ e1
  have hr := H.heap t' hl
  have hidx : (pre ++ o :: post).toArray[pre.length]? = some o := by simp
  have hrg : (List.range (pre ++ o :: post).length).drop (0 + pre.length) = pre.length :: (List.range (pre ++ o :: post).length).drop (pre.length + 1) := by
    rw [Nat.zero_add, List.drop_eq_getElem_cons (by simp)]
    simp
  refine go_region ?_
  have hreg := regionB_pre hO pre 0 (o :: post) (by simp) (run A.G n) (run_ok A.ok A.ext n) S.tr _ _ _ e2 (okd S1) A.B σ c tm [] todo cs w Z hc H.tr hr rfl ?_
  · simpa using hreg
  intro tr1 h1 τ tm1 ds1 w1 e4 hg hst ht1 hr1 hds1
  obtain ⟨l, e5, hl5⟩ := opds_inv (okd S1) e4
  obtain ⟨tr2, e6, hlen, hbnd, hget⟩ := argsB_inv (okd S1) _ _ _ _ _ e5
  obtain ⟨vs, e7, hvs⟩ := getsK_inv (okd S1) regs _ e6
  have hargs : VRs τ l (args.map (ev tm1)).toList := by simpa using hl5 τ tm1 fun y _ => ht1.opR hr1.toHR0 y
  have htr := enter_tr hlen hbnd hargs hget
  have hk1 : VRs τ (vs ++ S.keep) ((regs.map fun t => tm1.getD t undef) ++ us) := VRs.append (hvs τ tm1 ht1) (VRs.mono (hr.grows_le hg) _ _ H.keep)
  obtain ⟨_, rfl, σ1, H1⟩ := A.fin H hl hg hst hr1 hds1 htr hk1 e7
  have hcode : (A.G.ft.get f).bind (·.body) = some body := by rw [hfn]; exact hb
  obtain ⟨hP, _⟩ := A.ok.fn f fn hfn
  rw [hrg]
  refine go_enter hidx (wanted_none hgd _) (.inl hc.1) (f := f) (args := args.map (ev tm1)) (w' := w1) ?_ ?_
  · have hrun : execOp (ev tm1) o = calling (ev tm1 (.func f)) (args.map (ev tm1)) := by simp only [execOp, ho, resolve, calling]
    rw [hrun]
    have := callFunc_run A.ok hcode (args.map (ev tm1)) w1
    simpa [calling, Deferred.ofValue, ev, invoke] using this
  rw [enter_frame hP hb]
  refine h2 ⟨f, .normal, none⟩ _ _ [] _ w1 _ Z ⟨rfl, .inl rfl⟩ (.inl rfl) ⟨σ1, H1⟩ ?_
  intro tm2 w2 ⟨σ2, H2⟩
  obtain ⟨t2, e8, hl2⟩ := mergeK_inv (okd S3) _ _ _ _ e3
  have hr2 := H2.heap t2 hl2
  obtain ⟨rs, e9, hres⟩ := resB_inv A.ok (okd S3) _ _ e8
  obtain ⟨us2, hus, hR⟩ := hres A.B σ2 tm2 w2 H2.tr hr2.toHR0
  have hrun := results_run hus
  obtain ⟨tr5, keep5, e10, hput⟩ := putsK_inv (okd S3) regs _ _ _ e9
  obtain ⟨htr5, hk5⟩ := hput σ2 tm1 us (trTop_tr ht1.size) H2.keep
  obtain ⟨tr6, e11, hd⟩ := dstK_inv (okd S3) e10
  have htr6 := hd σ2 tm1 _ htr5 (oneOf_R hR)
  have hback : ∀ k, Reach A.G.P (lone ((⟨f, .normal, none⟩ : Cx).out tm2 [] k) (c.fr tm1 [] (.inRegion (pre ++ o :: post).toArray (pre.length :: (List.range (pre ++ o :: post).length).drop (pre.length + 1)) :: todo) :: cs) w2) Z := by
    intro k
    refine go_return hP hrun rfl ?_
    rw [Cx.finish, hidx]
    refine regionB_ok hO post (pre.length + 1) (by simp) (run A.G n) (run_ok A.ok A.ext n) tr6 _ _ _ e11 (okd S3) A.B σ2 c _ [] todo cs w2 Z hc htr6 hr2 rfl ?_
    intro tr7 h7 τ7 tm7 ds7 w7 e12 hg7 hst7 ht7 hr7 hds7
    obtain ⟨_, rfl, H3⟩ := A.fin H2 hl2 hg7 hst7 hr7 hds7 ht7 (VRs.mono (hr2.grows_le hg7) _ _ hk5) e12
    exact K tm7 w7 H3
  rcases hx with rfl | rfl
  · exact go_end rfl (hback [])
  · exact fun k => go_ret rfl (hback _)
def allOrd (ops : Array Oper) : Nat → Array Bool → List (List Nat)
  | 0, _ => [[]]
  | fuel + 1, listed => match Region.ready .any ops listed with
    | [] => [[]]
    | rs => rs.flatMap fun i => (allOrd ops fuel (listed.setIfInBounds i true)).map (i :: ·)
theorem go_allOrd {ops : Array Oper} : ∀ (fuel t : Nat) (listed : Array Bool) (acc : List Nat), ∃ l ∈ allOrd ops fuel listed, Region.linearise.go .any ops fuel t listed acc = acc.reverse ++ l
  | 0, t, listed, acc => ⟨[], by simp [allOrd], by simp [Region.linearise.go]⟩
  | fuel + 1, t, listed, acc => by
    have hgo : Region.linearise.go .any ops (fuel + 1) t listed acc = match (Region.ready .any ops listed)[t % (Region.ready .any ops listed).length]? with
      | some i => Region.linearise.go .any ops fuel (t / (Region.ready .any ops listed).length) (listed.setIfInBounds i true) (i :: acc)
      | none => acc.reverse := by
      simp only [Region.linearise.go]; rfl
    rw [hgo]
    unfold allOrd
    cases hr : Region.ready .any ops listed with
    | nil => exact ⟨[], by simp, by simp⟩
    | cons x xs =>
      have hlt : t % (x :: xs).length < (x :: xs).length := Nat.mod_lt _ (by simp)
      rw [List.getElem?_eq_getElem hlt]
      obtain ⟨l, hl, e⟩ := go_allOrd fuel (t / (x :: xs).length) (listed.setIfInBounds ((x :: xs)[t % (x :: xs).length]) true) ((x :: xs)[t % (x :: xs).length] :: acc)
      refine ⟨(x :: xs)[t % (x :: xs).length] :: l, ?_, ?_⟩
      · simp only [List.mem_flatMap, List.mem_map]
        exact ⟨_, List.getElem_mem hlt, l, hl, rfl⟩
      · simp only
        rw [e, List.reverse_cons, List.append_assoc]
        rfl
def opsAt (ops : List Oper) (is : List Nat) : List Oper := is.filterMap fun i => ops[i]?
def ordersOf (ops : List Oper) (draw : Bool) : List (List Nat) := if draw then allOrd ops.toArray ops.length (Array.replicate ops.length false) else [List.range ops.length]
theorem regionI_pre {G : Cfg} {nt : Nat} {rnd : Bool} {ops : List Oper} (hO : ∀ o ∈ ops, OStep G nt rnd o (cOp G nt rnd o).f) : ∀ (is rest : List Nat), (∀ i ∈ is, i < ops.length) → ∀ s, SelfOk G s → ∀ tr h k r,
    (regionB G nt rnd ops (opsAt ops is)).f s tr h k = r → r.ok →
    ∀ B σ (c : Cx) tm ds todo cs w Z, c.Fits rnd cs → TR σ nt tr tm → HR B σ h w → ADRs σ h.ds ds →
    (∀ tr' h' τ tm' ds' w', k tr' h' = r → Grows h.next σ τ → Stays h h' → TR τ nt tr' tm' → HR B τ h' w' → ADRs τ h'.ds ds' →
      Reach G.P (lone (c.fr tm' ds' (.inRegion ops.toArray rest :: todo)) cs w') Z) →
    Reach G.P (lone (c.fr tm ds (.inRegion ops.toArray (is ++ rest) :: todo)) cs w) Z
  | [], rest, hl, s, hs, tr, h, k, r, e, ok, B, σ, c, tm, ds, todo, cs, w, Z, hc, ht, hr, hds, K => K tr h σ tm ds w e (.refl _ _) (.refl _) ht hr hds
  | i :: is, rest, hl, s, hs, tr, h, k, r, e, ok, B, σ, c, tm, ds, todo, cs, w, Z, hc, ht, hr, hds, K => by
    have hi : i < ops.length := hl i (by simp)
    have ho : ops[i]? = some ops[i] := List.getElem?_eq_getElem hi
    have hat : opsAt ops (i :: is) = ops[i] :: opsAt ops is := by simp [opsAt, hi]
    rw [hat] at e
    have e : (operB G nt rnd ops ops[i]).f s tr h (fun tr' h' => (regionB G nt rnd ops (opsAt ops is)).f s tr' h' k) = r := e
    rw [List.cons_append]
    refine operB_step (hO _ (List.mem_of_getElem? ho)) s hs tr h _ r e ok B σ c tm ds cs w Z hc (fun x _ => ht.opR hr.toHR0 x) (fun _ _ _ x _ => ht.opR hr.toHR0 (.tmp x)) hr hds i _ todo (by simp) ?_
    intro tr' h' v τ u w' ds' e1 hg hst hd hv hr' hds'
    refine regionI_pre hO is rest (fun j hj => hl j (by simp [hj])) s hs tr' h' k r e1 ok B τ c _ ds' todo cs w' Z hc (hd.tr (hr.grows_le hg) ht hv) hr' hds' ?_
    intro tr2 h2 τ2 tm2 ds2 w2 e2 hg2 hst2 ht2 hr2 hds2
    exact K tr2 h2 τ2 tm2 ds2 w2 e2 (hg.trans hg2 hst.next) (hst.trans hst2) ht2 hr2 hds2
def fnK (f : Nat) (v : AV) (k : List AV → List AV → Out) : Out := match v with
  | .fn g a c => Bool.casesOn (Nat.beq g f) (.bad 201) (k a c)
  | _ => .bad 202
theorem fnK_inv {f : Nat} {v : AV} {k : List AV → List AV → Out} {r : Out} (ok : r.ok) (e : fnK f v k = r) : ∃ a c, v = .fn f a c ∧ k a c = r := by
  cases v with
  | fn g a c =>
    have e : (Bool.casesOn (Nat.beq g f) (.bad 201) (k a c) : Out) = r := e
    rcases boolCases_inv e with ⟨h, e⟩ | ⟨_, e⟩
    · exact ⟨a, c, by rw [Nat.eq_of_beq_eq_true h], e⟩
    · subst e; exact ok.elim
  | _ => have e : Out.bad 202 = r := e; subst e; exact ok.elim
theorem go_regionO {c : Cx} {P : Program} {tm : Array Value} {ds : List Deferred} {k : List Item} {cs : List Frame} {w : World} {Z : Machine → Prop} (hm : P.follows .mixedOrders = true) {id : Nat} {ops : List Oper} {draw : Bool}
    (h : ∀ is ∈ ordersOf ops draw, ∀ w', (w' = w ∨ w' = { w with drawn := w.drawn + 1 }) → Reach P (lone (c.fr tm ds (.inRegion ops.toArray is :: k)) cs w') Z) :
    Reach P (lone (c.fr tm ds (.code (.region id ops.toArray draw) :: k)) cs w) Z := by
  cases draw with
  | false =>
    refine go_region ?_
    exact h (List.range ops.length) (by simp [ordersOf]) w (.inl rfl)
  | true =>
    refine go_draw hm fun t => ?_
    obtain ⟨l, hl, e⟩ := go_allOrd (ops := ops.toArray) ops.length t (Array.replicate ops.length false) []
    have e : Region.linearise .any ops.toArray t = l := by
      have : Region.linearise .any ops.toArray t = Region.linearise.go .any ops.toArray ops.length t (Array.replicate ops.length false) [] := rfl
      rw [this, e]; rfl
    rw [e]
    exact h l (by simpa [ordersOf] using hl) _ (.inr rfl)
theorem Bas.callO {A : Bas} {nt id n N f : Nat} {draw : Bool} {S S1 S2 S3 : Sta} {ops : List Oper} {o : Oper} {fx : Operand} {args : Array Operand} {at_ : Array TypeId} {fn : Func} {body : Code} {regs : List Nat} {x : Ex} {orders : List (List Nat × List Nat)}
    (hon : ops[n]? = some o) (ho : o.op = .call ⟨.value fx, args, at_⟩) (hgd : o.guard = none) (hfn : A.G.ft.get f = some fn) (hb : fn.body = some body)
    (hord : ordersOf ops draw = orders.map fun p => p.1 ++ n :: p.2) (hlt : (orders.all fun p => p.1.all (fun i => decide (i < ops.length)) && p.2.all (fun i => decide (i < ops.length))) = true)
    (e1 : ∀ p ∈ orders, mergeK S.bs A.t A.n (fun t m => (regionB A.G nt false ops (opsAt ops p.1)).f (run A.G N) S.tr ⟨t, m, [], A.n⟩ fun tr h => (opd nt fx).f tr fun fv => fnK f fv fun a c => (opds nt args.toList).f tr fun l =>
      (argsB fn.ntmps (fn.params.size + fn.nfree) 0).f (a ++ l ++ c) (tr0 fn.ntmps) fun tr1 => getsK nt regs tr fun vs => gcF (vs ++ S.keep) .normal tr1 h) = .done .normal S1.tr S1.keep S1.bs)
    (hx : x = .normal ∨ x = .ret) (h2 : A.Runs fn.ntmps body S1 x S2)
    (e3 : ∀ p ∈ orders, mergeK S2.bs A.t A.n (fun t m => (resB A.G fn.ntmps fn.results.toList).f S2.tr ⟨t, m, [], A.n⟩ fun vs => putsK nt regs S2.keep (trTop nt) fun tr keep => dstK nt o.dst (oneOf vs) tr fun tr' =>
      (regionB A.G nt false ops (opsAt ops p.2)).f (run A.G N) tr' ⟨t, m, [], A.n⟩ fun tr2 h2 => gcF keep .normal tr2 h2) = .done .normal S3.tr S3.keep S3.bs) :
    A.Runs nt (.region id ops.toArray draw) S .normal S3 := by
  intro c tm items todo cs w us Z hc hbg ⟨σ, H⟩ K
  rcases hbg with rfl | ⟨a', h, _⟩
  case inr => cases h
  have hO : ∀ o' ∈ ops, OStep A.G nt false o' (cOp A.G nt false o').f := fun o' _ => cOp_step A.ok A.ext o'
  have okd : ∀ S : Sta, (Out.done .normal S.tr S.keep S.bs).ok := fun _ => trivial
  refine go_regionO A.ok.follows ?_
  intro is his w0 hw0
  rw [hord] at his
  obtain ⟨⟨p1, p2⟩, hp, rfl⟩ := List.mem_map.1 his
  have hlt' := List.all_eq_true.1 hlt _ hp
  simp only [Bool.and_eq_true, List.all_eq_true, decide_eq_true_eq] at hlt'
  obtain ⟨hlt1, hlt2⟩ := hlt'
  obtain ⟨t', e2, hl⟩ := mergeK_inv (okd S1) _ _ _ _ (e1 _ hp)
  have hrw := H.heap t' hl
  have hr : HR A.B σ ⟨t', A.n + S.bs.length, [], A.n⟩ w0 := by
    rcases hw0 with rfl | rfl
    · exact hrw
    · exact ⟨⟨hrw.blk, hrw.inj, hrw.glob, hrw.syms⟩, hrw.fresh, hrw.below, hrw.size, hrw.own, hrw.lo, hrw.keep, hrw.grow, hrw.os, hrw.tape, hrw.output⟩
  have hidx : ops.toArray[n]? = some o := by simpa using hon
  refine regionI_pre hO p1 (n :: p2) hlt1 (run A.G N) (run_ok A.ok A.ext N) S.tr _ _ _ e2 (okd S1) A.B σ c tm [] todo cs w0 Z hc H.tr hr rfl ?_
  intro tr1 h1 τ tm1 ds1 w1 e4 hg hst ht1 hr1 hds1
  obtain ⟨fv, hfv, e5⟩ := opd_inv e4 (okd S1)
  obtain ⟨fa, fc, rfl, e5a⟩ := fnK_inv (okd S1) e5
  obtain ⟨l, e5b, hl5⟩ := opds_inv (okd S1) e5a
  obtain ⟨tr2, e6, hlen, hbnd, hget⟩ := argsB_inv (okd S1) _ _ _ _ _ e5b
  obtain ⟨vs, e7, hvs⟩ := getsK_inv (okd S1) regs _ e6
  have hfR := ht1.opR hr1.toHR0 fx _ hfv
  simp only [VR] at hfR
  obtain ⟨fa', fc', hfe, hfa, hfc⟩ := hfR
  have hargs : VRs τ (fa ++ l ++ fc) (fa' ++ args.map (ev tm1) ++ fc').toList := by
    simp only [Array.toList_append]
    exact VRs.append (VRs.append hfa (by simpa using hl5 τ tm1 fun y _ => ht1.opR hr1.toHR0 y)) hfc
  have htr := enter_tr hlen hbnd hargs hget
  have hk1 : VRs τ (vs ++ S.keep) ((regs.map fun t => tm1.getD t undef) ++ us) := VRs.append (hvs τ tm1 ht1) (VRs.mono (hr.grows_le hg) _ _ H.keep)
  obtain ⟨_, rfl, σ1, H1⟩ := A.fin H hl hg hst hr1 hds1 htr hk1 e7
  have hcode : (A.G.ft.get f).bind (·.body) = some body := by rw [hfn]; exact hb
  obtain ⟨hP, _⟩ := A.ok.fn f fn hfn
  refine go_enter hidx (wanted_none hgd _) (.inl hc.1) (f := f) (args := fa' ++ args.map (ev tm1) ++ fc') (w' := w1) ?_ ?_
  · have hrun : execOp (ev tm1) o = calling (ev tm1 fx) (args.map (ev tm1)) := by simp only [execOp, ho, resolve, calling]
    rw [hrun, hfe]
    have := callFunc_run A.ok hcode (fa' ++ args.map (ev tm1) ++ fc') w1
    simpa [calling, Deferred.ofValue, invoke] using this
  rw [enter_frame hP hb]
  refine h2 ⟨f, .normal, none⟩ _ _ [] _ w1 _ Z ⟨rfl, .inl rfl⟩ (.inl rfl) ⟨σ1, H1⟩ ?_
  intro tm2 w2 ⟨σ2, H2⟩
  obtain ⟨t2, e8, hl2⟩ := mergeK_inv (okd S3) _ _ _ _ (e3 _ hp)
  have hr2 := H2.heap t2 hl2
  obtain ⟨rs, e9, hres⟩ := resB_inv A.ok (okd S3) _ _ e8
  obtain ⟨us2, hus, hR⟩ := hres A.B σ2 tm2 w2 H2.tr hr2.toHR0
  have hrun := results_run hus
  obtain ⟨tr5, keep5, e10, hput⟩ := putsK_inv (okd S3) regs _ _ _ e9
  obtain ⟨htr5, hk5⟩ := hput σ2 tm1 us (trTop_tr ht1.size) H2.keep
  obtain ⟨tr6, e11, hd⟩ := dstK_inv (okd S3) e10
  have htr6 := hd σ2 tm1 _ htr5 (oneOf_R hR)
  have hback : ∀ k, Reach A.G.P (lone ((⟨f, .normal, none⟩ : Cx).out tm2 [] k) (c.fr tm1 [] (.inRegion ops.toArray (n :: p2) :: todo) :: cs) w2) Z := by
    intro k
    refine go_return hP hrun rfl ?_
    rw [Cx.finish, hidx]
    have := regionI_pre hO p2 [] hlt2 (run A.G N) (run_ok A.ok A.ext N) tr6 _ _ _ e11 (okd S3) A.B σ2 c (put tm1 o.dst (if h : us2.toArray.size = 1 then us2.toArray[0] else .tuple us2.toArray)) [] todo cs w2 Z hc htr6 hr2 rfl ?_
    · simpa using this
    intro tr7 h7 τ7 tm7 ds7 w7 e12 hg7 hst7 ht7 hr7 hds7
    obtain ⟨_, rfl, H3⟩ := A.fin H2 hl2 hg7 hst7 hr7 hds7 ht7 (VRs.mono (hr2.grows_le hg7) _ _ hk5) e12
    exact go_endRegion (K tm7 w7 H3)
  rcases hx with rfl | rfl
  · exact go_end rfl (hback [])
  · exact fun k => go_ret rfl (hback _)
structure Bas.At (A : Bas) (G : Cfg) (t : BT ABlk) (n : Nat) : Prop where
  g : A.G = G
  t : A.t = t
  n : A.n = n
def opsL (c : Code) : List Oper := match c with | .region _ ops _ => ops.toList | _ => []
def idL (c : Code) : Nat := match c with | .region i _ _ => i | _ => 0
def drawL (c : Code) : Bool := match c with | .region _ _ d => d | _ => false
def opN (c : Code) (n : Nat) : Oper := match (opsL c)[n]? with | some o => o | none => { dst := none, op := .move (.tmp 0), type := 0, pos := "", after := #[], guard := none }
def callFx (o : Oper) : Operand := match o.op with | .call ⟨.value x, _, _⟩ => x | _ => .tmp 0
def callArgs (o : Oper) : Array Operand := match o.op with | .call c => c.args | _ => #[]
def callAt (o : Oper) : Array TypeId := match o.op with | .call c => c.argTypes | _ => #[]
end
end Go.Ev
namespace Go.Ev
noncomputable section
open Go
theorem HR.congr {B : Base} {σ : Sg} {t t' : BT ABlk} {n : Nat} {ds : List AD} {lo : Nat} {w : World} (h : HR B σ ⟨t, n, ds, lo⟩ w) (e : ∀ a, t'.get a = t.get a) : HR B σ ⟨t', n, ds, lo⟩ w :=
  ⟨⟨fun b x c d n hb => h.blk b x c d n (by rw [← e b]; exact hb), fun b b' x x' c d n d' n' h1 l1 h2 l2 => h.inj b b' x x' c d n d' n' (by rw [← e b]; exact h1) l1 (by rw [← e b']; exact h2) l2, h.glob, h.syms⟩, h.fresh,
    fun b x hb => h.below b x (by rw [← e b]; exact hb), h.size, fun b x c d n hb => h.own b x c d n (by rw [← e b]; exact hb), h.lo, h.keep, h.grow, h.os, h.tape, h.output⟩
theorem Bas.calls {A : Bas} {f : Nat} {fn : Func} {body : Code} {S : Sta} {x : Ex} {v : AV} {h0 : AH} (hfn : A.G.ft.get f = some fn) (hb : fn.body = some body) (h2 : A.Runs fn.ntmps body ⟨tr0 fn.ntmps, [], []⟩ x S) (hx : x = .normal ∨ x = .ret)
    (e : mergeK S.bs A.t A.n (fun t m => (resB A.G fn.ntmps fn.results.toList).f S.tr ⟨t, m, [], A.n⟩ fun vs => .val (oneOf vs) h0) = .val v h0) {R : Ending → World → Prop}
    (K : ∀ σ u t w', VR σ v u → HR A.B σ ⟨t, A.n + S.bs.length, [], A.n⟩ w' → A.Lays S.bs t → Grows A.n A.σ σ → R (.returned u) w') : Calls A.G.P f #[] A.w R := by
  intro cs
  obtain ⟨hP, _⟩ := A.ok.fn f fn hfn
  have H : A.Holds ⟨tr0 fn.ntmps, [], []⟩ A.σ fn.ntmps (#[] ++ Array.replicate (fn.ntmps - (#[] : Array Value).size) undef) [] A.w := by
    refine ⟨.refl _ _, ?_, VRs.nil, fun t ht => A.hr.congr fun a => ?_⟩
    · exact enter_tr (n := 0) (l := []) (args := #[]) rfl (by omega) VRs.nil fun t _ => by rw [if_neg (by omega)]
    · rw [ht a, if_neg (by simp)]
  have key : Reach A.G.P (lone (Frame.enter A.G.P f #[] .normal) cs A.w) (fun m => ∃ u w' fr, m = lone fr cs w' ∧ R (.returned u) w' ∧ fr.fn = f ∧ fr.leaving A.G.P w' (.returned u)) := by
    rw [enter_frame hP hb]
    refine h2 ⟨f, .normal, none⟩ _ _ [] cs A.w [] _ ⟨rfl, .inl rfl⟩ (.inl rfl) ⟨A.σ, H⟩ ?_
    intro tm2 w2 ⟨σ2, H2⟩
    obtain ⟨t2, e8, hl2⟩ := mergeK_inv (show (Out.val v h0).ok from trivial) _ _ _ _ e
    have hr2 := H2.heap t2 hl2
    obtain ⟨rs, e9, hres⟩ := resB_inv A.ok (show (Out.val v h0).ok from trivial) _ _ e8
    obtain ⟨us2, hus, hR⟩ := hres A.B σ2 tm2 w2 H2.tr hr2.toHR0
    have hrun := results_run hus
    simp only [Out.val.injEq, and_true] at e9
    have hend : ∀ k, Reach A.G.P (lone ((⟨f, .normal, none⟩ : Cx).out tm2 [] k) cs w2) (fun m => ∃ u w' fr, m = lone fr cs w' ∧ R (.returned u) w' ∧ fr.fn = f ∧ fr.leaving A.G.P w' (.returned u)) := fun k =>
      .here ⟨_, w2, _, rfl, K σ2 _ t2 w2 (by rw [← e9]; exact oneOf_R hR) hr2 hl2 H2.grows, rfl, rfl, rfl, rfl, fn, hP, hrun⟩
    rcases hx with rfl | rfl
    · exact go_end rfl (hend [])
    · exact fun k => go_ret rfl (hend _)
  obtain ⟨m', hst, u, w', fr, rfl, hR, hf, hl⟩ := key
  exact ⟨.returned u, w', fr, hR, hst, hf, hl⟩
end
end Go.Ev
namespace Go.Ev
noncomputable section
open Go
theorem cfg_ok {P : Program} {join : List Nat} {ext : List (Nat × Ext)} {sums : List (Nat × Smm)} (hn : (P.funcs.toList.all fun f => f.name != "runtime.NumGoroutine") = true) (hf : P.follows .mixedOrders = true) : (cfg P join ext sums).Ok where
  info t i h := by
    have := BT.get_ofList _ _ _ _ (show (BT.ofList P.types.size P.types.toList).get t = some i from h)
    have hg : P.types[t]? = some i := by simpa using this
    have hlt : t < P.types.size := (Array.getElem?_eq_some_iff.1 hg).1
    show P.info? t = some i
    unfold Tables.info?
    rw [if_pos hlt]; exact hg
  fn f fn h := by
    have := BT.get_ofList _ _ _ _ (show (BT.ofList P.funcs.size P.funcs.toList).get f = some fn from h)
    refine ⟨by simpa [cfg] using this, ?_⟩
    have hm := List.all_eq_true.1 hn fn (List.mem_of_getElem? this)
    simpa using hm
  follows := hf
end
end Go.Ev
namespace Go.Ev
noncomputable section
open Go
@[reducible] def Pl := Nat × Nat × Nat
def sgOf (pl : List Pl) (sym : Nat → Option Value) : Sg := ⟨fun b => pl[b]?, sym⟩
theorem HR.base {W : World} (len : ∃ m, W.cell? ⟨0, 0, none⟩ = some (.int .i64 m)) (pow : ∃ r, W.heap[2]? = some (.cells powL.toArray 753 r)) {bl : List ABlk} {pl : List Pl} {sym : Nat → Option Value} (h1 : pl.length = bl.length) (k : Nat)
    (hb : ∀ (i : Nat) (x : ABlk) (c d n : Nat), bl[i]? = some x → pl[i]? = some (c, d, n) → BR (sgOf pl sym) d n x W.heap[c]?)
    (hi : ∀ (i j : Nat) (x y : ABlk) (c d n d' n' : Nat), bl[i]? = some x → x.live = true → bl[j]? = some y → y.live = true → pl[i]? = some (c, d, n) → pl[j]? = some (c, d', n') → i = j)
    (hg : ∀ g, g < numG → ∃ n, pl[g]? = some (g, 0, n)) (hs : symB < pl.length) (hz : ∀ p ∈ pl, p.1 < W.heap.size) (hw : ∀ x ∈ bl, x.writable = false) :
    HR ⟨W, len, pow, sym⟩ (sgOf pl sym) ⟨BT.ofList k bl, bl.length, [], bl.length⟩ W := by
  refine ⟨⟨?_, ?_, ?_, ?_⟩, ?_, ?_, ?_, ?_, Nat.le_refl _, fun _ _ => rfl, Nat.le_refl _, rfl, rfl, rfl⟩
  · intro b x c d n hx hp
    exact hb b x c d n (BT.get_ofList _ _ _ _ hx) hp
  · intro b b' x x' c d n d' n' hx hl hx' hl' hp hp'
    exact hi b b' x x' c d n d' n' (BT.get_ofList _ _ _ _ hx) hl (BT.get_ofList _ _ _ _ hx') hl' hp hp'
  · intro g hgl
    exact hg g hgl
  · exact ⟨⟨pl[symB], List.getElem?_eq_getElem hs⟩, rfl⟩
  · intro b hb'
    show pl[b]? = none
    rw [List.getElem?_eq_none]
    have hb' : bl.length ≤ b := hb'
    omega
  · intro b x hx
    have := BT.get_ofList _ _ _ _ hx
    exact (List.getElem?_eq_some_iff.1 this).1
  · intro b c d n hp
    exact hz _ (List.mem_of_getElem? hp)
  · intro b x c d n hx hxw _
    have := hw x (List.mem_of_getElem? (BT.get_ofList _ _ _ _ hx))
    rw [this] at hxw; cases hxw
end
end Go.Ev
namespace Go.Ev
noncomputable section
open Go
def chain : List Code → Code → Code
  | [], R => R
  | p :: l, R => .seq p (chain l R)
def runs (G : Cfg) (n nt : Nat) : List Code → Tr → AH → KX → Out
  | [], tr, h, k => k .normal tr h
  | p :: l, tr, h, k => run G n ⟨nt, false, p⟩ tr h fun x tr h => match x with
    | .normal => runs G n nt l tr h k
    | x => k x tr h
def Goes (P : Program) (c : Cx) (x : Ex) (tm : Array Value) (ds : List Deferred) (R : Code) (todo : List Item) (cs : List Frame) (w : World) (Z : Machine → Prop) : Prop :=
  match x with
  | .normal => Reach P (lone (c.fr tm ds (.code R :: todo)) cs w) Z
  | x => Leaves P c x tm ds todo cs w Z
theorem runs_ok {G : Cfg} (hG : G.Ok) (hX : ExtOk G) (n nt : Nat) : ∀ (ps : List Code) tr h k r, runs G n nt ps tr h k = r → r.ok → ∀ B σ (c : Cx) tm ds todo cs w Z R, c.Fits false cs → TR σ nt tr tm → HR B σ h w → ADRs σ h.ds ds →
    (∀ x tr' h' τ tm' ds' w', k x tr' h' = r → Grows h.next σ τ → Stays h h' → TR τ nt tr' tm' → HR B τ h' w' → ADRs τ h'.ds ds' → Goes G.P c x tm' ds' R todo cs w' Z) →
    Reach G.P (lone (c.fr tm ds (.code (chain ps R) :: todo)) cs w) Z
  | [], tr, h, k, r, e, ok, B, σ, c, tm, ds, todo, cs, w, Z, R, hc, ht, hr, hds, K => K .normal tr h σ tm ds w e (.refl _ _) (.refl _) ht hr hds
  | p :: l, tr, h, k, r, e, ok, B, σ, c, tm, ds, todo, cs, w, Z, R, hc, ht, hr, hds, K => by
    refine go_seq (run_ok hG hX n nt false p tr h _ r e ok B σ c tm ds _ (.code (chain l R) :: todo) cs w Z hc (.inl rfl) ht hr hds ?_)
    intro x tr' h' τ tm' ds' w' e1 hg hst ht' hr' hds'
    cases x with
    | normal =>
      refine runs_ok hG hX n nt l tr' h' k r e1 ok B τ c tm' ds' todo cs w' Z R hc ht' hr' hds' ?_
      intro x tr2 h2 τ2 tm2 ds2 w2 e2 hg2 hst2 ht2 hr2 hds2
      exact K x tr2 h2 τ2 tm2 ds2 w2 e2 (hg.trans hg2 hst.next) (hst.trans hst2) ht2 hr2 hds2
    | exit i => exact fun k' hk' => K (.exit i) tr' h' τ tm' ds' w' e1 hg hst ht' hr' hds' k' (by rw [hk']; rfl)
    | goto l => exact fun k' hk' => K (.goto l) tr' h' τ tm' ds' w' e1 hg hst ht' hr' hds' k' (by rw [hk']; rfl)
    | ret => exact K .ret tr' h' τ tm' ds' w' e1 hg hst ht' hr' hds'
def maskK (nt : Nat) (regs : List Nat) (x : Ex) (tr : Tr) (h : AH) : Out := getsK nt regs tr fun vs => putsK nt regs vs (trTop nt) fun tr' _ => gcF [] x tr' h
theorem Bas.enter {A : Bas} {f n : Nat} {fn : Func} {ps : List Code} {R : Code} {regs : List Nat} {x : Ex} {S' : Sta} {args : List AV} {args' : Array Value} (hfn : A.G.ft.get f = some fn) (hb : fn.body = some (chain ps R))
    (e : mergeK [] A.t A.n (fun t m => (argsB fn.ntmps (fn.params.size + fn.nfree) 0).f args (tr0 fn.ntmps) fun tr => runs A.G n fn.ntmps ps tr ⟨t, m, [], A.n⟩ (maskK fn.ntmps regs)) = .done x S'.tr S'.keep S'.bs)
    (hv : VRs A.σ args args'.toList) (cs : List Frame) (Z : Machine → Prop)
    (K : ∀ tm' w', (∃ σ, A.Holds S' σ fn.ntmps tm' [] w') → Goes A.G.P ⟨f, .normal, none⟩ x tm' [] R [] cs w' Z) : Reach A.G.P (lone (Frame.enter A.G.P f args' .normal) cs A.w) Z := by
  obtain ⟨hP, _⟩ := A.ok.fn f fn hfn
  have okd : (Out.done x S'.tr S'.keep S'.bs).ok := trivial
  obtain ⟨t', e1, hl⟩ := mergeK_inv okd _ _ _ _ e
  obtain ⟨tr', e2, hlen, hbnd, hg⟩ := argsB_inv okd _ _ _ _ _ e1
  have htr := enter_tr hlen hbnd hv hg
  have H0 : A.Holds ⟨tr', [], []⟩ A.σ fn.ntmps (args' ++ Array.replicate (fn.ntmps - args'.size) undef) [] A.w := by
    refine ⟨.refl _ _, htr, VRs.nil, fun t ht => A.hr.congr fun a => ?_⟩
    rw [ht a, if_neg (by simp)]
  have hr := H0.heap t' hl
  rw [enter_frame hP hb]
  refine runs_ok A.ok A.ext n fn.ntmps ps tr' _ _ _ e2 okd A.B A.σ ⟨f, .normal, none⟩ _ [] [] cs A.w Z R ⟨rfl, .inl rfl⟩ htr hr rfl ?_
  intro y tr2 h2 τ tm2 ds2 w2 e3 hg2 hst ht2 hr2 hds2
  obtain ⟨vs, e4, hvs⟩ := getsK_inv okd regs _ e3
  obtain ⟨tr3, vs', e5, hput⟩ := putsK_inv okd regs vs _ _ e4
  obtain ⟨h5, _⟩ := hput τ tm2 [] (trTop_tr ht2.size) (by rw [List.append_nil]; exact hvs τ tm2 ht2)
  obtain ⟨rfl, rfl, H'⟩ := A.fin (us := []) H0 hl hg2 hst hr2 hds2 h5 VRs.nil e5
  exact K tm2 w2 H'
theorem HR.resym {B : Base} {σ : Sg} {h : AH} {w : World} (hr : HR B σ h w) {s : Nat → Option Value} (hs : ∀ i x, B.sym i = some x → s i = some x) : HR { B with sym := s } { σ with sym := s } h w := by
  have hsy := hr.syms.2
  have hle : Le σ { σ with sym := s } := ⟨fun _ _ h => h, fun i x hx => hs i x (by rw [← hsy]; exact hx)⟩
  exact ⟨⟨fun b x c d n hb ha => (hr.blk b x c d n hb ha).mono hle, hr.inj, hr.glob, hr.syms.1, rfl⟩, hr.fresh, hr.below, hr.size, hr.own, hr.lo, hr.keep, hr.grow, hr.os, hr.tape, hr.output⟩
def ABlk.toRo : ABlk → ABlk
  | .cells cs e _ => .cells cs e .ro
  | _ => .dead
theorem HR.weak {B : Base} {σ : Sg} {t t' : BT ABlk} {n : Nat} {ds : List AD} {lo : Nat} {w : World} (hr : HR B σ ⟨t, n, ds, lo⟩ w)
    (h : ∀ b x', t'.get b = some x' → (∃ l, x' = .syms l ∧ b < n ∧ ∀ q ∈ l, SRok σ q) ∨ ∃ x, t.get b = some x ∧ (x' = x ∨ x' = x.toRo)) : HR B σ ⟨t', n, ds, lo⟩ w := by
  have hw : ∀ b x', t'.get b = some x' → x'.live = true → ∃ x, t.get b = some x ∧ x.live = true ∧ (x'.writable = true → x.writable = true) := by
    intro b x' hb hlv
    rcases h b x' hb with ⟨l, rfl, _⟩ | ⟨x, hx, rfl | rfl⟩
    · simp [ABlk.live] at hlv
    · exact ⟨_, hx, hlv, id⟩
    · refine ⟨x, hx, ?_, fun hwr => ?_⟩
      · cases x <;> first | rfl | simp [ABlk.toRo, ABlk.live] at hlv
      · cases x <;> simp [ABlk.toRo, ABlk.writable] at hwr
  refine ⟨⟨fun b x' c d m hb ha => ?_, fun b b' x x' c d m d' m' hb hl hb' hl' h1 h2 => ?_, hr.glob, hr.syms⟩, hr.fresh, fun b x' hb => ?_, hr.size, fun b x' c d m hb hwr ha => ?_, hr.lo, hr.keep, hr.grow, hr.os, hr.tape, hr.output⟩
  · rcases h b x' hb with ⟨l, rfl, _, hl⟩ | ⟨x, hx, rfl | rfl⟩
    · exact hl
    · exact hr.blk b _ c d m hx ha
    · have := hr.blk b x c d m hx ha
      cases x <;> first | trivial | skip
      obtain ⟨cc, lo', hi, h1, h2, _, h3⟩ := this
      exact ⟨cc, lo', hi, h1, h2, trivial, h3⟩
  · obtain ⟨y, hy, ly, _⟩ := hw b x hb hl
    obtain ⟨y', hy', ly', _⟩ := hw b' x' hb' hl'
    exact hr.inj b b' y y' c d m d' m' hy ly hy' ly' h1 h2
  · rcases h b x' hb with ⟨l, _, hn, _⟩ | ⟨x, hx, _⟩
    · exact hn
    · exact hr.below b x hx
  · have hlv : x'.live = true := by cases x' <;> first | rfl | simp [ABlk.writable] at hwr
    obtain ⟨y, hy, _, hwy⟩ := hw b x' hb hlv
    exact hr.own b y c d m hy (hwy hwr) ha
theorem HR.rebase {B : Base} {σ : Sg} {h : AH} {w : World} (hr : HR B σ h w) (hw : ∀ b x, h.t.get b = some x → x.writable = false) : HR ⟨w, hr.len, hr.pow, B.sym⟩ σ h w :=
  ⟨⟨hr.blk, hr.inj, hr.glob, hr.syms⟩, hr.fresh, hr.below, hr.size, fun b x c d n hb hwr => (by rw [hw b x hb] at hwr; cases hwr), hr.lo, fun _ _ => rfl, Nat.le_refl _, rfl, rfl, rfl⟩
end
end Go.Ev
