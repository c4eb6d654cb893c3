/- A part of the proof of TopShares: for every row of weights the law returns true, and the row reads as before. No condition beyond the statement's own. -/
import Derived.Test.YtlhpdegoglgdpaaGreatDoorEvK
set_option linter.all false
set_option linter.unusedVariables false
set_option linter.unusedSimpArgs false
set_option linter.constructorNameAsVariable false
set_option linter.deprecated false
namespace Go.Ev
noncomputable section
open Go
section
variable {G : Cfg} {P : Program} {B : Base} {σ : Sg} {h : AH} {w : World} {nt : Nat} {o : Oper}
theorem lenS_spec (hG : G.Ok) {t ty : TypeId} (ht : G.und t = some .string) : VSpec1 G.P (fun v k => asS v fun l => lenK l 0 fun n => k (.int .i64 (.ofNat n))) (fun x => Builtin.len_ #[t] ty #[x]) := by
  intro a k r e ok
  obtain ⟨l, rfl, e1⟩ := asS_inv e ok
  rw [lenK_eq] at e1
  refine ⟨_, e1, fun σ x w hx => ?_⟩
  simp only [VR] at hx
  obtain ⟨s, rfl, hs⟩ := hx
  have hl := bytesR_len hs
  exact ⟨.int .i64 s.size, by simp [Builtin.len_, Go.run_underlying (und_ok hG ht), goInt], by simp [VR, hl]⟩
theorem lenL_spec (hG : G.Ok) {t ty e : TypeId} (ht : G.und t = some (.slice e)) : VSpec1 G.P (fun v k => lenL v fun n => k (.int .i64 (.ofNat n))) (fun x => Builtin.len_ #[t] ty #[x]) := by
  intro a k r e ok
  simp only at e
  unfold lenL at e
  split at e
  · rename_i b o n c
    refine ⟨_, e, fun σ x w hx => ?_⟩
    simp only [VR] at hx
    obtain ⟨c, d, m, j, cap', _, rfl, _⟩ := hx
    exact ⟨.int .i64 n, by simp [Builtin.len_, Go.run_underlying (und_ok hG ht), goInt], by simp [VR]⟩
  · refine ⟨_, e, fun σ x w hx => ?_⟩
    simp only [VR] at hx; subst hx
    exact ⟨.int .i64 0, by simp [Builtin.len_, Go.run_underlying (und_ok hG ht), goInt], by simp [VR]⟩
  · subst e; exact ok.elim
theorem lenM_spec (hG : G.Ok) {t ty kt e : TypeId} (ht : G.und t = some (.map kt e)) : HSpec1 G.P (fun v h k => lenM h v fun n => k (.int .i64 (.ofNat n)) h) (fun x => Builtin.len_ #[t] ty #[x]) := by
  intro a h k r e ok
  simp only at e
  unfold lenM at e
  split at e
  · refine ⟨_, e, fun B σ x w hx hr => ?_⟩
    simp only [VR] at hx; subst hx
    exact ⟨.int .i64 0, by simp [Builtin.len_, Go.run_underlying (und_ok hG ht), goInt], by simp [VR]⟩
  · rename_i b
    obtain ⟨X, hX, e1⟩ := hget_inv e ok
    obtain ⟨es, clock, rfl, e2⟩ := asMap_inv e1 ok
    rw [lenK_eq] at e2
    refine ⟨_, e2, fun B σ x w hx hr => ?_⟩
    simp only [VR] at hx
    obtain ⟨c, dd, n, hc, rfl⟩ := hx
    obtain ⟨es', hb, her⟩ := hr.amap hX hc
    have hl := her.length
    exact ⟨.int .i64 es'.size, by simp [Builtin.len_, Go.run_underlying (und_ok hG ht), goInt, run_getMap hb], by simp only [VR]; rw [show es.length + 0 = es'.size from by simpa using hl]; rfl⟩
  · subst e; exact ok.elim
theorem cap_spec (hG : G.Ok) {t ty e : TypeId} (ht : G.und t = some (.slice e)) : VSpec1 G.P (fun v k => capV v fun n => k (.int .i64 (.ofNat n))) (fun x => Builtin.cap_ #[t] ty #[x]) := by
  intro a k r e ok
  simp only at e
  unfold capV at e
  split at e
  · rename_i b o l n
    refine ⟨_, e, fun σ x w hx => ?_⟩
    simp only [VR] at hx
    obtain ⟨c, d, m, j, cap', _, rfl, _, hc, _⟩ := hx
    have hc : cap' = n := hc
    subst hc
    exact ⟨.int .i64 cap', by simp [Builtin.cap_, Go.run_underlying (und_ok hG ht), goInt], by simp [VR]⟩
  · refine ⟨_, e, fun σ x w hx => ?_⟩
    simp only [VR] at hx; subst hx
    exact ⟨.int .i64 0, by simp [Builtin.cap_, Go.run_underlying (und_ok hG ht), goInt], by simp [VR]⟩
  · subst e; exact ok.elim
end
end
end Go.Ev
namespace Go.Ev
noncomputable section
open Go
section
variable {G : Cfg} {P : Program} {B : Base} {σ : Sg} {h : AH} {w : World} {nt : Nat} {o : Oper}
theorem opds_inv {tr : Tr} {r : Out} (ok : r.ok) : ∀ {l : List Operand} {k : List AV → Out}, (opds nt l).f tr k = r → ∃ vs, k vs = r ∧ ∀ σ tm, (∀ x ∈ l, OpR σ nt tr tm x) → VRs σ vs (l.map (ev tm))
  | [], k, h => ⟨[], h, fun _ _ _ => VRs.nil⟩
  | x :: l, k, h => by
    obtain ⟨v, hv, h1⟩ := opd_inv (nt := nt) (x := x) (tr := tr) (k := fun v => (opds nt l).f tr fun vs => k (v :: vs)) h ok
    obtain ⟨vs, h2, hvs⟩ := opds_inv ok h1
    exact ⟨v :: vs, h2, fun σ tm hop => VRs.cons (hop x (by simp) v hv) (hvs σ tm fun y hy => hop y (by simp [hy]))⟩
theorem foldK_spec {F : AV → AV → (AV → Out) → Out} {S : Value → Value → Sem Value} (hF : VSpec2 P F S) {r : Out} (ok : r.ok) : ∀ {l : List AV} {v : AV} {k : AV → Out}, foldK F l v k = r →
    ∃ u, k u = r ∧ ∀ σ x xs w, VR σ v x → VRs σ l xs → ∃ y, (xs.foldlM S x).run P w = .ok y w ∧ VR σ u y
  | [], v, k, h => ⟨v, h, fun σ x xs w hx hxs => by
      have : xs = [] := by simpa [VRs] using hxs
      subst this
      exact ⟨x, rfl, hx⟩⟩
  | a :: l, v, k, h => by
    obtain ⟨u, h1, hu⟩ := hF v a _ r h ok
    obtain ⟨u', h2, hu'⟩ := foldK_spec hF ok h1
    refine ⟨u', h2, fun σ x xs w hx hxs => ?_⟩
    simp only [VRs] at hxs
    obtain ⟨b, m, rfl, hb, hm⟩ := hxs
    obtain ⟨y, hy, hvy⟩ := hu σ x b w hx hb
    obtain ⟨z, hz, hvz⟩ := hu' σ y m w hvy hm
    exact ⟨z, by simp [List.foldlM_cons, hy, hz], hvz⟩
theorem min2_spec : VSpec2 P min2 Builtin.min2 := by
  intro a b k r e ok
  obtain ⟨kd, m, rfl, e1⟩ := asI_inv e ok
  obtain ⟨kd', n, rfl, e2⟩ := asI_inv e1 ok
  rcases boolCases_inv e2 with ⟨hlt, e3⟩ | ⟨hlt, e3⟩
  · rw [ltZ_eq] at hlt
    have hlt := of_decide_eq_true hlt
    refine ⟨_, e3, fun σ x y w hx hy => ?_⟩
    simp only [VR] at hx hy; subst hx hy
    exact ⟨.int kd n, by simp [Builtin.min2, hlt], by simp [VR]⟩
  · rw [ltZ_eq] at hlt
    have hlt := of_decide_eq_false hlt
    refine ⟨_, e3, fun σ x y w hx hy => ?_⟩
    simp only [VR] at hx hy; subst hx hy
    exact ⟨.int kd m, by simp [Builtin.min2, hlt], by simp [VR]⟩
theorem max2_spec : VSpec2 P max2 Builtin.max2 := by
  intro a b k r e ok
  obtain ⟨kd, m, rfl, e1⟩ := asI_inv e ok
  obtain ⟨kd', n, rfl, e2⟩ := asI_inv e1 ok
  rcases boolCases_inv e2 with ⟨hlt, e3⟩ | ⟨hlt, e3⟩
  · rw [ltZ_eq] at hlt
    have hlt := of_decide_eq_true hlt
    refine ⟨_, e3, fun σ x y w hx hy => ?_⟩
    simp only [VR] at hx hy; subst hx hy
    exact ⟨.int kd n, by simp [Builtin.max2, hlt], by simp [VR]⟩
  · rw [ltZ_eq] at hlt
    have hlt := of_decide_eq_false hlt
    refine ⟨_, e3, fun σ x y w hx hy => ?_⟩
    simp only [VR] at hx hy; subst hx hy
    exact ⟨.int kd m, by simp [Builtin.max2, hlt], by simp [VR]⟩
theorem findM_inv {v w : AV} {r : Out} (ok : r.ok) : ∀ {l : List SR} {k : AV → Out}, findM v w l k = r → ∃ q ∈ l, k q.r = r ∧ AV.beq q.a (.tup [v]) = true ∧ AV.beq q.b w = true
  | [], k, e => by have e : Out.bad 85 = r := e; subst e; exact ok.elim
  | q :: l, k, e => by
    have e : (Bool.casesOn (AV.beq q.a (.tup [v]) && AV.beq q.b w) (findM v w l k) (k q.r) : Out) = r := e
    rcases boolCases_inv e with ⟨hb, e⟩ | ⟨hb, e⟩
    · simp only [Bool.and_eq_true] at hb
      exact ⟨q, by simp, e, hb.1, hb.2⟩
    · obtain ⟨q', hq, h⟩ := findM_inv ok e
      exact ⟨q', by simp [hq], h⟩
theorem max2S_spec (beq_eq : ∀ a b, AV.beq a b = true → a = b) : HSpec2 P max2S Builtin.max2 := by
  intro a b h k r e ok
  unfold max2S at e
  rcases symQ_inv e with ⟨e, i, rfl⟩ | e
  · obtain ⟨X, hX, e⟩ := hget_inv e ok
    split at e
    · rename_i l
      obtain ⟨q, hq, e1, h1, h2⟩ := findM_inv ok e
      have h1 := beq_eq _ _ h1
      have h2 := beq_eq _ _ h2
      refine ⟨q.r, e1, fun B σ x y w hp hp' hr => ?_⟩
      obtain ⟨⟨c, d, n⟩, hs⟩ := hr.syms.1
      have hsr := (show ∀ q ∈ l, SRok σ q from hr.blk _ _ _ _ _ hX hs) q hq
      unfold SRok at hsr
      rw [if_pos (by rw [h1]; rfl), if_neg (by rw [h1]; simp [aggB]), if_pos (by rw [h1]; rfl)] at hsr
      obtain ⟨z, n1, m1, g1, g2, g3, g4⟩ := hsr
      rw [h1] at g1
      cases g1
      have e1 := atomV.of g2 hp
      have e2 := atomV.of g3 (h2 ▸ hp')
      subst e1 e2
      exact ⟨.int .i64 (if m1 > n1 then m1 else n1), by simp [Builtin.max2], atomV.to g4 rfl⟩
    · subst e; exact ok.elim
  · obtain ⟨v, e1, hv⟩ := max2_spec (P := P) a b _ r e ok
    exact ⟨v, e1, fun B σ x y w hp hq _ => hv σ x y w hp hq⟩
theorem nilCheck_spec : VSpec1 P nilCheck (fun v => (match v with | .pointer none | .nilIface | .nilFunc => runtimePanic .nilDeref | v => pure v : Sem Value)) := by
  intro a k r e ok
  unfold nilCheck at e
  split at e
  · refine ⟨_, e, fun σ x w hx => ?_⟩
    have hx' := hx
    simp only [VR] at hx
    obtain ⟨c, d, n, _, rfl⟩ := hx
    exact ⟨_, rfl, hx'⟩
  · refine ⟨_, e, fun σ x w hx => ?_⟩
    have hx' := hx
    simp only [VR] at hx
    obtain ⟨a', c', rfl, _⟩ := hx
    exact ⟨_, rfl, hx'⟩
  · refine ⟨_, e, fun σ x w hx => ?_⟩
    have hx' := hx
    simp only [VR] at hx
    obtain ⟨u, rfl, _⟩ := hx
    exact ⟨_, rfl, hx'⟩
  · subst e; exact ok.elim
theorem assert_spec (hG : G.Ok) {t xt : TypeId} {z : AV} {d : TypeDesc} (ok' : Bool) (ht : G.und t = some d) (hd : ∀ ms, d ≠ .interface ms) (hz : G.zero t = some z) : VSpec1 G.P (assertV t ok' z) (fun x => Instr.typeAssert x xt t ok') := by
  intro a k r e ok
  obtain ⟨zv, hzv, hzr⟩ := zero_ok hG hz
  have hu := und_ok hG ht
  unfold assertV at e
  split at e
  · split at e
    · rename_i hok
      refine ⟨_, e, fun σ x w hx => ?_⟩
      simp only [VR] at hx; subst hx
      refine ⟨.tuple #[zv, .bool false], ?_, by simp only [VR]; exact ⟨_, rfl, VRs.cons (by rw [hzv]; exact ofValue_R σ zv) (VRs.cons (by simp [VR]) VRs.nil)⟩⟩
      unfold Instr.typeAssert
      simp only [Sem.run_bind, Go.run_underlying hu, Result.andThen_ok]
      cases d <;> first | exact absurd rfl (hd _) | simp [hok, hzr]
    · subst e; exact ok.elim
  · rename_i u y
    rcases boolCases_inv e with ⟨hut, e1⟩ | ⟨hut, e1⟩
    · have hut : u = t := Nat.eq_of_beq_eq_true hut
      subst hut
      refine ⟨_, e1, fun σ x w hx => ?_⟩
      simp only [VR] at hx
      obtain ⟨v, rfl, hv⟩ := hx
      refine ⟨if ok' then .tuple #[v, .bool true] else v, ?_, ?_⟩
      · unfold Instr.typeAssert
        simp only [Sem.run_bind, Go.run_underlying hu, Result.andThen_ok]
        cases d <;> first | exact absurd rfl (hd _) | simp
      · cases ok' with
        | true => simp only [if_true, VR]; exact ⟨_, rfl, VRs.cons hv (VRs.cons (by simp [VR]) VRs.nil)⟩
        | false => exact hv
    · have hut : u ≠ t := Nat.ne_of_beq_eq_false hut
      split at e1
      · rename_i hok
        refine ⟨_, e1, fun σ x w hx => ?_⟩
        simp only [VR] at hx
        obtain ⟨v, rfl, hv⟩ := hx
        refine ⟨.tuple #[zv, .bool false], ?_, by simp only [VR]; exact ⟨_, rfl, VRs.cons (by rw [hzv]; exact ofValue_R σ zv) (VRs.cons (by simp [VR]) VRs.nil)⟩⟩
        unfold Instr.typeAssert
        simp only [Sem.run_bind, Go.run_underlying hu, Result.andThen_ok]
        cases d <;> first | exact absurd rfl (hd _) | simp [hok, hzr, hut]
      · subst e1; exact ok.elim
  · subst e; exact ok.elim
end
end
end Go.Ev
namespace Go.Ev
noncomputable section
open Go
section
variable {G : Cfg} {P : Program} {B : Base} {σ : Sg} {h : AH} {w : World} {nt : Nat} {o : Oper}
theorem fold_over (off : Nat) : ∀ (us : List Value) (i : Nat) (cs : Array Value), off + i + us.length ≤ cs.size → ((us.zipIdx i).foldl (fun cs (c, j) => cs.setIfInBounds (off + j) c) cs) = over cs (off + i) us
  | [], i, cs, h => by
    apply Array.ext_getElem?
    intro q
    rw [over_get (by simpa using h)]
    rw [if_neg (by simp <;> omega)]
    rfl
  | u :: us, i, cs, h => by
    simp only [List.length_cons] at h
    rw [List.zipIdx_cons, List.foldl_cons, fold_over off us (i + 1) _ (by simp; omega)]
    apply Array.ext_getElem?
    intro q
    rw [over_get (by simp; omega), over_get (by simp; omega), Array.getElem?_setIfInBounds]
    simp only [List.length_cons]
    by_cases h1 : off + i = q
    · subst h1
      rw [if_neg (by omega), if_pos rfl, if_pos (by omega), if_pos (by omega)]
      simp
    · by_cases h2 : off + (i + 1) ≤ q ∧ q < off + (i + 1) + us.length
      · rw [if_pos h2, if_pos (by omega), show q - (off + i) = (q - (off + (i + 1))) + 1 from by omega]
        simp
      · rw [if_neg h2, if_neg h1, if_neg (by omega)]
theorem over_R {z : List AV} {zs : Array Value} {y : List AV} {us : List Value} {i : Nat} (hz : VRs σ z zs.toList) (hy : VRs σ y us) (hl : i + y.length ≤ z.length) : VRs σ (z.take i ++ y ++ z.drop (i + y.length)) (over zs i us).toList := by
  have h1 := hy.length
  have e : (over zs i us).toList = zs.toList.take i ++ us ++ zs.toList.drop (i + y.length) := by simp [over, h1]
  rw [e]
  exact ((hz.take i).append hy).append (hz.drop _)
theorem fillB_inv {place : Nat → Option (Nat × Nat)} {tr : Tr} {r : Out} (ok : r.ok) : ∀ {ps : List (Nat × Nat × Operand)} {parts : List (Nat × Operand)} {z : List AV} {k : List AV → Out},
    ps.length = parts.length → (∀ (i : Nat) p q, ps[i]? = some p → parts[i]? = some q → place q.1 = some (p.1, p.2.1) ∧ p.2.2 = q.2) → (fillB nt ps).f tr z k = r →
    ∃ l, k l = r ∧ ∀ σ tm (zs : Array Value), (∀ q ∈ parts, OpR σ nt tr tm q.2) → VRs σ z zs.toList → ∃ cs, Instr.fill place zs (parts.map fun q => (q.1, ev tm q.2)) = some cs ∧ VRs σ l cs.toList
  | [], [], z, k, _, _, h => ⟨z, h, fun σ tm zs _ hz => ⟨zs, rfl, hz⟩⟩
  | [], _ :: _, _, _, hl, _, _ => by simp at hl
  | _ :: _, [], _, _, hl, _, _ => by simp at hl
  | (off, n, x) :: ps, (i, x') :: parts, z, k, hl, hp, h => by
    obtain ⟨hpl, hx⟩ := hp 0 _ _ rfl rfl
    simp only at hpl hx
    subst hx
    obtain ⟨v, hv, h1⟩ := opd_inv (nt := nt) (x := x) (tr := tr) (k := fun v => guardB (notB (isTop v)) 93 <| guardB (Nat.beq (cellsOf v).length n) 93 (overK off z (cellsOf v) fun z' => (fillB nt ps).f tr z' k)) h ok
    obtain ⟨htop, h2⟩ := guardB_inv h1 ok
    have htop : isTop v = false := by rw [notB_eq] at htop; simpa using htop
    obtain ⟨hn, h3⟩ := guardB_inv h2 ok
    have hn : (cellsOf v).length = n := Nat.eq_of_beq_eq_true hn
    obtain ⟨hle, h4⟩ := overK_inv ok h3
    obtain ⟨l, h5, hf⟩ := fillB_inv ok (by simpa using hl) (fun j p q a b => hp (j + 1) p q (by simpa using a) (by simpa using b)) h4
    refine ⟨l, h5, fun σ tm zs hop hz => ?_⟩
    have hvr := cellsOf_R htop (hop (i, x) (by simp) v hv)
    have hlen := hvr.length
    have hzl := hz.length
    simp only [Array.length_toList] at hlen hzl
    obtain ⟨cs, hc1, hc2⟩ := hf σ tm (over zs (off + 0) (ev tm x).cells.toList) (fun q hq => hop q (by simp [hq])) (over_R hz hvr hle)
    refine ⟨cs, ?_, hc2⟩
    simp only [List.map_cons, Instr.fill, hpl]
    have e1 : (ev tm x).cells.size = n := by omega
    have e2 : ¬ (off + (ev tm x).cells.size > zs.size) := by omega
    simp only [e1, ne_eq, not_true_eq_false, decide_false, Bool.false_or]
    rw [if_neg (by rw [← e1]; simpa using e2)]
    rw [← hc1]
    congr 1
    have := fold_over off (ev tm x).cells.toList 0 zs (by simp; omega)
    rw [← this]
    rw [← Array.foldl_toList, Array.toList_zipIdx]
end
end
end Go.Ev
namespace Go.Ev
noncomputable section
open Go
section
variable {G : Cfg} {P : Program} {B : Base} {σ : Sg} {h : AH} {w : World} {nt : Nat} {o : Oper}
theorem places_inv {t : Nat} : ∀ {parts : List (Nat × Operand)} {ps : List (Nat × Nat × Operand)}, G.places t parts = some ps →
    ps.length = parts.length ∧ ∀ (i : Nat) p q, ps[i]? = some p → parts[i]? = some q → G.place t q.1 = some (p.1, p.2.1) ∧ p.2.2 = q.2
  | [], ps, h => by
    simp only [Cfg.places, Option.some.injEq] at h; subst h
    exact ⟨rfl, by simp⟩
  | (i, x) :: parts, ps, h => by
    simp only [Cfg.places] at h
    cases hp : G.place t i with
    | none => rw [hp] at h; cases h
    | some p =>
      rw [hp] at h
      simp only [Option.bind_some] at h
      cases hl : G.places t parts with
      | none => rw [hl] at h; cases h
      | some l =>
        rw [hl] at h
        simp only [Option.map_some, Option.some.injEq] at h; subst h
        obtain ⟨h1, h2⟩ := places_inv hl
        refine ⟨by simp [h1], fun j p' q' hj hq => ?_⟩
        cases j with
        | zero =>
          simp at hj hq; subst hj hq
          exact ⟨hp, rfl⟩
        | succ j => exact h2 j p' q' (by simpa using hj) (by simpa using hq)
theorem mapM_sizes (hG : G.Ok) : ∀ (fs : List Field), (fs.all fun f => (G.size f.type).isSome) = true → ∃ places : List (Nat × Nat), fs.mapM (fun f => (G.P.info? f.type).map fun i => (f.offset, i.size)) = some places ∧
    ∀ (i : Nat) f, fs[i]? = some f → ∀ n, G.size f.type = some n → places[i]? = some (f.offset, n)
  | [], _ => ⟨[], rfl, by simp⟩
  | f :: fs, h => by
    simp only [List.all_cons, Bool.and_eq_true] at h
    obtain ⟨places, h1, h2⟩ := mapM_sizes hG fs h.2
    obtain ⟨n, hn⟩ := Option.isSome_iff_exists.1 h.1
    have hs := size_ok hG hn
    cases hi : G.P.info? f.type with
    | none => rw [hi] at hs; cases hs
    | some i =>
      rw [hi] at hs
      simp only [Option.map_some, Option.some.injEq] at hs
      refine ⟨(f.offset, i.size) :: places, by simp [List.mapM_cons, hi, h1], fun j f' hj m hm => ?_⟩
      cases j with
      | zero =>
        simp at hj; subst hj
        rw [hn] at hm; cases hm
        simp [hs]
      | succ j => simpa using h2 j f' (by simpa using hj) m hm
theorem build_spec (hG : G.Ok) {t : Nat} {parts : Array (Nat × Operand)} (ho : o.op = .build t parts) : RSpec G.P nt o (cBuild G nt t parts.toList).f := by
  intro s tr h k r e ok
  unfold cBuild at e
  split at e
  · rename_i z ps hz hps
    split at e
    · rename_i hsz
      rw [forceL_eq] at e
      obtain ⟨hlen, hpl⟩ := places_inv hps
      obtain ⟨it, hit, zv, hzv, rfl⟩ : ∃ it, G.info t = some it ∧ ∃ zv, it.zero = some zv ∧ z = ofValue zv := by
        unfold Cfg.zero at hz
        cases hi : G.info t with
        | none => rw [hi] at hz; cases hz
        | some it =>
          rw [hi] at hz
          simp only [Option.bind_some] at hz
          cases hzz : it.zero with
          | none => rw [hzz] at hz; cases hz
          | some zv => rw [hzz] at hz; exact ⟨it, rfl, zv, hzz, (Option.some.inj hz).symm⟩
      have hit' := hG.info t it hit
      have hops : ∀ q ∈ parts.toList, q.2 ∈ o.op.operands := by
        intro q hq
        rw [ho]
        simp only [Op.operands]
        rw [List.mem_toArray]; exact List.mem_map.2 ⟨q, hq, rfl⟩
      have key : ∃ place : Nat → Option (Nat × Nat), (∀ i p, G.place t i = some p → place i = some p) ∧ ∀ L cells, Instr.fill place zv.cells L = some cells → G.P.built t L = some cells := by
        unfold sizesOk at hsz
        split at hsz
        · rename_i fs hu
          obtain ⟨places, h1, h2⟩ := mapM_sizes hG fs.toList hsz
          refine ⟨fun i => places.toArray[i]?, fun i p hp => ?_, fun L cells hf => ?_⟩
          · unfold Cfg.place at hp
            rw [hu] at hp
            simp only at hp
            cases hfi : fs[i]? with
            | none => rw [hfi] at hp; cases hp
            | some f =>
              rw [hfi] at hp
              simp only [Option.bind_some] at hp
              cases hn : G.size f.type with
              | none => rw [hn] at hp; cases hp
              | some n =>
                rw [hn] at hp
                simp only [Option.map_some, Option.some.injEq] at hp; subst hp
                simpa using h2 i f (by simpa using hfi) n hn
          · simp only [Program.built, hit', und_ok hG hu, hzv, h1]
            exact hf
        · rename_i m e' hu
          obtain ⟨n, hn⟩ := Option.isSome_iff_exists.1 hsz
          have hs := size_ok hG hn
          cases hi : G.P.info? e' with
          | none => rw [hi] at hs; cases hs
          | some ie =>
            rw [hi] at hs
            simp only [Option.map_some, Option.some.injEq] at hs; subst hs
            refine ⟨fun i => some (i * ie.size, ie.size), fun i p hp => ?_, fun L cells hf => ?_⟩
            · unfold Cfg.place at hp
              rw [hu] at hp
              simp only [hn, Option.map_some] at hp
              exact hp
            · simp only [Program.built, hit', und_ok hG hu, hzv, hi]
              exact hf
        · cases hsz
      obtain ⟨place, hplace, hbuilt⟩ := key
      obtain ⟨l, e1, hf⟩ := fillB_inv (nt := nt) (tr := tr) (place := place) (z := cellsOf (ofValue zv)) (k := fun l => k (.agg l) h) ok hlen (fun i p q a b => ⟨hplace _ _ (hpl i p q a b).1, (hpl i p q a b).2⟩) e
      refine ⟨_, e1, fun B σ tm w hop hr => ?_⟩
      obtain ⟨cs, hc1, hc2⟩ := hf σ tm zv.cells (fun q hq => hop _ (hops q hq)) (zero_cells σ zv)
      refine ⟨.agg cs, ?_, by simp only [VR]; exact ⟨cs, rfl, hc2⟩⟩
      have := run_build (P := G.P) w t (parts.map fun (i, x) => (i, ev tm x)) cs (hbuilt _ _ (by simpa using hc1))
      simp only [execOp, ho, Sem.run_bind, this, Result.andThen_ok, Sem.run_pure]
    · subst e; exact ok.elim
  · subst e; exact ok.elim
end
end
end Go.Ev
namespace Go.Ev
noncomputable section
open Go
section
variable {G : Cfg} {P : Program} {B : Base} {σ : Sg} {h : AH} {w : World} {nt : Nat} {o : Oper}
theorem elemPlaces_inv (n : Nat) : ∀ {parts : List (Nat × Operand)}, (elemPlaces n parts).length = parts.length ∧ ∀ (i : Nat) p q, (elemPlaces n parts)[i]? = some p → parts[i]? = some q → (some (q.1 * n, n) : Option (Nat × Nat)) = some (p.1, p.2.1) ∧ p.2.2 = q.2
  | [] => ⟨rfl, by simp [elemPlaces]⟩
  | (i, x) :: parts => by
    obtain ⟨h1, h2⟩ := elemPlaces_inv n (parts := parts)
    refine ⟨by simp [elemPlaces, h1], fun j p q hp hq => ?_⟩
    cases j with
    | zero => simp [elemPlaces] at hp hq; subst hp hq; exact ⟨rfl, rfl⟩
    | succ j => exact h2 j p q (by simpa [elemPlaces] using hp) (by simpa using hq)
theorem buildSlice_spec (hG : G.Ok) {t len : Nat} {parts : Array (Nat × Operand)} (ho : o.op = .buildSlice t len parts) : ESpec G.P nt o (cBuildSlice G nt t len parts.toList).f := by
  intro s tr h k r e ok B σ tm w hop hr
  unfold cBuildSlice at e
  split at e
  · rename_i el hu
    split at e
    · rename_i n z hn hz
      split at e
      · rename_i hcond
        obtain ⟨hzl, hlen⟩ := hcond
        rw [forceL_eq] at e
        obtain ⟨it, hit, zv, hzv, rfl⟩ : ∃ it, G.info el = some it ∧ ∃ zv, it.zero = some zv ∧ z = ofValue zv := by
          unfold Cfg.zero at hz
          cases hi : G.info el with
          | none => rw [hi] at hz; cases hz
          | some it =>
            rw [hi] at hz
            simp only [Option.bind_some] at hz
            cases hzz : it.zero with
            | none => rw [hzz] at hz; cases hz
            | some zv => rw [hzz] at hz; exact ⟨it, rfl, zv, hzz, (Option.some.inj hz).symm⟩
        have hit' := hG.info el it hit
        have hsz : it.size = n + 1 := by
          have := size_ok hG hn
          rw [hit'] at this; simpa using this
        have hops : ∀ q ∈ parts.toList, q.2 ∈ o.op.operands := by
          intro q hq
          rw [ho]
          simp only [Op.operands]
          rw [List.mem_toArray]; exact List.mem_map.2 ⟨q, hq, rfl⟩
        obtain ⟨l, e1, hf⟩ := fillB_inv (nt := nt) (tr := tr) (place := fun i => some (i * (n + 1), n + 1)) ok (elemPlaces_inv (n + 1)).1 (elemPlaces_inv (n + 1)).2 e
        obtain ⟨t', hset, e2⟩ := hnew_inv e1 ok
        have hrow := madeRow_R (σ := σ) (z := zv) (by omega) len
        rw [hzl] at hrow
        obtain ⟨cs, hc1, hc2⟩ := hf σ tm _ (fun q hq => hop _ (hops q hq)) hrow
        have hpush := hr.pushCells' hset hc2
        by_cases hl0 : len = 0
        · subst hl0
          have hcs : Instr.fill (fun i => some (i * it.size, it.size)) #[] ((parts.map fun (i, x) => (i, ev tm x)).toList) = some cs := by
            rw [hsz]; simpa [show Array.range 0 = #[] from rfl] using hc1
          refine ⟨_, _, _, .slice (some ⟨w.heap.size, 0, none⟩) 0 0, _, _, e2, ?_, .inl rfl, Sg.add_grows _ _ _ _ _, slc_new _ _ _ _ _ _ _ (Nat.le_refl _) rfl, hpush, .push hr hset⟩
          have hrun : (Instr.buildSlice t 0 (parts.map fun (i, x) => (i, ev tm x))).run G.P w = .ok (.slice (some ⟨w.heap.size, 0, none⟩) 0 0) (w.alloc (.cells cs el)) := by
            have hfill : Instr.fill (fun i => some (i * it.size, it.size)) #[] ((parts.map fun (i, x) => (i, ev tm x)).toList) = some cs := hcs
            simp only [Array.toList_map] at hfill
            simp [Instr.buildSlice, Go.run_underlying (und_ok hG hu), sizeOf, typeInfo, hit', newRow, show Array.range 0 = #[] from rfl, hfill]
          simp only [execOp, ho, Sem.run_bind, hrun, Result.andThen_ok, Sem.run_pure]
        · have hrun := run_buildSlice (P := G.P) w t el len (parts.map fun (i, x) => (i, ev tm x)) cs it zv (und_ok hG hu) hit' hzv (by rw [hsz]; omega) (by rw [hsz]; exact Nat.mul_ne_zero hl0 (Nat.succ_ne_zero n)) (by rw [hsz]; simpa using hc1)
          refine ⟨_, _, _, .slice (some ⟨w.heap.size, 0, none⟩) len len, _, _, e2, ?_, .inl rfl, Sg.add_grows _ _ _ _ _, slc_new _ _ _ _ _ _ _ (Nat.le_refl _) rfl, hpush, .push hr hset⟩
          simp only [execOp, ho, Sem.run_bind, hrun, Result.andThen_ok, Sem.run_pure]
      · subst e; exact ok.elim
    · subst e; exact ok.elim
  · subst e; exact ok.elim
end
end
end Go.Ev
namespace Go.Ev
noncomputable section
open Go
section
variable {G : Cfg} {P : Program} {B : Base} {σ : Sg} {h : AH} {w : World} {nt : Nat} {o : Oper}
theorem no_R {n : Nat} : RSpec P nt o (no n).f := by
  intro s tr h k r e ok
  subst e; exact ok.elim
theorem cBin_R (hG : G.Ok) {op : BinOp} {xt yt : TypeId} {x y : Operand} (ho : o.op = .binOp op xt x y yt) : RSpec G.P nt o (cBin G nt op xt x y).f := by
  have he : ∀ ρ, execOp ρ o = (do pure (.value (← bin op xt x y (ρ x) (ρ y))) : Sem Next) := fun ρ => by simp only [execOp, ho]; rfl
  have hx : x ∈ o.op.operands := by rw [ho]; simp [Op.operands]
  have hy : y ∈ o.op.operands := by rw [ho]; simp [Op.operands]
  unfold cBin
  split
  · split
    · exact h2_spec (int2S_spec beq_eq add_spec) he hx hy
    · exact h2_spec (int2S_spec beq_eq sub_spec) he hx hy
    · exact h2_spec (int2S_spec beq_eq mul_spec) he hx hy
    · exact h2_spec (int2S_spec beq_eq quo_spec) he hx hy
    · exact h2_spec (int2S_spec beq_eq rem_spec) he hx hy
    · exact h2_spec (int2S_spec beq_eq and_spec) he hx hy
    · exact h2_spec (int2S_spec beq_eq or_spec) he hx hy
    · exact h2_spec (int2S_spec beq_eq xor_spec) he hx hy
    · exact h2_spec (int2S_spec beq_eq andNot_spec) he hx hy
    · exact h2_spec (int2S_spec beq_eq (shf_spec true rfl)) he hx hy
    · exact h2_spec (int2S_spec beq_eq (shf_spec false rfl)) he hx hy
    · exact h2_spec (int2S_spec beq_eq eql_spec) he hx hy
    · exact h2_spec (int2S_spec beq_eq neq_spec) he hx hy
    · exact h2_spec (int2S_spec beq_eq lss_spec) he hx hy
    · exact h2_spec (int2S_spec beq_eq leq_spec) he hx hy
    · exact h2_spec (int2S_spec beq_eq gtr_spec) he hx hy
    · exact h2_spec (int2S_spec beq_eq geq_spec) he hx hy
  · split
    · exact p2_spec strAdd_spec he hx hy
    · exact p2_spec seql_spec he hx hy
    · exact p2_spec sneq_spec he hx hy
    · exact p2_spec slss_spec he hx hy
    · exact p2_spec sleq_spec he hx hy
    · exact p2_spec sgtr_spec he hx hy
    · exact p2_spec sgeq_spec he hx hy
    · exact no_R
  · rename_i hu
    split
    · exact p2_spec (boolEq_spec false (und_ok hG hu)) he hx hy
    · exact p2_spec (boolEq_spec true (und_ok hG hu)) he hx hy
    · exact no_R
  · exact h2_spec (fltBin_spec beq_eq) he hx hy
  · rename_i e hu
    split
    · exact h2_spec (ptrEq_spec hG false e hu) he hx hy
    · exact h2_spec (ptrEq_spec hG true e hu) he hx hy
    · exact no_R
  · rename_i e hu
    split
    · exact p2_spec (nilEqS_spec hG false hu) he hx hy
    · exact p2_spec (nilEqS_spec hG true hu) he hx hy
    · exact no_R
  · rename_i hu
    split
    · exact p2_spec (nilEqM_spec hG false hu) he hx hy
    · exact p2_spec (nilEqM_spec hG true hu) he hx hy
    · exact no_R
  · rename_i hu
    split
    · exact p2_spec (nilEqF_spec hG false hu) he hx hy
    · exact p2_spec (nilEqF_spec hG true hu) he hx hy
    · exact no_R
  · rename_i ms hu
    simp only
    split
    · exact h2_spec (ifcEq_spec hG _ false hu rfl) he hx hy
    · exact h2_spec (ifcEq_spec hG _ true hu rfl) he hx hy
    · exact no_R
  · split
    · rename_i ts hts
      split
      · exact p2_spec (aggEq_spec hG false hts) he hx hy
      · exact p2_spec (aggEq_spec hG true hts) he hx hy
      · exact no_R
    · exact no_R
  · exact no_R
theorem intToStr_spec (hG : G.Ok) {src dst : TypeId} {k0 : IntKind} (hs : G.und src = some (.int k0)) (hd : G.und dst = some .string) : VSpec1 G.P intToStr (convert src dst) := by
  intro a k r e ok
  obtain ⟨kd, n, rfl, e1⟩ := asN_inv e ok
  obtain ⟨hn, e2⟩ := guardB_inv e1 ok
  have hn : n < 128 := Nat.le_of_ble_eq_true hn
  refine ⟨_, e2, fun σ x w hx => ?_⟩
  simp only [VR] at hx; subst hx
  refine ⟨.string (Utf8.encode n), by simp [convert, Go.run_underlying (und_ok hG hs), Go.run_underlying (und_ok hG hd), Conv.intToString], ?_⟩
  simp only [VR]
  refine ⟨_, rfl, ?_⟩
  have hv : Utf8.valid (n : Int) = true := by
    unfold Utf8.valid
    simp only [Bool.or_eq_true, Bool.and_eq_true, decide_eq_true_eq]
    left; omega
  unfold bytesR Utf8.encode
  simp only [hv, if_true, Int.toNat_natCast]
  rw [if_pos (by omega)]
  simp only [List.map_cons, List.map_nil, List.cons.injEq, and_true]
  rw [UInt8.toNat_ofNat']; omega
theorem cConv_R (hG : G.Ok) {src dst : TypeId} {x : Operand} (ho : o.op = .convert src dst x) (hr : reads G o = true) : RSpec G.P nt o (cConv G nt src dst x).f := by
  have he : ∀ ρ, execOp ρ o = (do pure (.value (← convert src dst (ρ x))) : Sem Next) := fun ρ => by simp only [execOp, ho]
  have hx : x ∈ o.op.operands := by rw [ho]; simp [Op.operands]
  unfold cConv
  split
  · rename_i k0 k hs hd; exact p1_spec (intConv_spec hG hs hd) he hx
  · rename_i k0 k hs hd; exact h1_spec (intToFltS_spec hG beq_eq hs hd) he hx
  · rename_i k0 k hs hd; exact p1_spec (fltToInt_spec hG hs hd) he hx
  · rename_i k0 hs hd; exact p1_spec (intToStr_spec hG hs hd) he hx
  · rename_i hs hd; exact p1_spec (strId_spec hG hs hd) he hx
  · rename_i e hs hd
    exfalso; simp [reads, ho, hs, hd] at hr
  · rename_i e hs hd
    split
    · rename_i hu; exact h1_spec (bytesToStr_spec hG hs hd hu) he hx
    · exact no_R
  · rename_i e' e hs hd
    exfalso; simp [reads, ho, hs, hd] at hr
  · rename_i t hs hd
    exfalso; simp [reads, ho, hs, hd] at hr
  · rename_i t hs hd
    exfalso; simp [reads, ho, hs, hd] at hr
  · exact no_R
end
end
end Go.Ev
namespace Go.Ev
noncomputable section
open Go
section
variable {G : Cfg} {P : Program} {B : Base} {σ : Sg} {h : AH} {w : World} {nt : Nat} {rnd : Bool} {o : Oper}
theorem const_R {v : AV} {u : Value} (hv : ∀ σ, VR σ v u) (he : ∀ ρ w, (execOp ρ o).run P w = .ok (.value u) w) : RSpec P nt o (fun _ _ h k => k v h) := by
  intro s tr h k r e ok
  exact ⟨v, e, fun B σ tm w _ _ => ⟨u, he _ w, hv σ⟩⟩
theorem move_R {x : Operand} (he : ∀ ρ, execOp ρ o = (pure (.value (ρ x)) : Sem Next)) (hx : x ∈ o.op.operands) : RSpec P nt o (Box.casesOn (opd nt x) fun g => ⟨fun _ tr h k => g tr fun v => k v h⟩ : Box OpF).f := by
  intro s tr h k r e ok
  obtain ⟨v, hv, e⟩ := opd_inv (nt := nt) (x := x) (tr := tr) (k := fun v => k v h) e ok
  exact ⟨v, e, fun B σ tm w hop _ => ⟨_, by rw [he]; simp, hop x hx v hv⟩⟩
theorem pick_R {c a b : Operand} (ho : o.op = .pick c a b) : RSpec P nt o (Box.casesOn (opd nt c) fun g => Box.casesOn (opd nt a) fun ga => Box.casesOn (opd nt b) fun gb =>
      ⟨fun _ tr h k => g tr fun v => asB v fun t => Bool.casesOn t (gb tr fun v => k v h) (ga tr fun v => k v h)⟩ : Box OpF).f := by
  have hc : c ∈ o.op.operands := by rw [ho]; simp [Op.operands]
  have ha : a ∈ o.op.operands := by rw [ho]; simp [Op.operands]
  have hb : b ∈ o.op.operands := by rw [ho]; simp [Op.operands]
  intro s tr h k r e ok
  obtain ⟨v, hv, e⟩ := opd_inv (nt := nt) (x := c) (tr := tr) (k := fun v => asB v fun t => Bool.casesOn t ((opd nt b).f tr fun v => k v h) ((opd nt a).f tr fun v => k v h)) e ok
  obtain ⟨t, rfl, e⟩ := asB_inv e ok
  rcases boolCases_inv e with ⟨rfl, e⟩ | ⟨rfl, e⟩
  · obtain ⟨v, hv', e⟩ := opd_inv e ok
    refine ⟨v, e, fun B σ tm w hop _ => ⟨ev tm a, ?_, hop a ha v hv'⟩⟩
    have := hop c hc _ hv
    simp only [VR] at this
    simp [execOp, ho, this, asBool]
  · obtain ⟨v, hv', e⟩ := opd_inv e ok
    refine ⟨v, e, fun B σ tm w hop _ => ⟨ev tm b, ?_, hop b hb v hv'⟩⟩
    have := hop c hc _ hv
    simp only [VR] at this
    simp [execOp, ho, this, asBool]
theorem nilCheck_R {x : Operand} (ho : o.op = .nilCheck x) : RSpec P nt o (p1 nt x nilCheck).f := by
  have hx : x ∈ o.op.operands := by rw [ho]; simp [Op.operands]
  intro s tr h k r e ok
  obtain ⟨a, ha, e⟩ := opd_inv (nt := nt) (x := x) (tr := tr) (k := fun v => nilCheck v fun r => k r h) e ok
  unfold nilCheck at e
  split at e
  · refine ⟨_, e, fun B σ tm w hop _ => ?_⟩
    have hx' := hop x hx _ ha
    have := hx'
    simp only [VR] at this
    obtain ⟨c, d, n, _, hv⟩ := this
    exact ⟨ev tm x, by simp [execOp, ho, hv], hx'⟩
  · refine ⟨_, e, fun B σ tm w hop _ => ?_⟩
    have hx' := hop x hx _ ha
    have := hx'
    simp only [VR] at this
    obtain ⟨a', c', hv, _⟩ := this
    exact ⟨ev tm x, by simp [execOp, ho, hv], hx'⟩
  · refine ⟨_, e, fun B σ tm w hop _ => ?_⟩
    have hx' := hop x hx _ ha
    have := hx'
    simp only [VR] at this
    obtain ⟨u, hv, _⟩ := this
    exact ⟨ev tm x, by simp [execOp, ho, hv], hx'⟩
  · subst e; exact ok.elim
theorem makeFunc_R {f : FuncId} {a c : Array Operand} (ho : o.op = .makeFunc (.func f) a c) : RSpec P nt o (Box.casesOn (opds nt a.toList) fun ga => Box.casesOn (opds nt c.toList) fun gc =>
    ⟨fun _ tr h k => ga tr fun a => gc tr fun c => k (.fn f a c) h⟩ : Box OpF).f := by
  have hops : ∀ x, x ∈ a.toList ∨ x ∈ c.toList → x ∈ o.op.operands := by
    intro x hx
    rw [ho]
    simp only [Op.operands, Array.mem_append]
    exact hx.imp (by simp) (by simp)
  intro s tr h k r e ok
  obtain ⟨va, e, ha⟩ := opds_inv (nt := nt) (tr := tr) ok (l := a.toList) (k := fun va => (opds nt c.toList).f tr fun vc => k (.fn f va vc) h) e
  obtain ⟨vc, e, hc⟩ := opds_inv ok e
  refine ⟨_, e, fun B σ tm w hop _ => ⟨.func (.func f) (a.map (ev tm)) (c.map (ev tm)), by simp [execOp, ho, Instr.makeFunc], ?_⟩⟩
  simp only [VR]
  refine ⟨_, _, rfl, ?_, ?_⟩
  · simpa using ha σ tm fun x hx => hop x (hops x (.inl hx))
  · simpa using hc σ tm fun x hx => hop x (hops x (.inr hx))
theorem opdO_inv {tr : Tr} {r : Out} (ok : r.ok) {x : Option Operand} {k : Option AV → Out} (e : (opdO nt x).f tr k = r) : ∃ v, k v = r ∧ ∀ σ tm, (∀ y, x = some y → OpR σ nt tr tm y) → OVR σ v (x.map (ev tm)) := by
  cases x with
  | none => exact ⟨none, e, fun σ tm _ => trivial⟩
  | some y =>
    obtain ⟨v, hv, e⟩ := opd_inv (show (opd nt y).f tr (fun v => k (some v)) = r from e) ok
    exact ⟨some v, e, fun σ tm h => h y rfl v hv⟩
theorem slice_R {t : TypeId} {x : Operand} {lo hi : Option Operand} (ho : o.op = .slice t x lo hi none) {F : Option AV → Option AV → AV → (AV → Out) → Out} (hF : VSpec3 P F (fun x lo hi => Instr.sliceAt t x lo hi none)) :
    RSpec P nt o (Box.casesOn (opd nt x) fun g => Box.casesOn (opdO nt lo) fun gl => Box.casesOn (opdO nt hi) fun gh => ⟨fun _ tr h k => g tr fun v => gl tr fun l => gh tr fun u => F l u v fun r => k r h⟩ : Box OpF).f := by
  have hx : x ∈ o.op.operands := by rw [ho]; simp [Op.operands]
  have hl : ∀ y, lo = some y → y ∈ o.op.operands := by rintro y rfl; rw [ho]; simp [Op.operands]
  have hh : ∀ y, hi = some y → y ∈ o.op.operands := by rintro y rfl; rw [ho]; simp [Op.operands]
  intro s tr h k r e ok
  obtain ⟨v, hv, e⟩ := opd_inv (nt := nt) (x := x) (tr := tr) (k := fun v => (opdO nt lo).f tr fun l => (opdO nt hi).f tr fun u => F l u v fun r => k r h) e ok
  obtain ⟨l, e, h1⟩ := opdO_inv ok e
  obtain ⟨u, e, h2⟩ := opdO_inv ok e
  obtain ⟨z, e, hs⟩ := hF l u v _ r e ok
  refine ⟨z, e, fun B σ tm w hop _ => ?_⟩
  obtain ⟨y, hy, hR⟩ := hs σ (ev tm x) (lo.map (ev tm)) (hi.map (ev tm)) w (hop x hx v hv) (h1 σ tm fun y e => hop y (hl y e)) (h2 σ tm fun y e => hop y (hh y e))
  exact ⟨y, by simp [execOp, ho, hy], hR⟩
theorem builtin1 {b : Builtin} {S : Array TypeId → TypeId → Array Value → Sem Value} {t : TypeId} {x : Operand} {at_ : Array TypeId} (hb : ∀ at_ ty cs args, builtin b at_ ty cs args = (do pure (.value (← S at_ ty args)) : Sem Next))
    (ho : o.op = .call ⟨.builtin b, #[x], at_⟩) : ∀ ρ, execOp ρ o = (do pure (.value (← S at_ o.type #[ρ x])) : Sem Next) := by
  intro ρ
  have := hb at_ o.type (#[x].map fun | .const _ => true | _ => false) #[ρ x]
  simp only [execOp, ho, resolve, pure_bind, invoke]
  exact (congrArg (builtin b at_ o.type _) (by simp)).trans this
theorem call_operands {c : Call} (ho : o.op = .call c) {x : Operand} (hx : x ∈ c.args.toList) : x ∈ o.op.operands := by
  rw [ho]
  simp only [Op.operands, Call.operands]
  cases c.callee <;> simp_all
theorem foldl_args {x : Operand} {ys : List Operand} {F : AV → AV → (AV → Out) → Out} {S : Value → Value → Sem Value} (hF : VSpec2 P F S) {T : Array Value → Sem Value} (hT : ∀ a l, T (a :: l).toArray = l.foldlM S a) {c : Call} (ho : o.op = .call c) (hc : c.args.toList = x :: ys)
    (he : ∀ ρ, execOp ρ o = (do pure (.value (← T (c.args.map ρ))) : Sem Next)) :
    RSpec P nt o (Box.casesOn (opd nt x) fun g => Box.casesOn (opds nt ys) fun gs => ⟨fun _ tr h k => g tr fun v => gs tr fun l => foldK F l v fun r => k r h⟩ : Box OpF).f := by
  intro s tr h k r e ok
  obtain ⟨v, hv, e⟩ := opd_inv (nt := nt) (x := x) (tr := tr) (k := fun v => (opds nt ys).f tr fun l => foldK F l v fun r => k r h) e ok
  obtain ⟨vs, e, hs⟩ := opds_inv ok e
  obtain ⟨u, e, hf⟩ := foldK_spec hF ok e
  refine ⟨u, e, fun B σ tm w hop _ => ?_⟩
  obtain ⟨y, hy, hR⟩ := hf σ (ev tm x) (ys.map (ev tm)) w (hop x (call_operands ho (by rw [hc]; simp)) v hv) (hs σ tm fun z hz => hop z (call_operands ho (by rw [hc]; simp [hz])))
  refine ⟨y, ?_, hR⟩
  have : c.args.map (ev tm) = (ev tm x :: ys.map (ev tm)).toArray := by
    apply Array.toList_inj.1
    simp [hc]
  rw [he, this, hT]
  simp [hy]
theorem len_R (hG : G.Ok) {args : Array Operand} {at_ : Array TypeId} (ho : o.op = .call ⟨.builtin .len, args, at_⟩) : ∀ (ts : List TypeId) (xs : List Operand), at_ = ts.toArray → args = xs.toArray → RSpec G.P nt o (cBuiltin G nt .len ts xs).f
  | [], _, _, _ => no_R
  | [_], [], _, _ => no_R
  | [_], _ :: _ :: _, _, _ => no_R
  | _ :: _ :: _, _, _, _ => no_R
  | [t], [x], hts, hxs => by
    subst hts hxs
    have he := builtin1 (S := Builtin.len_) (t := 0) (fun _ _ _ _ => rfl) ho
    have hx : x ∈ o.op.operands := call_operands ho (by simp)
    show RSpec G.P nt o (match G.und t with
      | some (.array n _) => ⟨fun _ _ h k => k (.int .i64 (.ofNat n)) h⟩
      | some (.pointer a) => (match G.und a with | some (.array n _) => ⟨fun _ _ h k => k (.int .i64 (.ofNat n)) h⟩ | _ => no 130)
      | some .string => p1 nt x fun v k => asS v fun l => lenK l 0 fun n => k (.int .i64 (.ofNat n))
      | some (.slice _) => p1 nt x fun v k => lenL v fun n => k (.int .i64 (.ofNat n))
      | some (.map ..) => h1 nt x fun v h k => lenM h v fun n => k (.int .i64 (.ofNat n)) h
      | _ => no 130 : Box OpF).f
    split
    · rename_i n el hu
      exact const_R (u := .int .i64 n) (fun σ => by simp [VR]) fun ρ w => by rw [he]; simp [Builtin.len_, Go.run_underlying (und_ok hG hu), goInt]
    · rename_i a hu
      split
      · rename_i n el hu'
        exact const_R (u := .int .i64 n) (fun σ => by simp [VR]) fun ρ w => by rw [he]; simp [Builtin.len_, Go.run_underlying (und_ok hG hu), Go.run_underlying (und_ok hG hu'), goInt]
      · exact no_R
    · rename_i hu; exact p1_spec (lenS_spec hG hu) he hx
    · rename_i hu; exact p1_spec (lenL_spec hG hu) he hx
    · rename_i hu; exact h1_spec (lenM_spec hG hu) he hx
    · exact no_R
theorem cap_R (hG : G.Ok) {args : Array Operand} {at_ : Array TypeId} (ho : o.op = .call ⟨.builtin .cap, args, at_⟩) : ∀ (ts : List TypeId) (xs : List Operand), at_ = ts.toArray → args = xs.toArray → RSpec G.P nt o (cBuiltin G nt .cap ts xs).f
  | [], _, _, _ => no_R
  | [_], [], _, _ => no_R
  | [_], _ :: _ :: _, _, _ => no_R
  | _ :: _ :: _, _, _, _ => no_R
  | [t], [x], hts, hxs => by
    subst hts hxs
    have he := builtin1 (S := Builtin.cap_) (t := 0) (fun _ _ _ _ => rfl) ho
    have hx : x ∈ o.op.operands := call_operands ho (by simp)
    show RSpec G.P nt o (match G.und t with
      | some (.slice _) => p1 nt x fun v k => capV v fun n => k (.int .i64 (.ofNat n))
      | _ => no 130 : Box OpF).f
    split
    · rename_i hu; exact p1_spec (cap_spec hG hu) he hx
    · exact no_R
theorem min_R {args : Array Operand} {at_ : Array TypeId} (ho : o.op = .call ⟨.builtin .min, args, at_⟩) : ∀ (xs : List Operand), args = xs.toArray → RSpec G.P nt o (cBuiltin G nt .min at_.toList xs).f
  | [], _ => no_R
  | x :: ys, hx => foldl_args (T := Builtin.min_ at_ o.type) min2_spec (fun a l => by simp [Builtin.min_]) ho (by rw [hx]) fun ρ => by
      simp only [execOp, ho, resolve, pure_bind, invoke, builtin]
theorem max_R {args : Array Operand} {at_ : Array TypeId} (ho : o.op = .call ⟨.builtin .max, args, at_⟩) : ∀ (xs : List Operand), args = xs.toArray → RSpec G.P nt o (cBuiltin G nt .max at_.toList xs).f
  | [], _ => no_R
  | [x, y], hx => by
    refine h2_spec (max2S_spec beq_eq) (fun ρ => ?_) (call_operands ho (by rw [hx]; simp)) (call_operands ho (by rw [hx]; simp))
    simp only [execOp, ho, hx, resolve, pure_bind, invoke, builtin, Builtin.max_, List.map_toArray, List.map_cons, List.map_nil, List.foldlM_cons, List.foldlM_nil, bind_pure]
  | [x], hx => foldl_args (ys := []) (T := Builtin.max_ at_ o.type) max2_spec (fun a l => by simp [Builtin.max_]) ho (by rw [hx]) fun ρ => by
      simp only [execOp, ho, resolve, pure_bind, invoke, builtin]
  | x :: y :: z :: ys, hx => foldl_args (ys := y :: z :: ys) (T := Builtin.max_ at_ o.type) max2_spec (fun a l => by simp [Builtin.max_]) ho (by rw [hx]) fun ρ => by
      simp only [execOp, ho, resolve, pure_bind, invoke, builtin]
theorem cBuiltin_R (hG : G.Ok) {b : Builtin} {args : Array Operand} {at_ : Array TypeId} (ho : o.op = .call ⟨.builtin b, args, at_⟩) (hb : b = .len ∨ b = .cap ∨ b = .min ∨ b = .max) : RSpec G.P nt o (cBuiltin G nt b at_.toList args.toList).f := by
  rcases hb with rfl | rfl | rfl | rfl
  · exact len_R hG ho _ _ (by simp) (by simp)
  · exact cap_R hG ho _ _ (by simp) (by simp)
  · exact min_R ho _ (by simp)
  · exact max_R ho _ (by simp)
theorem cOp_R (hG : G.Ok) (hr : reads G o = true) : RSpec G.P nt o (cOp G nt rnd o).f := by
  cases hop : o.op <;> simp only [reads, hop, Bool.false_eq_true] at hr
  case move x =>
    have := move_R (P := G.P) (nt := nt) (o := o) (x := x) (fun ρ => by simp only [execOp, hop]) (by rw [hop]; simp [Op.operands])
    simpa only [cOp, hop] using this
  case pick c a b => simpa only [cOp, hop] using pick_R (P := G.P) (nt := nt) hop
  case build t ps => simpa only [cOp, hop] using build_spec (nt := nt) hG hop
  case load t x =>
    have he : ∀ ρ, execOp ρ o = (do pure (.value (← Instr.loadAt t (ρ x))) : Sem Next) := fun ρ => by simp only [execOp, hop]
    have hx : x ∈ o.op.operands := by rw [hop]; simp [Op.operands]
    have : RSpec G.P nt o (cLoad G nt t x).f := by
      unfold cLoad
      split
      · rename_i ha hs; exact h1_spec (loadOne_spec hG ha) he hx
      · rename_i ha hs; exact h1_spec (loadAgg_spec hG ha hs) he hx
      · exact no_R
    simpa only [cOp, hop] using this
  case nilCheck x => simpa only [cOp, hop] using nilCheck_R (P := G.P) (nt := nt) hop
  case binOp op xt x y yt => simpa only [cOp, hop] using cBin_R (nt := nt) hG hop
  case unOp op t x =>
    have he : ∀ ρ, execOp ρ o = (do pure (.value (← Op.unary op (ρ x))) : Sem Next) := fun ρ => by simp only [execOp, hop]
    have hx : x ∈ o.op.operands := by rw [hop]; simp [Op.operands]
    cases op
    · simpa only [cOp, hop] using p1_spec (nt := nt) negV_spec he hx
    · simpa only [cOp, hop] using p1_spec (nt := nt) compV_spec he hx
    · simpa only [cOp, hop] using p1_spec (nt := nt) notV_spec he hx
    · simpa only [cOp, hop] using no_R
  case convert src dst x => simpa only [cOp, hop] using cConv_R (nt := nt) hG hop (by simpa only [reads, hop] using hr)
  case makeInterface t x =>
    have he : ∀ ρ, execOp ρ o = (do pure (.value (← Instr.makeInterface t (ρ x))) : Sem Next) := fun ρ => by simp only [execOp, hop]
    have hx : x ∈ o.op.operands := by rw [hop]; simp [Op.operands]
    simp only [cOp, hop]
    split
    · exact no_R
    · exact no_R
    · rename_i d hn hu; exact p1_spec (makeInterface_spec hG hu fun ms e => hn ms e) he hx
  case makeFunc fn a c =>
    cases fn with
    | func f => simpa only [cOp, hop] using makeFunc_R (P := G.P) (nt := nt) hop
    | _ => simpa only [cOp, hop] using no_R
  case slice t x lo hi mx =>
    cases mx with
    | some m => simpa only [cOp, hop] using no_R
    | none =>
      have : RSpec G.P nt o (cSlice G nt t x lo hi).f := by
        unfold cSlice
        split
        · rename_i hu; exact slice_R hop (sliceStr_spec hG hu)
        · rename_i el hu
          split
          · rename_i s hs; exact slice_R hop (sliceSlc_spec hG hu hs)
          · exact no_R
        · rename_i n el hu
          split
          · rename_i s hs; exact slice_R hop (sliceArr_spec hG hu hs)
          · exact no_R
        · rename_i a hu
          split
          · rename_i n el hu'
            split
            · rename_i s hs; exact slice_R hop (sliceArrP_spec hG hu hu' hs)
            · exact no_R
          · exact no_R
        · exact no_R
      simpa only [cOp, hop] using this
  case fieldAddr t x i =>
    have he : ∀ ρ, execOp ρ o = (do pure (.value (← Instr.fieldAt t (ρ x) i)) : Sem Next) := fun ρ => by simp only [execOp, hop]
    have hx : x ∈ o.op.operands := by rw [hop]; simp [Op.operands]
    have : RSpec G.P nt o (cFieldAddr G nt t x i).f := by
      unfold cFieldAddr
      split
      · rename_i fs hu
        split
        · rename_i f hf
          split
          · rename_i n hn; exact p1_spec (fieldAddr_spec hG hu hf hn) he hx
          · exact no_R
        · exact no_R
      · exact no_R
    simpa only [cOp, hop] using this
  case field t x i =>
    have he : ∀ ρ, execOp ρ o = (do pure (.value (← Instr.field t (ρ x) i)) : Sem Next) := fun ρ => by simp only [execOp, hop]
    have hx : x ∈ o.op.operands := by rw [hop]; simp [Op.operands]
    have : RSpec G.P nt o (cField G nt t x i).f := by
      unfold cField
      split
      · rename_i fs hu
        split
        · rename_i f hf
          split
          · rename_i ha hs; exact p1_spec (fieldOne_spec hG hu hf ha) he hx
          · rename_i ha hs; exact p1_spec (fieldAgg_spec hG hu hf ha hs) he hx
          · exact no_R
        · exact no_R
      · exact no_R
    simpa only [cOp, hop] using this
  case indexAddr t x i =>
    have he : ∀ ρ, execOp ρ o = (do pure (.value (← Instr.indexAt t (ρ x) (ρ i))) : Sem Next) := fun ρ => by simp only [execOp, hop]
    have hx : x ∈ o.op.operands := by rw [hop]; simp [Op.operands]
    have hi : i ∈ o.op.operands := by rw [hop]; simp [Op.operands]
    have : RSpec G.P nt o (cIndexAddr G nt t x i).f := by
      unfold cIndexAddr
      split
      · rename_i n el hu
        split
        · rename_i s hs; exact p2_spec (indexAddrA_spec hG hu hs) he hx hi
        · exact no_R
      · rename_i el hu
        split
        · rename_i s hs; exact p2_spec (indexAddrS_spec hG hu hs) he hx hi
        · exact no_R
      · exact no_R
    simpa only [cOp, hop] using this
  case index t x i =>
    have he : ∀ ρ, execOp ρ o = (do pure (.value (← Instr.index t (ρ x) (ρ i))) : Sem Next) := fun ρ => by simp only [execOp, hop]
    have hx : x ∈ o.op.operands := by rw [hop]; simp [Op.operands]
    have hi : i ∈ o.op.operands := by rw [hop]; simp [Op.operands]
    have : RSpec G.P nt o (cIndex G nt t x i).f := by
      unfold cIndex
      split
      · rename_i n el hu
        split
        · rename_i s ha hs; exact p2_spec (indexA1_spec hG hu ha hs) he hx hi
        · rename_i s ha hs; exact p2_spec (indexAn_spec hG hu ha hs) he hx hi
        · exact no_R
      · rename_i hu; exact p2_spec (indexStr_spec hG hu) he hx hi
      · exact no_R
    simpa only [cOp, hop] using this
  case lookup t x i ok' =>
    have he : ∀ ρ, execOp ρ o = (do pure (.value (← Instr.lookup t (ρ x) (ρ i) ok')) : Sem Next) := fun ρ => by simp only [execOp, hop]
    have hx : x ∈ o.op.operands := by rw [hop]; simp [Op.operands]
    have hi : i ∈ o.op.operands := by rw [hop]; simp [Op.operands]
    have : RSpec G.P nt o (cLookup G nt t x i ok').f := by
      unfold cLookup
      split
      · rename_i kt e hu
        split
        · rename_i q z hq hz
          rw [forceV_eq]
          exact h2_spec (lookup_spec hG ok' hu hq hz) he hx hi
        · exact no_R
      · exact no_R
    simpa only [cOp, hop] using this
  case extract x i =>
    have he : ∀ ρ, execOp ρ o = (do pure (.value (← Instr.extract (ρ x) i)) : Sem Next) := fun ρ => by simp only [execOp, hop]
    have hx : x ∈ o.op.operands := by rw [hop]; simp [Op.operands]
    simpa only [cOp, hop] using p1_spec (nt := nt) (extract_spec i) he hx
  case call c =>
    obtain ⟨callee, args, at_⟩ := c
    cases callee with
    | builtin b =>
      have hb : b = .len ∨ b = .cap ∨ b = .min ∨ b = .max := by
        cases b <;> simp at hr <;> simp
      have := cBuiltin_R (nt := nt) hG hop hb
      have hcc : cOp G nt rnd o = cBuiltin G nt b at_.toList args.toList := by
        simp only [cOp, hop, cCall]
        rcases hb with rfl | rfl | rfl | rfl <;> rfl
      rw [hcc]; exact this
    | _ => simp at hr
end
end
end Go.Ev
namespace Go.Ev
noncomputable section
open Go
section
variable {G : Cfg} {P : Program} {B : Base} {σ : Sg} {h : AH} {w : World} {nt : Nat} {rnd : Bool} {o : Oper}
theorem no_E {n : Nat} : ESpec P nt o (no n).f := no_R.e
theorem m3_spec {x y z : Operand} {F : AV → AV → AV → AH → KV → Out} {S : Value → Value → Value → Sem Next}
    (hF : ∀ a b c h k r, F a b c h k = r → r.ok → ∀ B σ x y z w, VR σ a x → VR σ b y → VR σ c z → HR B σ h w → MOut P B σ h k r (S x y z) w)
    (he : ∀ ρ, execOp ρ o = S (ρ x) (ρ y) (ρ z)) (hx : x ∈ o.op.operands) (hy : y ∈ o.op.operands) (hz : z ∈ o.op.operands) :
    ESpec P nt o (Box.casesOn (opd nt x) fun g => Box.casesOn (opd nt y) fun g' => Box.casesOn (opd nt z) fun g'' => ⟨fun _ tr h k => g tr fun v => g' tr fun w => g'' tr fun u => F v w u h k⟩ : Box OpF).f := by
  intro s tr h k r e ok B σ tm w hop hr
  obtain ⟨a, ha, e⟩ := opd_inv (nt := nt) (x := x) (tr := tr) (k := fun v => (opd nt y).f tr fun w => (opd nt z).f tr fun u => F v w u h k) e ok
  obtain ⟨b, hb, e⟩ := opd_inv (nt := nt) (x := y) (tr := tr) (k := fun w => (opd nt z).f tr fun u => F a w u h k) e ok
  obtain ⟨c, hc, e⟩ := opd_inv e ok
  rw [he]
  exact hF a b c h k r e ok B σ _ _ _ w (hop x hx a ha) (hop y hy b hb) (hop z hz c hc) hr
theorem rangeS_spec (hG : G.Ok) {t : Nat} (ht : G.und t = some .string) : MSpec1 G.P rangeS (fun x => vS (Instr.range t x)) := by
  intro a h k r e ok B σ x w hx hr
  unfold rangeS at e
  split at e
  · exact range_spec hG (.inl ht) e ok hx (.inl ⟨ht, _, rfl⟩) hr
  · subst e; exact ok.elim
theorem rangeM_spec (hG : G.Ok) {t kt el : Nat} (ht : G.und t = some (.map kt el)) : MSpec1 G.P rangeM (fun x => vS (Instr.range t x)) := by
  intro a h k r e ok B σ x w hx hr
  unfold rangeM at e
  split at e
  · subst e; exact ok.elim
  · rename_i hn
    exact range_spec hG (.inr ⟨_, _, ht⟩) e ok hx (.inr ⟨⟨_, _, ht⟩, fun l hl => hn l hl⟩) hr
theorem clearM_spec (hG : G.Ok) {t ty kt el : TypeId} (ht : G.und t = some (.map kt el)) : MSpec1 G.P clearM (fun x => vS (Builtin.clear_ #[t] ty #[x])) := by
  intro a h k r e ok B σ x w hx hr
  unfold clearM at e
  split at e
  · subst e; exact ok.elim
  · rename_i hn
    exact clear_spec hG ht (.inr ⟨(fun _ h => by cases h), rfl, _, _, rfl⟩) (fun hh => by obtain ⟨_, h⟩ := hh; cases h) e ok hx (fun _ b o n c hh => hn b o n c hh) hr
theorem assertNil_spec (hG : G.Ok) {t xt : TypeId} {z : AV} {ms : Array (String × TypeId)} (ok' : Bool) (ht : G.und t = some (.interface ms)) (hz : G.zero t = some z) : VSpec1 G.P (assertNil ok' z) (fun x => Instr.typeAssert x xt t ok') := by
  intro a k r e ok
  obtain ⟨zv, hzv, hzr⟩ := zero_ok hG hz
  have hu := und_ok hG ht
  unfold assertNil at e
  split at e
  · split at e
    · rename_i hok
      refine ⟨_, e, fun σ x w hx => ?_⟩
      simp only [VR] at hx; subst hx
      refine ⟨.tuple #[zv, .bool false], ?_, by simp only [VR]; exact ⟨_, rfl, VRs.cons (by rw [hzv]; exact ofValue_R σ zv) (VRs.cons (by simp [VR]) VRs.nil)⟩⟩
      unfold Instr.typeAssert
      simp [Go.run_underlying hu, hok, hzr]
    · subst e; exact ok.elim
  · subst e; exact ok.elim
theorem builtin2 {b : Builtin} {S : Array TypeId → TypeId → Array Value → Sem Value} {x y : Operand} {at_ : Array TypeId} (hb : ∀ at_ ty cs args, builtin b at_ ty cs args = vS (S at_ ty args))
    (ho : o.op = .call ⟨.builtin b, #[x, y], at_⟩) : ∀ ρ, execOp ρ o = vS (S at_ o.type #[ρ x, ρ y]) := by
  intro ρ
  have := hb at_ o.type (#[x, y].map fun | .const _ => true | _ => false) #[ρ x, ρ y]
  simp only [execOp, ho, resolve, pure_bind, invoke]
  exact (congrArg (builtin b at_ o.type _) (by simp)).trans this
theorem builtin1' {b : Builtin} {S : Array TypeId → TypeId → Array Value → Sem Value} {x : Operand} {at_ : Array TypeId} (hb : ∀ at_ ty cs args, builtin b at_ ty cs args = vS (S at_ ty args))
    (ho : o.op = .call ⟨.builtin b, #[x], at_⟩) : ∀ ρ, execOp ρ o = vS (S at_ o.type #[ρ x]) := by
  intro ρ
  have := hb at_ o.type (#[x].map fun | .const _ => true | _ => false) #[ρ x]
  simp only [execOp, ho, resolve, pure_bind, invoke]
  exact (congrArg (builtin b at_ o.type _) (by simp)).trans this
theorem append_E (hG : G.Ok) {s t : TypeId} {x y : Operand} (ho : o.op = .call ⟨.builtin .append, #[x, y], #[s, t]⟩) : ESpec G.P nt o (cBuiltin G nt .append [s, t] [x, y]).f := by
  have he := builtin2 (S := Builtin.append_) (fun _ _ _ _ => rfl) ho
  have hx := call_operands ho (x := x) (by simp)
  have hy := call_operands ho (x := y) (by simp)
  show ESpec G.P nt o (match G.und s, G.und t with
    | some (.slice e), some d => (match G.info e, G.zero e with
      | some i, some z => if i.size = 0 ∨ i.bytes = 0 ∨ (cellsOf z).length ≠ i.size ∨ 140737488355328 < i.bytes * 65536 then no 131 else (match d with
        | .int _ => h2 nt x y fun v w h k => asN w fun n => guardB (Nat.ble (Nat.mul n i.size) 65536) 132 (appendV e i.size i.bytes v n (zrow (cellsOf z) n) h k)
        | .string | .slice _ => h2 nt x y fun v w h k => firstK h i.size w fun n l => appendV e i.size i.bytes v n l h k
        | _ => no 131)
      | _, _ => no 131)
    | _, _ => no 131).f
  split
  · rename_i e d hs ht
    split
    · rename_i i z hi hz
      split
      · exact no_E
      · rename_i hcond
        simp only [not_or, Classical.not_not, Nat.not_lt] at hcond
        obtain ⟨c1, c2, c3, c4⟩ := hcond
        obtain ⟨zv, hzv, rfl⟩ := info_zero hi hz
        have hzc : zv.cells.size = i.size := by
          have := (zero_cells (⟨fun _ => none, fun _ => none⟩ : Sg) zv).length
          simp at this; omega
        have gen : ∀ {F : AV → AV → AH → KV → Out}, (∀ a b h k r, F a b h k = r → r.ok → ∃ n new, appendV e i.size i.bytes a n new h k = r ∧ new.length = n * i.size ∧
            ∀ B σ y w, VR σ b y → HR B σ h w → ∃ us, VRs σ new us ∧ AppOk G.P t i zv y n us w) → ESpec G.P nt o (h2 nt x y F).f := by
          intro F hF
          refine m2_spec (S := fun a b => vS (Builtin.append_ #[s, t] o.type #[a, b])) ?_ he hx hy
          intro a b h k r eq ok B σ u v w hu hv hr
          obtain ⟨n, new, e1, hl, hA⟩ := hF a b h k r eq ok
          exact appendV_spec hG hs hi hzv c1 c2 hzc c4 e1 ok hl hu hr fun w' hr' => hA B σ v w' hv hr'
        have hut := und_ok hG ht
        split
        · rename_i kd
          refine gen fun a b h k r eq ok => ?_
          obtain ⟨kd', n, rfl, eq⟩ := asN_inv eq ok
          obtain ⟨hle, eq⟩ := guardB_inv eq ok
          have hle : n * i.size ≤ 65536 := Nat.le_of_ble_eq_true hle
          have hlen : ∀ n, (zrow (cellsOf (ofValue zv)) n).length = n * i.size := by
            intro n
            induction n with
            | zero => simp [zrow]
            | succ n ih => simp [zrow, ih, c3, Nat.succ_mul, Nat.add_comm]
          refine ⟨n, _, eq, hlen n, fun B σ y w hy _ => ?_⟩
          simp only [VR] at hy; subst hy
          have hzr := madeRow_R (σ := σ) (z := zv) (by omega) n
          rw [c3] at hzr
          have hzz : ((Array.range (n * i.size)).map (zv.cells[· % zv.cells.size]!)).toList = (Builtin.zeroCells zv.cells n).toList := by
            have : i.size = zv.cells.size := hzc.symm
            rw [this]; rfl
          rw [hzz] at hzr
          refine ⟨_, hzr, _, hut, by rw [← hzr.length, hlen], .inr ⟨⟨_, rfl⟩, ⟨kd', rfl⟩, ?_, by simp⟩⟩
          exact Nat.le_trans (Nat.le_mul_of_pos_right n (Nat.pos_of_ne_zero c1)) hle
        · refine gen fun a b h k r eq ok => ?_
          obtain ⟨n, l, eq, hl, hF⟩ := firstK_inv eq ok
          refine ⟨n, l, eq, hl, fun B σ y w hy hr => ?_⟩
          obtain ⟨g1, g2⟩ := hF B σ y w hy hr.toHR0
          obtain ⟨us, g3, g4⟩ := g2 n (Nat.le_refl _)
          have g4 : VRs σ l us := by rw [List.take_of_length_le (by omega)] at g4; exact g4
          exact ⟨us, g4, _, hut, by rw [← g4.length]; exact hl, .inl ⟨(fun _ h => by cases h), g1, g3⟩⟩
        · refine gen fun a b h k r eq ok => ?_
          obtain ⟨n, l, eq, hl, hF⟩ := firstK_inv eq ok
          refine ⟨n, l, eq, hl, fun B σ y w hy hr => ?_⟩
          obtain ⟨g1, g2⟩ := hF B σ y w hy hr.toHR0
          obtain ⟨us, g3, g4⟩ := g2 n (Nat.le_refl _)
          have g4 : VRs σ l us := by rw [List.take_of_length_le (by omega)] at g4; exact g4
          exact ⟨us, g4, _, hut, by rw [← g4.length]; exact hl, .inl ⟨(fun _ h => by cases h), g1, g3⟩⟩
        · exact no_E
    · exact no_E
  · exact no_E
theorem cBuiltin_E (hG : G.Ok) {b : Builtin} {args : Array Operand} {at_ : Array TypeId} (ho : o.op = .call ⟨.builtin b, args, at_⟩) : ESpec G.P nt o (cBuiltin G nt b at_.toList args.toList).f := by
  by_cases hb : b = .len ∨ b = .cap ∨ b = .min ∨ b = .max
  · exact (cBuiltin_R hG ho hb).e
  · obtain ⟨al, rfl⟩ : ∃ l, args = l.toArray := ⟨args.toList, by simp⟩
    obtain ⟨tl, rfl⟩ : ∃ l, at_ = l.toArray := ⟨at_.toList, by simp⟩
    simp only
    unfold cBuiltin
    split
    · exact absurd (.inl rfl) hb
    · exact absurd (.inr (.inl rfl)) hb
    · exact absurd (.inr (.inr (.inl rfl))) hb
    · exact absurd (.inr (.inr (.inr rfl))) hb
    · exact absurd (.inr (.inr (.inr rfl))) hb
    · exact append_E hG ho
    · rename_i s u x y
      have he := builtin2 (S := Builtin.copy_) (fun _ _ _ _ => rfl) ho
      have hx := call_operands ho (x := x) (by simp)
      have hy := call_operands ho (x := y) (by simp)
      split
      · rename_i e hu
        split
        · rename_i n hn; exact m2_spec (copy_spec hG hu hn) he hx hy
        · exact no_E
      · exact no_E
    · rename_i t u x y
      have he := builtin2 (S := Builtin.delete_) (fun _ _ _ _ => rfl) ho
      have hx := call_operands ho (x := x) (by simp)
      have hy := call_operands ho (x := y) (by simp)
      split
      · rename_i kt e hu
        split
        · rename_i q hq; exact m2_spec (delete_spec hG hu hq) he hx hy
        · exact no_E
      · exact no_E
    · rename_i t x
      have he := builtin1' (S := Builtin.clear_) (fun _ _ _ _ => rfl) ho
      have hx := call_operands ho (x := x) (by simp)
      split
      · rename_i e hu
        split
        · rename_i n z hn hz
          obtain ⟨zv, rfl, hzr⟩ := zero_ok hG hz
          refine m1_spec (S := fun x => vS (Builtin.clear_ #[t] o.type #[x])) ?_ he hx
          intro a h k r eq ok B σ x w hx hr
          exact clear_spec hG hu (.inl ⟨_, zv, rfl, rfl, hzr⟩) (fun _ => Nat.succ_pos _) eq ok hx (fun h => absurd rfl (h _)) hr
        · exact no_E
      · rename_i hu; exact m1_spec (clearM_spec hG hu) he hx
      · exact no_E
    · rename_i x
      have he := builtin1' (S := Builtin.unsafeSliceData_) (fun _ _ _ _ => rfl) ho
      have hx := call_operands ho (x := x) (by simp)
      exact (p1_spec (S := fun x => Builtin.unsafeSliceData_ tl.toArray o.type #[x]) sliceData_spec he hx).e
    · rename_i pt it x y
      have he := builtin2 (S := Builtin.unsafeString_) (fun _ _ _ _ => rfl) ho
      have hx := call_operands ho (x := x) (by simp)
      have hy := call_operands ho (x := y) (by simp)
      split
      · rename_i u hu
        split
        · rename_i hs; exact m2_spec (unsafeStr_spec hG hu hs) he hx hy
        · exact no_E
      · exact no_E
    · exact no_E
def plainOp (o : Oper) : Bool :=
  match o.op with
  | .call c => (match c.callee with | .builtin .recover => false | .builtin _ => true | _ => false)
  | .defer _ => false
  | _ => true
theorem cOp_E (hG : G.Ok) (hp : plainOp o = true) : ESpec G.P nt o (cOp G nt rnd o).f := by
  by_cases hr : reads G o = true
  · exact (cOp_R hG hr).e
  · cases hop : o.op <;> simp only [plainOp, hop, Bool.false_eq_true] at hp <;> simp only [reads, hop, not_true_eq_false] at hr
    case assign x =>
      have := (move_R (P := G.P) (nt := nt) (o := o) (x := x) (fun ρ => by simp only [execOp, hop]) (by rw [hop]; simp [Op.operands])).e
      simpa only [cOp, hop] using this
    case alloc e =>
      simp only [cOp, hop]
      split
      · rename_i z hz
        rw [forceL_eq]
        intro s tr h k r eq ok B σ tm w _ hr
        have := alloc_spec hG hz eq ok hr
        simpa [execOp, hop, vS] using this
      · exact no_E
    case box e x =>
      have he : ∀ ρ, execOp ρ o = vS (Instr.box e (ρ x)) := fun ρ => by simp only [execOp, hop, vS]
      simpa only [cOp, hop] using m1_spec (nt := nt) (P := G.P) box_spec he (by rw [hop]; simp [Op.operands])
    case buildSlice t n ps => simpa only [cOp, hop] using buildSlice_spec (nt := nt) hG hop
    case store t a x =>
      have he : ∀ ρ, execOp ρ o = uS (Instr.storeAt t (ρ a) (ρ x)) := fun ρ => by simp only [execOp, hop, uS]
      have ha : a ∈ o.op.operands := by rw [hop]; simp [Op.operands]
      have hx : x ∈ o.op.operands := by rw [hop]; simp [Op.operands]
      have : ESpec G.P nt o (cStore G nt t a x).f := by
        unfold cStore
        split
        · rename_i h1 h2; exact m2_spec (storeOne_spec hG h2) he ha hx
        · rename_i n h1 h2; exact m2_spec (storeAgg_spec hG h2) he ha hx
        · exact no_E
      simpa only [cOp, hop] using this
    case convert src dst x =>
      have he : ∀ ρ, execOp ρ o = vS (convert src dst (ρ x)) := fun ρ => by simp only [execOp, hop, vS]
      have hx : x ∈ o.op.operands := by rw [hop]; simp [Op.operands]
      have : ESpec G.P nt o (cConv G nt src dst x).f := by
        unfold cConv
        split
        · rename_i k0 k hs hd; exact (p1_spec (intConv_spec hG hs hd) he hx).e
        · rename_i k0 k hs hd; exact (h1_spec (intToFltS_spec hG beq_eq hs hd) he hx).e
        · rename_i k0 k hs hd; exact (p1_spec (fltToInt_spec hG hs hd) he hx).e
        · rename_i k0 hs hd; exact (p1_spec (intToStr_spec hG hs hd) he hx).e
        · rename_i hs hd; exact (p1_spec (strId_spec hG hs hd) he hx).e
        · rename_i e hs hd
          split
          · rename_i hu; exact m1_spec (strToBytes_spec hG hs hd hu) he hx
          · exact no_E
        · rename_i e hs hd
          split
          · rename_i hu; exact (h1_spec (bytesToStr_spec hG hs hd hu) he hx).e
          · exact no_E
        · rename_i e' e hs hd
          split
          · rename_i hu
            split
            · rename_i hsd
              have hsd : src = dst := by simpa using hsd
              subst hsd
              exact m1_spec (markV_spec hG hd hu) he hx
            · exact no_E
          · exact no_E
        · rename_i t hs hd
          split
          · rename_i n hn; exact (h1_spec (ptrUnsafe_spec hG hs hd hn) he hx).e
          · exact no_E
        · rename_i u hs hd
          split
          · rename_i n hn; exact (h1_spec (unsafePtr_spec hG hs hd hn) he hx).e
          · exact no_E
        · exact no_E
      simpa only [cOp, hop] using this
    case makeMap t hint =>
      cases hint with
      | none =>
        have : ESpec G.P nt o (⟨fun _ _ h k => hnew h (.amap [] 0) fun b h' => k (.map b) h'⟩ : Box OpF).f := by
          intro s tr h k r eq ok B σ tm w _ hr
          have := makeMap_spec (t := t) (hint := none) hG (fun v hv => by cases hv) eq ok hr
          simpa [execOp, hop, vS] using this
        simpa only [cOp, hop] using this
      | some x =>
        have hx : x ∈ o.op.operands := by rw [hop]; simp [Op.operands]
        have he : ∀ ρ, execOp ρ o = vS (Instr.makeMap t (some (ρ x))) := fun ρ => by simp only [execOp, hop, vS, Option.map_some]
        simp only [cOp, hop]
        split
        · rename_i kt e hu
          refine m1_spec (S := fun x => vS (Instr.makeMap t (some x))) ?_ he hx
          intro a h k r eq ok B σ x w hx hr
          obtain ⟨kd, n, rfl, eq⟩ := asI_inv eq ok
          simp only [VR] at hx
          exact makeMap_spec hG (fun v hv => by cases hv; exact ⟨_, _, hu, kd, n, hx⟩) eq ok hr
        · exact no_E
    case makeSlice t l c =>
      have he : ∀ ρ, execOp ρ o = vS (Instr.makeSlice t (ρ l) (ρ c)) := fun ρ => by simp only [execOp, hop, vS]
      have hl : l ∈ o.op.operands := by rw [hop]; simp [Op.operands]
      have hc : c ∈ o.op.operands := by rw [hop]; simp [Op.operands]
      have : ESpec G.P nt o (cMakeSlice G nt t l c).f := by
        unfold cMakeSlice
        split
        · rename_i e hu
          split
          · rename_i i z hi hz
            split
            · rename_i hcond; exact m2_spec (makeSlice_spec hG hu hi hz hcond.1 hcond.2.1 hcond.2.2) he hl hc
            · exact no_E
          · exact no_E
        · exact no_E
      simpa only [cOp, hop] using this
    case mapUpdate t m i x =>
      have he : ∀ ρ, execOp ρ o = uS (Instr.mapUpdate t (ρ m) (ρ i) (ρ x)) := fun ρ => by simp only [execOp, hop, uS]
      have : ESpec G.P nt o (cUpdate G nt t m i x).f := by
        unfold cUpdate
        split
        · rename_i kt e hu
          split
          · rename_i q hq
            exact m3_spec (S := fun a b c => uS (Instr.mapUpdate t a b c)) (fun a b c h k r eq ok B σ x y z w hx hy hz hr => update_spec hG hu hq eq ok hx hy hz hr) he (by rw [hop]; simp [Op.operands]) (by rw [hop]; simp [Op.operands]) (by rw [hop]; simp [Op.operands])
          · exact no_E
        · exact no_E
      simpa only [cOp, hop] using this
    case insert t m i x =>
      have he : ∀ ρ, execOp ρ o = uS (Instr.mapUpdate t (ρ m) (ρ i) (ρ x)) := fun ρ => by simp only [execOp, hop, uS]
      have : ESpec G.P nt o (cUpdate G nt t m i x).f := by
        unfold cUpdate
        split
        · rename_i kt e hu
          split
          · rename_i q hq
            exact m3_spec (S := fun a b c => uS (Instr.mapUpdate t a b c)) (fun a b c h k r eq ok B σ x y z w hx hy hz hr => update_spec hG hu hq eq ok hx hy hz hr) he (by rw [hop]; simp [Op.operands]) (by rw [hop]; simp [Op.operands]) (by rw [hop]; simp [Op.operands])
          · exact no_E
        · exact no_E
      simpa only [cOp, hop] using this
    case range t x =>
      have he : ∀ ρ, execOp ρ o = vS (Instr.range t (ρ x)) := fun ρ => by simp only [execOp, hop, vS]
      have hx : x ∈ o.op.operands := by rw [hop]; simp [Op.operands]
      simp only [cOp, hop]
      split
      · rename_i hu; exact m1_spec (rangeS_spec hG hu) he hx
      · rename_i hu; exact m1_spec (rangeM_spec hG hu) he hx
      · exact no_E
    case next x isS =>
      have hx : x ∈ o.op.operands := by rw [hop]; simp [Op.operands]
      cases isS with
      | false =>
        have he : ∀ ρ, execOp ρ o = vS (Instr.next (ρ x) false o.type) := fun ρ => by simp only [execOp, hop, vS]
        simpa only [cOp, hop] using m1_spec (nt := nt) (P := G.P) (nextMap_spec o.type) he hx
      | true =>
        have he : ∀ ρ, execOp ρ o = vS (Instr.next (ρ x) true o.type) := fun ρ => by simp only [execOp, hop, vS]
        simpa only [cOp, hop] using m1_spec (nt := nt) (P := G.P) (nextStr_spec o.type) he hx
    case entry x =>
      have he : ∀ ρ, execOp ρ o = vS (Instr.entry (ρ x)) := fun ρ => by simp only [execOp, hop, vS]
      simpa only [cOp, hop] using m1_spec (nt := nt) (P := G.P) entry_spec he (by rw [hop]; simp [Op.operands])
    case typeAssert x xt t ok' =>
      have he : ∀ ρ, execOp ρ o = (do pure (.value (← Instr.typeAssert (ρ x) xt t ok')) : Sem Next) := fun ρ => by simp only [execOp, hop]
      have hx : x ∈ o.op.operands := by rw [hop]; simp [Op.operands]
      have : ESpec G.P nt o (cAssert G nt x t ok').f := by
        unfold cAssert
        split
        · rename_i ms z hu hz; rw [forceV_eq]; exact (p1_spec (assertNil_spec hG ok' hu hz) he hx).e
        · rename_i d z hn hu hz; rw [forceV_eq]; exact (p1_spec (assert_spec hG ok' hu (fun ms h => hn ms h) hz) he hx).e
        · exact no_E
      simpa only [cOp, hop] using this
    case call c =>
      obtain ⟨callee, args, at_⟩ := c
      cases callee with
      | builtin b =>
        have := cBuiltin_E (nt := nt) hG hop
        have hcc : cOp G nt rnd o = cBuiltin G nt b at_.toList args.toList := by
          simp only [cOp, hop, cCall]
          cases b <;> first | rfl | (simp at hp)
        rw [hcc]; exact this
      | _ => simp at hp
    all_goals first
      | exact absurd rfl hr
      | (simpa only [cOp, hop] using no_E)
end
end
end Go.Ev
