/-
  The walk of turnpikelaw19's row: frames of messages, one behind the other.
-/
import Derived.Test.YtbhjcfhpabnadaaFP
import Derived.Deep.DeepAppendWide
namespace Go.Proofs.Ytbhjcfhpabnadaa
open Go.RowKit

section
variable {P : Program}

theorem run_appW (w : World) (base t ty e : Nat) (size bytes : Nat) (el : Elem P t e size bytes) (A : Option Addr) (n c : Nat) (xs : List Value) (hown : Own w base e size A n c xs)
    (B : Nat) (S : Option Addr) (m k : Nat) (news : List Value) (hr : Rd w B S news) (hl : news.length = m * size) (h1 : ∀ u ∈ news, u.oneCell' = true)
    (hbytes : ((n + m) + (n + m) / 4 + 192) * bytes ≤ 281474976710656) (h63 : n + m ≤ maxLen) (hbase : base ≤ w.heap.size) :
    ∃ A' c' w', (Builtin.append_ #[t, t] ty #[.slice A n c, .slice S m k]).run P w = .ok (.slice A' (n + m) c') w' ∧ Own w' base e size A' (n + m) c' (xs ++ news) ∧ w.grownBy w' (blk A) := by
  obtain ⟨i, z, hi, hz, hs, hb, hzs⟩ := el.inf
  rcases S with _ | ad
  · have hn : news = [] := by
      cases news with
      | nil => rfl
      | cons u us =>
        obtain ⟨a, h, _⟩ := hr 0 u rfl
        cases h
    subst hn
    have hm : m = 0 := by
      rcases Nat.eq_zero_or_pos m with h0 | h0
      · exact h0
      · have := Nat.mul_pos h0 el.pos
        simp at hl
        omega
    subst hm
    exact ⟨A, c, w, run_app_none w base t ty e size bytes el A n c xs hown k, by simpa [Own] using hown, World.grownBy.refl w _⟩
  · obtain ⟨v', w', hrun, h2, h3, _⟩ := run_append_own_wide (P := P) w base t ty e i z size bytes el.und hi hz hs hb hzs el.pos (.slice A n c) n xs hown ad m k news hl
      (fun j u hu => by obtain ⟨a, h, _, hc⟩ := hr j u hu; injection h with h; subst h; exact hc) h1 h63 hbytes hbase
    rcases h2.2 with ⟨rfl, h0⟩ | ⟨g, cap, cur, rfl, rest⟩
    · refine ⟨none, 0, w', by rw [hrun, h0], ?_, by rw [← hown.blk_eq]; exact h3⟩
      simp only [Own, h0]
      exact h0 ▸ h2
    · exact ⟨some ⟨g, 0, none⟩, cap, w', hrun, h2, by rw [← hown.blk_eq]; exact h3⟩

/-- append as the walk meets it, under the wide bound. -/
theorem wpList_appW {w : World} {ops : Array Oper} {rest : List Oper} {o : Oper} {a : Act} {Q : Exit → Act → World → Prop} (hgd : o.guard = none) (s x : Operand) (t : TypeId)
    (ho : o.op = .call { callee := .builtin .append, args := #[s, x], argTypes := #[t, t] })
    (base e size bytes : Nat) (el : Elem P t e size bytes) (A : Option Addr) (n c : Nat) (xs : List Value) (hs : a.eval s = .slice A n c) (hown : Own w base e size A n c xs)
    (B : Nat) (S : Option Addr) (m k : Nat) (news : List Value) (hx : a.eval x = .slice S m k) (hr : Rd w B S news) (hl : news.length = m * size) (h1 : ∀ u ∈ news, u.oneCell' = true)
    (N : Nat) (zs : List Value) (hN : n + m = N) (hzs : xs ++ news = zs)
    (hbytes : (N + N / 4 + 192) * bytes ≤ 281474976710656) (h63 : N ≤ maxLen) (hbase : base ≤ w.heap.size)
    (h : ∀ A' c' w', Own w' base e size A' N c' zs → w.grownBy w' (blk A) → wpList P ops Q rest (a.put o.dst (.slice A' N c')) w') : wpList P ops Q (o :: rest) a w := by
  subst hN hzs
  refine wpList_plain hgd fun K hK => ?_
  obtain ⟨A', c', w', hrun, h2, h3⟩ := run_appW (P := P) w base t o.type e size bytes el A n c xs hown B S m k news hr hl h1 hbytes h63 hbase
  unfold Oper.wp execOp
  simp only [ho, resolve, invoke, builtin, Sem.run_bind, Sem.run_pure, Result.andThen_ok, List.map_toArray, List.map_cons, List.map_nil, hs, hx, hrun]
  exact hK _ _ (h A' c' w' h2 h3)

/-- append of values that the statement has just laid, under the wide bound. -/
theorem wpList_app_newW {w0 : World} {ops : Array Oper} {rest : List Oper} {o : Oper} {a : Act} {Q : Exit → Act → World → Prop} (hgd : o.guard = none) (s x : Operand) (t : TypeId)
    (ho : o.op = .call { callee := .builtin .append, args := #[s, x], argTypes := #[t, t] })
    (base e size bytes : Nat) (el : Elem P t e size bytes) (A : Option Addr) (n c : Nat) (xs : List Value) (hs : a.eval s = .slice A n c) (hown : Own w0 base e size A n c xs)
    (cs : Array Value) (g m k : Nat) (hg : g = w0.heap.size) (hx : a.eval x = .slice (some ⟨g, 0, none⟩) m k) (hl : cs.size = m * size) (h1 : ∀ u ∈ cs.toList, u.oneCell' = true)
    (N : Nat) (zs : List Value) (hN : n + m = N) (hzs : xs ++ cs.toList = zs)
    (hbytes : (N + N / 4 + 192) * bytes ≤ 281474976710656) (h63 : N ≤ maxLen) (hbase : base ≤ w0.heap.size)
    (h : ∀ A' c' w', Own w' base e size A' N c' zs → w0.grownBy w' (blk A) → wpList P ops Q rest (a.put o.dst (.slice A' N c')) w') : wpList P ops Q (o :: rest) a (w0.alloc (.cells cs e)) := by
  subst hg
  refine wpList_appW hgd s x t ho base e size bytes el A n c xs hs (hown.alloc _) (w0.heap.size + 1) _ m k cs.toList hx ?_ (by simpa using hl) h1 N zs hN hzs hbytes h63 (by simp; omega) ?_
  · intro j u hu
    refine ⟨_, rfl, by simp, ?_⟩
    rw [Addr.add_lit, Nat.zero_add, World.cell?_alloc_new]
    simpa using hu
  · intro A' c' w' h2 h3
    exact h A' c' w' h2 ((World.grownBy_alloc w0 _ _).trans h3)
end

attribute [local go_sem] drewN_setCell drewN_alloc World.drewN_drewN

/-- The messages that may be, each behind its payload, plain. -/
def rowP (ms : List Msg) : List (List UInt8 × Msg) := ms.filterMap fun m => (payM m).map fun p => (p, plainM m)
theorem rowP_ok (ms : List Msg) : ∀ x ∈ rowP ms, x.1.length ≤ 131072 ∧ msgS x.1 = some x.2 := by
  intro x hx
  simp only [rowP, List.mem_filterMap, Option.map_eq_some_iff] at hx
  obtain ⟨m, _, p, hp, rfl⟩ := hx
  exact ⟨paySpec_len hp, msgS_pay hp⟩
theorem rowP_len (ms : List Msg) : (rowP ms).length ≤ ms.length := List.length_filterMap_le _ _
theorem rowP_some {ms : List Msg} {m : Msg} {p : List UInt8} (h : payM m = some p) : rowP (ms ++ [m]) = rowP ms ++ [(p, plainM m)] := by
  simp [rowP, h]
theorem rowP_none {ms : List Msg} {m : Msg} (h : payM m = none) : rowP (ms ++ [m]) = rowP ms := by
  simp [rowP, h]
/-- The bytes of such a row; its messages; the place behind each frame. -/
def rowB (P : List (List UInt8 × Msg)) : List UInt8 := catF (P.map (·.1))
def rowM (P : List (List UInt8 × Msg)) : List Msg := P.map (·.2)
def rowL (P : List (List UInt8 × Msg)) : List Value := (List.range P.length).map fun k => Value.int .i64 ((rowB (P.take (k + 1))).length : Int)
theorem rowB_snoc (P : List (List UInt8 × Msg)) (p : List UInt8) (m : Msg) : rowB (P ++ [(p, m)]) = rowB P ++ frame p := by
  unfold rowB
  rw [List.map_append, List.map_cons, List.map_nil, catF_snoc]
theorem rowM_snoc (P : List (List UInt8 × Msg)) (p : List UInt8) (m : Msg) : rowM (P ++ [(p, m)]) = rowM P ++ [m] := by simp [rowM]
theorem rowM_len (P : List (List UInt8 × Msg)) : (rowM P).length = P.length := by simp [rowM]
theorem rowL_len (P : List (List UInt8 × Msg)) : (rowL P).length = P.length := by simp [rowL]
theorem rowL_snoc (P : List (List UInt8 × Msg)) (x : List UInt8 × Msg) {N : Nat} (hN : N = (rowB (P ++ [x])).length) : rowL (P ++ [x]) = rowL P ++ [.int .i64 (N : Int)] := by
  subst hN
  unfold rowL
  rw [List.length_append, List.length_singleton, List.range_succ, List.map_append]
  congr 1
  · refine List.map_congr_left fun k hk => ?_
    have := List.mem_range.1 hk
    rw [List.take_append_of_le_length (by omega)]
  · simp only [List.map_cons, List.map_nil]
    rw [List.take_of_length_le (by simp)]
theorem rowL_get (P : List (List UInt8 × Msg)) {k : Nat} (h : k < P.length) : (rowL P)[k]? = some (.int .i64 ((rowB (P.take (k + 1))).length : Int)) := by
  simp [rowL, h]
theorem rowB_bound : ∀ (P : List (List UInt8 × Msg)), (∀ x ∈ P, x.1.length ≤ 131072) → (rowB P).length ≤ 131080 * P.length
  | [], _ => by simp [rowB, catF]
  | (p, m) :: P, h => by
    have ih := rowB_bound P fun x hx => h x (by simp [hx])
    have h0 := h (p, m) (by simp)
    simp only [rowB, List.map_cons, catF_cons, List.length_append, frame_len, List.length_cons] at ih ⊢
    simp only at h0
    omega

/-- What row leaves. -/
def RowAt (w wr : World) (P : List (List UInt8 × Msg)) (M q : Nat) (Ab : Option Addr) (cb : Nat) (O : Option Addr) (co : Nat) (Pl : Option Addr) (cp : Nat) : Prop :=
  M = (rowB P).length ∧ q = P.length ∧ Own wr w.heap.size 5 1 Ab M cb (bv (rowB P)) ∧ Own wr w.heap.size 60 7 O q co (mv (rowM P)) ∧ Own wr w.heap.size 3 1 Pl q cp (rowL P) ∧ Below w.heap.size w wr
def RowOut (w : World) (P : List (List UInt8 × Msg)) (M q : Nat) (e : Ending) (w' : World) : Prop :=
  ∃ Ab cb O co Pl cp, e = .returned (.tuple #[.slice Ab M cb, .slice O q co, .slice Pl q cp]) ∧ RowAt w w' P M q Ab cb O co Pl cp

/-- A message among the cells of a list that is read. -/
theorem Rd.msg {w : World} {B k : Nat} {A : Option Addr} {l : List Msg} {kd ve fr no er : Int} {nm tx : ByteArray} (h : Rd w B A (mv l)) (hm : l[k]? = some ⟨kd, nm, ve, fr, no, er, tx⟩) : ∃ g o, A = some ⟨g, o, none⟩ ∧ g < B ∧
    w.cell? ⟨g, o + k * 7, none⟩ = some (.int .i64 kd) ∧ w.cell? ⟨g, o + k * 7 + 1, none⟩ = some (.string nm) ∧ w.cell? ⟨g, o + k * 7 + 2, none⟩ = some (.int .i64 ve) ∧ w.cell? ⟨g, o + k * 7 + 3, none⟩ = some (.int .i64 fr) ∧
    w.cell? ⟨g, o + k * 7 + 4, none⟩ = some (.int .i64 no) ∧ w.cell? ⟨g, o + k * 7 + 5, none⟩ = some (.int .i64 er) ∧ w.cell? ⟨g, o + k * 7 + 6, none⟩ = some (.string tx) := by
  have at_ : ∀ j v, j < 7 → (msgC ⟨kd, nm, ve, fr, no, er, tx⟩)[j]? = some v → ∃ a, A = some a ∧ a.block < B ∧ w.cell? (a.add (k * 7 + j)) = some v := fun j v hj hv => h (k * 7 + j) v ((mv_get l k j _ hm hj).trans hv)
  obtain ⟨a, rfl, hb, h0⟩ := at_ 0 _ (by omega) rfl
  have hl : 0 < (mv l).length := by
    have := (List.getElem?_eq_some_iff.1 hm).1
    rw [mv_len]
    omega
  obtain ⟨a0, e0, _, hc0⟩ := h 0 _ (List.getElem?_eq_getElem hl)
  obtain rfl := Option.some.inj e0
  have hsp := World.cell?_spot hc0
  obtain ⟨g, o, sp⟩ := a
  have hsp0 : sp = none := by simpa [Addr.add] using hsp
  subst hsp0
  have at2 : ∀ j v, j < 7 → (msgC ⟨kd, nm, ve, fr, no, er, tx⟩)[j]? = some v → w.cell? ⟨g, o + k * 7 + j, none⟩ = some v := fun j v hj hv => by
    obtain ⟨a, ha, _, hc⟩ := at_ j v hj hv
    obtain rfl := Option.some.inj ha
    rw [Addr.add_lit, ← Nat.add_assoc] at hc
    exact hc
  exact ⟨g, o, rfl, hb, at2 0 _ (by omega) rfl, at2 1 _ (by omega) rfl, at2 2 _ (by omega) rfl, at2 3 _ (by omega) rfl, at2 4 _ (by omega) rfl, at2 5 _ (by omega) rfl, at2 6 _ (by omega) rfl⟩

theorem encN {m : Msg} {kd ve fr no er : Int} {nm tx : ByteArray} (hme : m = ⟨kd, nm, ve, fr, no, er, tx⟩) (h : payM m = none) (w : World) :
    Calls Try.prog 33 #[.agg #[.int .i64 kd, .string nm, .int .i64 ve, .int .i64 fr, .int .i64 no, .int .i64 er, .string tx]] w fun e w' => (∃ A c, e = .returned (.tuple #[.slice A 0 c, .int .i64 2])) ∧ Below w.heap.size w w' := by
  subst hme
  refine (enc33 h w).mono ?_
  rintro e w' ⟨A, c, he, _, hb⟩
  exact ⟨⟨A, c, he⟩, hb⟩
theorem encS {m : Msg} {p : List UInt8} {kd ve fr no er : Int} {nm tx : ByteArray} (hme : m = ⟨kd, nm, ve, fr, no, er, tx⟩) (h : payM m = some p) {f : Nat} (hf : f = 8 + p.length) (w : World) :
    Calls Try.prog 33 #[.agg #[.int .i64 kd, .string nm, .int .i64 ve, .int .i64 fr, .int .i64 no, .int .i64 er, .string tx]] w fun e w' => ∃ A c, e = .returned (.tuple #[.slice A f c, .int .i64 0]) ∧ Own w' w.heap.size 5 1 A f c (bv (frame p)) ∧ Below w.heap.size w w' := by
  subst hme hf
  refine (enc33 h w).mono ?_
  rintro e w' ⟨A, c, he, ho, hb⟩
  simp only [encF, encE, frame_len] at he ho
  exact ⟨A, c, he, ho, hb⟩
theorem plainS {m : Msg} {kd ve fr no er kd' ve' fr' no' er' : Int} {nm tx nm' tx' : ByteArray} (hme : m = ⟨kd, nm, ve, fr, no, er, tx⟩) (hpl : plainM m = ⟨kd', nm', ve', fr', no', er', tx'⟩) (w : World) :
    Calls Try.prog 48 #[.agg #[.int .i64 kd, .string nm, .int .i64 ve, .int .i64 fr, .int .i64 no, .int .i64 er, .string tx]] w fun e w' => e = .returned (.agg #[.int .i64 kd', .string nm', .int .i64 ve', .int .i64 fr', .int .i64 no', .int .i64 er', .string tx']) ∧ Below w.heap.size w w' := by
  subst hme
  have := plain48_any ⟨kd, nm, ve, fr, no, er, tx⟩ w
  rw [hpl] at this
  exact this

set_option maxRecDepth 100000 in
set_option maxHeartbeats 2000000 in
theorem row49_wide (ms : List Msg) (n : Nat) (hn : n = ms.length) (A : Option Addr) (c B : Nat) (w : World) (hm : Rd w B A (mv ms)) (hB : B ≤ w.heap.size) (hl : n ≤ 1954687338211) (hL : ∀ t, (rowB (rowP (ms.take t))).length ≤ 180000000000000) :
    Calls Try.prog 49 #[.slice A n c] w (fun e w' => ∃ M q, RowOut w (rowP ms) M q e w') := by
  have HN := Lib.hid hn
  have HM := Lib.hid hm
  have HL := Lib.hid hL
  clear hn hm hL
  go_enter Try.func49, Try.ntmps49
  go_wp2
  go_loopw [5, 6, 7, 8] (fun b o p i wr => ∃ (t M q : Nat) (Ab : Option Addr) (cb : Nat) (O : Option Addr) (co : Nat) (Pl : Option Addr) (cp : Nat), t ≤ n ∧ b = .slice Ab M cb ∧ o = .slice O q co ∧ p = .slice Pl q cp ∧ i = .int .i64 t ∧ Hid (RowAt w wr (rowP (ms.take t)) M q Ab cb O co Pl cp)) (fun _ _ _ i _ => n - (intOf i).toNat)
  case atStart => exact ⟨0, 0, 0, none, 0, none, 0, none, 0, Nat.zero_le _, rfl, rfl, rfl, rfl, ⟨rfl, rfl, Own.nil_ _ _ _ _, Own.nil_ _ _ _ _, Own.nil_ _ _ _ _, Below.refl _ _⟩⟩
  case round =>
    obtain ⟨t, M, q, Ab, cb, O, co, Pl, cp, ht, rfl, rfl, rfl, rfl, H⟩ := hrel
    by_cases hlt : t < n
    · obtain ⟨h1, h2, hb, ho, hp, hbel⟩ := H.out
      have hlt2 : t < ms.length := by rw [← HN.out]; exact hlt
      obtain ⟨m, hme⟩ : ∃ m, m = ms[t] := ⟨_, rfl⟩
      have hget : ms[t]? = some m := by rw [hme]; exact List.getElem?_eq_getElem hlt2
      have htk : ms.take (t + 1) = ms.take t ++ [m] := by rw [List.take_succ_eq_append_getElem hlt2, hme]
      obtain ⟨kd, nm, ve, fr, no, er, tx⟩ := m
      have hqt : q ≤ t := by have := rowP_len (ms.take t); rw [List.length_take] at this; omega
      have hMb : M ≤ 180000000000000 := by rw [h1]; exact HL.out t
      have hsz := hbel.size
      obtain ⟨g, og, rfl, hg, x0, x1, x2, x3, x4, x5, x6⟩ := (HM.out.below (hbel.mono hB)).msg hget
      have HX := Lib.hid (fun (W : World) (hW : Below w.heap.size w W) => (HM.out.below (hW.mono hB)).msg hget)
      have HB := Lib.hid hbel
      have HR := Lib.hid (And.intro h1 h2)
      have HT := Lib.hid htk
      clear hme hget htk h1 h2 hbel
      cases hpay : payM ⟨kd, nm, ve, fr, no, er, tx⟩ with
      | none =>
        have HE := Lib.hid (fun W => encN rfl hpay W)
        have HP := Lib.hid (rowP_none (ms := ms.take t) hpay)
        clear hpay hb ho hp
        go_wp2_with (first
          | (go_at_call 34; go_loud (refine (own_any kd nm tx ve fr no er _).mono ?_); rintro e w2 ⟨rfl, b2⟩)
          | (go_at_call 33; go_loud (refine (HE.out w2).mono ?_); rintro e w3 ⟨⟨A3, c3, rfl⟩, b3⟩; have b23 := b2.trans (b3.mono b2.size); clear b2 b3)
          | fail)
        go_roundw
        case rel =>
          refine ⟨t + 1, M, q, Ab, cb, O, co, Pl, cp, by omega, rfl, rfl, rfl, by go_num, ?_⟩
          obtain ⟨h1, h2, hb, ho, hp, hbel⟩ := H.out
          rw [HT.out, HP.out]
          exact ⟨h1, h2, hb.below b23 (Nat.le_refl _), ho.below b23 (Nat.le_refl _), hp.below b23 (Nat.le_refl _), hbel.trans (b23.mono hbel.size)⟩
        case measure => simp [intOf]; omega
      | some p =>
        obtain ⟨f, hf⟩ : ∃ f, f = 8 + p.length := ⟨_, rfl⟩
        have hpl := paySpec_len hpay
        have hfb : f ≤ 131080 := by omega
        obtain ⟨pm, hpm⟩ : ∃ pm, pm = plainM ⟨kd, nm, ve, fr, no, er, tx⟩ := ⟨_, rfl⟩
        obtain ⟨kd', nm', ve', fr', no', er', tx'⟩ := pm
        have HE := Lib.hid (fun W => encS rfl hpay hf W)
        have HPL := Lib.hid (fun W => plainS (m := ⟨kd, nm, ve, fr, no, er, tx⟩) rfl hpm.symm W)
        have HP := Lib.hid (show rowP (ms.take (t + 1)) = rowP (ms.take t) ++ [(p, ⟨kd', nm', ve', fr', no', er', tx'⟩)] by rw [HT.out, rowP_some hpay, hpm])
        have HF := Lib.hid (show f = (frame p).length by rw [frame_len, hf])
        have HM2 := Lib.hid (show M + f = (rowB (rowP (ms.take t) ++ [(p, ⟨kd', nm', ve', fr', no', er', tx'⟩)])).length by rw [rowB_snoc, List.length_append, ← HF.out, ← HR.out.1])
        obtain ⟨Mf, hMf⟩ : ∃ Mf, Mf = M + f := ⟨_, rfl⟩
        have hMfI : (M : Int) + (f : Int) = (Mf : Int) := by omega
        have HMf := Lib.hid hMf
        have hMfb : Mf ≤ 180000000000000 := by rw [hMf, HM2.out, ← HP.out]; exact HL.out (t + 1)
        have tok1 : True := trivial
        have tok2 : True := trivial
        have tok3 : True := trivial
        clear hpay hf hpl hpm hMf
        go_wp2_with (first
          | (go_at_call 34; have _t := tok1; go_loud (refine (own_any kd nm tx ve fr no er _).mono ?_); rintro e w2 ⟨rfl, b2⟩; clear tok1 _t)
          | (go_at_call 33; go_loud (refine (HE.out w2).mono ?_); rintro e w3 ⟨A3, c3, rfl, h3, b3⟩; have b23 := b2.trans (b3.mono b2.size); have hb3 := hb.below b23 (Nat.le_refl _); have ho3 := ho.below b23 (Nat.le_refl _); have hp3 := hp.below b23 (Nat.le_refl _); have d3 := HB.out.trans (b23.mono hsz); clear b2 b3 b23 hb ho hp)
          | (at_builtin; have _t := tok2; go_loud (refine wpList_appW rfl (.tmp 28) (.tmp 29) 22 rfl w.heap.size 5 1 1 Try.el22 Ab M cb (bv (rowB (rowP (ms.take t)))) rfl hb3 w3.heap.size A3 f c3 (bv (frame p)) rfl h3.rd (by rw [bv_length, ← HF.out, Nat.mul_one]) (bv_one _) Mf (bv (rowB (rowP (ms.take t) ++ [(p, ⟨kd', nm', ve', fr', no', er', tx'⟩)]))) HMf.out.symm (by rw [rowB_snoc, bv_append]) (by omega) (by unfold maxLen; omega) d3.size ?_); intro A4 c4 w4 h4 hg4; have d4 := below_own d3 hg4 hb3 d3.size; have ho4 := ho3.other hb3 (by decide) hg4; have hp4 := hp3.other hb3 (by decide) hg4; obtain ⟨g', og', hgg, _, z0, z1, z2, z3, z4, z5, z6⟩ := HX.out w4 d4; injection hgg with hgg; injection hgg with hgg1 hgg2; subst hgg1 hgg2; clear hg4 hb3 ho3 hp3 h3 tok2 _t)
          | (go_at_call 34; go_loud (refine (own_any kd nm tx ve fr no er _).mono ?_); rintro e w5 ⟨rfl, b5⟩)
          | (go_at_call 48; go_loud (refine (HPL.out w5).mono ?_); rintro e w6 ⟨rfl, b6⟩; have b46 := b5.trans (b6.mono b5.size); have hb6 := h4.below b46 (Nat.le_refl _); have ho6 := ho4.below b46 (Nat.le_refl _); have hp6 := hp4.below b46 (Nat.le_refl _); have d6 := d4.trans (b46.mono d4.size); clear b5 b6 b46 h4 ho4 hp4)
          | (at_builtin; have _t := tok3; go_loud (refine wpList_app_new rfl (.tmp 31) (.tmp 38) 75 rfl w.heap.size 60 7 72 Try.el75 O q co (mv (rowM (rowP (ms.take t)))) rfl ho6 #[.int .i64 kd', .string nm', .int .i64 ve', .int .i64 fr', .int .i64 no', .int .i64 er', .string tx'] w6.heap.size 1 1 rfl rfl rfl (msgC_one ⟨kd', nm', ve', fr', no', er', tx'⟩) (q + 1) (mv (rowM (rowP (ms.take t) ++ [(p, ⟨kd', nm', ve', fr', no', er', tx'⟩)]))) rfl (by rw [rowM_snoc, mv_snoc]; rfl) (by omega) (by unfold maxLen; omega) d6.size ?_); intro O7 co7 w7 h7 hg7 hat7; have d7 := below_own d6 hg7 ho6 d6.size; have hb7 := hb6.other ho6 (by decide) hg7; have hp7 := hp6.other ho6 (by decide) hg7; clear hg7 hat7 hb6 ho6 hp6 tok3 _t)
          | (at_builtin; go_loud (refine wpList_app_new rfl (.tmp 40) (.tmp 43) 36 rfl w.heap.size 3 1 8 Try.el36 Pl q cp (rowL (rowP (ms.take t))) rfl hp7 #[.int .i64 (Mf : Int)] w7.heap.size 1 1 rfl rfl rfl (by simp [Value.oneCell']) (q + 1) (rowL (rowP (ms.take t) ++ [(p, ⟨kd', nm', ve', fr', no', er', tx'⟩)])) rfl (rowL_snoc _ _ (HMf.out.trans HM2.out)).symm (by omega) (by unfold maxLen; omega) d7.size ?_); intro P8 cp8 w8 h8 hg8 hat8; have d8 := below_own d7 hg8 hp7 d7.size; have hb8 := hb7.other hp7 (by decide) hg8; have ho8 := h7.other hp7 (by decide) hg8; clear hg8 hat8 hb7 h7 hp7)
          | fail)
        go_roundw
        case rel =>
          refine ⟨t + 1, Mf, q + 1, A4, c4, O7, co7, P8, cp8, by omega, rfl, rfl, rfl, by go_num, ?_⟩
          rw [HP.out]
          exact ⟨HMf.out.trans HM2.out, by rw [List.length_append, List.length_singleton, ← HR.out.2], hb8, ho8, h8, d8⟩
        case measure => simp [intOf]; omega
    · obtain rfl : t = n := by omega
      go_wp2
      go_ret3
      refine ⟨M, q, Ab, cb, O, co, Pl, cp, rfl, ?_⟩
      have := H.out
      rw [List.take_of_length_le (by rw [← HN.out]; exact Nat.le_refl _)] at this
      exact this

theorem row49_any (ms : List Msg) (n : Nat) (hn : n = ms.length) (A : Option Addr) (c B : Nat) (w : World) (hm : Rd w B A (mv ms)) (hB : B ≤ w.heap.size) (hl : n ≤ 1048576) :
    Calls Try.prog 49 #[.slice A n c] w (fun e w' => ∃ M q, RowOut w (rowP ms) M q e w') :=
  row49_wide ms n hn A c B w hm hB (by omega) fun t => by
    have h1 := rowB_bound (rowP (ms.take t)) fun x hx => (rowP_ok _ x hx).1
    have h2 := rowP_len (ms.take t)
    rw [List.length_take] at h2
    omega

end Go.Proofs.Ytbhjcfhpabnadaa
