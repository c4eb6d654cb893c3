/- A part of the proof of TopShares: for every row of weights the law returns true, and the row reads as before. No condition beyond the statement's own. -/
import Derived.Test.YtlhpdegoglgdpaaGreatDoorAwS
import Derived.Test.YtlhpdegoglgdpaaGreatDoorEvCw
import Derived.BigQuiet
import Derived.Test.YtlhpdegoglgdpaaGreatDoorAwN
set_option linter.all false
set_option linter.unusedVariables false
set_option linter.unusedSimpArgs false
set_option linter.constructorNameAsVariable false
set_option linter.deprecated false
namespace Go.Ev.Aw
noncomputable section
open Go Go.Proofs
theorem g_ok : G.Ok := cfg_ok (by kernel_rfl) (by kernel_rfl)
end
end Go.Ev.Aw
namespace Go.Ev.Aw
noncomputable section
open Go Go.Proofs
theorem extOf_mem {f : Nat} {x : Ext} : ∀ (l : List (Nat × Ext)), extOf f l = some x → (f, x) ∈ l
  | [], h => by cases h
  | (g, y) :: l, h => by
    unfold extOf at h
    split at h
    · rename_i e; cases h; subst e; simp
    · exact List.mem_cons_of_mem _ (extOf_mem l h)
theorem g_ext : G.ext = [(599, .indexByte), (522, .indexByte), (593, .countByte), (554, .makeNoZero), (553, .same), (274, .mapsClone)] := by kernel_rfl
theorem x599 : G.ft.get 599 = some Tryz.f599 := by kernel_rfl
theorem x522 : G.ft.get 522 = some Tryz.f522 := by kernel_rfl
theorem x593 : G.ft.get 593 = some Tryz.f593 := by kernel_rfl
theorem x554 : G.ft.get 554 = some Tryz.f554 := by kernel_rfl
theorem x553 : G.ft.get 553 = some Tryz.f553 := by kernel_rfl
theorem x274 : G.ft.get 274 = some Tryz.f274 := by kernel_rfl
theorem ext_names : ExtNames G := by
  intro f fn x hf hb hx
  have hm := extOf_mem _ hx
  rw [g_ext] at hm
  simp only [List.mem_cons, List.not_mem_nil, or_false, Prod.mk.injEq] at hm
  rcases hm with ⟨rfl, rfl⟩ | ⟨rfl, rfl⟩ | ⟨rfl, rfl⟩ | ⟨rfl, rfl⟩ | ⟨rfl, rfl⟩ | ⟨rfl, rfl⟩
  · rw [x599] at hf; cases hf; exact ⟨rfl, rfl, fun h => by cases h⟩
  · rw [x522] at hf; cases hf; exact ⟨rfl, rfl, fun h => by cases h⟩
  · rw [x593] at hf; cases hf; exact ⟨rfl, rfl, fun h => by cases h⟩
  · rw [x554] at hf; cases hf; exact ⟨rfl, rfl, fun _ => ⟨31, 5, rfl, by kernel_rfl⟩⟩
  · rw [x553] at hf; cases hf; exact ⟨rfl, rfl, fun h => by cases h⟩
  · rw [x274] at hf; cases hf; exact ⟨rfl, rfl, fun h => by cases h⟩
end
end Go.Ev.Aw
namespace Go.Ev.Aw
noncomputable section
open Go Go.Proofs Go.Shelf
def ren219 : Ren := ⟨fun | 219 => 567 | 217 => 572 | 225 => 594 | 224 => 466 | 267 => 595 | 266 => 599 | 314 => 613 | n => n, fun | 9 => 9 | 3 => 3 | 4 => 4 | 5 => 5 | 46 => 237 | 146 => 703 | 51 => 430 | n => n, fun | 1 => 0 | n => n⟩
theorem lays219 : Lays.n219 Tryz.prog ren219 := { mixed := by kernel_rfl, f217 := Tryz.func572.trans (congrArg some (by kernel_rfl)), f219 := Tryz.func567.trans (congrArg some (by kernel_rfl)), f224 := Tryz.func466.trans (congrArg some (by kernel_rfl)), f225 := Tryz.func594.trans (congrArg some (by kernel_rfl)), f266 := Tryz.func599.trans (congrArg some (by kernel_rfl)), f267 := Tryz.func595.trans (congrArg some (by kernel_rfl)), f314 := Tryz.func613.trans (congrArg some (by kernel_rfl)), t3 := Tryz.underlying3, a3 := Tryz.isAgg3, z3 := Tryz.sizeOf3, v3 := Tryz.zeroValue3, t4 := Tryz.underlying4, a4 := Tryz.isAgg4, z4 := Tryz.sizeOf4, v4 := Tryz.zeroValue4, t5 := Tryz.underlying5, a5 := Tryz.isAgg5, z5 := Tryz.sizeOf5, v5 := Tryz.zeroValue5, t9 := Tryz.underlying9, a9 := Tryz.isAgg9, z9 := Tryz.sizeOf9, v9 := Tryz.zeroValue9, t46 := Tryz.underlying237, a46 := Tryz.isAgg237, z46 := Tryz.sizeOf237, v46 := Tryz.zeroValue237, t51 := Tryz.underlying430, a51 := Tryz.isAgg430, z51 := Tryz.sizeOf430, v51 := Tryz.zeroValue430, t146 := Tryz.underlying703, a146 := Tryz.isAgg703, z146 := Tryz.sizeOf703, v146 := Tryz.zeroValue703, g1 := by kernel_rfl }
def ren185 : Ren := ⟨fun | 185 => 379 | 187 => 463 | 115 => 464 | 253 => 465 | 224 => 466 | 254 => 467 | 255 => 522 | 291 => 523 | n => n, fun | 37 => 31 | 3 => 3 | 4 => 4 | 0 => 0 | 5 => 5 | 46 => 237 | 9 => 9 | 146 => 703 | 51 => 430 | n => n, fun | 1 => 0 | n => n⟩
theorem lays185 : Lays.n185 Tryz.prog ren185 := { mixed := by kernel_rfl, f115 := Tryz.func464.trans (congrArg some (by kernel_rfl)), f185 := Tryz.func379.trans (congrArg some (by kernel_rfl)), f187 := Tryz.func463.trans (congrArg some (by kernel_rfl)), f224 := Tryz.func466.trans (congrArg some (by kernel_rfl)), f253 := Tryz.func465.trans (congrArg some (by kernel_rfl)), f254 := Tryz.func467.trans (congrArg some (by kernel_rfl)), f255 := Tryz.func522.trans (congrArg some (by kernel_rfl)), f291 := Tryz.func523.trans (congrArg some (by kernel_rfl)), t0 := Tryz.underlying0, a0 := Tryz.isAgg0, z0 := Tryz.sizeOf0, v0 := Tryz.zeroValue0, t3 := Tryz.underlying3, a3 := Tryz.isAgg3, z3 := Tryz.sizeOf3, v3 := Tryz.zeroValue3, t4 := Tryz.underlying4, a4 := Tryz.isAgg4, z4 := Tryz.sizeOf4, v4 := Tryz.zeroValue4, t5 := Tryz.underlying5, a5 := Tryz.isAgg5, z5 := Tryz.sizeOf5, v5 := Tryz.zeroValue5, t9 := Tryz.underlying9, a9 := Tryz.isAgg9, z9 := Tryz.sizeOf9, v9 := Tryz.zeroValue9, t37 := Tryz.underlying31, a37 := Tryz.isAgg31, z37 := Tryz.sizeOf31, v37 := Tryz.zeroValue31, t46 := Tryz.underlying237, a46 := Tryz.isAgg237, z46 := Tryz.sizeOf237, v46 := Tryz.zeroValue237, t51 := Tryz.underlying430, a51 := Tryz.isAgg430, z51 := Tryz.sizeOf430, v51 := Tryz.zeroValue430, t146 := Tryz.underlying703, a146 := Tryz.isAgg703, z146 := Tryz.sizeOf703, v146 := Tryz.zeroValue703, g1 := by kernel_rfl }
theorem sumOf_mem {f : Nat} {x : Smm} : ∀ (l : List (Nat × Smm)), sumOf f l = some x → (f, x) ∈ l
  | [], h => by cases h
  | (g, y) :: l, h => by
    unfold sumOf at h
    split at h
    · rename_i e; cases h; subst e; simp
    · exact List.mem_cons_of_mem _ (sumOf_mem l h)
theorem g_sums : G.sums = [(567, .strIndex), (379, .byteIndex)] := by kernel_rfl
theorem y567 : G.ft.get 567 = some Tryz.f567 := by kernel_rfl
theorem y379 : G.ft.get 379 = some Tryz.f379 := by kernel_rfl
theorem g_prog : G.P = Tryz.prog := by kernel_rfl
theorem sum_lays : SumLays G := by
  intro f x hx
  have hm := sumOf_mem _ hx
  rw [g_sums] at hm
  simp only [List.mem_cons, List.not_mem_nil, or_false, Prod.mk.injEq] at hm
  rw [g_prog]
  rcases hm with ⟨rfl, rfl⟩ | ⟨rfl, rfl⟩
  · exact ⟨ren219, lays219, rfl, rfl⟩
  · exact ⟨ren185, lays185, rfl, rfl⟩
theorem ext_all : ExtOk G where
  ext := ext_ok g_ok ext_names
  sum := sum_ok sum_lays
  there f x hx := by
    have hm := sumOf_mem _ hx
    rw [g_sums] at hm
    simp only [List.mem_cons, List.not_mem_nil, or_false, Prod.mk.injEq] at hm
    rcases hm with ⟨rfl, rfl⟩ | ⟨rfl, rfl⟩
    · rw [y567]; simp
    · rw [y379]; simp
  apart f x fn hx hf := by
    have hm := sumOf_mem _ hx
    rw [g_sums] at hm
    simp only [List.mem_cons, List.not_mem_nil, or_false, Prod.mk.injEq] at hm
    rcases hm with ⟨rfl, rfl⟩ | ⟨rfl, rfl⟩
    · rw [y567] at hf; cases hf; exact (by simp [Tryz.f567])
    · rw [y379] at hf; cases hf; exact (by simp [Tryz.f379])
end
end Go.Ev.Aw
namespace Go.Ev.Aw
noncomputable section
open Go Go.Proofs
theorem out : mergeK s37.bs t0 10 (fun t m => (resB G Tryz.f4.ntmps Tryz.f4.results.toList).f s37.tr ⟨t, m, [], 10⟩ fun vs => .val (oneOf vs) ⟨t0, 10, [], 10⟩) = .val (.bool true) ⟨t0, 10, [], 10⟩ := by kernel_rfl
theorem first : G.ft.get 4 = some Tryz.f4 := by kernel_rfl
theorem body4 : Tryz.f4.body = some c4_ := by kernel_rfl
theorem start : (⟨tr0 Tryz.f4.ntmps, [], []⟩ : Sta) = s0 := by kernel_rfl
theorem awake_calls {A : Bas} (h : A.At G t0 10) {R : Ending → World → Prop}
    (K : ∀ σ t w', HR A.B σ ⟨t, A.n + s37.bs.length, [], A.n⟩ w' → A.Lays s37.bs t → Grows A.n A.σ σ → R (.returned (.bool true)) w') : Calls A.G.P 4 #[] A.w R := by
  refine Bas.calls (v := .bool true) (h0 := ⟨t0, 10, [], 10⟩) (fn := Tryz.f4) (body := c4_) (S := s37) (x := .ret) (by rw [h.g]; exact first) body4 ?_ (.inr rfl) ?_ ?_
  · rw [start]
    exact n66 h
  · rw [h.g, h.t, h.n]
    exact out
  · intro σ u t w' hv hr hl hg
    simp only [VR] at hv
    subst hv
    exact K σ t w' hr hl hg
def pl0 : List Pl := [(0, 0, 0), (1, 0, 0), (2, 0, 20), (3, 0, 0), (4, 0, 0), (5, 0, 0), (6, 0, 0), (7, 0, 0), (8, 0, 0), (0, 0, 0)]
def powA : List AV := [.int .u64 (.ofNat 1), .int .u64 (.ofNat 10), .int .u64 (.ofNat 100), .int .u64 (.ofNat 1000), .int .u64 (.ofNat 10000), .int .u64 (.ofNat 100000), .int .u64 (.ofNat 1000000), .int .u64 (.ofNat 10000000), .int .u64 (.ofNat 100000000), .int .u64 (.ofNat 1000000000), .int .u64 (.ofNat 10000000000), .int .u64 (.ofNat 100000000000), .int .u64 (.ofNat 1000000000000), .int .u64 (.ofNat 10000000000000), .int .u64 (.ofNat 100000000000000), .int .u64 (.ofNat 1000000000000000), .int .u64 (.ofNat 10000000000000000), .int .u64 (.ofNat 100000000000000000), .int .u64 (.ofNat 1000000000000000000), .int .u64 (.ofNat 10000000000000000000)]
noncomputable def bl0 : List ABlk := [.dead, .dead, .cells powA 753 .ro, .dead, .dead, .dead, .dead, .dead, .dead, .syms []]
theorem t0_eq : t0 = BT.ofList 10 bl0 := by kernel_rfl
theorem powA_R (σ : Sg) : VRs σ powA powL := by
  simp [powA, powL, VRs, VR]
theorem hr0 {w : World} (len : ∃ m, w.cell? ⟨0, 0, none⟩ = some (.int .i64 m)) (pow : ∃ r, w.heap[2]? = some (.cells powL.toArray 753 r)) (hg : ∀ g, g < numG → g < w.heap.size) :
    HR ⟨w, len, pow, fun _ => none⟩ (sgOf pl0 fun _ => none) ⟨t0, 10, [], 10⟩ w := by
  rw [t0_eq]
  refine HR.base len pow (bl := bl0) (pl := pl0) rfl 10 ?_ ?_ ?_ (by decide) ?_ ?_
  · intro i x c d n hx hp
    match i with
    | 2 =>
      simp only [bl0, List.getElem?_cons_succ, List.getElem?_cons_zero, Option.some.injEq] at hx
      simp only [pl0, List.getElem?_cons_succ, List.getElem?_cons_zero, Option.some.injEq, Prod.mk.injEq] at hp
      subst hx
      obtain ⟨rfl, rfl, rfl⟩ := hp
      obtain ⟨⟨lo, hi⟩, hr⟩ := pow
      refine ⟨powL.toArray, lo, hi, hr, rfl, trivial, fun j v hj => ?_⟩
      obtain ⟨u, hu, hR⟩ := (powA_R (sgOf pl0 fun _ => none)).get j v hj
      exact ⟨u, by rw [Nat.add_zero, List.getElem?_toArray]; exact hu, hR⟩
    | 9 =>
      simp only [bl0, List.getElem?_cons_succ, List.getElem?_cons_zero, Option.some.injEq] at hx
      subst hx
      intro q hq; cases hq
    | 0 | 1 | 3 | 4 | 5 | 6 | 7 | 8 =>
      simp only [bl0, List.getElem?_cons_succ, List.getElem?_cons_zero, Option.some.injEq] at hx
      subst hx
      trivial
    | i + 10 => simp [bl0] at hx
  · intro i j x y c d n d' n' hx lx hy ly _ _
    have key : ∀ (k : Nat) (z : ABlk), bl0[k]? = some z → z.live = true → k = 2 := by
      intro k z hz lz
      match k with
      | 2 => rfl
      | 0 | 1 | 3 | 4 | 5 | 6 | 7 | 8 | 9 =>
        simp only [bl0, List.getElem?_cons_succ, List.getElem?_cons_zero, Option.some.injEq] at hz
        subst hz
        simp [ABlk.live] at lz
      | k + 10 => simp [bl0] at hz
    rw [key i x hx lx, key j y hy ly]
  · intro g hlt
    have : g < 9 := hlt
    match g with
    | 0 | 1 | 2 | 3 | 4 | 5 | 6 | 7 | 8 => exact ⟨_, rfl⟩
    | g + 9 => omega
  · intro p hp
    simp only [pl0, List.mem_cons, List.not_mem_nil, or_false] at hp
    have h9 : ∀ g, g < 9 → g < w.heap.size := hg
    rcases hp with rfl | rfl | rfl | rfl | rfl | rfl | rfl | rfl | rfl | rfl <;> exact h9 _ (by decide)
  · intro x hx
    simp only [bl0, List.mem_cons, List.not_mem_nil, or_false] at hx
    rcases hx with rfl | rfl | rfl | rfl | rfl | rfl | rfl | rfl | rfl | rfl <;> rfl
theorem awake_any (w : World) (len : ∃ m, w.cell? ⟨0, 0, none⟩ = some (.int .i64 m)) (pow : ∃ r, w.heap[2]? = some (.cells powL.toArray 753 r)) (hg : ∀ g, g < numG → g < w.heap.size) :
    Calls Tryz.prog 4 #[] w fun e w' => e = .returned (.bool true) ∧ OldKept w w' := by
  have hr := hr0 len pow hg
  let A : Bas := { G := G, ok := g_ok, ext := ext_all, B := ⟨w, len, pow, fun _ => none⟩, t := t0, n := 10, σ := sgOf pl0 fun _ => none, w := w, hr := hr }
  have := awake_calls (A := A) ⟨rfl, rfl, rfl⟩ (R := fun e w' => e = .returned (.bool true) ∧ OldKept w w') fun σ t w' hr' _ _ =>
    ⟨rfl, hr'.keep, hr'.grow, hr'.os, hr'.tape, hr'.output⟩
  exact this
end
end Go.Ev.Aw
