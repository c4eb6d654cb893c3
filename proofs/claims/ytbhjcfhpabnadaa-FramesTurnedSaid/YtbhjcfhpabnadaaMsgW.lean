/-
  The walk of frames.message.
-/
import Derived.Test.YtbhjcfhpabnadaaNumR
import Derived.ScopeJumps
import Derived.WalkMore
namespace Go.Proofs.Ytbhjcfhpabnadaa
open Go.RowKit

theorem drewN_setCell (w : World) (k : Nat) (p : Addr) (v : Value) : (w.drewN k).setCell p v = (w.setCell p v).drewN k := rfl
theorem drewN_alloc (w : World) (k : Nat) (o : Obj) : (w.drewN k).alloc o = (w.alloc o).drewN k := rfl
attribute [local go_sem] drewN_setCell drewN_alloc World.drewN_drewN

/-- A scope out of which the run jumps forward to one label, or runs through. -/
theorem wp_scope_fwd {P : Program} {a : Act} {w : World} {Q : Exit → Act → World → Prop} {c rest : Code} (l : Nat) (hf : findLabel c l = some rest)
    (first : c.wp P (Exit.jump l (fun a w => rest.wp P (Exit.jump l (fun _ _ => False) Q) a w) Q) a w) : (Code.scope c).wp P Q a w :=
  wp_scope_jumps l (fun a w => rest.wp P (Exit.jump l (fun _ _ => False) Q) a w) (fun _ _ => 0) hf first
    (fun _ _ h => Code.wp_mono (fun e a w h => by cases e <;> first | exact h | exact h.2.elim) h)
theorem jump_ret {l : Nat} {J : Act → World → Prop} {Q : Exit → Act → World → Prop} {a : Act} {w : World} : Exit.jump l J Q .ret a w = Q .ret a w := rfl

theorem cut_okB (b : List UInt8) (n : Nat) (hn : n = b.length) (s : Nat) (si : Int) (hsi : si = s) (hs : s ≤ 8) (r : Nat) (hr : n = s + r) (V : Int) (hV : V = IntKind.i64.wrap (be (b.take s))) (A : Option Addr) (c : Nat) (hA : A = none → c = 0) (hc : n ≤ c) (B : Nat) (w W : World) (hrd : Rd w B A (bv b)) (hW : Below B w W) (hl : n ≤ 140737756790784) :
    Calls Try.prog 61 #[.slice A n c, .int .i64 si] W fun e w' => ∃ k S c', w' = W.drewN k ∧ e = .returned (.tuple #[.int .i64 V, .slice S r c', .bool true]) ∧ Rd w B S (bv (b.drop s)) ∧ (S = none → c' = 0) ∧ r ≤ c' := by
  subst hsi hV
  refine (cut1_any b n hn s hs A c hc B W (hrd.below hW) hl).mono ?_
  rintro e w' ⟨k, rfl, h⟩
  rw [if_neg (by omega)] at h
  obtain ⟨S, rfl, hS⟩ := h
  have hbr : b.length - s = r := by omega
  rw [hbr]
  refine ⟨k, S, c - s, rfl, rfl, ?_, ?_, by omega⟩
  · have h1 := hrd.cut s c (by rw [bv_length]; omega)
    rw [← hS] at h1
    simpa [bv, List.map_drop] using h1
  · intro hn0
    rw [hS] at hn0
    split at hn0
    · rw [hA hn0]; omega
    · cases A with
      | none => rw [hA rfl]; omega
      | some a => cases hn0
theorem cut_noB (b : List UInt8) (n : Nat) (hn : n = b.length) (s : Nat) (si : Int) (hsi : si = s) (hs : s ≤ 8) (hr : n < s) (A : Option Addr) (c : Nat) (hc : n ≤ c) (B : Nat) (w W : World) (hrd : Rd w B A (bv b)) (hW : Below B w W) (hl : n ≤ 140737756790784) :
    Calls Try.prog 61 #[.slice A n c, .int .i64 si] W fun e w' => ∃ k, w' = W.drewN k ∧ e = .returned (.tuple #[.int .i64 0, .slice none 0 0, .bool false]) :=
  cut_no b n hn s si hsi hs hr A c hc B W (hrd.below hW) hl
theorem two_box (w : World) (B : Nat) (hB : B ≤ w.heap.size) (o o' : Obj) (k : Nat) : Below B w (((w.alloc o).alloc o').drewN k) :=
  below_drewN (((Below.refl B w).alloc hB o).alloc (by simp; omega) o') k

theorem new_at (w : World) (o : Obj) : (w.alloc o).heap[w.heap.size]? = some o := by
  show (w.heap.push o)[w.heap.size]? = some o
  simp
theorem boxes_at {w w9 : World} {Z M : Array Value} {k : Nat} (h : Below ((((w.alloc (.cells Z 60)).alloc (.cells M 60)).drewN k)).heap.size (((w.alloc (.cells Z 60)).alloc (.cells M 60)).drewN k) w9) :
    w9.heap[w.heap.size]? = some (.cells Z 60 (0, 0)) ∧ w9.heap[w.heap.size + 1]? = some (.cells M 60 (0, 0)) ∧ Below w.heap.size w w9 := by
  have hs : (((w.alloc (.cells Z 60)).alloc (.cells M 60)).drewN k).heap.size = w.heap.size + 2 := by
    show ((w.alloc (.cells Z 60)).alloc (.cells M 60)).heap.size = _
    simp
  rw [hs] at h
  refine ⟨(h.block _ (by omega)).trans ?_, (h.block _ (by omega)).trans ?_, (two_box w _ (Nat.le_refl _) _ _ k).trans (h.mono (by omega))⟩
  · exact (Below.heap_alloc (w.alloc (.cells Z 60)) _ _ (by simp)).trans (new_at w _)
  · have := new_at (w.alloc (.cells Z 60)) (.cells M 60)
    rw [World.size_alloc] at this
    exact this
theorem cellAt {w : World} {b j : Nat} {cs : Array Value} {t : TypeId} {v : Value} (h : w.heap[b]? = some (.cells cs t (0, 0))) (hj : cs[j]? = some v) : w.cell? ⟨b, j, none⟩ = some v := by
  unfold World.cell?
  simp only [h]
  simpa using hj
theorem frozenAt {w : World} {b j : Nat} {cs : Array Value} {t : TypeId} (h : w.heap[b]? = some (.cells cs t (0, 0))) : w.frozen? ⟨b, j, none⟩ = false := by
  unfold World.frozen?
  simp only [h]
  simp

theorem name_none {S SN : Option Addr} {c m : Nat} (h : S = none → c = 0) (hS : SN = if c = m then S else S.map (·.add m)) : SN = none → c - m = 0 := by
  intro hn0
  rw [hS] at hn0
  split at hn0
  · rw [h hn0]; omega
  · cases S with
    | none => rw [h rfl]; omega
    | some a => cases hn0
def zMsg : Value := .agg #[.int .i64 0, .string ⟨#[]⟩, .int .i64 0, .int .i64 0, .int .i64 0, .int .i64 0, .string ⟨#[]⟩]
/-- What message leaves. -/
def MsgOut (w : World) (o : Option Msg) (e : Ending) (w' : World) : Prop :=
  Below w.heap.size w w' ∧ e = .returned (.tuple #[match o with | some m => msgV m | none => zMsg, .bool o.isSome])

end Go.Proofs.Ytbhjcfhpabnadaa
