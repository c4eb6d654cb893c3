/-
  Bytes as strings; the walk of turnpikelaw01's kept where nothing was changed.
-/
import Derived.Test.YtbhjcfhpabnadaaFrameW
import Derived.Laws.BytesArg
namespace Go.Proofs.Ytbhjcfhpabnadaa
open Go.RowKit

/-- The string of some bytes. -/
def str (xs : List UInt8) : ByteArray := ⟨xs.toArray⟩

theorem strOf_eq (xs : List UInt8) : strOfNums (xs.map fun b => (b.toNat : Int)) = str xs := by
  unfold strOfNums str
  rw [List.map_map]
  have : (fun (n : Int) => UInt8.ofNat n.toNat) ∘ (fun (b : UInt8) => (b.toNat : Int)) = id := by
    funext b
    simp
  rw [this, List.map_id]

theorem conv_any {w : World} {B : Nat} {A : Option Addr} {xs : List UInt8} (hx : Rd w B A (bv xs)) (n : Nat) (hn : n = xs.length) (c : Nat) : (convert 22 9 (.slice A n c)).run Try.prog w = .ok (.string (str xs)) w := by
  subst hn
  cases A with
  | none =>
    rw [hx.none_nil]
    exact run_convert_bytes_nil w 22 5 Try.underlying22 Try.underlying5 _ _ 9 Try.underlying9
  | some a =>
    rcases Nat.eq_zero_or_pos xs.length with h0 | h0
    · have hx0 : xs = [] := List.eq_nil_of_length_eq_zero h0
      subst hx0
      rw [run_convert_bytes_string w 22 9 5 _ _ _ Try.underlying22 Try.underlying5 Try.underlying9]
      have := run_bytesToString (P := Try.prog) w a 0 c [] (by simp [loadCells, loadCellsFrom])
      rw [show str [] = ByteArray.empty from rfl]
      exact this
    · obtain ⟨b, o, h, _, hc⟩ := hx.at_ h0
      obtain rfl := Option.some.inj h
      have := run_convert_bytes_arg (P := Try.prog) w 22 5 Try.underlying22 Try.underlying5 b o xs.length c (xs.map fun b => (b.toNat : Int)) (by simp) (fun i hi => by
        rw [hc i hi]
        simp [List.getD, hi]) 9 Try.underlying9
      rw [strOf_eq] at this
      exact this

theorem str_list (xs : List UInt8) : (str xs).toList = xs := by simp [str]

set_option maxHeartbeats 400000 in
theorem kept_eq (xs : List UInt8) (A : Option Addr) (g cap c base B : Nat) (w : World) (hown : Copy w base g cap xs) (hy : Rd w B A (bv xs)) (hn : xs.length + 2 ≤ 140737488355328) :
    Calls Try.prog 20 #[.slice (some ⟨g, 0, none⟩) xs.length cap, .slice A xs.length c] w fun e w' => e = .returned (.bool true) ∧ w = w' := by
  have c1 := conv_any hown.rd xs.length rfl cap
  have c2 := conv_any hy xs.length rfl c
  have hcap := hown.1
  have m1 : w.cell? ⟨g, xs.length, none⟩ = some (.int .u8 201) := by
    obtain ⟨a, ha, _, hc⟩ := hown.2.rd xs.length (.int .u8 201) (by simp [bv])
    obtain rfl := Option.some.inj ha
    simpa [Addr.add_lit] using hc
  have m2 : w.cell? ⟨g, xs.length + 1, none⟩ = some (.int .u8 202) := by
    obtain ⟨a, ha, _, hc⟩ := hown.2.rd (xs.length + 1) (.int .u8 202) (by simp [bv])
    obtain rfl := Option.some.inj ha
    simpa [Addr.add_lit] using hc
  clear hown hy
  go_enter Try.func20, Try.ntmps20
  go_wp2
  go_ret
  exact ⟨by simp, rfl⟩

end Go.Proofs.Ytbhjcfhpabnadaa
