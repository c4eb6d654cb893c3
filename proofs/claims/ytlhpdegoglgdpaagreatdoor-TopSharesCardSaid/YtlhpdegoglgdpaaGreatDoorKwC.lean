/- A part of the proof of TopShares: for every row of weights the law returns true, and the row reads as before. No condition beyond the statement's own. -/
import Derived.Test.YtlhpdegoglgdpaaGreatDoorKwD
namespace Go.Proofs.Sh
open Go
open Go.Proofs.YtlhpdegoglgdpaaGreatDoor
theorem laidRun_cons {P : Program} {w : World} {fuel : Nat} {n : String} {d : DataW Unit} {ns : List String} {l : List (String × DataW Unit)} (h1 : (DataW.laidRun P w fuel [n]).map (·.1) = some [(n, d)])
    (h2 : (DataW.laidRun P w fuel ns).map (·.1) = some l) : (DataW.laidRun P w fuel (n :: ns)).map (·.1) = some ((n, d) :: l) := by
  unfold DataW.laidRun at h1 ⊢
  cases hg : P.globalNamed n with
  | none => rw [hg] at h1; cases h1
  | some g =>
    rw [hg] at h1
    simp only at h1 ⊢
    cases ht : (P.globals[g]?).map (·.type) with
    | none => rw [ht] at h1; cases h1
    | some t =>
      rw [ht] at h1
      cases hv : w.var? P n with
      | none => rw [hv] at h1; cases h1
      | some cs =>
        rw [hv] at h1
        simp only at h1 ⊢
        cases hx : DataW.trod (fun _ => ()) P w 0 (fun _ => true) false fuel t cs.toList with
        | none => rw [hx] at h1; simp at h1
        | some x =>
          rw [hx] at h1
          cases hy : DataW.laidRun P w fuel ns with
          | none => rw [hy] at h2; cases h2
          | some y =>
            rw [hy] at h2
            simp [DataW.laidRun] at h1
            simp only [Option.map_some, Option.some.injEq] at h2 ⊢
            rw [← h2, h1]
theorem wit6 : (Rows.topSharesRow.laid.all fun x => x.2.handleName?.isNone) = true := by kernel_rfl
theorem one0 (os : Os) : (DataW.laidRun Tryz.prog ((witW os).forCall (fun _ _ => 0) ⟨#[], witA, []⟩).memory 8 ["internal/strconv.uint64pow10"]).map (·.1) = some [("internal/strconv.uint64pow10", Rows.laid_internal_strconv_uint64pow10)] := by kernel_rfl
theorem one1 (os : Os) : (DataW.laidRun Tryz.prog ((witW os).forCall (fun _ _ => 0) ⟨#[], witA, []⟩).memory 8 ["math/bits.deBruijn32tab"]).map (·.1) = some [("math/bits.deBruijn32tab", Rows.laid_math_bits_deBruijn32tab)] := by kernel_rfl
theorem one2 (os : Os) : (DataW.laidRun Tryz.prog ((witW os).forCall (fun _ _ => 0) ⟨#[], witA, []⟩).memory 8 ["math/bits.deBruijn64tab"]).map (·.1) = some [("math/bits.deBruijn64tab", Rows.laid_math_bits_deBruijn64tab)] := by kernel_rfl
theorem one3 (os : Os) : (DataW.laidRun Tryz.prog ((witW os).forCall (fun _ _ => 0) ⟨#[], witA, []⟩).memory 8 ["strconv.ErrSyntax"]).map (·.1) = some [("strconv.ErrSyntax", Rows.laid_strconv_ErrSyntax)] := by kernel_rfl
theorem one4 (os : Os) : (DataW.laidRun Tryz.prog ((witW os).forCall (fun _ _ => 0) ⟨#[], witA, []⟩).memory 8 ["strconv.ErrRange"]).map (·.1) = some [("strconv.ErrRange", Rows.laid_strconv_ErrRange)] := by kernel_rfl
theorem one5 (os : Os) : (DataW.laidRun Tryz.prog ((witW os).forCall (fun _ _ => 0) ⟨#[], witA, []⟩).memory 8 ["unicode/utf8.first"]).map (·.1) = some [("unicode/utf8.first", Rows.laid_unicode_utf8_first)] := by kernel_rfl
theorem one6 (os : Os) : (DataW.laidRun Tryz.prog ((witW os).forCall (fun _ _ => 0) ⟨#[], witA, []⟩).memory 8 ["unicode/utf8.acceptRanges"]).map (·.1) = some [("unicode/utf8.acceptRanges", Rows.laid_unicode_utf8_acceptRanges)] := by kernel_rfl
theorem wit7 (os : Os) : (DataW.laidRun Tryz.prog ((witW os).forCall (fun _ _ => 0) ⟨#[], witA, []⟩).memory 8 (Rows.topSharesRow.laid.map (·.1))).map (·.1) = some Rows.topSharesRow.laid :=
  laidRun_cons (one0 os) (laidRun_cons (one1 os) (laidRun_cons (one2 os) (laidRun_cons (one3 os) (laidRun_cons (one4 os) (laidRun_cons (one5 os) (laidRun_cons (one6 os) (rfl)))))))
end Go.Proofs.Sh
