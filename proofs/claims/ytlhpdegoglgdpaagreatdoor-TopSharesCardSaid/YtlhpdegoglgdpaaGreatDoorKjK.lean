/- A part of the proof of TopShares: for every row of weights the law returns true, and the row reads as before. No condition beyond the statement's own. -/
import Derived.Test.YtlhpdegoglgdpaaGreatDoorRows
import Derived.JoinedOf
namespace Go.Proofs.Sh
open Go
open Go.Proofs.YtlhpdegoglgdpaaGreatDoor
theorem j27 : (Rows.topSharesRow.lifted == Tryz.prog.liftsFinal) = true := by kernel_rfl
end Go.Proofs.Sh
namespace Go.Proofs.Sh
open Go
open Go.Proofs.YtlhpdegoglgdpaaGreatDoor
theorem j16 : (Rows.topSharesRow.mapsOut == Tryz.prog.mapsAmong Tryz.f3.resultTypes.toList) = true := by kernel_rfl
end Go.Proofs.Sh
namespace Go.Proofs.Sh
open Go
open Go.Proofs.YtlhpdegoglgdpaaGreatDoor
theorem grown_fix {P : Program} {L : List TypeId} (h : P.grow L = L) : ∀ d, P.grown d L = L
  | 0 => rfl
  | d + 1 => by
    show P.grown d (P.grow L) = L
    rw [h]; exact grown_fix h d
theorem book_of {P : Program} {t : TypeId} {L : List TypeId} (n : Nat) (hs : P.types.size = n + 2) (h1 : P.grow (P.grow [t]) = L) (h2 : P.grow L = L) : P.book t = L := by
  unfold Program.book
  rw [hs]
  show P.grown n (P.grow (P.grow [t])) = L
  rw [h1]; exact grown_fix h2 n
theorem tsize : Tryz.prog.types.size = 822 + 2 := by kernel_rfl
theorem b22 : Tryz.prog.book 22 = [22, 3] := book_of 822 tsize (by kernel_rfl) (by kernel_rfl)
theorem b3 : Tryz.prog.book 3 = [3] := book_of 822 tsize (by kernel_rfl) (by kernel_rfl)
theorem b4 : Tryz.prog.book 4 = [4] := book_of 822 tsize (by kernel_rfl) (by kernel_rfl)
theorem b753 : Tryz.prog.book 753 = [753, 52] := book_of 822 tsize (by kernel_rfl) (by kernel_rfl)
theorem b775 : Tryz.prog.book 775 = [775, 5] := book_of 822 tsize (by kernel_rfl) (by kernel_rfl)
theorem b776 : Tryz.prog.book 776 = [776, 5] := book_of 822 tsize (by kernel_rfl) (by kernel_rfl)
theorem b625 : Tryz.prog.book 625 = [625] := book_of 822 tsize (by kernel_rfl) (by kernel_rfl)
theorem b767 : Tryz.prog.book 767 = [767, 5] := book_of 822 tsize (by kernel_rfl) (by kernel_rfl)
theorem b770 : Tryz.prog.book 770 = [770, 769, 5] := book_of 822 tsize (by kernel_rfl) (by kernel_rfl)
theorem r22 : Tryz.prog.readableRec 22 = true := by unfold Program.readableRec; rw [b22]; kernel_rfl
theorem r4 : Tryz.prog.readableRec 4 = true := by unfold Program.readableRec; rw [b4]; kernel_rfl
theorem m22 : Tryz.prog.mapsRec 22 = false := by unfold Program.mapsRec; rw [b22]; kernel_rfl
theorem i22 : Tryz.prog.ifacesRec 22 = false := by unfold Program.ifacesRec; rw [b22]; kernel_rfl
theorem i4 : Tryz.prog.ifacesRec 4 = false := by unfold Program.ifacesRec; rw [b4]; kernel_rfl
theorem pt22 : Tryz.prog.partsOf 22 = [3] := by kernel_rfl
theorem pt3 : Tryz.prog.partsOf 3 = [] := by kernel_rfl
theorem pt4 : Tryz.prog.partsOf 4 = [] := by kernel_rfl
theorem o22 : Tryz.prog.loopsFrom 22 = false := by
  unfold Program.loopsFrom
  rw [b22]
  simp only [List.any_cons, List.any_nil, pt22, pt3, b3]
  rfl
theorem o4 : Tryz.prog.loopsFrom 4 = false := by
  unfold Program.loopsFrom
  rw [b4]
  simp only [List.any_cons, List.any_nil, pt4]
  rfl
theorem w22 : Tryz.prog.wideKeysFrom 22 = false := by unfold Program.wideKeysFrom; rw [b22]; kernel_rfl
theorem w4 : Tryz.prog.wideKeysFrom 4 = false := by unfold Program.wideKeysFrom; rw [b4]; kernel_rfl
theorem v22 : Tryz.prog.veiledRec 22 = false := by unfold Program.veiledRec; rw [b22]; kernel_rfl
theorem v4 : Tryz.prog.veiledRec 4 = false := by unfold Program.veiledRec; rw [b4]; kernel_rfl
theorem v753 : Tryz.prog.veiledRec 753 = false := by unfold Program.veiledRec; rw [b753]; kernel_rfl
theorem v775 : Tryz.prog.veiledRec 775 = false := by unfold Program.veiledRec; rw [b775]; kernel_rfl
theorem v776 : Tryz.prog.veiledRec 776 = false := by unfold Program.veiledRec; rw [b776]; kernel_rfl
theorem v625 : Tryz.prog.veiledRec 625 = false := by unfold Program.veiledRec; rw [b625]; kernel_rfl
theorem v767 : Tryz.prog.veiledRec 767 = false := by unfold Program.veiledRec; rw [b767]; kernel_rfl
theorem v770 : Tryz.prog.veiledRec 770 = false := by unfold Program.veiledRec; rw [b770]; kernel_rfl
theorem own_of {t : TypeId} (h : Tryz.prog.veiledRec t = false) : Tryz.prog.veiledOwn t = true := by
  unfold Program.veiledOwn; rw [h]; rfl
theorem ps : Tryz.f3.params = #[22] := by kernel_rfl
theorem rs : Tryz.f3.resultTypes = #[4] := by kernel_rfl
theorem e1 : Tryz.f3.params.toList ++ Rows.topSharesSpec.plain.varTypes Tryz.prog = [22] := by kernel_rfl
theorem e2 : Tryz.f3.resultTypes.toList = [4] := by kernel_rfl
theorem e3 : (Rows.topSharesRow.laid.filterMap fun x => (Tryz.prog.globalNamed x.1).bind fun g => (Tryz.prog.globals[g]?).map (·.type)) = [753, 775, 776, 625, 625, 767, 770] := by kernel_rfl
theorem lt4 : decide (4 < Tryz.prog.types.size) = true := by rw [tsize]; rfl
theorem j4 : Tryz.f3.params.all (Tryz.prog.readableRec ·) = true := by rw [ps]; simp [r22]
theorem j14 : (Rows.topSharesRow.maps == (Tryz.f3.params.toList ++ Rows.topSharesSpec.plain.varTypes Tryz.prog).any (Tryz.prog.mapsRec ·)) = true := by
  rw [e1]; simp only [List.any_cons, List.any_nil, m22]; rfl
theorem j15 : (Rows.topSharesRow.ifaces == (Tryz.f3.params.toList ++ Rows.topSharesSpec.plain.varTypes Tryz.prog).any (Tryz.prog.ifacesRec ·)) = true := by
  rw [e1]; simp only [List.any_cons, List.any_nil, i22]; rfl
theorem j17 : (Rows.topSharesRow.loops == (Tryz.f3.params.toList ++ Rows.topSharesSpec.plain.varTypes Tryz.prog).any (Tryz.prog.loopsFrom ·)) = true := by
  rw [e1]; simp only [List.any_cons, List.any_nil, o22]; rfl
theorem j17b : (Rows.topSharesRow.wideKeys == (Tryz.f3.params.toList ++ Rows.topSharesSpec.plain.varTypes Tryz.prog ++ Tryz.f3.resultTypes.toList).any (Tryz.prog.wideKeysFrom ·)) = true := by
  rw [e1, e2]; simp only [List.cons_append, List.nil_append, List.any_cons, List.any_nil, w22, w4]; rfl
theorem j19 : Tryz.f3.resultTypes.all (fun t => Tryz.prog.readableRec t && decide (t < Tryz.prog.types.size)) = true := by rw [rs]; simp [r4]
theorem j20 : (Rows.topSharesRow.ifacesOut == Tryz.f3.resultTypes.toList.any (Tryz.prog.ifacesRec ·)) = true := by
  rw [e2]; simp only [List.any_cons, List.any_nil, i4]; rfl
theorem j21 : (Rows.topSharesRow.loopsOut == Tryz.f3.resultTypes.toList.any (Tryz.prog.loopsFrom ·)) = true := by
  rw [e2]; simp only [List.any_cons, List.any_nil, o4]; rfl
theorem j31 : (Rows.topSharesRow.veiled == (Tryz.f3.params.toList ++ Rows.topSharesSpec.plain.varTypes Tryz.prog ++ Tryz.f3.resultTypes.toList).any (Tryz.prog.veiledRec ·)) = true := by
  rw [e1, e2]; simp only [List.cons_append, List.nil_append, List.any_cons, List.any_nil, v22, v4]; rfl
theorem j32 : Rows.topSharesRow.veiledFits Tryz.prog Tryz.f3.params.toList (Tryz.f3.params.toList ++ Rows.topSharesSpec.plain.varTypes Tryz.prog ++ Tryz.f3.resultTypes.toList) = true := by
  unfold OpenClaim.veiledFits
  rw [e1, e2, e3]
  simp only [List.cons_append, List.nil_append, List.all_cons, List.all_nil, own_of v22, own_of v4, own_of v753, own_of v775, own_of v776, own_of v625, own_of v767, own_of v770]
  rfl
end Go.Proofs.Sh
