/- A part of the proof of TopShares: for every row of weights the law returns true, and the row reads as before. No condition beyond the statement's own. -/
import Derived.Test.YtlhpdegoglgdpaaGreatDoorKjB
namespace Go.Proofs.Sh
open Go
open Go.Proofs.YtlhpdegoglgdpaaGreatDoor
theorem mapFine_0 : allFrom (mapFine Tryz.prog) 0 50 = true := by kernel_rfl
theorem mapFine_50 : allFrom (mapFine Tryz.prog) 50 50 = true := by kernel_rfl
theorem mapFine_100 : allFrom (mapFine Tryz.prog) 100 50 = true := by kernel_rfl
theorem mapFine_150 : allFrom (mapFine Tryz.prog) 150 50 = true := by kernel_rfl
theorem mapFine_200 : allFrom (mapFine Tryz.prog) 200 50 = true := by kernel_rfl
theorem mapFine_250 : allFrom (mapFine Tryz.prog) 250 50 = true := by kernel_rfl
theorem mapFine_300 : allFrom (mapFine Tryz.prog) 300 50 = true := by kernel_rfl
theorem mapFine_350 : allFrom (mapFine Tryz.prog) 350 50 = true := by kernel_rfl
theorem mapFine_400 : allFrom (mapFine Tryz.prog) 400 50 = true := by kernel_rfl
theorem mapFine_450 : allFrom (mapFine Tryz.prog) 450 50 = true := by kernel_rfl
theorem mapFine_500 : allFrom (mapFine Tryz.prog) 500 50 = true := by kernel_rfl
theorem mapFine_550 : allFrom (mapFine Tryz.prog) 550 50 = true := by kernel_rfl
theorem mapFine_600 : allFrom (mapFine Tryz.prog) 600 50 = true := by kernel_rfl
theorem mapFine_650 : allFrom (mapFine Tryz.prog) 650 50 = true := by kernel_rfl
theorem mapFine_700 : allFrom (mapFine Tryz.prog) 700 50 = true := by kernel_rfl
theorem mapFine_750 : allFrom (mapFine Tryz.prog) 750 50 = true := by kernel_rfl
theorem mapFine_800 : allFrom (mapFine Tryz.prog) 800 24 = true := by kernel_rfl
theorem mapFine_all (t : Nat) (h : t < 824) : mapFine Tryz.prog t = true := by
  by_cases h0 : t < 50
  · exact allFrom_at 50 0 mapFine_0 t (by omega) (by omega)
  by_cases h50 : t < 100
  · exact allFrom_at 50 50 mapFine_50 t (by omega) (by omega)
  by_cases h100 : t < 150
  · exact allFrom_at 50 100 mapFine_100 t (by omega) (by omega)
  by_cases h150 : t < 200
  · exact allFrom_at 50 150 mapFine_150 t (by omega) (by omega)
  by_cases h200 : t < 250
  · exact allFrom_at 50 200 mapFine_200 t (by omega) (by omega)
  by_cases h250 : t < 300
  · exact allFrom_at 50 250 mapFine_250 t (by omega) (by omega)
  by_cases h300 : t < 350
  · exact allFrom_at 50 300 mapFine_300 t (by omega) (by omega)
  by_cases h350 : t < 400
  · exact allFrom_at 50 350 mapFine_350 t (by omega) (by omega)
  by_cases h400 : t < 450
  · exact allFrom_at 50 400 mapFine_400 t (by omega) (by omega)
  by_cases h450 : t < 500
  · exact allFrom_at 50 450 mapFine_450 t (by omega) (by omega)
  by_cases h500 : t < 550
  · exact allFrom_at 50 500 mapFine_500 t (by omega) (by omega)
  by_cases h550 : t < 600
  · exact allFrom_at 50 550 mapFine_550 t (by omega) (by omega)
  by_cases h600 : t < 650
  · exact allFrom_at 50 600 mapFine_600 t (by omega) (by omega)
  by_cases h650 : t < 700
  · exact allFrom_at 50 650 mapFine_650 t (by omega) (by omega)
  by_cases h700 : t < 750
  · exact allFrom_at 50 700 mapFine_700 t (by omega) (by omega)
  by_cases h750 : t < 800
  · exact allFrom_at 50 750 mapFine_750 t (by omega) (by omega)
  exact allFrom_at 24 800 mapFine_800 t (by omega) (by omega)
theorem fun_fine : Tryz.prog.funcs.all (fun f => f.params.all fun t => decide (t < Tryz.prog.types.size)) = true := by kernel_rfl
theorem laidOutB_of {P : Program} (h1 : ∀ t, t < P.types.size → rowFine P t = true) (h2 : P.globals.all (fun g => decide (g.type < P.types.size)) = true)
    (h3 : P.funcs.all (fun f => f.params.all fun t => decide (t < P.types.size)) = true) : laidOutB P = true := by
  unfold laidOutB
  rw [h2, h3, Bool.and_true, Bool.and_true, List.all_eq_true]
  exact fun t h => h1 t (List.mem_range.1 h)
theorem mapsRowed_of {P : Program} (h : ∀ t, t < P.types.size → mapFine P t = true) : mapsRowed P = true := by
  unfold mapsRowed
  rw [List.all_eq_true]
  exact fun t ht => h t (List.mem_range.1 ht)
theorem plainKeys_of {P : Program} {t : Nat} (ht : t < P.types.size) (h : keyFine P t = false) : P.plainKeys = false := by
  unfold Program.plainKeys
  rw [List.all_eq_false]
  refine ⟨t, List.mem_range.2 ht, fun e => ?_⟩
  have : keyFine P t = true := e
  rw [h] at this
  cases this
theorem j2 : laidOutB Tryz.prog = true := laidOutB_of (fun t h => rowFine_all t (Nat.lt_of_lt_of_eq h tsz)) glob_fine fun_fine
theorem j3 : mapsRowed Tryz.prog = true := mapsRowed_of fun t h => mapFine_all t (Nat.lt_of_lt_of_eq h tsz)
theorem key_bad : keyFine Tryz.prog 138 = false := by kernel_rfl
theorem j23 : (Rows.topSharesRow.plainKeys == Tryz.prog.plainKeys) = true := by
  rw [plainKeys_of (P := Tryz.prog) (t := 138) (Nat.lt_of_lt_of_eq (by decide) tsz.symm) key_bad]; rfl
end Go.Proofs.Sh
