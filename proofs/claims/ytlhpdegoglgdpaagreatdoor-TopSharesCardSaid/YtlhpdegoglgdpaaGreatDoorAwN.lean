/- A part of the proof of TopShares: for every row of weights the law returns true, and the row reads as before. No condition beyond the statement's own. -/
import Derived.Test.YtlhpdegoglgdpaaGreatDoorAwL
import Derived.Test.YtlhpdegoglgdpaaGreatDoorAwL13
import Derived.Test.YtlhpdegoglgdpaaGreatDoorAwL14
import Derived.Test.YtlhpdegoglgdpaaGreatDoorAwL27
import Derived.Test.YtlhpdegoglgdpaaGreatDoorAwL30
import Derived.Test.YtlhpdegoglgdpaaGreatDoorAwL31
import Derived.Test.YtlhpdegoglgdpaaGreatDoorAwL39
import Derived.Test.YtlhpdegoglgdpaaGreatDoorAwL47
import Derived.Test.YtlhpdegoglgdpaaGreatDoorAwL49
set_option linter.all false
set_option linter.unusedVariables false
set_option linter.unusedSimpArgs false
set_option linter.constructorNameAsVariable false
set_option linter.deprecated false
namespace Go.Ev.Aw
noncomputable section
open Go Go.Proofs
theorem n0 {A : Bas} (h : A.At G t0 10) : A.Runs 93 c4_0 s0 .normal s1 := by
  refine Bas.leaf (n := 1000000) ?_
  rw [h.g, h.t, h.n]
  exact l0
theorem n1 {A : Bas} (h : A.At G t0 10) : A.Runs 93 c4_10 s1 .normal s2 := by
  refine Bas.leaf (n := 1000000) ?_
  rw [h.g, h.t, h.n]
  exact l1
theorem n2 {A : Bas} (h : A.At G t0 10) : A.Runs 93 c4_1100 s2 .normal s3 := by
  refine Bas.leaf (n := 1000000) ?_
  rw [h.g, h.t, h.n]
  exact l2
theorem n3 {A : Bas} (h : A.At G t0 10) : A.Runs 93 c4_1101 s3 .normal s4 := by
  refine Bas.leaf (n := 1000000) ?_
  rw [h.g, h.t, h.n]
  exact l3
theorem e4 : c4_110 = .seq c4_1100 c4_1101 := by kernel_rfl
theorem n4 {A : Bas} (h : A.At G t0 10) : A.Runs 93 c4_110 s2 .normal s4 := by
  rw [e4]
  exact Bas.seq (n2 h) (n3 h)
theorem n5 {A : Bas} (h : A.At G t0 10) : A.Runs 66 c9_0 s5 .normal s6 := by
  refine Bas.leaf (n := 1000000) ?_
  rw [h.g, h.t, h.n]
  exact l5
theorem n6 {A : Bas} (h : A.At G t0 10) : A.Runs 66 c9_10 s6 .normal s7 := by
  refine Bas.leaf (n := 1000000) ?_
  rw [h.g, h.t, h.n]
  exact l6
theorem n7 {A : Bas} (h : A.At G t0 10) : A.Runs 66 c9_110 s7 .normal s8 := by
  refine Bas.leaf (n := 1000000) ?_
  rw [h.g, h.t, h.n]
  exact l7
theorem n8 {A : Bas} (h : A.At G t0 10) : A.Runs 66 c9_1110 s8 .normal s9 := by
  refine Bas.leaf (n := 1000000) ?_
  rw [h.g, h.t, h.n]
  exact l8
theorem n9 {A : Bas} (h : A.At G t0 10) : A.Runs 73 c46_0 s10 .normal s11 := by
  refine Bas.leaf (n := 1000000) ?_
  rw [h.g, h.t, h.n]
  exact l9
theorem n10 {A : Bas} (h : A.At G t0 10) : A.Runs 73 c46_10 s11 .normal s12 := by
  refine Bas.leaf (n := 1000000) ?_
  rw [h.g, h.t, h.n]
  exact l10
theorem n11 {A : Bas} (h : A.At G t0 10) : A.Runs 73 c46_110 s12 .normal s13 := by
  refine Bas.leaf (n := 1000000) ?_
  rw [h.g, h.t, h.n]
  exact l11
theorem n12 {A : Bas} (h : A.At G t0 10) : A.Runs 73 c46_1110 s13 .normal s14 := by
  refine Bas.leaf (n := 1000000) ?_
  rw [h.g, h.t, h.n]
  exact l12
theorem n13 {A : Bas} (h : A.At G t0 10) : A.Runs 73 c46_11110 s14 .normal s15 := by
  refine Bas.leaf (n := 1000000) ?_
  rw [h.g, h.t, h.n]
  exact l13
theorem n14 {A : Bas} (h : A.At G t0 10) : A.Runs 73 c46_11111 s15 .normal s16 := by
  refine Bas.leaf (n := 1000000) ?_
  rw [h.g, h.t, h.n]
  exact l14
theorem e15 : c46_1111 = .seq c46_11110 c46_11111 := by kernel_rfl
theorem n15 {A : Bas} (h : A.At G t0 10) : A.Runs 73 c46_1111 s14 .normal s16 := by
  rw [e15]
  exact Bas.seq (n13 h) (n14 h)
theorem e16 : c46_111 = .seq c46_1110 c46_1111 := by kernel_rfl
theorem n16 {A : Bas} (h : A.At G t0 10) : A.Runs 73 c46_111 s13 .normal s16 := by
  rw [e16]
  exact Bas.seq (n12 h) (n15 h)
theorem e17 : c46_11 = .seq c46_110 c46_111 := by kernel_rfl
theorem n17 {A : Bas} (h : A.At G t0 10) : A.Runs 73 c46_11 s12 .normal s16 := by
  rw [e17]
  exact Bas.seq (n11 h) (n16 h)
theorem e18 : c46_1 = .seq c46_10 c46_11 := by kernel_rfl
theorem n18 {A : Bas} (h : A.At G t0 10) : A.Runs 73 c46_1 s11 .normal s16 := by
  rw [e18]
  exact Bas.seq (n10 h) (n17 h)
theorem e19 : c46_ = .seq c46_0 c46_1 := by kernel_rfl
theorem n19 {A : Bas} (h : A.At G t0 10) : A.Runs 73 c46_ s10 .normal s16 := by
  rw [e19]
  exact Bas.seq (n9 h) (n18 h)
theorem p20_0 : mergeK s9.bs t0 10 (fun t m => (regionB G 66 false (opsL c9_1111) (opsAt (opsL c9_1111) [0, 1, 2, 3, 4])).f (run G 1000000) s9.tr ⟨t, m, [], 10⟩ fun tr h => (opd 66 (callFx (opN c9_1111 5))).f tr fun fv => fnK 46 fv fun a c => (opds 66 (callArgs (opN c9_1111 5)).toList).f tr fun l => (argsB Tryz.f46.ntmps (Tryz.f46.params.size + Tryz.f46.nfree) 0).f (a ++ l ++ c) (tr0 Tryz.f46.ntmps) fun tr1 => getsK 66 [] tr fun vs => gcF (vs ++ s9.keep) .normal tr1 h) = .done .normal s10.tr s10.keep s10.bs := by kernel_rfl
theorem q20_0 : mergeK s16.bs t0 10 (fun t m => (resB G Tryz.f46.ntmps Tryz.f46.results.toList).f s16.tr ⟨t, m, [], 10⟩ fun vs => putsK 66 [] s16.keep (trTop 66) fun tr keep => dstK 66 (opN c9_1111 5).dst (oneOf vs) tr fun tr' => (regionB G 66 false (opsL c9_1111) (opsAt (opsL c9_1111) [])).f (run G 1000000) tr' ⟨t, m, [], 10⟩ fun tr2 h2 => gcF keep .normal tr2 h2) = .done .normal s17.tr s17.keep s17.bs := by kernel_rfl
theorem p20_1 : mergeK s9.bs t0 10 (fun t m => (regionB G 66 false (opsL c9_1111) (opsAt (opsL c9_1111) [0, 1, 2, 4, 3])).f (run G 1000000) s9.tr ⟨t, m, [], 10⟩ fun tr h => (opd 66 (callFx (opN c9_1111 5))).f tr fun fv => fnK 46 fv fun a c => (opds 66 (callArgs (opN c9_1111 5)).toList).f tr fun l => (argsB Tryz.f46.ntmps (Tryz.f46.params.size + Tryz.f46.nfree) 0).f (a ++ l ++ c) (tr0 Tryz.f46.ntmps) fun tr1 => getsK 66 [] tr fun vs => gcF (vs ++ s9.keep) .normal tr1 h) = .done .normal s10.tr s10.keep s10.bs := by kernel_rfl
theorem q20_1 : mergeK s16.bs t0 10 (fun t m => (resB G Tryz.f46.ntmps Tryz.f46.results.toList).f s16.tr ⟨t, m, [], 10⟩ fun vs => putsK 66 [] s16.keep (trTop 66) fun tr keep => dstK 66 (opN c9_1111 5).dst (oneOf vs) tr fun tr' => (regionB G 66 false (opsL c9_1111) (opsAt (opsL c9_1111) [])).f (run G 1000000) tr' ⟨t, m, [], 10⟩ fun tr2 h2 => gcF keep .normal tr2 h2) = .done .normal s17.tr s17.keep s17.bs := by kernel_rfl
theorem p20_2 : mergeK s9.bs t0 10 (fun t m => (regionB G 66 false (opsL c9_1111) (opsAt (opsL c9_1111) [0, 1, 4, 2, 3])).f (run G 1000000) s9.tr ⟨t, m, [], 10⟩ fun tr h => (opd 66 (callFx (opN c9_1111 5))).f tr fun fv => fnK 46 fv fun a c => (opds 66 (callArgs (opN c9_1111 5)).toList).f tr fun l => (argsB Tryz.f46.ntmps (Tryz.f46.params.size + Tryz.f46.nfree) 0).f (a ++ l ++ c) (tr0 Tryz.f46.ntmps) fun tr1 => getsK 66 [] tr fun vs => gcF (vs ++ s9.keep) .normal tr1 h) = .done .normal s10.tr s10.keep s10.bs := by kernel_rfl
theorem q20_2 : mergeK s16.bs t0 10 (fun t m => (resB G Tryz.f46.ntmps Tryz.f46.results.toList).f s16.tr ⟨t, m, [], 10⟩ fun vs => putsK 66 [] s16.keep (trTop 66) fun tr keep => dstK 66 (opN c9_1111 5).dst (oneOf vs) tr fun tr' => (regionB G 66 false (opsL c9_1111) (opsAt (opsL c9_1111) [])).f (run G 1000000) tr' ⟨t, m, [], 10⟩ fun tr2 h2 => gcF keep .normal tr2 h2) = .done .normal s17.tr s17.keep s17.bs := by kernel_rfl
theorem p20_3 : mergeK s9.bs t0 10 (fun t m => (regionB G 66 false (opsL c9_1111) (opsAt (opsL c9_1111) [0, 4, 1, 2, 3])).f (run G 1000000) s9.tr ⟨t, m, [], 10⟩ fun tr h => (opd 66 (callFx (opN c9_1111 5))).f tr fun fv => fnK 46 fv fun a c => (opds 66 (callArgs (opN c9_1111 5)).toList).f tr fun l => (argsB Tryz.f46.ntmps (Tryz.f46.params.size + Tryz.f46.nfree) 0).f (a ++ l ++ c) (tr0 Tryz.f46.ntmps) fun tr1 => getsK 66 [] tr fun vs => gcF (vs ++ s9.keep) .normal tr1 h) = .done .normal s10.tr s10.keep s10.bs := by kernel_rfl
theorem q20_3 : mergeK s16.bs t0 10 (fun t m => (resB G Tryz.f46.ntmps Tryz.f46.results.toList).f s16.tr ⟨t, m, [], 10⟩ fun vs => putsK 66 [] s16.keep (trTop 66) fun tr keep => dstK 66 (opN c9_1111 5).dst (oneOf vs) tr fun tr' => (regionB G 66 false (opsL c9_1111) (opsAt (opsL c9_1111) [])).f (run G 1000000) tr' ⟨t, m, [], 10⟩ fun tr2 h2 => gcF keep .normal tr2 h2) = .done .normal s17.tr s17.keep s17.bs := by kernel_rfl
theorem p20_4 : mergeK s9.bs t0 10 (fun t m => (regionB G 66 false (opsL c9_1111) (opsAt (opsL c9_1111) [4, 0, 1, 2, 3])).f (run G 1000000) s9.tr ⟨t, m, [], 10⟩ fun tr h => (opd 66 (callFx (opN c9_1111 5))).f tr fun fv => fnK 46 fv fun a c => (opds 66 (callArgs (opN c9_1111 5)).toList).f tr fun l => (argsB Tryz.f46.ntmps (Tryz.f46.params.size + Tryz.f46.nfree) 0).f (a ++ l ++ c) (tr0 Tryz.f46.ntmps) fun tr1 => getsK 66 [] tr fun vs => gcF (vs ++ s9.keep) .normal tr1 h) = .done .normal s10.tr s10.keep s10.bs := by kernel_rfl
theorem q20_4 : mergeK s16.bs t0 10 (fun t m => (resB G Tryz.f46.ntmps Tryz.f46.results.toList).f s16.tr ⟨t, m, [], 10⟩ fun vs => putsK 66 [] s16.keep (trTop 66) fun tr keep => dstK 66 (opN c9_1111 5).dst (oneOf vs) tr fun tr' => (regionB G 66 false (opsL c9_1111) (opsAt (opsL c9_1111) [])).f (run G 1000000) tr' ⟨t, m, [], 10⟩ fun tr2 h2 => gcF keep .normal tr2 h2) = .done .normal s17.tr s17.keep s17.bs := by kernel_rfl
theorem e20 : c9_1111 = .region (idL c9_1111) (opsL c9_1111).toArray (drawL c9_1111) := by kernel_rfl
theorem f20 : G.ft.get 46 = some Tryz.f46 := by kernel_rfl
theorem g20 : Tryz.f46.body = some c46_ := by kernel_rfl
theorem o20 : (opsL c9_1111)[5]? = some (opN c9_1111 5) := by kernel_rfl
theorem o20' : (opN c9_1111 5).op = .call ⟨.value (callFx (opN c9_1111 5)), callArgs (opN c9_1111 5), callAt (opN c9_1111 5)⟩ := by kernel_rfl
theorem d20 : ordersOf (opsL c9_1111) (drawL c9_1111) = ([([0, 1, 2, 3, 4], []), ([0, 1, 2, 4, 3], []), ([0, 1, 4, 2, 3], []), ([0, 4, 1, 2, 3], []), ([4, 0, 1, 2, 3], [])] : List (List Nat × List Nat)).map fun p => p.1 ++ 5 :: p.2 := by kernel_rfl
theorem n20 {A : Bas} (h : A.At G t0 10) : A.Runs 66 c9_1111 s9 .normal s17 := by
  rw [e20]
  refine Bas.callO (n := 5) (N := 1000000) (f := 46) (S1 := s10) (S2 := s16) (regs := []) (orders := [([0, 1, 2, 3, 4], []), ([0, 1, 2, 4, 3], []), ([0, 1, 4, 2, 3], []), ([0, 4, 1, 2, 3], []), ([4, 0, 1, 2, 3], [])]) o20 o20' (by kernel_rfl) (by rw [h.g]; exact f20) g20 d20 (by kernel_rfl) ?_ (x := .normal) (by simp) (n19 h) ?_
  · intro p hp
    rw [h.g, h.t, h.n]
    simp only [List.mem_cons, List.not_mem_nil, or_false] at hp
    rcases hp with rfl | rfl | rfl | rfl | rfl
    · dsimp only
      exact p20_0
    · dsimp only
      exact p20_1
    · dsimp only
      exact p20_2
    · dsimp only
      exact p20_3
    · dsimp only
      exact p20_4
  · intro p hp
    rw [h.g, h.t, h.n]
    simp only [List.mem_cons, List.not_mem_nil, or_false] at hp
    rcases hp with rfl | rfl | rfl | rfl | rfl
    · dsimp only
      exact q20_0
    · dsimp only
      exact q20_1
    · dsimp only
      exact q20_2
    · dsimp only
      exact q20_3
    · dsimp only
      exact q20_4
theorem e21 : c9_111 = .seq c9_1110 c9_1111 := by kernel_rfl
theorem n21 {A : Bas} (h : A.At G t0 10) : A.Runs 66 c9_111 s8 .normal s17 := by
  rw [e21]
  exact Bas.seq (n8 h) (n20 h)
theorem e22 : c9_11 = .seq c9_110 c9_111 := by kernel_rfl
theorem n22 {A : Bas} (h : A.At G t0 10) : A.Runs 66 c9_11 s7 .normal s17 := by
  rw [e22]
  exact Bas.seq (n7 h) (n21 h)
theorem e23 : c9_1 = .seq c9_10 c9_11 := by kernel_rfl
theorem n23 {A : Bas} (h : A.At G t0 10) : A.Runs 66 c9_1 s6 .normal s17 := by
  rw [e23]
  exact Bas.seq (n6 h) (n22 h)
theorem e24 : c9_ = .seq c9_0 c9_1 := by kernel_rfl
theorem n24 {A : Bas} (h : A.At G t0 10) : A.Runs 66 c9_ s5 .normal s17 := by
  rw [e24]
  exact Bas.seq (n5 h) (n23 h)
theorem p25_0 : mergeK s4.bs t0 10 (fun t m => (regionB G 93 false (opsL c4_1110) (opsAt (opsL c4_1110) [0, 1, 2])).f (run G 1000000) s4.tr ⟨t, m, [], 10⟩ fun tr h => (opd 93 (callFx (opN c4_1110 3))).f tr fun fv => fnK 9 fv fun a c => (opds 93 (callArgs (opN c4_1110 3)).toList).f tr fun l => (argsB Tryz.f9.ntmps (Tryz.f9.params.size + Tryz.f9.nfree) 0).f (a ++ l ++ c) (tr0 Tryz.f9.ntmps) fun tr1 => getsK 93 [0,1] tr fun vs => gcF (vs ++ s4.keep) .normal tr1 h) = .done .normal s5.tr s5.keep s5.bs := by kernel_rfl
theorem q25_0 : mergeK s17.bs t0 10 (fun t m => (resB G Tryz.f9.ntmps Tryz.f9.results.toList).f s17.tr ⟨t, m, [], 10⟩ fun vs => putsK 93 [0,1] s17.keep (trTop 93) fun tr keep => dstK 93 (opN c4_1110 3).dst (oneOf vs) tr fun tr' => (regionB G 93 false (opsL c4_1110) (opsAt (opsL c4_1110) [])).f (run G 1000000) tr' ⟨t, m, [], 10⟩ fun tr2 h2 => gcF keep .normal tr2 h2) = .done .normal s18.tr s18.keep s18.bs := by kernel_rfl
theorem e25 : c4_1110 = .region (idL c4_1110) (opsL c4_1110).toArray (drawL c4_1110) := by kernel_rfl
theorem f25 : G.ft.get 9 = some Tryz.f9 := by kernel_rfl
theorem g25 : Tryz.f9.body = some c9_ := by kernel_rfl
theorem o25 : (opsL c4_1110)[3]? = some (opN c4_1110 3) := by kernel_rfl
theorem o25' : (opN c4_1110 3).op = .call ⟨.value (callFx (opN c4_1110 3)), callArgs (opN c4_1110 3), callAt (opN c4_1110 3)⟩ := by kernel_rfl
theorem d25 : ordersOf (opsL c4_1110) (drawL c4_1110) = ([([0, 1, 2], [])] : List (List Nat × List Nat)).map fun p => p.1 ++ 3 :: p.2 := by kernel_rfl
theorem n25 {A : Bas} (h : A.At G t0 10) : A.Runs 93 c4_1110 s4 .normal s18 := by
  rw [e25]
  refine Bas.callO (n := 3) (N := 1000000) (f := 9) (S1 := s5) (S2 := s17) (regs := [0,1]) (orders := [([0, 1, 2], [])]) o25 o25' (by kernel_rfl) (by rw [h.g]; exact f25) g25 d25 (by kernel_rfl) ?_ (x := .normal) (by simp) (n24 h) ?_
  · intro p hp
    rw [h.g, h.t, h.n]
    simp only [List.mem_cons, List.not_mem_nil, or_false] at hp
    rcases hp with rfl
    · dsimp only
      exact p25_0
  · intro p hp
    rw [h.g, h.t, h.n]
    simp only [List.mem_cons, List.not_mem_nil, or_false] at hp
    rcases hp with rfl
    · dsimp only
      exact q25_0
theorem n26 {A : Bas} (h : A.At G t0 10) : A.Runs 47 c11_0 s19 .normal s20 := by
  refine Bas.leaf (n := 1000000) ?_
  rw [h.g, h.t, h.n]
  exact l26
theorem n27 {A : Bas} (h : A.At G t0 10) : A.Runs 47 c11_100 s20 .normal s21 := by
  refine Bas.leaf (n := 1000000) ?_
  rw [h.g, h.t, h.n]
  exact l27
theorem n28 {A : Bas} (h : A.At G t0 10) : A.Runs 47 c11_1000 s21 .normal s22 := by
  refine Bas.leaf (n := 1000000) ?_
  rw [h.g, h.t, h.n]
  exact l28
theorem n29 {A : Bas} (h : A.At G t0 10) : A.Runs 47 c11_1001000 s22 .normal s23 := by
  refine Bas.leaf (n := 1000000) ?_
  rw [h.g, h.t, h.n]
  exact l29
theorem n30 {A : Bas} (h : A.At G t0 10) : A.Runs 47 c11_100100100 s23 .normal s24 := by
  refine Bas.leaf (n := 1000000) ?_
  rw [h.g, h.t, h.n]
  exact l30
theorem n31 {A : Bas} (h : A.At G t0 10) : A.Runs 47 c11_10010010 s24 (.exit 2) s25 := by
  refine Bas.leaf (n := 1000000) ?_
  rw [h.g, h.t, h.n]
  exact l31
theorem e32 : c11_10010010 = .loop c11_100100100 := by kernel_rfl
theorem n32 {A : Bas} (h : A.At G t0 10) : A.Runs 47 c11_10010010 s23 (.exit 2) s25 := by
  have hb := n31 h
  rw [e32] at hb ⊢
  exact Bas.loop (n30 h) hb
theorem e33 : c11_1001001 = .block (idB c11_1001001) c11_10010010 := by kernel_rfl
theorem n33 {A : Bas} (h : A.At G t0 10) : A.Runs 47 c11_1001001 s23 .normal s25 := by
  rw [e33]
  exact Bas.blockX (n32 h)
theorem e34 : c11_100100 = .seq c11_1001000 c11_1001001 := by kernel_rfl
theorem n34 {A : Bas} (h : A.At G t0 10) : A.Runs 47 c11_100100 s22 .normal s25 := by
  rw [e34]
  exact Bas.seq (n29 h) (n33 h)
theorem e35 : c11_10010 = .block (idB c11_10010) c11_100100 := by kernel_rfl
theorem n35 {A : Bas} (h : A.At G t0 10) : A.Runs 47 c11_10010 s22 .normal s25 := by
  rw [e35]
  exact Bas.block (by simp) (n34 h)
theorem n36 {A : Bas} (h : A.At G t0 10) : A.Runs 47 c11_10011 s25 .normal s26 := by
  refine Bas.leaf (n := 1000000) ?_
  rw [h.g, h.t, h.n]
  exact l36
theorem e37 : c11_1001 = .seq c11_10010 c11_10011 := by kernel_rfl
theorem n37 {A : Bas} (h : A.At G t0 10) : A.Runs 47 c11_1001 s22 .normal s26 := by
  rw [e37]
  exact Bas.seq (n35 h) (n36 h)
theorem e38 : c11_100 = .seq c11_1000 c11_1001 := by kernel_rfl
theorem n38 {A : Bas} (h : A.At G t0 10) : A.Runs 47 c11_100 s21 .normal s26 := by
  rw [e38]
  exact Bas.seq (n28 h) (n37 h)
theorem n39 {A : Bas} (h : A.At G t0 10) : A.Runs 47 c11_10 s26 (.exit 0) s27 := by
  refine Bas.leaf (n := 1000000) ?_
  rw [h.g, h.t, h.n]
  exact l39
theorem e40 : c11_10 = .loop c11_100 := by kernel_rfl
theorem n40 {A : Bas} (h : A.At G t0 10) : A.Runs 47 c11_10 s21 (.exit 0) s27 := by
  have hb := n39 h
  rw [e40] at hb ⊢
  exact Bas.loop (n38 h) hb
theorem e41 : c11_10 = .loop c11_100 := by kernel_rfl
theorem n41 {A : Bas} (h : A.At G t0 10) : A.Runs 47 c11_10 s20 (.exit 0) s27 := by
  have hb := n40 h
  rw [e41] at hb ⊢
  exact Bas.loop (n27 h) hb
theorem e42 : c11_1 = .block (idB c11_1) c11_10 := by kernel_rfl
theorem n42 {A : Bas} (h : A.At G t0 10) : A.Runs 47 c11_1 s20 .normal s27 := by
  rw [e42]
  exact Bas.blockX (n41 h)
theorem e43 : c11_ = .seq c11_0 c11_1 := by kernel_rfl
theorem n43 {A : Bas} (h : A.At G t0 10) : A.Runs 47 c11_ s19 .normal s27 := by
  rw [e43]
  exact Bas.seq (n26 h) (n42 h)
theorem p44_0 : mergeK s18.bs t0 10 (fun t m => (regionB G 93 false (opsL c4_11110) (opsAt (opsL c4_11110) [0])).f (run G 1000000) s18.tr ⟨t, m, [], 10⟩ fun tr h => (opd 93 (callFx (opN c4_11110 1))).f tr fun fv => fnK 11 fv fun a c => (opds 93 (callArgs (opN c4_11110 1)).toList).f tr fun l => (argsB Tryz.f11.ntmps (Tryz.f11.params.size + Tryz.f11.nfree) 0).f (a ++ l ++ c) (tr0 Tryz.f11.ntmps) fun tr1 => getsK 93 [0,1] tr fun vs => gcF (vs ++ s18.keep) .normal tr1 h) = .done .normal s19.tr s19.keep s19.bs := by kernel_rfl
theorem q44_0 : mergeK s27.bs t0 10 (fun t m => (resB G Tryz.f11.ntmps Tryz.f11.results.toList).f s27.tr ⟨t, m, [], 10⟩ fun vs => putsK 93 [0,1] s27.keep (trTop 93) fun tr keep => dstK 93 (opN c4_11110 1).dst (oneOf vs) tr fun tr' => (regionB G 93 false (opsL c4_11110) (opsAt (opsL c4_11110) [])).f (run G 1000000) tr' ⟨t, m, [], 10⟩ fun tr2 h2 => gcF keep .normal tr2 h2) = .done .normal s28.tr s28.keep s28.bs := by kernel_rfl
theorem e44 : c4_11110 = .region (idL c4_11110) (opsL c4_11110).toArray (drawL c4_11110) := by kernel_rfl
theorem f44 : G.ft.get 11 = some Tryz.f11 := by kernel_rfl
theorem g44 : Tryz.f11.body = some c11_ := by kernel_rfl
theorem o44 : (opsL c4_11110)[1]? = some (opN c4_11110 1) := by kernel_rfl
theorem o44' : (opN c4_11110 1).op = .call ⟨.value (callFx (opN c4_11110 1)), callArgs (opN c4_11110 1), callAt (opN c4_11110 1)⟩ := by kernel_rfl
theorem d44 : ordersOf (opsL c4_11110) (drawL c4_11110) = ([([0], [])] : List (List Nat × List Nat)).map fun p => p.1 ++ 1 :: p.2 := by kernel_rfl
theorem n44 {A : Bas} (h : A.At G t0 10) : A.Runs 93 c4_11110 s18 .normal s28 := by
  rw [e44]
  refine Bas.callO (n := 1) (N := 1000000) (f := 11) (S1 := s19) (S2 := s27) (regs := [0,1]) (orders := [([0], [])]) o44 o44' (by kernel_rfl) (by rw [h.g]; exact f44) g44 d44 (by kernel_rfl) ?_ (x := .normal) (by simp) (n43 h) ?_
  · intro p hp
    rw [h.g, h.t, h.n]
    simp only [List.mem_cons, List.not_mem_nil, or_false] at hp
    rcases hp with rfl
    · dsimp only
      exact p44_0
  · intro p hp
    rw [h.g, h.t, h.n]
    simp only [List.mem_cons, List.not_mem_nil, or_false] at hp
    rcases hp with rfl
    · dsimp only
      exact q44_0
theorem n45 {A : Bas} (h : A.At G t0 10) : A.Runs 93 c4_111110 s28 .normal s29 := by
  refine Bas.leaf (n := 1000000) ?_
  rw [h.g, h.t, h.n]
  exact l45
theorem n46 {A : Bas} (h : A.At G t0 10) : A.Runs 93 c4_1111110 s29 .normal s30 := by
  refine Bas.leaf (n := 1000000) ?_
  rw [h.g, h.t, h.n]
  exact l46
theorem n47 {A : Bas} (h : A.At G t0 10) : A.Runs 93 c4_11111110 s30 .normal s31 := by
  refine Bas.leaf (n := 1000000) ?_
  rw [h.g, h.t, h.n]
  exact l47
theorem n48 {A : Bas} (h : A.At G t0 10) : A.Runs 93 c4_111111110 s31 .normal s32 := by
  refine Bas.leaf (n := 1000000) ?_
  rw [h.g, h.t, h.n]
  exact l48
theorem n49 {A : Bas} (h : A.At G t0 10) : A.Runs 93 c4_1111111110 s32 .normal s33 := by
  refine Bas.leaf (n := 1000000) ?_
  rw [h.g, h.t, h.n]
  exact l49
theorem n50 {A : Bas} (h : A.At G t0 10) : A.Runs 93 c4_11111111110 s33 .normal s34 := by
  refine Bas.leaf (n := 1000000) ?_
  rw [h.g, h.t, h.n]
  exact l50
theorem n51 {A : Bas} (h : A.At G t0 10) : A.Runs 93 c4_111111111110 s34 .normal s35 := by
  refine Bas.leaf (n := 1000000) ?_
  rw [h.g, h.t, h.n]
  exact l51
theorem n52 {A : Bas} (h : A.At G t0 10) : A.Runs 93 c4_1111111111110 s35 .normal s36 := by
  refine Bas.leaf (n := 1000000) ?_
  rw [h.g, h.t, h.n]
  exact l52
theorem n53 {A : Bas} (h : A.At G t0 10) : A.Runs 93 c4_1111111111111 s36 .ret s37 := by
  refine Bas.leaf (n := 1000000) ?_
  rw [h.g, h.t, h.n]
  exact l53
theorem e54 : c4_111111111111 = .seq c4_1111111111110 c4_1111111111111 := by kernel_rfl
theorem n54 {A : Bas} (h : A.At G t0 10) : A.Runs 93 c4_111111111111 s35 .ret s37 := by
  rw [e54]
  exact Bas.seq (n52 h) (n53 h)
theorem e55 : c4_11111111111 = .seq c4_111111111110 c4_111111111111 := by kernel_rfl
theorem n55 {A : Bas} (h : A.At G t0 10) : A.Runs 93 c4_11111111111 s34 .ret s37 := by
  rw [e55]
  exact Bas.seq (n51 h) (n54 h)
theorem e56 : c4_1111111111 = .seq c4_11111111110 c4_11111111111 := by kernel_rfl
theorem n56 {A : Bas} (h : A.At G t0 10) : A.Runs 93 c4_1111111111 s33 .ret s37 := by
  rw [e56]
  exact Bas.seq (n50 h) (n55 h)
theorem e57 : c4_111111111 = .seq c4_1111111110 c4_1111111111 := by kernel_rfl
theorem n57 {A : Bas} (h : A.At G t0 10) : A.Runs 93 c4_111111111 s32 .ret s37 := by
  rw [e57]
  exact Bas.seq (n49 h) (n56 h)
theorem e58 : c4_11111111 = .seq c4_111111110 c4_111111111 := by kernel_rfl
theorem n58 {A : Bas} (h : A.At G t0 10) : A.Runs 93 c4_11111111 s31 .ret s37 := by
  rw [e58]
  exact Bas.seq (n48 h) (n57 h)
theorem e59 : c4_1111111 = .seq c4_11111110 c4_11111111 := by kernel_rfl
theorem n59 {A : Bas} (h : A.At G t0 10) : A.Runs 93 c4_1111111 s30 .ret s37 := by
  rw [e59]
  exact Bas.seq (n47 h) (n58 h)
theorem e60 : c4_111111 = .seq c4_1111110 c4_1111111 := by kernel_rfl
theorem n60 {A : Bas} (h : A.At G t0 10) : A.Runs 93 c4_111111 s29 .ret s37 := by
  rw [e60]
  exact Bas.seq (n46 h) (n59 h)
theorem e61 : c4_11111 = .seq c4_111110 c4_111111 := by kernel_rfl
theorem n61 {A : Bas} (h : A.At G t0 10) : A.Runs 93 c4_11111 s28 .ret s37 := by
  rw [e61]
  exact Bas.seq (n45 h) (n60 h)
theorem e62 : c4_1111 = .seq c4_11110 c4_11111 := by kernel_rfl
theorem n62 {A : Bas} (h : A.At G t0 10) : A.Runs 93 c4_1111 s18 .ret s37 := by
  rw [e62]
  exact Bas.seq (n44 h) (n61 h)
theorem e63 : c4_111 = .seq c4_1110 c4_1111 := by kernel_rfl
theorem n63 {A : Bas} (h : A.At G t0 10) : A.Runs 93 c4_111 s4 .ret s37 := by
  rw [e63]
  exact Bas.seq (n25 h) (n62 h)
theorem e64 : c4_11 = .seq c4_110 c4_111 := by kernel_rfl
theorem n64 {A : Bas} (h : A.At G t0 10) : A.Runs 93 c4_11 s2 .ret s37 := by
  rw [e64]
  exact Bas.seq (n4 h) (n63 h)
theorem e65 : c4_1 = .seq c4_10 c4_11 := by kernel_rfl
theorem n65 {A : Bas} (h : A.At G t0 10) : A.Runs 93 c4_1 s1 .ret s37 := by
  rw [e65]
  exact Bas.seq (n1 h) (n64 h)
theorem e66 : c4_ = .seq c4_0 c4_1 := by kernel_rfl
theorem n66 {A : Bas} (h : A.At G t0 10) : A.Runs 93 c4_ s0 .ret s37 := by
  rw [e66]
  exact Bas.seq (n0 h) (n65 h)
end
end Go.Ev.Aw
