/- A part of the proof of TopShares: for every row of weights the law returns true, and the row reads as before. No condition beyond the statement's own. -/
import Derived.Test.YtlhpdegoglgdpaaGreatDoorTsA
import Derived.Test.YtlhpdegoglgdpaaGreatDoorEvPl
set_option linter.all false
set_option linter.unusedVariables false
set_option linter.unusedSimpArgs false
set_option linter.constructorNameAsVariable false
set_option linter.deprecated false
namespace Go.Proofs.Sh
open Go.RowKit Go.Ev Go.Ev.Aw
theorem kT_ok : (List.range 100).all (fun k => match F64.add (FloatKind.f64.nearest (k : Int)) 4602678819172646912 with | some a => F64.div a 4636737291354636288 == some (uK k) | none => false) = true := by decide +kernel
theorem kT_ok' {k : Nat} (h : k < 100) : ∃ a, F64.add (FloatKind.f64.nearest (k : Int)) 4602678819172646912 = some a ∧ F64.div a 4636737291354636288 = some (uK k) := by
  have := List.all_eq_true.1 kT_ok k (List.mem_range.2 h)
  split at this
  · rename_i a ha
    exact ⟨a, ha, eq_of_beq this⟩
  · cases this
theorem run_flt_quo {P : Program} {w : World} {xt : TypeId} (k : FloatKind) (a b r : Nat) (h : k.format.div a b = some r) : (Go.binOp .quo xt (.float k a) (.float k b)).run P w = .ok (.float k r) w := by
  simp [Go.binOp, Op.floatArith, h]
theorem run_conv34 {w : World} (k : Int) : (convert 3 34 (.int .i64 k)).run Tryz.prog w = .ok (.float .f64 (FloatKind.f64.nearest k)) w := by
  simp [convert, Go.run_underlying Tryz.underlying3, Go.run_underlying Tryz.underlying34, Conv.intToFloat]
def nmS (i : Nat) : ByteArray := ⟨#[119, UInt8.ofNat (48 + i)]⟩
def enmS (i : Nat) : ByteArray := ⟨#[101, 119, UInt8.ofNat (48 + i)]⟩
def decV (i : Nat) : Value := .agg #[.int .i64 1, .int .i64 0, .string ⟨#[114]⟩, .int .i64 0, .string (nmS i), .string (enmS i)]
def gotRow (ws : List Nat) (k : Nat) : Array Value := ((List.range ws.length).map fun i => Value.int .i64 (got ws k i)).toArray
attribute [local go_sem] run_store_float run_flt_gtr
theorem nmS_size (i : Nat) : (nmS i).size = 2 := rfl
theorem enmS_cmp (i : Nat) : ((enmS i).toList == (({ data := #[101] } : ByteArray) ++ nmS i).toList) = true := by
  have : enmS i = ({ data := #[101] } : ByteArray) ++ nmS i := by
    apply ByteArray.ext
    simp [enmS, nmS, ByteArray.append_eq, ByteArray.data_append]
  rw [this]; simp
theorem nmS_idx (i : Nat) (h : i < 8) (hh : 1 < (nmS i).size) : (((nmS i)[1].toNat : Int) - 48) % 256 = (i : Int) := by
  have : (nmS i)[1] = UInt8.ofNat (48 + i) := rfl
  rw [this]
  simp; omega
theorem got_cell {ws : List Nat} {k i g : Nat} {w : World} (h : w.heap[g]? = some (.cells (gotRow ws k) 3 (0, 0))) (hi : i < ws.length) : w.cell? ⟨g, i, none⟩ = some (.int .i64 (got ws k i)) := by
  simp [World.cell?, h, gotRow, hi]
theorem got_free {ws : List Nat} {k i g : Nat} {w : World} (h : w.heap[g]? = some (.cells (gotRow ws k) 3 (0, 0))) : w.frozen? ⟨g, i, none⟩ = false := by
  simp [World.frozen?, h]
theorem got_set {ws : List Nat} {k i g : Nat} {w : World} (h : w.heap[g]? = some (.cells (gotRow ws k) 3 (0, 0))) (hi : i < ws.length) (h1 : (ws.take i).sum ≤ k) (h2 : k < (ws.take (i + 1)).sum) :
    (w.setCell ⟨g, i, none⟩ (.int .i64 (got ws k i + 1))).heap[g]? = some (.cells (gotRow ws (k + 1)) 3 (0, 0)) := by
  have e : (gotRow ws k).setIfInBounds i (.int .i64 (got ws k i + 1)) = gotRow ws (k + 1) := by
    apply Array.toList_inj.1
    rw [Array.toList_setIfInBounds]
    unfold gotRow
    apply List.ext_getElem
    · simp
    · intro q a b
      rw [List.getElem_set]
      by_cases hq : i = q
      · subst hq
        simp [got_hit ws h1 h2]
      · rw [if_neg hq]
        simp [got_miss ws h1 h2 (fun e => hq e.symm)]
  rw [← e]
  simp [World.setCell, h, Array.getElem?_modify]
theorem make_got (ws : List Nat) (hn : ws.length ≤ 8) (w : World) : (Instr.makeSlice 22 (.int .i64 ws.length) (.int .i64 ws.length)).run Tryz.prog w = .ok (.slice (some ⟨w.heap.size, 0, none⟩) ws.length ws.length) (w.alloc (.cells (gotRow ws 0) 3)) := by
  obtain ⟨i, z, h1, h2, h3, h4, h5⟩ := (Elem.of (z := .int .i64 0) Tryz.underlying22 (by kernel_rfl) rfl (by decide) : Elem Tryz.prog 22 3 1 8).inf
  have hz : z = .int .i64 0 := by
    have h : (Tryz.prog.info? 3).map (fun i => i.zero) = some (some (.int .i64 0)) := by kernel_rfl
    rw [h1] at h
    simp only [Option.map_some, Option.some.injEq] at h
    rw [h2] at h
    injection h
  subst hz
  have := run_make (P := Tryz.prog) w 22 3 i (.int .i64 0) Tryz.underlying22 h1 h2 .i64 .i64 ws.length ws.length (by omega) (by omega) (by rw [h4]; omega) (by omega)
  rw [this, h3]
  simp only [Int.toNat_natCast, Nat.mul_one]
  have e : madeCells (Value.int .i64 0).cells ws.length = gotRow ws 0 := by
    unfold madeCells gotRow
    apply Array.toList_inj.1
    apply List.ext_getElem
    · simp
    · intro q a b
      simp [got_zero, Value.cells]
      rw [Nat.mod_one]; rfl
  rw [e]
set_option maxRecDepth 100000 in
set_option maxHeartbeats 4000000 in
theorem tail_any (ws : List Nat) (hn0 : 0 < ws.length) (hn : ws.length ≤ 8) (hsum : ws.sum = 100) (c j cap : Nat) (tb : Nat) (tv hv : Value) (W : World)
    (hcells : ∀ (i x : Nat), ws[i]? = some x → W.cell? ⟨c, j + i, none⟩ = some (.int .i64 x)) (hc : c < W.heap.size)
    (t0 t1 t2 : Value) (htv : tv = .agg #[t0, t1, t2]) (h0 : W.cell? ⟨tb, 0, none⟩ = some t0) (h1 : W.cell? ⟨tb, 1, none⟩ = some t1) (h2 : W.cell? ⟨tb, 2, none⟩ = some t2) (htb : tb < W.heap.size)
    (hD : ∀ (k : Nat) (w : World), k < 100 → OldKept W w → ∃ i, i < ws.length ∧ (ws.take i).sum ≤ k ∧ k < (ws.take (i + 1)).sum ∧
      Calls Tryz.prog 6 #[tv, hv, .string ⟨#[71, 69, 84]⟩, .string ⟨#[97]⟩, .string ⟨#[47]⟩, .float .f64 (uK k), .int .i64 k] w fun e w' => e = .returned (decV i) ∧ OldKept w w')
    (x1 x2 x3 x4 x5 x7 x8 x10 x11 x12 x13 x14 x15 x16 x17 x18 x19 x20 x21 x22 x23 x24 x25 x26 x27 x28 x29 x30 x31 x32 x33 x34 x35 x36 x37 x38 x39 x40 x41 x42 x43 x44 x45 x46 x47 x48 x49 x50 x51 x52 x53 x54 x55 x56 x57 x58 x59 x60 x61 x62 x63 x64 x65 x66 x67 x68 x69 x70 x71 x72 x73 x74 x75 x76 x77 x78 x79 x80 x81 x82 x83 x84 x85 x86 x87 x88 x89 x90 x91 x92 x93 x94 x95 x96 x97 x98 x99 x100 x101 x102 x103 x104 x105 x106 x107 x108 x109 x110 x111 x112 x113 x114 x115 x116 x117 x118 x119 x120 x121 x122 x123 x124 x125 x126 x127 x128 x129 x130 x131 x132 x133 x134 x135 x136 x137 x138 x139 x140 x141 x142 x143 x144 x145 x146 x147 x148 x149 x150 x151 x152 x153 x154 x155 x156 : Value) (Q : Exit → Act → World → Prop) (hQ : ∀ a w, a.defers = [] → a.tmps.getD 2 undef = .bool true → OldKept W w → Q .ret a w) :
    tR.wp Tryz.prog Q { tmps := #[(.slice (some ⟨c, j, none⟩) ws.length cap), x1, x2, x3, x4, x5, hv, x7, x8, (.pointer (some ⟨tb, 0, none⟩)), x10, x11, x12, x13, x14, x15, x16, x17, x18, x19, x20, x21, x22, x23, x24, x25, x26, x27, x28, x29, x30, x31, x32, x33, x34, x35, x36, x37, x38, x39, x40, x41, x42, x43, x44, x45, x46, x47, x48, x49, x50, x51, x52, x53, x54, x55, x56, x57, x58, x59, x60, x61, x62, x63, x64, x65, x66, x67, x68, x69, x70, x71, x72, x73, x74, x75, x76, x77, x78, x79, x80, x81, x82, x83, x84, x85, x86, x87, x88, x89, x90, x91, x92, x93, x94, x95, x96, x97, x98, x99, x100, x101, x102, x103, x104, x105, x106, x107, x108, x109, x110, x111, x112, x113, x114, x115, x116, x117, x118, x119, x120, x121, x122, x123, x124, x125, x126, x127, x128, x129, x130, x131, x132, x133, x134, x135, x136, x137, x138, x139, x140, x141, x142, x143, x144, x145, x146, x147, x148, x149, x150, x151, x152, x153, x154, x155, x156], defers := [] } W := by
  subst htv
  have hmk : ∀ w, (Instr.makeSlice 22 (.int .i64 ws.length) (.int .i64 ws.length)).run Tryz.prog w = .ok (.slice (some ⟨w.heap.size, 0, none⟩) ws.length ws.length) (w.alloc (.cells (gotRow ws 0) 3)) := make_got ws hn
  unfold tR bodyOf
  simp only [Tryz.f3, sub]
  go_wp2
  have hb0 : Below W.heap.size W (W.alloc (.cells (gotRow ws 0) 3)) := (Below.refl _ W).alloc (Nat.le_refl _) _
  have hg0 : (W.alloc (.cells (gotRow ws 0) 3)).heap[W.heap.size]? = some (.cells (gotRow ws 0) 3 (0, 0)) := heap_alloc_new W _
  go_loopw [12] (fun iv wr => ∃ k : Nat, k ≤ 100 ∧ iv = .int .i64 k ∧ wr.heap[W.heap.size]? = some (.cells (gotRow ws k) 3 (0, 0)) ∧ Below W.heap.size W wr) (fun iv _ => 100 - (intOf iv).toNat)
  case atStart => exact ⟨0, by omega, rfl, hg0, hb0⟩
  case round =>
    obtain ⟨k, hk, rfl, hg, hbel⟩ := hrel
    clear hb0 hg0
    by_cases hlt : k < 100
    · obtain ⟨i, hi, hp1, hp2, hcall⟩ := hD k wr hlt ⟨hbel.block, hbel.size, hbel.os, hbel.tape, hbel.output⟩
      obtain ⟨fa, hfa, hfq⟩ := kT_ok' hlt
      have hconv := fun w => run_conv34 (w := w) (k : Int)
      have hadd := fun w => run_flt_add (P := Tryz.prog) (w := w) (xt := 34) .f64 _ _ _ hfa
      have hquo := fun w => run_flt_quo (P := Tryz.prog) (w := w) (xt := 34) .f64 _ _ _ hfq
      have c0 := (hbel.cell (p := ⟨tb, 0, none⟩) htb).trans h0
      have c1 := (hbel.cell (p := ⟨tb, 1, none⟩) htb).trans h1
      have c2 := (hbel.cell (p := ⟨tb, 2, none⟩) htb).trans h2
      have hgl : W.heap.size < wr.heap.size := (Array.getElem?_eq_some_iff.1 hg).1
      have hz := nmS_size i
      have hgb : got ws k i ≤ 100 := by unfold got; omega
      have hcmp := enmS_cmp i
      have hidx := fun hh => nmS_idx i (by omega) hh
      clear hfa hfq
      go_wp2_with (first
        | (go_at_call 6; go_loud (refine hcall.mono ?_); rintro e w2 ⟨rfl, hold⟩; have hg2 := (hold.heap _ hgl).trans hg; have cg := got_cell hg2 hi; have cf := got_free (i := i) hg2; have hgl2 : W.heap.size < w2.heap.size := Nat.lt_of_lt_of_le hgl hold.size; unfold decV)
        | fail)
      go_roundw
      case rel =>
        have b2 : Below W.heap.size W w2 := hbel.trans ⟨hold.os, hold.tape, hold.output, hold.size, fun q hq => hold.heap q (Nat.lt_of_lt_of_le hq hbel.size)⟩
        have b3 := b2.setCell (p := ⟨W.heap.size, i, none⟩) (Nat.le_refl _) (.int .i64 (got ws k i + 1))
        have hs := (Array.getElem?_eq_some_iff.1 (got_set hg2 hi hp1 hp2)).1
        exact ⟨k + 1, by omega, by go_num, (Below.heap_alloc _ _ _ hs).trans (got_set hg2 hi hp1 hp2), b3.alloc b3.size _⟩
      case measure => simp [intOf]; omega
    · have hk2 : k = 100 := by omega
      subst hk2
      have HG := Lib.hid hg
      clear hD hg h0 h1 h2 hmk
      go_wp2
      go_loopw [14] (fun iv wr => ∃ q : Nat, q ≤ ws.length ∧ iv = .int .i64 q ∧ Hid (wr.heap[W.heap.size]? = some (.cells (gotRow ws 100) 3 (0, 0))) ∧ Below W.heap.size W wr) (fun iv _ => ws.length - (intOf iv).toNat)
      case atStart => exact ⟨0, Nat.zero_le _, rfl, HG, hbel⟩
      case round =>
        obtain ⟨q, hq, rfl, hg, hbel2⟩ := hrel
        clear HG hbel
        by_cases hlt2 : q < ws.length
        · have hw := List.getElem?_eq_getElem hlt2
          have cw := (hbel2.cell (p := ⟨c, j + q, none⟩) hc).trans (hcells q _ hw)
          have cg := got_cell hg.out hlt2
          rw [got_all ws hsum q _ hw] at cg
          clear hw hcells hsum
          go_wp2
          go_quiet (fail)
          go_wp2
          go_roundw
          case rel => exact ⟨q + 1, by omega, by go_num, hg, below_drewN hbel2 _⟩
          case measure => simp [intOf]; omega
        · go_wp2
          exact hQ _ _ rfl rfl ⟨hbel2.block, hbel2.size, hbel2.os, hbel2.tape, hbel2.output⟩
theorem arr_of (tm : Array Value) {n : Nat} (h : tm.size = n) : ∃ f : Nat → Value, tm = ⟨(List.range n).map f⟩ := by
  refine ⟨fun i => tm.getD i undef, ?_⟩
  subst h
  apply Array.ext
  · simp
  · intro i h1 h2
    simp [h1]
set_option maxRecDepth 100000 in
theorem tail_arr (tm : Array Value) (hsz : tm.size = 157) (ws : List Nat) (hn0 : 0 < ws.length) (hn : ws.length ≤ 8) (hsum : ws.sum = 100) (c j cap : Nat) (tb : Nat) (tv hv : Value) (W : World)
    (r0 : tm.getD 0 undef = .slice (some ⟨c, j, none⟩) ws.length cap) (r6 : tm.getD 6 undef = hv) (r9 : tm.getD 9 undef = .pointer (some ⟨tb, 0, none⟩))
    (hcells : ∀ (i x : Nat), ws[i]? = some x → W.cell? ⟨c, j + i, none⟩ = some (.int .i64 x)) (hc : c < W.heap.size)
    (t0 t1 t2 : Value) (htv : tv = .agg #[t0, t1, t2]) (h0 : W.cell? ⟨tb, 0, none⟩ = some t0) (h1 : W.cell? ⟨tb, 1, none⟩ = some t1) (h2 : W.cell? ⟨tb, 2, none⟩ = some t2) (htb : tb < W.heap.size)
    (hD : ∀ (k : Nat) (w : World), k < 100 → OldKept W w → ∃ i, i < ws.length ∧ (ws.take i).sum ≤ k ∧ k < (ws.take (i + 1)).sum ∧
      Calls Tryz.prog 6 #[tv, hv, .string ⟨#[71, 69, 84]⟩, .string ⟨#[97]⟩, .string ⟨#[47]⟩, .float .f64 (uK k), .int .i64 k] w fun e w' => e = .returned (decV i) ∧ OldKept w w')
    (Q : Exit → Act → World → Prop) (hQ : ∀ a w, a.defers = [] → a.tmps.getD 2 undef = .bool true → OldKept W w → Q .ret a w) :
    tR.wp Tryz.prog Q { tmps := tm, defers := [] } W := by
  obtain ⟨f, rfl⟩ := arr_of tm hsz
  clear hsz
  have e : (⟨(List.range 157).map f⟩ : Array Value) = #[f 0, f 1, f 2, f 3, f 4, f 5, f 6, f 7, f 8, f 9, f 10, f 11, f 12, f 13, f 14, f 15, f 16, f 17, f 18, f 19, f 20, f 21, f 22, f 23, f 24, f 25, f 26, f 27, f 28, f 29, f 30, f 31, f 32, f 33, f 34, f 35, f 36, f 37, f 38, f 39, f 40, f 41, f 42, f 43, f 44, f 45, f 46, f 47, f 48, f 49, f 50, f 51, f 52, f 53, f 54, f 55, f 56, f 57, f 58, f 59, f 60, f 61, f 62, f 63, f 64, f 65, f 66, f 67, f 68, f 69, f 70, f 71, f 72, f 73, f 74, f 75, f 76, f 77, f 78, f 79, f 80, f 81, f 82, f 83, f 84, f 85, f 86, f 87, f 88, f 89, f 90, f 91, f 92, f 93, f 94, f 95, f 96, f 97, f 98, f 99, f 100, f 101, f 102, f 103, f 104, f 105, f 106, f 107, f 108, f 109, f 110, f 111, f 112, f 113, f 114, f 115, f 116, f 117, f 118, f 119, f 120, f 121, f 122, f 123, f 124, f 125, f 126, f 127, f 128, f 129, f 130, f 131, f 132, f 133, f 134, f 135, f 136, f 137, f 138, f 139, f 140, f 141, f 142, f 143, f 144, f 145, f 146, f 147, f 148, f 149, f 150, f 151, f 152, f 153, f 154, f 155, f 156] := by rfl
  rw [e] at r0 r6 r9 ⊢
  have r0 : f 0 = .slice (some ⟨c, j, none⟩) ws.length cap := r0
  have r6 : f 6 = hv := r6
  have r9 : f 9 = .pointer (some ⟨tb, 0, none⟩) := r9
  rw [r0, r6, r9]
  exact tail_any ws hn0 hn hsum c j cap tb tv _ W hcells hc t0 t1 t2 htv h0 h1 h2 htb hD (f 1) (f 2) (f 3) (f 4) (f 5) (f 7) (f 8) (f 10) (f 11) (f 12) (f 13) (f 14) (f 15) (f 16) (f 17) (f 18) (f 19) (f 20) (f 21) (f 22) (f 23) (f 24) (f 25) (f 26) (f 27) (f 28) (f 29) (f 30) (f 31) (f 32) (f 33) (f 34) (f 35) (f 36) (f 37) (f 38) (f 39) (f 40) (f 41) (f 42) (f 43) (f 44) (f 45) (f 46) (f 47) (f 48) (f 49) (f 50) (f 51) (f 52) (f 53) (f 54) (f 55) (f 56) (f 57) (f 58) (f 59) (f 60) (f 61) (f 62) (f 63) (f 64) (f 65) (f 66) (f 67) (f 68) (f 69) (f 70) (f 71) (f 72) (f 73) (f 74) (f 75) (f 76) (f 77) (f 78) (f 79) (f 80) (f 81) (f 82) (f 83) (f 84) (f 85) (f 86) (f 87) (f 88) (f 89) (f 90) (f 91) (f 92) (f 93) (f 94) (f 95) (f 96) (f 97) (f 98) (f 99) (f 100) (f 101) (f 102) (f 103) (f 104) (f 105) (f 106) (f 107) (f 108) (f 109) (f 110) (f 111) (f 112) (f 113) (f 114) (f 115) (f 116) (f 117) (f 118) (f 119) (f 120) (f 121) (f 122) (f 123) (f 124) (f 125) (f 126) (f 127) (f 128) (f 129) (f 130) (f 131) (f 132) (f 133) (f 134) (f 135) (f 136) (f 137) (f 138) (f 139) (f 140) (f 141) (f 142) (f 143) (f 144) (f 145) (f 146) (f 147) (f 148) (f 149) (f 150) (f 151) (f 152) (f 153) (f 154) (f 155) (f 156) Q hQ
end Go.Proofs.Sh
