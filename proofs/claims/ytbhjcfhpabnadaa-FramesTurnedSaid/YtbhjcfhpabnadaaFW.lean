/-
  The walks of both Encodes of layer 19, and of FramesWrites.
-/
import Derived.Test.YtbhjcfhpabnadaaRPay
import Derived.Test.YtbhjcfhpabnadaaEncW
import Derived.Test.YtbhjcfhpabnadaaSR
namespace Go.Proofs.Ytbhjcfhpabnadaa
open Go.RowKit

set_option maxRecDepth 100000 in
set_option maxHeartbeats 1000000 in
theorem rpay0 (kind : Int) (name text : ByteArray) (ver frm nonce err : Int) (w : World) (h1 : (kind == 1) = false) (h2 : (kind == 2) = false) (h3 : (kind == 3) = false) (h4 : (kind == 4) = false) (h5 : (kind == 5) = false) :
    Calls Try.prog 60 #[.agg #[.int .i64 kind, .string name, .int .i64 ver, .int .i64 frm, .int .i64 nonce, .int .i64 err, .string text]] w (PayOut w none) := by
  go_enter Try.func60, Try.ntmps60
  go_wp2
  go_ret2
  exact ⟨(below_box w _).alloc (by simp) _, _, rfl⟩

theorem rpayload_any (kind : Int) (name text : ByteArray) (ver frm nonce err : Int) (w : World) (hbn : name.size ≤ 140737488351232) (hbt : text.size ≤ 140737488351232) :
    Calls Try.prog 60 #[.agg #[.int .i64 kind, .string name, .int .i64 ver, .int .i64 frm, .int .i64 nonce, .int .i64 err, .string text]] w (PayOut w (paySpec kind name text ver frm nonce err)) := by
  by_cases h1 : kind = 1
  · subst h1; exact rpay1 name text ver frm nonce err w hbn
  by_cases h2 : kind = 2
  · subst h2; exact rpay2 name text ver frm nonce err w hbt
  by_cases h3 : kind = 3
  · subst h3; exact rpay3 name text ver frm nonce err w
  by_cases h4 : kind = 4
  · subst h4; exact rpay4 name text ver frm nonce err w
  by_cases h5 : kind = 5
  · subst h5; exact rpay5 name text ver frm nonce err w
  have : paySpec kind name text ver frm nonce err = none := by
    unfold paySpec
    rw [if_neg h1, if_neg h2, if_neg h3, if_neg h4, if_neg h5]
  rw [this]
  exact rpay0 kind name text ver frm nonce err w (by simpa using h1) (by simpa using h2) (by simpa using h3) (by simpa using h4) (by simpa using h5)

theorem paySpec_len {kind : Int} {name text : ByteArray} {ver frm nonce err : Int} {p : List UInt8} (h : paySpec kind name text ver frm nonce err = some p) : p.length ≤ 131072 := by
  by_cases h1 : kind = 1
  · subst h1
    rw [rspec1] at h
    split at h
    · rename_i hc
      injection h with h
      subst h
      simp only [List.length_append, beN_len, sB_len, List.length_cons, List.length_nil]
      omega
    · cases h
  by_cases h2 : kind = 2
  · subst h2
    rw [rspec2] at h
    split at h
    · rename_i hc
      injection h with h
      subst h
      simp only [List.length_append, beN_len, sB_len, List.length_cons, List.length_nil]
      omega
    · cases h
  by_cases h3 : kind = 3
  · subst h3
    rw [rspec3] at h
    split at h
    · injection h with h
      subst h
      simp only [List.length_append, beN_len, List.length_cons, List.length_nil]
      omega
    · cases h
  by_cases h4 : kind = 4
  · subst h4
    rw [rspec4] at h
    split at h
    · injection h with h
      subst h
      simp only [List.length_append, beN_len, List.length_cons, List.length_nil]
      omega
    · cases h
  by_cases h5 : kind = 5
  · subst h5
    rw [rspec5] at h
    split at h
    · injection h with h
      subst h
      simp only [List.length_append, beN_len, List.length_cons, List.length_nil]
      omega
    · cases h
  unfold paySpec at h
  rw [if_neg h1, if_neg h2, if_neg h3, if_neg h4, if_neg h5] at h
  cases h

/-- What an Encode answers. -/
def encF : Option (List UInt8) → List UInt8
  | none => []
  | some p => frame p
def encE : Option (List UInt8) → Int
  | none => 2
  | some _ => 0

set_option maxRecDepth 100000 in
set_option maxHeartbeats 1000000 in
theorem encode_any (kind : Int) (name text : ByteArray) (ver frm nonce err : Int) (w : World) :
    Calls Try.prog 33 #[.agg #[.int .i64 kind, .string name, .int .i64 ver, .int .i64 frm, .int .i64 nonce, .int .i64 err, .string text]] w (PairOut w (encF (paySpec kind name text ver frm nonce err)) (encE (paySpec kind name text ver frm nonce err))) := by
  have HP := Lib.hid (payload_any kind name text ver frm nonce err)
  have hlen := fun p => paySpec_len (kind := kind) (name := name) (text := text) (ver := ver) (frm := frm) (nonce := nonce) (err := err) (p := p)
  obtain ⟨o, ho⟩ : ∃ o, o = paySpec kind name text ver frm nonce err := ⟨_, rfl⟩
  rw [← ho] at HP hlen ⊢
  clear ho
  cases o with
  | none =>
    clear hlen
    go_enter Try.func33, Try.ntmps33
    go_wp2_with (first
      | (go_at_call 59; refine (HP.out _).mono ?_; rintro e w2 ⟨b2, v, rfl⟩)
      | fail)
    go_ret2
    exact ⟨none, 0, rfl, Own.nil_ _ _ _ _, (below_box w _).trans (b2.mono (by simp))⟩
  | some p =>
    have hl := hlen p rfl
    have hfr : frO p = frame p := by rw [frO, if_pos hl]
    have hfe : frE p = 0 := by rw [frE, if_pos hl]
    have HF := Lib.hid (frame_at p)
    rw [hfr, hfe] at HF
    clear hlen hfr hfe
    go_enter Try.func33, Try.ntmps33
    go_wp2_with (first
      | (go_at_call 59; refine (HP.out _).mono ?_; rintro e w2 ⟨b2, A2, c2, rfl, h2⟩)
      | (go_at_call 21; refine (HF.out _ rfl A2 c2 w2.heap.size w2 h2.rd (Nat.le_refl _) (by omega)).mono ?_; rintro e w3 ⟨A3, c3, rfl, h3, b3⟩)
      | fail)
    go_ret2
    have b02 := (below_box w _).trans (b2.mono (by simp))
    exact ⟨A3, c3, rfl, h3.base_le b02.size, b02.trans (b3.mono b02.size)⟩

set_option maxRecDepth 100000 in
set_option maxHeartbeats 1000000 in
theorem rencode_any (kind : Int) (name text : ByteArray) (ver frm nonce err : Int) (w : World) (hbn : name.size ≤ 140737488351232) (hbt : text.size ≤ 140737488351232) :
    Calls Try.prog 35 #[.agg #[.int .i64 kind, .string name, .int .i64 ver, .int .i64 frm, .int .i64 nonce, .int .i64 err, .string text]] w (PairOut w (encF (paySpec kind name text ver frm nonce err)) (encE (paySpec kind name text ver frm nonce err))) := by
  have HP := Lib.hid (fun w => rpayload_any kind name text ver frm nonce err w hbn hbt)
  have hlen := fun p => paySpec_len (kind := kind) (name := name) (text := text) (ver := ver) (frm := frm) (nonce := nonce) (err := err) (p := p)
  obtain ⟨o, ho⟩ : ∃ o, o = paySpec kind name text ver frm nonce err := ⟨_, rfl⟩
  rw [← ho] at HP hlen ⊢
  clear ho
  cases o with
  | none =>
    clear hlen
    go_enter Try.func35, Try.ntmps35
    go_wp2_with (first
      | (go_at_call 60; refine (HP.out _).mono ?_; rintro e w2 ⟨b2, v, rfl⟩)
      | fail)
    go_ret2
    exact ⟨none, 0, rfl, Own.nil_ _ _ _ _, (below_box w _).trans (b2.mono (by simp))⟩
  | some p =>
    have hl := hlen p rfl
    have hfr : frO p = frame p := by rw [frO, if_pos hl]
    have hfe : frE p = 0 := by rw [frE, if_pos hl]
    have HF := Lib.hid (rframe_at p)
    rw [hfr, hfe] at HF
    clear hlen hfr hfe
    go_enter Try.func35, Try.ntmps35
    go_wp2_with (first
      | (go_at_call 60; refine (HP.out _).mono ?_; rintro e w2 ⟨b2, A2, c2, rfl, h2⟩)
      | (go_at_call 22; refine (HF.out _ rfl A2 c2 w2.heap.size w2 h2.rd (Nat.le_refl _) (by omega)).mono ?_; rintro e w3 ⟨A3, c3, rfl, h3, b3⟩)
      | fail)
    go_ret2
    have b02 := (below_box w _).trans (b2.mono (by simp))
    exact ⟨A3, c3, rfl, h3.base_le b02.size, b02.trans (b3.mono b02.size)⟩

set_option maxRecDepth 100000 in
set_option maxHeartbeats 1000000 in
theorem framesWrites_any (kind : Int) (name text : ByteArray) (ver frm nonce err : Int) (w : World) (hbn : name.size ≤ 140737488351232) (hbt : text.size ≤ 140737488351232) :
    Calls Try.prog 10 #[.agg #[.int .i64 kind, .string name, .int .i64 ver, .int .i64 frm, .int .i64 nonce, .int .i64 err, .string text]] w fun e w' => e = .returned (.bool true) ∧ Below w.heap.size w w' := by
  have H1 := Lib.hid (encode_any kind name text ver frm nonce err)
  have H2 := Lib.hid (fun w => rencode_any kind name text ver frm nonce err w hbn hbt)
  obtain ⟨F, hF⟩ : ∃ F, F = encF (paySpec kind name text ver frm nonce err) := ⟨_, rfl⟩
  obtain ⟨E, hE⟩ : ∃ E, E = encE (paySpec kind name text ver frm nonce err) := ⟨_, rfl⟩
  rw [← hF, ← hE] at H1 H2
  clear hF hE
  go_enter Try.func10, Try.ntmps10
  go_wp2_with (first
    | (go_at_call 34; refine (own_any kind name text ver frm nonce err _).mono ?_; rintro e w1 ⟨rfl, b1⟩; have d1 := (below_box w (.cells #[.int .i64 kind, .string name, .int .i64 ver, .int .i64 frm, .int .i64 nonce, .int .i64 err, .string text] 57)).trans (b1.mono (by simp)); have q0 : w1.cell? ⟨w.heap.size, 0, none⟩ = some (.int .i64 kind) := (b1.cell (by simp)).trans (new_cell rfl rfl); have q1 : w1.cell? ⟨w.heap.size, 1, none⟩ = some (.string name) := (b1.cell (by simp)).trans (new_cell rfl rfl))
    | (go_at_call 33; refine (H1.out w1).mono ?_; rintro e w2 ⟨A2, c2, rfl, h2, b2⟩; have bx := b1.trans (b2.mono b1.size); have q0 : w2.cell? ⟨w.heap.size, 0, none⟩ = some (.int .i64 kind) := (bx.cell (by simp)).trans (new_cell rfl rfl); have q1 : w2.cell? ⟨w.heap.size, 1, none⟩ = some (.string name) := (bx.cell (by simp)).trans (new_cell rfl rfl); have q2 : w2.cell? ⟨w.heap.size, 2, none⟩ = some (.int .i64 ver) := (bx.cell (by simp)).trans (new_cell rfl rfl); have q3 : w2.cell? ⟨w.heap.size, 3, none⟩ = some (.int .i64 frm) := (bx.cell (by simp)).trans (new_cell rfl rfl); have q4 : w2.cell? ⟨w.heap.size, 4, none⟩ = some (.int .i64 nonce) := (bx.cell (by simp)).trans (new_cell rfl rfl); have q5 : w2.cell? ⟨w.heap.size, 5, none⟩ = some (.int .i64 err) := (bx.cell (by simp)).trans (new_cell rfl rfl); have q6 : w2.cell? ⟨w.heap.size, 6, none⟩ = some (.string text) := (bx.cell (by simp)).trans (new_cell rfl rfl); clear bx)
    | (go_at_call 35; refine (H2.out w2).mono ?_; rintro e w3 ⟨A3, c3, rfl, h3, b3⟩; have h2' := h2.below b3 (Nat.le_refl _); have cv1 := conv_any h2'.rd F.length rfl c2; have cv2 := conv_any h3.rd F.length rfl c3)
    | fail)
  go_ret
  have d2 := d1.trans (b2.mono d1.size)
  exact ⟨rfl, d2.trans (b3.mono d2.size)⟩

end Go.Proofs.Ytbhjcfhpabnadaa
