/- Contracts and lemmas: ReadCmd. -/
import Derived.Test.YtdphdnllhmnelaaJ7
import Derived.Test.YtdphdnllhmnelaaJ8
/- Contract of the program's ReadCmd. -/
namespace Go.Proofs.Ytdphdnllhmnelaa
open Go.RowKit
theorem isEmpty_str (t : ByteArray) : t.toList.isEmpty = decide (t = ByteArray.empty) := by
  have h0 : ByteArray.empty.toList = [] := by rw [Lib.toList_data]; rfl
  by_cases h : t = ByteArray.empty
  · rw [decide_eq_true h, h, h0]; rfl
  · rw [decide_eq_false h]
    cases hl : t.toList with
    | nil => exact absurd (by apply str_ext; rw [hl, h0]) h
    | cons a b => rfl
theorem strs_fin (A : Option Addr) (n c : Nat) (w : World) (l : List ByteArray) (h : w.ownsRow 0 9 1 (.slice A n c) n (l.map Value.string)) : StrR w A n c l := (StrO.mk' h).at_
/-- the command read so far; where the text is no command's: whatever was read -/
theorem rd_end {s : ByteArray} {X : Cm} {bad : Bool} (HE : ∀ c, cmOkB c = true → cmText c = s → c = X ∧ bad = false) :
    (bad = false ∧ s ≠ ByteArray.empty ∧ cmText X = s ∧ rdCm s = X ∧ rdCmB s = true) ∨ ((bad = true ∨ s = ByteArray.empty ∨ cmText X ≠ s) ∧ rdCm s = cmNil ∧ rdCmB s = false) := by
  by_cases h1 : bad = false
  · by_cases h2 : s = ByteArray.empty
    · exact .inr ⟨.inr (.inl h2), rdCm_no (fun c hc hs => cmText_ne hc (hs.trans h2))⟩
    · by_cases h3 : cmText X = s
      · have hok : cmOkB X = true := by
          cases hx : cmOkB X
          · rw [cmText_no hx] at h3; exact absurd h3.symm h2
          · rfl
        exact .inl ⟨h1, h2, h3, rdCm_yes hok h3⟩
      · exact .inr ⟨.inr (.inr h3), rdCm_no (fun c hc hs => h3 (by rw [← (HE c hc hs).1]; exact hs))⟩
  · exact .inr ⟨.inl (by simpa using h1), rdCm_no (fun c hc hs => h1 (HE c hc hs).2)⟩
attribute [local irreducible] StrsAt StrR StrO varS cmOkB cmText numF textF cutF rdCm rdCmB CmJ
set_option maxRecDepth 8000 in
set_option maxHeartbeats 8000000 in
theorem readCmd_impl (s : ByteArray) (w : World) (hs : s.size ≤ 1048576) :
    Calls Try.prog 87 #[.string s] w fun e w' => (∃ A n c fp, e = .returned (.tuple #[cmV (rdCm s) (.slice A n c), .bool (rdCmB s)]) ∧ StrO fp w' A n c (rdCm s).ch ∧ fp.Nodup ∧ ∀ b ∈ fp, w.heap.size ≤ b ∧ b < w'.heap.size) ∧ Below w.heap.size w w' := by
  go_enter Try.func87, Try.ntmps87
  go_wp2_with fail
  obtain ⟨W0, hW0⟩ : ∃ W, W = (w.alloc (.cells #[.int .i64 0, .int .i64 0, .int .i64 0, .string ⟨#[]⟩, .string ⟨#[]⟩, .string ⟨#[]⟩, .int .i64 0, .slice none 0 0] 47)).alloc (.cells #[.string s, .bool false] 119) := ⟨_, rfl⟩
  have al := (Below.refl w.heap.size w).alloc (Nat.le_refl _) (.cells #[.int .i64 0, .int .i64 0, .int .i64 0, .string ⟨#[]⟩, .string ⟨#[]⟩, .string ⟨#[]⟩, .int .i64 0, .slice none 0 0] 47)
  have al2 := (Below.refl (w.alloc (.cells #[.int .i64 0, .int .i64 0, .int .i64 0, .string ⟨#[]⟩, .string ⟨#[]⟩, .string ⟨#[]⟩, .int .i64 0, .slice none 0 0] 47)).heap.size (w.alloc (.cells #[.int .i64 0, .int .i64 0, .int .i64 0, .string ⟨#[]⟩, .string ⟨#[]⟩, .string ⟨#[]⟩, .int .i64 0, .slice none 0 0] 47))).alloc (Nat.le_refl _) (.cells #[.string s, .bool false] 119)
  have R0 : BoxL W0 w.heap.size [.int .i64 0, .int .i64 0, .int .i64 0, .string ⟨#[]⟩, .string ⟨#[]⟩, .string ⟨#[]⟩, .int .i64 0, .slice none 0 0] := by rw [hW0]; exact (BoxL.new w [.int .i64 0, .int .i64 0, .int .i64 0, .string ⟨#[]⟩, .string ⟨#[]⟩, .string ⟨#[]⟩, .int .i64 0, .slice none 0 0] 47).keep al2
  have S0 : Scn W0 (w.heap.size + 1) (s, false) := by rw [hW0]; exact ⟨by simp [go_sem], by simp [go_sem], by simp [go_sem], by simp [go_sem], by simp only; omega⟩
  have B0 : Below w.heap.size w W0 := by rw [hW0]; exact bthen al al2
  have z0 : w.heap.size + 1 < W0.heap.size := by rw [hW0]; simp [go_sem]
  rw [← hW0]; clear hW0 al al2
  have hx0 : ((s, false) : Sc).1.size ≤ 1048576 := hs
  refine (num_impl _ _ _ S0).mono ?_
  rintro e w1 ⟨rfl, S1, c1⟩
  have R1 := R0.ch c1 (ne_blk (by omega)); clear R0
  have z1 := Nat.lt_of_lt_of_le z0 c1.size
  have B1 := c1.belowB B0 (by omega) (fun k hk => by have hk : k = _ := hk; omega)
  have q1 := numF_le (s, false)
  obtain ⟨⟨v1, x1⟩, f1⟩ : ∃ r, numF (s, false) = r := ⟨_, rfl⟩
  rw [f1] at S1 q1 ⊢
  simp only at S1 q1
  have hx1 : x1.1.size ≤ 1048576 := by omega
  have F1 := Lib.hid f1; clear f1
  go_wp2_with fail
  obtain ⟨W1, hW1⟩ : ∃ W, W = w1.alloc (.cells #[.int .i64 (v1 : Int), .int .i64 0, .int .i64 0, .string ⟨#[]⟩, .string ⟨#[]⟩, .string ⟨#[]⟩, .int .i64 0, .slice none 0 0] 47) := ⟨_, rfl⟩
  have al := (Below.refl w1.heap.size w1).alloc (Nat.le_refl _) (.cells #[.int .i64 (v1 : Int), .int .i64 0, .int .i64 0, .string ⟨#[]⟩, .string ⟨#[]⟩, .string ⟨#[]⟩, .int .i64 0, .slice none 0 0] 47)
  obtain ⟨h, hh⟩ : ∃ h, w1.heap.size = h := ⟨_, rfl⟩
  have C1 : BoxL W1 h [.int .i64 (v1 : Int), .int .i64 0, .int .i64 0, .string ⟨#[]⟩, .string ⟨#[]⟩, .string ⟨#[]⟩, .int .i64 0, .slice none 0 0] := by rw [hW1, ← hh]; exact BoxL.new w1 [.int .i64 (v1 : Int), .int .i64 0, .int .i64 0, .string ⟨#[]⟩, .string ⟨#[]⟩, .string ⟨#[]⟩, .int .i64 0, .slice none 0 0] 47
  rw [← hW1] at al
  have R1' := R1.keep al; clear R1; have R1 := R1'; clear R1'
  have S1' := S1.keep al; clear S1; have S1 := S1'; clear S1'
  have B1' := bthen B1 al; clear B1; have B1 := B1'; clear B1'
  have hgh : w.heap.size + 1 < h := by omega
  have z1' : h < W1.heap.size := C1.lt
  have z1'' : w.heap.size + 1 < W1.heap.size := by omega
  clear z1; have z1 := z1''; clear z1''
  rw [← hW1, hh]; clear hW1 al hh
  refine (num_impl _ _ _ S1).mono ?_
  rintro e w2 ⟨rfl, S2, c2⟩
  have R2 := R1.ch c2 (ne_blk (by omega)); clear R1
  have C2 := C1.ch c2 (ne_blk (by omega)); clear C1
  have z2 := Nat.lt_of_lt_of_le z1 c2.size
  have B2 := c2.belowB B1 (by omega) (fun k hk => by have hk : k = _ := hk; omega)
  clear S1
  have q2 := numF_le x1
  obtain ⟨⟨v2, x2⟩, f2⟩ : ∃ r, numF x1 = r := ⟨_, rfl⟩
  rw [f2] at S2 q2 ⊢
  simp only at S2 q2
  have hx2 : x2.1.size ≤ 1048576 := by omega
  have F2 := Lib.hid f2; clear f2
  clear c2
  have e2 := C2.cell 1 _ rfl
  have y2 := C2.fz 1 (by simp)
  have eL2 := C2.lt
  go_wp2_with fail
  obtain ⟨W2, hW2⟩ : ∃ W, W = w2.setCell ⟨h, 1, none⟩ (.int .i64 (v2 : Int)) := ⟨_, rfl⟩
  rw [← hW2]
  have d2 : Ch (fun k => k = h) w2 W2 := by rw [hW2]; exact Ch.set
  have C2' : BoxL W2 h [.int .i64 (v1 : Int), .int .i64 (v2 : Int), .int .i64 0, .string ⟨#[]⟩, .string ⟨#[]⟩, .string ⟨#[]⟩, .int .i64 0, .slice none 0 0] := by rw [hW2]; exact C2.set (j := 1) (by simp)
  have R2' := R2.ch d2 (ne_blk (by omega)); clear R2; have R2 := R2'; clear R2'
  have S2' := S2.ch d2 (ne_blk (by omega)); clear S2; have S2 := S2'; clear S2'
  have B2' := d2.belowB B2 (by omega) (fun k hk => by have hk : k = h := hk; omega); clear B2; have B2 := B2'; clear B2'
  have z2' := Nat.lt_of_lt_of_le z2 d2.size; clear z2; have z2 := z2'; clear z2'
  clear C2 e2 y2 hW2 d2 eL2; have C2 := C2'; clear C2'
  refine (num_impl _ _ _ S2).mono ?_
  rintro e w3 ⟨rfl, S3, c3⟩
  have R3 := R2.ch c3 (ne_blk (by omega)); clear R2
  have C3 := C2.ch c3 (ne_blk (by omega)); clear C2
  have z3 := Nat.lt_of_lt_of_le z2 c3.size
  have B3 := c3.belowB B2 (by omega) (fun k hk => by have hk : k = _ := hk; omega)
  clear S2
  have q3 := numF_le x2
  obtain ⟨⟨v3, x3⟩, f3⟩ : ∃ r, numF x2 = r := ⟨_, rfl⟩
  rw [f3] at S3 q3 ⊢
  simp only at S3 q3
  have hx3 : x3.1.size ≤ 1048576 := by omega
  have F3 := Lib.hid f3; clear f3
  clear c3
  have e3 := C3.cell 2 _ rfl
  have y3 := C3.fz 2 (by simp)
  have eL3 := C3.lt
  go_wp2_with fail
  obtain ⟨W3, hW3⟩ : ∃ W, W = w3.setCell ⟨h, 2, none⟩ (.int .i64 (v3 : Int)) := ⟨_, rfl⟩
  rw [← hW3]
  have d3 : Ch (fun k => k = h) w3 W3 := by rw [hW3]; exact Ch.set
  have C3' : BoxL W3 h [.int .i64 (v1 : Int), .int .i64 (v2 : Int), .int .i64 (v3 : Int), .string ⟨#[]⟩, .string ⟨#[]⟩, .string ⟨#[]⟩, .int .i64 0, .slice none 0 0] := by rw [hW3]; exact C3.set (j := 2) (by simp)
  have R3' := R3.ch d3 (ne_blk (by omega)); clear R3; have R3 := R3'; clear R3'
  have S3' := S3.ch d3 (ne_blk (by omega)); clear S3; have S3 := S3'; clear S3'
  have B3' := d3.belowB B3 (by omega) (fun k hk => by have hk : k = h := hk; omega); clear B3; have B3 := B3'; clear B3'
  have z3' := Nat.lt_of_lt_of_le z3 d3.size; clear z3; have z3 := z3'; clear z3'
  clear C3 e3 y3 hW3 d3 eL3; have C3 := C3'; clear C3'
  refine (num_impl _ _ _ S3).mono ?_
  rintro e w4 ⟨rfl, S4, c4⟩
  have R4 := R3.ch c4 (ne_blk (by omega)); clear R3
  have C4 := C3.ch c4 (ne_blk (by omega)); clear C3
  have z4 := Nat.lt_of_lt_of_le z3 c4.size
  have B4 := c4.belowB B3 (by omega) (fun k hk => by have hk : k = _ := hk; omega)
  clear S3
  have q4 := numF_le x3
  obtain ⟨⟨v4, x4⟩, f4⟩ : ∃ r, numF x3 = r := ⟨_, rfl⟩
  rw [f4] at S4 q4 ⊢
  simp only at S4 q4
  have hx4 : x4.1.size ≤ 1048576 := by omega
  have F4 := Lib.hid f4; clear f4
  clear c4
  have e4 := C4.cell 6 _ rfl
  have y4 := C4.fz 6 (by simp)
  have eL4 := C4.lt
  go_wp2_with fail
  obtain ⟨W4, hW4⟩ : ∃ W, W = w4.setCell ⟨h, 6, none⟩ (.int .i64 (v4 : Int)) := ⟨_, rfl⟩
  rw [← hW4]
  have d4 : Ch (fun k => k = h) w4 W4 := by rw [hW4]; exact Ch.set
  have C4' : BoxL W4 h [.int .i64 (v1 : Int), .int .i64 (v2 : Int), .int .i64 (v3 : Int), .string ⟨#[]⟩, .string ⟨#[]⟩, .string ⟨#[]⟩, .int .i64 (v4 : Int), .slice none 0 0] := by rw [hW4]; exact C4.set (j := 6) (by simp)
  have R4' := R4.ch d4 (ne_blk (by omega)); clear R4; have R4 := R4'; clear R4'
  have S4' := S4.ch d4 (ne_blk (by omega)); clear S4; have S4 := S4'; clear S4'
  have B4' := d4.belowB B4 (by omega) (fun k hk => by have hk : k = h := hk; omega); clear B4; have B4 := B4'; clear B4'
  have z4' := Nat.lt_of_lt_of_le z4 d4.size; clear z4; have z4 := z4'; clear z4'
  clear C4 e4 y4 hW4 d4 eL4; have C4 := C4'; clear C4'
  refine (text_impl _ _ _ S4).mono ?_
  rintro e w5 ⟨rfl, S5, c5⟩
  have R5 := R4.ch c5 (ne_blk (by omega)); clear R4
  have C5 := C4.ch c5 (ne_blk (by omega)); clear C4
  have z5 := Nat.lt_of_lt_of_le z4 c5.size
  have B5 := c5.belowB B4 (by omega) (fun k hk => by have hk : k = _ := hk; omega)
  clear S4
  have q5 := textF_cost x4
  obtain ⟨⟨v5, x5⟩, f5⟩ : ∃ r, textF x4 = r := ⟨_, rfl⟩
  rw [f5] at S5 q5 ⊢
  simp only at S5 q5
  have hx5 : x5.1.size ≤ 1048576 := by omega
  have F5 := Lib.hid f5; clear f5
  clear c5
  have e5 := C5.cell 3 _ rfl
  have y5 := C5.fz 3 (by simp)
  have eL5 := C5.lt
  go_wp2_with fail
  obtain ⟨W5, hW5⟩ : ∃ W, W = w5.setCell ⟨h, 3, none⟩ (.string v5) := ⟨_, rfl⟩
  rw [← hW5]
  have d5 : Ch (fun k => k = h) w5 W5 := by rw [hW5]; exact Ch.set
  have C5' : BoxL W5 h [.int .i64 (v1 : Int), .int .i64 (v2 : Int), .int .i64 (v3 : Int), .string v5, .string ⟨#[]⟩, .string ⟨#[]⟩, .int .i64 (v4 : Int), .slice none 0 0] := by rw [hW5]; exact C5.set (j := 3) (by simp)
  have R5' := R5.ch d5 (ne_blk (by omega)); clear R5; have R5 := R5'; clear R5'
  have S5' := S5.ch d5 (ne_blk (by omega)); clear S5; have S5 := S5'; clear S5'
  have B5' := d5.belowB B5 (by omega) (fun k hk => by have hk : k = h := hk; omega); clear B5; have B5 := B5'; clear B5'
  have z5' := Nat.lt_of_lt_of_le z5 d5.size; clear z5; have z5 := z5'; clear z5'
  clear C5 e5 y5 hW5 d5 eL5; have C5 := C5'; clear C5'
  refine (text_impl _ _ _ S5).mono ?_
  rintro e w6 ⟨rfl, S6, c6⟩
  have R6 := R5.ch c6 (ne_blk (by omega)); clear R5
  have C6 := C5.ch c6 (ne_blk (by omega)); clear C5
  have z6 := Nat.lt_of_lt_of_le z5 c6.size
  have B6 := c6.belowB B5 (by omega) (fun k hk => by have hk : k = _ := hk; omega)
  clear S5
  have q6 := textF_cost x5
  obtain ⟨⟨v6, x6⟩, f6⟩ : ∃ r, textF x5 = r := ⟨_, rfl⟩
  rw [f6] at S6 q6 ⊢
  simp only at S6 q6
  have hx6 : x6.1.size ≤ 1048576 := by omega
  have F6 := Lib.hid f6; clear f6
  clear c6
  have e6 := C6.cell 4 _ rfl
  have y6 := C6.fz 4 (by simp)
  have eL6 := C6.lt
  go_wp2_with fail
  obtain ⟨W6, hW6⟩ : ∃ W, W = w6.setCell ⟨h, 4, none⟩ (.string v6) := ⟨_, rfl⟩
  rw [← hW6]
  have d6 : Ch (fun k => k = h) w6 W6 := by rw [hW6]; exact Ch.set
  have C6' : BoxL W6 h [.int .i64 (v1 : Int), .int .i64 (v2 : Int), .int .i64 (v3 : Int), .string v5, .string v6, .string ⟨#[]⟩, .int .i64 (v4 : Int), .slice none 0 0] := by rw [hW6]; exact C6.set (j := 4) (by simp)
  have R6' := R6.ch d6 (ne_blk (by omega)); clear R6; have R6 := R6'; clear R6'
  have S6' := S6.ch d6 (ne_blk (by omega)); clear S6; have S6 := S6'; clear S6'
  have B6' := d6.belowB B6 (by omega) (fun k hk => by have hk : k = h := hk; omega); clear B6; have B6 := B6'; clear B6'
  have z6' := Nat.lt_of_lt_of_le z6 d6.size; clear z6; have z6 := z6'; clear z6'
  clear C6 e6 y6 hW6 d6 eL6; have C6 := C6'; clear C6'
  refine (text_impl _ _ _ S6).mono ?_
  rintro e w7 ⟨rfl, S7, c7⟩
  have R7 := R6.ch c7 (ne_blk (by omega)); clear R6
  have C7 := C6.ch c7 (ne_blk (by omega)); clear C6
  have z7 := Nat.lt_of_lt_of_le z6 c7.size
  have B7 := c7.belowB B6 (by omega) (fun k hk => by have hk : k = _ := hk; omega)
  clear S6
  have q7 := textF_cost x6
  obtain ⟨⟨v7, x7⟩, f7⟩ : ∃ r, textF x6 = r := ⟨_, rfl⟩
  rw [f7] at S7 q7 ⊢
  simp only at S7 q7
  have hx7 : x7.1.size ≤ 1048576 := by omega
  have F7 := Lib.hid f7; clear f7
  clear c7
  have e7 := C7.cell 5 _ rfl
  have y7 := C7.fz 5 (by simp)
  have eL7 := C7.lt
  go_wp2_with fail
  obtain ⟨W7, hW7⟩ : ∃ W, W = w7.setCell ⟨h, 5, none⟩ (.string v7) := ⟨_, rfl⟩
  rw [← hW7]
  have d7 : Ch (fun k => k = h) w7 W7 := by rw [hW7]; exact Ch.set
  have C7' : BoxL W7 h [.int .i64 (v1 : Int), .int .i64 (v2 : Int), .int .i64 (v3 : Int), .string v5, .string v6, .string v7, .int .i64 (v4 : Int), .slice none 0 0] := by rw [hW7]; exact C7.set (j := 5) (by simp)
  have R7' := R7.ch d7 (ne_blk (by omega)); clear R7; have R7 := R7'; clear R7'
  have S7' := S7.ch d7 (ne_blk (by omega)); clear S7; have S7 := S7'; clear S7'
  have B7' := d7.belowB B7 (by omega) (fun k hk => by have hk : k = h := hk; omega); clear B7; have B7 := B7'; clear B7'
  have z7' := Nat.lt_of_lt_of_le z7 d7.size; clear z7; have z7 := z7'; clear z7'
  clear C7 e7 y7 hW7 d7 eL7; have C7 := C7'; clear C7'
  refine (num_impl _ _ _ S7).mono ?_
  rintro e w8 ⟨rfl, S8, c8⟩
  have R8 := R7.ch c8 (ne_blk (by omega)); clear R7
  have C8 := C7.ch c8 (ne_blk (by omega)); clear C7
  have z8 := Nat.lt_of_lt_of_le z7 c8.size
  have B8 := c8.belowB B7 (by omega) (fun k hk => by have hk : k = _ := hk; omega)
  clear S7
  have q8 := numF_le x7
  obtain ⟨⟨v8, x8⟩, f8⟩ : ∃ r, numF x7 = r := ⟨_, rfl⟩
  rw [f8] at S8 q8 ⊢
  simp only at S8 q8
  have hx8 : x8.1.size ≤ 1048576 := by omega
  have F8 := Lib.hid f8; clear f8
  clear c8
  have J0 := Lib.hid (CmJ.start F1.out F2.out F3.out F4.out F5.out F6.out F7.out F8.out)
  simp only at J0
  clear F1
  clear F2
  clear F3
  clear F4
  clear F5
  clear F6
  clear F7
  clear F8
  go_wp2
  have hhz := C8.lt
  go_loopw [7] (fun i wr => ∃ (cs : List ByteArray) (x : Sc) (A : Option Addr) (cap : Nat), i = .int .i64 (cs.length : Nat) ∧ cs.length ≤ 4 ∧ CmJ s v1 v2 v3 v4 v5 v6 v7 v8 cs x ∧ BoxL wr w.heap.size [.int .i64 0, .int .i64 0, .int .i64 0, .string ⟨#[]⟩, .string ⟨#[]⟩, .string ⟨#[]⟩, .int .i64 0, .slice none 0 0] ∧ Scn wr (w.heap.size + 1) x ∧ BoxL wr h [.int .i64 (v1 : Int), .int .i64 (v2 : Int), .int .i64 (v3 : Int), .string v5, .string v6, .string v7, .int .i64 (v4 : Int), .slice A cs.length cap] ∧ wr.ownsRow w8.heap.size 9 1 (.slice A cs.length cap) cs.length (cs.map Value.string) ∧ (∀ y ∈ cs, y.size ≤ 1048576) ∧ x.1.size ≤ 1048576 ∧ Below w.heap.size w wr ∧ w8.heap.size ≤ wr.heap.size) (fun i _ => 5 - (intOf i).toNat)
  case atStart => exact ⟨[], x8, none, 0, by simp, by simp, J0.out, R8, S8, C8, by simpa using World.ownsRow_nil _ _ _ _, (fun y hy => by cases hy), hx8, B8, Nat.le_refl _⟩
  case round =>
    obtain ⟨cs, x, A, cap, rfl, hl4, hj, R, S, C, hown, hel, hxz, hB, hz8⟩ := hrel
    have HJ := Lib.hid hj; clear hj
    have hgl := S.lt
    have hhl := C.lt
    by_cases hgo : cs.length < v8 ∧ v8 ≤ 4
    · obtain ⟨hlt, hm4⟩ := hgo
      have ilt : (cs.length : Int) < (v8 : Int) := by omega
      have im4 : (v8 : Int) ≤ 4 := by omega
      have J2 := Lib.hid (CmJ.step HJ.out hlt)
      have qc := cutF_cost x 8
      obtain ⟨⟨t, x'⟩, ft⟩ : ∃ r, cutF x 8 = r := ⟨_, rfl⟩
      rw [ft] at J2 qc
      simp only at J2 qc
      go_wp2_with fail
      refine (cut_impl _ 8 _ _ S (by omega)).mono ?_
      rintro e wc ⟨rfl, S', cc⟩
      rw [ft] at S' ⊢
      simp only at S'
      clear ft S
      have R' := R.ch cc (ne_blk (by omega))
      have C' := C.ch cc (ne_blk (by omega))
      have hB' := cc.belowB hB (by omega) (fun k hk => by have hk : k = _ := hk; omega)
      have hown' := own_chL hown cc (fun b hb h2 => by have h2 : b = w.heap.size + 1 := h2; have := (own_lo hown b hb).1; omega)
      have hzc := cc.size
      have hgl' := S'.lt
      have hhl' := C'.lt
      have hz8' : w8.heap.size ≤ wc.heap.size := by omega
      clear R C hown cc hB hgl hhl
      have e7 := C'.cell 7 _ rfl
      go_wp2_with (first | (at_builtin; refine wpList_app1g (P := Try.prog) wc rfl (.tmp 47) (.tmp 49) 38 rfl w8.heap.size 9 _ 1 16 Try.underlying38 infoString rfl (by omega) (.slice A _ cap) _ _ rfl hown' #[.string t] _ rfl (by simp) rfl (by simp [Value.oneCell']) (by unfold maxLen; omega) (by omega) hz8' ?_; intro A' c' wd hown2 hgr hbg hob; refine stop_of ?_) | fail)
      have hcd : Ch (fun b => b ∈ blkL A) wc wd := (Ch.of_grow hgr).mono (fun b hb => mem_blkL.2 (blk_of hb))
      have hbl : ∀ b ∈ blkL A, w8.heap.size ≤ b := fun b hb => (own_lo hown' b hb).1
      have R2 := R'.ch hcd (fun hb => by have := hbl _ hb; omega)
      have S2 := S'.ch hcd (fun hb => by have := hbl _ hb; omega)
      have C2 := C'.ch hcd (fun hb => by have := hbl _ hb; omega)
      have hB2 := hcd.belowB hB' (by omega) (fun k hk => by have := hbl _ hk; omega)
      have hzd := hcd.size
      clear R' S' C' hB' hown' hcd e7
      have e7 := C2.cell 7 _ rfl
      have y7 := C2.fz 7 (by simp)
      have hgl2 := S2.lt
      have hhl2 := C2.lt
      unfold Stop
      go_wp2
      have d : Ch (fun k => k = h) wd (wd.setCell ⟨h, 7, none⟩ (.slice A' (cs.length + 1) c')) := Ch.set
      have R3 := R2.ch d (ne_blk (by omega))
      have S3 := S2.ch d (ne_blk (by omega))
      have C3 := C2.set (j := 7) (v := .slice A' (cs.length + 1) c') (by simp)
      have hB3 := d.belowB hB2 (by omega) (fun k hk => by have hk : k = h := hk; omega)
      have hown3 := own_chL hown2 d (fun b hb h2 => by have h2 : b = h := h2; have := (own_lo hown2 b hb).1; omega)
      have hze := d.size
      refine ⟨⟨cs ++ [t], x', A', c', by simp, by simp; omega, J2.out, R3, S3, by simpa using C3, by simpa using hown3, fun y hy => ?_, by omega, hB3, by omega⟩, by simp [intOf]; omega⟩
      rcases List.mem_append.1 hy with hy | hy
      · exact hel y hy
      · have : y = t := by simpa using hy
        subst this; omega
    · have HE := CmJ.end_ HJ.out (show v8 ≤ cs.length ∨ 4 < v8 by omega)
      obtain ⟨t, bad⟩ := x
      simp only at HE
      have HR := rd_end HE
      clear HE HJ J0
      obtain ⟨X, hX⟩ : ∃ X : Cm, X = ⟨v1, v2, v3, v5, v6, v7, v4, cs⟩ := ⟨_, rfl⟩
      rw [← hX] at HR
      have hX1 : X.ch = cs := by rw [hX]
      have hcB : cmB X := by rw [hX]; exact ⟨by simp only; omega, by simp only; omega, by simp only; omega, by simp only; omega, fun y hy => by have := hel y hy; omega⟩
      have hStr : StrR wr A cs.length cap X.ch := by rw [hX1]; exact strs_fin _ _ _ _ _ (own_up hown (Nat.zero_le _))
      have k1 := S.c1
      simp only at k1
      have e0 := C.cell 0 _ rfl
      have e1 := C.cell 1 _ rfl
      have e2 := C.cell 2 _ rfl
      have e3 := C.cell 3 _ rfl
      have e4 := C.cell 4 _ rfl
      have e5 := C.cell 5 _ rfl
      have e6 := C.cell 6 _ rfl
      have e7 := C.cell 7 _ rfl
      have r0 := R.cell 0 _ rfl
      have y0 := R.fz 0 (by simp)
      have r1 := R.cell 1 _ rfl
      have y1 := R.fz 1 (by simp)
      have r2 := R.cell 2 _ rfl
      have y2 := R.fz 2 (by simp)
      have r3 := R.cell 3 _ rfl
      have y3 := R.fz 3 (by simp)
      have r4 := R.cell 4 _ rfl
      have y4 := R.fz 4 (by simp)
      have r5 := R.cell 5 _ rfl
      have y5 := R.fz 5 (by simp)
      have r6 := R.cell 6 _ rfl
      have y6 := R.fz 6 (by simp)
      have r7 := R.cell 7 _ rfl
      have y7 := R.fz 7 (by simp)
      have hgs : w.heap.size < wr.heap.size := R.lt
      have hte := isEmpty_str s
      have hgd : ((cs.length : Int) < (v8 : Int) ∧ ¬ (v8 : Int) ≤ 4) ∨ ¬ ((cs.length : Int) < (v8 : Int)) := by omega
      rcases HR with ⟨rfl, hne, htx, hr, hrb⟩ | ⟨hbad, hr, hrb⟩
      · rw [decide_eq_false hne] at hte
        have g1 : ((cmText X).toList == s.toList) = true := by rw [htx]; simp
        have HRR := Lib.hid hr; have HRB := Lib.hid hrb
        clear htx hr hrb hne hgo
        have hcV : cmV X (.slice A cs.length cap) = .agg #[.int .i64 (v1 : Int), .int .i64 (v2 : Int), .int .i64 (v3 : Int), .string v5, .string v6, .string v7, .int .i64 (v4 : Int), .slice A cs.length cap] := by rw [hX]; rfl
        rcases hgd with ⟨g2, g3⟩ | g2
        · skip
          go_wp2_with fail
          rw [← hcV]
          have HX := Lib.hid hX; clear hX hX1 hcV
          refine (showCmd_impl X _ _ _ _ hStr hcB).mono ?_
          rintro e w9 ⟨rfl, hb9⟩
          have e0' := keep_cell hb9 e0; clear e0
          have e1' := keep_cell hb9 e1; clear e1
          have e2' := keep_cell hb9 e2; clear e2
          have e3' := keep_cell hb9 e3; clear e3
          have e4' := keep_cell hb9 e4; clear e4
          have e5' := keep_cell hb9 e5; clear e5
          have e6' := keep_cell hb9 e6; clear e6
          have e7' := keep_cell hb9 e7; clear e7
          have R9 := R.keep hb9; clear R
          have r0' := R9.cell 0 _ rfl; clear r0
          have y0' := R9.fz 0 (by simp); clear y0
          have r1' := R9.cell 1 _ rfl; clear r1
          have y1' := R9.fz 1 (by simp); clear y1
          have r2' := R9.cell 2 _ rfl; clear r2
          have y2' := R9.fz 2 (by simp); clear y2
          have r3' := R9.cell 3 _ rfl; clear r3
          have y3' := R9.fz 3 (by simp); clear y3
          have r4' := R9.cell 4 _ rfl; clear r4
          have y4' := R9.fz 4 (by simp); clear y4
          have r5' := R9.cell 5 _ rfl; clear r5
          have y5' := R9.fz 5 (by simp); clear y5
          have r6' := R9.cell 6 _ rfl; clear r6
          have y6' := R9.fz 6 (by simp); clear y6
          have r7' := R9.cell 7 _ rfl; clear r7
          have y7' := R9.fz 7 (by simp); clear y7
          have hz9 := hb9.size
          obtain ⟨WF, hWF⟩ : ∃ W, W = ((((((((w9.setCell ⟨w.heap.size, 0, none⟩ (.int .i64 (v1 : Int))).setCell ⟨w.heap.size, 1, none⟩ (.int .i64 (v2 : Int))).setCell ⟨w.heap.size, 2, none⟩ (.int .i64 (v3 : Int))).setCell ⟨w.heap.size, 3, none⟩ (.string v5)).setCell ⟨w.heap.size, 4, none⟩ (.string v6)).setCell ⟨w.heap.size, 5, none⟩ (.string v7)).setCell ⟨w.heap.size, 6, none⟩ (.int .i64 (v4 : Int))).setCell ⟨w.heap.size, 7, none⟩ (.slice A cs.length cap)) := ⟨_, rfl⟩
          have hsF : WF = setsW w9 w.heap.size 0 [.int .i64 (v1 : Int), .int .i64 (v2 : Int), .int .i64 (v3 : Int), .string v5, .string v6, .string v7, .int .i64 (v4 : Int), .slice A cs.length cap] := hWF
          have cF : Ch (fun b => b = w.heap.size) w9 WF := by rw [hsF]; exact ch_setsW _ _ _
          have RF : BoxL WF w.heap.size [.int .i64 (v1 : Int), .int .i64 (v2 : Int), .int .i64 (v3 : Int), .string v5, .string v6, .string v7, .int .i64 (v4 : Int), .slice A cs.length cap] := by rw [hsF]; exact R9.sets rfl
          have HWF := Lib.hid hWF; clear hWF hsF
          have q0 := RF.cell 0 _ rfl
          have q1 := RF.cell 1 _ rfl
          have q2 := RF.cell 2 _ rfl
          have q3 := RF.cell 3 _ rfl
          have q4 := RF.cell 4 _ rfl
          have q5 := RF.cell 5 _ rfl
          have q6 := RF.cell 6 _ rfl
          have q7 := RF.cell 7 _ rfl
          have hsz := cF.size
          have hBF : Below w.heap.size w WF := cF.belowB (bthen hB hb9) (by omega) (fun k hk => by have hk : k = _ := hk; omega)
          have ho9 := own_chL hown (Ch.of_below (S := fun _ => False) hb9) (fun _ _ h => h)
          have hoF := own_chL ho9 cF (fun b hb h2 => by have h2 : b = w.heap.size := h2; have := (own_lo ho9 b hb).1; omega)
          clear ho9
          clear cF RF R9 hown
          repeat (first | rw [← HWF.out] | go_values | go_skip | go_guarded | go_step | go_upon | (simp only []; go_at_K))
          refine bodyPost_ret (v := .tuple #[.agg #[.int .i64 (v1 : Int), .int .i64 (v2 : Int), .int .i64 (v3 : Int), .string v5, .string v6, .string v7, .int .i64 (v4 : Int), .slice A cs.length cap], .bool true]) (by simp [results, Try.results87, go_sem, q0, q1, q2, q3, q4, q5, q6, q7]) rfl ?_
          rw [HRR.out, HRB.out, HX.out]
          exact ⟨⟨A, _, cap, _, rfl, StrO.mk' (own_up hoF (Nat.zero_le _)), by cases A <;> simp [blkL], fun b hb => by have := own_lo hoF b hb; omega⟩, hBF⟩
        · skip
          go_wp2_with fail
          rw [← hcV]
          have HX := Lib.hid hX; clear hX hX1 hcV
          refine (showCmd_impl X _ _ _ _ hStr hcB).mono ?_
          rintro e w9 ⟨rfl, hb9⟩
          have e0' := keep_cell hb9 e0; clear e0
          have e1' := keep_cell hb9 e1; clear e1
          have e2' := keep_cell hb9 e2; clear e2
          have e3' := keep_cell hb9 e3; clear e3
          have e4' := keep_cell hb9 e4; clear e4
          have e5' := keep_cell hb9 e5; clear e5
          have e6' := keep_cell hb9 e6; clear e6
          have e7' := keep_cell hb9 e7; clear e7
          have R9 := R.keep hb9; clear R
          have r0' := R9.cell 0 _ rfl; clear r0
          have y0' := R9.fz 0 (by simp); clear y0
          have r1' := R9.cell 1 _ rfl; clear r1
          have y1' := R9.fz 1 (by simp); clear y1
          have r2' := R9.cell 2 _ rfl; clear r2
          have y2' := R9.fz 2 (by simp); clear y2
          have r3' := R9.cell 3 _ rfl; clear r3
          have y3' := R9.fz 3 (by simp); clear y3
          have r4' := R9.cell 4 _ rfl; clear r4
          have y4' := R9.fz 4 (by simp); clear y4
          have r5' := R9.cell 5 _ rfl; clear r5
          have y5' := R9.fz 5 (by simp); clear y5
          have r6' := R9.cell 6 _ rfl; clear r6
          have y6' := R9.fz 6 (by simp); clear y6
          have r7' := R9.cell 7 _ rfl; clear r7
          have y7' := R9.fz 7 (by simp); clear y7
          have hz9 := hb9.size
          obtain ⟨WF, hWF⟩ : ∃ W, W = ((((((((w9.setCell ⟨w.heap.size, 0, none⟩ (.int .i64 (v1 : Int))).setCell ⟨w.heap.size, 1, none⟩ (.int .i64 (v2 : Int))).setCell ⟨w.heap.size, 2, none⟩ (.int .i64 (v3 : Int))).setCell ⟨w.heap.size, 3, none⟩ (.string v5)).setCell ⟨w.heap.size, 4, none⟩ (.string v6)).setCell ⟨w.heap.size, 5, none⟩ (.string v7)).setCell ⟨w.heap.size, 6, none⟩ (.int .i64 (v4 : Int))).setCell ⟨w.heap.size, 7, none⟩ (.slice A cs.length cap)) := ⟨_, rfl⟩
          have hsF : WF = setsW w9 w.heap.size 0 [.int .i64 (v1 : Int), .int .i64 (v2 : Int), .int .i64 (v3 : Int), .string v5, .string v6, .string v7, .int .i64 (v4 : Int), .slice A cs.length cap] := hWF
          have cF : Ch (fun b => b = w.heap.size) w9 WF := by rw [hsF]; exact ch_setsW _ _ _
          have RF : BoxL WF w.heap.size [.int .i64 (v1 : Int), .int .i64 (v2 : Int), .int .i64 (v3 : Int), .string v5, .string v6, .string v7, .int .i64 (v4 : Int), .slice A cs.length cap] := by rw [hsF]; exact R9.sets rfl
          have HWF := Lib.hid hWF; clear hWF hsF
          have q0 := RF.cell 0 _ rfl
          have q1 := RF.cell 1 _ rfl
          have q2 := RF.cell 2 _ rfl
          have q3 := RF.cell 3 _ rfl
          have q4 := RF.cell 4 _ rfl
          have q5 := RF.cell 5 _ rfl
          have q6 := RF.cell 6 _ rfl
          have q7 := RF.cell 7 _ rfl
          have hsz := cF.size
          have hBF : Below w.heap.size w WF := cF.belowB (bthen hB hb9) (by omega) (fun k hk => by have hk : k = _ := hk; omega)
          have ho9 := own_chL hown (Ch.of_below (S := fun _ => False) hb9) (fun _ _ h => h)
          have hoF := own_chL ho9 cF (fun b hb h2 => by have h2 : b = w.heap.size := h2; have := (own_lo ho9 b hb).1; omega)
          clear ho9
          clear cF RF R9 hown
          repeat (first | rw [← HWF.out] | go_values | go_skip | go_guarded | go_step | go_upon | (simp only []; go_at_K))
          refine bodyPost_ret (v := .tuple #[.agg #[.int .i64 (v1 : Int), .int .i64 (v2 : Int), .int .i64 (v3 : Int), .string v5, .string v6, .string v7, .int .i64 (v4 : Int), .slice A cs.length cap], .bool true]) (by simp [results, Try.results87, go_sem, q0, q1, q2, q3, q4, q5, q6, q7]) rfl ?_
          rw [HRR.out, HRB.out, HX.out]
          exact ⟨⟨A, _, cap, _, rfl, StrO.mk' (own_up hoF (Nat.zero_le _)), by cases A <;> simp [blkL], fun b hb => by have := own_lo hoF b hb; omega⟩, hBF⟩
      · have hcV : cmV X (.slice A cs.length cap) = .agg #[.int .i64 (v1 : Int), .int .i64 (v2 : Int), .int .i64 (v3 : Int), .string v5, .string v6, .string v7, .int .i64 (v4 : Int), .slice A cs.length cap] := by rw [hX]; rfl
        have HRR := Lib.hid hr; have HRB := Lib.hid hrb
        clear hr hrb hgo
        have hk : bad = true ∨ (bad = false ∧ s.toList.isEmpty = true) ∨ (bad = false ∧ s.toList.isEmpty = false ∧ ((cmText X).toList == s.toList) = false) := by
          cases bad
          · rw [hte]
            by_cases h0 : s = ByteArray.empty
            · exact .inr (.inl ⟨rfl, by simp [h0]⟩)
            · refine .inr (.inr ⟨rfl, by simp [h0], ?_⟩)
              rw [str_beq]
              rcases hbad with h | h | h
              · cases h
              · exact absurd h h0
              · simpa using h
          · exact .inl rfl
        clear hbad hte
        rcases hgd with ⟨g2, g3⟩ | g2
        · rcases hk with rfl | ⟨rfl, hte⟩ | ⟨rfl, hte, g1⟩
          · clear hX hX1 hcV e0 e1 e2 e3 e4 e5 e6 e7
            obtain ⟨WF, hWF⟩ : ∃ W, W = ((((((((wr.setCell ⟨w.heap.size, 0, none⟩ (.int .i64 0)).setCell ⟨w.heap.size, 1, none⟩ (.int .i64 0)).setCell ⟨w.heap.size, 2, none⟩ (.int .i64 0)).setCell ⟨w.heap.size, 3, none⟩ (.string ⟨#[]⟩)).setCell ⟨w.heap.size, 4, none⟩ (.string ⟨#[]⟩)).setCell ⟨w.heap.size, 5, none⟩ (.string ⟨#[]⟩)).setCell ⟨w.heap.size, 6, none⟩ (.int .i64 0)).setCell ⟨w.heap.size, 7, none⟩ (.slice none 0 0)) := ⟨_, rfl⟩
            have hsF : WF = setsW wr w.heap.size 0 [.int .i64 0, .int .i64 0, .int .i64 0, .string ⟨#[]⟩, .string ⟨#[]⟩, .string ⟨#[]⟩, .int .i64 0, .slice none 0 0] := hWF
            have cF : Ch (fun b => b = w.heap.size) wr WF := by rw [hsF]; exact ch_setsW _ _ _
            have RF : BoxL WF w.heap.size [.int .i64 0, .int .i64 0, .int .i64 0, .string ⟨#[]⟩, .string ⟨#[]⟩, .string ⟨#[]⟩, .int .i64 0, .slice none 0 0] := by rw [hsF]; exact R.sets rfl
            have HWF := Lib.hid hWF; clear hWF hsF
            have q0 := RF.cell 0 _ rfl
            have q1 := RF.cell 1 _ rfl
            have q2 := RF.cell 2 _ rfl
            have q3 := RF.cell 3 _ rfl
            have q4 := RF.cell 4 _ rfl
            have q5 := RF.cell 5 _ rfl
            have q6 := RF.cell 6 _ rfl
            have q7 := RF.cell 7 _ rfl
            have hsz := cF.size
            have hBF : Below w.heap.size w WF := cF.belowB hB (by omega) (fun k hk => by have hk : k = _ := hk; omega)
            clear cF RF R hown
            repeat (first | rw [← HWF.out] | go_values | go_skip | go_guarded | go_step | go_upon | (simp only []; go_at_K))
            refine bodyPost_ret (v := .tuple #[.agg #[.int .i64 0, .int .i64 0, .int .i64 0, .string ⟨#[]⟩, .string ⟨#[]⟩, .string ⟨#[]⟩, .int .i64 0, .slice none 0 0], .bool false]) (by simp [results, Try.results87, go_sem, q0, q1, q2, q3, q4, q5, q6, q7]) rfl ?_
            rw [HRR.out, HRB.out]
            exact ⟨⟨none, 0, 0, [], rfl, StrO.nil, List.nodup_nil, fun b hb => by cases hb⟩, hBF⟩
          · clear hX hX1 hcV e0 e1 e2 e3 e4 e5 e6 e7
            obtain ⟨WF, hWF⟩ : ∃ W, W = ((((((((wr.setCell ⟨w.heap.size, 0, none⟩ (.int .i64 0)).setCell ⟨w.heap.size, 1, none⟩ (.int .i64 0)).setCell ⟨w.heap.size, 2, none⟩ (.int .i64 0)).setCell ⟨w.heap.size, 3, none⟩ (.string ⟨#[]⟩)).setCell ⟨w.heap.size, 4, none⟩ (.string ⟨#[]⟩)).setCell ⟨w.heap.size, 5, none⟩ (.string ⟨#[]⟩)).setCell ⟨w.heap.size, 6, none⟩ (.int .i64 0)).setCell ⟨w.heap.size, 7, none⟩ (.slice none 0 0)) := ⟨_, rfl⟩
            have hsF : WF = setsW wr w.heap.size 0 [.int .i64 0, .int .i64 0, .int .i64 0, .string ⟨#[]⟩, .string ⟨#[]⟩, .string ⟨#[]⟩, .int .i64 0, .slice none 0 0] := hWF
            have cF : Ch (fun b => b = w.heap.size) wr WF := by rw [hsF]; exact ch_setsW _ _ _
            have RF : BoxL WF w.heap.size [.int .i64 0, .int .i64 0, .int .i64 0, .string ⟨#[]⟩, .string ⟨#[]⟩, .string ⟨#[]⟩, .int .i64 0, .slice none 0 0] := by rw [hsF]; exact R.sets rfl
            have HWF := Lib.hid hWF; clear hWF hsF
            have q0 := RF.cell 0 _ rfl
            have q1 := RF.cell 1 _ rfl
            have q2 := RF.cell 2 _ rfl
            have q3 := RF.cell 3 _ rfl
            have q4 := RF.cell 4 _ rfl
            have q5 := RF.cell 5 _ rfl
            have q6 := RF.cell 6 _ rfl
            have q7 := RF.cell 7 _ rfl
            have hsz := cF.size
            have hBF : Below w.heap.size w WF := cF.belowB hB (by omega) (fun k hk => by have hk : k = _ := hk; omega)
            clear cF RF R hown
            repeat (first | rw [← HWF.out] | go_values | go_skip | go_guarded | go_step | go_upon | (simp only []; go_at_K))
            refine bodyPost_ret (v := .tuple #[.agg #[.int .i64 0, .int .i64 0, .int .i64 0, .string ⟨#[]⟩, .string ⟨#[]⟩, .string ⟨#[]⟩, .int .i64 0, .slice none 0 0], .bool false]) (by simp [results, Try.results87, go_sem, q0, q1, q2, q3, q4, q5, q6, q7]) rfl ?_
            rw [HRR.out, HRB.out]
            exact ⟨⟨none, 0, 0, [], rfl, StrO.nil, List.nodup_nil, fun b hb => by cases hb⟩, hBF⟩
          · skip
            go_wp2_with fail
            rw [← hcV]
            have HX := Lib.hid hX; clear hX hX1 hcV
            refine (showCmd_impl X _ _ _ _ hStr hcB).mono ?_
            rintro e w9 ⟨rfl, hb9⟩
            have e0' := keep_cell hb9 e0; clear e0
            have e1' := keep_cell hb9 e1; clear e1
            have e2' := keep_cell hb9 e2; clear e2
            have e3' := keep_cell hb9 e3; clear e3
            have e4' := keep_cell hb9 e4; clear e4
            have e5' := keep_cell hb9 e5; clear e5
            have e6' := keep_cell hb9 e6; clear e6
            have e7' := keep_cell hb9 e7; clear e7
            have R9 := R.keep hb9; clear R
            have r0' := R9.cell 0 _ rfl; clear r0
            have y0' := R9.fz 0 (by simp); clear y0
            have r1' := R9.cell 1 _ rfl; clear r1
            have y1' := R9.fz 1 (by simp); clear y1
            have r2' := R9.cell 2 _ rfl; clear r2
            have y2' := R9.fz 2 (by simp); clear y2
            have r3' := R9.cell 3 _ rfl; clear r3
            have y3' := R9.fz 3 (by simp); clear y3
            have r4' := R9.cell 4 _ rfl; clear r4
            have y4' := R9.fz 4 (by simp); clear y4
            have r5' := R9.cell 5 _ rfl; clear r5
            have y5' := R9.fz 5 (by simp); clear y5
            have r6' := R9.cell 6 _ rfl; clear r6
            have y6' := R9.fz 6 (by simp); clear y6
            have r7' := R9.cell 7 _ rfl; clear r7
            have y7' := R9.fz 7 (by simp); clear y7
            have hz9 := hb9.size
            obtain ⟨WF, hWF⟩ : ∃ W, W = ((((((((w9.setCell ⟨w.heap.size, 0, none⟩ (.int .i64 0)).setCell ⟨w.heap.size, 1, none⟩ (.int .i64 0)).setCell ⟨w.heap.size, 2, none⟩ (.int .i64 0)).setCell ⟨w.heap.size, 3, none⟩ (.string ⟨#[]⟩)).setCell ⟨w.heap.size, 4, none⟩ (.string ⟨#[]⟩)).setCell ⟨w.heap.size, 5, none⟩ (.string ⟨#[]⟩)).setCell ⟨w.heap.size, 6, none⟩ (.int .i64 0)).setCell ⟨w.heap.size, 7, none⟩ (.slice none 0 0)) := ⟨_, rfl⟩
            have hsF : WF = setsW w9 w.heap.size 0 [.int .i64 0, .int .i64 0, .int .i64 0, .string ⟨#[]⟩, .string ⟨#[]⟩, .string ⟨#[]⟩, .int .i64 0, .slice none 0 0] := hWF
            have cF : Ch (fun b => b = w.heap.size) w9 WF := by rw [hsF]; exact ch_setsW _ _ _
            have RF : BoxL WF w.heap.size [.int .i64 0, .int .i64 0, .int .i64 0, .string ⟨#[]⟩, .string ⟨#[]⟩, .string ⟨#[]⟩, .int .i64 0, .slice none 0 0] := by rw [hsF]; exact R9.sets rfl
            have HWF := Lib.hid hWF; clear hWF hsF
            have q0 := RF.cell 0 _ rfl
            have q1 := RF.cell 1 _ rfl
            have q2 := RF.cell 2 _ rfl
            have q3 := RF.cell 3 _ rfl
            have q4 := RF.cell 4 _ rfl
            have q5 := RF.cell 5 _ rfl
            have q6 := RF.cell 6 _ rfl
            have q7 := RF.cell 7 _ rfl
            have hsz := cF.size
            have hBF : Below w.heap.size w WF := cF.belowB (bthen hB hb9) (by omega) (fun k hk => by have hk : k = _ := hk; omega)
            clear cF RF R9 hown
            repeat (first | rw [← HWF.out] | go_values | go_skip | go_guarded | go_step | go_upon | (simp only []; go_at_K))
            refine bodyPost_ret (v := .tuple #[.agg #[.int .i64 0, .int .i64 0, .int .i64 0, .string ⟨#[]⟩, .string ⟨#[]⟩, .string ⟨#[]⟩, .int .i64 0, .slice none 0 0], .bool false]) (by simp [results, Try.results87, go_sem, q0, q1, q2, q3, q4, q5, q6, q7]) rfl ?_
            rw [HRR.out, HRB.out]
            exact ⟨⟨none, 0, 0, [], rfl, StrO.nil, List.nodup_nil, fun b hb => by cases hb⟩, hBF⟩
        · rcases hk with rfl | ⟨rfl, hte⟩ | ⟨rfl, hte, g1⟩
          · clear hX hX1 hcV e0 e1 e2 e3 e4 e5 e6 e7
            obtain ⟨WF, hWF⟩ : ∃ W, W = ((((((((wr.setCell ⟨w.heap.size, 0, none⟩ (.int .i64 0)).setCell ⟨w.heap.size, 1, none⟩ (.int .i64 0)).setCell ⟨w.heap.size, 2, none⟩ (.int .i64 0)).setCell ⟨w.heap.size, 3, none⟩ (.string ⟨#[]⟩)).setCell ⟨w.heap.size, 4, none⟩ (.string ⟨#[]⟩)).setCell ⟨w.heap.size, 5, none⟩ (.string ⟨#[]⟩)).setCell ⟨w.heap.size, 6, none⟩ (.int .i64 0)).setCell ⟨w.heap.size, 7, none⟩ (.slice none 0 0)) := ⟨_, rfl⟩
            have hsF : WF = setsW wr w.heap.size 0 [.int .i64 0, .int .i64 0, .int .i64 0, .string ⟨#[]⟩, .string ⟨#[]⟩, .string ⟨#[]⟩, .int .i64 0, .slice none 0 0] := hWF
            have cF : Ch (fun b => b = w.heap.size) wr WF := by rw [hsF]; exact ch_setsW _ _ _
            have RF : BoxL WF w.heap.size [.int .i64 0, .int .i64 0, .int .i64 0, .string ⟨#[]⟩, .string ⟨#[]⟩, .string ⟨#[]⟩, .int .i64 0, .slice none 0 0] := by rw [hsF]; exact R.sets rfl
            have HWF := Lib.hid hWF; clear hWF hsF
            have q0 := RF.cell 0 _ rfl
            have q1 := RF.cell 1 _ rfl
            have q2 := RF.cell 2 _ rfl
            have q3 := RF.cell 3 _ rfl
            have q4 := RF.cell 4 _ rfl
            have q5 := RF.cell 5 _ rfl
            have q6 := RF.cell 6 _ rfl
            have q7 := RF.cell 7 _ rfl
            have hsz := cF.size
            have hBF : Below w.heap.size w WF := cF.belowB hB (by omega) (fun k hk => by have hk : k = _ := hk; omega)
            clear cF RF R hown
            repeat (first | rw [← HWF.out] | go_values | go_skip | go_guarded | go_step | go_upon | (simp only []; go_at_K))
            refine bodyPost_ret (v := .tuple #[.agg #[.int .i64 0, .int .i64 0, .int .i64 0, .string ⟨#[]⟩, .string ⟨#[]⟩, .string ⟨#[]⟩, .int .i64 0, .slice none 0 0], .bool false]) (by simp [results, Try.results87, go_sem, q0, q1, q2, q3, q4, q5, q6, q7]) rfl ?_
            rw [HRR.out, HRB.out]
            exact ⟨⟨none, 0, 0, [], rfl, StrO.nil, List.nodup_nil, fun b hb => by cases hb⟩, hBF⟩
          · clear hX hX1 hcV e0 e1 e2 e3 e4 e5 e6 e7
            obtain ⟨WF, hWF⟩ : ∃ W, W = ((((((((wr.setCell ⟨w.heap.size, 0, none⟩ (.int .i64 0)).setCell ⟨w.heap.size, 1, none⟩ (.int .i64 0)).setCell ⟨w.heap.size, 2, none⟩ (.int .i64 0)).setCell ⟨w.heap.size, 3, none⟩ (.string ⟨#[]⟩)).setCell ⟨w.heap.size, 4, none⟩ (.string ⟨#[]⟩)).setCell ⟨w.heap.size, 5, none⟩ (.string ⟨#[]⟩)).setCell ⟨w.heap.size, 6, none⟩ (.int .i64 0)).setCell ⟨w.heap.size, 7, none⟩ (.slice none 0 0)) := ⟨_, rfl⟩
            have hsF : WF = setsW wr w.heap.size 0 [.int .i64 0, .int .i64 0, .int .i64 0, .string ⟨#[]⟩, .string ⟨#[]⟩, .string ⟨#[]⟩, .int .i64 0, .slice none 0 0] := hWF
            have cF : Ch (fun b => b = w.heap.size) wr WF := by rw [hsF]; exact ch_setsW _ _ _
            have RF : BoxL WF w.heap.size [.int .i64 0, .int .i64 0, .int .i64 0, .string ⟨#[]⟩, .string ⟨#[]⟩, .string ⟨#[]⟩, .int .i64 0, .slice none 0 0] := by rw [hsF]; exact R.sets rfl
            have HWF := Lib.hid hWF; clear hWF hsF
            have q0 := RF.cell 0 _ rfl
            have q1 := RF.cell 1 _ rfl
            have q2 := RF.cell 2 _ rfl
            have q3 := RF.cell 3 _ rfl
            have q4 := RF.cell 4 _ rfl
            have q5 := RF.cell 5 _ rfl
            have q6 := RF.cell 6 _ rfl
            have q7 := RF.cell 7 _ rfl
            have hsz := cF.size
            have hBF : Below w.heap.size w WF := cF.belowB hB (by omega) (fun k hk => by have hk : k = _ := hk; omega)
            clear cF RF R hown
            repeat (first | rw [← HWF.out] | go_values | go_skip | go_guarded | go_step | go_upon | (simp only []; go_at_K))
            refine bodyPost_ret (v := .tuple #[.agg #[.int .i64 0, .int .i64 0, .int .i64 0, .string ⟨#[]⟩, .string ⟨#[]⟩, .string ⟨#[]⟩, .int .i64 0, .slice none 0 0], .bool false]) (by simp [results, Try.results87, go_sem, q0, q1, q2, q3, q4, q5, q6, q7]) rfl ?_
            rw [HRR.out, HRB.out]
            exact ⟨⟨none, 0, 0, [], rfl, StrO.nil, List.nodup_nil, fun b hb => by cases hb⟩, hBF⟩
          · skip
            go_wp2_with fail
            rw [← hcV]
            have HX := Lib.hid hX; clear hX hX1 hcV
            refine (showCmd_impl X _ _ _ _ hStr hcB).mono ?_
            rintro e w9 ⟨rfl, hb9⟩
            have e0' := keep_cell hb9 e0; clear e0
            have e1' := keep_cell hb9 e1; clear e1
            have e2' := keep_cell hb9 e2; clear e2
            have e3' := keep_cell hb9 e3; clear e3
            have e4' := keep_cell hb9 e4; clear e4
            have e5' := keep_cell hb9 e5; clear e5
            have e6' := keep_cell hb9 e6; clear e6
            have e7' := keep_cell hb9 e7; clear e7
            have R9 := R.keep hb9; clear R
            have r0' := R9.cell 0 _ rfl; clear r0
            have y0' := R9.fz 0 (by simp); clear y0
            have r1' := R9.cell 1 _ rfl; clear r1
            have y1' := R9.fz 1 (by simp); clear y1
            have r2' := R9.cell 2 _ rfl; clear r2
            have y2' := R9.fz 2 (by simp); clear y2
            have r3' := R9.cell 3 _ rfl; clear r3
            have y3' := R9.fz 3 (by simp); clear y3
            have r4' := R9.cell 4 _ rfl; clear r4
            have y4' := R9.fz 4 (by simp); clear y4
            have r5' := R9.cell 5 _ rfl; clear r5
            have y5' := R9.fz 5 (by simp); clear y5
            have r6' := R9.cell 6 _ rfl; clear r6
            have y6' := R9.fz 6 (by simp); clear y6
            have r7' := R9.cell 7 _ rfl; clear r7
            have y7' := R9.fz 7 (by simp); clear y7
            have hz9 := hb9.size
            obtain ⟨WF, hWF⟩ : ∃ W, W = ((((((((w9.setCell ⟨w.heap.size, 0, none⟩ (.int .i64 0)).setCell ⟨w.heap.size, 1, none⟩ (.int .i64 0)).setCell ⟨w.heap.size, 2, none⟩ (.int .i64 0)).setCell ⟨w.heap.size, 3, none⟩ (.string ⟨#[]⟩)).setCell ⟨w.heap.size, 4, none⟩ (.string ⟨#[]⟩)).setCell ⟨w.heap.size, 5, none⟩ (.string ⟨#[]⟩)).setCell ⟨w.heap.size, 6, none⟩ (.int .i64 0)).setCell ⟨w.heap.size, 7, none⟩ (.slice none 0 0)) := ⟨_, rfl⟩
            have hsF : WF = setsW w9 w.heap.size 0 [.int .i64 0, .int .i64 0, .int .i64 0, .string ⟨#[]⟩, .string ⟨#[]⟩, .string ⟨#[]⟩, .int .i64 0, .slice none 0 0] := hWF
            have cF : Ch (fun b => b = w.heap.size) w9 WF := by rw [hsF]; exact ch_setsW _ _ _
            have RF : BoxL WF w.heap.size [.int .i64 0, .int .i64 0, .int .i64 0, .string ⟨#[]⟩, .string ⟨#[]⟩, .string ⟨#[]⟩, .int .i64 0, .slice none 0 0] := by rw [hsF]; exact R9.sets rfl
            have HWF := Lib.hid hWF; clear hWF hsF
            have q0 := RF.cell 0 _ rfl
            have q1 := RF.cell 1 _ rfl
            have q2 := RF.cell 2 _ rfl
            have q3 := RF.cell 3 _ rfl
            have q4 := RF.cell 4 _ rfl
            have q5 := RF.cell 5 _ rfl
            have q6 := RF.cell 6 _ rfl
            have q7 := RF.cell 7 _ rfl
            have hsz := cF.size
            have hBF : Below w.heap.size w WF := cF.belowB (bthen hB hb9) (by omega) (fun k hk => by have hk : k = _ := hk; omega)
            clear cF RF R9 hown
            repeat (first | rw [← HWF.out] | go_values | go_skip | go_guarded | go_step | go_upon | (simp only []; go_at_K))
            refine bodyPost_ret (v := .tuple #[.agg #[.int .i64 0, .int .i64 0, .int .i64 0, .string ⟨#[]⟩, .string ⟨#[]⟩, .string ⟨#[]⟩, .int .i64 0, .slice none 0 0], .bool false]) (by simp [results, Try.results87, go_sem, q0, q1, q2, q3, q4, q5, q6, q7]) rfl ?_
            rw [HRR.out, HRB.out]
            exact ⟨⟨none, 0, 0, [], rfl, StrO.nil, List.nodup_nil, fun b hb => by cases hb⟩, hBF⟩
end Go.Proofs.Ytdphdnllhmnelaa
