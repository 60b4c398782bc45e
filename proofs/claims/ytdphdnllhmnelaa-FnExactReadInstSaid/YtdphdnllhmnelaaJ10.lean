/- Contracts and lemmas: ReadInst, L4b, RdS, RdApp, Dag, DagB. -/
import Derived.Test.YtdphdnllhmnelaaJ8
import Derived.Test.YtdphdnllhmnelaaJ9
import Derived.Test.YtdphdnllhmnelaaJ5
import Derived.Test.YtdphdnllhmnelaaJ0
import Derived.OrdersHeld
import Derived.Deep.RegionHeld3
/- Contract of the program's ReadInst. -/
namespace Go.Proofs.Ytdphdnllhmnelaa
open Go.RowKit
/-- the instance read so far; where the text is no instance's: whatever was read -/
theorem rdi_end {s : ByteArray} {X : Ins} {bad : Bool} (HE : ∀ c, insOkB c = true → insText c = s → c = X ∧ bad = false) :
    (bad = false ∧ s ≠ ByteArray.empty ∧ insText X = s ∧ rdIn s = X ∧ rdInB s = true) ∨ ((bad = true ∨ s = ByteArray.empty ∨ insText X ≠ s) ∧ rdIn s = insNil ∧ rdInB s = false) := by
  by_cases h1 : bad = false
  · by_cases h2 : s = ByteArray.empty
    · exact .inr ⟨.inr (.inl h2), rdIn_no (fun c hc hs => insText_ne hc (hs.trans h2))⟩
    · by_cases h3 : insText X = s
      · have hok : insOkB X = true := by
          cases hx : insOkB X
          · rw [insText_no hx] at h3; exact absurd h3.symm h2
          · rfl
        exact .inl ⟨h1, h2, h3, rdIn_yes hok h3⟩
      · exact .inr ⟨.inr (.inr h3), rdIn_no (fun c hc hs => h3 (by rw [← (HE c hc hs).1]; exact hs))⟩
  · exact .inr ⟨.inl (by simpa using h1), rdIn_no (fun c hc hs => h1 (HE c hc hs).2)⟩
theorem idd_els (w : World) : ∀ l : List Idd, Els iddF w (l.map iddL) (l.map fun _ => []) l
  | [] => trivial
  | x :: l => ⟨⟨rfl, rfl⟩, idd_els w l⟩
theorem nil_flat : ∀ l : List Idd, (l.map fun _ => ([] : List Nat)).flatten = []
  | [] => rfl
  | _ :: l => by simp
theorem idd_row {w : World} {A : Option Addr} {n c : Nat} {l : List Idd} (h : w.ownsRow 0 46 2 (.slice A n c) n (l.map iddL).flatten) (hn : n = l.length) : RowO iddF 46 2 (blkL A) w A n c l :=
  ⟨l.map iddL, l.map fun _ => [], by rw [nil_flat, List.append_nil], h, hn, idd_els w l⟩
theorem infoIdV : (Try.prog.info? 46).map (fun i => (i.zero, i.size, i.bytes)) = some (some (.agg #[.int .i64 0, .int .i64 0]), 2, 16) := by kernel_rfl
theorem sizeInst : (Try.prog.info? 50).map (·.size) = some 16 := by kernel_rfl
theorem ins_noBd (s : ByteArray) : cmB (rdCm s) := cmBd_cmB (cmOk_bd (rdCm_ok s))
theorem is_one (s : ByteArray) : (s.toList == [1]) = isOne s := by
  have h : (⟨#[1]⟩ : ByteArray).toList = [1] := by rw [Lib.toList_data]
  have := str_beq s ⟨#[1]⟩
  rwa [h] at this
attribute [local irreducible] StrsAt StrR StrO RowR RowO varS insOkB insText numF textF cutF manyF rdCm rdCmB rdIn rdInB InJ isOne
set_option maxRecDepth 8000 in
set_option maxHeartbeats 8000000 in
theorem readInst_impl (s : ByteArray) (w : World) (hs : s.size ≤ 1048576) :
    Calls Try.prog 29 #[.string s] w fun e w' => (∃ A1 n1 c1 A2 n2 c2 f1 f2, e = .returned (.tuple #[insV (rdIn s) (.slice A1 n1 c1) (.slice A2 n2 c2), .bool (rdInB s)]) ∧ StrO f1 w' A1 n1 c1 (rdIn s).cmd.ch ∧ RowO iddF 46 2 f2 w' A2 n2 c2 (rdIn s).deps ∧ (f1 ++ f2).Nodup ∧ ∀ b ∈ f1 ++ f2, w.heap.size ≤ b ∧ b < w'.heap.size) ∧ Below w.heap.size w w' := by
  go_enter Try.func29, Try.ntmps29
  go_wp2_with fail
  obtain ⟨W0, hW0⟩ : ∃ W, W = ((w.alloc (.cells #[.int .i64 0, .int .i64 0, .int .i64 0, .int .i64 0, .int .i64 0, .int .i64 0, .int .i64 0, .int .i64 0, .string ⟨#[]⟩, .string ⟨#[]⟩, .string ⟨#[]⟩, .int .i64 0, .slice none 0 0, .int .i64 0, .slice none 0 0, .bool false] 50)).alloc (.cells #[.string s, .bool false] 119)).alloc (.cells #[.int .i64 0, .int .i64 0, .int .i64 0, .int .i64 0, .int .i64 0, .int .i64 0, .int .i64 0, .int .i64 0, .string ⟨#[]⟩, .string ⟨#[]⟩, .string ⟨#[]⟩, .int .i64 0, .slice none 0 0, .int .i64 0, .slice none 0 0, .bool false] 50) := ⟨_, rfl⟩
  have al1 := (Below.refl w.heap.size w).alloc (Nat.le_refl _) (.cells #[.int .i64 0, .int .i64 0, .int .i64 0, .int .i64 0, .int .i64 0, .int .i64 0, .int .i64 0, .int .i64 0, .string ⟨#[]⟩, .string ⟨#[]⟩, .string ⟨#[]⟩, .int .i64 0, .slice none 0 0, .int .i64 0, .slice none 0 0, .bool false] 50)
  obtain ⟨Wa, hWa⟩ : ∃ W, W = w.alloc (.cells #[.int .i64 0, .int .i64 0, .int .i64 0, .int .i64 0, .int .i64 0, .int .i64 0, .int .i64 0, .int .i64 0, .string ⟨#[]⟩, .string ⟨#[]⟩, .string ⟨#[]⟩, .int .i64 0, .slice none 0 0, .int .i64 0, .slice none 0 0, .bool false] 50) := ⟨_, rfl⟩
  rw [← hWa] at al1 hW0
  have R : BoxL Wa w.heap.size [.int .i64 0, .int .i64 0, .int .i64 0, .int .i64 0, .int .i64 0, .int .i64 0, .int .i64 0, .int .i64 0, .string ⟨#[]⟩, .string ⟨#[]⟩, .string ⟨#[]⟩, .int .i64 0, .slice none 0 0, .int .i64 0, .slice none 0 0, .bool false] := by rw [hWa]; exact BoxL.new w _ _
  have za : Wa.heap.size = w.heap.size + 1 := by rw [hWa]; simp [go_sem]
  have al2 := (Below.refl Wa.heap.size Wa).alloc (Nat.le_refl _) (.cells #[.string s, .bool false] 119)
  obtain ⟨Wb, hWb⟩ : ∃ W, W = Wa.alloc (.cells #[.string s, .bool false] 119) := ⟨_, rfl⟩
  rw [← hWb] at al2 hW0
  have S : Scn Wb (w.heap.size + 1) (s, false) := by rw [hWb, ← za]; exact ⟨by simp [go_sem], by simp [go_sem], by simp [go_sem], by simp [go_sem], by simp only; omega⟩
  have zb : Wb.heap.size = w.heap.size + 2 := by rw [hWb]; simp [go_sem]; omega
  have al3 := (Below.refl Wb.heap.size Wb).alloc (Nat.le_refl _) (.cells #[.int .i64 0, .int .i64 0, .int .i64 0, .int .i64 0, .int .i64 0, .int .i64 0, .int .i64 0, .int .i64 0, .string ⟨#[]⟩, .string ⟨#[]⟩, .string ⟨#[]⟩, .int .i64 0, .slice none 0 0, .int .i64 0, .slice none 0 0, .bool false] 50)
  rw [← hW0] at al3
  have C : BoxL W0 (w.heap.size + 1 + 1) [.int .i64 0, .int .i64 0, .int .i64 0, .int .i64 0, .int .i64 0, .int .i64 0, .int .i64 0, .int .i64 0, .string ⟨#[]⟩, .string ⟨#[]⟩, .string ⟨#[]⟩, .int .i64 0, .slice none 0 0, .int .i64 0, .slice none 0 0, .bool false] := by rw [hW0, ← zb]; exact BoxL.new Wb _ _
  have R' := (R.keep al2).keep al3; clear R; have R := R'; clear R'
  have S' := S.keep al3; clear S; have S := S'; clear S'
  have B : Below w.heap.size w W0 := bthen (bthen al1 al2) al3
  have z : w.heap.size + 1 + 1 < W0.heap.size := C.lt
  rw [hWb, hWa] at hW0
  rw [← hW0]; clear hW0 al1 al2 al3 hWa hWb za zb Wa Wb
  have hx0 : ((s, false) : Sc).1.size ≤ 1048576 := hs
  refine (num_impl _ _ _ S).mono ?_
  rintro e w1 ⟨rfl, S', c1⟩
  clear S; have S := S'; clear S'
  have R' := R.ch c1 (ne_blk (by omega)); clear R; have R := R'; clear R'
  have C' := C.ch c1 (ne_blk (by omega)); clear C; have C := C'; clear C'
  have B' := c1.belowB B (by omega) (fun k hk => by have hk : k = _ := hk; omega); clear B; have B := B'; clear B'
  have z' := Nat.lt_of_lt_of_le z c1.size; clear z; have z := z'; clear z'
  have q1 := numF_le (s, false)
  obtain ⟨⟨v1, x1⟩, f1⟩ : ∃ r, numF (s, false) = r := ⟨_, rfl⟩
  rw [f1] at S q1 ⊢
  simp only at S q1
  have hx1 : x1.1.size ≤ 1048576 := by omega
  have F1 := Lib.hid f1; clear f1 c1
  have e0 := C.cell 0 _ rfl
  have y0 := C.fz 0 (by simp)
  have eL := C.lt
  go_wp2_with fail
  clear e0 y0 eL
  obtain ⟨W1, hW⟩ : ∃ W, W = (w1.setCell ⟨w.heap.size + 1 + 1, 0, none⟩ (.int .i64 (v1 : Int))) := ⟨_, rfl⟩
  rw [← hW]
  have d : Ch (fun k => k = w.heap.size + 1 + 1) w1 W1 := by rw [hW]; exact Ch.set
  have C' : BoxL W1 (w.heap.size + 1 + 1) [.int .i64 (v1 : Int), .int .i64 0, .int .i64 0, .int .i64 0, .int .i64 0, .int .i64 0, .int .i64 0, .int .i64 0, .string ⟨#[]⟩, .string ⟨#[]⟩, .string ⟨#[]⟩, .int .i64 0, .slice none 0 0, .int .i64 0, .slice none 0 0, .bool false] := by rw [hW]; exact (C.set (j := 0) (v := .int .i64 (v1 : Int)) (by simp))
  have R' := R.ch d (ne_blk (by omega)); clear R; have R := R'; clear R'
  have S' := S.ch d (ne_blk (by omega)); clear S; have S := S'; clear S'
  have B' := d.belowB B (by omega) (fun k hk => by have hk : k = _ := hk; omega); clear B; have B := B'; clear B'
  have z' := Nat.lt_of_lt_of_le z d.size; clear z; have z := z'; clear z'
  clear C hW d; have C := C'; clear C'
  refine (num_impl _ _ _ S).mono ?_
  rintro e w2 ⟨rfl, S', c2⟩
  clear S; have S := S'; clear S'
  have R' := R.ch c2 (ne_blk (by omega)); clear R; have R := R'; clear R'
  have C' := C.ch c2 (ne_blk (by omega)); clear C; have C := C'; clear C'
  have B' := c2.belowB B (by omega) (fun k hk => by have hk : k = _ := hk; omega); clear B; have B := B'; clear B'
  have z' := Nat.lt_of_lt_of_le z c2.size; clear z; have z := z'; clear z'
  have q2 := numF_le x1
  obtain ⟨⟨v2, x2⟩, f2⟩ : ∃ r, numF x1 = r := ⟨_, rfl⟩
  rw [f2] at S q2 ⊢
  simp only at S q2
  have hx2 : x2.1.size ≤ 1048576 := by omega
  have F2 := Lib.hid f2; clear f2 c2
  have e1 := C.cell 1 _ rfl
  have y1 := C.fz 1 (by simp)
  have eL := C.lt
  go_wp2_with fail
  clear e1 y1 eL
  obtain ⟨W2, hW⟩ : ∃ W, W = (w2.setCell ⟨w.heap.size + 1 + 1, 1, none⟩ (.int .i64 (v2 : Int))) := ⟨_, rfl⟩
  rw [← hW]
  have d : Ch (fun k => k = w.heap.size + 1 + 1) w2 W2 := by rw [hW]; exact Ch.set
  have C' : BoxL W2 (w.heap.size + 1 + 1) [.int .i64 (v1 : Int), .int .i64 (v2 : Int), .int .i64 0, .int .i64 0, .int .i64 0, .int .i64 0, .int .i64 0, .int .i64 0, .string ⟨#[]⟩, .string ⟨#[]⟩, .string ⟨#[]⟩, .int .i64 0, .slice none 0 0, .int .i64 0, .slice none 0 0, .bool false] := by rw [hW]; exact (C.set (j := 1) (v := .int .i64 (v2 : Int)) (by simp))
  have R' := R.ch d (ne_blk (by omega)); clear R; have R := R'; clear R'
  have S' := S.ch d (ne_blk (by omega)); clear S; have S := S'; clear S'
  have B' := d.belowB B (by omega) (fun k hk => by have hk : k = _ := hk; omega); clear B; have B := B'; clear B'
  have z' := Nat.lt_of_lt_of_le z d.size; clear z; have z := z'; clear z'
  clear C hW d; have C := C'; clear C'
  refine (num_impl _ _ _ S).mono ?_
  rintro e w3 ⟨rfl, S', c3⟩
  clear S; have S := S'; clear S'
  have R' := R.ch c3 (ne_blk (by omega)); clear R; have R := R'; clear R'
  have C' := C.ch c3 (ne_blk (by omega)); clear C; have C := C'; clear C'
  have B' := c3.belowB B (by omega) (fun k hk => by have hk : k = _ := hk; omega); clear B; have B := B'; clear B'
  have z' := Nat.lt_of_lt_of_le z c3.size; clear z; have z := z'; clear z'
  have q3 := numF_le x2
  obtain ⟨⟨v3, x3⟩, f3⟩ : ∃ r, numF x2 = r := ⟨_, rfl⟩
  rw [f3] at S q3 ⊢
  simp only at S q3
  have hx3 : x3.1.size ≤ 1048576 := by omega
  have F3 := Lib.hid f3; clear f3 c3
  go_wp2_with fail
  refine (num_impl _ _ _ S).mono ?_
  rintro e w4 ⟨rfl, S', c4⟩
  clear S; have S := S'; clear S'
  have R' := R.ch c4 (ne_blk (by omega)); clear R; have R := R'; clear R'
  have C' := C.ch c4 (ne_blk (by omega)); clear C; have C := C'; clear C'
  have B' := c4.belowB B (by omega) (fun k hk => by have hk : k = _ := hk; omega); clear B; have B := B'; clear B'
  have z' := Nat.lt_of_lt_of_le z c4.size; clear z; have z := z'; clear z'
  have q4 := numF_le x3
  obtain ⟨⟨v4, x4⟩, f4⟩ : ∃ r, numF x3 = r := ⟨_, rfl⟩
  rw [f4] at S q4 ⊢
  simp only at S q4
  have hx4 : x4.1.size ≤ 1048576 := by omega
  have F4 := Lib.hid f4; clear f4 c4
  have e2 := C.cell 2 _ rfl
  have y2 := C.fz 2 (by simp)
  have e3 := C.cell 3 _ rfl
  have y3 := C.fz 3 (by simp)
  have eL := C.lt
  go_wp2_with fail
  clear e2 y2 e3 y3 eL
  obtain ⟨W4, hW⟩ : ∃ W, W = ((w4.setCell ⟨w.heap.size + 1 + 1, 2, none⟩ (.int .i64 ((v3 : Int) - 1))).setCell ⟨w.heap.size + 1 + 1, 3, none⟩ (.int .i64 ((v4 : Int) - 1))) := ⟨_, rfl⟩
  rw [← hW]
  have d : Ch (fun k => k = w.heap.size + 1 + 1) w4 W4 := by rw [hW]; exact (Ch.set).trans Ch.set
  have C' : BoxL W4 (w.heap.size + 1 + 1) [.int .i64 (v1 : Int), .int .i64 (v2 : Int), .int .i64 ((v3 : Int) - 1), .int .i64 ((v4 : Int) - 1), .int .i64 0, .int .i64 0, .int .i64 0, .int .i64 0, .string ⟨#[]⟩, .string ⟨#[]⟩, .string ⟨#[]⟩, .int .i64 0, .slice none 0 0, .int .i64 0, .slice none 0 0, .bool false] := by rw [hW]; exact ((C.set (j := 2) (v := .int .i64 ((v3 : Int) - 1)) (by simp)).set (j := 3) (v := .int .i64 ((v4 : Int) - 1)) (by simp))
  have R' := R.ch d (ne_blk (by omega)); clear R; have R := R'; clear R'
  have S' := S.ch d (ne_blk (by omega)); clear S; have S := S'; clear S'
  have B' := d.belowB B (by omega) (fun k hk => by have hk : k = _ := hk; omega); clear B; have B := B'; clear B'
  have z' := Nat.lt_of_lt_of_le z d.size; clear z; have z := z'; clear z'
  clear C hW d; have C := C'; clear C'
  refine (num_impl _ _ _ S).mono ?_
  rintro e w5 ⟨rfl, S', c5⟩
  clear S; have S := S'; clear S'
  have R' := R.ch c5 (ne_blk (by omega)); clear R; have R := R'; clear R'
  have C' := C.ch c5 (ne_blk (by omega)); clear C; have C := C'; clear C'
  have B' := c5.belowB B (by omega) (fun k hk => by have hk : k = _ := hk; omega); clear B; have B := B'; clear B'
  have z' := Nat.lt_of_lt_of_le z c5.size; clear z; have z := z'; clear z'
  have q5 := numF_le x4
  obtain ⟨⟨v5, x5⟩, f5⟩ : ∃ r, numF x4 = r := ⟨_, rfl⟩
  rw [f5] at S q5 ⊢
  simp only at S q5
  have hx5 : x5.1.size ≤ 1048576 := by omega
  have F5 := Lib.hid f5; clear f5 c5
  have e4 := C.cell 4 _ rfl
  have y4 := C.fz 4 (by simp)
  have eL := C.lt
  go_wp2_with fail
  clear e4 y4 eL
  obtain ⟨W5, hW⟩ : ∃ W, W = (w5.setCell ⟨w.heap.size + 1 + 1, 4, none⟩ (.int .i64 (v5 : Int))) := ⟨_, rfl⟩
  rw [← hW]
  have d : Ch (fun k => k = w.heap.size + 1 + 1) w5 W5 := by rw [hW]; exact Ch.set
  have C' : BoxL W5 (w.heap.size + 1 + 1) [.int .i64 (v1 : Int), .int .i64 (v2 : Int), .int .i64 ((v3 : Int) - 1), .int .i64 ((v4 : Int) - 1), .int .i64 (v5 : Int), .int .i64 0, .int .i64 0, .int .i64 0, .string ⟨#[]⟩, .string ⟨#[]⟩, .string ⟨#[]⟩, .int .i64 0, .slice none 0 0, .int .i64 0, .slice none 0 0, .bool false] := by rw [hW]; exact (C.set (j := 4) (v := .int .i64 (v5 : Int)) (by simp))
  have R' := R.ch d (ne_blk (by omega)); clear R; have R := R'; clear R'
  have S' := S.ch d (ne_blk (by omega)); clear S; have S := S'; clear S'
  have B' := d.belowB B (by omega) (fun k hk => by have hk : k = _ := hk; omega); clear B; have B := B'; clear B'
  have z' := Nat.lt_of_lt_of_le z d.size; clear z; have z := z'; clear z'
  clear C hW d; have C := C'; clear C'
  refine (num_impl _ _ _ S).mono ?_
  rintro e w6 ⟨rfl, S', c6⟩
  clear S; have S := S'; clear S'
  have R' := R.ch c6 (ne_blk (by omega)); clear R; have R := R'; clear R'
  have C' := C.ch c6 (ne_blk (by omega)); clear C; have C := C'; clear C'
  have B' := c6.belowB B (by omega) (fun k hk => by have hk : k = _ := hk; omega); clear B; have B := B'; clear B'
  have z' := Nat.lt_of_lt_of_le z c6.size; clear z; have z := z'; clear z'
  have q6 := numF_le x5
  obtain ⟨⟨v6, x6⟩, f6⟩ : ∃ r, numF x5 = r := ⟨_, rfl⟩
  rw [f6] at S q6 ⊢
  simp only at S q6
  have hx6 : x6.1.size ≤ 1048576 := by omega
  have F6 := Lib.hid f6; clear f6 c6
  have e13 := C.cell 13 _ rfl
  have y13 := C.fz 13 (by simp)
  have eL := C.lt
  go_wp2_with fail
  clear e13 y13 eL
  obtain ⟨W6, hW⟩ : ∃ W, W = (w6.setCell ⟨w.heap.size + 1 + 1, 13, none⟩ (.int .i64 (v6 : Int))) := ⟨_, rfl⟩
  rw [← hW]
  have d : Ch (fun k => k = w.heap.size + 1 + 1) w6 W6 := by rw [hW]; exact Ch.set
  have C' : BoxL W6 (w.heap.size + 1 + 1) [.int .i64 (v1 : Int), .int .i64 (v2 : Int), .int .i64 ((v3 : Int) - 1), .int .i64 ((v4 : Int) - 1), .int .i64 (v5 : Int), .int .i64 0, .int .i64 0, .int .i64 0, .string ⟨#[]⟩, .string ⟨#[]⟩, .string ⟨#[]⟩, .int .i64 0, .slice none 0 0, .int .i64 (v6 : Int), .slice none 0 0, .bool false] := by rw [hW]; exact (C.set (j := 13) (v := .int .i64 (v6 : Int)) (by simp))
  have R' := R.ch d (ne_blk (by omega)); clear R; have R := R'; clear R'
  have S' := S.ch d (ne_blk (by omega)); clear S; have S := S'; clear S'
  have B' := d.belowB B (by omega) (fun k hk => by have hk : k = _ := hk; omega); clear B; have B := B'; clear B'
  have z' := Nat.lt_of_lt_of_le z d.size; clear z; have z := z'; clear z'
  clear C hW d; have C := C'; clear C'
  refine (cut_impl _ 1 _ _ S (by omega)).mono ?_
  rintro e w7 ⟨rfl, S', c7⟩
  clear S; have S := S'; clear S'
  have R' := R.ch c7 (ne_blk (by omega)); clear R; have R := R'; clear R'
  have C' := C.ch c7 (ne_blk (by omega)); clear C; have C := C'; clear C'
  have B' := c7.belowB B (by omega) (fun k hk => by have hk : k = _ := hk; omega); clear B; have B := B'; clear B'
  have z' := Nat.lt_of_lt_of_le z c7.size; clear z; have z := z'; clear z'
  have q7 := cutF_cost x6 1
  obtain ⟨⟨v7, x7⟩, f7⟩ : ∃ r, cutF x6 1 = r := ⟨_, rfl⟩
  rw [f7] at S q7 ⊢
  simp only at S q7
  have hx7 : x7.1.size ≤ 1048576 := by omega
  have F7 := Lib.hid f7; clear f7 c7
  have e15 := C.cell 15 _ rfl
  have y15 := C.fz 15 (by simp)
  have eL := C.lt
  have hone : (v7.toList == [1]) = isOne v7 := is_one v7
  go_wp2_with fail
  clear e15 y15 eL
  clear hone
  obtain ⟨W7, hW⟩ : ∃ W, W = (w7.setCell ⟨w.heap.size + 1 + 1, 15, none⟩ (.bool (isOne v7))) := ⟨_, rfl⟩
  rw [← hW]
  have d : Ch (fun k => k = w.heap.size + 1 + 1) w7 W7 := by rw [hW]; exact Ch.set
  have C' : BoxL W7 (w.heap.size + 1 + 1) [.int .i64 (v1 : Int), .int .i64 (v2 : Int), .int .i64 ((v3 : Int) - 1), .int .i64 ((v4 : Int) - 1), .int .i64 (v5 : Int), .int .i64 0, .int .i64 0, .int .i64 0, .string ⟨#[]⟩, .string ⟨#[]⟩, .string ⟨#[]⟩, .int .i64 0, .slice none 0 0, .int .i64 (v6 : Int), .slice none 0 0, .bool (isOne v7)] := by rw [hW]; exact (C.set (j := 15) (v := .bool (isOne v7)) (by simp))
  have R' := R.ch d (ne_blk (by omega)); clear R; have R := R'; clear R'
  have S' := S.ch d (ne_blk (by omega)); clear S; have S := S'; clear S'
  have B' := d.belowB B (by omega) (fun k hk => by have hk : k = _ := hk; omega); clear B; have B := B'; clear B'
  have z' := Nat.lt_of_lt_of_le z d.size; clear z; have z := z'; clear z'
  clear C hW d; have C := C'; clear C'
  refine (text_impl _ _ _ S).mono ?_
  rintro e w8 ⟨rfl, S', c8⟩
  clear S; have S := S'; clear S'
  have R' := R.ch c8 (ne_blk (by omega)); clear R; have R := R'; clear R'
  have C' := C.ch c8 (ne_blk (by omega)); clear C; have C := C'; clear C'
  have B' := c8.belowB B (by omega) (fun k hk => by have hk : k = _ := hk; omega); clear B; have B := B'; clear B'
  have z' := Nat.lt_of_lt_of_le z c8.size; clear z; have z := z'; clear z'
  have q8 := textF_cost x7
  obtain ⟨⟨v8, x8⟩, f8⟩ : ∃ r, textF x7 = r := ⟨_, rfl⟩
  rw [f8] at S q8 ⊢
  simp only at S q8
  have hx8 : x8.1.size ≤ 1048576 := by omega
  have F8 := Lib.hid f8; clear f8 c8
  go_wp2_with fail
  refine (readCmd_impl v8 _ (by omega)).mono ?_
  rintro e w9 ⟨⟨A1, n1, c1, f1, rfl, O, hN1, hO1⟩, hb9⟩
  have hOb : ∀ b ∈ f1, w8.heap.size ≤ b ∧ b < w9.heap.size := hO1; clear hO1
  have hz89 := hb9.size
  have R' := R.ch (Ch.of_below (S := fun _ => False) hb9) (fun h => h); clear R; have R := R'; clear R'
  have C' := C.ch (Ch.of_below (S := fun _ => False) hb9) (fun h => h); clear C; have C := C'; clear C'
  have S' := S.keep hb9; clear S; have S := S'; clear S'
  have B' := bthen B hb9; clear B; have B := B'; clear B'
  have z8 := z
  have z' := Nat.lt_of_lt_of_le z hb9.size; clear z; have z := z'; clear z'
  have hcB := ins_noBd v8
  obtain ⟨xc, hxc⟩ : ∃ x, rdCm v8 = x := ⟨_, rfl⟩
  obtain ⟨bc, hbc⟩ : ∃ x, rdCmB v8 = x := ⟨_, rfl⟩
  rw [hxc] at O hcB ⊢
  rw [hbc]
  have HXC := Lib.hid hxc; clear hxc hbc
  unfold cmV
  have e5 := C.cell 5 _ rfl
  have y5 := C.fz 5 (by simp)
  have e6 := C.cell 6 _ rfl
  have y6 := C.fz 6 (by simp)
  have e7 := C.cell 7 _ rfl
  have y7 := C.fz 7 (by simp)
  have e8 := C.cell 8 _ rfl
  have y8 := C.fz 8 (by simp)
  have e9 := C.cell 9 _ rfl
  have y9 := C.fz 9 (by simp)
  have e10 := C.cell 10 _ rfl
  have y10 := C.fz 10 (by simp)
  have e11 := C.cell 11 _ rfl
  have y11 := C.fz 11 (by simp)
  have e12 := C.cell 12 _ rfl
  have y12 := C.fz 12 (by simp)
  have eL := C.lt
  go_wp2_with fail
  clear e5 y5 e6 y6 e7 y7 e8 y8 e9 y9 e10 y10 e11 y11 e12 y12 eL
  obtain ⟨W9, hW⟩ : ∃ W, W = ((((((((w9.setCell ⟨w.heap.size + 1 + 1, 5, none⟩ (.int .i64 xc.kd)).setCell ⟨w.heap.size + 1 + 1, 6, none⟩ (.int .i64 xc.cl)).setCell ⟨w.heap.size + 1 + 1, 7, none⟩ (.int .i64 xc.no)).setCell ⟨w.heap.size + 1 + 1, 8, none⟩ (.string xc.s)).setCell ⟨w.heap.size + 1 + 1, 9, none⟩ (.string xc.nm)).setCell ⟨w.heap.size + 1 + 1, 10, none⟩ (.string xc.tg)).setCell ⟨w.heap.size + 1 + 1, 11, none⟩ (.int .i64 xc.n)).setCell ⟨w.heap.size + 1 + 1, 12, none⟩ (.slice A1 n1 c1)) := ⟨_, rfl⟩
  rw [← hW]
  have d : Ch (fun k => k = w.heap.size + 1 + 1) w9 W9 := by rw [hW]; exact (((((((Ch.set).trans Ch.set).trans Ch.set).trans Ch.set).trans Ch.set).trans Ch.set).trans Ch.set).trans Ch.set
  have C' : BoxL W9 (w.heap.size + 1 + 1) [.int .i64 (v1 : Int), .int .i64 (v2 : Int), .int .i64 ((v3 : Int) - 1), .int .i64 ((v4 : Int) - 1), .int .i64 (v5 : Int), .int .i64 xc.kd, .int .i64 xc.cl, .int .i64 xc.no, .string xc.s, .string xc.nm, .string xc.tg, .int .i64 xc.n, .slice A1 n1 c1, .int .i64 (v6 : Int), .slice none 0 0, .bool (isOne v7)] := by rw [hW]; exact ((((((((C.set (j := 5) (v := .int .i64 xc.kd) (by simp)).set (j := 6) (v := .int .i64 xc.cl) (by simp)).set (j := 7) (v := .int .i64 xc.no) (by simp)).set (j := 8) (v := .string xc.s) (by simp)).set (j := 9) (v := .string xc.nm) (by simp)).set (j := 10) (v := .string xc.tg) (by simp)).set (j := 11) (v := .int .i64 xc.n) (by simp)).set (j := 12) (v := .slice A1 n1 c1) (by simp))
  have R' := R.ch d (ne_blk (by omega)); clear R; have R := R'; clear R'
  have O' := O.ch d (fun b hb h2 => by have h2 : b = w.heap.size + 1 + 1 := h2; have := hOb b hb; omega); clear O; have O := O'; clear O'
  have S' := S.ch d (ne_blk (by omega)); clear S; have S := S'; clear S'
  have B' := d.belowB B (by omega) (fun k hk => by have hk : k = _ := hk; omega); clear B; have B := B'; clear B'
  have z' := Nat.lt_of_lt_of_le z d.size; clear z; have z := z'; clear z'
  clear C hW d; have C := C'; clear C'
  refine (many_impl _ 18 _ _ S (by omega)).mono ?_
  rintro e w10 ⟨rfl, S', c10⟩
  clear S; have S := S'; clear S'
  have R' := R.ch c10 (ne_blk (by omega)); clear R; have R := R'; clear R'
  have O' := O.ch c10 (fun b hb h2 => by have h2 : b = w.heap.size + 1 := h2; have := hOb b hb; omega); clear O; have O := O'; clear O'
  have C' := C.ch c10 (ne_blk (by omega)); clear C; have C := C'; clear C'
  have B' := c10.belowB B (by omega) (fun k hk => by have hk : k = _ := hk; omega); clear B; have B := B'; clear B'
  have z' := Nat.lt_of_lt_of_le z c10.size; clear z; have z := z'; clear z'
  have q10 := manyF_le x8 18
  obtain ⟨⟨v10, x10⟩, f10⟩ : ∃ r, manyF x8 18 = r := ⟨_, rfl⟩
  rw [f10] at S q10 ⊢
  simp only at S q10
  have hx10 : x10.1.size ≤ 1048576 := by omega
  have F10 := Lib.hid f10; clear f10 c10
  have J0 := Lib.hid (InJ.start F1.out F2.out F3.out F4.out F5.out F6.out F7.out F8.out F10.out)
  simp only at J0
  clear F1 F2 F3 F4 F5 F6 F7 F8 F10
  go_wp2
  have hOw := O.lt
  go_loopw [56] (fun i wr => ∃ (ds : List Idd) (x : Sc) (A2 : Option Addr) (cap : Nat), i = .int .i64 (ds.length : Nat) ∧ ds.length ≤ v10 ∧ InJ s v1 v2 v3 v4 v5 v6 v7 v8 v10 ds x ∧ BoxL wr w.heap.size [.int .i64 0, .int .i64 0, .int .i64 0, .int .i64 0, .int .i64 0, .int .i64 0, .int .i64 0, .int .i64 0, .string ⟨#[]⟩, .string ⟨#[]⟩, .string ⟨#[]⟩, .int .i64 0, .slice none 0 0, .int .i64 0, .slice none 0 0, .bool false] ∧ Scn wr (w.heap.size + 1) x ∧ BoxL wr (w.heap.size + 1 + 1) [.int .i64 (v1 : Int), .int .i64 (v2 : Int), .int .i64 ((v3 : Int) - 1), .int .i64 ((v4 : Int) - 1), .int .i64 (v5 : Int), .int .i64 xc.kd, .int .i64 xc.cl, .int .i64 xc.no, .string xc.s, .string xc.nm, .string xc.tg, .int .i64 xc.n, .slice A1 n1 c1, .int .i64 (v6 : Int), .slice A2 ds.length cap, .bool (isOne v7)] ∧ StrO f1 wr A1 n1 c1 xc.ch ∧ wr.ownsRow w10.heap.size 46 2 (.slice A2 ds.length cap) ds.length (ds.map iddL).flatten ∧ x.1.size ≤ 1048576 ∧ Below w.heap.size w wr ∧ w10.heap.size ≤ wr.heap.size) (fun i _ => v10 - (intOf i).toNat)
  case atStart => exact ⟨[], x10, none, 0, by simp, Nat.zero_le _, J0.out, R, S, C, O, by simpa using World.ownsRow_nil _ _ _ _, hx10, B, Nat.le_refl _⟩
  case round =>
    have z10 := z
    clear R S C O B z J0
    obtain ⟨ds, x, A2, cap, rfl, hl, hj, R, S, C, O, own, hxz, B, hzL⟩ := hrel
    have z : w.heap.size + 1 + 1 < wr.heap.size := C.lt
    have HJ := Lib.hid hj; clear hj
    by_cases hlt : ds.length < v10
    · skip
      have ilt : (ds.length : Int) < (v10 : Int) := by omega
      have J2 := Lib.hid (InJ.step HJ.out hlt)
      go_wp2_with fail
      refine (num_impl _ _ _ S).mono ?_
      rintro e wa ⟨rfl, S', cx⟩
      clear S; have S := S'; clear S'
      have R' := R.ch cx (ne_blk (by omega)); clear R; have R := R'; clear R'
      have C' := C.ch cx (ne_blk (by omega)); clear C; have C := C'; clear C'
      have O' := O.ch cx (fun b hb h2 => by have h2 : b = w.heap.size + 1 := h2; have := hOb b hb; omega); clear O; have O := O'; clear O'
      have own' := own_chL own cx (fun b hb h2 => by have h2 : b = w.heap.size + 1 := h2; have := (own_lo own b hb).1; omega); clear own; have own := own'; clear own'
      have B' := cx.belowB B (by omega) (fun k hk => by have hk : k = _ := hk; omega); clear B; have B := B'; clear B'
      have z' := Nat.lt_of_lt_of_le z cx.size; clear z; have z := z'; clear z'
      have hzL' := Nat.le_trans hzL cx.size; clear hzL; have hzL := hzL'; clear hzL'
      have qa := numF_le x
      obtain ⟨⟨va, xa⟩, fa⟩ : ∃ r, numF x = r := ⟨_, rfl⟩
      rw [fa] at S qa J2 ⊢
      simp only at S qa J2
      have hxa : xa.1.size ≤ 1048576 := by omega
      clear fa cx
      go_wp2_with fail
      have hod0 : ∀ b ∈ blkL A2, b < wa.heap.size := fun b hb => (own_lo own b hb).2
      obtain ⟨d, hd⟩ : ∃ d, wa.heap.size = d := ⟨_, rfl⟩
      have hdL : w10.heap.size ≤ d := by omega
      have al := (Below.refl wa.heap.size wa).alloc (Nat.le_refl _) (.cells #[.int .i64 (va : Int), .int .i64 0] 46)
      obtain ⟨Wd, hWd⟩ : ∃ W, W = wa.alloc (.cells #[.int .i64 (va : Int), .int .i64 0] 46) := ⟨_, rfl⟩
      have D : BoxL Wd d [.int .i64 (va : Int), .int .i64 0] := by rw [hWd, ← hd]; exact BoxL.new wa _ _
      rw [← hWd] at al ⊢
      have R' := R.ch (Ch.of_below (S := fun _ => False) al) (fun h => h); clear R; have R := R'; clear R'
      have C' := C.ch (Ch.of_below (S := fun _ => False) al) (fun h => h); clear C; have C := C'; clear C'
      have O' := O.ch (Ch.of_below (S := fun _ => False) al) (fun _ _ h => h); clear O; have O := O'; clear O'
      have own' := own_chL own (Ch.of_below (S := fun _ => False) al) (fun _ _ h => h); clear own; have own := own'; clear own'
      have S' := S.keep al; clear S; have S := S'; clear S'
      have B' := bthen B al; clear B; have B := B'; clear B'
      have hzd := al.size
      have hgd : w.heap.size + 1 + 1 < d := by omega
      have z' := Nat.lt_of_lt_of_le z al.size; clear z; have z := z'; clear z'
      have hzL' := Nat.le_trans hzL al.size; clear hzL; have hzL := hzL'; clear hzL'
      simp only [hd]; clear hWd al
      have hod : ∀ b ∈ blkL A2, b < d := fun b hb => by have := hod0 b hb; omega
      clear hod0
      refine (num_impl _ _ _ S).mono ?_
      rintro e wb ⟨rfl, S', cx⟩
      clear S; have S := S'; clear S'
      have R' := R.ch cx (ne_blk (by omega)); clear R; have R := R'; clear R'
      have C' := C.ch cx (ne_blk (by omega)); clear C; have C := C'; clear C'
      have O' := O.ch cx (fun b hb h2 => by have h2 : b = w.heap.size + 1 := h2; have := hOb b hb; omega); clear O; have O := O'; clear O'
      have own' := own_chL own cx (fun b hb h2 => by have h2 : b = w.heap.size + 1 := h2; have := (own_lo own b hb).1; omega); clear own; have own := own'; clear own'
      have D' := D.ch cx (ne_blk (by omega)); clear D; have D := D'; clear D'
      have B' := cx.belowB B (by omega) (fun k hk => by have hk : k = _ := hk; omega); clear B; have B := B'; clear B'
      have z' := Nat.lt_of_lt_of_le z cx.size; clear z; have z := z'; clear z'
      have hzL' := Nat.le_trans hzL cx.size; clear hzL; have hzL := hzL'; clear hzL'
      have qb := numF_le xa
      obtain ⟨⟨vb, xb⟩, fb⟩ : ∃ r, numF xa = r := ⟨_, rfl⟩
      rw [fb] at S qb J2 ⊢
      simp only at S qb J2
      have hxb : xb.1.size ≤ 1048576 := by omega
      clear fb cx
      have D0 := D.cell 0 _ rfl
      have D1 := D.cell 1 _ rfl
      have Dy := D.fz 1 (by simp)
      have DL := D.lt
      have CL := C.lt
      have e14 := C.cell 14 _ rfl
      have dd : Ch (fun k => k = d) wb (wb.setCell ⟨d, 1, none⟩ (.int .i64 (vb : Int))) := Ch.set
      have D2 := D.set (j := 1) (v := .int .i64 (vb : Int)) (by simp)
      have own1 := own_chL own dd (fun b hb h2 => by have h2 : b = d := h2; have := hod b hb; omega)
      have hz1 := Nat.le_trans hzL dd.size
      go_wp2_with (first | (at_builtin; refine wpList_app1g (P := Try.prog) (wb.setCell ⟨d, 1, none⟩ (.int .i64 (vb : Int))) rfl (.tmp 65) (.tmp 67) 48 rfl w10.heap.size 46 _ 2 16 Try.underlying48 infoIdV rfl (by omega) (.slice A2 _ cap) _ _ rfl own1 #[.int .i64 (va : Int), .int .i64 (vb : Int)] _ rfl (by simp) rfl (by simp [Value.oneCell']) (by unfold maxLen; omega) (by omega) hz1 ?_; intro A' c' wd own2 hgr hbg hob; refine stop_of ?_) | fail)
      have hcd : Ch (fun b => b ∈ blkL A2) (wb.setCell ⟨d, 1, none⟩ (.int .i64 (vb : Int))) wd := (Ch.of_grow hgr).mono (fun b hb => mem_blkL.2 (blk_of hb))
      have hbl : ∀ b ∈ blkL A2, w10.heap.size ≤ b := fun b hb => (own_lo own1 b hb).1
      clear D D0 D1 Dy D2 own own1 e14
      skip
      have R' := R.ch dd (ne_blk (by omega)); clear R; have R := R'; clear R'
      have C' := C.ch dd (ne_blk (by omega)); clear C; have C := C'; clear C'
      have O' := O.ch dd (fun b hb h2 => by have h2 : b = d := h2; have := hOw b hb; omega); clear O; have O := O'; clear O'
      have S' := S.ch dd (ne_blk (by omega)); clear S; have S := S'; clear S'
      have B' := dd.belowB B (by omega) (fun k hk => by have hk : k = _ := hk; omega); clear B; have B := B'; clear B'
      have z' := Nat.lt_of_lt_of_le z dd.size; clear z; have z := z'; clear z'
      have R' := R.ch hcd (fun hb => by have := hbl _ hb; omega); clear R; have R := R'; clear R'
      have C' := C.ch hcd (fun hb => by have := hbl _ hb; omega); clear C; have C := C'; clear C'
      have O' := O.ch hcd (fun b hb h2 => by have h1 := hbl _ h2; have := hOw b hb; omega); clear O; have O := O'; clear O'
      have S' := S.ch hcd (fun hb => by have := hbl _ hb; omega); clear S; have S := S'; clear S'
      have B' := hcd.belowB B (by omega) (fun k hk => by have := hbl _ hk; omega); clear B; have B := B'; clear B'
      have z' := Nat.lt_of_lt_of_le z hcd.size; clear z; have z := z'; clear z'
      have hzd2 := hcd.size
      have e14 := C.cell 14 _ rfl
      have y14 := C.fz 14 (by simp)
      have CL2 := C.lt
      clear hcd dd
      unfold Stop
      go_wp2
      have d3 : Ch (fun k => k = w.heap.size + 1 + 1) wd (wd.setCell ⟨w.heap.size + 1 + 1, 14, none⟩ (.slice A' (ds.length + 1) c')) := Ch.set
      have C3 := C.set (j := 14) (v := .slice A' (ds.length + 1) c') (by simp)
      have own3 := own_chL own2 d3 (fun b hb h2 => by have h2 : b = w.heap.size + 1 + 1 := h2; have := (own_lo own2 b hb).1; omega)
      clear C e14 y14
      have R' := R.ch d3 (ne_blk (by omega)); clear R; have R := R'; clear R'
      have O' := O.ch d3 (fun b hb h2 => by have h2 : b = w.heap.size + 1 + 1 := h2; have := hOb b hb; omega); clear O; have O := O'; clear O'
      have S' := S.ch d3 (ne_blk (by omega)); clear S; have S := S'; clear S'
      have B' := d3.belowB B (by omega) (fun k hk => by have hk : k = _ := hk; omega); clear B; have B := B'; clear B'
      have z' := Nat.lt_of_lt_of_le z d3.size; clear z; have z := z'; clear z'
      have hz3 := d3.size
      refine ⟨⟨ds ++ [⟨va, vb⟩], xb, A', c', by simp, by simp; omega, J2.out, R, S, by simpa using C3, O, by simpa [iddL] using own3, hxb, B, by omega⟩, by simp [intOf]; omega⟩
    · skip
      have HE := InJ.end_ HJ.out (show v10 ≤ ds.length by omega)
      rw [HXC.out] at HE
      obtain ⟨t, bad⟩ := x
      simp only at HE
      have HR := rdi_end HE
      clear HE HJ
      obtain ⟨X, hX⟩ : ∃ X : Ins, X = ⟨⟨v1, v2⟩, (v3 : Int) - 1, (v4 : Int) - 1, v5, xc, v6, ds, isOne v7⟩ := ⟨_, rfl⟩
      rw [← hX] at HR
      have hXc : X.cmd = xc := by rw [hX]
      have hXd : X.deps = ds := by rw [hX]
      have hcB1 : cmB X.cmd := by rw [hXc]; exact hcB
      have hcB2 : iddsB X.deps := by rw [hXd]; unfold iddsB; omega
      have hq10 : v10 ≤ 18 := by omega
      have h1r : StrR wr A1 n1 c1 X.cmd.ch := by rw [hXc]; exact O.at_
      have h2r : RowR iddR 2 wr A2 ds.length cap X.deps := by rw [hXd]; exact (idd_row (own_up own (Nat.zero_le _)) rfl).at_ iddK (by omega)
      have k1 := S.c1
      simp only at k1
      have hgs : w.heap.size < wr.heap.size := R.lt
      have hgl := S.lt
      have hhl := C.lt
      have hte := isEmpty_str s
      have g2 : ¬ ((ds.length : Int) < (v10 : Int)) := by omega
      have hShow : Calls Try.prog 26 #[.agg #[.int .i64 (v1 : Int), .int .i64 (v2 : Int), .int .i64 ((v3 : Int) - 1), .int .i64 ((v4 : Int) - 1), .int .i64 (v5 : Int), .int .i64 xc.kd, .int .i64 xc.cl, .int .i64 xc.no, .string xc.s, .string xc.nm, .string xc.tg, .int .i64 xc.n, .slice A1 n1 c1, .int .i64 (v6 : Int), .slice A2 ds.length cap, .bool (isOne v7)]] wr fun e w' => e = .returned (.string (insText X)) ∧ Below wr.heap.size wr w' := by
        have hcV : insV X (.slice A1 n1 c1) (.slice A2 ds.length cap) = .agg #[.int .i64 (v1 : Int), .int .i64 (v2 : Int), .int .i64 ((v3 : Int) - 1), .int .i64 ((v4 : Int) - 1), .int .i64 (v5 : Int), .int .i64 xc.kd, .int .i64 xc.cl, .int .i64 xc.no, .string xc.s, .string xc.nm, .string xc.tg, .int .i64 xc.n, .slice A1 n1 c1, .int .i64 (v6 : Int), .slice A2 ds.length cap, .bool (isOne v7)] := by rw [hX]; rfl
        rw [← hcV]; exact showInst_impl X _ _ _ _ _ _ _ h1r h2r hcB1 hcB2
      clear hcB1 hcB2 h1r h2r
      rcases HR with ⟨rfl, hne, htx, hr, hrb⟩ | ⟨hbad, hr, hrb⟩
      · skip
        rw [decide_eq_false hne] at hte
        have g1 : ((insText X).toList == s.toList) = true := by rw [htx]; simp
        have HRR := Lib.hid hr; have HRB := Lib.hid hrb
        clear htx hr hrb hne
        have hCr := C.range
        go_wp2_with (first | (refine wpList_load_g rfl 50 (.tmp 5) rfl (w.heap.size + 1 + 1) 0 rfl [.int .i64 (v1 : Int), .int .i64 (v2 : Int), .int .i64 ((v3 : Int) - 1), .int .i64 ((v4 : Int) - 1), .int .i64 (v5 : Int), .int .i64 xc.kd, .int .i64 xc.cl, .int .i64 xc.no, .string xc.s, .string xc.nm, .string xc.tg, .int .i64 xc.n, .slice A1 n1 c1, .int .i64 (v6 : Int), .slice A2 ds.length cap, .bool (isOne v7)] _ hCr Try.underlying50 rfl sizeInst ?_) | fail)
        have HX := Lib.hid hX; clear hX hXc hXd
        refine (hShow).mono ?_
        rintro e w99 ⟨rfl, hb99⟩
        clear hCr hShow
        have R' := R.keep hb99; clear R; have R := R'; clear R'
        have C' := C.keep hb99; clear C; have C := C'; clear C'
        have hz9 := hb99.size
        have hRt := R.there (n := 16) rfl
        obtain ⟨WF, hWF⟩ : ∃ W, W = w99.setCells w.heap.size 0 (#[.int .i64 (v1 : Int), .int .i64 (v2 : Int), .int .i64 ((v3 : Int) - 1), .int .i64 ((v4 : Int) - 1), .int .i64 (v5 : Int), .int .i64 xc.kd, .int .i64 xc.cl, .int .i64 xc.no, .string xc.s, .string xc.nm, .string xc.tg, .int .i64 xc.n, .slice A1 n1 c1, .int .i64 (v6 : Int), .slice A2 ds.length cap, .bool (isOne v7)] : Array Value).toList := ⟨_, rfl⟩
        have cF : Ch (fun b => b = w.heap.size) w99 WF := by rw [hWF]; exact ch_setCells _ _ _
        have RF : BoxL WF w.heap.size [.int .i64 (v1 : Int), .int .i64 (v2 : Int), .int .i64 ((v3 : Int) - 1), .int .i64 ((v4 : Int) - 1), .int .i64 (v5 : Int), .int .i64 xc.kd, .int .i64 xc.cl, .int .i64 xc.no, .string xc.s, .string xc.nm, .string xc.tg, .int .i64 xc.n, .slice A1 n1 c1, .int .i64 (v6 : Int), .slice A2 ds.length cap, .bool (isOne v7)] := by rw [hWF]; exact R.setCells rfl
        have hOne : (#[.int .i64 (v1 : Int), .int .i64 (v2 : Int), .int .i64 ((v3 : Int) - 1), .int .i64 ((v4 : Int) - 1), .int .i64 (v5 : Int), .int .i64 xc.kd, .int .i64 xc.cl, .int .i64 xc.no, .string xc.s, .string xc.nm, .string xc.tg, .int .i64 xc.n, .slice A1 n1 c1, .int .i64 (v6 : Int), .slice A2 ds.length cap, .bool (isOne v7)] : Array Value).all (·.oneCell') = true := all_oneCell_toArray (cs := [.int .i64 (v1 : Int), .int .i64 (v2 : Int), .int .i64 ((v3 : Int) - 1), .int .i64 ((v4 : Int) - 1), .int .i64 (v5 : Int), .int .i64 xc.kd, .int .i64 xc.cl, .int .i64 xc.no, .string xc.s, .string xc.nm, .string xc.tg, .int .i64 xc.n, .slice A1 n1 c1, .int .i64 (v6 : Int), .slice A2 ds.length cap, .bool (isOne v7)]) (fun v hv => by
          simp only [List.mem_cons, List.not_mem_nil, or_false] at hv
          rcases hv with rfl | rfl | rfl | rfl | rfl | rfl | rfl | rfl | rfl | rfl | rfl | rfl | rfl | rfl | rfl | rfl <;> rfl)
        have HWF := Lib.hid hWF; clear hWF
        have hWr := RF.range
        have hsz := cF.size
        have hBF : Below w.heap.size w WF := cF.belowB (bthen B hb99) (by omega) (fun k hk => by have hk : k = _ := hk; omega)
        have ho9 := own_chL own (Ch.of_below (S := fun _ => False) hb99) (fun _ _ h => h)
        have hoF := own_chL ho9 cF (fun b hb h2 => by have h2 : b = w.heap.size := h2; have := (own_lo ho9 b hb).1; omega)
        have OF := (O.keep hb99).ch cF (fun b hb h2 => by have h2 : b = w.heap.size := h2; have := hOb b hb; omega)
        have hlo := own_lo hoF
        have hCr := C.range
        clear ho9
        clear cF RF R own O C
        repeat (first | (refine wpList_load_g rfl 50 (.tmp 5) rfl (w.heap.size + 1 + 1) 0 rfl [.int .i64 (v1 : Int), .int .i64 (v2 : Int), .int .i64 ((v3 : Int) - 1), .int .i64 ((v4 : Int) - 1), .int .i64 (v5 : Int), .int .i64 xc.kd, .int .i64 xc.cl, .int .i64 xc.no, .string xc.s, .string xc.nm, .string xc.tg, .int .i64 xc.n, .slice A1 n1 c1, .int .i64 (v6 : Int), .slice A2 ds.length cap, .bool (isOne v7)] _ hCr Try.underlying50 rfl sizeInst ?_) | (refine wp_store_mid 50 (.tmp 2) (.tmp 86) rfl w.heap.size 0 #[.int .i64 (v1 : Int), .int .i64 (v2 : Int), .int .i64 ((v3 : Int) - 1), .int .i64 ((v4 : Int) - 1), .int .i64 (v5 : Int), .int .i64 xc.kd, .int .i64 xc.cl, .int .i64 xc.no, .string xc.s, .string xc.nm, .string xc.tg, .int .i64 xc.n, .slice A1 n1 c1, .int .i64 (v6 : Int), .slice A2 ds.length cap, .bool (isOne v7)] rfl rfl hRt sizeInst hOne ?_; rw [← HWF.out]) | go_values | go_skip | go_guarded | go_step | go_upon | (simp only []; go_at_K))
        refine bodyPost_ret (results_cell_tmp Try.results29 rfl hWr Try.underlying50 rfl sizeInst) rfl ?_
        rw [HRR.out, HRB.out, HX.out]
        refine ⟨⟨A1, n1, c1, A2, _, cap, f1, _, rfl, OF, idd_row (own_up hoF (Nat.zero_le _)) rfl, ?_, ?_⟩, hBF⟩
        · refine List.nodup_append.2 ⟨hN1, by cases A2 <;> simp [blkL], fun a ha b hb hab => ?_⟩
          have h1 := hOw a ha; have h2 := hlo b hb; omega
        · intro b hb
          rcases List.mem_append.1 hb with hb | hb
          · have h1 := hOb b hb; have h2 := hOw b hb; omega
          · have h2 := hlo b hb; omega
      · have HRR := Lib.hid hr; have HRB := Lib.hid hrb
        clear hr hrb
        have hk : bad = true ∨ (bad = false ∧ s.toList.isEmpty = true) ∨ (bad = false ∧ s.toList.isEmpty = false ∧ ((insText X).toList == s.toList) = false) := by
          cases bad
          · rw [hte]
            by_cases h0 : s = ByteArray.empty
            · exact .inr (.inl ⟨rfl, by simp [h0]⟩)
            · refine .inr (.inr ⟨rfl, by simp [h0], ?_⟩)
              rw [str_beq]
              rcases hbad with h | h | h
              · cases h
              · exact absurd h h0
              · simpa using h
          · exact .inl rfl
        clear hbad hte
        rcases hk with rfl | ⟨rfl, hte⟩ | ⟨rfl, hte, g1⟩
        · skip
          clear hX hXc hXd hShow
          have hRt := R.there (n := 16) rfl
          obtain ⟨WF, hWF⟩ : ∃ W, W = wr.setCells w.heap.size 0 (#[.int .i64 0, .int .i64 0, .int .i64 0, .int .i64 0, .int .i64 0, .int .i64 0, .int .i64 0, .int .i64 0, .string ⟨#[]⟩, .string ⟨#[]⟩, .string ⟨#[]⟩, .int .i64 0, .slice none 0 0, .int .i64 0, .slice none 0 0, .bool false] : Array Value).toList := ⟨_, rfl⟩
          have cF : Ch (fun b => b = w.heap.size) wr WF := by rw [hWF]; exact ch_setCells _ _ _
          have RF : BoxL WF w.heap.size [.int .i64 0, .int .i64 0, .int .i64 0, .int .i64 0, .int .i64 0, .int .i64 0, .int .i64 0, .int .i64 0, .string ⟨#[]⟩, .string ⟨#[]⟩, .string ⟨#[]⟩, .int .i64 0, .slice none 0 0, .int .i64 0, .slice none 0 0, .bool false] := by rw [hWF]; exact R.setCells rfl
          have hOne : (#[.int .i64 0, .int .i64 0, .int .i64 0, .int .i64 0, .int .i64 0, .int .i64 0, .int .i64 0, .int .i64 0, .string ⟨#[]⟩, .string ⟨#[]⟩, .string ⟨#[]⟩, .int .i64 0, .slice none 0 0, .int .i64 0, .slice none 0 0, .bool false] : Array Value).all (·.oneCell') = true := all_oneCell_toArray (cs := [.int .i64 0, .int .i64 0, .int .i64 0, .int .i64 0, .int .i64 0, .int .i64 0, .int .i64 0, .int .i64 0, .string ⟨#[]⟩, .string ⟨#[]⟩, .string ⟨#[]⟩, .int .i64 0, .slice none 0 0, .int .i64 0, .slice none 0 0, .bool false]) (fun v hv => by
            simp only [List.mem_cons, List.not_mem_nil, or_false] at hv
            rcases hv with rfl | rfl | rfl | rfl | rfl | rfl | rfl | rfl | rfl | rfl | rfl | rfl | rfl | rfl | rfl | rfl <;> rfl)
          have HWF := Lib.hid hWF; clear hWF
          have hWr := RF.range
          have hsz := cF.size
          have hBF : Below w.heap.size w WF := cF.belowB B (by omega) (fun k hk => by have hk : k = _ := hk; omega)
          clear cF RF R own O C
          repeat (first | (refine wp_store_mid 50 (.tmp 2) (.tmp 85) rfl w.heap.size 0 #[.int .i64 0, .int .i64 0, .int .i64 0, .int .i64 0, .int .i64 0, .int .i64 0, .int .i64 0, .int .i64 0, .string ⟨#[]⟩, .string ⟨#[]⟩, .string ⟨#[]⟩, .int .i64 0, .slice none 0 0, .int .i64 0, .slice none 0 0, .bool false] rfl rfl hRt sizeInst hOne ?_; rw [← HWF.out]) | go_values | go_skip | go_guarded | go_step | go_upon | (simp only []; go_at_K))
          refine bodyPost_ret (results_cell_tmp Try.results29 rfl hWr Try.underlying50 rfl sizeInst) rfl ?_
          rw [HRR.out, HRB.out]
          exact ⟨⟨none, 0, 0, none, 0, 0, [], [], rfl, StrO.nil, RowO.nil, List.nodup_nil, fun b hb => by cases hb⟩, hBF⟩
        · skip
          clear hX hXc hXd hShow
          have hRt := R.there (n := 16) rfl
          obtain ⟨WF, hWF⟩ : ∃ W, W = wr.setCells w.heap.size 0 (#[.int .i64 0, .int .i64 0, .int .i64 0, .int .i64 0, .int .i64 0, .int .i64 0, .int .i64 0, .int .i64 0, .string ⟨#[]⟩, .string ⟨#[]⟩, .string ⟨#[]⟩, .int .i64 0, .slice none 0 0, .int .i64 0, .slice none 0 0, .bool false] : Array Value).toList := ⟨_, rfl⟩
          have cF : Ch (fun b => b = w.heap.size) wr WF := by rw [hWF]; exact ch_setCells _ _ _
          have RF : BoxL WF w.heap.size [.int .i64 0, .int .i64 0, .int .i64 0, .int .i64 0, .int .i64 0, .int .i64 0, .int .i64 0, .int .i64 0, .string ⟨#[]⟩, .string ⟨#[]⟩, .string ⟨#[]⟩, .int .i64 0, .slice none 0 0, .int .i64 0, .slice none 0 0, .bool false] := by rw [hWF]; exact R.setCells rfl
          have hOne : (#[.int .i64 0, .int .i64 0, .int .i64 0, .int .i64 0, .int .i64 0, .int .i64 0, .int .i64 0, .int .i64 0, .string ⟨#[]⟩, .string ⟨#[]⟩, .string ⟨#[]⟩, .int .i64 0, .slice none 0 0, .int .i64 0, .slice none 0 0, .bool false] : Array Value).all (·.oneCell') = true := all_oneCell_toArray (cs := [.int .i64 0, .int .i64 0, .int .i64 0, .int .i64 0, .int .i64 0, .int .i64 0, .int .i64 0, .int .i64 0, .string ⟨#[]⟩, .string ⟨#[]⟩, .string ⟨#[]⟩, .int .i64 0, .slice none 0 0, .int .i64 0, .slice none 0 0, .bool false]) (fun v hv => by
            simp only [List.mem_cons, List.not_mem_nil, or_false] at hv
            rcases hv with rfl | rfl | rfl | rfl | rfl | rfl | rfl | rfl | rfl | rfl | rfl | rfl | rfl | rfl | rfl | rfl <;> rfl)
          have HWF := Lib.hid hWF; clear hWF
          have hWr := RF.range
          have hsz := cF.size
          have hBF : Below w.heap.size w WF := cF.belowB B (by omega) (fun k hk => by have hk : k = _ := hk; omega)
          clear cF RF R own O C
          repeat (first | (refine wp_store_mid 50 (.tmp 2) (.tmp 85) rfl w.heap.size 0 #[.int .i64 0, .int .i64 0, .int .i64 0, .int .i64 0, .int .i64 0, .int .i64 0, .int .i64 0, .int .i64 0, .string ⟨#[]⟩, .string ⟨#[]⟩, .string ⟨#[]⟩, .int .i64 0, .slice none 0 0, .int .i64 0, .slice none 0 0, .bool false] rfl rfl hRt sizeInst hOne ?_; rw [← HWF.out]) | go_values | go_skip | go_guarded | go_step | go_upon | (simp only []; go_at_K))
          refine bodyPost_ret (results_cell_tmp Try.results29 rfl hWr Try.underlying50 rfl sizeInst) rfl ?_
          rw [HRR.out, HRB.out]
          exact ⟨⟨none, 0, 0, none, 0, 0, [], [], rfl, StrO.nil, RowO.nil, List.nodup_nil, fun b hb => by cases hb⟩, hBF⟩
        · skip
          have hCr := C.range
          go_wp2_with (first | (refine wpList_load_g rfl 50 (.tmp 5) rfl (w.heap.size + 1 + 1) 0 rfl [.int .i64 (v1 : Int), .int .i64 (v2 : Int), .int .i64 ((v3 : Int) - 1), .int .i64 ((v4 : Int) - 1), .int .i64 (v5 : Int), .int .i64 xc.kd, .int .i64 xc.cl, .int .i64 xc.no, .string xc.s, .string xc.nm, .string xc.tg, .int .i64 xc.n, .slice A1 n1 c1, .int .i64 (v6 : Int), .slice A2 ds.length cap, .bool (isOne v7)] _ hCr Try.underlying50 rfl sizeInst ?_) | fail)
          have HX := Lib.hid hX; clear hX hXc hXd
          refine (hShow).mono ?_
          rintro e w99 ⟨rfl, hb99⟩
          clear hCr hShow
          have R' := R.keep hb99; clear R; have R := R'; clear R'
          have C' := C.keep hb99; clear C; have C := C'; clear C'
          have hz9 := hb99.size
          have hRt := R.there (n := 16) rfl
          obtain ⟨WF, hWF⟩ : ∃ W, W = w99.setCells w.heap.size 0 (#[.int .i64 0, .int .i64 0, .int .i64 0, .int .i64 0, .int .i64 0, .int .i64 0, .int .i64 0, .int .i64 0, .string ⟨#[]⟩, .string ⟨#[]⟩, .string ⟨#[]⟩, .int .i64 0, .slice none 0 0, .int .i64 0, .slice none 0 0, .bool false] : Array Value).toList := ⟨_, rfl⟩
          have cF : Ch (fun b => b = w.heap.size) w99 WF := by rw [hWF]; exact ch_setCells _ _ _
          have RF : BoxL WF w.heap.size [.int .i64 0, .int .i64 0, .int .i64 0, .int .i64 0, .int .i64 0, .int .i64 0, .int .i64 0, .int .i64 0, .string ⟨#[]⟩, .string ⟨#[]⟩, .string ⟨#[]⟩, .int .i64 0, .slice none 0 0, .int .i64 0, .slice none 0 0, .bool false] := by rw [hWF]; exact R.setCells rfl
          have hOne : (#[.int .i64 0, .int .i64 0, .int .i64 0, .int .i64 0, .int .i64 0, .int .i64 0, .int .i64 0, .int .i64 0, .string ⟨#[]⟩, .string ⟨#[]⟩, .string ⟨#[]⟩, .int .i64 0, .slice none 0 0, .int .i64 0, .slice none 0 0, .bool false] : Array Value).all (·.oneCell') = true := all_oneCell_toArray (cs := [.int .i64 0, .int .i64 0, .int .i64 0, .int .i64 0, .int .i64 0, .int .i64 0, .int .i64 0, .int .i64 0, .string ⟨#[]⟩, .string ⟨#[]⟩, .string ⟨#[]⟩, .int .i64 0, .slice none 0 0, .int .i64 0, .slice none 0 0, .bool false]) (fun v hv => by
            simp only [List.mem_cons, List.not_mem_nil, or_false] at hv
            rcases hv with rfl | rfl | rfl | rfl | rfl | rfl | rfl | rfl | rfl | rfl | rfl | rfl | rfl | rfl | rfl | rfl <;> rfl)
          have HWF := Lib.hid hWF; clear hWF
          have hWr := RF.range
          have hsz := cF.size
          have hBF : Below w.heap.size w WF := cF.belowB (bthen B hb99) (by omega) (fun k hk => by have hk : k = _ := hk; omega)
          clear cF RF R own O C
          repeat (first | (refine wp_store_mid 50 (.tmp 2) (.tmp 85) rfl w.heap.size 0 #[.int .i64 0, .int .i64 0, .int .i64 0, .int .i64 0, .int .i64 0, .int .i64 0, .int .i64 0, .int .i64 0, .string ⟨#[]⟩, .string ⟨#[]⟩, .string ⟨#[]⟩, .int .i64 0, .slice none 0 0, .int .i64 0, .slice none 0 0, .bool false] rfl rfl hRt sizeInst hOne ?_; rw [← HWF.out]) | go_values | go_skip | go_guarded | go_step | go_upon | (simp only []; go_at_K))
          refine bodyPost_ret (results_cell_tmp Try.results29 rfl hWr Try.underlying50 rfl sizeInst) rfl ?_
          rw [HRR.out, HRB.out]
          exact ⟨⟨none, 0, 0, none, 0, 0, [], [], rfl, StrO.nil, RowO.nil, List.nodup_nil, fun b hb => by cases hb⟩, hBF⟩
end Go.Proofs.Ytdphdnllhmnelaa
/- Contracts of l4Vars and l4Take, the reference's readers; held against the program's. -/
namespace Go.Proofs.Ytdphdnllhmnelaa
open Go.RowKit
attribute [local irreducible] rvF
theorem infoIntV : (Try.prog.info? 3).map (fun i => (i.zero, i.size, i.bytes)) = some (some (.int .i64 0), 1, 8) := by kernel_rfl

def natL4 (n : Nat) : Value := .int .i64 (n : Int)
/-- k numbers behind those in o, from at on; -1 where one is missing -/
noncomputable def vsF (s : ByteArray) : Nat → List Nat × Int → List Nat × Int
  | 0, r => r
  | k + 1, (o, at_) => if at_ < 0 ∨ (s.size : Int) < at_ ∨ (rvF (s.extract at_.toNat s.size)).2 = 0 then (o, -1) else vsF s k (o ++ [(rvF (s.extract at_.toNat s.size)).1], at_ + ((rvF (s.extract at_.toNat s.size)).2 : Nat))
theorem vsF_no {s : ByteArray} {k : Nat} {o : List Nat} {at_ : Int} (h : at_ < 0 ∨ (s.size : Int) < at_ ∨ (rvF (s.extract at_.toNat s.size)).2 = 0) : vsF s (k + 1) (o, at_) = (o, -1) := by rw [vsF, if_pos h]
theorem vsF_yes {s : ByteArray} {k : Nat} {o : List Nat} {a v m : Nat} (h : a ≤ s.size) (hr : rvF (s.extract a s.size) = (v, m)) (hm : m ≠ 0) : vsF s (k + 1) (o, (a : Int)) = vsF s k (o ++ [v], ((a + m : Nat) : Int)) := by
  rw [vsF, Int.toNat_natCast, hr, if_neg (by simp; omega)]
  rfl
theorem vsF_in (s : ByteArray) : ∀ (k : Nat) (o : List Nat) (at_ : Int), at_ ≤ s.size → -1 ≤ at_ → (∀ v ∈ o, v ≤ 562949953421311) → -1 ≤ (vsF s k (o, at_)).2 ∧ (vsF s k (o, at_)).2 ≤ s.size ∧ ∀ v ∈ (vsF s k (o, at_)).1, v ≤ 562949953421311 := by
  intro k
  induction k with
  | zero => intro o at_ h1 h0 h2; exact ⟨h0, h1, h2⟩
  | succ k ih =>
    intro o at_ h1 h0 h2
    have hz := rvF_size (s.extract at_.toNat s.size)
    rw [ByteArray.size_extract] at hz
    rw [vsF]
    split
    · exact ⟨by simp only; omega, by simp only; omega, h2⟩
    · refine ih _ _ (by omega) (by omega) (fun v hv => ?_)
      rcases List.mem_append.1 hv with hv | hv
      · exact h2 v hv
      · have : v = (rvF (s.extract at_.toNat s.size)).1 := by simpa using hv
        omega

set_option maxRecDepth 4000 in
set_option maxHeartbeats 1000000 in
theorem l4Vars_spec (s : ByteArray) (at0 : Int) (n : Nat) (w : World) (hs : s.size ≤ 16777216) (ha : -1 ≤ at0) (ha2 : at0 ≤ 1152921504606846976) (hn : n ≤ 16) :
    Calls Try.prog 81 #[.string s, .int .i64 at0, .int .i64 n] w fun e w' => (∃ A c, e = .returned (.tuple #[.slice A (vsF s n ([], at0)).1.length c, .int .i64 (vsF s n ([], at0)).2]) ∧ RowIn 3 1 w.heap.size w'.heap.size w' A (vsF s n ([], at0)).1.length c ((vsF s n ([], at0)).1.map natL4)) ∧ Below w.heap.size w w' := by
  obtain ⟨r, hr⟩ : ∃ r, vsF s n ([], at0) = r := ⟨_, rfl⟩
  rw [hr]
  go_enter Try.func81, Try.ntmps81
  go_wp2
  go_loopw [1, 8, 9] (fun a o k wr => ∃ (at_ : Int) (O : Option Addr) (cap : Nat) (L : List Nat), a = .int .i64 at_ ∧ o = .slice O L.length cap ∧ k = .int .i64 (L.length : Nat) ∧ L.length ≤ n ∧ -1 ≤ at_ ∧ at_ ≤ 1152921504606846976 ∧ vsF s (n - L.length) (L, at_) = r ∧ wr.ownsRow w.heap.size 3 1 (.slice O L.length cap) L.length (L.map natL4) ∧ Below w.heap.size w wr) (fun _ _ k _ => n - (intOf k).toNat)
  case atStart => exact ⟨at0, some ⟨w.heap.size, 0, none⟩, 0, [], rfl, rfl, rfl, Nat.zero_le _, ha, ha2, hr, by simpa using own_empty w 3 1 (base := w.heap.size) (Nat.le_refl _), (Below.refl _ _).alloc (Nat.le_refl _) _⟩
  case round =>
    obtain ⟨at_, O, cap, L, rfl, rfl, rfl, hj, h1, h2, hv, hown, hb⟩ := hrel
    have HV := Lib.hid hv; clear hv hr
    have hzr := hb.size
    by_cases hlt : L.length < n
    · have ij : (L.length : Int) < (n : Int) := by omega
      obtain ⟨q, hq⟩ : ∃ q, n - L.length = q + 1 := ⟨n - L.length - 1, by omega⟩
      have HQ := Lib.hid hq; clear hq
      by_cases hneg : at_ < 0
      · have HR := Lib.hid (show r = (L, -1) by rw [← HV.out, HQ.out, vsF_no (.inl hneg)])
        go_wp2
        go_returns
        rw [HR.out]
        exact ⟨⟨O, cap, rfl, RowIn.of_own hown⟩, hb⟩
      · by_cases hbig : (s.size : Int) < at_
        · have HR := Lib.hid (show r = (L, -1) by rw [← HV.out, HQ.out, vsF_no (.inr (.inl hbig))])
          go_wp2
          go_returns
          rw [HR.out]
          exact ⟨⟨O, cap, rfl, RowIn.of_own hown⟩, hb⟩
        · obtain ⟨a, rfl⟩ : ∃ a : Nat, at_ = a := ⟨at_.toNat, by omega⟩
          have hna : ¬ ((a : Int) < 0) := by omega
          have has : a ≤ s.size := by omega
          have hz := rvF_size (s.extract a s.size)
          rw [ByteArray.size_extract] at hz
          clear hneg
          go_wp2_with fail
          refine (readVar_spec _ _ (by rw [ByteArray.size_extract]; omega)).mono ?_
          rintro e w1 ⟨rfl, hb1⟩
          obtain ⟨v, m, hvm⟩ : ∃ v m, rvF (s.extract a s.size) = (v, m) := ⟨_, _, rfl⟩
          rw [hvm] at hz ⊢
          simp only at hz
          have HVM := Lib.hid hvm; clear hvm
          have hz1 := hb1.size
          by_cases hm : m = 0
          · have HR := Lib.hid (show r = (L, -1) by rw [← HV.out, HQ.out, vsF_no (.inr (.inr (by rw [Int.toNat_natCast, HVM.out]; exact hm)))])
            subst hm
            go_wp2
            go_returns
            rw [HR.out]
            exact ⟨⟨O, cap, rfl, (RowIn.of_own hown).keep hb1 |>.wide (Nat.le_refl _) hz1⟩, bthen hb hb1⟩
          · have hm0 : ¬ ((m : Int) = 0) := by omega
            have HR := Lib.hid (show vsF s q (L ++ [v], ((a + m : Nat) : Int)) = r by rw [← HV.out, HQ.out, vsF_yes has HVM.out hm])
            have hown1 := ((RowIn.of_own hown).keep hb1).own
            have hz2 := Nat.le_trans hzr hz1
            go_wp2_with (at_builtin; refine wpList_app1g (P := Try.prog) w1 rfl (.tmp 37) (.tmp 39) 78 rfl w.heap.size 3 _ 1 8 Try.underlying78 infoIntV rfl (by omega) (.slice O _ cap) _ _ rfl hown1 #[.int .i64 (v : Int)] _ rfl (by simp) rfl (by simp [Value.oneCell']) (by unfold maxLen; omega) (by omega) hz2 ?_; intro A' c' w2 hown2 hg2 hb2 _)
            refine ⟨⟨((a + m : Nat) : Int), A', c', L ++ [v], by go_num, by simp, by simp, by rw [List.length_append]; simp only [List.length_cons, List.length_nil]; omega, by omega, by omega, ?_, ?_, (bthen hb hb1).trans hb2⟩, by simp [intOf]; omega⟩
            · rw [List.length_append]
              have := HQ.out
              rw [show n - (L.length + [v].length) = q by simp only [List.length_cons, List.length_nil]; omega]
              exact HR.out
            · rw [List.length_append, List.map_append]
              exact hown2
    · have ij : ¬ (L.length : Int) < (n : Int) := by omega
      have HR := Lib.hid (show r = (L, at_) by rw [← HV.out, show n - L.length = 0 by omega]; rfl)
      go_wp2
      go_returns
      rw [HR.out]
      exact ⟨⟨O, cap, rfl, RowIn.of_own hown⟩, hb⟩

theorem vs1 (s : ByteArray) (at_ : Int) : vsF s 1 ([], at_) = ([], -1) ∨ ∃ v e : Nat, vsF s 1 ([], at_) = ([v], (e : Int)) ∧ v ≤ 562949953421311 ∧ e ≤ s.size := by
  have hz := rvF_size (s.extract at_.toNat s.size)
  rw [ByteArray.size_extract] at hz
  rw [vsF]
  split
  · exact .inl rfl
  · refine .inr ⟨(rvF (s.extract at_.toNat s.size)).1, at_.toNat + (rvF (s.extract at_.toNat s.size)).2, ?_, hz.2.2, by omega⟩
    rw [vsF]
    refine Prod.ext rfl ?_
    show at_ + _ = _
    omega
/-- a text with its size ahead of it, from at on; -1 where there is none -/
noncomputable def tkF (s : ByteArray) (at_ : Int) : ByteArray × Int :=
  if (vsF s 1 ([], at_)).2 < 0 ∨ (s.size : Int) - (vsF s 1 ([], at_)).2 < ((vsF s 1 ([], at_)).1.headD 0 : Nat) then (.empty, -1)
  else (s.extract (vsF s 1 ([], at_)).2.toNat ((vsF s 1 ([], at_)).2.toNat + (vsF s 1 ([], at_)).1.headD 0), (vsF s 1 ([], at_)).2 + ((vsF s 1 ([], at_)).1.headD 0 : Nat))
theorem tkF_no {s : ByteArray} {at_ : Int} (h : vsF s 1 ([], at_) = ([], -1)) : tkF s at_ = (.empty, -1) := by unfold tkF; rw [h, if_pos (.inl (by simp))]
theorem tkF_big {s : ByteArray} {at_ : Int} {v e : Nat} (h : vsF s 1 ([], at_) = ([v], (e : Int))) (hb : s.size < e + v) : tkF s at_ = (.empty, -1) := by unfold tkF; rw [h, if_pos (.inr (by simp only [List.headD_cons]; omega))]
theorem tkF_yes {s : ByteArray} {at_ : Int} {v e : Nat} (h : vsF s 1 ([], at_) = ([v], (e : Int))) (hb : e + v ≤ s.size) : tkF s at_ = (s.extract e (e + v), ((e + v : Nat) : Int)) := by
  unfold tkF; rw [h, if_neg (by simp only [List.headD_cons]; omega)]
  refine Prod.ext (by simp) (by simp)
theorem tkF_in (s : ByteArray) (at_ : Int) : -1 ≤ (tkF s at_).2 ∧ (tkF s at_).2 ≤ s.size ∧ (tkF s at_).1.size ≤ s.size := by
  rcases vs1 s at_ with h | ⟨v, e, h, hv, he⟩
  · rw [tkF_no h]; exact ⟨by simp, by simp only; omega, by simp⟩
  · by_cases hb : e + v ≤ s.size
    · rw [tkF_yes h hb]; exact ⟨by simp only; omega, by simp only; omega, by simp only [ByteArray.size_extract]; omega⟩
    · rw [tkF_big h (by omega)]; exact ⟨by simp, by simp only; omega, by simp⟩
theorem row_nat {lo hi : Nat} {w : World} {A : Option Addr} {c : Nat} {L : List Nat} (h : RowIn 3 1 lo hi w A L.length c (L.map natL4)) {v : Nat} (hv : L = [v]) : ∃ g, A = some ⟨g, 0, none⟩ ∧ w.cell? ⟨g, 0, none⟩ = some (.int .i64 (v : Int)) ∧ g < w.heap.size ∧ lo ≤ g := by
  subst hv
  obtain ⟨g, rfl⟩ := h.head (by simp)
  have hc := h.own.cells (g := g) rfl 0 (natL4 v) rfl
  rw [Addr.add_lit] at hc
  have hi := (h.blk (g := g) rfl).1
  unfold Iv at hi
  exact ⟨g, rfl, hc, (h.blk (g := g) rfl).2, hi.1⟩

set_option maxRecDepth 4000 in
set_option maxHeartbeats 1000000 in
theorem l4Take_spec (s : ByteArray) (at0 : Int) (w : World) (hs : s.size ≤ 16777216) (ha : -1 ≤ at0) (ha2 : at0 ≤ 1152921504606846976) :
    Calls Try.prog 82 #[.string s, .int .i64 at0] w fun e w' => e = .returned (.tuple #[.string (tkF s at0).1, .int .i64 (tkF s at0).2]) ∧ Below w.heap.size w w' := by
  go_enter Try.func82, Try.ntmps82
  go_wp2_with fail
  refine (l4Vars_spec s at0 1 _ hs ha ha2 (by omega)).mono ?_
  rintro e w1 ⟨⟨A, c, rfl, hrow⟩, hb1⟩
  rcases vs1 s at0 with h | ⟨v, e, h, hv, he⟩
  · have HR := Lib.hid (tkF_no h)
    rw [h]
    clear h hrow
    go_wp2
    go_returns
    rw [HR.out]
    exact ⟨rfl, hb1⟩
  · rw [h] at hrow ⊢
    obtain ⟨g, rfl, hc, hg, _⟩ := row_nat hrow rfl
    by_cases hb : e + v ≤ s.size
    · have HR := Lib.hid (tkF_yes h hb)
      clear h hrow
      have hbi : ¬ ((s.size : Int) - (e : Int) < (v : Int)) := by omega
      have hn : ¬ ((e : Int) < 0) := by omega
      go_wp2
      go_quiet (fail)
      go_wp2
      go_returns
      rw [HR.out]
      exact ⟨by rfl, bthen hb1 (((Ch.refl (S := fun _ => False) _).drewN nq).below (fun _ h => h.elim) (Nat.le_refl _))⟩
    · have HR := Lib.hid (tkF_big h (by omega))
      clear h hrow
      have hbi : ((s.size : Int) - (e : Int) < (v : Int)) := by omega
      have hn : ¬ ((e : Int) < 0) := by omega
      go_wp2
      go_returns
      rw [HR.out]
      exact ⟨rfl, hb1⟩
noncomputable def TT (s : ByteArray) (a : Nat) : Sc := (s.extract a s.size, false)
theorem ext_ext (s : ByteArray) {a m : Nat} (_ : a + m ≤ s.size) : (s.extract a s.size).extract m (s.extract a s.size).size = s.extract (a + m) s.size := by
  apply ByteArray.ext
  simp only [ByteArray.data_extract, ByteArray.size_extract]
  show (s.data.extract a s.data.size).extract m _ = s.data.extract (a + m) s.data.size
  rw [Array.extract_extract]
  congr 1
  have : s.size = s.data.size := rfl
  omega
theorem ext_ext0 (s : ByteArray) {a n : Nat} (h : a + n ≤ s.size) : (s.extract a s.size).extract 0 n = s.extract a (a + n) := by
  apply ByteArray.ext
  simp only [ByteArray.data_extract]
  show (s.data.extract a s.data.size).extract 0 n = s.data.extract a (a + n)
  rw [Array.extract_extract]
  have : s.size = s.data.size := rfl
  rw [Nat.add_zero, Nat.min_eq_left (by omega)]
theorem cutT {s : ByteArray} {a n : Nat} (h : a + n ≤ s.size) : cutF (TT s a) n = (s.extract a (a + n), TT s (a + n)) := by
  have h1 : cutF (TT s a) n = if false = true ∨ ¬ n ≤ (s.extract a s.size).size then (.empty, (s.extract a s.size, true)) else ((s.extract a s.size).extract 0 n, ((s.extract a s.size).extract n (s.extract a s.size).size, false)) := rfl
  rw [h1, if_neg (by rw [ByteArray.size_extract]; simp; omega), ext_ext s h, ext_ext0 s h]
  rfl
theorem cutT_no {s : ByteArray} {a n : Nat} (h : s.size < a + n) (ha : a ≤ s.size) : (cutF (TT s a) n).2.2 = true := by
  have h1 : cutF (TT s a) n = if false = true ∨ ¬ n ≤ (s.extract a s.size).size then (.empty, (s.extract a s.size, true)) else ((s.extract a s.size).extract 0 n, ((s.extract a s.size).extract n (s.extract a s.size).size, false)) := rfl
  rw [h1, if_pos (.inr (by rw [ByteArray.size_extract]; omega))]
theorem numT {s : ByteArray} {a : Nat} (ha : a ≤ s.size) : (vsF s 1 ([], (a : Int)) = ([], -1) ∧ (numF (TT s a)).2.2 = true) ∨ ∃ v e : Nat, vsF s 1 ([], (a : Int)) = ([v], (e : Int)) ∧ v ≤ 562949953421311 ∧ a ≤ e ∧ e ≤ s.size ∧ numF (TT s a) = (v, TT s e) := by
  have hz := rvF_size (s.extract a s.size)
  rw [ByteArray.size_extract] at hz
  have h1 : numF (TT s a) = if false = true ∨ (rvF (s.extract a s.size)).2 = 0 then (0, (s.extract a s.size, true)) else ((rvF (s.extract a s.size)).1, ((s.extract a s.size).extract (rvF (s.extract a s.size)).2 (s.extract a s.size).size, false)) := rfl
  obtain ⟨v, m, hvm⟩ : ∃ v m, rvF (s.extract a s.size) = (v, m) := ⟨_, _, rfl⟩
  rw [hvm] at h1 hz
  simp only at hz
  by_cases hm : m = 0
  · refine .inl ⟨vsF_no (.inr (.inr (by rw [Int.toNat_natCast, hvm]; exact hm))), ?_⟩
    rw [h1, if_pos (.inr hm)]
  · refine .inr ⟨v, a + m, ?_, hz.2.2, by omega, by omega, ?_⟩
    · rw [vsF_yes ha hvm hm]; rfl
    · rw [h1, if_neg (by simp; omega)]
      rw [ext_ext s (by omega)]
      rfl
theorem num_bad {x : Sc} (h : x.2 = true) : (numF x).2.2 = true := by unfold numF; rw [if_pos (.inl h)]
theorem cut_bad {x : Sc} {n : Nat} (h : x.2 = true) : (cutF x n).2.2 = true := by unfold cutF; rw [if_pos (.inl h)]
theorem many_bad {x : Sc} {n : Nat} (h : x.2 = true) : (manyF x n).2.2 = true := by unfold manyF; rw [if_pos (.inl (num_bad h))]
theorem tkT {s : ByteArray} {a : Nat} (ha : a ≤ s.size) : (tkF s (a : Int) = (.empty, -1) ∧ (textF (TT s a)).2.2 = true) ∨ ∃ (p : ByteArray) (e : Nat), tkF s (a : Int) = (p, (e : Int)) ∧ a ≤ e ∧ e ≤ s.size ∧ textF (TT s a) = (p, TT s e) := by
  rcases numT ha with ⟨h1, h2⟩ | ⟨v, e, h1, h2, h3, h4, h5⟩
  · exact .inl ⟨tkF_no h1, by unfold textF; exact cut_bad h2⟩
  · by_cases hb : e + v ≤ s.size
    · refine .inr ⟨_, _, tkF_yes h1 hb, by omega, hb, ?_⟩
      unfold textF; rw [h5]; exact cutT hb
    · refine .inl ⟨tkF_big h1 (by omega), ?_⟩
      unfold textF; rw [h5]; exact cutT_no (by omega) h4
theorem manyT {s : ByteArray} {a : Nat} (ha : a ≤ s.size) : (vsF s 1 ([], (a : Int)) = ([], -1) ∧ (manyF (TT s a) 4).2.2 = true) ∨ ∃ v e : Nat, vsF s 1 ([], (a : Int)) = ([v], (e : Int)) ∧ v ≤ 562949953421311 ∧ a ≤ e ∧ e ≤ s.size ∧ ((4 < v ∧ (manyF (TT s a) 4).2.2 = true) ∨ (v ≤ 4 ∧ manyF (TT s a) 4 = (v, TT s e))) := by
  rcases numT ha with ⟨h1, h2⟩ | ⟨v, e, h1, h2, h3, h4, h5⟩
  · exact .inl ⟨h1, by unfold manyF; rw [if_pos (.inl h2)]⟩
  · refine .inr ⟨v, e, h1, h2, h3, h4, ?_⟩
    by_cases h : 4 < v
    · exact .inl ⟨h, by unfold manyF; rw [h5, if_pos (.inr h)]⟩
    · exact .inr ⟨by omega, by unfold manyF; rw [h5, if_neg (by unfold TT; simp; omega)]⟩
end Go.Proofs.Ytdphdnllhmnelaa
/- Plain laws: the reference's readers on the text of a command and of an instance. -/
namespace Go.Proofs.Ytdphdnllhmnelaa
open Go.RowKit

theorem sum8 {l : List ByteArray} (h : ∀ j, j < l.length → (sAt l j).size = 8) : (chL l).size = 8 * l.length := by
  induction l with
  | nil => rfl
  | cons c l ih =>
    have h0 := h 0 (by simp)
    have e0 : sAt (c :: l) 0 = c := rfl
    rw [e0] at h0
    simp only [chL, ByteArray.size_append, List.length_cons]
    rw [ih (fun j hj => by have := h (j + 1) (by simpa using hj); simpa [sAt] using this), h0]
    omega
theorem ext_all (s : ByteArray) : s.extract 0 s.size = s := by
  apply ByteArray.ext
  rw [ByteArray.data_extract]
  show s.data.extract 0 s.data.size = s.data
  simp
theorem ext_cut {s t p : ByteArray} {a : Nat} (ha : a ≤ s.size) (h : s.extract a s.size = p ++ t) : a + p.size ≤ s.size ∧ s.extract (a + p.size) s.size = t ∧ s.extract a (a + p.size) = p := by
  have h1 := congrArg ByteArray.size h
  rw [ByteArray.size_append, ByteArray.size_extract] at h1
  have h2 : a + p.size ≤ s.size := by omega
  refine ⟨h2, ?_, ?_⟩
  · rw [← ext_ext s h2, h, ext_right]
  · rw [← ext_ext0 s h2, h, ext_left]
theorem vs_step {s t : ByteArray} {a n : Nat} (ha : a ≤ s.size) (h : s.extract a s.size = varS n ++ t) (hn : n ≤ 562949953421311) (k : Nat) (o : List Nat) :
    vsF s (k + 1) (o, (a : Int)) = vsF s k (o ++ [n], ((a + (varS n).size : Nat) : Int)) ∧ a + (varS n).size ≤ s.size ∧ s.extract (a + (varS n).size) s.size = t := by
  obtain ⟨h1, h2, _⟩ := ext_cut ha h
  refine ⟨vsF_yes ha (by rw [h]; exact rvF_var hn t) ?_, h1, h2⟩
  have := varS_pos n
  omega
theorem vs_end (s : ByteArray) (r : List Nat × Int) : vsF s 0 r = r := by rw [vsF]
theorem tk_step {s t p : ByteArray} {a : Nat} (ha : a ≤ s.size) (h : s.extract a s.size = varS p.size ++ (p ++ t)) (hp : p.size ≤ 562949953421311) :
    tkF s (a : Int) = (p, ((a + (varS p.size).size + p.size : Nat) : Int)) ∧ a + (varS p.size).size + p.size ≤ s.size ∧ s.extract (a + (varS p.size).size + p.size) s.size = t := by
  obtain ⟨h1, h2, h3⟩ := vs_step ha h hp 0 []
  obtain ⟨h4, h5, h6⟩ := ext_cut h2 h3
  rw [vs_end] at h1
  exact ⟨by rw [tkF_yes h1 h4, h6], h4, h5⟩
/-- the reference's steps on the text of a right command -/
theorem cm_parseS {s : ByteArray} {x : Cm} (h : cmOkB x = true) (hs : cmText x = s) : ∃ e4 e5 e6 e7 e8 : Nat, vsF s 4 ([], 0) = ([x.kd.toNat, x.cl.toNat, x.no.toNat, x.n.toNat], (e4 : Int)) ∧ tkF s (e4 : Int) = (x.s, (e5 : Int)) ∧ tkF s (e5 : Int) = (x.nm, (e6 : Int)) ∧ tkF s (e6 : Int) = (x.tg, (e7 : Int)) ∧
    vsF s 1 ([], (e7 : Int)) = ([x.ch.length], (e8 : Int)) ∧ e8 + 8 * x.ch.length = s.size ∧ ∀ j, j < x.ch.length → s.extract (e8 + 8 * j) (e8 + 8 * j + 8) = sAt x.ch j := by
  have hb := cmOk_bd h
  have a := hb.kd; have b := hb.cl; have c := hb.no; have d := hb.n; have e := hb.s; have f := hb.nm; have g := hb.tg; have i := hb.ch
  have h0 : s.extract 0 s.size = _ := (ext_all s).trans (hs.symm.trans (cmText_chL h))
  obtain ⟨p1, q1, h1⟩ := vs_step (Nat.zero_le _) h0 (by omega) 3 []
  obtain ⟨p2, q2, h2⟩ := vs_step q1 h1 (by omega) 2 ([] ++ [x.kd.toNat])
  obtain ⟨p3, q3, h3⟩ := vs_step q2 h2 (by omega) 1 ([] ++ [x.kd.toNat] ++ [x.cl.toNat])
  obtain ⟨p4, q4, h4⟩ := vs_step q3 h3 (by omega) 0 ([] ++ [x.kd.toNat] ++ [x.cl.toNat] ++ [x.no.toNat])
  obtain ⟨p5, q5, h5⟩ := tk_step q4 h4 (by omega)
  obtain ⟨p6, q6, h6⟩ := tk_step q5 h5 (by omega)
  obtain ⟨p7, q7, h7⟩ := tk_step q6 h6 (by omega)
  obtain ⟨p8, q8, h8⟩ := vs_step q7 h7 (by omega) 0 []
  rw [vs_end] at p4 p8
  refine ⟨_, _, _, _, _, ?_, p5, p6, p7, p8, ?_, ?_⟩
  · exact p1.trans (p2.trans (p3.trans p4))
  · have h9 := congrArg ByteArray.size h8
    have h10 := sum8 hb.c8
    rw [ByteArray.size_extract] at h9
    omega
  · have key : ∀ E : Nat, E ≤ s.size → s.extract E s.size = chL x.ch → ∀ j, j ≤ x.ch.length → E + 8 * j ≤ s.size ∧ s.extract (E + 8 * j) s.size = chL (x.ch.drop j) := by
      intro E hE hx j
      induction j with
      | zero => intro _; exact ⟨hE, by simpa using hx⟩
      | succ j ih =>
        intro hj
        obtain ⟨k1, k2⟩ := ih (by omega)
        rw [chL_drop (by omega)] at k2
        obtain ⟨k3, k4, _⟩ := ext_cut k1 k2
        rw [hb.c8 j (by omega)] at k3 k4
        exact ⟨by omega, k4⟩
    intro j hj
    obtain ⟨k1, k2⟩ := key _ q8 h8 j (by omega)
    rw [chL_drop hj] at k2
    obtain ⟨_, _, k3⟩ := ext_cut k1 k2
    rw [hb.c8 j hj] at k3
    exact k3
/-- the reference's steps on the text of a right instance -/
theorem ins_parseS {s : ByteArray} {x : Ins} (h : insOkB x = true) (hs : insText x = s) : ∃ e6 e8 e9 : Nat, vsF s 6 ([], 0) = ([x.id.r.toNat, x.id.s.toNat, (x.bal + 1).toNat, (x.vb + 1).toNat, x.st.toNat, x.seq.toNat], (e6 : Int)) ∧ e6 < s.size ∧ bAt s e6 = (if x.same then 1 else 0) ∧
    tkF s ((e6 + 1 : Nat) : Int) = (cmText x.cmd, (e8 : Int)) ∧ vsF s 1 ([], (e8 : Int)) = ([x.deps.length], (e9 : Int)) ∧ e9 ≤ s.size ∧ s.extract e9 s.size = depL x.deps := by
  have hb := insOk_bd h
  have a := hb.r; have b := hb.s; have c := hb.bal; have d := hb.vb; have e := hb.st; have f := hb.seq; have g := hb.len
  have i := cmText_size x.cmd
  have h0 : s.extract 0 s.size = _ := (ext_all s).trans (hs.symm.trans (insText_depL h))
  obtain ⟨p1, q1, h1⟩ := vs_step (Nat.zero_le _) h0 (by omega) 5 []
  obtain ⟨p2, q2, h2⟩ := vs_step q1 h1 (by omega) 4 ([] ++ [x.id.r.toNat])
  obtain ⟨p3, q3, h3⟩ := vs_step q2 h2 (by omega) 3 ([] ++ [x.id.r.toNat] ++ [x.id.s.toNat])
  obtain ⟨p4, q4, h4⟩ := vs_step q3 h3 (by omega) 2 ([] ++ [x.id.r.toNat] ++ [x.id.s.toNat] ++ [(x.bal + 1).toNat])
  obtain ⟨p5, q5, h5⟩ := vs_step q4 h4 (by omega) 1 ([] ++ [x.id.r.toNat] ++ [x.id.s.toNat] ++ [(x.bal + 1).toNat] ++ [(x.vb + 1).toNat])
  obtain ⟨p6, q6, h6⟩ := vs_step q5 h5 (by omega) 0 ([] ++ [x.id.r.toNat] ++ [x.id.s.toNat] ++ [(x.bal + 1).toNat] ++ [(x.vb + 1).toNat] ++ [x.st.toNat])
  obtain ⟨q7, h7, k7⟩ := ext_cut q6 h6
  rw [sameT_size] at q7 h7 k7
  obtain ⟨p8, q8, h8⟩ := tk_step q7 h7 (by omega)
  obtain ⟨p9, q9, h9⟩ := vs_step q8 h8 (by omega) 0 []
  rw [vs_end] at p6 p9
  refine ⟨_, _, _, ?_, by omega, ?_, p8, p9, q9, h9⟩
  · exact p1.trans (p2.trans (p3.trans (p4.trans (p5.trans p6))))
  · have hbt : ∀ E : Nat, E < s.size → s.extract E (E + 1) = sameT x.same → bAt s E = if x.same then 1 else 0 := by
      intro E hE hx
      have h1 : bAt (s.extract E (E + 1)) 0 = bAt s E := by
        unfold bAt
        rw [dif_pos hE, dif_pos (by rw [ByteArray.size_extract]; omega), ByteArray.getElem_extract]
        simp
      rw [← h1, hx]
      cases x.same <;> rfl
    exact hbt _ (by omega) k7
theorem dep_step {s : ByteArray} {x : Ins} (h : InsBd x) {a j : Nat} (ha : a ≤ s.size) (hj : j < x.deps.length) (hx : s.extract a s.size = depL (x.deps.drop j)) :
    ∃ e : Nat, vsF s 2 ([], (a : Int)) = ([(iddAt x.deps j).r.toNat, (iddAt x.deps j).s.toNat], (e : Int)) ∧ e ≤ s.size ∧ s.extract e s.size = depL (x.deps.drop (j + 1)) := by
  have hd := h.dep j hj
  rw [depL_drop hj] at hx
  obtain ⟨p1, q1, h1⟩ := vs_step ha hx (by omega) 1 []
  obtain ⟨p2, q2, h2⟩ := vs_step q1 h1 (by omega) 0 ([] ++ [(iddAt x.deps j).r.toNat])
  rw [vs_end] at p2
  exact ⟨_, p1.trans p2, q2, h2⟩
end Go.Proofs.Ytdphdnllhmnelaa
/- append as an operation of a region that draws; a block made there. -/
namespace Go.Proofs.Ytdphdnllhmnelaa
open Go.RowKit
theorem step_app {P : Program} {ops : Array Oper} {o : Oper} {a : Act} {w : World} {K : Act → World → Prop} {Q : Exit → Act → World → Prop} {E : Prop} (hgd : o.guard = none) (s x : Operand) (t : TypeId)
    (ho : o.op = .call { callee := .builtin .append, args := #[s, x], argTypes := #[t, t] })
    (base : Nat) (e : TypeId) (z : Value) (size bytes : Nat) (ht : P.underlying t = some (.slice e)) (hinfo : (P.info? e).map (fun i => (i.zero, i.size, i.bytes)) = some (some z, size, bytes))
    (hzs : z.cells.size = size) (hsz : 0 < size) (v : Value) (n : Nat) (xs : List Value) (hs : a.eval s = v) (hown : w.ownsRow base e size v n xs)
    (A : Option Addr) (m c : Nat) (news : List Value) (hx : a.eval x = .slice A m c) (hsrc : CellsAt w A m size news) (h1 : ∀ u ∈ news, u.oneCell' = true) (hn : A = none → c = 0)
    (h63 : n + m ≤ maxLen) (hbytes : (n + m) * bytes ≤ 140737488355328) (hbase : base ≤ w.heap.size)
    (h : ∀ A' c' w', w'.ownsRow base e size (.slice A' (n + m) c') (n + m) (xs ++ news) → w.grownBy w' v.ownBlock → Below base w w' →
      ((Value.slice A' (n + m) c').ownBlock = v.ownBlock ∨ (Value.slice A' (n + m) c').ownBlock = some w.heap.size) → K (a.put o.dst (.slice A' (n + m) c')) w') :
    if Region.wanted o (yielded ops a.tmps) = true then Oper.wp P o a w K Q else E := by
  have hw : Region.wanted o (yielded ops a.tmps) = true := by simp [Region.wanted, hgd]
  rw [if_pos hw]
  obtain ⟨A', c', w', hr, h2, h3, h4⟩ := run_app (P := P) w base t o.type e z size bytes ht hinfo hzs hsz v n xs hown A m c news hsrc h1 hn h63 hbytes hbase
  unfold Oper.wp execOp
  simp only [ho, resolve, invoke, builtin, Sem.run_bind, Sem.run_pure, Result.andThen_ok, List.map_toArray, List.map_cons, List.map_nil, hs, hx, hr]
  exact h A' c' w' h2 h3 (below_own hown h3 hbase) h4
theorem new1c (w : World) (cs : List Value) (n : Nat) (hn : cs.length = n) (t : TypeId) : CellsAt (w.alloc (.cells cs.toArray t)) (some ⟨w.heap.size, 0, none⟩) 1 n cs := by
  refine ⟨by simpa using hn, fun _ => ⟨w.heap.size, 0, rfl, fun j u hu => ?_⟩⟩
  rw [Nat.zero_add, World.cell?_alloc_new]
  simpa using hu
end Go.Proofs.Ytdphdnllhmnelaa
/- A region that draws its order, walked by an invariant over what has been done: no listing of orders. -/
namespace Go.Proofs.Ytdphdnllhmnelaa
section
variable {P : Program} {ops : Array Oper} {Q : Exit → Act → World → Prop}

/-- every edge leads to an operation ahead -/
def dagB (ops : Array Oper) : Bool := (List.range ops.size).all fun i => ((ops[i]?).map fun (o : Oper) => o.after.all fun e => decide (e.on < i) || !Region.binds .any e).getD true
/-- operation i waits for operation j -/
def depB (ops : Array Oper) (i j : Nat) : Bool := ((ops[i]?).map fun (o : Oper) => o.after.any fun e => Region.binds .any e && decide (e.on = j)).getD false

theorem getD_of {L : Array Bool} {i : Nat} (hi : i < L.size) (b : Bool) : L.getD i b = L[i] := by simp [Array.getD, hi]
theorem dag_none (hB : dagB ops = true) {L : Array Bool} (hL : L.size = ops.size) (h : Region.ready .any ops L = []) : ∀ i, i < ops.size → L.getD i false = true := by
  intro i
  induction i using Nat.strongRecOn with
  | _ i ih =>
    intro hi
    have hb := List.all_eq_true.1 hB i (List.mem_range.2 hi)
    have ho : ops[i]? = some ops[i] := Array.getElem?_eq_getElem hi
    rw [ho] at hb
    simp only [Option.map_some, Option.getD_some, Array.all_eq_true'] at hb
    cases hc : L.getD i false with
    | true => rfl
    | false =>
      have hm : i ∈ Region.ready .any ops L := by
        rw [mem_ready]
        refine ⟨by rw [getD_of (by omega)] at hc ⊢; exact hc, _, ho, fun e he hbi => ?_⟩
        have := hb e he
        simp only [hbi, Bool.not_true, Bool.or_false, decide_eq_true_eq] at this
        exact ih e.on this (by omega)
      rw [h] at hm; cases hm
theorem dag_set {L : Array Bool} {i : Nat} (hi : i < L.size) : (fun k => (L.setIfInBounds i true).getD k false) = fun k => k == i || L.getD k false := by
  funext k
  by_cases e : k = i
  · subst e; simp [Array.getD, hi]
  · have : (k == i) = false := by simp [e]
    rw [this, Bool.false_or]
    simp only [Array.getD, Array.size_setIfInBounds]
    split
    · rename_i hk
      rw [Array.getInternal_eq_getElem, Array.getInternal_eq_getElem, Array.getElem_setIfInBounds hk]; simp [Ne.symm e]
    · rfl
theorem dag_count {L : Array Bool} {i : Nat} (h : L.getD i true = false) : (L.setIfInBounds i true).toList.countP (!·) + 1 ≤ L.toList.countP (!·) := by
  have hi : i < L.size := by
    rcases Nat.lt_or_ge i L.size with h' | h'
    · exact h'
    · rw [Array.getD, dif_neg (by omega)] at h; cases h
  rw [getD_of hi] at h
  rw [Array.toList_setIfInBounds, List.countP_set (by simpa using hi)]
  have hp : 0 < L.toList.countP (!·) := List.countP_pos_iff.2 ⟨L[i], by simp, by simp [h]⟩
  have e1 : L.toList[i]'(by simpa using hi) = false := by simpa using h
  rw [e1]
  simp only [Bool.not_false, Bool.not_true, if_true, Bool.false_eq_true, if_false]
  omega
theorem dag_any (hB : dagB ops = true) (I : (Nat → Bool) → Act → World → Prop)
    (st : ∀ i D a w, i < ops.size → D i = false → (∀ j, depB ops i j = true → D j = true) → I D a w → wpOp P ops Q i (I (fun k => k == i || D k)) a w)
    (hend : ∀ D a w, (∀ i, i < ops.size → D i = true) → I D a w → Q .normal a w) :
    ∀ (fuel : Nat) (L : Array Bool) (a : Act) (w : World), L.size = ops.size → L.toList.countP (!·) ≤ fuel → I (fun k => L.getD k false) a w → wpAny P .any ops Q fuel L a w := by
  intro fuel
  induction fuel with
  | zero =>
    intro L a w hL hc hI
    have hr : Region.ready .any ops L = [] := by
      rw [List.eq_nil_iff_forall_not_mem]
      intro i hi
      have := dag_count (mem_ready.1 hi).1
      omega
    exact ⟨hr, hend _ a w (dag_none hB hL hr) hI⟩
  | succ fuel ih =>
    intro L a w hL hc hI
    refine ⟨fun hr => hend _ a w (dag_none hB hL hr) hI, fun i hi => ?_⟩
    obtain ⟨h0, o, ho, hall⟩ := mem_ready.1 hi
    have hin : i < ops.size := (Array.getElem?_eq_some_iff.1 ho).1
    have hci := dag_count h0
    refine wpOp_mono (fun a' w' h => ih _ a' w' (by simpa using hL) (by omega) (by rw [dag_set (by omega)]; exact h)) (st i _ a w hin ?_ ?_ hI)
    · rw [getD_of (by omega)] at h0 ⊢; exact h0
    · intro j hj
      unfold depB at hj
      rw [ho] at hj
      simp only [Option.map_some, Option.getD_some, Array.any_eq_true', Bool.and_eq_true, decide_eq_true_eq] at hj
      obtain ⟨e, he, hb, rfl⟩ := hj
      exact hall e he hb
theorem wp_region_dag {id : Nat} {a : Act} {w : World} (hm : P.follows .mixedOrders = true) (hB : dagB ops = true) (I : (Nat → Bool) → Act → World → Prop) (h0 : I (fun _ => false) a w.drew)
    (st : ∀ i D a w, i < ops.size → D i = false → (∀ j, depB ops i j = true → D j = true) → I D a w → wpOp P ops Q i (I (fun k => k == i || D k)) a w)
    (hend : ∀ D a w, (∀ i, i < ops.size → D i = true) → I D a w → Q .normal a w) : (Code.region id ops true).wp P Q a w := by
  refine wp_region_any hm (dag_any hB I st hend _ _ _ _ (by simp) ?_ ?_)
  · refine Nat.le_trans (List.countP_le_length) ?_
    simp
  · have : (fun k => (Array.replicate ops.size false).getD k false) = fun _ => false := by
      funext k
      simp only [Array.getD, Array.size_replicate]
      split
      · rw [Array.getInternal_eq_getElem, Array.getElem_replicate]
      · rfl
    rw [this]
    exact h0
end
end Go.Proofs.Ytdphdnllhmnelaa
/- A region that draws its order, walked by an invariant over what has been done; the slots that it writes are given by their numbers alone. -/
namespace Go.Proofs.Ytdphdnllhmnelaa
/-- slots set, one by one -/
def putAll (a : Act) : List Nat → List Value → Act
  | i :: is, v :: vs => putAll { a with tmps := a.tmps.setIfInBounds i v } is vs
  | _, _ => a
theorem putAll_self (a : Act) : ∀ ss : List Nat, putAll a ss (ss.map fun i => a.tmps.getD i undef) = a
  | [] => rfl
  | i :: is => by
    have h : ({ a with tmps := a.tmps.setIfInBounds i (a.tmps.getD i undef) } : Act) = a := by
      have : a.tmps.setIfInBounds i (a.tmps.getD i undef) = a.tmps := by
        apply Array.ext
        · simp
        · intro k h1 h2
          rw [Array.getElem_setIfInBounds]
          split
          · rename_i e; subst e; simp [Array.getD, h2]
          · rfl
      rw [this]
    show putAll { a with tmps := a.tmps.setIfInBounds i (a.tmps.getD i undef) } is (is.map fun i => a.tmps.getD i undef) = a
    rw [h]; exact putAll_self a is
section
variable {P : Program} {ops : Array Oper} {Q : Exit → Act → World → Prop}
theorem wp_region_dagb {id : Nat} {a : Act} {w : World} (ss : List Nat) (hm : P.follows .mixedOrders = true) (hB : dagB ops = true) (J : (Nat → Bool) → List Value → World → Prop)
    (h0 : J (fun _ => false) (ss.map fun i => a.tmps.getD i undef) w.drew)
    (st : ∀ i D vs w, i < ops.size → D i = false → (∀ j, depB ops i j = true → D j = true) → (∀ i j, D i = true → depB ops i j = true → D j = true) → J D vs w →
      wpOp P ops Q i (fun a' w' => ∃ vs', a' = putAll a ss vs' ∧ J (fun k => k == i || D k) vs' w') (putAll a ss vs) w)
    (hend : ∀ D vs w, (∀ i, i < ops.size → D i = true) → J D vs w → Q .normal (putAll a ss vs) w) : (Code.region id ops true).wp P Q a w :=
  wp_region_dag hm hB (fun D a' w' => (∀ i j, D i = true → depB ops i j = true → D j = true) ∧ ∃ vs', a' = putAll a ss vs' ∧ J D vs' w') ⟨(fun _ _ h => by cases h), _, (putAll_self a ss).symm, h0⟩
    (fun i D a' w' hi hD hdep hI => by
      obtain ⟨hcl, vs, rfl, hJ⟩ := hI
      refine wpOp_mono (fun a' w' h => ⟨fun k j hk hj => ?_, h⟩) (st i D vs w' hi hD hdep hcl hJ)
      simp only [Bool.or_eq_true] at hk ⊢
      rcases hk with hk | hk
      · have : k = i := by simpa using hk
        subst this; exact .inr (hdep j hj)
      · exact .inr (hcl k j hk hj))
    (fun D a' w' hD hI => by obtain ⟨_, vs, rfl, hJ⟩ := hI; exact hend D vs w' hD hJ)
end
end Go.Proofs.Ytdphdnllhmnelaa
