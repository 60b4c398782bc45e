/- Contracts and lemmas: KindA, ReadCmd, Frames, Unframe, InstOkS. -/
import Derived.Test.YtdphdnllhmnelaaJ1
import Derived.Test.YtdphdnllhmnelaaJ9
import Derived.Test.YtdphdnllhmnelaaJ8
import Derived.Test.YtdphdnllhmnelaaJ5
import Derived.Test.YtdphdnllhmnelaaJ3
/- Rows that are owned: appending an element, changing an element. -/
namespace Go.Proofs.Ytdphdnllhmnelaa
open Go.RowKit
/-- the walk stands still here -/
def Stop (p : Prop) : Prop := p
theorem stop_of {p : Prop} (h : Stop p) : p := h
theorem IntO.mk' {w : World} {A : Option Addr} {n c : Nat} {l : List Int} (h : w.ownsRow 0 3 1 (.slice A n c) n (l.map (Value.int .i64))) : IntO (blkL A) w A n c l := ⟨rfl, h⟩
theorem IntO.own {fp : List Nat} {w : World} {A : Option Addr} {n c : Nat} {l : List Int} (h : IntO fp w A n c l) : fp = blkL A ∧ w.ownsRow 0 3 1 (.slice A n c) n (l.map (Value.int .i64)) := h
theorem IntR.at_r {w : World} {A : Option Addr} {n c : Nat} {l : List Int} (h : IntR w A n c l) : IntsAt w A n l := h.1
theorem StrO.mk' {w : World} {A : Option Addr} {n c : Nat} {l : List ByteArray} (h : w.ownsRow 0 9 1 (.slice A n c) n (l.map Value.string)) : StrO (blkL A) w A n c l := ⟨rfl, h⟩
theorem StrO.own {fp : List Nat} {w : World} {A : Option Addr} {n c : Nat} {l : List ByteArray} (h : StrO fp w A n c l) : fp = blkL A ∧ w.ownsRow 0 9 1 (.slice A n c) n (l.map Value.string) := h
section
variable {α : Type} {R : World → List Value → α → Prop} {F : List Nat → World → List Value → α → Prop} {e sz n c c' m : Nat} {w w' : World} {fps : List (List Nat)} {css : List (List Value)} {A A' : Option Addr} {l : List α} {cs : List Value} {f : List Nat} {x : α}
/-- one element more behind an append -/
theorem app_els (K : KindOk R F sz) (hE : Els F w css fps l) (hx : F f w cs x) (hN : (blkL A ++ (fps ++ [f]).flatten).Nodup) (hg : w.grownBy w' (Value.slice A n c).ownBlock)
    (hob : (Value.slice A' (n + 1) c').ownBlock = (Value.slice A n c).ownBlock ∨ (Value.slice A' (n + 1) c').ownBlock = some m) (hm : w.heap.size ≤ m) :
    Els F w' (css ++ [cs]) (fps ++ [f]) (l ++ [x]) ∧ (blkL A' ++ (fps ++ [f]).flatten).Nodup ∧ ∀ b ∈ blkL A', b ∈ blkL A ∨ b = m := by
  have hE2 := hE.app (Els.one hx)
  have hN2 := List.nodup_append.1 hN
  have hblk : ∀ b ∈ blkL A', b ∈ blkL A ∨ b = m := fun b hb => by
    have h1 := blk_own (n := n + 1) (c := c') (mem_blkL.1 hb)
    rcases hob with h2 | h2
    · exact .inl (mem_blkL.2 (blk_of (h2.symm.trans h1)))
    · exact .inr (Option.some.inj (h1.symm.trans h2))
  refine ⟨hE2.ch K (Ch.of_grow hg) (fun b hb e => hN2.2.2 b (mem_blkL.2 (blk_of e)) b hb rfl), ?_, hblk⟩
  refine List.nodup_append.2 ⟨by cases A' <;> simp [blkL], hN2.2.1, fun a ha b hb e => ?_⟩
  subst e
  rcases hblk a ha with h1 | h1
  · exact hN2.2.2 a h1 a hb rfl
  · have := hE2.lt K a hb; omega
/-- an element and what it leads to are changed -/
theorem upd_els {c1 c2 : List (List Value)} {f1 f2 : List (List Nat)} {l1 l2 : List α} {g : Nat} {cs' : List Value} {f' : List Nat} {x' : α} {w7 w8 : World} (K : KindOk R F sz)
    (ho : w.ownsRow 0 e sz (.slice (some ⟨g, 0, none⟩) n c) n (c1.flatten ++ (cs ++ c2.flatten))) (hE1 : Els F w c1 f1 l1) (hE2 : Els F w c2 f2 l2) (hcs : cs.length = sz) (hn : n = l1.length + 1 + l2.length)
    (hN : (g :: (f1.flatten ++ (f ++ f2.flatten))).Nodup) (hC : Ch (fun b => b ∈ f) w w7) (hx : F f' w7 cs' x') (hf' : ∀ b ∈ f', b ∈ f ∨ w.heap.size ≤ b) (hf'N : f'.Nodup) (hw8 : w8 = setsW w7 g (l1.length * sz) cs') :
    RowO F e sz (blkL (some ⟨g, 0, none⟩) ++ (f1 ++ f' :: f2).flatten) w8 (some ⟨g, 0, none⟩) n c (l1 ++ x' :: l2) ∧ (g :: (f1.flatten ++ (f' ++ f2.flatten))).Nodup ∧ Ch (fun b => b = g ∨ b ∈ f) w w8 := by
  have hgw : g < w.heap.size := (own_lo ho g (by simp [blkL])).2
  have lt1 := hE1.lt K
  have lt2 := hE2.lt K
  simp only [List.nodup_cons, List.nodup_append, List.mem_append, not_or] at hN
  have hgf : ¬ g ∈ f := by grind
  have d1 : ∀ b ∈ f1.flatten, ¬ b ∈ f := fun b h1 h2 => by grind
  have d2 : ∀ b ∈ f2.flatten, ¬ b ∈ f := fun b h1 h2 => by grind
  have e1 : ∀ b ∈ f1.flatten, ¬ b = g := fun b h1 h2 => by subst h2; grind
  have e2 : ∀ b ∈ f2.flatten, ¬ b = g := fun b h1 h2 => by subst h2; grind
  have e3 : ∀ b ∈ f', ¬ b = g := fun b h1 h2 => by
    subst h2
    rcases hf' b h1 with h | h
    · exact hgf h
    · omega
  have hC8 : Ch (fun b => b = g) w7 w8 := by rw [hw8]; exact ch_setsW _ _ _
  have o7 := own_ch ho hC (fun b hb h2 => hgf (by
    have : b = g := by simpa [Value.ownBlock, eq_comm] using hb
    rw [← this]; exact h2))
  have o8 := own_setsW cs' (l1.length * sz) w7 _ o7
  rw [setsL_at (hE1.flat K) (by rw [hcs, K.rlen (K.fr hx)]), ← hw8] at o8
  have E1 := (hE1.ch K hC d1).ch K hC8 e1
  have E2 := (hE2.ch K hC d2).ch K hC8 e2
  have X := K.fch hx hC8 e3
  refine ⟨RowO.intro (css := c1 ++ cs' :: c2) (by simpa using o8) (by simp; omega) (E1.app ⟨X, E2⟩), ?_, (hC.mono (fun b hb => .inr hb)).trans (hC8.mono (fun b hb => .inl hb))⟩
  simp only [List.nodup_cons, List.nodup_append, List.mem_append, not_or]
  refine ⟨⟨by grind, fun h => e3 g h rfl, by grind⟩, by grind, ⟨hf'N, by grind, fun a ha b hb hab => ?_⟩, fun a ha b hb hab => ?_⟩
  · subst hab
    rcases hf' a ha with h | h
    · exact d2 a hb h
    · have := lt2 a hb; omega
  · subst hab
    rcases hb with hb | hb
    · rcases hf' a hb with h | h
      · exact d1 a ha h
      · have := lt1 a ha; omega
    · grind
end
end Go.Proofs.Ytdphdnllhmnelaa
/- Contract of the program's ReadCmd. -/
namespace Go.Proofs.Ytdphdnllhmnelaa
open Go.RowKit
theorem isEmpty_str (t : ByteArray) : t.toList.isEmpty = decide (t = ByteArray.empty) := by
  have h0 : ByteArray.empty.toList = [] := by rw [Lib.toList_data]; rfl
  by_cases h : t = ByteArray.empty
  · rw [decide_eq_true h, h, h0]; rfl
  · rw [decide_eq_false h]
    cases hl : t.toList with
    | nil => exact absurd (by apply str_ext; rw [hl, h0]) h
    | cons a b => rfl
theorem strs_fin (A : Option Addr) (n c : Nat) (w : World) (l : List ByteArray) (h : w.ownsRow 0 9 1 (.slice A n c) n (l.map Value.string)) : StrR w A n c l := (StrO.mk' h).at_
/-- the command read so far; where the text is no command's: whatever was read -/
theorem rd_end {s : ByteArray} {X : Cm} {bad : Bool} (HE : ∀ c, cmOkB c = true → cmText c = s → c = X ∧ bad = false) :
    (bad = false ∧ s ≠ ByteArray.empty ∧ cmText X = s ∧ rdCm s = X ∧ rdCmB s = true) ∨ ((bad = true ∨ s = ByteArray.empty ∨ cmText X ≠ s) ∧ rdCm s = cmNil ∧ rdCmB s = false) := by
  by_cases h1 : bad = false
  · by_cases h2 : s = ByteArray.empty
    · exact .inr ⟨.inr (.inl h2), rdCm_no (fun c hc hs => cmText_ne hc (hs.trans h2))⟩
    · by_cases h3 : cmText X = s
      · have hok : cmOkB X = true := by
          cases hx : cmOkB X
          · rw [cmText_no hx] at h3; exact absurd h3.symm h2
          · rfl
        exact .inl ⟨h1, h2, h3, rdCm_yes hok h3⟩
      · exact .inr ⟨.inr (.inr h3), rdCm_no (fun c hc hs => h3 (by rw [← (HE c hc hs).1]; exact hs))⟩
  · exact .inr ⟨.inl (by simpa using h1), rdCm_no (fun c hc hs => h1 (HE c hc hs).2)⟩
attribute [local irreducible] StrsAt StrR StrO varS cmOkB cmText numF textF cutF rdCm rdCmB CmJ
set_option maxRecDepth 8000 in
set_option maxHeartbeats 8000000 in
theorem readCmd_impl (s : ByteArray) (w : World) (hs : s.size ≤ 1048576) :
    Calls Try.prog 87 #[.string s] w fun e w' => (∃ A n c fp, e = .returned (.tuple #[cmV (rdCm s) (.slice A n c), .bool (rdCmB s)]) ∧ StrO fp w' A n c (rdCm s).ch ∧ fp.Nodup ∧ ∀ b ∈ fp, w.heap.size ≤ b ∧ b < w'.heap.size) ∧ Below w.heap.size w w' := by
  go_enter Try.func87, Try.ntmps87
  go_wp2_with fail
  obtain ⟨W0, hW0⟩ : ∃ W, W = (w.alloc (.cells #[.int .i64 0, .int .i64 0, .int .i64 0, .string ⟨#[]⟩, .string ⟨#[]⟩, .string ⟨#[]⟩, .int .i64 0, .slice none 0 0] 47)).alloc (.cells #[.string s, .bool false] 119) := ⟨_, rfl⟩
  have al := (Below.refl w.heap.size w).alloc (Nat.le_refl _) (.cells #[.int .i64 0, .int .i64 0, .int .i64 0, .string ⟨#[]⟩, .string ⟨#[]⟩, .string ⟨#[]⟩, .int .i64 0, .slice none 0 0] 47)
  have al2 := (Below.refl (w.alloc (.cells #[.int .i64 0, .int .i64 0, .int .i64 0, .string ⟨#[]⟩, .string ⟨#[]⟩, .string ⟨#[]⟩, .int .i64 0, .slice none 0 0] 47)).heap.size (w.alloc (.cells #[.int .i64 0, .int .i64 0, .int .i64 0, .string ⟨#[]⟩, .string ⟨#[]⟩, .string ⟨#[]⟩, .int .i64 0, .slice none 0 0] 47))).alloc (Nat.le_refl _) (.cells #[.string s, .bool false] 119)
  have R0 : BoxL W0 w.heap.size [.int .i64 0, .int .i64 0, .int .i64 0, .string ⟨#[]⟩, .string ⟨#[]⟩, .string ⟨#[]⟩, .int .i64 0, .slice none 0 0] := by rw [hW0]; exact (BoxL.new w [.int .i64 0, .int .i64 0, .int .i64 0, .string ⟨#[]⟩, .string ⟨#[]⟩, .string ⟨#[]⟩, .int .i64 0, .slice none 0 0] 47).keep al2
  have S0 : Scn W0 (w.heap.size + 1) (s, false) := by rw [hW0]; exact ⟨by simp [go_sem], by simp [go_sem], by simp [go_sem], by simp [go_sem], by simp only; omega⟩
  have B0 : Below w.heap.size w W0 := by rw [hW0]; exact bthen al al2
  have z0 : w.heap.size + 1 < W0.heap.size := by rw [hW0]; simp [go_sem]
  rw [← hW0]; clear hW0 al al2
  have hx0 : ((s, false) : Sc).1.size ≤ 1048576 := hs
  refine (num_impl _ _ _ S0).mono ?_
  rintro e w1 ⟨rfl, S1, c1⟩
  have R1 := R0.ch c1 (ne_blk (by omega)); clear R0
  have z1 := Nat.lt_of_lt_of_le z0 c1.size
  have B1 := c1.belowB B0 (by omega) (fun k hk => by have hk : k = _ := hk; omega)
  have q1 := numF_le (s, false)
  obtain ⟨⟨v1, x1⟩, f1⟩ : ∃ r, numF (s, false) = r := ⟨_, rfl⟩
  rw [f1] at S1 q1 ⊢
  simp only at S1 q1
  have hx1 : x1.1.size ≤ 1048576 := by omega
  have F1 := Lib.hid f1; clear f1
  go_wp2_with fail
  obtain ⟨W1, hW1⟩ : ∃ W, W = w1.alloc (.cells #[.int .i64 (v1 : Int), .int .i64 0, .int .i64 0, .string ⟨#[]⟩, .string ⟨#[]⟩, .string ⟨#[]⟩, .int .i64 0, .slice none 0 0] 47) := ⟨_, rfl⟩
  have al := (Below.refl w1.heap.size w1).alloc (Nat.le_refl _) (.cells #[.int .i64 (v1 : Int), .int .i64 0, .int .i64 0, .string ⟨#[]⟩, .string ⟨#[]⟩, .string ⟨#[]⟩, .int .i64 0, .slice none 0 0] 47)
  obtain ⟨h, hh⟩ : ∃ h, w1.heap.size = h := ⟨_, rfl⟩
  have C1 : BoxL W1 h [.int .i64 (v1 : Int), .int .i64 0, .int .i64 0, .string ⟨#[]⟩, .string ⟨#[]⟩, .string ⟨#[]⟩, .int .i64 0, .slice none 0 0] := by rw [hW1, ← hh]; exact BoxL.new w1 [.int .i64 (v1 : Int), .int .i64 0, .int .i64 0, .string ⟨#[]⟩, .string ⟨#[]⟩, .string ⟨#[]⟩, .int .i64 0, .slice none 0 0] 47
  rw [← hW1] at al
  have R1' := R1.keep al; clear R1; have R1 := R1'; clear R1'
  have S1' := S1.keep al; clear S1; have S1 := S1'; clear S1'
  have B1' := bthen B1 al; clear B1; have B1 := B1'; clear B1'
  have hgh : w.heap.size + 1 < h := by omega
  have z1' : h < W1.heap.size := C1.lt
  have z1'' : w.heap.size + 1 < W1.heap.size := by omega
  clear z1; have z1 := z1''; clear z1''
  rw [← hW1, hh]; clear hW1 al hh
  refine (num_impl _ _ _ S1).mono ?_
  rintro e w2 ⟨rfl, S2, c2⟩
  have R2 := R1.ch c2 (ne_blk (by omega)); clear R1
  have C2 := C1.ch c2 (ne_blk (by omega)); clear C1
  have z2 := Nat.lt_of_lt_of_le z1 c2.size
  have B2 := c2.belowB B1 (by omega) (fun k hk => by have hk : k = _ := hk; omega)
  clear S1
  have q2 := numF_le x1
  obtain ⟨⟨v2, x2⟩, f2⟩ : ∃ r, numF x1 = r := ⟨_, rfl⟩
  rw [f2] at S2 q2 ⊢
  simp only at S2 q2
  have hx2 : x2.1.size ≤ 1048576 := by omega
  have F2 := Lib.hid f2; clear f2
  clear c2
  have e2 := C2.cell 1 _ rfl
  have y2 := C2.fz 1 (by simp)
  have eL2 := C2.lt
  go_wp2_with fail
  obtain ⟨W2, hW2⟩ : ∃ W, W = w2.setCell ⟨h, 1, none⟩ (.int .i64 (v2 : Int)) := ⟨_, rfl⟩
  rw [← hW2]
  have d2 : Ch (fun k => k = h) w2 W2 := by rw [hW2]; exact Ch.set
  have C2' : BoxL W2 h [.int .i64 (v1 : Int), .int .i64 (v2 : Int), .int .i64 0, .string ⟨#[]⟩, .string ⟨#[]⟩, .string ⟨#[]⟩, .int .i64 0, .slice none 0 0] := by rw [hW2]; exact C2.set (j := 1) (by simp)
  have R2' := R2.ch d2 (ne_blk (by omega)); clear R2; have R2 := R2'; clear R2'
  have S2' := S2.ch d2 (ne_blk (by omega)); clear S2; have S2 := S2'; clear S2'
  have B2' := d2.belowB B2 (by omega) (fun k hk => by have hk : k = h := hk; omega); clear B2; have B2 := B2'; clear B2'
  have z2' := Nat.lt_of_lt_of_le z2 d2.size; clear z2; have z2 := z2'; clear z2'
  clear C2 e2 y2 hW2 d2 eL2; have C2 := C2'; clear C2'
  refine (num_impl _ _ _ S2).mono ?_
  rintro e w3 ⟨rfl, S3, c3⟩
  have R3 := R2.ch c3 (ne_blk (by omega)); clear R2
  have C3 := C2.ch c3 (ne_blk (by omega)); clear C2
  have z3 := Nat.lt_of_lt_of_le z2 c3.size
  have B3 := c3.belowB B2 (by omega) (fun k hk => by have hk : k = _ := hk; omega)
  clear S2
  have q3 := numF_le x2
  obtain ⟨⟨v3, x3⟩, f3⟩ : ∃ r, numF x2 = r := ⟨_, rfl⟩
  rw [f3] at S3 q3 ⊢
  simp only at S3 q3
  have hx3 : x3.1.size ≤ 1048576 := by omega
  have F3 := Lib.hid f3; clear f3
  clear c3
  have e3 := C3.cell 2 _ rfl
  have y3 := C3.fz 2 (by simp)
  have eL3 := C3.lt
  go_wp2_with fail
  obtain ⟨W3, hW3⟩ : ∃ W, W = w3.setCell ⟨h, 2, none⟩ (.int .i64 (v3 : Int)) := ⟨_, rfl⟩
  rw [← hW3]
  have d3 : Ch (fun k => k = h) w3 W3 := by rw [hW3]; exact Ch.set
  have C3' : BoxL W3 h [.int .i64 (v1 : Int), .int .i64 (v2 : Int), .int .i64 (v3 : Int), .string ⟨#[]⟩, .string ⟨#[]⟩, .string ⟨#[]⟩, .int .i64 0, .slice none 0 0] := by rw [hW3]; exact C3.set (j := 2) (by simp)
  have R3' := R3.ch d3 (ne_blk (by omega)); clear R3; have R3 := R3'; clear R3'
  have S3' := S3.ch d3 (ne_blk (by omega)); clear S3; have S3 := S3'; clear S3'
  have B3' := d3.belowB B3 (by omega) (fun k hk => by have hk : k = h := hk; omega); clear B3; have B3 := B3'; clear B3'
  have z3' := Nat.lt_of_lt_of_le z3 d3.size; clear z3; have z3 := z3'; clear z3'
  clear C3 e3 y3 hW3 d3 eL3; have C3 := C3'; clear C3'
  refine (num_impl _ _ _ S3).mono ?_
  rintro e w4 ⟨rfl, S4, c4⟩
  have R4 := R3.ch c4 (ne_blk (by omega)); clear R3
  have C4 := C3.ch c4 (ne_blk (by omega)); clear C3
  have z4 := Nat.lt_of_lt_of_le z3 c4.size
  have B4 := c4.belowB B3 (by omega) (fun k hk => by have hk : k = _ := hk; omega)
  clear S3
  have q4 := numF_le x3
  obtain ⟨⟨v4, x4⟩, f4⟩ : ∃ r, numF x3 = r := ⟨_, rfl⟩
  rw [f4] at S4 q4 ⊢
  simp only at S4 q4
  have hx4 : x4.1.size ≤ 1048576 := by omega
  have F4 := Lib.hid f4; clear f4
  clear c4
  have e4 := C4.cell 6 _ rfl
  have y4 := C4.fz 6 (by simp)
  have eL4 := C4.lt
  go_wp2_with fail
  obtain ⟨W4, hW4⟩ : ∃ W, W = w4.setCell ⟨h, 6, none⟩ (.int .i64 (v4 : Int)) := ⟨_, rfl⟩
  rw [← hW4]
  have d4 : Ch (fun k => k = h) w4 W4 := by rw [hW4]; exact Ch.set
  have C4' : BoxL W4 h [.int .i64 (v1 : Int), .int .i64 (v2 : Int), .int .i64 (v3 : Int), .string ⟨#[]⟩, .string ⟨#[]⟩, .string ⟨#[]⟩, .int .i64 (v4 : Int), .slice none 0 0] := by rw [hW4]; exact C4.set (j := 6) (by simp)
  have R4' := R4.ch d4 (ne_blk (by omega)); clear R4; have R4 := R4'; clear R4'
  have S4' := S4.ch d4 (ne_blk (by omega)); clear S4; have S4 := S4'; clear S4'
  have B4' := d4.belowB B4 (by omega) (fun k hk => by have hk : k = h := hk; omega); clear B4; have B4 := B4'; clear B4'
  have z4' := Nat.lt_of_lt_of_le z4 d4.size; clear z4; have z4 := z4'; clear z4'
  clear C4 e4 y4 hW4 d4 eL4; have C4 := C4'; clear C4'
  refine (text_impl _ _ _ S4).mono ?_
  rintro e w5 ⟨rfl, S5, c5⟩
  have R5 := R4.ch c5 (ne_blk (by omega)); clear R4
  have C5 := C4.ch c5 (ne_blk (by omega)); clear C4
  have z5 := Nat.lt_of_lt_of_le z4 c5.size
  have B5 := c5.belowB B4 (by omega) (fun k hk => by have hk : k = _ := hk; omega)
  clear S4
  have q5 := textF_cost x4
  obtain ⟨⟨v5, x5⟩, f5⟩ : ∃ r, textF x4 = r := ⟨_, rfl⟩
  rw [f5] at S5 q5 ⊢
  simp only at S5 q5
  have hx5 : x5.1.size ≤ 1048576 := by omega
  have F5 := Lib.hid f5; clear f5
  clear c5
  have e5 := C5.cell 3 _ rfl
  have y5 := C5.fz 3 (by simp)
  have eL5 := C5.lt
  go_wp2_with fail
  obtain ⟨W5, hW5⟩ : ∃ W, W = w5.setCell ⟨h, 3, none⟩ (.string v5) := ⟨_, rfl⟩
  rw [← hW5]
  have d5 : Ch (fun k => k = h) w5 W5 := by rw [hW5]; exact Ch.set
  have C5' : BoxL W5 h [.int .i64 (v1 : Int), .int .i64 (v2 : Int), .int .i64 (v3 : Int), .string v5, .string ⟨#[]⟩, .string ⟨#[]⟩, .int .i64 (v4 : Int), .slice none 0 0] := by rw [hW5]; exact C5.set (j := 3) (by simp)
  have R5' := R5.ch d5 (ne_blk (by omega)); clear R5; have R5 := R5'; clear R5'
  have S5' := S5.ch d5 (ne_blk (by omega)); clear S5; have S5 := S5'; clear S5'
  have B5' := d5.belowB B5 (by omega) (fun k hk => by have hk : k = h := hk; omega); clear B5; have B5 := B5'; clear B5'
  have z5' := Nat.lt_of_lt_of_le z5 d5.size; clear z5; have z5 := z5'; clear z5'
  clear C5 e5 y5 hW5 d5 eL5; have C5 := C5'; clear C5'
  refine (text_impl _ _ _ S5).mono ?_
  rintro e w6 ⟨rfl, S6, c6⟩
  have R6 := R5.ch c6 (ne_blk (by omega)); clear R5
  have C6 := C5.ch c6 (ne_blk (by omega)); clear C5
  have z6 := Nat.lt_of_lt_of_le z5 c6.size
  have B6 := c6.belowB B5 (by omega) (fun k hk => by have hk : k = _ := hk; omega)
  clear S5
  have q6 := textF_cost x5
  obtain ⟨⟨v6, x6⟩, f6⟩ : ∃ r, textF x5 = r := ⟨_, rfl⟩
  rw [f6] at S6 q6 ⊢
  simp only at S6 q6
  have hx6 : x6.1.size ≤ 1048576 := by omega
  have F6 := Lib.hid f6; clear f6
  clear c6
  have e6 := C6.cell 4 _ rfl
  have y6 := C6.fz 4 (by simp)
  have eL6 := C6.lt
  go_wp2_with fail
  obtain ⟨W6, hW6⟩ : ∃ W, W = w6.setCell ⟨h, 4, none⟩ (.string v6) := ⟨_, rfl⟩
  rw [← hW6]
  have d6 : Ch (fun k => k = h) w6 W6 := by rw [hW6]; exact Ch.set
  have C6' : BoxL W6 h [.int .i64 (v1 : Int), .int .i64 (v2 : Int), .int .i64 (v3 : Int), .string v5, .string v6, .string ⟨#[]⟩, .int .i64 (v4 : Int), .slice none 0 0] := by rw [hW6]; exact C6.set (j := 4) (by simp)
  have R6' := R6.ch d6 (ne_blk (by omega)); clear R6; have R6 := R6'; clear R6'
  have S6' := S6.ch d6 (ne_blk (by omega)); clear S6; have S6 := S6'; clear S6'
  have B6' := d6.belowB B6 (by omega) (fun k hk => by have hk : k = h := hk; omega); clear B6; have B6 := B6'; clear B6'
  have z6' := Nat.lt_of_lt_of_le z6 d6.size; clear z6; have z6 := z6'; clear z6'
  clear C6 e6 y6 hW6 d6 eL6; have C6 := C6'; clear C6'
  refine (text_impl _ _ _ S6).mono ?_
  rintro e w7 ⟨rfl, S7, c7⟩
  have R7 := R6.ch c7 (ne_blk (by omega)); clear R6
  have C7 := C6.ch c7 (ne_blk (by omega)); clear C6
  have z7 := Nat.lt_of_lt_of_le z6 c7.size
  have B7 := c7.belowB B6 (by omega) (fun k hk => by have hk : k = _ := hk; omega)
  clear S6
  have q7 := textF_cost x6
  obtain ⟨⟨v7, x7⟩, f7⟩ : ∃ r, textF x6 = r := ⟨_, rfl⟩
  rw [f7] at S7 q7 ⊢
  simp only at S7 q7
  have hx7 : x7.1.size ≤ 1048576 := by omega
  have F7 := Lib.hid f7; clear f7
  clear c7
  have e7 := C7.cell 5 _ rfl
  have y7 := C7.fz 5 (by simp)
  have eL7 := C7.lt
  go_wp2_with fail
  obtain ⟨W7, hW7⟩ : ∃ W, W = w7.setCell ⟨h, 5, none⟩ (.string v7) := ⟨_, rfl⟩
  rw [← hW7]
  have d7 : Ch (fun k => k = h) w7 W7 := by rw [hW7]; exact Ch.set
  have C7' : BoxL W7 h [.int .i64 (v1 : Int), .int .i64 (v2 : Int), .int .i64 (v3 : Int), .string v5, .string v6, .string v7, .int .i64 (v4 : Int), .slice none 0 0] := by rw [hW7]; exact C7.set (j := 5) (by simp)
  have R7' := R7.ch d7 (ne_blk (by omega)); clear R7; have R7 := R7'; clear R7'
  have S7' := S7.ch d7 (ne_blk (by omega)); clear S7; have S7 := S7'; clear S7'
  have B7' := d7.belowB B7 (by omega) (fun k hk => by have hk : k = h := hk; omega); clear B7; have B7 := B7'; clear B7'
  have z7' := Nat.lt_of_lt_of_le z7 d7.size; clear z7; have z7 := z7'; clear z7'
  clear C7 e7 y7 hW7 d7 eL7; have C7 := C7'; clear C7'
  refine (num_impl _ _ _ S7).mono ?_
  rintro e w8 ⟨rfl, S8, c8⟩
  have R8 := R7.ch c8 (ne_blk (by omega)); clear R7
  have C8 := C7.ch c8 (ne_blk (by omega)); clear C7
  have z8 := Nat.lt_of_lt_of_le z7 c8.size
  have B8 := c8.belowB B7 (by omega) (fun k hk => by have hk : k = _ := hk; omega)
  clear S7
  have q8 := numF_le x7
  obtain ⟨⟨v8, x8⟩, f8⟩ : ∃ r, numF x7 = r := ⟨_, rfl⟩
  rw [f8] at S8 q8 ⊢
  simp only at S8 q8
  have hx8 : x8.1.size ≤ 1048576 := by omega
  have F8 := Lib.hid f8; clear f8
  clear c8
  have J0 := Lib.hid (CmJ.start F1.out F2.out F3.out F4.out F5.out F6.out F7.out F8.out)
  simp only at J0
  clear F1
  clear F2
  clear F3
  clear F4
  clear F5
  clear F6
  clear F7
  clear F8
  go_wp2
  have hhz := C8.lt
  go_loopw [7] (fun i wr => ∃ (cs : List ByteArray) (x : Sc) (A : Option Addr) (cap : Nat), i = .int .i64 (cs.length : Nat) ∧ cs.length ≤ 4 ∧ CmJ s v1 v2 v3 v4 v5 v6 v7 v8 cs x ∧ BoxL wr w.heap.size [.int .i64 0, .int .i64 0, .int .i64 0, .string ⟨#[]⟩, .string ⟨#[]⟩, .string ⟨#[]⟩, .int .i64 0, .slice none 0 0] ∧ Scn wr (w.heap.size + 1) x ∧ BoxL wr h [.int .i64 (v1 : Int), .int .i64 (v2 : Int), .int .i64 (v3 : Int), .string v5, .string v6, .string v7, .int .i64 (v4 : Int), .slice A cs.length cap] ∧ wr.ownsRow w8.heap.size 9 1 (.slice A cs.length cap) cs.length (cs.map Value.string) ∧ (∀ y ∈ cs, y.size ≤ 1048576) ∧ x.1.size ≤ 1048576 ∧ Below w.heap.size w wr ∧ w8.heap.size ≤ wr.heap.size) (fun i _ => 5 - (intOf i).toNat)
  case atStart => exact ⟨[], x8, none, 0, by simp, by simp, J0.out, R8, S8, C8, by simpa using World.ownsRow_nil _ _ _ _, (fun y hy => by cases hy), hx8, B8, Nat.le_refl _⟩
  case round =>
    obtain ⟨cs, x, A, cap, rfl, hl4, hj, R, S, C, hown, hel, hxz, hB, hz8⟩ := hrel
    have HJ := Lib.hid hj; clear hj
    have hgl := S.lt
    have hhl := C.lt
    by_cases hgo : cs.length < v8 ∧ v8 ≤ 4
    · obtain ⟨hlt, hm4⟩ := hgo
      have ilt : (cs.length : Int) < (v8 : Int) := by omega
      have im4 : (v8 : Int) ≤ 4 := by omega
      have J2 := Lib.hid (CmJ.step HJ.out hlt)
      have qc := cutF_cost x 8
      obtain ⟨⟨t, x'⟩, ft⟩ : ∃ r, cutF x 8 = r := ⟨_, rfl⟩
      rw [ft] at J2 qc
      simp only at J2 qc
      go_wp2_with fail
      refine (cut_impl _ 8 _ _ S (by omega)).mono ?_
      rintro e wc ⟨rfl, S', cc⟩
      rw [ft] at S' ⊢
      simp only at S'
      clear ft S
      have R' := R.ch cc (ne_blk (by omega))
      have C' := C.ch cc (ne_blk (by omega))
      have hB' := cc.belowB hB (by omega) (fun k hk => by have hk : k = _ := hk; omega)
      have hown' := own_chL hown cc (fun b hb h2 => by have h2 : b = w.heap.size + 1 := h2; have := (own_lo hown b hb).1; omega)
      have hzc := cc.size
      have hgl' := S'.lt
      have hhl' := C'.lt
      have hz8' : w8.heap.size ≤ wc.heap.size := by omega
      clear R C hown cc hB hgl hhl
      have e7 := C'.cell 7 _ rfl
      go_wp2_with (first | (at_builtin; refine wpList_app1g (P := Try.prog) wc rfl (.tmp 47) (.tmp 49) 38 rfl w8.heap.size 9 _ 1 16 Try.underlying38 infoString rfl (by omega) (.slice A _ cap) _ _ rfl hown' #[.string t] _ rfl (by simp) rfl (by simp [Value.oneCell']) (by unfold maxLen; omega) (by omega) hz8' ?_; intro A' c' wd hown2 hgr hbg hob; refine stop_of ?_) | fail)
      have hcd : Ch (fun b => b ∈ blkL A) wc wd := (Ch.of_grow hgr).mono (fun b hb => mem_blkL.2 (blk_of hb))
      have hbl : ∀ b ∈ blkL A, w8.heap.size ≤ b := fun b hb => (own_lo hown' b hb).1
      have R2 := R'.ch hcd (fun hb => by have := hbl _ hb; omega)
      have S2 := S'.ch hcd (fun hb => by have := hbl _ hb; omega)
      have C2 := C'.ch hcd (fun hb => by have := hbl _ hb; omega)
      have hB2 := hcd.belowB hB' (by omega) (fun k hk => by have := hbl _ hk; omega)
      have hzd := hcd.size
      clear R' S' C' hB' hown' hcd e7
      have e7 := C2.cell 7 _ rfl
      have y7 := C2.fz 7 (by simp)
      have hgl2 := S2.lt
      have hhl2 := C2.lt
      unfold Stop
      go_wp2
      have d : Ch (fun k => k = h) wd (wd.setCell ⟨h, 7, none⟩ (.slice A' (cs.length + 1) c')) := Ch.set
      have R3 := R2.ch d (ne_blk (by omega))
      have S3 := S2.ch d (ne_blk (by omega))
      have C3 := C2.set (j := 7) (v := .slice A' (cs.length + 1) c') (by simp)
      have hB3 := d.belowB hB2 (by omega) (fun k hk => by have hk : k = h := hk; omega)
      have hown3 := own_chL hown2 d (fun b hb h2 => by have h2 : b = h := h2; have := (own_lo hown2 b hb).1; omega)
      have hze := d.size
      refine ⟨⟨cs ++ [t], x', A', c', by simp, by simp; omega, J2.out, R3, S3, by simpa using C3, by simpa using hown3, fun y hy => ?_, by omega, hB3, by omega⟩, by simp [intOf]; omega⟩
      rcases List.mem_append.1 hy with hy | hy
      · exact hel y hy
      · have : y = t := by simpa using hy
        subst this; omega
    · have HE := CmJ.end_ HJ.out (show v8 ≤ cs.length ∨ 4 < v8 by omega)
      obtain ⟨t, bad⟩ := x
      simp only at HE
      have HR := rd_end HE
      clear HE HJ J0
      obtain ⟨X, hX⟩ : ∃ X : Cm, X = ⟨v1, v2, v3, v5, v6, v7, v4, cs⟩ := ⟨_, rfl⟩
      rw [← hX] at HR
      have hX1 : X.ch = cs := by rw [hX]
      have hcB : cmB X := by rw [hX]; exact ⟨by simp only; omega, by simp only; omega, by simp only; omega, by simp only; omega, fun y hy => by have := hel y hy; omega⟩
      have hStr : StrR wr A cs.length cap X.ch := by rw [hX1]; exact strs_fin _ _ _ _ _ (own_up hown (Nat.zero_le _))
      have k1 := S.c1
      simp only at k1
      have e0 := C.cell 0 _ rfl
      have e1 := C.cell 1 _ rfl
      have e2 := C.cell 2 _ rfl
      have e3 := C.cell 3 _ rfl
      have e4 := C.cell 4 _ rfl
      have e5 := C.cell 5 _ rfl
      have e6 := C.cell 6 _ rfl
      have e7 := C.cell 7 _ rfl
      have r0 := R.cell 0 _ rfl
      have y0 := R.fz 0 (by simp)
      have r1 := R.cell 1 _ rfl
      have y1 := R.fz 1 (by simp)
      have r2 := R.cell 2 _ rfl
      have y2 := R.fz 2 (by simp)
      have r3 := R.cell 3 _ rfl
      have y3 := R.fz 3 (by simp)
      have r4 := R.cell 4 _ rfl
      have y4 := R.fz 4 (by simp)
      have r5 := R.cell 5 _ rfl
      have y5 := R.fz 5 (by simp)
      have r6 := R.cell 6 _ rfl
      have y6 := R.fz 6 (by simp)
      have r7 := R.cell 7 _ rfl
      have y7 := R.fz 7 (by simp)
      have hgs : w.heap.size < wr.heap.size := R.lt
      have hte := isEmpty_str s
      have hgd : ((cs.length : Int) < (v8 : Int) ∧ ¬ (v8 : Int) ≤ 4) ∨ ¬ ((cs.length : Int) < (v8 : Int)) := by omega
      rcases HR with ⟨rfl, hne, htx, hr, hrb⟩ | ⟨hbad, hr, hrb⟩
      · rw [decide_eq_false hne] at hte
        have g1 : ((cmText X).toList == s.toList) = true := by rw [htx]; simp
        have HRR := Lib.hid hr; have HRB := Lib.hid hrb
        clear htx hr hrb hne hgo
        have hcV : cmV X (.slice A cs.length cap) = .agg #[.int .i64 (v1 : Int), .int .i64 (v2 : Int), .int .i64 (v3 : Int), .string v5, .string v6, .string v7, .int .i64 (v4 : Int), .slice A cs.length cap] := by rw [hX]; rfl
        rcases hgd with ⟨g2, g3⟩ | g2
        · skip
          go_wp2_with fail
          rw [← hcV]
          have HX := Lib.hid hX; clear hX hX1 hcV
          refine (showCmd_impl X _ _ _ _ hStr hcB).mono ?_
          rintro e w9 ⟨rfl, hb9⟩
          have e0' := keep_cell hb9 e0; clear e0
          have e1' := keep_cell hb9 e1; clear e1
          have e2' := keep_cell hb9 e2; clear e2
          have e3' := keep_cell hb9 e3; clear e3
          have e4' := keep_cell hb9 e4; clear e4
          have e5' := keep_cell hb9 e5; clear e5
          have e6' := keep_cell hb9 e6; clear e6
          have e7' := keep_cell hb9 e7; clear e7
          have R9 := R.keep hb9; clear R
          have r0' := R9.cell 0 _ rfl; clear r0
          have y0' := R9.fz 0 (by simp); clear y0
          have r1' := R9.cell 1 _ rfl; clear r1
          have y1' := R9.fz 1 (by simp); clear y1
          have r2' := R9.cell 2 _ rfl; clear r2
          have y2' := R9.fz 2 (by simp); clear y2
          have r3' := R9.cell 3 _ rfl; clear r3
          have y3' := R9.fz 3 (by simp); clear y3
          have r4' := R9.cell 4 _ rfl; clear r4
          have y4' := R9.fz 4 (by simp); clear y4
          have r5' := R9.cell 5 _ rfl; clear r5
          have y5' := R9.fz 5 (by simp); clear y5
          have r6' := R9.cell 6 _ rfl; clear r6
          have y6' := R9.fz 6 (by simp); clear y6
          have r7' := R9.cell 7 _ rfl; clear r7
          have y7' := R9.fz 7 (by simp); clear y7
          have hz9 := hb9.size
          obtain ⟨WF, hWF⟩ : ∃ W, W = ((((((((w9.setCell ⟨w.heap.size, 0, none⟩ (.int .i64 (v1 : Int))).setCell ⟨w.heap.size, 1, none⟩ (.int .i64 (v2 : Int))).setCell ⟨w.heap.size, 2, none⟩ (.int .i64 (v3 : Int))).setCell ⟨w.heap.size, 3, none⟩ (.string v5)).setCell ⟨w.heap.size, 4, none⟩ (.string v6)).setCell ⟨w.heap.size, 5, none⟩ (.string v7)).setCell ⟨w.heap.size, 6, none⟩ (.int .i64 (v4 : Int))).setCell ⟨w.heap.size, 7, none⟩ (.slice A cs.length cap)) := ⟨_, rfl⟩
          have hsF : WF = setsW w9 w.heap.size 0 [.int .i64 (v1 : Int), .int .i64 (v2 : Int), .int .i64 (v3 : Int), .string v5, .string v6, .string v7, .int .i64 (v4 : Int), .slice A cs.length cap] := hWF
          have cF : Ch (fun b => b = w.heap.size) w9 WF := by rw [hsF]; exact ch_setsW _ _ _
          have RF : BoxL WF w.heap.size [.int .i64 (v1 : Int), .int .i64 (v2 : Int), .int .i64 (v3 : Int), .string v5, .string v6, .string v7, .int .i64 (v4 : Int), .slice A cs.length cap] := by rw [hsF]; exact R9.sets rfl
          have HWF := Lib.hid hWF; clear hWF hsF
          have q0 := RF.cell 0 _ rfl
          have q1 := RF.cell 1 _ rfl
          have q2 := RF.cell 2 _ rfl
          have q3 := RF.cell 3 _ rfl
          have q4 := RF.cell 4 _ rfl
          have q5 := RF.cell 5 _ rfl
          have q6 := RF.cell 6 _ rfl
          have q7 := RF.cell 7 _ rfl
          have hsz := cF.size
          have hBF : Below w.heap.size w WF := cF.belowB (bthen hB hb9) (by omega) (fun k hk => by have hk : k = _ := hk; omega)
          have ho9 := own_chL hown (Ch.of_below (S := fun _ => False) hb9) (fun _ _ h => h)
          have hoF := own_chL ho9 cF (fun b hb h2 => by have h2 : b = w.heap.size := h2; have := (own_lo ho9 b hb).1; omega)
          clear ho9
          clear cF RF R9 hown
          repeat (first | rw [← HWF.out] | go_values | go_skip | go_guarded | go_step | go_upon | (simp only []; go_at_K))
          refine bodyPost_ret (v := .tuple #[.agg #[.int .i64 (v1 : Int), .int .i64 (v2 : Int), .int .i64 (v3 : Int), .string v5, .string v6, .string v7, .int .i64 (v4 : Int), .slice A cs.length cap], .bool true]) (by simp [results, Try.results87, go_sem, q0, q1, q2, q3, q4, q5, q6, q7]) rfl ?_
          rw [HRR.out, HRB.out, HX.out]
          exact ⟨⟨A, _, cap, _, rfl, StrO.mk' (own_up hoF (Nat.zero_le _)), by cases A <;> simp [blkL], fun b hb => by have := own_lo hoF b hb; omega⟩, hBF⟩
        · skip
          go_wp2_with fail
          rw [← hcV]
          have HX := Lib.hid hX; clear hX hX1 hcV
          refine (showCmd_impl X _ _ _ _ hStr hcB).mono ?_
          rintro e w9 ⟨rfl, hb9⟩
          have e0' := keep_cell hb9 e0; clear e0
          have e1' := keep_cell hb9 e1; clear e1
          have e2' := keep_cell hb9 e2; clear e2
          have e3' := keep_cell hb9 e3; clear e3
          have e4' := keep_cell hb9 e4; clear e4
          have e5' := keep_cell hb9 e5; clear e5
          have e6' := keep_cell hb9 e6; clear e6
          have e7' := keep_cell hb9 e7; clear e7
          have R9 := R.keep hb9; clear R
          have r0' := R9.cell 0 _ rfl; clear r0
          have y0' := R9.fz 0 (by simp); clear y0
          have r1' := R9.cell 1 _ rfl; clear r1
          have y1' := R9.fz 1 (by simp); clear y1
          have r2' := R9.cell 2 _ rfl; clear r2
          have y2' := R9.fz 2 (by simp); clear y2
          have r3' := R9.cell 3 _ rfl; clear r3
          have y3' := R9.fz 3 (by simp); clear y3
          have r4' := R9.cell 4 _ rfl; clear r4
          have y4' := R9.fz 4 (by simp); clear y4
          have r5' := R9.cell 5 _ rfl; clear r5
          have y5' := R9.fz 5 (by simp); clear y5
          have r6' := R9.cell 6 _ rfl; clear r6
          have y6' := R9.fz 6 (by simp); clear y6
          have r7' := R9.cell 7 _ rfl; clear r7
          have y7' := R9.fz 7 (by simp); clear y7
          have hz9 := hb9.size
          obtain ⟨WF, hWF⟩ : ∃ W, W = ((((((((w9.setCell ⟨w.heap.size, 0, none⟩ (.int .i64 (v1 : Int))).setCell ⟨w.heap.size, 1, none⟩ (.int .i64 (v2 : Int))).setCell ⟨w.heap.size, 2, none⟩ (.int .i64 (v3 : Int))).setCell ⟨w.heap.size, 3, none⟩ (.string v5)).setCell ⟨w.heap.size, 4, none⟩ (.string v6)).setCell ⟨w.heap.size, 5, none⟩ (.string v7)).setCell ⟨w.heap.size, 6, none⟩ (.int .i64 (v4 : Int))).setCell ⟨w.heap.size, 7, none⟩ (.slice A cs.length cap)) := ⟨_, rfl⟩
          have hsF : WF = setsW w9 w.heap.size 0 [.int .i64 (v1 : Int), .int .i64 (v2 : Int), .int .i64 (v3 : Int), .string v5, .string v6, .string v7, .int .i64 (v4 : Int), .slice A cs.length cap] := hWF
          have cF : Ch (fun b => b = w.heap.size) w9 WF := by rw [hsF]; exact ch_setsW _ _ _
          have RF : BoxL WF w.heap.size [.int .i64 (v1 : Int), .int .i64 (v2 : Int), .int .i64 (v3 : Int), .string v5, .string v6, .string v7, .int .i64 (v4 : Int), .slice A cs.length cap] := by rw [hsF]; exact R9.sets rfl
          have HWF := Lib.hid hWF; clear hWF hsF
          have q0 := RF.cell 0 _ rfl
          have q1 := RF.cell 1 _ rfl
          have q2 := RF.cell 2 _ rfl
          have q3 := RF.cell 3 _ rfl
          have q4 := RF.cell 4 _ rfl
          have q5 := RF.cell 5 _ rfl
          have q6 := RF.cell 6 _ rfl
          have q7 := RF.cell 7 _ rfl
          have hsz := cF.size
          have hBF : Below w.heap.size w WF := cF.belowB (bthen hB hb9) (by omega) (fun k hk => by have hk : k = _ := hk; omega)
          have ho9 := own_chL hown (Ch.of_below (S := fun _ => False) hb9) (fun _ _ h => h)
          have hoF := own_chL ho9 cF (fun b hb h2 => by have h2 : b = w.heap.size := h2; have := (own_lo ho9 b hb).1; omega)
          clear ho9
          clear cF RF R9 hown
          repeat (first | rw [← HWF.out] | go_values | go_skip | go_guarded | go_step | go_upon | (simp only []; go_at_K))
          refine bodyPost_ret (v := .tuple #[.agg #[.int .i64 (v1 : Int), .int .i64 (v2 : Int), .int .i64 (v3 : Int), .string v5, .string v6, .string v7, .int .i64 (v4 : Int), .slice A cs.length cap], .bool true]) (by simp [results, Try.results87, go_sem, q0, q1, q2, q3, q4, q5, q6, q7]) rfl ?_
          rw [HRR.out, HRB.out, HX.out]
          exact ⟨⟨A, _, cap, _, rfl, StrO.mk' (own_up hoF (Nat.zero_le _)), by cases A <;> simp [blkL], fun b hb => by have := own_lo hoF b hb; omega⟩, hBF⟩
      · have hcV : cmV X (.slice A cs.length cap) = .agg #[.int .i64 (v1 : Int), .int .i64 (v2 : Int), .int .i64 (v3 : Int), .string v5, .string v6, .string v7, .int .i64 (v4 : Int), .slice A cs.length cap] := by rw [hX]; rfl
        have HRR := Lib.hid hr; have HRB := Lib.hid hrb
        clear hr hrb hgo
        have hk : bad = true ∨ (bad = false ∧ s.toList.isEmpty = true) ∨ (bad = false ∧ s.toList.isEmpty = false ∧ ((cmText X).toList == s.toList) = false) := by
          cases bad
          · rw [hte]
            by_cases h0 : s = ByteArray.empty
            · exact .inr (.inl ⟨rfl, by simp [h0]⟩)
            · refine .inr (.inr ⟨rfl, by simp [h0], ?_⟩)
              rw [str_beq]
              rcases hbad with h | h | h
              · cases h
              · exact absurd h h0
              · simpa using h
          · exact .inl rfl
        clear hbad hte
        rcases hgd with ⟨g2, g3⟩ | g2
        · rcases hk with rfl | ⟨rfl, hte⟩ | ⟨rfl, hte, g1⟩
          · clear hX hX1 hcV e0 e1 e2 e3 e4 e5 e6 e7
            obtain ⟨WF, hWF⟩ : ∃ W, W = ((((((((wr.setCell ⟨w.heap.size, 0, none⟩ (.int .i64 0)).setCell ⟨w.heap.size, 1, none⟩ (.int .i64 0)).setCell ⟨w.heap.size, 2, none⟩ (.int .i64 0)).setCell ⟨w.heap.size, 3, none⟩ (.string ⟨#[]⟩)).setCell ⟨w.heap.size, 4, none⟩ (.string ⟨#[]⟩)).setCell ⟨w.heap.size, 5, none⟩ (.string ⟨#[]⟩)).setCell ⟨w.heap.size, 6, none⟩ (.int .i64 0)).setCell ⟨w.heap.size, 7, none⟩ (.slice none 0 0)) := ⟨_, rfl⟩
            have hsF : WF = setsW wr w.heap.size 0 [.int .i64 0, .int .i64 0, .int .i64 0, .string ⟨#[]⟩, .string ⟨#[]⟩, .string ⟨#[]⟩, .int .i64 0, .slice none 0 0] := hWF
            have cF : Ch (fun b => b = w.heap.size) wr WF := by rw [hsF]; exact ch_setsW _ _ _
            have RF : BoxL WF w.heap.size [.int .i64 0, .int .i64 0, .int .i64 0, .string ⟨#[]⟩, .string ⟨#[]⟩, .string ⟨#[]⟩, .int .i64 0, .slice none 0 0] := by rw [hsF]; exact R.sets rfl
            have HWF := Lib.hid hWF; clear hWF hsF
            have q0 := RF.cell 0 _ rfl
            have q1 := RF.cell 1 _ rfl
            have q2 := RF.cell 2 _ rfl
            have q3 := RF.cell 3 _ rfl
            have q4 := RF.cell 4 _ rfl
            have q5 := RF.cell 5 _ rfl
            have q6 := RF.cell 6 _ rfl
            have q7 := RF.cell 7 _ rfl
            have hsz := cF.size
            have hBF : Below w.heap.size w WF := cF.belowB hB (by omega) (fun k hk => by have hk : k = _ := hk; omega)
            clear cF RF R hown
            repeat (first | rw [← HWF.out] | go_values | go_skip | go_guarded | go_step | go_upon | (simp only []; go_at_K))
            refine bodyPost_ret (v := .tuple #[.agg #[.int .i64 0, .int .i64 0, .int .i64 0, .string ⟨#[]⟩, .string ⟨#[]⟩, .string ⟨#[]⟩, .int .i64 0, .slice none 0 0], .bool false]) (by simp [results, Try.results87, go_sem, q0, q1, q2, q3, q4, q5, q6, q7]) rfl ?_
            rw [HRR.out, HRB.out]
            exact ⟨⟨none, 0, 0, [], rfl, StrO.nil, List.nodup_nil, fun b hb => by cases hb⟩, hBF⟩
          · clear hX hX1 hcV e0 e1 e2 e3 e4 e5 e6 e7
            obtain ⟨WF, hWF⟩ : ∃ W, W = ((((((((wr.setCell ⟨w.heap.size, 0, none⟩ (.int .i64 0)).setCell ⟨w.heap.size, 1, none⟩ (.int .i64 0)).setCell ⟨w.heap.size, 2, none⟩ (.int .i64 0)).setCell ⟨w.heap.size, 3, none⟩ (.string ⟨#[]⟩)).setCell ⟨w.heap.size, 4, none⟩ (.string ⟨#[]⟩)).setCell ⟨w.heap.size, 5, none⟩ (.string ⟨#[]⟩)).setCell ⟨w.heap.size, 6, none⟩ (.int .i64 0)).setCell ⟨w.heap.size, 7, none⟩ (.slice none 0 0)) := ⟨_, rfl⟩
            have hsF : WF = setsW wr w.heap.size 0 [.int .i64 0, .int .i64 0, .int .i64 0, .string ⟨#[]⟩, .string ⟨#[]⟩, .string ⟨#[]⟩, .int .i64 0, .slice none 0 0] := hWF
            have cF : Ch (fun b => b = w.heap.size) wr WF := by rw [hsF]; exact ch_setsW _ _ _
            have RF : BoxL WF w.heap.size [.int .i64 0, .int .i64 0, .int .i64 0, .string ⟨#[]⟩, .string ⟨#[]⟩, .string ⟨#[]⟩, .int .i64 0, .slice none 0 0] := by rw [hsF]; exact R.sets rfl
            have HWF := Lib.hid hWF; clear hWF hsF
            have q0 := RF.cell 0 _ rfl
            have q1 := RF.cell 1 _ rfl
            have q2 := RF.cell 2 _ rfl
            have q3 := RF.cell 3 _ rfl
            have q4 := RF.cell 4 _ rfl
            have q5 := RF.cell 5 _ rfl
            have q6 := RF.cell 6 _ rfl
            have q7 := RF.cell 7 _ rfl
            have hsz := cF.size
            have hBF : Below w.heap.size w WF := cF.belowB hB (by omega) (fun k hk => by have hk : k = _ := hk; omega)
            clear cF RF R hown
            repeat (first | rw [← HWF.out] | go_values | go_skip | go_guarded | go_step | go_upon | (simp only []; go_at_K))
            refine bodyPost_ret (v := .tuple #[.agg #[.int .i64 0, .int .i64 0, .int .i64 0, .string ⟨#[]⟩, .string ⟨#[]⟩, .string ⟨#[]⟩, .int .i64 0, .slice none 0 0], .bool false]) (by simp [results, Try.results87, go_sem, q0, q1, q2, q3, q4, q5, q6, q7]) rfl ?_
            rw [HRR.out, HRB.out]
            exact ⟨⟨none, 0, 0, [], rfl, StrO.nil, List.nodup_nil, fun b hb => by cases hb⟩, hBF⟩
          · skip
            go_wp2_with fail
            rw [← hcV]
            have HX := Lib.hid hX; clear hX hX1 hcV
            refine (showCmd_impl X _ _ _ _ hStr hcB).mono ?_
            rintro e w9 ⟨rfl, hb9⟩
            have e0' := keep_cell hb9 e0; clear e0
            have e1' := keep_cell hb9 e1; clear e1
            have e2' := keep_cell hb9 e2; clear e2
            have e3' := keep_cell hb9 e3; clear e3
            have e4' := keep_cell hb9 e4; clear e4
            have e5' := keep_cell hb9 e5; clear e5
            have e6' := keep_cell hb9 e6; clear e6
            have e7' := keep_cell hb9 e7; clear e7
            have R9 := R.keep hb9; clear R
            have r0' := R9.cell 0 _ rfl; clear r0
            have y0' := R9.fz 0 (by simp); clear y0
            have r1' := R9.cell 1 _ rfl; clear r1
            have y1' := R9.fz 1 (by simp); clear y1
            have r2' := R9.cell 2 _ rfl; clear r2
            have y2' := R9.fz 2 (by simp); clear y2
            have r3' := R9.cell 3 _ rfl; clear r3
            have y3' := R9.fz 3 (by simp); clear y3
            have r4' := R9.cell 4 _ rfl; clear r4
            have y4' := R9.fz 4 (by simp); clear y4
            have r5' := R9.cell 5 _ rfl; clear r5
            have y5' := R9.fz 5 (by simp); clear y5
            have r6' := R9.cell 6 _ rfl; clear r6
            have y6' := R9.fz 6 (by simp); clear y6
            have r7' := R9.cell 7 _ rfl; clear r7
            have y7' := R9.fz 7 (by simp); clear y7
            have hz9 := hb9.size
            obtain ⟨WF, hWF⟩ : ∃ W, W = ((((((((w9.setCell ⟨w.heap.size, 0, none⟩ (.int .i64 0)).setCell ⟨w.heap.size, 1, none⟩ (.int .i64 0)).setCell ⟨w.heap.size, 2, none⟩ (.int .i64 0)).setCell ⟨w.heap.size, 3, none⟩ (.string ⟨#[]⟩)).setCell ⟨w.heap.size, 4, none⟩ (.string ⟨#[]⟩)).setCell ⟨w.heap.size, 5, none⟩ (.string ⟨#[]⟩)).setCell ⟨w.heap.size, 6, none⟩ (.int .i64 0)).setCell ⟨w.heap.size, 7, none⟩ (.slice none 0 0)) := ⟨_, rfl⟩
            have hsF : WF = setsW w9 w.heap.size 0 [.int .i64 0, .int .i64 0, .int .i64 0, .string ⟨#[]⟩, .string ⟨#[]⟩, .string ⟨#[]⟩, .int .i64 0, .slice none 0 0] := hWF
            have cF : Ch (fun b => b = w.heap.size) w9 WF := by rw [hsF]; exact ch_setsW _ _ _
            have RF : BoxL WF w.heap.size [.int .i64 0, .int .i64 0, .int .i64 0, .string ⟨#[]⟩, .string ⟨#[]⟩, .string ⟨#[]⟩, .int .i64 0, .slice none 0 0] := by rw [hsF]; exact R9.sets rfl
            have HWF := Lib.hid hWF; clear hWF hsF
            have q0 := RF.cell 0 _ rfl
            have q1 := RF.cell 1 _ rfl
            have q2 := RF.cell 2 _ rfl
            have q3 := RF.cell 3 _ rfl
            have q4 := RF.cell 4 _ rfl
            have q5 := RF.cell 5 _ rfl
            have q6 := RF.cell 6 _ rfl
            have q7 := RF.cell 7 _ rfl
            have hsz := cF.size
            have hBF : Below w.heap.size w WF := cF.belowB (bthen hB hb9) (by omega) (fun k hk => by have hk : k = _ := hk; omega)
            clear cF RF R9 hown
            repeat (first | rw [← HWF.out] | go_values | go_skip | go_guarded | go_step | go_upon | (simp only []; go_at_K))
            refine bodyPost_ret (v := .tuple #[.agg #[.int .i64 0, .int .i64 0, .int .i64 0, .string ⟨#[]⟩, .string ⟨#[]⟩, .string ⟨#[]⟩, .int .i64 0, .slice none 0 0], .bool false]) (by simp [results, Try.results87, go_sem, q0, q1, q2, q3, q4, q5, q6, q7]) rfl ?_
            rw [HRR.out, HRB.out]
            exact ⟨⟨none, 0, 0, [], rfl, StrO.nil, List.nodup_nil, fun b hb => by cases hb⟩, hBF⟩
        · rcases hk with rfl | ⟨rfl, hte⟩ | ⟨rfl, hte, g1⟩
          · clear hX hX1 hcV e0 e1 e2 e3 e4 e5 e6 e7
            obtain ⟨WF, hWF⟩ : ∃ W, W = ((((((((wr.setCell ⟨w.heap.size, 0, none⟩ (.int .i64 0)).setCell ⟨w.heap.size, 1, none⟩ (.int .i64 0)).setCell ⟨w.heap.size, 2, none⟩ (.int .i64 0)).setCell ⟨w.heap.size, 3, none⟩ (.string ⟨#[]⟩)).setCell ⟨w.heap.size, 4, none⟩ (.string ⟨#[]⟩)).setCell ⟨w.heap.size, 5, none⟩ (.string ⟨#[]⟩)).setCell ⟨w.heap.size, 6, none⟩ (.int .i64 0)).setCell ⟨w.heap.size, 7, none⟩ (.slice none 0 0)) := ⟨_, rfl⟩
            have hsF : WF = setsW wr w.heap.size 0 [.int .i64 0, .int .i64 0, .int .i64 0, .string ⟨#[]⟩, .string ⟨#[]⟩, .string ⟨#[]⟩, .int .i64 0, .slice none 0 0] := hWF
            have cF : Ch (fun b => b = w.heap.size) wr WF := by rw [hsF]; exact ch_setsW _ _ _
            have RF : BoxL WF w.heap.size [.int .i64 0, .int .i64 0, .int .i64 0, .string ⟨#[]⟩, .string ⟨#[]⟩, .string ⟨#[]⟩, .int .i64 0, .slice none 0 0] := by rw [hsF]; exact R.sets rfl
            have HWF := Lib.hid hWF; clear hWF hsF
            have q0 := RF.cell 0 _ rfl
            have q1 := RF.cell 1 _ rfl
            have q2 := RF.cell 2 _ rfl
            have q3 := RF.cell 3 _ rfl
            have q4 := RF.cell 4 _ rfl
            have q5 := RF.cell 5 _ rfl
            have q6 := RF.cell 6 _ rfl
            have q7 := RF.cell 7 _ rfl
            have hsz := cF.size
            have hBF : Below w.heap.size w WF := cF.belowB hB (by omega) (fun k hk => by have hk : k = _ := hk; omega)
            clear cF RF R hown
            repeat (first | rw [← HWF.out] | go_values | go_skip | go_guarded | go_step | go_upon | (simp only []; go_at_K))
            refine bodyPost_ret (v := .tuple #[.agg #[.int .i64 0, .int .i64 0, .int .i64 0, .string ⟨#[]⟩, .string ⟨#[]⟩, .string ⟨#[]⟩, .int .i64 0, .slice none 0 0], .bool false]) (by simp [results, Try.results87, go_sem, q0, q1, q2, q3, q4, q5, q6, q7]) rfl ?_
            rw [HRR.out, HRB.out]
            exact ⟨⟨none, 0, 0, [], rfl, StrO.nil, List.nodup_nil, fun b hb => by cases hb⟩, hBF⟩
          · clear hX hX1 hcV e0 e1 e2 e3 e4 e5 e6 e7
            obtain ⟨WF, hWF⟩ : ∃ W, W = ((((((((wr.setCell ⟨w.heap.size, 0, none⟩ (.int .i64 0)).setCell ⟨w.heap.size, 1, none⟩ (.int .i64 0)).setCell ⟨w.heap.size, 2, none⟩ (.int .i64 0)).setCell ⟨w.heap.size, 3, none⟩ (.string ⟨#[]⟩)).setCell ⟨w.heap.size, 4, none⟩ (.string ⟨#[]⟩)).setCell ⟨w.heap.size, 5, none⟩ (.string ⟨#[]⟩)).setCell ⟨w.heap.size, 6, none⟩ (.int .i64 0)).setCell ⟨w.heap.size, 7, none⟩ (.slice none 0 0)) := ⟨_, rfl⟩
            have hsF : WF = setsW wr w.heap.size 0 [.int .i64 0, .int .i64 0, .int .i64 0, .string ⟨#[]⟩, .string ⟨#[]⟩, .string ⟨#[]⟩, .int .i64 0, .slice none 0 0] := hWF
            have cF : Ch (fun b => b = w.heap.size) wr WF := by rw [hsF]; exact ch_setsW _ _ _
            have RF : BoxL WF w.heap.size [.int .i64 0, .int .i64 0, .int .i64 0, .string ⟨#[]⟩, .string ⟨#[]⟩, .string ⟨#[]⟩, .int .i64 0, .slice none 0 0] := by rw [hsF]; exact R.sets rfl
            have HWF := Lib.hid hWF; clear hWF hsF
            have q0 := RF.cell 0 _ rfl
            have q1 := RF.cell 1 _ rfl
            have q2 := RF.cell 2 _ rfl
            have q3 := RF.cell 3 _ rfl
            have q4 := RF.cell 4 _ rfl
            have q5 := RF.cell 5 _ rfl
            have q6 := RF.cell 6 _ rfl
            have q7 := RF.cell 7 _ rfl
            have hsz := cF.size
            have hBF : Below w.heap.size w WF := cF.belowB hB (by omega) (fun k hk => by have hk : k = _ := hk; omega)
            clear cF RF R hown
            repeat (first | rw [← HWF.out] | go_values | go_skip | go_guarded | go_step | go_upon | (simp only []; go_at_K))
            refine bodyPost_ret (v := .tuple #[.agg #[.int .i64 0, .int .i64 0, .int .i64 0, .string ⟨#[]⟩, .string ⟨#[]⟩, .string ⟨#[]⟩, .int .i64 0, .slice none 0 0], .bool false]) (by simp [results, Try.results87, go_sem, q0, q1, q2, q3, q4, q5, q6, q7]) rfl ?_
            rw [HRR.out, HRB.out]
            exact ⟨⟨none, 0, 0, [], rfl, StrO.nil, List.nodup_nil, fun b hb => by cases hb⟩, hBF⟩
          · skip
            go_wp2_with fail
            rw [← hcV]
            have HX := Lib.hid hX; clear hX hX1 hcV
            refine (showCmd_impl X _ _ _ _ hStr hcB).mono ?_
            rintro e w9 ⟨rfl, hb9⟩
            have e0' := keep_cell hb9 e0; clear e0
            have e1' := keep_cell hb9 e1; clear e1
            have e2' := keep_cell hb9 e2; clear e2
            have e3' := keep_cell hb9 e3; clear e3
            have e4' := keep_cell hb9 e4; clear e4
            have e5' := keep_cell hb9 e5; clear e5
            have e6' := keep_cell hb9 e6; clear e6
            have e7' := keep_cell hb9 e7; clear e7
            have R9 := R.keep hb9; clear R
            have r0' := R9.cell 0 _ rfl; clear r0
            have y0' := R9.fz 0 (by simp); clear y0
            have r1' := R9.cell 1 _ rfl; clear r1
            have y1' := R9.fz 1 (by simp); clear y1
            have r2' := R9.cell 2 _ rfl; clear r2
            have y2' := R9.fz 2 (by simp); clear y2
            have r3' := R9.cell 3 _ rfl; clear r3
            have y3' := R9.fz 3 (by simp); clear y3
            have r4' := R9.cell 4 _ rfl; clear r4
            have y4' := R9.fz 4 (by simp); clear y4
            have r5' := R9.cell 5 _ rfl; clear r5
            have y5' := R9.fz 5 (by simp); clear y5
            have r6' := R9.cell 6 _ rfl; clear r6
            have y6' := R9.fz 6 (by simp); clear y6
            have r7' := R9.cell 7 _ rfl; clear r7
            have y7' := R9.fz 7 (by simp); clear y7
            have hz9 := hb9.size
            obtain ⟨WF, hWF⟩ : ∃ W, W = ((((((((w9.setCell ⟨w.heap.size, 0, none⟩ (.int .i64 0)).setCell ⟨w.heap.size, 1, none⟩ (.int .i64 0)).setCell ⟨w.heap.size, 2, none⟩ (.int .i64 0)).setCell ⟨w.heap.size, 3, none⟩ (.string ⟨#[]⟩)).setCell ⟨w.heap.size, 4, none⟩ (.string ⟨#[]⟩)).setCell ⟨w.heap.size, 5, none⟩ (.string ⟨#[]⟩)).setCell ⟨w.heap.size, 6, none⟩ (.int .i64 0)).setCell ⟨w.heap.size, 7, none⟩ (.slice none 0 0)) := ⟨_, rfl⟩
            have hsF : WF = setsW w9 w.heap.size 0 [.int .i64 0, .int .i64 0, .int .i64 0, .string ⟨#[]⟩, .string ⟨#[]⟩, .string ⟨#[]⟩, .int .i64 0, .slice none 0 0] := hWF
            have cF : Ch (fun b => b = w.heap.size) w9 WF := by rw [hsF]; exact ch_setsW _ _ _
            have RF : BoxL WF w.heap.size [.int .i64 0, .int .i64 0, .int .i64 0, .string ⟨#[]⟩, .string ⟨#[]⟩, .string ⟨#[]⟩, .int .i64 0, .slice none 0 0] := by rw [hsF]; exact R9.sets rfl
            have HWF := Lib.hid hWF; clear hWF hsF
            have q0 := RF.cell 0 _ rfl
            have q1 := RF.cell 1 _ rfl
            have q2 := RF.cell 2 _ rfl
            have q3 := RF.cell 3 _ rfl
            have q4 := RF.cell 4 _ rfl
            have q5 := RF.cell 5 _ rfl
            have q6 := RF.cell 6 _ rfl
            have q7 := RF.cell 7 _ rfl
            have hsz := cF.size
            have hBF : Below w.heap.size w WF := cF.belowB (bthen hB hb9) (by omega) (fun k hk => by have hk : k = _ := hk; omega)
            clear cF RF R9 hown
            repeat (first | rw [← HWF.out] | go_values | go_skip | go_guarded | go_step | go_upon | (simp only []; go_at_K))
            refine bodyPost_ret (v := .tuple #[.agg #[.int .i64 0, .int .i64 0, .int .i64 0, .string ⟨#[]⟩, .string ⟨#[]⟩, .string ⟨#[]⟩, .int .i64 0, .slice none 0 0], .bool false]) (by simp [results, Try.results87, go_sem, q0, q1, q2, q3, q4, q5, q6, q7]) rfl ?_
            rw [HRR.out, HRB.out]
            exact ⟨⟨none, 0, 0, [], rfl, StrO.nil, List.nodup_nil, fun b hb => by cases hb⟩, hBF⟩
end Go.Proofs.Ytdphdnllhmnelaa
/- Texts in frames, one behind another: plain laws, frameAt, Unframe (both sides). -/
namespace Go.Proofs.Ytdphdnllhmnelaa
open Go.RowKit
attribute [local go_sem] Grow.cell Grow.frozen
/-- at place a of s a text stands in its frame -/
def isFr (s : ByteArray) (a : Nat) (t : ByteArray) : Prop := t.size ≤ 200 ∧ a + (frameT t).size ≤ s.size ∧ s.extract a (a + (frameT t).size) = frameT t
def noFr (s : ByteArray) (a : Nat) : Prop := ∀ t, ¬ isFr s a t
theorem ext_split (s : ByteArray) {a b c : Nat} (h1 : a ≤ b) (h2 : b ≤ c) : s.extract a c = s.extract a b ++ s.extract b c := by
  apply ByteArray.ext
  simp only [ByteArray.data_append, ByteArray.data_extract]
  rw [Array.extract_append_extract, Nat.min_eq_left h1, Nat.max_eq_right h2]
theorem frameT_five {t : ByteArray} (h : t.size ≤ 200) : 5 ≤ (frameT t).size := by
  have h1 := frameT_size h
  have h2 := varS_pos t.size
  omega
theorem isFr.tk {s : ByteArray} {a : Nat} {t : ByteArray} (h : isFr s a t) : tkF s ((a + 4 : Nat) : Int) = (t, ((a + (frameT t).size : Nat) : Int)) := by
  obtain ⟨h1, h2, h3⟩ := h
  have hz := frameT_size h1
  have h4 : s.extract a s.size = frameT t ++ s.extract (a + (frameT t).size) s.size := by
    rw [ext_split s (a := a) (b := a + (frameT t).size) (c := s.size) (by omega) h2, h3]
  have h5 : frameT t = fixS (crcF (szT t) : Int) 4 ++ szT t := by unfold frameT; rw [if_pos h1]
  rw [h5, ByteArray.append_assoc] at h4
  obtain ⟨h6, h7, _⟩ := ext_cut (by omega) h4
  rw [fix4_size _ (crcF_lt _)] at h6 h7
  unfold szT at h7
  rw [ByteArray.append_assoc] at h7
  obtain ⟨h8, h9, _⟩ := tk_step h6 h7 (by omega)
  rw [h8]
  congr 2
  omega
theorem isFr.same {s : ByteArray} {a : Nat} {t t' : ByteArray} (h : isFr s a t) (h' : isFr s a t') : t = t' := by
  have e := h.tk.symm.trans h'.tk
  exact (Prod.mk.inj e).1
theorem fr_of {s : ByteArray} {a e : Nat} {t : ByteArray} (ht : t.size ≤ 200) (h : frameT t = s.extract a e) (ha : a ≤ e) (he : e ≤ s.size) : isFr s a t ∧ e = a + (frameT t).size := by
  have h1 : (frameT t).size = e - a := by rw [h, ByteArray.size_extract]; omega
  have h2 : a + (frameT t).size = e := by omega
  exact ⟨⟨ht, by omega, by rw [h2, h]⟩, h2.symm⟩
theorem isFr_ext {s : ByteArray} {a : Nat} (ha : a ≤ s.size) (t : ByteArray) : isFr (s.extract a s.size) 0 t ↔ isFr s a t := by
  have hz : (s.extract a s.size).size = s.size - a := by rw [ByteArray.size_extract]; omega
  unfold isFr
  rw [hz, Nat.zero_add]
  constructor
  · rintro ⟨h1, h2, h3⟩
    exact ⟨h1, by omega, by rw [ext_ext0 s (by omega)] at h3; exact h3⟩
  · rintro ⟨h1, h2, h3⟩
    exact ⟨h1, by omega, by rw [ext_ext0 s (by omega)]; exact h3⟩
theorem noFr_ext {s : ByteArray} {a : Nat} (ha : a ≤ s.size) (h : noFr (s.extract a s.size) 0) : noFr s a := fun t ht => h t ((isFr_ext ha t).2 ht)
/-- the texts stand in their frames from the start of s up to a place -/
def frs (s : ByteArray) (ts : List ByteArray) (a : Nat) : Prop := a ≤ s.size ∧ s.extract 0 a = chL (ts.map frameT) ∧ (∀ t ∈ ts, t.size ≤ 200) ∧ 5 * ts.length ≤ a
theorem frs.nil (s : ByteArray) : frs s [] 0 := ⟨Nat.zero_le _, by
  apply ByteArray.ext
  simp [chL], fun t h => (by cases h), by simp⟩
theorem frs.snoc {s : ByteArray} {ts : List ByteArray} {a : Nat} {t : ByteArray} (h : frs s ts a) (ht : isFr s a t) : frs s (ts ++ [t]) (a + (frameT t).size) := by
  obtain ⟨h1, h2, h3, h4⟩ := h
  obtain ⟨k1, k2, k3⟩ := ht
  have h5 := frameT_five k1
  refine ⟨k2, ?_, ?_, by rw [List.length_append]; simp only [List.length_cons, List.length_nil]; omega⟩
  · rw [ext_split s (Nat.zero_le a) (Nat.le_add_right a _), h2, k3, List.map_append, chL_app]
    simp [chL]
  · intro x hx
    rcases List.mem_append.1 hx with hx | hx
    · exact h3 x hx
    · rw [List.mem_singleton.1 hx]; exact k1
/-- all frames from the start on -/
def unfr (s : ByteArray) (ts : List ByteArray) (a : Nat) : Prop := frs s ts a ∧ noFr s a
attribute [local irreducible] varS frameT textF tkF
set_option maxRecDepth 8000 in
theorem frameAt_impl (u : ByteArray) (w : World) (hu : u.size ≤ 1048576) :
    Calls Try.prog 150 #[.string u] w fun e w' => ((∃ t, isFr u 0 t ∧ e = .returned (.tuple #[.string t, .bool true])) ∨ (noFr u 0 ∧ e = .returned (.tuple #[.string ByteArray.empty, .bool false]))) ∧ Below w.heap.size w w' := by
  by_cases h5 : u.size < 5
  · have hlt : (u.size : Int) < 5 := by omega
    have HN := Lib.hid (show noFr u 0 from fun t ht => by have := ht.2.1; have := frameT_five ht.1; omega)
    go_enter Try.func150, Try.ntmps150
    go_wp2
    go_returns
    exact ⟨.inr ⟨HN.out, rfl⟩, Below.refl _ _⟩
  · have hlt : ¬ (u.size : Int) < 5 := by omega
    have al := (Below.refl w.heap.size w).alloc (Nat.le_refl _) (.cells #[.string (u.extract 4 u.size), .bool false] 119)
    have hxs : (u.extract 4 u.size).size ≤ 1048576 := by rw [ByteArray.size_extract]; omega
    have S : Scn (w.alloc (.cells #[.string (u.extract 4 u.size), .bool false] 119)) w.heap.size (TT u 4) := ⟨by simp [go_sem, TT], by simp [go_sem, TT], by simp [go_sem], by simp [go_sem], by simp only [TT]; omega⟩
    have hq := textF_cost (TT u 4)
    have hts : (TT u 4).1.size ≤ 1048576 := hxs
    go_enter Try.func150, Try.ntmps150
    go_wp2_with fail
    refine (text_impl _ _ _ S).mono ?_
    rintro e w1 ⟨rfl, S1, c1⟩
    have hB := c1.belowB al (by simp) (fun k hk => by have hk : k = _ := hk; omega)
    have hcase := tkT (s := u) (a := 4) (by omega)
    obtain ⟨⟨p, x1⟩, f1⟩ : ∃ r, textF (TT u 4) = r := ⟨_, rfl⟩
    rw [f1] at S1 hcase hq ⊢
    simp only at S1 hcase hq ⊢
    have hps : p.size ≤ 1048576 := by omega
    clear f1 S c1 al
    go_wp2_with fail
    refine (frame_impl p _ (by omega)).mono ?_
    rintro e w2 ⟨rfl, hb2⟩
    have S2 := S1.keep hb2
    have hB2 := bthen hB hb2
    clear S1 hB
    obtain ⟨rest, bad⟩ := x1
    have b1 := S2.c1
    have hgl := S2.lt
    simp only at b1
    have hfl := frameT_le p
    have hte := isEmpty_str (frameT p)
    rcases hcase with ⟨hc, rfl⟩ | ⟨p', e', hc, hae, hes, hpe⟩
    · have HN := Lib.hid (show noFr u 0 from fun t ht => by
        have := ht.tk
        rw [Nat.zero_add] at this
        have e := this.symm.trans hc
        simp only [Prod.mk.injEq] at e
        omega)
      clear hte
      go_wp2
      go_returns
      exact ⟨.inr ⟨HN.out, rfl⟩, hB2⟩
    · simp only [Prod.mk.injEq, TT] at hpe
      obtain ⟨rfl, -, rfl⟩ := hpe
      have key : ∀ t, isFr u 0 t → t = p := fun t ht => by
        have := ht.tk
        rw [Nat.zero_add] at this
        exact (Prod.mk.inj (this.symm.trans hc)).1
      have KEY := Lib.hid key; clear key hc hae hes hq
      by_cases h200 : p.size ≤ 200
      · have hne := frameT_ne h200
        rw [decide_eq_false hne] at hte
        have H2 := Lib.hid h200
        obtain ⟨f, hf⟩ : ∃ f, frameT p = f := ⟨_, rfl⟩
        have HF := Lib.hid hf
        rw [hf] at hte hfl ⊢
        clear hne hf h200
        by_cases hle : f.size ≤ u.size
        · have gle : ¬ ((u.size : Int) < (f.size : Int)) := by omega
          have hsb := str_beq (u.extract 0 f.size) f
          by_cases hx : u.extract 0 f.size = f
          · rw [decide_eq_true hx] at hsb
            have HN := Lib.hid (show isFr u 0 p from ⟨H2.out, by rw [HF.out]; omega, by rw [HF.out, Nat.zero_add]; exact hx⟩)
            clear hx
            go_wp2
            go_returns
            exact ⟨.inl ⟨p, HN.out, rfl⟩, hB2⟩
          · rw [decide_eq_false hx] at hsb
            have HN := Lib.hid (show noFr u 0 from fun t ht => by
              have e := KEY.out t ht
              subst e
              have h3 := ht.2.2
              rw [HF.out, Nat.zero_add] at h3
              exact hx h3)
            clear hx
            go_wp2
            go_returns
            exact ⟨.inr ⟨HN.out, rfl⟩, hB2⟩
        · have gle : (u.size : Int) < (f.size : Int) := by omega
          have HN := Lib.hid (show noFr u 0 from fun t ht => by
            have e := KEY.out t ht
            subst e
            have h3 := ht.2.1
            rw [HF.out] at h3
            omega)
          go_wp2
          go_returns
          exact ⟨.inr ⟨HN.out, rfl⟩, hB2⟩
      · have hne := frameT_no (s := p) (by omega)
        rw [decide_eq_true hne] at hte
        have HN := Lib.hid (show noFr u 0 from fun t ht => by
          have e := KEY.out t ht
          subst e
          exact h200 ht.1)
        obtain ⟨f, hf⟩ : ∃ f, frameT p = f := ⟨_, rfl⟩
        rw [hf] at hte hfl ⊢
        clear hne hf h200
        go_wp2
        go_returns
        exact ⟨.inr ⟨HN.out, rfl⟩, hB2⟩
end Go.Proofs.Ytdphdnllhmnelaa
/- Contracts of Unframe, both sides. -/
namespace Go.Proofs.Ytdphdnllhmnelaa
open Go.RowKit
attribute [local go_sem] Grow.cell Grow.frozen
theorem tk_ge {s t : ByteArray} {a e : Nat} (h : tkF s (a : Int) = (t, (e : Int))) : a ≤ e := by
  by_cases ha : a ≤ s.size
  · rcases tkT ha with ⟨h1, _⟩ | ⟨p, e', h1, h2, _⟩
    · rw [h] at h1; simp only [Prod.mk.injEq] at h1; omega
    · rw [h] at h1; simp only [Prod.mk.injEq, Int.natCast_inj] at h1; omega
  · rw [tkF_no (vsF_no (.inr (.inl (by omega))))] at h
    simp only [Prod.mk.injEq] at h; omega
attribute [local irreducible] varS frameT textF tkF
set_option maxRecDepth 8000 in
set_option maxHeartbeats 2000000 in
theorem unframe_impl (s : ByteArray) (w : World) (hs : s.size ≤ 1048576) :
    Calls Try.prog 104 #[.string s] w fun e w' => (∃ (ts : List ByteArray) (a : Nat) (O : Option Addr) (cap : Nat), e = .returned (.tuple #[.slice O ts.length cap, .int .i64 (a : Int)]) ∧ unfr s ts a ∧ w'.ownsRow w.heap.size 9 1 (.slice O ts.length cap) ts.length (ts.map Value.string)) ∧ Below w.heap.size w w' := by
  have al := (Below.refl w.heap.size w).alloc (Nat.le_refl _) (.cells #[] 9)
  have hO := own_empty w 9 1 (Nat.le_refl w.heap.size)
  go_enter Try.func104, Try.ntmps104
  go_wp2_with fail
  go_loopw [4, 5] (fun o p wr => ∃ (ts : List ByteArray) (a : Nat) (O : Option Addr) (cap : Nat), o = .slice O ts.length cap ∧ p = .int .i64 (a : Int) ∧ frs s ts a ∧ wr.ownsRow w.heap.size 9 1 (.slice O ts.length cap) ts.length (ts.map Value.string) ∧ Below w.heap.size w wr) (fun _ p _ => s.size - (intOf p).toNat)
  case atStart => exact ⟨[], 0, _, _, rfl, rfl, frs.nil s, by simpa using hO, al⟩
  case round =>
    obtain ⟨ts, a, O, cap, rfl, rfl, hf, own, hbr⟩ := hrel
    have ha := hf.1
    have hl := hf.2.2.2
    have HF := Lib.hid hf; clear hf al hO
    have hxs : (s.extract a s.size).size ≤ 1048576 := by rw [ByteArray.size_extract]; omega
    go_wp2_with fail
    refine (frameAt_impl (s.extract a s.size) _ hxs).mono ?_
    rintro e w1 ⟨h, hb1⟩
    have hbr' := bthen hbr hb1; clear hbr; have hbr := hbr'; clear hbr'
    have own' := own_chL own (Ch.of_below (S := fun _ => False) hb1) (fun _ _ h => h); clear own; have own := own'; clear own'
    rcases h with ⟨t, ht, rfl⟩ | ⟨hn, rfl⟩
    · have HT := Lib.hid ((isFr_ext ha t).1 ht); clear ht
      have hz := hbr.size
      have H5 := Lib.hid (frameT_five HT.out.1)
      have hts := HT.out.2.1
      have hft : t.size ≤ 16777216 := by have := HT.out.1; omega
      go_wp2_with (first | (at_builtin; refine wpList_app1g (P := Try.prog) w1 rfl (.tmp 20) (.tmp 22) 38 rfl w.heap.size 9 _ 1 16 Try.underlying38 infoString rfl (by omega) (.slice O _ cap) _ _ rfl own #[.string t] _ rfl (by simp) rfl (by simp [Value.oneCell']) (by unfold maxLen; omega) (by omega) hz ?_; intro A' c' w2 own2 hg2 hb2 _; refine stop_of ?_) | fail)
      unfold Stop
      go_wp2_with fail
      refine (frame_impl t _ hft).mono ?_
      rintro e w3 ⟨rfl, hb3⟩
      have own3 := own_chL own2 (Ch.of_below (S := fun _ => False) hb3) (fun _ _ h => h)
      go_wp2
      refine ⟨⟨ts ++ [t], a + (frameT t).size, A', c', by simp, by go_num, HF.out.snoc HT.out, by simpa using own3, bthen (hbr.trans hb2) hb3⟩, by simp [intOf]; have := H5.out; omega⟩
    · have HN := Lib.hid (noFr_ext ha hn); clear hn
      go_wp2
      go_returns
      exact ⟨⟨ts, a, O, cap, rfl, ⟨HF.out, HN.out⟩, own⟩, hbr⟩
set_option maxRecDepth 8000 in
set_option maxHeartbeats 2000000 in
theorem unframe_spec (s : ByteArray) (w : World) (hs : s.size ≤ 1048576) :
    Calls Try.prog 103 #[.string s] w fun e w' => (∃ (ts : List ByteArray) (a : Nat) (O : Option Addr) (cap : Nat), e = .returned (.tuple #[.slice O ts.length cap, .int .i64 (a : Int)]) ∧ unfr s ts a ∧ w'.ownsRow w.heap.size 9 1 (.slice O ts.length cap) ts.length (ts.map Value.string)) ∧ Below w.heap.size w w' := by
  have al := (Below.refl w.heap.size w).alloc (Nat.le_refl _) (.cells #[] 9)
  have hO := own_empty w 9 1 (Nat.le_refl w.heap.size)
  go_enter Try.func103, Try.ntmps103
  go_wp2_with fail
  go_loopw [4, 5] (fun o p wr => ∃ (ts : List ByteArray) (a : Nat) (O : Option Addr) (cap : Nat), o = .slice O ts.length cap ∧ p = .int .i64 (a : Int) ∧ frs s ts a ∧ wr.ownsRow w.heap.size 9 1 (.slice O ts.length cap) ts.length (ts.map Value.string) ∧ Below w.heap.size w wr) (fun _ p _ => s.size - (intOf p).toNat)
  case atStart => exact ⟨[], 0, _, _, rfl, rfl, frs.nil s, by simpa using hO, al⟩
  case round =>
    obtain ⟨ts, a, O, cap, rfl, rfl, hf, own, hbr⟩ := hrel
    have ha := hf.1
    have hl := hf.2.2.2
    have HF := Lib.hid hf; clear hf al hO
    have hk := tkF_in s ((a : Int) + 4)
    go_wp2_with fail
    refine (l4Take_spec s ((a : Int) + 4) _ (by omega) (by omega) (by omega)).mono ?_
    rintro e w1 ⟨rfl, hb1⟩
    have hbr' := bthen hbr hb1; clear hbr; have hbr := hbr'; clear hbr'
    have own' := own_chL own (Ch.of_below (S := fun _ => False) hb1) (fun _ _ h => h); clear own; have own := own'; clear own'
    obtain ⟨⟨t, p⟩, f1⟩ : ∃ r, tkF s ((a : Int) + 4) = r := ⟨_, rfl⟩
    rw [f1] at hk ⊢; simp only at hk
    have f1' : tkF s ((a + 4 : Nat) : Int) = (t, p) := f1
    have hft : t.size ≤ 16777216 := by omega
    have hte := isEmpty_str (frameT t)
    have hfl := frameT_le t
    by_cases hp : p < 0
    · have HN := Lib.hid (show noFr s a from fun t' ht => by
        have e := ht.tk.symm.trans f1'
        simp only [Prod.mk.injEq] at e; omega)
      have gp : decide (p < 0) = true := decide_eq_true hp
      clear f1 f1' hte
      go_wp2
      refine wp_region_grow (by kernel_rfl) (by kernel_rfl) ?_
      repeat (first | go_big_quiet_step ((go_at_call 96; exact grow_of (frame_spec t _ hft))))
      refine wpQuiet_nil ?_
      intro _ hw'
      obtain ⟨⟨w4, hb4⟩, hw''⟩ := hw'
      change _ = w4 at hw''
      subst hw''
      have own' := own_chL own (Ch.of_below (S := fun _ => False) hb4) (fun _ _ h => h)
      go_wp2
      go_returns
      exact ⟨⟨ts, a, O, cap, rfl, ⟨HF.out, HN.out⟩, own'⟩, bthen hbr hb4⟩
    · obtain ⟨e1, rfl⟩ : ∃ e : Nat, p = e := ⟨p.toNat, by omega⟩
      have hge := tk_ge f1'
      have he1 : e1 ≤ s.size := by omega
      have hae : a ≤ e1 := by omega
      have gp : decide ((e1 : Int) < 0) = false := decide_eq_false (by omega)
      have key : ∀ t', isFr s a t' → t' = t ∧ e1 = a + (frameT t').size := fun t' ht => by
        have e := ht.tk.symm.trans f1'
        simp only [Prod.mk.injEq, Int.natCast_inj] at e; exact ⟨e.1, e.2.symm⟩
      have KEY := Lib.hid key; clear key
      by_cases h200 : t.size ≤ 200
      · have hne := frameT_ne h200
        rw [decide_eq_false hne] at hte
        have hsb := str_beq (frameT t) (s.extract a e1)
        have hxz : (s.extract a e1).size ≤ 1048576 := by rw [ByteArray.size_extract]; omega
        by_cases hx : frameT t = s.extract a e1
        · rw [decide_eq_true hx] at hsb
          have HT := Lib.hid (fr_of h200 hx hae he1).1
          have HE := Lib.hid (fr_of h200 hx hae he1).2
          clear hx hne h200 f1 f1' KEY hge hfl
          go_wp2
          refine wp_region_grow (by kernel_rfl) (by kernel_rfl) ?_
          repeat (first | go_big_quiet_step ((go_at_call 96; exact grow_of (frame_spec t _ hft))))
          refine wpQuiet_nil ?_
          intro _ hw'
          obtain ⟨⟨w4, hb4⟩, hw''⟩ := hw'
          change _ = w4 at hw''
          subst hw''
          have own' := own_chL own (Ch.of_below (S := fun _ => False) hb4) (fun _ _ h => h); clear own; have own := own'; clear own'
          have hbr' := bthen hbr hb4; clear hbr; have hbr := hbr'; clear hbr'
          clear hsb hte hb4
          have hz := hbr.size
          have H5 := Lib.hid (frameT_five HT.out.1)
          have hts := HT.out.2.1
          go_wp2_with (first | (at_builtin; refine wpList_app1g (P := Try.prog) _ rfl (.tmp 34) (.tmp 36) 38 rfl w.heap.size 9 _ 1 16 Try.underlying38 infoString rfl (by omega) (.slice O _ cap) _ _ rfl own #[.string t] _ rfl (by simp) rfl (by simp [Value.oneCell']) (by unfold maxLen; omega) (by omega) hz ?_; intro A' c' w5 own2 hg2 hb2 _) | fail)
          refine ⟨⟨ts ++ [t], a + (frameT t).size, A', c', by simp, by rw [← HE.out], HF.out.snoc HT.out, by simpa using own2, hbr.trans hb2⟩, by simp [intOf]; have := H5.out; have := HE.out; omega⟩
        · rw [decide_eq_false hx] at hsb
          have HN := Lib.hid (show noFr s a from fun t' ht => by
            obtain ⟨rfl, k2⟩ := KEY.out t' ht
            exact hx (by rw [k2]; exact ht.2.2.symm))
          clear hx hne h200 f1 f1' KEY hge hfl
          go_wp2
          refine wp_region_grow (by kernel_rfl) (by kernel_rfl) ?_
          repeat (first | go_big_quiet_step ((go_at_call 96; exact grow_of (frame_spec t _ hft))))
          refine wpQuiet_nil ?_
          intro _ hw'
          obtain ⟨⟨w4, hb4⟩, hw''⟩ := hw'
          change _ = w4 at hw''
          subst hw''
          have own' := own_chL own (Ch.of_below (S := fun _ => False) hb4) (fun _ _ h => h)
          go_wp2
          go_returns
          exact ⟨⟨ts, a, O, cap, rfl, ⟨HF.out, HN.out⟩, own'⟩, bthen hbr hb4⟩
      · have hne := frameT_no (s := t) (by omega)
        rw [decide_eq_true hne] at hte
        have HN := Lib.hid (show noFr s a from fun t' ht => by
          obtain ⟨rfl, k2⟩ := KEY.out t' ht
          exact h200 ht.1)
        clear hne h200 f1 f1' KEY hge hfl
        go_wp2
        refine wp_region_grow (by kernel_rfl) (by kernel_rfl) ?_
        repeat (first | go_big_quiet_step ((go_at_call 96; exact grow_of (frame_spec t _ hft))))
        refine wpQuiet_nil ?_
        intro _ hw'
        obtain ⟨⟨w4, hb4⟩, hw''⟩ := hw'
        change _ = w4 at hw''
        subst hw''
        have own' := own_chL own (Ch.of_below (S := fun _ => False) hb4) (fun _ _ h => h)
        go_wp2
        go_returns
        exact ⟨⟨ts, a, O, cap, rfl, ⟨HF.out, HN.out⟩, own'⟩, bthen hbr hb4⟩
end Go.Proofs.Ytdphdnllhmnelaa
/- Is an instance right: the reference's l8Inst. -/
namespace Go.Proofs.Ytdphdnllhmnelaa
open Go.RowKit
attribute [local irreducible] StrR RowR cmOkB iddOkB idsOkB hasId inB
set_option maxRecDepth 8000 in
set_option maxHeartbeats 8000000 in
theorem instOk_spec (x : Ins) (A1 : Option Addr) (n1 c1 : Nat) (A2 : Option Addr) (n2 c2 : Nat) (w : World) (h1 : StrR w A1 n1 c1 x.cmd.ch) (h2 : RowR iddR 2 w A2 n2 c2 x.deps) (hb1 : cmB x.cmd) (hb2 : iddsB x.deps) :
    Calls Try.prog 69 #[insV x (.slice A1 n1 c1) (.slice A2 n2 c2)] w fun e w' => e = .returned (.bool (insOkB x)) ∧ Below w.heap.size w w' := by
  have HL := Lib.hid h2.len
  have hn2 : n2 ≤ 9223372036854775807 := by have := h2.len; unfold iddsB at hb2; omega
  obtain ⟨q0, hq0⟩ : ∃ q, iddOkB x.id = q := ⟨_, rfl⟩
  obtain ⟨q1, hq1⟩ : ∃ q, inB x.bal (-1) 600 = q := ⟨_, rfl⟩
  obtain ⟨q2, hq2⟩ : ∃ q, inB x.vb (-1) x.bal = q := ⟨_, rfl⟩
  obtain ⟨q3, hq3⟩ : ∃ q, inB x.st 0 3 = q := ⟨_, rfl⟩
  obtain ⟨q4, hq4⟩ : ∃ q, cmOkB x.cmd = q := ⟨_, rfl⟩
  obtain ⟨q5, hq5⟩ : ∃ q, inB x.seq 0 60 = q := ⟨_, rfl⟩
  obtain ⟨q6, hq6⟩ : ∃ q, idsOkB x.deps = q := ⟨_, rfl⟩
  obtain ⟨q7, hq7⟩ : ∃ q, hasId x.deps x.id = q := ⟨_, rfl⟩
  have HV := Lib.hid (show insOkB x = (q0 && q1 && q2 && q3 && q4 && q5 && q6 && !q7 && insTail x) by unfold insOkB; rw [hq0, hq1, hq2, hq3, hq4, hq5, hq6, hq7])
  have Q0 := Lib.hid hq0; clear hq0
  have Q1 := Lib.hid hq1; clear hq1
  have Q2 := Lib.hid hq2; clear hq2
  have Q3 := Lib.hid hq3; clear hq3
  have Q4 := Lib.hid hq4; clear hq4
  have Q5 := Lib.hid hq5; clear hq5
  have Q6 := Lib.hid hq6; clear hq6
  have Q7 := Lib.hid hq7; clear hq7
  unfold insV
  go_enter Try.func69, Try.ntmps69
  go_wp2_with fail
  refine (l8Id_any x.id _).mono ?_
  rintro e w1 ⟨rfl, hb11⟩
  obtain ⟨hc0, hf0⟩ := bcell hb11
  have hz0 := hb11.size
  try simp at hz0
  have hB0 : Below w.heap.size w w1 := bthen (by go_grown) hb11
  have hzz0 : w.heap.size < w1.heap.size := by omega
  rw [Q0.out]
  cases q0
  · go_wp2
    go_returns
    exact ⟨ret_bool (by rw [HV.out]; simp), hB0⟩
  · skip
    go_wp2_with fail
    refine (l1In_any _ _ _ _).mono ?_
    rintro e w' ⟨rfl, rfl⟩
    rw [Q1.out]
    cases q1
    · go_wp2
      go_returns
      exact ⟨ret_bool (by rw [HV.out]; simp), hB0⟩
    · skip
      go_wp2_with fail
      refine (l1In_any _ _ _ _).mono ?_
      rintro e w' ⟨rfl, rfl⟩
      rw [Q2.out]
      cases q2
      · go_wp2
        go_returns
        exact ⟨ret_bool (by rw [HV.out]; simp), hB0⟩
      · skip
        go_wp2_with fail
        refine (l1In_any _ _ _ _).mono ?_
        rintro e w' ⟨rfl, rfl⟩
        rw [Q3.out]
        cases q3
        · go_wp2
          go_returns
          exact ⟨ret_bool (by rw [HV.out]; simp), hB0⟩
        · skip
          go_wp2_with fail
          refine (cmdOk_spec x.cmd _ _ _ _ (h1.keep hB0) hb1).mono ?_
          rintro e w5 ⟨rfl, hb15⟩
          obtain ⟨hc4, hf4⟩ := bcell hb15
          have hz4 := hb15.size
          try simp at hz4
          have hB4 : Below w.heap.size w w5 := bthen hB0 hb15
          have hzz4 : w.heap.size < w5.heap.size := by omega
          rw [Q4.out]
          cases q4
          · go_wp2
            go_returns
            exact ⟨ret_bool (by rw [HV.out]; simp), hB4⟩
          · skip
            go_wp2_with fail
            refine (l1In_any _ _ _ _).mono ?_
            rintro e w' ⟨rfl, rfl⟩
            rw [Q5.out]
            cases q5
            · go_wp2
              go_returns
              exact ⟨ret_bool (by rw [HV.out]; simp), hB4⟩
            · skip
              go_wp2_with fail
              refine (idsOk_spec x.deps _ _ _ _ (h2.keep iddK hB4) hb2).mono ?_
              rintro e w7 ⟨rfl, hb17⟩
              obtain ⟨hc6, hf6⟩ := bcell hb17
              have hz6 := hb17.size
              try simp at hz6
              have hB6 : Below w.heap.size w w7 := bthen hB4 hb17
              have hzz6 : w.heap.size < w7.heap.size := by omega
              rw [Q6.out]
              cases q6
              · go_wp2
                go_returns
                exact ⟨ret_bool (by rw [HV.out]; simp), hB6⟩
              · skip
                go_wp2_with fail
                refine (l8Has_any x.deps x.id _ _ _ _ (h2.keep iddK hB6) hb2).mono ?_
                rintro e w8 ⟨rfl, hb18⟩
                obtain ⟨hc7, hf7⟩ := bcell hb18
                have hz7 := hb18.size
                try simp at hz7
                have hB7 : Below w.heap.size w w8 := bthen hB6 hb18
                have hzz7 : w.heap.size < w8.heap.size := by omega
                rw [Q7.out]
                cases q7
                · have HT := Lib.hid (show insOkB x = insTail x by rw [HV.out]; simp)
                  by_cases t0 : x.st = 0
                  · have T := Lib.hid (show insTail x = (x.vb == -1 && x.cmd.kd == 0 && x.seq == 0 && x.deps.length == 0 && !x.same) by unfold insTail; simp [t0])
                    have g0 : (x.st == 0) = true := by simp [t0]
                    have g00 : (x.st != 0) = false := by simp [t0]
                    clear t0
                    obtain ⟨r1, e1⟩ : ∃ q, (x.vb == -1) = q := ⟨_, rfl⟩
                    obtain ⟨r2, e2⟩ : ∃ q, (x.cmd.kd == 0) = q := ⟨_, rfl⟩
                    obtain ⟨r3, e3⟩ : ∃ q, (x.seq == 0) = q := ⟨_, rfl⟩
                    obtain ⟨r4, e4⟩ : ∃ q, ((n2 : Int) == 0) = q := ⟨_, rfl⟩
                    obtain ⟨r5, e5⟩ : ∃ q, x.same = q := ⟨_, rfl⟩
                    have T2 := Lib.hid (show insTail x = (r1 && r2 && r3 && r4 && !r5) by rw [T.out, e1, e2, e3, e5, ← e4, HL.out]; congr 2; exact beq_bool (by simp only [beq_iff_eq]; omega))
                    clear T
                    cases r1
                    · go_wp2
                      go_returns
                      exact ⟨ret_bool (by rw [HT.out, T2.out]; simp), hB7⟩
                    · skip
                      cases r2
                      · go_wp2
                        go_returns
                        exact ⟨ret_bool (by rw [HT.out, T2.out]; simp), hB7⟩
                      · skip
                        cases r3
                        · go_wp2
                          go_returns
                          exact ⟨ret_bool (by rw [HT.out, T2.out]; simp), hB7⟩
                        · skip
                          cases r4
                          · go_wp2
                            go_returns
                            exact ⟨ret_bool (by rw [HT.out, T2.out]; simp), hB7⟩
                          · skip
                            cases r5
                            · go_wp2
                              go_returns
                              exact ⟨ret_bool (by rw [HT.out, T2.out]; simp), hB7⟩
                            · go_wp2
                              go_returns
                              exact ⟨ret_bool (by rw [HT.out, T2.out]; simp), hB7⟩
                  · have T := Lib.hid (show insTail x = true by unfold insTail; simp [t0])
                    have g0 : (x.st == 0) = false := by simp [t0]
                    have g00 : (x.st != 0) = true := by simp [t0]
                    clear t0
                    go_wp2
                    go_returns
                    exact ⟨ret_bool (by rw [HT.out, T.out]), hB7⟩
                · go_wp2
                  go_returns
                  exact ⟨ret_bool (by rw [HV.out]; simp), hB7⟩
end Go.Proofs.Ytdphdnllhmnelaa
