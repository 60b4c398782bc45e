/- Contracts and lemmas: DrawL, DrawB, Full. -/
import Derived.Test.YtdphdnllhmnelaaJ30
import Derived.Test.YtdphdnllhmnelaaJ23
import Derived.Test.YtdphdnllhmnelaaJ21
import Derived.Test.YtdphdnllhmnelaaJ29
import Derived.Test.YtdphdnllhmnelaaJ17
import Derived.Test.YtdphdnllhmnelaaJ7
import Derived.Test.YtdphdnllhmnelaaJ6
/- The draws of lists of commands: l34Cmds, DrawBatches. -/
namespace Go.Proofs.Ytdphdnllhmnelaa
open Go.RowKit
attribute [local irreducible] StrsAt StrR StrO RowR RowO

/-- a drawn list of commands -/
def CmsDraw (w : World) (g : Nat) (e : Ending) (w' : World) : Prop :=
  ∃ (l : List Cm) (A : Option Addr) (n c : Nat) (fp : List Nat), e = .returned (.slice A n c) ∧ l.length ≤ 9 ∧ (∀ x ∈ l, smC 4 x) ∧ RowO cmF 47 8 fp w' A n c l ∧ fp.Nodup ∧ (∀ b ∈ fp, w.heap.size ≤ b) ∧ Cur w' g ∧ Ch (fun k => k = g) w w'
def pickY : List ByteArray := [⟨#[97]⟩, ⟨#[98]⟩, ⟨#[97, 98]⟩, ⟨#[99]⟩]
theorem pickY_le (i : Nat) : (sAt pickY i).size ≤ 9 := sAt_le (by decide) i
theorem cmF_of {f : List Nat} {w : World} {A : Option Addr} {n c : Nat} {y : Cm} (h : StrO f w A n c y.ch) : cmF f w (cmL y (.slice A n c)) y := ⟨A, n, c, f, rfl, rfl, h⟩
/-- a drawn command behind the list -/
theorem cms_one {w w7 : World} {g : Nat} {l : List Cm} {x : Cm} {P A P3 : Option Addr} {N cp n c cp3 m B : Nat} {css : List (List Value)} {fps : List (List Nat)} {f : List Nat} (hl : N = l.length) (E : Els cmF w css fps l) (hN : (blkL P ++ fps.flatten).Nodup)
    (hF : ∀ b ∈ blkL P ++ fps.flatten, B ≤ b) (so : StrO f w A n c x.ch) (hn2 : f.Nodup) (s : Nat) (h1 : ∀ b ∈ blkL P ++ fps.flatten, b < s) (h2 : ∀ b ∈ f, s ≤ b) (hBs : B ≤ s)
    (own3 : w7.ownsRow 0 47 8 (.slice P3 (N + 1) cp3) (N + 1) (css.flatten ++ cmL x (.slice A n c))) (hg3 : w.grownBy w7 (Value.slice P N cp).ownBlock)
    (hob3 : (Value.slice P3 (N + 1) cp3).ownBlock = (Value.slice P N cp).ownBlock ∨ (Value.slice P3 (N + 1) cp3).ownBlock = some m) (hm : w.heap.size ≤ m) (hBm : B ≤ m) (hc : Cur w g) (hgB : g < B) :
    ∃ fp', RowO cmF 47 8 fp' w7 P3 (N + 1) cp3 (l ++ [x]) ∧ fp'.Nodup ∧ (∀ b ∈ fp', B ≤ b) ∧ Cur w7 g ∧ Ch (fun b => B ≤ b) w w7 := by
  have hNN : ((blkL P ++ fps.flatten) ++ f).Nodup := nodup_new (m := s) hN hn2 h1 h2
  obtain ⟨fp', h3, h4, h5, h6⟩ := row_app1 (x := x) cmK hl E (cmF_of so) hNN own3 hg3 hob3 hm
  have h7 : Ch (fun b => B ≤ b) w w7 := h6.mono (fun b hb => hF b (List.mem_append_left _ hb))
  refine ⟨fp', h3, h4, fun b hb => ?_, hc.ch h7 (fun k hk => Nat.lt_of_lt_of_le hgB hk), h7⟩
  rcases h5 b hb with h | h | h
  · exact hF b h
  · have := h2 b h; omega
  · omega
theorem sm_snoc {l : List Cm} {x : Cm} {m : Nat} (h : ∀ y ∈ l, smC m y) (hx : smC m x) : ∀ y ∈ l ++ [x], smC m y := fun y hy => by
  rcases List.mem_append.1 hy with hy | hy
  · exact h y hy
  · have : y = x := by simpa using hy
    subst this; exact hx
set_option maxRecDepth 8000 in
set_option maxHeartbeats 4000000 in
theorem l34Cmds_any (g : Nat) (w : World) (h : Cur w g) :
    Calls Try.prog 110 #[.pointer (some ⟨g, 0, none⟩)] w (CmsDraw w g) := by
  have hlt := h.lt
  have al := (Below.refl w.heap.size w).alloc (Nat.le_refl _) (.cells #[] 47)
  have own0 := own_empty w 47 8 (base := 0) (Nat.zero_le _)
  go_enter Try.func110, Try.ntmps110
  go_wp2_with fail
  refine (l1Below_any g _ _ (h.keep al) (by omega)).mono ?_
  rintro e w1 ⟨x, rfl, p0, p1, -, hc1, hch⟩
  obtain ⟨m, rfl⟩ := Int.eq_ofNat_of_zero_le p0
  have hm : m < 9 := by have := p1 (by omega); omega
  have D1 := (Ch.of_below (S := fun k => k = g) al).trans hch
  have own1 := own_ch own0 hch (fun k hk e => by simp [Value.ownBlock] at hk; omega)
  have RO1 : RowO cmF 47 8 (blkL (some ⟨w.heap.size, 0, none⟩) ++ ([] : List (List Nat)).flatten) w1 (some ⟨w.heap.size, 0, none⟩) 0 0 [] := RowO.intro (css := []) (fps := []) own1 rfl trivial
  clear own0 own1 al hch h p0 p1
  go_wp2
  go_loopw [3, 4] (fun L u wr => ∃ (k N : Nat) (P : Option Addr) (cp : Nat) (l : List Cm) (fp : List Nat), L = .slice P N cp ∧ u = .int .i64 k ∧ N = l.length ∧ N + k ≤ 8 ∧ RowO cmF 47 8 fp wr P N cp l ∧ fp.Nodup ∧ (∀ b ∈ fp, w.heap.size ≤ b) ∧ (∀ x ∈ l, smC 4 x) ∧ Cur wr g ∧ Ch (fun k => k = g) w wr) (fun _ u _ => (intOf u).toNat)
  case atStart => exact ⟨m, 0, _, 0, [], _, rfl, rfl, rfl, by omega, RO1, by simp [blkL], (fun b hb => by simp [blkL] at hb; omega), (fun x hx => by cases hx), hc1, D1⟩
  case round =>
    clear RO1 hc1 D1
    obtain ⟨k, N, P, cp, l, fp, rfl, rfl, hl, hk, RO, hN, hF, hsm, hc, D⟩ := hrel
    have HL := Lib.hid hl; clear hl
    by_cases hpos : 0 < k
    · have hki : (0 : Int) < (k : Int) := by omega
      go_wp2_with fail
      refine (l4Right_any g _ hc).mono ?_
      rintro e w2 ⟨⟨kd, cl, no, st, nm, tg, nn, ch⟩, A, n, c, rfl, ⟨m1, m2, m3, m4, m5⟩, row, hc2, hch⟩
      simp only at m1 m2 m3 m4 m5 row
      have hsw := D.size
      have hRl := RO.lt cmK
      obtain ⟨f2, hn2, hf2, so2⟩ := StrO.of_in row
      have RO2 := RO.ch cmK hch (fun b hb e => by have e : b = g := e; have := hF b hb; omega)
      have D2 := D.trans hch
      have hs2 := hch.size
      clear RO row hc D hch
      obtain ⟨s, hs⟩ : ∃ s, wr.heap.size = s := ⟨_, rfl⟩
      rw [hs] at hRl hf2 hs2 hsw
      clear hs
      unfold cmV
      go_upto_region 6 with fail
      obtain ⟨W, hW⟩ : ∃ W, W = w2.alloc (.cells #[.int .i64 kd, .int .i64 cl, .int .i64 no, .string st, .string nm, .string tg, .int .i64 nn, .slice A n c] 47) := ⟨_, rfl⟩
      have C3 : BoxL W w2.heap.size [.int .i64 kd, .int .i64 cl, .int .i64 no, .string st, .string nm, .string tg, .int .i64 nn, .slice A n c] := by rw [hW]; exact BoxL.new w2 _ _
      have al : Below w2.heap.size w2 W := by rw [hW]; exact (Below.refl _ _).alloc (Nat.le_refl _) _
      rw [← hW]
      have hc3 := hc2.keep al
      have D3 := D2.trans (Ch.of_below al)
      have so3 := so2.keep al
      have RO3 := RO2.keep cmK al
      obtain ⟨h, hh⟩ : ∃ h, w2.heap.size = h := ⟨_, rfl⟩
      rw [hh] at C3 hf2 hs2 ⊢
      clear al hW hc2 D2 so2 RO2 hh
      have hwh : w.heap.size ≤ h := by omega
      have c1 := C3.cell 1 _ rfl
      have f1 := C3.fz 1 (by simp)
      go_upto_region 7 with fail
      clear c1 f1
      obtain ⟨W4, hW⟩ : ∃ W4, W4 = W.setCell ⟨h, 1, none⟩ (.int .i64 (1 + (N : Int))) := ⟨_, rfl⟩
      have one : Ch (fun k => k = h) W W4 := by rw [hW]; exact Ch.set
      have C4 : BoxL W4 h [.int .i64 kd, .int .i64 (1 + (N : Int)), .int .i64 no, .string st, .string nm, .string tg, .int .i64 nn, .slice A n c] := by rw [hW]; exact C3.set (by simp)
      rw [← hW]
      have hb4 : Below w.heap.size W W4 := one.below (fun k hk => by have hk : k = h := hk; omega) (by have := C3.lt; omega)
      have hc4 := hc3.below hb4 hlt
      have D4 := D3.thenB hb4
      have so4 := so3.ch one (fun b hb e => by have e : b = h := e; have := hf2 b hb; omega)
      have RO4 := RO3.ch cmK one (fun b hb e => by have e : b = h := e; have := hRl b hb; omega)
      clear hW hb4 one C3 hc3 D3 so3 RO3
      by_cases hk7 : kd = 7
      · subst hk7
        have q0 := C4.cell 0 _ rfl
        go_wp2_with fail
        clear q0
        refine (l1Once_any g _ _ hc4 (by omega)).mono ?_
        rintro e w5 ⟨b, rfl, hc, hch⟩
        have C := C4.ch hch (by omega)
        have D := D4.trans hch
        have so := so4.ch hch (fun b hb e => by have e : b = g := e; have := hf2 b hb; omega)
        have RO := RO4.ch cmK hch (fun b hb e => by have e : b = g := e; have := hF b hb; omega)
        clear C4 D4 so4 RO4 hc4 hch
        cases b
        · go_wp2
          refine wp_region_dagb [27, 28, 29, 30, 31, 32] (by kernel_rfl) (by kernel_rfl) (fun D vs w' => ∃ v27 v28 v29 v30 v31 v32 : Value, vs = [v27, v28, v29, v30, v31, v32] ∧ Cur w' g ∧ Ch (fun k => k = g) w w' ∧ h < w'.heap.size ∧ (D 6 = false → BoxL w' h [.int .i64 7, .int .i64 (1 + (N : Int)), .int .i64 no, .string st, .string nm, .string tg, .int .i64 nn, .slice A n c]) ∧ RowO cmF 47 8 fp w' P N cp l ∧ (D 0 = true → v27 = .pointer (some ⟨h, 1, none⟩)) ∧ (D 1 = true → v28 = .int .i64 (1 + (N : Int))) ∧ (D 2 = true → v29 = .pointer (some ⟨g, 0, none⟩)) ∧ (D 3 = true → ∃ gb : Nat, v30 = .slice (some ⟨gb, 0, none⟩) 4 4 ∧ gb ≠ g ∧ (D 4 = false → StrsAt w' (some ⟨gb, 0, none⟩) 4 pickY)) ∧ (D 4 = true → ∃ s0 : ByteArray, v31 = .string s0 ∧ s0.size ≤ 9) ∧ (D 5 = true → ∃ s0 : ByteArray, v32 = .agg #[.int .i64 1, .int .i64 (1 + (N : Int)), .int .i64 1, .string s0, .string ⟨#[]⟩, .string ⟨#[]⟩, .int .i64 0, .slice none 0 0] ∧ s0.size ≤ 9) ∧ (D 6 = true → ∃ s0 : ByteArray, s0.size ≤ 9 ∧ BoxL w' h [.int .i64 1, .int .i64 (1 + (N : Int)), .int .i64 1, .string s0, .string ⟨#[]⟩, .string ⟨#[]⟩, .int .i64 0, .slice none 0 0]))
            ⟨_, _, _, _, _, _, rfl, hc.keep (Below.refl _ _).drew, D.thenB (Below.refl _ _).drew, C.lt, (fun _ => C.keep (Below.refl _ _).drew), RO.keep cmK (Below.refl _ _).drew, (fun h => by cases h), (fun h => by cases h), (fun h => by cases h), (fun h => by cases h), (fun h => by cases h), (fun h => by cases h), (fun h => by cases h)⟩ ?_ ?_
          · intro i D vs w' hi hD hdep hcl hI
            have hi' : i < 7 := hi
            obtain ⟨v27, v28, v29, v30, v31, v32, rfl, hc, hch, hhw, hb, hRO, k0, k1, k2, k3, k4, k5, k6⟩ := hI
            simp only [putAll, List.setIfInBounds_toArray, List.set_cons_succ, List.set_cons_zero]
            rcases (show i = 0 ∨ i = 1 ∨ i = 2 ∨ i = 3 ∨ i = 4 ∨ i = 5 ∨ i = 6 by omega) with rfl | rfl | rfl | rfl | rfl | rfl | rfl
            · refine wpOp_step (by simp only [List.getElem?_toArray, List.getElem?_cons_zero]; rfl) (fun K hK => ?_)
              go_simp
              refine hK _ _ ⟨[.pointer (some ⟨h, 1, none⟩), v28, v29, v30, v31, v32], ?_, _, _, _, _, _, _, rfl, hc, hch, hhw, hb, hRO, (fun _ => rfl), k1, k2, k3, k4, k5, k6⟩
              simp only [putAll, List.setIfInBounds_toArray, List.set_cons_succ, List.set_cons_zero]
            · have e0 := k0 (hdep 0 (by kernel_rfl))
              subst e0
              have n6 : D 6 = false := Bool.eq_false_iff.2 (fun h => absurd (hcl 5 1 (hcl 6 5 h (by kernel_rfl)) (by kernel_rfl)) (by rw [hD]; simp))
              have hB := hb n6
              have b1 := hB.cell 1 _ rfl
              refine wpOp_step (by simp only [List.getElem?_toArray, List.getElem?_cons_succ, List.getElem?_cons_zero]; rfl) (fun K hK => ?_)
              go_simp
              refine hK _ _ ⟨[.pointer (some ⟨h, 1, none⟩), .int .i64 (1 + (N : Int)), v29, v30, v31, v32], ?_, _, _, _, _, _, _, rfl, hc, hch, hhw, hb, hRO, (fun _ => rfl), (fun _ => rfl), k2, k3, k4, k5, k6⟩
              simp only [putAll, List.setIfInBounds_toArray, List.set_cons_succ, List.set_cons_zero]
            · refine wpOp_step (by simp only [List.getElem?_toArray, List.getElem?_cons_succ, List.getElem?_cons_zero]; rfl) (fun K hK => ?_)
              go_simp
              refine hK _ _ ⟨[v27, v28, .pointer (some ⟨g, 0, none⟩), v30, v31, v32], ?_, _, _, _, _, _, _, rfl, hc, hch, hhw, hb, hRO, k0, k1, (fun _ => rfl), k3, k4, k5, k6⟩
              simp only [putAll, List.setIfInBounds_toArray, List.set_cons_succ, List.set_cons_zero]
            · have n4 : D 4 = false := Bool.eq_false_iff.2 (fun h => absurd (hcl 4 3 h (by kernel_rfl)) (by rw [hD]; simp))
              have n5 : D 5 = false := Bool.eq_false_iff.2 (fun h => absurd (hcl 4 3 (hcl 5 4 h (by kernel_rfl)) (by kernel_rfl)) (by rw [hD]; simp))
              have n6 : D 6 = false := Bool.eq_false_iff.2 (fun h => absurd (hcl 4 3 (hcl 5 4 (hcl 6 5 h (by kernel_rfl)) (by kernel_rfl)) (by kernel_rfl)) (by rw [hD]; simp))
              have hal := (Below.refl w'.heap.size w').alloc (Nat.le_refl _) (.cells (pickY.map Value.string).toArray 9)
              have hlg := hc.lt
              refine wpOp_step (by simp only [List.getElem?_toArray, List.getElem?_cons_succ, List.getElem?_cons_zero]; rfl) (fun K hK => ?_)
              go_simp
              refine hK _ _ ⟨[v27, v28, v29, .slice (some ⟨w'.heap.size, 0, none⟩) 4 4, v31, v32], ?_, _, _, _, _, _, _, rfl, (hc.keep hal), (hch.trans (Ch.of_below hal)), (Nat.lt_of_lt_of_le hhw hal.size), (fun h' => (hb h').keep hal), (hRO.keep cmK hal), k0, k1, k2, (fun _ => ⟨_, rfl, by omega, fun _ => strs_new _ _ pickY⟩), (fun h => by rw [show D 4 = true from by simpa using h] at n4; cases n4), (fun h => by rw [show D 5 = true from by simpa using h] at n5; cases n5), (fun h => by rw [show D 6 = true from by simpa using h] at n6; cases n6)⟩
              simp only [putAll, List.setIfInBounds_toArray, List.set_cons_succ, List.set_cons_zero]
            · have e2 := k2 (hdep 2 (by kernel_rfl))
              subst e2
              obtain ⟨gb, rfl, hgb, hst⟩ := k3 (hdep 3 (by kernel_rfl))
              have n5 : D 5 = false := Bool.eq_false_iff.2 (fun h => absurd (hcl 5 4 h (by kernel_rfl)) (by rw [hD]; simp))
              have n6 : D 6 = false := Bool.eq_false_iff.2 (fun h => absurd (hcl 5 4 (hcl 6 5 h (by kernel_rfl)) (by kernel_rfl)) (by rw [hD]; simp))
              refine wpOp_step (by simp only [List.getElem?_toArray, List.getElem?_cons_succ, List.getElem?_cons_zero]; rfl) (fun K hK => ?_)
              go_simp
              refine (l1Pick_any g _ 4 _ pickY _ hc (hst hD) (by omega) (by omega) (fun b off e => by injection e with e; injection e with e _ _; omega)).mono ?_
              rintro e w6 ⟨i, hi, rfl, hc4, hch4⟩
              have hs9 := pickY_le i
              generalize sAt pickY i = s0 at *
              have hz4 := hch4.size
              refine hK _ _ ⟨[v27, v28, .pointer (some ⟨g, 0, none⟩), .slice (some ⟨gb, 0, none⟩) 4 4, .string s0, v32], ?_, _, _, _, _, _, _, rfl, hc4, (hch.trans hch4), (Nat.lt_of_lt_of_le hhw hz4), (fun h' => (hb h').ch hch4 (by omega)), (hRO.ch cmK hch4 (fun b hb e => by have e : b = g := e; have := hF b hb; omega)), k0, k1, (fun _ => rfl), (fun _ => ⟨gb, rfl, hgb, fun h => absurd h (by simp)⟩), (fun _ => ⟨s0, rfl, hs9⟩), (fun h => by rw [show D 5 = true from by simpa using h] at n5; cases n5), (fun h => by rw [show D 6 = true from by simpa using h] at n6; cases n6)⟩
              simp only [putAll, List.setIfInBounds_toArray, List.set_cons_succ, List.set_cons_zero]
            · have e1 := k1 (hdep 1 (by kernel_rfl))
              subst e1
              obtain ⟨s0, rfl, hs9⟩ := k4 (hdep 4 (by kernel_rfl))
              refine wpOp_step (by simp only [List.getElem?_toArray, List.getElem?_cons_succ, List.getElem?_cons_zero]; rfl) (fun K hK => ?_)
              go_simp
              refine hK _ _ ⟨[v27, .int .i64 (1 + (N : Int)), v29, v30, .string s0, .agg #[.int .i64 1, .int .i64 (1 + (N : Int)), .int .i64 1, .string s0, .string ⟨#[]⟩, .string ⟨#[]⟩, .int .i64 0, .slice none 0 0]], ?_, _, _, _, _, _, _, rfl, hc, hch, hhw, hb, hRO, k0, (fun _ => rfl), k2, k3, (fun _ => ⟨s0, rfl, hs9⟩), (fun _ => ⟨s0, rfl, hs9⟩), k6⟩
              simp only [putAll, List.setIfInBounds_toArray, List.set_cons_succ, List.set_cons_zero]
            · obtain ⟨s0, rfl, hs9⟩ := k5 (hdep 5 (by kernel_rfl))
              have hB := hb hD
              have hOne : (#[.int .i64 1, .int .i64 (1 + (N : Int)), .int .i64 1, .string s0, .string ⟨#[]⟩, .string ⟨#[]⟩, .int .i64 0, .slice none 0 0] : Array Value).all (·.oneCell') = true := all_oneCell_toArray (cs := [.int .i64 1, .int .i64 (1 + (N : Int)), .int .i64 1, .string s0, .string ⟨#[]⟩, .string ⟨#[]⟩, .int .i64 0, .slice none 0 0]) (by simp [Value.oneCell'])
              have one : Ch (fun k => k = h) w' (w'.setCells h 0 [.int .i64 1, .int .i64 (1 + (N : Int)), .int .i64 1, .string s0, .string ⟨#[]⟩, .string ⟨#[]⟩, .int .i64 0, .slice none 0 0]) := ch_setCells _ _ _
              have hbS : Below w.heap.size w' (w'.setCells h 0 [.int .i64 1, .int .i64 (1 + (N : Int)), .int .i64 1, .string s0, .string ⟨#[]⟩, .string ⟨#[]⟩, .int .i64 0, .slice none 0 0]) := one.below (fun k hk => by have hk : k = h := hk; omega) (by omega)
              refine wpOp_step (by simp only [List.getElem?_toArray, List.getElem?_cons_succ, List.getElem?_cons_zero]; rfl) (fun K hK => ?_)
              rw [if_pos (by simp [Region.wanted])]
              refine wp_store_mid 47 (.tmp 5) (.tmp 32) rfl h 0 #[.int .i64 1, .int .i64 (1 + (N : Int)), .int .i64 1, .string s0, .string ⟨#[]⟩, .string ⟨#[]⟩, .int .i64 0, .slice none 0 0] rfl rfl (hB.there rfl) sizeCmdD hOne ?_
              refine hK _ _ ⟨[v27, v28, v29, v30, v31, .agg #[.int .i64 1, .int .i64 (1 + (N : Int)), .int .i64 1, .string s0, .string ⟨#[]⟩, .string ⟨#[]⟩, .int .i64 0, .slice none 0 0]], ?_, _, _, _, _, _, _, rfl, (hc.below hbS hlt), (hch.thenB hbS), (Nat.lt_of_lt_of_le hhw one.size), (fun h => absurd h (by simp)), (hRO.ch cmK one (fun b hb e => by have e : b = h := e; have := hRl b hb; omega)), k0, k1, k2, (fun h' => by obtain ⟨gb, e3, h3, h4⟩ := k3 (by simpa using h'); have d4 : D 4 = true := hcl 5 4 (hdep 5 (by kernel_rfl)) (by kernel_rfl); exact ⟨gb, e3, h3, fun h5 => by rw [show D 4 = false from by simpa using h5] at d4; cases d4⟩), k4, (fun _ => ⟨s0, rfl, hs9⟩), (fun _ => ⟨s0, hs9, hB.setCells rfl⟩)⟩
              simp only [Act.put, putAll, List.setIfInBounds_toArray, List.set_cons_succ, List.set_cons_zero]
          · intro D vs w' hD hI
            obtain ⟨v27, v28, v29, v30, v31, v32, rfl, hc, hch, hhw, hb, hRO, k0, k1, k2, k3, k4, k5, k6⟩ := hI
            simp only [putAll, List.setIfInBounds_toArray, List.set_cons_succ, List.set_cons_zero]
            obtain ⟨s0, hs9, C'⟩ := k6 (hD 6 (show 6 < 7 by decide))
            have D' := hch
            have RO' := hRO
            have hc' := hc
            clear k0 k1 k2 k3 k4 k5 k6 hD hb hRO hch so
            clear D
            have D := D'; have C := C'; have RO := RO'; have hc := hc'
            clear D' C' RO' hc'
            obtain ⟨css, fps, rfl, own, hl, E⟩ := RO.ex
            have HE := Lib.hid E; clear E hl RO
            have hCr := C.range
            go_wp2_with (first | ((with_reducible refine loadCmdD ?_ (.tmp 5) ?_ h ?_ [.int .i64 1, .int .i64 (1 + (N : Int)), .int .i64 1, .string s0, .string ⟨#[]⟩, .string ⟨#[]⟩, .int .i64 0, .slice none 0 0] ?_ hCr ?_); (rfl); (rfl); (rfl); (rfl)) | (at_builtin; refine wpList_app1g (P := Try.prog) _ rfl (.tmp 33) (.tmp 35) 26 rfl 0 47 _ 8 104 Try.underlying26 infoCmd rfl (by omega) (.slice P N cp) _ _ rfl own _ _ rfl (by simp) rfl (by simp [Value.oneCell']) (by unfold maxLen; omega) (by omega) (Nat.zero_le _) ?_; intro P3 cp3 w7 own3 hg3 hb3 hob3; refine stop_of ?_) | fail)
            have hsz := C.lt
            obtain ⟨fp', h1, h2, h3, h4, h5⟩ := cms_one (x := ⟨1, 1 + (N : Int), 1, s0, ⟨#[]⟩, ⟨#[]⟩, 0, []⟩) (B := w.heap.size) HL.out HE.out hN hF StrO.nil List.nodup_nil s hRl (fun b hb => by cases hb) hsw own3 hg3 hob3 (by omega) (by omega) hc hlt
            have hD7 := D.thenB (h5.below (fun k hk => hk) (by omega))
            clear hg3 hb3 hob3 own3 own hCr C hc D HE hN hF hRl
            unfold Stop
            go_wp2
            exact ⟨⟨k - 1, N + 1, P3, cp3, l ++ [⟨1, 1 + (N : Int), 1, s0, ⟨#[]⟩, ⟨#[]⟩, 0, []⟩], fp', rfl, by congr 1; omega, by have := HL.out; simp; omega, by omega, h1, h2, h3, sm_snoc hsm ⟨hs9, Nat.zero_le _, Nat.zero_le _, by simp, fun y hy => by cases hy⟩, h4, hD7⟩, by simp [intOf]; omega⟩
        · skip
          go_upto_region 9 with fail
          obtain ⟨css, fps, rfl, own, hl, E⟩ := RO.ex
          have HE := Lib.hid E; clear E hl RO
          have hCr := C.range
          go_wp2_with (first | ((with_reducible refine loadCmdD ?_ (.tmp 5) ?_ h ?_ [.int .i64 7, .int .i64 (1 + (N : Int)), .int .i64 no, .string st, .string nm, .string tg, .int .i64 nn, .slice A n c] ?_ hCr ?_); (rfl); (rfl); (rfl); (rfl)) | (at_builtin; refine wpList_app1g (P := Try.prog) _ rfl (.tmp 33) (.tmp 35) 26 rfl 0 47 _ 8 104 Try.underlying26 infoCmd rfl (by omega) (.slice P N cp) _ _ rfl own _ _ rfl (by simp) rfl (by simp [Value.oneCell']) (by unfold maxLen; omega) (by omega) (Nat.zero_le _) ?_; intro P3 cp3 w7 own3 hg3 hb3 hob3; refine stop_of ?_) | fail)
          have hsz := C.lt
          obtain ⟨fp', h1, h2, h3, h4, h5⟩ := cms_one (x := ⟨7, 1 + (N : Int), no, st, nm, tg, nn, ch⟩) (B := w.heap.size) HL.out HE.out hN hF so hn2 s hRl (fun b hb => (hf2 b hb).1) hsw own3 hg3 hob3 (by omega) (by omega) hc hlt
          have hD7 := D.thenB (h5.below (fun k hk => hk) (by omega))
          clear hg3 hb3 hob3 own3 own hCr C so hc D HE hN hF hRl
          unfold Stop
          go_wp2
          exact ⟨⟨k - 1, N + 1, P3, cp3, l ++ [⟨7, 1 + (N : Int), no, st, nm, tg, nn, ch⟩], fp', rfl, by congr 1; omega, by have := HL.out; simp; omega, by omega, h1, h2, h3, sm_snoc hsm ⟨m1, m2, m3, by simp only; omega, m5⟩, h4, hD7⟩, by simp [intOf]; omega⟩
      · have hk7b : (kd == 7) = false := by simp [hk7]
        have q0 := C4.cell 0 _ rfl
        go_upto_region 9 with fail
        clear q0
        have C := C4; have D := D4; have so := so4; have RO := RO4; have hc := hc4; clear C4 D4 so4 RO4 hc4
        obtain ⟨css, fps, rfl, own, hl, E⟩ := RO.ex
        have HE := Lib.hid E; clear E hl RO
        have hCr := C.range
        go_wp2_with (first | ((with_reducible refine loadCmdD ?_ (.tmp 5) ?_ h ?_ [.int .i64 kd, .int .i64 (1 + (N : Int)), .int .i64 no, .string st, .string nm, .string tg, .int .i64 nn, .slice A n c] ?_ hCr ?_); (rfl); (rfl); (rfl); (rfl)) | (at_builtin; refine wpList_app1g (P := Try.prog) _ rfl (.tmp 33) (.tmp 35) 26 rfl 0 47 _ 8 104 Try.underlying26 infoCmd rfl (by omega) (.slice P N cp) _ _ rfl own _ _ rfl (by simp) rfl (by simp [Value.oneCell']) (by unfold maxLen; omega) (by omega) (Nat.zero_le _) ?_; intro P3 cp3 w7 own3 hg3 hb3 hob3; refine stop_of ?_) | fail)
        have hsz := C.lt
        obtain ⟨fp', h1, h2, h3, h4, h5⟩ := cms_one (x := ⟨kd, 1 + (N : Int), no, st, nm, tg, nn, ch⟩) (B := w.heap.size) HL.out HE.out hN hF so hn2 s hRl (fun b hb => (hf2 b hb).1) hsw own3 hg3 hob3 (by omega) (by omega) hc hlt
        have hD7 := D.thenB (h5.below (fun k hk => hk) (by omega))
        clear hg3 hb3 hob3 own3 own hCr C so hc D HE hN hF hRl
        unfold Stop
        go_wp2
        exact ⟨⟨k - 1, N + 1, P3, cp3, l ++ [⟨kd, 1 + (N : Int), no, st, nm, tg, nn, ch⟩], fp', rfl, by congr 1; omega, by have := HL.out; simp; omega, by omega, h1, h2, h3, sm_snoc hsm ⟨m1, m2, m3, by simp only; omega, m5⟩, h4, hD7⟩, by simp [intOf]; omega⟩
    · have hk0 : ¬ (0 : Int) < (k : Int) := by omega
      go_wp2_with fail
      refine (l1Once_any g _ _ hc (by omega)).mono ?_
      rintro e w2 ⟨b, rfl, hc2, hch⟩
      have hsw := D.size
      have RO2 := RO.ch cmK hch (fun b hb e => by have e : b = g := e; have := hF b hb; omega)
      have D2 := D.trans hch
      clear RO D hc hch
      cases b
      · go_wp2
        go_returns
        exact ⟨l, P, N, cp, fp, rfl, by have := HL.out; omega, hsm, RO2, hN, hF, hc2, D2⟩
      · go_wp2_with fail
        refine (l4Cmd_any g _ hc2).mono ?_
        rintro e w3 ⟨x, A, n, c, rfl, hx, row, hc3, hch⟩
        have hsw2 := D2.size
        have hRl := RO2.lt cmK
        obtain ⟨f2, hn2, hf2, so3⟩ := StrO.of_in row
        have RO3 := RO2.ch cmK hch (fun b hb e => by have e : b = g := e; have := hF b hb; omega)
        have D3 := D2.trans hch
        have hs3 := hch.size
        clear RO2 row hc2 D2 hch
        obtain ⟨css, fps, rfl, own, hl, E⟩ := RO3.ex
        have HE := Lib.hid E; clear E hl RO3
        unfold cmV
        go_wp2_with (first | (at_builtin; refine wpList_app1g (P := Try.prog) _ rfl (.tmp 39) (.tmp 42) 26 rfl 0 47 _ 8 104 Try.underlying26 infoCmd rfl (by omega) (.slice P N cp) _ _ rfl own _ _ rfl (by simp) rfl (by simp [Value.oneCell']) (by unfold maxLen; omega) (by omega) (Nat.zero_le _) ?_; intro P3 cp3 w7 own3 hg3 hb3 hob3; refine stop_of ?_) | fail)
        obtain ⟨fp', h1, h2, h3, h4, h5⟩ := cms_one (x := x) (B := w.heap.size) HL.out HE.out hN hF so3 hn2 w2.heap.size hRl (fun b hb => (hf2 b hb).1) hsw2 own3 hg3 hob3 (by omega) (by omega) hc3 hlt
        have hD7 := D3.thenB (h5.below (fun k hk => hk) (by omega))
        clear hg3 hb3 hob3 own3 own so3 hc3 D3 HE hN hF hRl
        unfold Stop
        go_wp2
        go_returns
        exact ⟨l ++ [x], P3, N + 1, cp3, fp', rfl, by have := HL.out; simp; omega, sm_snoc hsm hx, h1, h2, h3, h4, hD7⟩
end Go.Proofs.Ytdphdnllhmnelaa
/- The draws of FnBatches: DrawBatches, DrawBatchFits. -/
namespace Go.Proofs.Ytdphdnllhmnelaa
open Go.RowKit
theorem sum_le_rows {m : Nat} : ∀ {L : List (List Int)}, (∀ r ∈ L, r.length ≤ m) → (L.map intsSz).sum ≤ L.length * m
  | [], _ => by simp
  | r :: L, h => by
    have h1 := h r (List.mem_cons_self ..)
    have h2 := sum_le_rows (L := L) (fun x hx => h x (List.mem_cons_of_mem _ hx))
    have h3 : intsSz r = r.length := rfl
    simp only [List.map_cons, List.sum_cons, List.length_cons, Nat.add_mul]
    omega
theorem intss_small {L : List (List Int)} (h : ∀ r ∈ L, r.length ≤ 18) (h2 : L.length ≤ 9) : intssSz L ≤ 1048576 := by
  have := sum_le_rows h
  unfold intssSz
  omega
theorem batch_small {l : List Cm} (h : l.length ≤ 9) : (∀ r ∈ batchL l, r.length ≤ 9) ∧ (batchL l).length ≤ 9 := by
  unfold batchL
  split
  · unfold rowsOf
    refine ⟨fun r hr => ?_, by have := mxL_le l l.length; simp; omega⟩
    obtain ⟨b, _, rfl⟩ := List.mem_map.1 hr
    have := rowOf_len l l.length b
    omega
  · exact ⟨fun r hr => (by cases hr), by simp⟩
theorem sm_bd {m : Nat} {l : List Cm} (h : ∀ x ∈ l, smC m x) (hm : m ≤ 4) (hl : l.length ≤ 9) : cmsB l ∧ cmsSz l ≤ 1048576 := by
  have h1 : ∀ x ∈ l, cmB x ∧ cmSz x ≤ 100 := fun x hx => by
    obtain ⟨a, b, c, d, e⟩ := h x hx
    refine ⟨⟨by omega, by omega, by omega, by omega, fun y hy => by have := e y hy; omega⟩, ?_⟩
    have : ∀ {L : List ByteArray}, (∀ y ∈ L, y.size ≤ 9) → strsSz L ≤ L.length * 10 := by
      intro L
      induction L with
      | nil => intro _; simp [strsSz]
      | cons z L ih =>
        intro h
        have h1 := h z (List.mem_cons_self ..)
        have h2 := ih (fun y hy => h y (List.mem_cons_of_mem _ hy))
        rw [strsSz_cons, List.length_cons, Nat.add_mul]; omega
    have := this e
    unfold cmSz
    omega
  refine ⟨⟨by omega, fun x hx => (h1 x hx).1⟩, ?_⟩
  have : ∀ {L : List Cm}, (∀ x ∈ L, cmSz x ≤ 100) → (L.map cmSz).sum ≤ L.length * 100 := by
    intro L
    induction L with
    | nil => intro _; simp
    | cons z L ih =>
      intro h
      have h1 := h z (List.mem_cons_self ..)
      have h2 := ih (fun y hy => h y (List.mem_cons_of_mem _ hy))
      simp only [List.map_cons, List.sum_cons, List.length_cons, Nat.add_mul]
      omega
  have := this (fun x hx => (h1 x hx).2)
  unfold cmsSz
  omega
attribute [local irreducible] StrsAt StrR StrO RowR RowO IntO IntR IntsAt batchL cmsB cmsSz
/-- a drawn list of commands, no cursor left -/
def CmsOut (w : World) (e : Ending) (w' : World) : Prop :=
  ∃ (l : List Cm) (A : Option Addr) (n c : Nat) (fp : List Nat), e = .returned (.slice A n c) ∧ l.length ≤ 9 ∧ (∀ x ∈ l, smC 4 x) ∧ RowO cmF 47 8 fp w' A n c l ∧ Below w.heap.size w w'
theorem drawBatches_any (A : Option Addr) (n c : Nat) (f : Nat → Int) (w : World) (h : CodeAt w A n f) (hn : n ≤ 1048576) :
    Calls Try.prog 42 #[.slice A n c] w (CmsOut w) := by
  go_enter Try.func42, Try.ntmps42
  go_wp2_with fail
  refine (l1New_any _ _ _ _ _ h hn).mono ?_
  rintro e w1 ⟨rfl, hc1, hb1⟩
  go_wp2_with fail
  refine (l34Cmds_any _ _ hc1).mono ?_
  rintro e w2 ⟨l, A, n, c, fp, rfl, hl, hs, RO, hN, hF, hc2, hch2⟩
  have hB2 := hb1.trans (hch2.below (B := w.heap.size) (fun k hk => by omega) hb1.size)
  go_wp2
  go_returns
  exact ⟨l, A, n, c, fp, rfl, hl, hs, RO, hB2⟩
theorem intO_own {f : List Nat} {w : World} {A : Option Addr} {n c : Nat} {l : List Int} (h : IntO f w A n c l) : f = blkL A ∧ w.ownsRow 0 3 1 (.slice A n c) n (l.map (Value.int .i64)) := by unfold IntO at h; exact h
theorem intO_mk {w : World} {A : Option Addr} {n c : Nat} {l : List Int} (h : w.ownsRow 0 3 1 (.slice A n c) n (l.map (Value.int .i64))) : IntO (blkL A) w A n c l := by unfold IntO; exact ⟨rfl, h⟩
theorem ints_oneD (l : List Int) : ∀ u ∈ l.map (Value.int .i64), u.oneCell' = true := fun u hu => by
  obtain ⟨x, _, rfl⟩ := List.mem_map.1 hu; rfl
theorem own_blkD {A : Option Addr} {n c b : Nat} (h : BlkOf A b) : (Value.slice A n c).ownBlock = some b := by
  cases A with
  | none => exact h.no.elim
  | some a => simpa [BlkOf, Value.ownBlock] using h
theorem own_drew {w : World} {base e sz n : Nat} {v : Value} {xs : List Value} (h : w.ownsRow base e sz v n xs) : w.drew.ownsRow base e sz v n xs := own_ch h (Ch.of_below (S := fun _ => False) (Below.refl _ _).drew) (fun _ _ h => h)
theorem els_cons {α : Type} {F : List Nat → World → List Value → α → Prop} {w : World} {cs : List Value} {f : List Nat} {x : α} {css : List (List Value)} {fps : List (List Nat)} {l : List α} (h : F f w cs x) (E : Els F w css fps l) : Els F w (cs :: css) (f :: fps) (x :: l) := ⟨h, E⟩
/-- drawn commands and batches -/
def FitsOut (w : World) (e : Ending) (w' : World) : Prop :=
  ∃ (l : List Cm) (A : Option Addr) (n c : Nat) (fp : List Nat) (d : List (List Int)) (A1 : Option Addr) (n1 c1 : Nat), e = .returned (.tuple #[.slice A n c, .slice A1 n1 c1]) ∧ l.length ≤ 9 ∧ (∀ x ∈ l, smC 4 x) ∧ RowO cmF 47 8 fp w' A n c l ∧ RowR intRc 1 w' A1 n1 c1 d ∧ intssSz d ≤ 1048576 ∧ Below w.heap.size w w'
set_option maxRecDepth 8000 in
set_option maxHeartbeats 4000000 in
theorem drawBatchFits_any (A : Option Addr) (n c : Nat) (f : Nat → Int) (w : World) (h : CodeAt w A n f) (hn : n ≤ 1048576) :
    Calls Try.prog 46 #[.slice A n c] w (FitsOut w) := by
  go_enter Try.func46, Try.ntmps46
  go_wp2_with fail
  refine (l1New_any _ _ _ _ _ h hn).mono ?_
  rintro e w1 ⟨rfl, hc1, hb1⟩
  go_wp2_with fail
  refine (l34Cmds_any _ _ hc1).mono ?_
  rintro e w2 ⟨l, A, n, c, fp, rfl, hl, hs, RO, hN, hF, hc2, hch2⟩
  have hB2 := hb1.trans (hch2.below (B := w.heap.size) (fun k hk => by omega) hb1.size)
  have hbd := (sm_bd hs (by omega) hl).1
  go_wp2_with fail
  refine (batches_spec l _ _ _ _ (RO.at_ cmK (by omega)) hbd).mono ?_
  rintro e w3 ⟨A', n', c', rfl, hI, hb3⟩
  obtain ⟨fq, hNq, hFq, ROq⟩ := hI.ex
  have hLq := ROq.len
  have RO3 := RO.keep cmK hb3
  have hc3 := hc2.keep hb3
  have hB3 := bthen hB2 hb3
  have hRl := RO.lt cmK
  have hz1 := hb1.size
  have hz2 := hch2.size
  obtain ⟨hr9, hl9⟩ := batch_small hl
  obtain ⟨b, hb⟩ : ∃ b, b = batchL l := ⟨_, rfl⟩
  rw [← hb] at hLq ROq hr9 hl9
  have hglt := hc1.lt
  clear hb hI hbd RO hc2 hch2 hB2 hb3 hc1 hb1 h
  have HLQ := Lib.hid hLq; clear hLq
  by_cases h1 : 1 < n'
  · have hi1 : (1 : Int) < (n' : Int) := by omega
    obtain ⟨x, y, t, rfl⟩ : ∃ x y t, b = x :: y :: t := by
      have := HLQ.out
      match b with
      | [] => simp at this; omega
      | [x] => simp at this; omega
      | x :: y :: t => exact ⟨x, y, t, rfl⟩
    go_wp2_with fail
    refine (l1Once_any w.heap.size _ _ hc3 (by omega)).mono ?_
    rintro e w4 ⟨q, rfl, hc4, hch⟩
    have ROq4 := ROq.ch intKc hch (fun b hb e => by have e : b = _ := e; have := (hFq b hb).1; omega)
    have RO4 := RO3.ch cmK hch (fun b hb e => by have e : b = _ := e; have := hF b hb; omega)
    have hB4 := hch.belowB hB3 (by have := hB3.size; omega) (fun k hk => by have hk : k = _ := hk; omega)
    clear ROq RO3 hB3 hc3 hch
    cases q
    · go_wp2
      go_returns
      exact ⟨l, A, n, c, fp, x :: y :: t, A', n', c', rfl, hl, hs, RO4, ROq4.at_ intKc (by omega), intss_small (fun r hr => by have := hr9 r hr; omega) hl9, hB4⟩
    · go_wp2_with fail
      refine (l1Below_any w.heap.size _ _ hc4 (by omega)).mono ?_
      rintro e w5 ⟨v, rfl, p0, p1, -, -, hch⟩
      obtain ⟨m, rfl⟩ := Int.eq_ofNat_of_zero_le p0
      have hm : m < 3 := by have := p1 (by omega); omega
      have RQ := ROq4.ch intKc hch (fun b hb e => by have e : b = _ := e; have := (hFq b hb).1; omega)
      have RO := RO4.ch cmK hch (fun b hb e => by have e : b = _ := e; have := hF b hb; omega)
      have hB := hch.belowB hB4 (by have := hB4.size; omega) (fun k hk => by have hk : k = _ := hk; omega)
      have hRQ := RQ
      clear ROq4 RO4 hB4 hc4 hch p0 p1
      obtain ⟨css, fps, rfl, own, hl', E⟩ := RQ.ex
      obtain ⟨c0, css, f0, fps, rfl, rfl, hx, E1⟩ := E.cons
      clear E
      obtain ⟨c1, css, f1, fps, rfl, rfl, hy, E⟩ := E1.cons
      clear E1
      obtain ⟨A0, n0, kx, rfl, hx⟩ := hx
      obtain ⟨A1, n1, ky, rfl, hy⟩ := hy
      obtain ⟨gb, rfl⟩ : ∃ gb, A' = some ⟨gb, 0, none⟩ := by
        rcases own_form own with ⟨_, h0, _⟩ | ⟨g, h, _⟩
        · omega
        · exact ⟨g, h⟩
      have hle := own_le own
      have hcl := own_cells own
      obtain ⟨b', off', eb, hcell⟩ := hcl.2 (by omega)
      injection eb with eb; injection eb with eb1 eb2 _; subst eb1 eb2
      have z0 := hcell 0 _ rfl
      have z1 := hcell 1 _ rfl
      have y0 := own.frozenAt 0
      have y1 := own.frozenAt 1
      have hgl : gb < w5.heap.size := cell_lt z0
      have hgb : w2.heap.size ≤ gb := (hFq gb (by simp [blkL])).1
      have hno : gb ∉ (f0 :: f1 :: fps).flatten := by
        simp only [blkL, Option.map, Option.toList, List.cons_append, List.nil_append, List.nodup_cons] at hNq
        exact hNq.1
      simp only [Nat.zero_add] at z0 z1
      clear hcl hcell hl' hi1
      rcases (show m = 0 ∨ m = 1 ∨ m = 2 by omega) with rfl | rfl | rfl
      · go_wp2
        have one : Ch (fun k => k = gb) w5 ((w5.setCell ⟨gb, 0, none⟩ (.slice A1 n1 ky)).setCell ⟨gb, 1, none⟩ (.slice A0 n0 kx)) := ((Ch.refl (S := fun k => k = gb) w5).setCell (p := ⟨gb, 0, none⟩) rfl _).setCell (p := ⟨gb, 1, none⟩) rfl _
        have own' := ((own.stored 0 (.slice A1 n1 ky)).1.stored 1 (.slice A0 n0 kx)).1
        generalize (w5.setCell ⟨gb, 0, none⟩ (.slice A1 n1 ky)).setCell ⟨gb, 1, none⟩ (.slice A0 n0 kx) = W at *
        have hx' := hx.ch one (fun b hb e => hno (by have e : b = gb := e; subst e; simp [hb]))
        have hy' := hy.ch one (fun b hb e => hno (by have e : b = gb := e; subst e; simp [hb]))
        have E' := E.ch intKc one (fun b hb e => hno (by have e : b = gb := e; subst e; simp only [List.flatten_cons, List.mem_append]; exact .inr (.inr hb)))
        have RQ' : RowR intRc 1 W (some ⟨gb, 0, none⟩) n' c' (y :: x :: t) := (RowO.intro (css := [.slice A1 n1 ky] :: [.slice A0 n0 kx] :: css) (fps := f1 :: f0 :: fps) (by simpa using own') (by have := HLQ.out; simpa using this) (els_cons (F := intF) ⟨A1, n1, ky, rfl, hy'⟩ (els_cons (F := intF) ⟨A0, n0, kx, rfl, hx'⟩ E'))).at_ intKc (by omega)
        have RO' := RO.ch cmK one (fun b hb e => by have e : b = gb := e; have := hRl b hb; omega)
        have hB' := one.belowB hB hB.size (fun k hk => by have hk : k = gb := hk; omega)
        go_returns
        exact ⟨l, A, n, c, fp, y :: x :: t, _, n', c', rfl, hl, hs, RO', RQ', intss_small (fun r hr => by have := hr9 r (by simp at hr ⊢; rcases hr with h | h | h; exact .inr (.inl h); exact .inl h; exact .inr (.inr h)); omega) (by simpa using hl9), hB'⟩
      · go_wp2
        have hR := hRQ.at_ intKc (by omega)
        have hR1 : RowR intRc 1 w5 (some ⟨gb, 1, none⟩) (n' - 1) (c' - 1) (y :: t) := by
          unfold RowR at hR ⊢
          refine ⟨⟨by have := HLQ.out; simp at this ⊢; omega, fun _ => ?_⟩, fun h => by cases h⟩
          obtain ⟨b, off, e, hlt, hall⟩ := hR.1.2 (by omega)
          injection e with e; injection e with e1 e2 _; subst e1 e2
          refine ⟨gb, 1, rfl, hlt, fun i z hz => ?_⟩
          obtain ⟨cs, h1, h2, h3⟩ := hall (i + 1) z (by simpa using hz)
          exact ⟨cs, h1, h2, fun j u hu => by have := h3 j u hu; rw [show 1 + i * 1 + j = 0 + (i + 1) * 1 + j by omega]; exact this⟩
        go_returns
        exact ⟨l, A, n, c, fp, y :: t, _, _, _, rfl, hl, hs, RO, hR1, intss_small (fun r hr => by have := hr9 r (List.mem_cons_of_mem _ hr); omega) (by simp at hl9 ⊢; omega), hB⟩
      · go_wp2
        have hn0 : gb ∉ f0 := fun hb => hno (by simp [hb])
        have hn1 : gb ∉ f1 := fun hb => hno (by simp [hb])
        have hn2 : gb ∉ fps.flatten := fun hb => hno (by simp only [List.flatten_cons, List.mem_append]; exact .inr (.inr hb))
        have hf0z : ∀ k ∈ f0, w2.heap.size ≤ k := fun k hk => (hFq k (by simp [hk])).1
        have hf0w : ∀ k ∈ f0, w.heap.size ≤ k := fun k hk => by have := hf0z k hk; omega
        have hN2 : (f0 ++ (f1 ++ fps.flatten)).Nodup := by
          have h2 := (List.nodup_append.1 hNq).2.1
          simpa using h2
        have hd1 : ∀ b ∈ f0, b ∉ f1 := fun b h1 h2 => (List.nodup_append.1 hN2).2.2 b h1 b (List.mem_append_left _ h2) rfl
        have hd2 : ∀ b ∈ f0, b ∉ fps.flatten := fun b h1 h2 => (List.nodup_append.1 hN2).2.2 b h1 b (List.mem_append_right _ h2) rfl
        have hn09 : n0 ≤ 9 ∧ n1 ≤ 9 := by
          have e0 := (intO_own hx).2.1; have e1 := (intO_own hy).2.1
          have q0 := hr9 x (by simp); have q1 := hr9 y (by simp)
          simp at e0 e1; omega
        have i0 : 0 < n' := by omega
        have i0' : ¬ n' = 0 := by omega
        have i1 : (1 : Int) < (n' : Int) := by omega
        refine wp_region_dagb [23, 24, 25, 26, 27, 28, 29, 30, 31] (by kernel_rfl) (by kernel_rfl) (fun D vs w' => ∃ v23 v24 v25 v26 v27 v28 v29 v30 v31 : Value, vs = [v23, v24, v25, v26, v27, v28, v29, v30, v31] ∧ Below w.heap.size w w' ∧ RowO cmF 47 8 fp w' A n c l ∧ w'.cell? ⟨gb, 1, none⟩ = some (.slice A1 n1 ky) ∧ gb < w'.heap.size ∧ IntO f1 w' A1 n1 ky y ∧ Els intF w' css fps t ∧ (D 7 = false → IntO f0 w' A0 n0 kx x) ∧ (D 9 = false → w'.cell? ⟨gb, 0, none⟩ = some (.slice A0 n0 kx) ∧ w'.ownsRow 0 78 1 (.slice (some ⟨gb, 0, none⟩) n' c') n' (.slice A0 n0 kx :: .slice A1 n1 ky :: css.flatten)) ∧ (D 0 = true → v23 = .slice (some ⟨gb, 0, none⟩) n' c') ∧ (D 1 = true → v24 = .slice (some ⟨gb, 0, none⟩) n' c') ∧ (D 2 = true → v25 = .pointer (some ⟨gb, 0, none⟩)) ∧ (D 3 = true → v26 = .slice A0 n0 kx) ∧ (D 4 = true → v27 = .slice (some ⟨gb, 0, none⟩) n' c') ∧ (D 5 = true → v28 = .pointer (some ⟨gb, 1, none⟩)) ∧ (D 6 = true → v29 = .slice A1 n1 ky) ∧ (D 7 = true → ∃ (A2 : Option Addr) (kz : Nat), v30 = .slice A2 (n0 + n1) kz ∧ IntO (blkL A2) w' A2 (n0 + n1) kz (x ++ y) ∧ gb ∉ blkL A2) ∧ (D 8 = true → v31 = .pointer (some ⟨gb, 0, none⟩)) ∧ (D 9 = true → ∃ (A2 : Option Addr) (kz : Nat), IntO (blkL A2) w' A2 (n0 + n1) kz (x ++ y) ∧ gb ∉ blkL A2 ∧ w'.ownsRow 0 78 1 (.slice (some ⟨gb, 0, none⟩) n' c') n' (.slice A2 (n0 + n1) kz :: .slice A1 n1 ky :: css.flatten)))
          ⟨_, _, _, _, _, _, _, _, _, rfl, bthen hB (Below.refl _ _).drew, RO.keep cmK (Below.refl _ _).drew, z1, hgl, hy.keep (Below.refl _ _).drew, E.keep intKc (Below.refl _ _).drew, (fun _ => hx.keep (Below.refl _ _).drew), (fun _ => ⟨z0, own_drew own⟩), (fun h => by cases h), (fun h => by cases h), (fun h => by cases h), (fun h => by cases h), (fun h => by cases h), (fun h => by cases h), (fun h => by cases h), (fun h => by cases h), (fun h => by cases h), (fun h => by cases h)⟩ ?_ ?_
        · intro i D vs w' hi hD hdep hcl hI
          have hi' : i < 10 := hi
          obtain ⟨v23, v24, v25, v26, v27, v28, v29, v30, v31, rfl, hBw, hRO, y1, hgw, hyy, hE, hx0, hz, k0, k1, k2, k3, k4, k5, k6, k7, k8, k9⟩ := hI
          simp only [putAll, List.setIfInBounds_toArray, List.set_cons_succ, List.set_cons_zero]
          rcases (show i = 0 ∨ i = 1 ∨ i = 2 ∨ i = 3 ∨ i = 4 ∨ i = 5 ∨ i = 6 ∨ i = 7 ∨ i = 8 ∨ i = 9 by omega) with rfl | rfl | rfl | rfl | rfl | rfl | rfl | rfl | rfl | rfl
          · refine wpOp_step (by simp only [List.getElem?_toArray, List.getElem?_cons_zero]; rfl) (fun K hK => ?_)
            go_simp
            refine hK _ _ ⟨[.slice (some ⟨gb, 0, none⟩) n' c', v24, v25, v26, v27, v28, v29, v30, v31], ?_, _, _, _, _, _, _, _, _, _, rfl, hBw, hRO, y1, hgw, hyy, hE, hx0, hz, (fun _ => rfl), k1, k2, k3, k4, k5, k6, k7, k8, k9⟩
            simp only [putAll, List.setIfInBounds_toArray, List.set_cons_succ, List.set_cons_zero]
          · refine wpOp_step (by simp only [List.getElem?_toArray, List.getElem?_cons_succ, List.getElem?_cons_zero]; rfl) (fun K hK => ?_)
            go_simp
            refine hK _ _ ⟨[v23, .slice (some ⟨gb, 0, none⟩) n' c', v25, v26, v27, v28, v29, v30, v31], ?_, _, _, _, _, _, _, _, _, _, rfl, hBw, hRO, y1, hgw, hyy, hE, hx0, hz, k0, (fun _ => rfl), k2, k3, k4, k5, k6, k7, k8, k9⟩
            simp only [putAll, List.setIfInBounds_toArray, List.set_cons_succ, List.set_cons_zero]
          · have e1 := k1 (hdep 1 (by kernel_rfl))
            subst e1
            refine wpOp_step (by simp only [List.getElem?_toArray, List.getElem?_cons_succ, List.getElem?_cons_zero]; rfl) (fun K hK => ?_)
            go_simp
            refine hK _ _ ⟨[v23, .slice (some ⟨gb, 0, none⟩) n' c', .pointer (some ⟨gb, 0, none⟩), v26, v27, v28, v29, v30, v31], ?_, _, _, _, _, _, _, _, _, _, rfl, hBw, hRO, y1, hgw, hyy, hE, hx0, hz, k0, (fun _ => rfl), (fun _ => rfl), k3, k4, k5, k6, k7, k8, k9⟩
            simp only [putAll, List.setIfInBounds_toArray, List.set_cons_succ, List.set_cons_zero]
          · have e2 := k2 (hdep 2 (by kernel_rfl))
            subst e2
            have n9 : D 9 = false := Bool.eq_false_iff.2 (fun h => absurd (hcl 7 3 (hcl 9 7 h (by kernel_rfl)) (by kernel_rfl)) (by rw [hD]; simp))
            have b0 := (hz n9).1
            refine wpOp_step (by simp only [List.getElem?_toArray, List.getElem?_cons_succ, List.getElem?_cons_zero]; rfl) (fun K hK => ?_)
            go_simp
            refine hK _ _ ⟨[v23, v24, .pointer (some ⟨gb, 0, none⟩), .slice A0 n0 kx, v27, v28, v29, v30, v31], ?_, _, _, _, _, _, _, _, _, _, rfl, hBw, hRO, y1, hgw, hyy, hE, hx0, hz, k0, k1, (fun _ => rfl), (fun _ => rfl), k4, k5, k6, k7, k8, k9⟩
            simp only [putAll, List.setIfInBounds_toArray, List.set_cons_succ, List.set_cons_zero]
          · refine wpOp_step (by simp only [List.getElem?_toArray, List.getElem?_cons_succ, List.getElem?_cons_zero]; rfl) (fun K hK => ?_)
            go_simp
            refine hK _ _ ⟨[v23, v24, v25, v26, .slice (some ⟨gb, 0, none⟩) n' c', v28, v29, v30, v31], ?_, _, _, _, _, _, _, _, _, _, rfl, hBw, hRO, y1, hgw, hyy, hE, hx0, hz, k0, k1, k2, k3, (fun _ => rfl), k5, k6, k7, k8, k9⟩
            simp only [putAll, List.setIfInBounds_toArray, List.set_cons_succ, List.set_cons_zero]
          · have e4 := k4 (hdep 4 (by kernel_rfl))
            subst e4
            refine wpOp_step (by simp only [List.getElem?_toArray, List.getElem?_cons_succ, List.getElem?_cons_zero]; rfl) (fun K hK => ?_)
            go_simp
            refine hK _ _ ⟨[v23, v24, v25, v26, .slice (some ⟨gb, 0, none⟩) n' c', .pointer (some ⟨gb, 1, none⟩), v29, v30, v31], ?_, _, _, _, _, _, _, _, _, _, rfl, hBw, hRO, y1, hgw, hyy, hE, hx0, hz, k0, k1, k2, k3, (fun _ => rfl), (fun _ => rfl), k6, k7, k8, k9⟩
            simp only [putAll, List.setIfInBounds_toArray, List.set_cons_succ, List.set_cons_zero]
          · have e5 := k5 (hdep 5 (by kernel_rfl))
            subst e5
            refine wpOp_step (by simp only [List.getElem?_toArray, List.getElem?_cons_succ, List.getElem?_cons_zero]; rfl) (fun K hK => ?_)
            go_simp
            refine hK _ _ ⟨[v23, v24, v25, v26, v27, .pointer (some ⟨gb, 1, none⟩), .slice A1 n1 ky, v30, v31], ?_, _, _, _, _, _, _, _, _, _, rfl, hBw, hRO, y1, hgw, hyy, hE, hx0, hz, k0, k1, k2, k3, k4, (fun _ => rfl), (fun _ => rfl), k7, k8, k9⟩
            simp only [putAll, List.setIfInBounds_toArray, List.set_cons_succ, List.set_cons_zero]
          · have e3 := k3 (hdep 3 (by kernel_rfl))
            subst e3
            have e6 := k6 (hdep 6 (by kernel_rfl))
            subst e6
            have n9 : D 9 = false := Bool.eq_false_iff.2 (fun h => absurd (hcl 9 7 h (by kernel_rfl)) (by rw [hD]; simp))
            obtain ⟨ef0, ox⟩ := intO_own (hx0 hD)
            obtain ⟨ef1, oy⟩ := intO_own hyy
            refine wpOp_step (by simp only [List.getElem?_toArray, List.getElem?_cons_succ, List.getElem?_cons_zero]; rfl) (fun K hK => ?_)
            refine step_app (by rfl) (.tmp 26) (.tmp 29) 78 (by rfl) 0 3 _ 1 8 Try.underlying78 infoInt rfl (by omega) (.slice A0 n0 kx) n0 (x.map (Value.int .i64)) (by rfl) ox A1 n1 ky (y.map (Value.int .i64)) (by rfl) (own_cells oy) (ints_oneD y) (own_none oy) (by unfold maxLen; omega) (by omega) (Nat.zero_le _) ?_
            intro A2 kz w6 own6 hg6 hb6 hob6
            have cg := Ch.of_grow hg6
            have hf0 : ∀ k, (Value.slice A0 n0 kx).ownBlock = some k → k ∈ f0 := fun k hk => by rw [ef0]; exact mem_blkL.2 (blk_of hk)
            have hX : IntO (blkL A2) w6 A2 (n0 + n1) kz (x ++ y) := intO_mk (by simpa using own6)
            have hXg : gb ∉ blkL A2 := fun hb => by
              have hb2 := own_blkD (mem_blkL.1 hb) (n := n0 + n1) (c := kz)
              rcases hob6 with h | h
              · exact hn0 (hf0 gb (h.symm.trans hb2))
              · rw [hb2] at h; injection h with h; omega
            refine hK _ _ ⟨[v23, v24, v25, .slice A0 n0 kx, v27, v28, .slice A1 n1 ky, .slice A2 (n0 + n1) kz, v31], ?_, _, _, _, _, _, _, _, _, _, rfl, (cg.belowB hBw hBw.size (fun k hk => hf0w k (hf0 k hk))), (hRO.ch cmK cg (fun b hb e => by have := hRl b hb; have := hf0z b (hf0 b e); omega)), (cg.cell y1 (fun e => hn0 (hf0 gb e))), (Nat.lt_of_lt_of_le hgw cg.size), (hyy.ch cg (fun b hb e => hd1 b (hf0 b e) hb)), (hE.ch intKc cg (fun b hb e => hd2 b (hf0 b e) hb)), (fun h => absurd h (by simp)), (fun h' => ⟨cg.cell (hz h').1 (fun e => hn0 (hf0 gb e)), own_ch (hz h').2 cg (fun k hk e => hn0 (by simp [Value.ownBlock] at hk; subst hk; exact hf0 _ e))⟩), k0, k1, k2, (fun _ => rfl), k4, k5, (fun _ => rfl), (fun _ => ⟨A2, kz, rfl, hX, hXg⟩), k8, (fun h => by rw [show D 9 = true from by simpa using h] at n9; cases n9)⟩
            simp only [Act.put, putAll, List.setIfInBounds_toArray, List.set_cons_succ, List.set_cons_zero]
          · have e0 := k0 (hdep 0 (by kernel_rfl))
            subst e0
            refine wpOp_step (by simp only [List.getElem?_toArray, List.getElem?_cons_succ, List.getElem?_cons_zero]; rfl) (fun K hK => ?_)
            go_simp
            refine hK _ _ ⟨[.slice (some ⟨gb, 0, none⟩) n' c', v24, v25, v26, v27, v28, v29, v30, .pointer (some ⟨gb, 0, none⟩)], ?_, _, _, _, _, _, _, _, _, _, rfl, hBw, hRO, y1, hgw, hyy, hE, hx0, hz, (fun _ => rfl), k1, k2, k3, k4, k5, k6, k7, (fun _ => rfl), k9⟩
            simp only [putAll, List.setIfInBounds_toArray, List.set_cons_succ, List.set_cons_zero]
          · obtain ⟨A2, kz, rfl, hX, hXg⟩ := k7 (hdep 7 (by kernel_rfl))
            have e8 := k8 (hdep 8 (by kernel_rfl))
            subst e8
            obtain ⟨b0, hO⟩ := hz hD
            have y0 := hO.frozenAt 0
            have d7 : D 7 = true := hdep 7 (by kernel_rfl)
            have own7 := (hO.stored 0 (.slice A2 (n0 + n1) kz)).1
            have one : Ch (fun k => k = gb) w' (w'.setCell ⟨gb, 0, none⟩ (.slice A2 (n0 + n1) kz)) := Ch.set
            refine wpOp_step (by simp only [List.getElem?_toArray, List.getElem?_cons_succ, List.getElem?_cons_zero]; rfl) (fun K hK => ?_)
            go_simp
            refine hK _ _ ⟨[v23, v24, v25, v26, v27, v28, v29, .slice A2 (n0 + n1) kz, .pointer (some ⟨gb, 0, none⟩)], ?_, _, _, _, _, _, _, _, _, _, rfl, (one.belowB hBw hBw.size (fun k hk => by have hk : k = gb := hk; omega)), (hRO.ch cmK one (fun b hb e => by have e : b = gb := e; have := hRl b hb; omega)), (setoff y1 (.inr (by omega))), (Nat.lt_of_lt_of_le hgw one.size), (hyy.ch one (fun b hb e => hn1 (by have e : b = gb := e; subst e; exact hb))), (hE.ch intKc one (fun b hb e => hn2 (by have e : b = gb := e; subst e; exact hb))), (fun h' => by rw [show D 7 = false from by simpa using h'] at d7; cases d7), (fun h => absurd h (by simp)), k0, k1, k2, k3, k4, k5, k6, (fun _ => ⟨A2, kz, rfl, hX.ch one (fun b hb e => hXg (by have e : b = gb := e; subst e; exact hb)), hXg⟩), (fun _ => rfl), (fun _ => ⟨A2, kz, hX.ch one (fun b hb e => hXg (by have e : b = gb := e; subst e; exact hb)), hXg, by simpa using own7⟩)⟩
            simp only [putAll, List.setIfInBounds_toArray, List.set_cons_succ, List.set_cons_zero]
        · intro D vs w' hD hI
          obtain ⟨v23, v24, v25, v26, v27, v28, v29, v30, v31, rfl, hBw, hRO, y1, hgw, hyy, hE, hx0, hz, k0, k1, k2, k3, k4, k5, k6, k7, k8, k9⟩ := hI
          simp only [putAll, List.setIfInBounds_toArray, List.set_cons_succ, List.set_cons_zero]
          obtain ⟨A2, kz, hX, hXg, hO⟩ := k9 (hD 9 (show 9 < 10 by decide))
          clear k0 k1 k2 k3 k4 k5 k6 k7 k8 k9 hx0 hz
          have y1f := hO.frozenAt 1
          go_wp2
          have one : Ch (fun k => k = gb) w' (w'.setCell ⟨gb, 1, none⟩ (.slice (some ⟨w'.heap.size, 0, none⟩) 0 0)) := Ch.set
          have own1 := (hO.stored 1 (.slice (some ⟨w'.heap.size, 0, none⟩) 0 0)).1
          have hx1 := hX.ch one (fun b hb e => hXg (by have e : b = gb := e; subst e; exact hb))
          have E1 := hE.ch intKc one (fun b hb e => hn2 (by have e : b = gb := e; subst e; exact hb))
          have hRO1 := hRO.ch cmK one (fun b hb e => by have e : b = gb := e; have := hRl b hb; omega)
          have hB1 := one.belowB hBw hBw.size (fun k hk => by have hk : k = gb := hk; omega)
          have hWs : (w'.setCell ⟨gb, 1, none⟩ (.slice (some ⟨w'.heap.size, 0, none⟩) 0 0)).heap.size = w'.heap.size := by simp [go_sem]
          have hn1 := intO_mk (l := []) (own_empty (w'.setCell ⟨gb, 1, none⟩ (.slice (some ⟨w'.heap.size, 0, none⟩) 0 0)) 3 1 (Nat.zero_le _))
          rw [hWs] at hn1
          have al := (Below.refl (w'.setCell ⟨gb, 1, none⟩ (.slice (some ⟨w'.heap.size, 0, none⟩) 0 0)).heap.size (w'.setCell ⟨gb, 1, none⟩ (.slice (some ⟨w'.heap.size, 0, none⟩) 0 0))).alloc (Nat.le_refl _) (.cells #[] 3)
          have own' := own_ch own1 (Ch.of_below (S := fun _ => False) al) (fun _ _ h => h)
          have hx' := hx1.keep al
          have E' := E1.keep intKc al
          have hRO2 := hRO1.keep cmK al
          have hB2 := bthen hB1 al
          have RQ' := (RowO.intro (e := 78) (css := [.slice A2 (n0 + n1) kz] :: [.slice (some ⟨w'.heap.size, 0, none⟩) 0 0] :: css) (by simpa using own') (by have := HLQ.out; simpa using this) (els_cons (F := intF) (x := x ++ y) ⟨A2, n0 + n1, kz, rfl, hx'⟩ (els_cons (F := intF) (x := []) ⟨_, 0, 0, rfl, hn1⟩ E'))).at_ intKc (by omega)
          go_returns
          exact ⟨l, A, n, c, fp, (x ++ y) :: [] :: t, _, n', c', rfl, hl, hs, hRO2, RQ', intss_small (fun r hr => by rcases List.mem_cons.1 hr with rfl | hr; rw [List.length_append]; have q0 := hr9 x (by simp); have q1 := hr9 y (by simp); omega; rcases List.mem_cons.1 hr with rfl | hr; exact Nat.zero_le _; have := hr9 r (by simp [hr]); omega) (by simpa using hl9), hB2⟩
  · have hi1 : ¬ (1 : Int) < (n' : Int) := by omega
    go_wp2
    go_returns
    exact ⟨l, A, n, c, fp, b, A', n', c', rfl, hl, hs, RO3, ROq.at_ intKc (by omega), intss_small (fun r hr => by have := hr9 r hr; omega) hl9, hB3⟩
end Go.Proofs.Ytdphdnllhmnelaa
/- full: could there be more sets than may be? A shape: 'no' means that the clients differ and that few names are created. -/
namespace Go.Proofs.Ytdphdnllhmnelaa
open Go.RowKit
/-- how often a client stands among the first k -/
def cntL (l : List Cm) (k j : Nat) : Nat := ((l.take k).map Cm.cl).count (j : Int)
theorem cntL_succ {l : List Cm} {k : Nat} {x : Cm} (h : l[k]? = some x) (j : Nat) : cntL l (k + 1) j = cntL l k j + (if x.cl = (j : Int) then 1 else 0) := by
  have hk : k < l.length := by
    by_cases hk : k < l.length
    · exact hk
    · rw [List.getElem?_eq_none (by omega)] at h; cases h
  rw [List.getElem?_eq_getElem hk] at h
  injection h with h
  unfold cntL
  rw [List.take_succ_eq_append_getElem hk, List.map_append, List.count_append, h]
  simp [List.count_cons]
theorem cntL_le (l : List Cm) (k j : Nat) : cntL l k j ≤ l.length := by
  unfold cntL
  have h1 := List.count_le_length (a := (j : Int)) (l := (l.take k).map Cm.cl)
  have h2 : (l.take k).length ≤ l.length := by rw [List.length_take]; omega
  rw [List.length_map] at h1
  omega
theorem nodup_take {l : List Cm} {k : Nat} {x : Cm} {j : Nat} (h : l[k]? = some x) (hj : x.cl = (j : Int)) (hn : ((l.take k).map Cm.cl).Nodup) (hc : cntL l (k + 1) j ≤ 1) : ((l.take (k + 1)).map Cm.cl).Nodup := by
  have hc2 := cntL_succ h j
  rw [if_pos hj] at hc2
  have h0 : cntL l k j = 0 := by omega
  have hk : k < l.length := by
    by_cases hk : k < l.length
    · exact hk
    · rw [List.getElem?_eq_none (by omega)] at h; cases h
  rw [List.getElem?_eq_getElem hk] at h
  injection h with h
  rw [List.take_succ_eq_append_getElem hk, List.map_append, h]
  refine List.nodup_append.2 ⟨hn, by simp, fun a ha b hb e => ?_⟩
  have hb : b = x.cl := by simpa using hb
  subst e hb
  unfold cntL at h0
  rw [← hj] at h0
  exact (List.count_eq_zero.1 h0) ha
theorem RowF.frzF {e lo hi : Nat} {w : World} {g n c : Nat} {f : Nat → Value} (h : RowF e lo hi w (some ⟨g, 0, none⟩) n c f) (j : Nat) : w.frozen? ⟨g, j, none⟩ = false := (RowIn.own h).frozenAt j
theorem RowF.atF {e lo hi : Nat} {w : World} {g n c : Nat} {f : Nat → Value} (h : RowF e lo hi w (some ⟨g, 0, none⟩) n c f) {j : Nat} (hj : j < n) : w.cell? ⟨g, j, none⟩ = some (f j) := by
  obtain ⟨b, off, e1, hlt, hc⟩ := h.vals (by omega)
  injection e1 with e1; injection e1 with e1 e2 _
  subst e1 e2
  simpa using hc j hj
theorem mem_take_succ {l : List Cm} {k : Nat} {x m : Cm} (h : l[k]? = some x) (hm : m ∈ l.take (k + 1)) : m ∈ l.take k ∨ m = x := by
  have hk : k < l.length := by
    by_cases hk : k < l.length
    · exact hk
    · rw [List.getElem?_eq_none (by omega)] at h; cases h
  rw [List.getElem?_eq_getElem hk] at h
  injection h with h
  rw [List.take_succ_eq_append_getElem hk, h] at hm
  rcases List.mem_append.1 hm with h | h
  · exact .inl h
  · exact .inr (by simpa using h)
theorem RowX.app2 {lo h n c c' m : Nat} {w w' : World} {A A' : Option Addr} {l : List ByteArray} {s : ByteArray} (k : RowX lo h w A n c l) (hh : h < m) (_ : h < w.heap.size) (hb : w.heap.size ≤ w'.heap.size) (ho : w'.ownsRow lo 9 1 (.slice A' (n + 1) c') (n + 1) (l.map Value.string ++ [.string s]))
    (hob : (Value.slice A' (n + 1) c').ownBlock = (Value.slice A n c).ownBlock ∨ (Value.slice A' (n + 1) c').ownBlock = some m) : RowX lo h w' A' (n + 1) c' (l ++ [s]) := by
  unfold RowX at k ⊢
  refine ⟨Nat.le_trans k.1 hb, by simpa using ho, fun e => ?_⟩
  rcases hob with h1 | h1
  · exact k.2.2 (h1.symm.trans e)
  · rw [e] at h1; injection h1 with h1; omega
theorem bthen' {w w' w'' : World} (h : Below w.heap.size w w') (h2 : Below w.heap.size w' w'') : Below w.heap.size w w'' := h.trans h2
theorem hasS_mem {l : List ByteArray} {x : ByteArray} (h : hasS l x = true) : x ∈ l := by
  unfold hasS at h
  simpa using h
/-- what 'no' says -/
def FewOk (l : List Cm) : Prop := (l.map Cm.cl).Nodup ∧ ∃ N : List ByteArray, N.length ≤ 5 ∧ ∀ m ∈ l, m.kd = 1 → m.s ∈ N
/-- the names met -/
def LOk (l : List Cm) (L : List ByteArray) : Prop := L.Nodup ∧ ∀ s ∈ L, ∃ m ∈ l, m.kd = 1 ∧ m.s = s
theorem LOk.nil (l : List Cm) : LOk l [] := ⟨List.nodup_nil, fun s hs => by cases hs⟩
theorem LOk.snoc {l : List Cm} {L : List ByteArray} {x : Cm} (h : LOk l L) (hx : x ∈ l) (hk : x.kd = 1) (hq : hasS L x.s = false) : LOk l (L ++ [x.s]) := by
  have hn : ¬ x.s ∈ L := fun hm => by
    have : hasS L x.s = true := by unfold hasS; simpa using hm
    rw [hq] at this; cases this
  refine ⟨List.nodup_append.2 ⟨h.1, by simp, fun a ha b hb e => ?_⟩, fun s hs => ?_⟩
  · rw [List.mem_singleton] at hb
    subst e hb
    exact hn ha
  · rcases List.mem_append.1 hs with h1 | h1
    · exact h.2 s h1
    · rw [List.mem_singleton] at h1
      exact ⟨x, hx, hk, h1.symm⟩
theorem len_sub {α : Type} [DecidableEq α] : ∀ {L M : List α}, L.Nodup → (∀ s ∈ L, s ∈ M) → L.length ≤ M.length
  | [], _, _, _ => Nat.zero_le _
  | a :: L, M, hn, hs => by
    have hn2 := List.nodup_cons.1 hn
    have ha := hs a (List.mem_cons_self ..)
    have := len_sub (L := L) (M := M.erase a) hn2.2 (fun s h => (List.mem_erase_of_ne (show s ≠ a from fun e => hn2.1 (by rw [← e]; exact h))).2 (hs s (List.mem_cons_of_mem _ h)))
    have h2 := List.length_erase_of_mem ha
    have h3 := List.length_pos_of_mem ha
    simp only [List.length_cons]
    omega
theorem few_many {l : List Cm} {L : List ByteArray} (h : LOk l L) (h5 : 5 < L.length) : ¬ FewOk l := fun ⟨_, N, hN, hm⟩ => by
  have := len_sub (M := N) h.1 (fun s hs => by
    obtain ⟨m, h1, h2, h3⟩ := h.2 s hs
    exact h3 ▸ hm m h1 h2)
  omega
theorem few_twice {l : List Cm} {k j : Nat} (h : 2 ≤ cntL l k j) : ¬ FewOk l := fun hf => by
  have h1 : ((l.take k).map Cm.cl).Nodup := hf.1.sublist ((List.take_sublist _ _).map _)
  have := List.nodup_iff_count.1 h1 (j : Int)
  unfold cntL at h
  omega
attribute [local irreducible] StrsAt StrR RowR RowF cntL
theorem cnt_zero (l : List Cm) (j : Nat) : cntL l 0 j = 0 := by unfold cntL; simp
set_option maxRecDepth 8000 in
set_option maxHeartbeats 4000000 in
theorem full_any (l : List Cm) (A : Option Addr) (n c : Nat) (w : World) (h : RowR cmR 8 w A n c l) (hcl : ∀ m ∈ l, 0 ≤ m.cl ∧ m.cl ≤ 9) (hl : l.length ≤ 1000) :
    Calls Try.prog 48 #[.slice A n c] w fun e w' => ∃ q : Bool, e = .returned (.bool q) ∧ (q = false ↔ FewOk l) ∧ Below w.heap.size w w' := by
  have HL := Lib.hid h.len
  have hn : n ≤ 1000 := by have := h.len; omega
  have HCL := Lib.hid hcl; clear hcl
  obtain ⟨W, hW⟩ : ∃ W, W = w.alloc (.cells #[] 9) := ⟨_, rfl⟩
  have al : Below w.heap.size w W := by rw [hW]; exact (Below.refl _ _).alloc (Nat.le_refl _) _
  have own0 := own_empty w 9 1 (Nat.le_refl w.heap.size)
  rw [← hW] at own0
  have hzW : W.heap.size = w.heap.size + 1 := by rw [hW]; exact Array.size_push _
  go_enter Try.func48, Try.ntmps48
  go_wp2_with (first | (rw [← hW]; (refine wpList_mk (P := Try.prog) _ rfl _ _ 78 rfl W.heap.size 3 _ 1 8 Try.underlying78 infoInt _ _ _ _ 10 rfl rfl rfl rfl (by omega) (by unfold maxLen; omega) (Nat.le_refl _) ?_; intro w2 hown2 hg2 hb2)) | fail)
  have hR : RowF 3 W.heap.size (W.heap.size + 1) w2 (some ⟨W.heap.size, 0, none⟩) 10 10 (fun j => .int .i64 ((cntL l 0 j : Nat) : Int)) := by
    have hx : (madeCells (Value.int .i64 0).cells (10 * 1)).toList = List.replicate 10 (.int .i64 0) := by rw [Nat.mul_one]; exact toList_madeCells_one _ 10
    rw [hx] at hown2
    have h3 : RowF 3 W.heap.size w2.heap.size w2 (some ⟨W.heap.size, 0, none⟩) 10 10 (fun j => .int .i64 ((cntL l 0 j : Nat) : Int)) := RowF.of_own hown2 (fun j hj => by rw [cnt_zero, List.getElem?_replicate, if_pos hj]; rfl)
    unfold RowF at h3 ⊢
    exact ⟨h3.own, fun g hg => by have := hg.eq; omega⟩
  have hG2 : W.heap.size < w2.heap.size := (own_lo hown2 W.heap.size (by simp [blkL])).2
  have hB2 := bthen al hb2
  have hX2 : RowX w.heap.size (w.heap.size + 1) w2 (some ⟨w.heap.size, 0, none⟩) 0 0 [] := by
    unfold RowX
    exact ⟨hB2.size, own_ch own0 (Ch.of_below (S := fun _ => False) hb2) (fun _ _ h => h), fun e => by simp [Value.ownBlock] at e⟩
  rw [hzW] at hR hG2
  clear hown2 hg2 hb2 own0 al hW hzW
  go_loopw [3, 5] (fun o i wr => ∃ (k N : Nat) (O : Option Addr) (cp : Nat) (L : List ByteArray), k ≤ n ∧ i = .int .i64 k ∧ o = .slice O N cp ∧ RowX w.heap.size (w.heap.size + 1) wr O N cp L ∧ ((∀ m ∈ l.take k, m.kd = 1 → m.s ∈ L) ∧ LOk l L) ∧ L.length ≤ k ∧ ((l.take k).map Cm.cl).Nodup ∧ RowF 3 (w.heap.size + 1) ((w.heap.size + 1) + 1) wr (some ⟨(w.heap.size + 1), 0, none⟩) 10 10 (fun j => .int .i64 ((cntL l k j : Nat) : Int)) ∧ (w.heap.size + 1) < wr.heap.size ∧ Below w.heap.size w wr) (fun _ i _ => n - (intOf i).toNat)
  case atStart => exact ⟨0, 0, _, 0, [], by omega, rfl, rfl, hX2, ⟨(fun m hm => by simp at hm), LOk.nil l⟩, by simp, by simp, hR, hG2, hB2⟩
  case round =>
    clear hX2 hR hG2 hB2
    obtain ⟨k, N, O, cp, L, hk, rfl, rfl, hX, hS, hLk, hnd, hR, hG, hB⟩ := hrel
    have HS := Lib.hid hS; have HND := Lib.hid hnd; clear hS hnd
    have hN : L.length = N := by have := hX.own.1; simpa using this
    have hN1 : N ≤ 1000 := by omega
    have HN := Lib.hid hN; clear hN
    by_cases hlt : k < n
    · obtain ⟨b, off, rfl⟩ := h.head (by omega)
      obtain ⟨bl, x, cs, hx, ⟨A1, n1, c1, rfl, y1⟩, hcell⟩ := h.elem_at hlt
      obtain ⟨z0, z9⟩ := HCL.out x (List.mem_of_getElem? hx)
      obtain ⟨cl, hcl⟩ := Int.eq_ofNat_of_zero_le z0
      have hc9 : cl ≤ 9 := by omega
      have f0 : wr.cell? ⟨b, off + k * 8, none⟩ = some (.int .i64 x.kd) := (hB.cell (p := ⟨b, off + k * 8, none⟩) bl).trans (hcell 0 _ rfl)
      have f1 : wr.cell? ⟨b, off + k * 8 + 1, none⟩ = some (.int .i64 x.cl) := (hB.cell (p := ⟨b, off + k * 8 + 1, none⟩) bl).trans (hcell 1 _ rfl)
      have f3 : wr.cell? ⟨b, off + k * 8 + 3, none⟩ = some (.string x.s) := (hB.cell (p := ⟨b, off + k * 8 + 3, none⟩) bl).trans (hcell 3 _ rfl)
      rw [hcl] at f1
      have hkn : (k : Int) < (n : Int) := by omega
      have HC := Lib.hid hcl; have HX := Lib.hid hx
      clear hcell y1 hcl hx z0 z9
      by_cases hk1 : x.kd = 1
      · rw [hk1] at f0
        go_wp2_with fail
        refine (hasText_any _ _ _ L x.s _ (StrsAt.of_own hX.own) (by have := HN.out; omega)).mono ?_
        rintro e w' ⟨rfl, rfl⟩
        obtain ⟨q, hq⟩ : ∃ q, hasS L x.s = q := ⟨_, rfl⟩
        rw [hq]
        have HQ := Lib.hid hq; clear hq
        cases q
        · have own := hX.own
          go_wp2_with (first | (at_builtin; refine wpList_app1g (P := Try.prog) _ rfl (.tmp 30) (.tmp 36) 38 rfl w.heap.size 9 _ 1 16 Try.underlying38 infoString rfl (by omega) (.slice O N cp) _ _ rfl own _ _ rfl (by simp) rfl (by simp [Value.oneCell']) (by unfold maxLen; omega) (by omega) hB.size ?_; intro P3 cp3 w3 own3 hg3 hb3 hob3; refine stop_of ?_) | fail)
          unfold Stop
          have cg := Ch.of_grow hg3
          have hX3 : RowX w.heap.size (w.heap.size + 1) w3 P3 (N + 1) cp3 (L ++ [x.s]) := hX.app2 (m := wr.heap.size + 1) (by omega) (by omega) hb3.size (by simpa using own3) hob3
          have hR3 := hR.ch cg (fun t ht e => by have := hX.blk e; unfold Iv at ht; omega)
          have hG3 := Nat.lt_of_lt_of_le hG cg.size
          have hB3 := bthen' hB hb3
          have f1' := cg.cell f1 (fun e => by have := hX.blk e; omega)
          have f0' := cg.cell f0 (fun e => by have := hX.blk e; omega)
          have f3' := cg.cell f3 (fun e => by have := hX.blk e; omega)
          clear f0 f1 f3 own own3 hg3 hob3 cg hX hR hG hB hb3
          have f0 := f0'; have f1 := f1'; have f3 := f3'; clear f0' f1' f3'
          go_upto_region 8 with fail
          have rc := hR3.atF (j := cl) (by omega)
          have rf := hR3.frzF cl
          have hcle := cntL_le l k cl
          have hci : (cl : Int) < 10 := by omega
          obtain ⟨ct, hct⟩ : ∃ ct, cntL l k cl = ct := ⟨_, rfl⟩
          have HCT := Lib.hid hct
          rw [hct] at rc hcle
          have hct3 : ct ≤ 1000 := by omega
          clear hct
          refine wp_region_last rfl (by kernel_rfl) (by kernel_rfl) (by kernel_rfl) (by kernel_rfl) ?_
          simp only [List.dropLast]
          repeat (quiet_step (fail))
          refine wpQuiet_nil ?_
          intro _ hw'
          obtain ⟨nq, rfl⟩ := hw'
          refine wpOp_at rfl rfl (fun K' hK' => ?_)
          go_simp
          have hw1 : IntKind.i64.wrap ((ct : Int) + 1) = ((ct + 1 : Nat) : Int) := by rw [IntKind.wrap_i64]; omega
          refine hK' _ _ ?_
          rw [hw1]
          obtain ⟨V, hV⟩ : ∃ V, V = (w3.drewN nq).setCell ⟨(w.heap.size + 1), cl, none⟩ (.int .i64 ((ct + 1 : Nat) : Int)) := ⟨_, rfl⟩
          rw [← hV]
          have one : Ch (fun b => b = (w.heap.size + 1)) w3 V := by rw [hV]; exact ((Ch.refl (S := fun b => b = (w.heap.size + 1)) w3).drewN nq).setCell (p := ⟨(w.heap.size + 1), cl, none⟩) rfl _
          have RV : RowF 3 (w.heap.size + 1) ((w.heap.size + 1) + 1) V (some ⟨(w.heap.size + 1), 0, none⟩) 10 10 (fun j => .int .i64 ((cntL l (k + 1) j : Nat) : Int)) := by
            rw [hV]
            refine ((hR3.ch ((Ch.refl (S := fun _ => False) w3).drewN nq) (fun _ _ h => h)).store cl (.int .i64 ((ct + 1 : Nat) : Int))).congr (fun j hj => ?_)
            rw [cntL_succ HX.out j]
            by_cases e : j = cl
            · rw [if_pos e, e, if_pos HC.out, HCT.out]
            · rw [if_neg e, if_neg (fun h => e (by have := HC.out; omega))]; simp
          have XV := hX3.ch one (fun b _ hh e => hh e)
          have gV := Nat.lt_of_lt_of_le hG3 one.size
          have BV := one.belowB hB3 hB3.size (fun t ht => by have ht : t = _ := ht; omega)
          have f1V := one.cell f1 (fun e => by have e : b = _ := e; omega)
          have rV := RV.atF (j := cl) (by omega)
          have HC2 := Lib.hid (show cntL l (k + 1) cl = ct + 1 by rw [cntL_succ HX.out cl, if_pos HC.out, HCT.out])
          rw [HC2.out] at rV
          clear one hV f0 f1 f3 rc rf hK' hw1
          by_cases hgt : 0 < ct
          · have gi : (1 : Int) < ((ct + 1 : Nat) : Int) := by omega
            go_wp2
            go_returns
            exact ⟨true, rfl, ⟨(fun h => by cases h), (fun h => absurd h (few_twice (k := k + 1) (j := cl) (by rw [HC2.out]; omega)))⟩, BV⟩
          · have gi : ¬ (1 : Int) < ((ct + 1 : Nat) : Int) := by omega
            go_wp2
            exact ⟨⟨k + 1, (N + 1), P3, cp3, (L ++ [x.s]), by omega, by go_num, rfl, XV, ⟨(fun m hm h1 => by rcases mem_take_succ HX.out hm with h | h; exact List.mem_append_left _ (HS.out.1 m h h1); subst h; simp), HS.out.2.snoc (List.mem_of_getElem? HX.out) hk1 HQ.out⟩, by simp; omega, nodup_take HX.out HC.out HND.out (by rw [HC2.out]; omega), RV, gV, BV⟩, by simp [intOf]; omega⟩
        · go_upto_region 8 with fail
          have rc := hR.atF (j := cl) (by omega)
          have rf := hR.frzF cl
          have hcle := cntL_le l k cl
          have hci : (cl : Int) < 10 := by omega
          obtain ⟨ct, hct⟩ : ∃ ct, cntL l k cl = ct := ⟨_, rfl⟩
          have HCT := Lib.hid hct
          rw [hct] at rc hcle
          have hct3 : ct ≤ 1000 := by omega
          clear hct
          refine wp_region_last rfl (by kernel_rfl) (by kernel_rfl) (by kernel_rfl) (by kernel_rfl) ?_
          simp only [List.dropLast]
          repeat (quiet_step (fail))
          refine wpQuiet_nil ?_
          intro _ hw'
          obtain ⟨nq, rfl⟩ := hw'
          refine wpOp_at rfl rfl (fun K' hK' => ?_)
          go_simp
          have hw1 : IntKind.i64.wrap ((ct : Int) + 1) = ((ct + 1 : Nat) : Int) := by rw [IntKind.wrap_i64]; omega
          refine hK' _ _ ?_
          rw [hw1]
          obtain ⟨V, hV⟩ : ∃ V, V = (wr.drewN nq).setCell ⟨(w.heap.size + 1), cl, none⟩ (.int .i64 ((ct + 1 : Nat) : Int)) := ⟨_, rfl⟩
          rw [← hV]
          have one : Ch (fun b => b = (w.heap.size + 1)) wr V := by rw [hV]; exact ((Ch.refl (S := fun b => b = (w.heap.size + 1)) wr).drewN nq).setCell (p := ⟨(w.heap.size + 1), cl, none⟩) rfl _
          have RV : RowF 3 (w.heap.size + 1) ((w.heap.size + 1) + 1) V (some ⟨(w.heap.size + 1), 0, none⟩) 10 10 (fun j => .int .i64 ((cntL l (k + 1) j : Nat) : Int)) := by
            rw [hV]
            refine ((hR.ch ((Ch.refl (S := fun _ => False) wr).drewN nq) (fun _ _ h => h)).store cl (.int .i64 ((ct + 1 : Nat) : Int))).congr (fun j hj => ?_)
            rw [cntL_succ HX.out j]
            by_cases e : j = cl
            · rw [if_pos e, e, if_pos HC.out, HCT.out]
            · rw [if_neg e, if_neg (fun h => e (by have := HC.out; omega))]; simp
          have XV := hX.ch one (fun b _ hh e => hh e)
          have gV := Nat.lt_of_lt_of_le hG one.size
          have BV := one.belowB hB hB.size (fun t ht => by have ht : t = _ := ht; omega)
          have f1V := one.cell f1 (fun e => by have e : b = _ := e; omega)
          have rV := RV.atF (j := cl) (by omega)
          have HC2 := Lib.hid (show cntL l (k + 1) cl = ct + 1 by rw [cntL_succ HX.out cl, if_pos HC.out, HCT.out])
          rw [HC2.out] at rV
          clear one hV f0 f1 f3 rc rf hK' hw1
          by_cases hgt : 0 < ct
          · have gi : (1 : Int) < ((ct + 1 : Nat) : Int) := by omega
            go_wp2
            go_returns
            exact ⟨true, rfl, ⟨(fun h => by cases h), (fun h => absurd h (few_twice (k := k + 1) (j := cl) (by rw [HC2.out]; omega)))⟩, BV⟩
          · have gi : ¬ (1 : Int) < ((ct + 1 : Nat) : Int) := by omega
            go_wp2
            exact ⟨⟨k + 1, N, O, cp, L, by omega, by go_num, rfl, XV, ⟨(fun m hm h1 => by rcases mem_take_succ HX.out hm with h | h; exact HS.out.1 m h h1; subst h; exact hasS_mem HQ.out), HS.out.2⟩, by omega, nodup_take HX.out HC.out HND.out (by rw [HC2.out]; omega), RV, gV, BV⟩, by simp [intOf]; omega⟩
      · have hk1b : (x.kd == 1) = false := by simp [hk1]
        go_upto_region 8 with fail
        have rc := hR.atF (j := cl) (by omega)
        have rf := hR.frzF cl
        have hcle := cntL_le l k cl
        have hci : (cl : Int) < 10 := by omega
        obtain ⟨ct, hct⟩ : ∃ ct, cntL l k cl = ct := ⟨_, rfl⟩
        have HCT := Lib.hid hct
        rw [hct] at rc hcle
        have hct3 : ct ≤ 1000 := by omega
        clear hct
        refine wp_region_last rfl (by kernel_rfl) (by kernel_rfl) (by kernel_rfl) (by kernel_rfl) ?_
        simp only [List.dropLast]
        repeat (quiet_step (fail))
        refine wpQuiet_nil ?_
        intro _ hw'
        obtain ⟨nq, rfl⟩ := hw'
        refine wpOp_at rfl rfl (fun K' hK' => ?_)
        go_simp
        have hw1 : IntKind.i64.wrap ((ct : Int) + 1) = ((ct + 1 : Nat) : Int) := by rw [IntKind.wrap_i64]; omega
        refine hK' _ _ ?_
        rw [hw1]
        obtain ⟨V, hV⟩ : ∃ V, V = (wr.drewN nq).setCell ⟨(w.heap.size + 1), cl, none⟩ (.int .i64 ((ct + 1 : Nat) : Int)) := ⟨_, rfl⟩
        rw [← hV]
        have one : Ch (fun b => b = (w.heap.size + 1)) wr V := by rw [hV]; exact ((Ch.refl (S := fun b => b = (w.heap.size + 1)) wr).drewN nq).setCell (p := ⟨(w.heap.size + 1), cl, none⟩) rfl _
        have RV : RowF 3 (w.heap.size + 1) ((w.heap.size + 1) + 1) V (some ⟨(w.heap.size + 1), 0, none⟩) 10 10 (fun j => .int .i64 ((cntL l (k + 1) j : Nat) : Int)) := by
          rw [hV]
          refine ((hR.ch ((Ch.refl (S := fun _ => False) wr).drewN nq) (fun _ _ h => h)).store cl (.int .i64 ((ct + 1 : Nat) : Int))).congr (fun j hj => ?_)
          rw [cntL_succ HX.out j]
          by_cases e : j = cl
          · rw [if_pos e, e, if_pos HC.out, HCT.out]
          · rw [if_neg e, if_neg (fun h => e (by have := HC.out; omega))]; simp
        have XV := hX.ch one (fun b _ hh e => hh e)
        have gV := Nat.lt_of_lt_of_le hG one.size
        have BV := one.belowB hB hB.size (fun t ht => by have ht : t = _ := ht; omega)
        have f1V := one.cell f1 (fun e => by have e : b = _ := e; omega)
        have rV := RV.atF (j := cl) (by omega)
        have HC2 := Lib.hid (show cntL l (k + 1) cl = ct + 1 by rw [cntL_succ HX.out cl, if_pos HC.out, HCT.out])
        rw [HC2.out] at rV
        clear one hV f0 f1 f3 rc rf hK' hw1
        by_cases hgt : 0 < ct
        · have gi : (1 : Int) < ((ct + 1 : Nat) : Int) := by omega
          go_wp2
          go_returns
          exact ⟨true, rfl, ⟨(fun h => by cases h), (fun h => absurd h (few_twice (k := k + 1) (j := cl) (by rw [HC2.out]; omega)))⟩, BV⟩
        · have gi : ¬ (1 : Int) < ((ct + 1 : Nat) : Int) := by omega
          go_wp2
          exact ⟨⟨k + 1, N, O, cp, L, by omega, by go_num, rfl, XV, ⟨(fun m hm h1 => by rcases mem_take_succ HX.out hm with h | h; exact HS.out.1 m h h1; exact absurd (h ▸ h1) hk1), HS.out.2⟩, by omega, nodup_take HX.out HC.out HND.out (by rw [HC2.out]; omega), RV, gV, BV⟩, by simp [intOf]; omega⟩
    · have hkn : k = n := by omega
      subst hkn
      have ilt : ¬ ((k : Int) < (k : Int)) := by omega
      have HF : N ≤ 5 → FewOk l := fun h5 => by
        have e : l.take k = l := List.take_of_length_le (by have := HL.out; omega)
        have h1 := HND.out; have h2 := HS.out.1
        rw [e] at h1 h2
        exact ⟨h1, L, by have := HN.out; omega, h2⟩
      by_cases h5 : 5 < N
      · have h5i : (5 : Int) < (N : Int) := by omega
        have HF2 := Lib.hid (few_many HS.out.2 (by have := HN.out; omega)); clear HF HS HND
        go_wp2
        refine bodyPost_ret (v := .bool true) (by simp [results, Try.results48, go_sem]) rfl (.inr ⟨rfl, HF2.out, hB⟩)
      · have h5i : ¬ (5 : Int) < (N : Int) := by omega
        have HF2 := Lib.hid (HF (by omega)); clear HF HS HND
        go_wp2
        refine bodyPost_ret (v := .bool false) (by simp [results, Try.results48, go_sem]) rfl (.inl ⟨rfl, HF2.out, hB⟩)
end Go.Proofs.Ytdphdnllhmnelaa
