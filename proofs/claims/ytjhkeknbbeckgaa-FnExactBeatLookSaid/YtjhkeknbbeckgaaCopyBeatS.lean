/- Contract of l33Copy: three rows of three. -/
import Derived.Test.YtjhkeknbbeckgaaChains
namespace Go.Proofs.Ytjhkeknbbeckgaa
open Go.RowKit
attribute [local irreducible] ResBox

/-- one of the three rows on its way: nothing, the empty row, the row -/
def ChA (e m : Nat) (f : Nat → Value) (s : Nat) (u r : Value) (w : World) : Prop :=
  match s with
  | 0 => r = undef
  | 1 => r = undef ∧ ∃ g, u = .slice (some ⟨g, 0, none⟩) 0 0
  | _ => ∃ A d, r = .slice A 3 d ∧ RowF e m w.heap.size w A 3 d f
theorem ChA.keep {e m s : Nat} {f : Nat → Value} {u r : Value} {w w' : World} (h : ChA e m f s u r w) (hb : Below w.heap.size w w') : ChA e m f s u r w' := by
  match s, h with
  | 0, h => exact h
  | 1, h => exact h
  | _ + 2, ⟨A, d, hr, hro⟩ => exact ⟨A, d, hr, (hro.keep hb).wide (Nat.le_refl _) hb.size⟩
def Apart (u v : Value) : Prop := ∀ b A n c A' n' c', u = .slice A n c → v = .slice A' n' c' → BlkOf A b → ¬ BlkOf A' b
theorem Apart.undefL {v : Value} : Apart undef v := fun _ _ _ _ _ _ _ h => by cases h
theorem Apart.undefR {v : Value} : Apart v undef := fun _ _ _ _ _ _ _ _ h => by cases h
theorem Apart.symm {u v : Value} (h : Apart u v) : Apart v u := fun b A n c A' n' c' h1 h2 h3 h4 => h b A' n' c' A n c h2 h1 h4 h3
theorem Apart.new {e m e' hi s : Nat} {f f' : Nat → Value} {u r : Value} {w w' : World} {A : Option Addr} {n c : Nat} (h : ChA e m f s u r w) (h' : RowF e' w.heap.size hi w' A n c f') : Apart r (.slice A n c) := by
  match s, h with
  | 0, h => subst h; exact Apart.undefL
  | 1, ⟨h, _⟩ => subst h; exact Apart.undefL
  | _ + 2, ⟨A1, d, hr, hro⟩ =>
    subst hr
    intro b A2 n2 c2 A3 n3 c3 e1 e2 h3 h4
    cases e1; cases e2
    have := (hro.blk h3).2
    have := (h'.blk h4).1.1
    omega
attribute [local irreducible] Apart

set_option maxRecDepth 20000 in
set_option maxHeartbeats 8000000 in
theorem l33Copy_spec (A1 : Option Addr) (c1 : Nat) (f1 : Nat → Int) (A2 : Option Addr) (c2 : Nat) (f2 : Nat → Int) (A3 : Option Addr) (c3 : Nat) (f3 : Nat → Bool) (w : World) (h : BtAt w A1 3 f1 A2 3 f2 A3 3 f3) :
    Calls Try.prog 87 #[.agg #[.slice A1 3 c1, .slice A2 3 c2, .slice A3 3 c3]] w fun e w' => ∃ B1 d1 B2 d2 B3 d3, e = .returned (.agg #[.slice B1 3 d1, .slice B2 3 d2, .slice B3 3 d3]) ∧
      BtIn w.heap.size w'.heap.size w' B1 3 d1 f1 B2 3 d2 f2 B3 3 d3 f3 ∧ Below w.heap.size w w' := by
  obtain ⟨b1, o1, rfl, hl1, hk1⟩ := h.1 (by omega)
  obtain ⟨b2, o2, rfl, hl2, hk2⟩ := h.2.1 (by omega)
  obtain ⟨b3, o3, rfl, hl3, hk3⟩ := h.2.2 (by omega)
  clear h
  obtain ⟨i0, hi0, hz0, hz1, hz2⟩ := info_parts infoInt
  obtain ⟨j0, hj0, hy0, hy1, hy2⟩ := info_parts infoBool
  go_enter Try.func87, Try.ntmps87
  go_wp2
  obtain ⟨W, hW⟩ : ∃ W, W = (w.alloc (.cells #[.slice (some ⟨b1, o1, none⟩) 3 c1, .slice (some ⟨b2, o2, none⟩) 3 c2, .slice (some ⟨b3, o3, none⟩) 3 c3] 27)).alloc (.cells #[.slice none 0 0, .slice none 0 0, .slice none 0 0] 27) := ⟨_, rfl⟩
  have y0 : W.cell? ⟨w.heap.size, 0, none⟩ = some (.slice (some ⟨b1, o1, none⟩) 3 c1) := by subst hW; simp [go_sem]
  have y1 : W.cell? ⟨w.heap.size, 1, none⟩ = some (.slice (some ⟨b2, o2, none⟩) 3 c2) := by subst hW; simp [go_sem]
  have y2 : W.cell? ⟨w.heap.size, 2, none⟩ = some (.slice (some ⟨b3, o3, none⟩) 3 c3) := by subst hW; simp [go_sem]
  have xR : ResBox W (w.heap.size + 1) := by
    subst hW; unfold ResBox
    exact ⟨.slice none 0 0, .slice none 0 0, .slice none 0 0, by simp [go_sem], by simp [go_sem], by simp [go_sem], by simp [go_sem], by simp [go_sem], by simp [go_sem]⟩
  have hWs : W.heap.size = w.heap.size + 2 := by subst hW; simp
  have hWb : Below w.heap.size w W := by subst hW; exact ((Below.refl _ _).alloc (Nat.le_refl _) _).alloc (by simp) _
  rw [← hW]
  clear hW
  have HWS := Lib.hid hWs
  have hzW : w.heap.size + 2 ≤ W.heap.size := by omega
  clear hWs
  refine wp_region_noPanic ?_
  refine wp_region_held_drew (S := fun w' => w'.cell? ⟨w.heap.size, 0, none⟩ = some (.slice (some ⟨b1, o1, none⟩) 3 c1) ∧ w'.cell? ⟨w.heap.size, 1, none⟩ = some (.slice (some ⟨b2, o2, none⟩) 3 c2) ∧ w'.cell? ⟨w.heap.size, 2, none⟩ = some (.slice (some ⟨b3, o3, none⟩) 3 c3) ∧ ResBox w' (w.heap.size + 1) ∧ Below w.heap.size w w') (by kernel_rfl) ⟨y0, y1, y2, xR.keep (Below.refl _ _).drew, hWb.drew⟩ (fun hS0 => ?_)
  refine wpAnyH_take (i := 1) (v := ?_) (by simp only [List.getElem?_toArray, List.getElem?_cons_succ, List.getElem?_cons_zero]; rfl) (by kernel_rfl) (by kernel_rfl) (by kernel_rfl) (fun _ _ _ h => h) (Or.inl ⟨by rfl, by intro w' hSw; (try dsimp only at hSw); go_simp; (try with_reducible rfl)⟩) hS0 ?_
  simp only [Act.put, List.setIfInBounds_toArray, List.set_cons_zero, List.set_cons_succ]
  refine wpAnyH_take (i := 2) (v := ?_) (by simp only [List.getElem?_toArray, List.getElem?_cons_succ, List.getElem?_cons_zero]; rfl) (by kernel_rfl) (by kernel_rfl) (by kernel_rfl) (fun _ _ _ h => h) (Or.inl ⟨by rfl, by intro w' hSw; (try dsimp only at hSw); go_simp; (try with_reducible rfl)⟩) hS0 ?_
  simp only [Act.put, List.setIfInBounds_toArray, List.set_cons_zero, List.set_cons_succ]
  refine wpAnyH_take (i := 5) (v := ?_) (by simp only [List.getElem?_toArray, List.getElem?_cons_succ, List.getElem?_cons_zero]; rfl) (by kernel_rfl) (by kernel_rfl) (by kernel_rfl) (fun _ _ _ h => h) (Or.inl ⟨by rfl, by intro w' hSw; (try dsimp only at hSw); go_simp; (try with_reducible rfl)⟩) hS0 ?_
  simp only [Act.put, List.setIfInBounds_toArray, List.set_cons_zero, List.set_cons_succ]
  refine wpAnyH_take (i := 6) (v := ?_) (by simp only [List.getElem?_toArray, List.getElem?_cons_succ, List.getElem?_cons_zero]; rfl) (by kernel_rfl) (by kernel_rfl) (by kernel_rfl) (fun _ _ _ h => h) (Or.inl ⟨by rfl, by intro w' hSw; (try dsimp only at hSw); go_simp; (try with_reducible rfl)⟩) hS0 ?_
  simp only [Act.put, List.setIfInBounds_toArray, List.set_cons_zero, List.set_cons_succ]
  refine wpAnyH_take (i := 9) (v := ?_) (by simp only [List.getElem?_toArray, List.getElem?_cons_succ, List.getElem?_cons_zero]; rfl) (by kernel_rfl) (by kernel_rfl) (by kernel_rfl) (fun _ _ _ h => h) (Or.inl ⟨by rfl, by intro w' hSw; (try dsimp only at hSw); go_simp; (try with_reducible rfl)⟩) hS0 ?_
  simp only [Act.put, List.setIfInBounds_toArray, List.set_cons_zero, List.set_cons_succ]
  refine wpAnyH_take (i := 10) (v := ?_) (by simp only [List.getElem?_toArray, List.getElem?_cons_succ, List.getElem?_cons_zero]; rfl) (by kernel_rfl) (by kernel_rfl) (by kernel_rfl) (fun _ _ _ h => h) (Or.inl ⟨by rfl, by intro w' hSw; (try dsimp only at hSw); go_simp; (try with_reducible rfl)⟩) hS0 ?_
  simp only [Act.put, List.setIfInBounds_toArray, List.set_cons_zero, List.set_cons_succ]
  refine (show ∀ {ops Q S L a w'} (l0 : L = (fun s1 s2 s3 : Nat => (#[decide (0 < s1), true, true, decide (1 < s1), decide (0 < s2), true, true, decide (1 < s2), decide (0 < s3), true, true, decide (1 < s3), false, false] : Array Bool)) 0 0 0), wpAnyH Try.prog .any ops Q S 8 ((fun s1 s2 s3 : Nat => (#[decide (0 < s1), true, true, decide (1 < s1), decide (0 < s2), true, true, decide (1 < s2), decide (0 < s3), true, true, decide (1 < s3), false, false] : Array Bool)) 0 0 0) a w' → wpAnyH Try.prog .any ops Q S 8 L a w' from fun l0 h => l0 ▸ h) (by kernel_rfl) ?_
  refine chains_walk (fuel := 2) (fun s1 s2 s3 => #[decide (0 < s1), true, true, decide (1 < s1), decide (0 < s2), true, true, decide (1 < s2), decide (0 < s3), true, true, decide (1 < s3), false, false])
    (fun s1 s2 s3 a w' => ∃ u3 u6 u7 u10 u11 u14, a = { tmps := #[.agg #[.slice (some ⟨b1, o1, none⟩) 3 c1, .slice (some ⟨b2, o2, none⟩) 3 c2, .slice (some ⟨b3, o3, none⟩) 3 c3], .pointer (some ⟨w.heap.size, 0, none⟩), .pointer (some ⟨w.heap.size + 1, 0, none⟩), u3, .pointer (some ⟨w.heap.size, 0, none⟩), .slice (some ⟨b1, o1, none⟩) 3 c1, u6, u7, .pointer (some ⟨w.heap.size, 1, none⟩), .slice (some ⟨b2, o2, none⟩) 3 c2, u10, u11, .pointer (some ⟨w.heap.size, 2, none⟩), .slice (some ⟨b3, o3, none⟩) 3 c3, u14, undef], defers := [] } ∧
      (w'.cell? ⟨w.heap.size, 0, none⟩ = some (.slice (some ⟨b1, o1, none⟩) 3 c1) ∧ w'.cell? ⟨w.heap.size, 1, none⟩ = some (.slice (some ⟨b2, o2, none⟩) 3 c2) ∧ w'.cell? ⟨w.heap.size, 2, none⟩ = some (.slice (some ⟨b3, o3, none⟩) 3 c3) ∧ ResBox w' (w.heap.size + 1) ∧ Below w.heap.size w w') ∧
      w.heap.size + 2 ≤ w'.heap.size ∧ ChA 3 (w.heap.size + 2) (intV f1) s1 u3 u6 w' ∧ ChA 3 (w.heap.size + 2) (intV f2) s2 u7 u10 w' ∧ ChA 4 (w.heap.size + 2) (boolV f3) s3 u11 u14 w' ∧ Apart u6 u10 ∧ Apart u6 u14 ∧ Apart u10 u14)
    0 3 4 7 8 11 (by kernel_rfl) ?hS ?st1 ?st2 ?st3 ?hend 6 0 0 0 _ _ (by omega) (by omega) (by omega) (by omega) ⟨undef, undef, undef, undef, undef, undef, rfl, hS0, hzW, rfl, rfl, rfl, Apart.undefL, Apart.undefL, Apart.undefL⟩
  case hS => rintro s1 s2 s3 a w' ⟨u3, u6, u7, u10, u11, u14, _, hS, _⟩; exact hS
  case st1 =>
    rintro s1 s2 s3 a w' hs ⟨u3, u6, u7, u10, u11, u14, rfl, hS, hsz, k1, k2, k3, a12, a13, a23⟩
    rcases (show s1 = 0 ∨ s1 = 1 by omega) with rfl | rfl
    · refine wpOp_step (by simp only [nextOf, if_true, List.getElem?_toArray, List.getElem?_cons_succ, List.getElem?_cons_zero]; rfl) (fun K hK => ?_)
      have hbw : Below w'.heap.size w' (w'.alloc (.cells #[] 3)) := (Below.refl _ _).alloc (Nat.le_refl _) _
      obtain ⟨hu, -⟩ : u6 = undef ∧ True := ⟨k1, trivial⟩
      subst hu
      go_simp
      refine hK _ _ ⟨_, undef, u7, u10, u11, u14, rfl, ⟨keep_cell hbw hS.1, keep_cell hbw hS.2.1, keep_cell hbw hS.2.2.1, hS.2.2.2.1.keep hbw, bthen hS.2.2.2.2 hbw⟩, Nat.le_trans hsz hbw.size, ⟨rfl, _, rfl⟩, k2.keep hbw, k3.keep hbw, a12, a13, a23⟩
    · refine wpOp_step (by simp only [nextOf, Nat.one_ne_zero, if_false, List.getElem?_toArray, List.getElem?_cons_succ, List.getElem?_cons_zero]; rfl) (fun K hK => ?_)
      obtain ⟨hu, g0, hg0⟩ := k1
      subst hu; subst hg0
      refine step_append_grows (o := ⟨some 6, _, _, _, _, _⟩) (by rfl) (.tmp 3) (.tmp 5) 24 (by rfl) 3 i0 (.int .i64 0) 1 8 Try.underlying24 hi0 hz0 hz1 hz2 rfl (by omega) _ 0 0 [] (by rfl) (fun _ => ⟨rfl, rfl⟩) (by rfl) (fun _ _ j u hu => by simp at hu) ⟨b1, o1, none⟩ 3 c1 ((List.range 3).map (intV f1)) (by rfl) (by rfl)
          (news3 (fun i hi => ((hS.2.2.2.2.cell (p := ⟨b1, o1 + i, none⟩) hl1).trans (hk1 i hi)))) (one3i _) (by omega) (by unfold maxLen; omega) (by omega) ?_
      intro va wa howna hga
      have hbw := below_none hga
      obtain ⟨B, d, hva, hra⟩ := row_made howna
      subst hva
      refine hK _ _ ⟨_, _, u7, u10, u11, u14, rfl, ⟨keep_cell hbw hS.1, keep_cell hbw hS.2.1, keep_cell hbw hS.2.2.1, hS.2.2.2.1.keep hbw, bthen hS.2.2.2.2 hbw⟩, Nat.le_trans hsz hbw.size, ⟨B, d, rfl, hra.wide hsz (Nat.le_refl _)⟩, k2.keep hbw, k3.keep hbw, (Apart.new k2 hra).symm, (Apart.new k3 hra).symm, a23⟩
  case st2 =>
    rintro s1 s2 s3 a w' hs ⟨u3, u6, u7, u10, u11, u14, rfl, hS, hsz, k1, k2, k3, a12, a13, a23⟩
    rcases (show s2 = 0 ∨ s2 = 1 by omega) with rfl | rfl
    · refine wpOp_step (by simp only [nextOf, if_true, List.getElem?_toArray, List.getElem?_cons_succ, List.getElem?_cons_zero]; rfl) (fun K hK => ?_)
      have hbw : Below w'.heap.size w' (w'.alloc (.cells #[] 3)) := (Below.refl _ _).alloc (Nat.le_refl _) _
      obtain ⟨hu, -⟩ : u10 = undef ∧ True := ⟨k2, trivial⟩
      subst hu
      go_simp
      refine hK _ _ ⟨u3, u6, _, undef, u11, u14, rfl, ⟨keep_cell hbw hS.1, keep_cell hbw hS.2.1, keep_cell hbw hS.2.2.1, hS.2.2.2.1.keep hbw, bthen hS.2.2.2.2 hbw⟩, Nat.le_trans hsz hbw.size, k1.keep hbw, ⟨rfl, _, rfl⟩, k3.keep hbw, a12, a13, a23⟩
    · refine wpOp_step (by simp only [nextOf, Nat.one_ne_zero, if_false, List.getElem?_toArray, List.getElem?_cons_succ, List.getElem?_cons_zero]; rfl) (fun K hK => ?_)
      obtain ⟨hu, g0, hg0⟩ := k2
      subst hu; subst hg0
      refine step_append_grows (o := ⟨some 10, _, _, _, _, _⟩) (by rfl) (.tmp 7) (.tmp 9) 24 (by rfl) 3 i0 (.int .i64 0) 1 8 Try.underlying24 hi0 hz0 hz1 hz2 rfl (by omega) _ 0 0 [] (by rfl) (fun _ => ⟨rfl, rfl⟩) (by rfl) (fun _ _ j u hu => by simp at hu) ⟨b2, o2, none⟩ 3 c2 ((List.range 3).map (intV f2)) (by rfl) (by rfl)
          (news3 (fun i hi => ((hS.2.2.2.2.cell (p := ⟨b2, o2 + i, none⟩) hl2).trans (hk2 i hi)))) (one3i _) (by omega) (by unfold maxLen; omega) (by omega) ?_
      intro va wa howna hga
      have hbw := below_none hga
      obtain ⟨B, d, hva, hra⟩ := row_made howna
      subst hva
      refine hK _ _ ⟨u3, u6, _, _, u11, u14, rfl, ⟨keep_cell hbw hS.1, keep_cell hbw hS.2.1, keep_cell hbw hS.2.2.1, hS.2.2.2.1.keep hbw, bthen hS.2.2.2.2 hbw⟩, Nat.le_trans hsz hbw.size, k1.keep hbw, ⟨B, d, rfl, hra.wide hsz (Nat.le_refl _)⟩, k3.keep hbw, Apart.new k1 hra, a13, (Apart.new k3 hra).symm⟩
  case st3 =>
    rintro s1 s2 s3 a w' hs ⟨u3, u6, u7, u10, u11, u14, rfl, hS, hsz, k1, k2, k3, a12, a13, a23⟩
    rcases (show s3 = 0 ∨ s3 = 1 by omega) with rfl | rfl
    · refine wpOp_step (by simp only [nextOf, if_true, List.getElem?_toArray, List.getElem?_cons_succ, List.getElem?_cons_zero]; rfl) (fun K hK => ?_)
      have hbw : Below w'.heap.size w' (w'.alloc (.cells #[] 4)) := (Below.refl _ _).alloc (Nat.le_refl _) _
      obtain ⟨hu, -⟩ : u14 = undef ∧ True := ⟨k3, trivial⟩
      subst hu
      go_simp
      refine hK _ _ ⟨u3, u6, u7, u10, _, undef, rfl, ⟨keep_cell hbw hS.1, keep_cell hbw hS.2.1, keep_cell hbw hS.2.2.1, hS.2.2.2.1.keep hbw, bthen hS.2.2.2.2 hbw⟩, Nat.le_trans hsz hbw.size, k1.keep hbw, k2.keep hbw, ⟨rfl, _, rfl⟩, a12, a13, a23⟩
    · refine wpOp_step (by simp only [nextOf, Nat.one_ne_zero, if_false, List.getElem?_toArray, List.getElem?_cons_succ, List.getElem?_cons_zero]; rfl) (fun K hK => ?_)
      obtain ⟨hu, g0, hg0⟩ := k3
      subst hu; subst hg0
      refine step_append_grows (o := ⟨some 14, _, _, _, _, _⟩) (by rfl) (.tmp 11) (.tmp 13) 25 (by rfl) 4 j0 (.bool false) 1 1 Try.underlying25 hj0 hy0 hy1 hy2 rfl (by omega) _ 0 0 [] (by rfl) (fun _ => ⟨rfl, rfl⟩) (by rfl) (fun _ _ j u hu => by simp at hu) ⟨b3, o3, none⟩ 3 c3 ((List.range 3).map (boolV f3)) (by rfl) (by rfl)
          (news3 (fun i hi => ((hS.2.2.2.2.cell (p := ⟨b3, o3 + i, none⟩) hl3).trans (hk3 i hi)))) (one3b _) (by omega) (by unfold maxLen; omega) (by omega) ?_
      intro va wa howna hga
      have hbw := below_none hga
      obtain ⟨B, d, hva, hra⟩ := row_made howna
      subst hva
      refine hK _ _ ⟨u3, u6, u7, u10, _, _, rfl, ⟨keep_cell hbw hS.1, keep_cell hbw hS.2.1, keep_cell hbw hS.2.2.1, hS.2.2.2.1.keep hbw, bthen hS.2.2.2.2 hbw⟩, Nat.le_trans hsz hbw.size, k1.keep hbw, k2.keep hbw, ⟨B, d, rfl, hra.wide hsz (Nat.le_refl _)⟩, a12, Apart.new k1 hra, Apart.new k2 hra⟩
  case hend =>
    rintro a w' ⟨u3, u6, u7, u10, u11, u14, rfl, hS0, hsz, k1, k2, k3, a12, a13, a23⟩
    obtain ⟨B1, d1, rfl, hra⟩ := k1
    obtain ⟨B2, d2, rfl, hrb⟩ := k2
    obtain ⟨B3, d3, rfl, hrc⟩ := k3
    obtain ⟨p0, z0, fz0⟩ := hS0.2.2.2.1.cell (j := 0) (by omega)
    obtain ⟨p1, z1, fz1⟩ := hS0.2.2.2.1.cell (j := 1) (by omega)
    obtain ⟨p2, z2, fz2⟩ := hS0.2.2.2.1.cell (j := 2) (by omega)
    refine wpAnyH_take (i := 12) (v := ?_) (by simp only [List.getElem?_toArray, List.getElem?_cons_succ, List.getElem?_cons_zero]; rfl) (by kernel_rfl) (by kernel_rfl) (by kernel_rfl) (fun _ _ _ h => h) (Or.inl ⟨by rfl, by intro w' hSw; (try dsimp only at hSw); go_simp; (try with_reducible rfl)⟩) hS0 ?_
    simp only [Act.put, List.setIfInBounds_toArray, List.set_cons_zero, List.set_cons_succ]
    refine wpAnyH_ready (rs := [13]) (by kernel_rfl) (by simp) (AllReadyH.cons (by simp only [List.getElem?_toArray, List.getElem?_cons_succ, List.getElem?_cons_zero]; rfl) (fun K hK => ?_) AllReadyH.nil)
    go_simp
    refine hK.out _ _ ⟨setoff (setoff (setoff hS0.1 (.inl (by omega))) (.inl (by omega))) (.inl (by omega)), setoff (setoff (setoff hS0.2.1 (.inl (by omega))) (.inl (by omega))) (.inl (by omega)), setoff (setoff (setoff hS0.2.2.1 (.inl (by omega))) (.inl (by omega))) (.inl (by omega)), hS0.2.2.2.1.set.set.set, ((hS0.2.2.2.2.setCell (Nat.le_succ _) _).setCell (Nat.le_succ _) _).setCell (Nat.le_succ _) _⟩ (fun hSF => ?_)
    clear hK K
    refine wpAnyH_done (by kernel_rfl) ?_ _
    refine NoPanic.normal ?_
    have hbr := hSF.2.2.2.2
    go_wp2
    obtain ⟨WF, hWF, t0, t1, t2⟩ := set3 (u := .slice B1 3 d1) (v := .slice B2 3 d2) (x := .slice B3 3 d3) z0 z1 z2
    rw [← hWF] at hbr ⊢
    have hC : Ch (fun k => k = w.heap.size + 1) w' WF := by
      rw [hWF]; exact (((Ch.refl (S := fun k => k = w.heap.size + 1) w').setCell (p := ⟨w.heap.size + 1, 0, none⟩) rfl _).setCell (p := ⟨w.heap.size + 1, 1, none⟩) rfl _).setCell (p := ⟨w.heap.size + 1, 2, none⟩) rfl _
    have hzF := hC.size
    unfold Apart at a12 a13 a23
    refine bodyPost_ret (v := .agg #[.slice B1 3 d1, .slice B2 3 d2, .slice B3 3 d3]) (by simp [results, Try.results87, go_sem, t0, t1, t2]) rfl ⟨B1, d1, B2, d2, B3, d3, rfl, ?_, hbr⟩
    exact ⟨(hra.ch hC (fun k hk e => by unfold Iv at hk; omega)).wide (by omega) hzF, (hrb.ch hC (fun k hk e => by unfold Iv at hk; omega)).wide (by omega) hzF, (hrc.ch hC (fun k hk e => by unfold Iv at hk; omega)).wide (by omega) hzF,
      fun b h1 h2 => a12 b _ _ _ _ _ _ rfl rfl h1 h2, fun b h1 h2 => a13 b _ _ _ _ _ _ rfl rfl h1 h2, fun b h1 h2 => a23 b _ _ _ _ _ _ rfl rfl h1 h2⟩
end Go.Proofs.Ytjhkeknbbeckgaa
