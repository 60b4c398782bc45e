/- Contract of copyBeat: three rows of three. -/
import Derived.Test.YtjhkeknbbeckgaaLawBeats
import Derived.Test.YtjhkeknbbeckgaaIntRow
import Derived.Deep.RegionHeld3
import Derived.Deep.RegionLawGrows
namespace Go.Proofs.Ytjhkeknbbeckgaa
open Go.RowKit

/-- three rows of the call's own in three blocks -/
structure BtIn (lo hi : Nat) (w : World) (A1 : Option Addr) (n1 c1 : Nat) (f1 : Nat → Int) (A2 : Option Addr) (n2 c2 : Nat) (f2 : Nat → Int) (A3 : Option Addr) (n3 c3 : Nat) (f3 : Nat → Bool) : Prop where
  r1 : RowF 3 lo hi w A1 n1 c1 (intV f1)
  r2 : RowF 3 lo hi w A2 n2 c2 (intV f2)
  r3 : RowF 4 lo hi w A3 n3 c3 (boolV f3)
  d12 : ∀ b, BlkOf A1 b → ¬ BlkOf A2 b
  d13 : ∀ b, BlkOf A1 b → ¬ BlkOf A3 b
  d23 : ∀ b, BlkOf A2 b → ¬ BlkOf A3 b
theorem row_apart {e e' lo hi lo' hi' n c n' c' : Nat} {w w' : World} {A A' : Option Addr} {f f' : Nat → Value} (h : RowF e lo hi w A n c f) (h' : RowF e' lo' hi' w' A' n' c' f') (hd : hi ≤ lo' ∨ hi' ≤ lo) : ∀ b, BlkOf A b → ¬ BlkOf A' b := fun b h1 h2 => by
  have := (h.blk h1).1; have := (h'.blk h2).1; unfold Iv at *; omega
theorem BtIn.mk' {lo hi l1 h1 l2 h2 l3 h3 : Nat} {w : World} {A1 : Option Addr} {n1 c1 : Nat} {f1 : Nat → Int} {A2 : Option Addr} {n2 c2 : Nat} {f2 : Nat → Int} {A3 : Option Addr} {n3 c3 : Nat} {f3 : Nat → Bool}
    (r1 : RowF 3 l1 h1 w A1 n1 c1 (intV f1)) (r2 : RowF 3 l2 h2 w A2 n2 c2 (intV f2)) (r3 : RowF 4 l3 h3 w A3 n3 c3 (boolV f3))
    (a1 : lo ≤ l1 ∧ h1 ≤ hi) (a2 : lo ≤ l2 ∧ h2 ≤ hi) (a3 : lo ≤ l3 ∧ h3 ≤ hi) (d12 : h1 ≤ l2 ∨ h2 ≤ l1) (d13 : h1 ≤ l3 ∨ h3 ≤ l1) (d23 : h2 ≤ l3 ∨ h3 ≤ l2) : BtIn lo hi w A1 n1 c1 f1 A2 n2 c2 f2 A3 n3 c3 f3 :=
  ⟨r1.wide a1.1 a1.2, r2.wide a2.1 a2.2, r3.wide a3.1 a3.2, row_apart r1 r2 d12, row_apart r1 r3 d13, row_apart r2 r3 d23⟩

/-- three cells that lie somewhere -/
theorem news3 {w : World} {b off : Nat} {f : Nat → Value} (h : ∀ i, i < 3 → w.cell? ⟨b, off + i, none⟩ = some (f i)) : ∀ j u, ((List.range 3).map f)[j]? = some u → w.cell? ((⟨b, off, none⟩ : Addr).add j) = some u := by
  intro j u hu
  have hj : j < 3 := by have := (List.getElem?_eq_some_iff.1 hu).1; simpa using this
  rw [Addr.add_lit, h j hj]
  simp [hj] at hu
  rw [← hu]
theorem one3i (f : Nat → Int) : ∀ u ∈ (List.range 3).map (intV f), u.oneCell' = true := by
  intro u hu; obtain ⟨x, _, rfl⟩ := List.mem_map.1 hu; rfl
theorem one3b (f : Nat → Bool) : ∀ u ∈ (List.range 3).map (boolV f), u.oneCell' = true := by
  intro u hu; obtain ⟨x, _, rfl⟩ := List.mem_map.1 hu; rfl
/-- a row that an append made -/
theorem row_made {w w' : World} {e : Nat} {v : Value} {f : Nat → Value} (h : w'.ownsRow w.heap.size e 1 v (0 + 3) ([] ++ (List.range 3).map f)) : ∃ A c, v = .slice A 3 c ∧ RowF e w.heap.size w'.heap.size w' A 3 c f := by
  obtain ⟨A, c, rfl⟩ := own_val h
  refine ⟨A, c, rfl, ?_⟩
  unfold RowF
  exact RowIn.of_own (by simpa using h)
theorem below_none {w w' : World} (h : w.grownBy w' none) : Below w.heap.size w w' := (Below.refl _ _).grown h (Nat.le_refl _) (fun k hk => by cases hk)

/-- three cells that may be written -/
def ResBox (w : World) (g : Nat) : Prop := ∃ a b c, w.cell? ⟨g, 0, none⟩ = some a ∧ w.cell? ⟨g, 1, none⟩ = some b ∧ w.cell? ⟨g, 2, none⟩ = some c ∧ w.frozen? ⟨g, 0, none⟩ = false ∧ w.frozen? ⟨g, 1, none⟩ = false ∧ w.frozen? ⟨g, 2, none⟩ = false
theorem ResBox.cell {w : World} {g j : Nat} (h : ResBox w g) (hj : j < 3) : ∃ a, w.cell? ⟨g, j, none⟩ = some a ∧ w.frozen? ⟨g, j, none⟩ = false := by
  obtain ⟨a, b, c, h0, h1, h2, f0, f1, f2⟩ := h
  rcases (show j = 0 ∨ j = 1 ∨ j = 2 by omega) with rfl | rfl | rfl
  · exact ⟨a, h0, f0⟩
  · exact ⟨b, h1, f1⟩
  · exact ⟨c, h2, f2⟩
theorem ResBox.keep {w w' : World} {g : Nat} (h : ResBox w g) (hb : Below w.heap.size w w') : ResBox w' g := by
  obtain ⟨a, b, c, h0, h1, h2, f0, f1, f2⟩ := h
  have hlt := cell_lt h0
  exact ⟨a, b, c, keep_cell hb h0, keep_cell hb h1, keep_cell hb h2, (hb.frozen hlt).trans f0, (hb.frozen hlt).trans f1, (hb.frozen hlt).trans f2⟩
theorem ResBox.set {w : World} {g j : Nat} {v : Value} (h : ResBox w g) : ResBox (w.setCell ⟨g, j, none⟩ v) g := by
  have hc : ∀ i, i < 3 → ∃ a, (w.setCell ⟨g, j, none⟩ v).cell? ⟨g, i, none⟩ = some a ∧ (w.setCell ⟨g, j, none⟩ v).frozen? ⟨g, i, none⟩ = false := fun i hi => by
    obtain ⟨a, ha, hf⟩ := h.cell hi
    refine ⟨if j = i then v else a, ?_, (World.frozen?_setCell w _ _ v).trans hf⟩
    by_cases e : j = i
    · subst e; rw [if_pos rfl]; exact sethere ha
    · rw [if_neg e]; exact setoff ha (.inr e)
  obtain ⟨a, h0, f0⟩ := hc 0 (by omega)
  obtain ⟨b, h1, f1⟩ := hc 1 (by omega)
  obtain ⟨c, h2, f2⟩ := hc 2 (by omega)
  exact ⟨a, b, c, h0, h1, h2, f0, f1, f2⟩
theorem stored_res {P : Program} {w : World} {g j : Nat} {v : Value} {m : Mode} (h : ResBox w g) (hj : j < 3) : stored P w ⟨g, j, none⟩ v m = .ok () (w.setCell ⟨g, j, none⟩ v) := by
  obtain ⟨a, ha, hf⟩ := h.cell hj
  unfold stored
  rw [ha]; simp [hf]
attribute [local go_sem ↓] stored_res
attribute [local go_sem] ResBox.set
attribute [local irreducible] ResBox

set_option maxRecDepth 20000 in
set_option maxHeartbeats 1000000 in
theorem copyBeat_impl (A1 : Option Addr) (c1 : Nat) (f1 : Nat → Int) (A2 : Option Addr) (c2 : Nat) (f2 : Nat → Int) (A3 : Option Addr) (c3 : Nat) (f3 : Nat → Bool) (w : World) (h : BtAt w A1 3 f1 A2 3 f2 A3 3 f3) :
    Calls Try.prog 68 #[.agg #[.slice A1 3 c1, .slice A2 3 c2, .slice A3 3 c3]] w fun e w' => ∃ B1 d1 B2 d2 B3 d3, e = .returned (.agg #[.slice B1 3 d1, .slice B2 3 d2, .slice B3 3 d3]) ∧
      BtIn w.heap.size w'.heap.size w' B1 3 d1 f1 B2 3 d2 f2 B3 3 d3 f3 ∧ Below w.heap.size w w' := by
  obtain ⟨b1, o1, rfl, hl1, hk1⟩ := h.1 (by omega)
  obtain ⟨b2, o2, rfl, hl2, hk2⟩ := h.2.1 (by omega)
  obtain ⟨b3, o3, rfl, hl3, hk3⟩ := h.2.2 (by omega)
  clear h
  obtain ⟨i0, hi0, hz0, hz1, hz2⟩ := info_parts infoInt
  obtain ⟨j0, hj0, hy0, hy1, hy2⟩ := info_parts infoBool
  go_enter Try.func68, Try.ntmps68
  go_wp2
  obtain ⟨W, hW⟩ : ∃ W, W = (w.alloc (.cells #[.slice (some ⟨b1, o1, none⟩) 3 c1, .slice (some ⟨b2, o2, none⟩) 3 c2, .slice (some ⟨b3, o3, none⟩) 3 c3] 27)).alloc (.cells #[.slice none 0 0, .slice none 0 0, .slice none 0 0] 27) := ⟨_, rfl⟩
  have y0 : W.cell? ⟨w.heap.size, 0, none⟩ = some (.slice (some ⟨b1, o1, none⟩) 3 c1) := by subst hW; simp [go_sem]
  have y1 : W.cell? ⟨w.heap.size, 1, none⟩ = some (.slice (some ⟨b2, o2, none⟩) 3 c2) := by subst hW; simp [go_sem]
  have y2 : W.cell? ⟨w.heap.size, 2, none⟩ = some (.slice (some ⟨b3, o3, none⟩) 3 c3) := by subst hW; simp [go_sem]
  have xR : ResBox W (w.heap.size + 1) := by
    subst hW; unfold ResBox
    exact ⟨.slice none 0 0, .slice none 0 0, .slice none 0 0, by simp [go_sem], by simp [go_sem], by simp [go_sem], by simp [go_sem], by simp [go_sem], by simp [go_sem]⟩
  have hWs : W.heap.size = w.heap.size + 2 := by subst hW; simp
  have hWb : Below w.heap.size w W := by subst hW; exact ((Below.refl _ _).alloc (Nat.le_refl _) _).alloc (by simp) _
  rw [← hW]
  clear hW
  have HWS := Lib.hid hWs
  have hzW : w.heap.size + 2 ≤ W.heap.size := by omega
  clear hWs
  go_region_held3 (fun w' => w'.cell? ⟨w.heap.size, 0, none⟩ = some (.slice (some ⟨b1, o1, none⟩) 3 c1) ∧ w'.cell? ⟨w.heap.size, 1, none⟩ = some (.slice (some ⟨b2, o2, none⟩) 3 c2) ∧ w'.cell? ⟨w.heap.size, 2, none⟩ = some (.slice (some ⟨b3, o3, none⟩) 3 c3) ∧ ResBox w' (w.heap.size + 1) ∧ Below w.heap.size w w')
    (first | (have hh := ‹_ ∧ _›; exact hh) | (have hh := ‹_ ∧ _›; exact ⟨keep_cell hbw hh.1, keep_cell hbw hh.2.1, keep_cell hbw hh.2.2.1, hh.2.2.2.1.keep hbw, bthen hh.2.2.2.2 hbw⟩) | exact ⟨y0, y1, y2, xR.keep (Below.refl _ _).drew, hWb.drew⟩ | (have hh := ‹_ ∧ _›; exact ⟨setoff (setoff (setoff hh.1 (.inl (by omega))) (.inl (by omega))) (.inl (by omega)), setoff (setoff (setoff hh.2.1 (.inl (by omega))) (.inl (by omega))) (.inl (by omega)), setoff (setoff (setoff hh.2.2.1 (.inl (by omega))) (.inl (by omega))) (.inl (by omega)), hh.2.2.2.1.set.set.set, ((hh.2.2.2.2.setCell (Nat.le_succ _) _).setCell (Nat.le_succ _) _).setCell (Nat.le_succ _) _⟩))
    (first
      | (have hS0 := ‹_ ∧ _›; refine step_append_grows (by rfl) (.const (.slice none 0 0)) (.tmp 4) 24 (by rfl) 3 i0 (.int .i64 0) 1 8 Try.underlying24 hi0 hz0 hz1 hz2 rfl (by omega) none 0 0 [] (by rfl) (fun _ => ⟨rfl, rfl⟩) (by rfl) (fun _ h => by cases h) ⟨b1, o1, none⟩ 3 c1 ((List.range 3).map (intV f1)) (by rfl) (by rfl)
          (news3 (fun i hi => ((hS0.2.2.2.2.cell (p := ⟨b1, o1 + i, none⟩) hl1).trans (hk1 i hi)))) (one3i _) (by omega) (by unfold maxLen; omega) (by omega) ?_; intro va wa howna hga; have hbw := below_none hga; clear hga; obtain ⟨p0, z0, fz0⟩ := (hS0.2.2.2.1.keep hbw).cell (j := 0) (by omega); obtain ⟨p1, z1, fz1⟩ := (hS0.2.2.2.1.keep hbw).cell (j := 1) (by omega); obtain ⟨p2, z2, fz2⟩ := (hS0.2.2.2.1.keep hbw).cell (j := 2) (by omega); clear hS0; obtain ⟨B1, d1, hva, hra⟩ := row_made howna; subst hva; clear howna; have hzz := hbw.size; (try (have q := hrb.keep hbw; clear hrb; have hrb := q; clear q)); (try (have q := hrc.keep hbw; clear hrc; have hrc := q; clear q)))
      | (have hS0 := ‹_ ∧ _›; refine step_append_grows (by rfl) (.const (.slice none 0 0)) (.tmp 7) 24 (by rfl) 3 i0 (.int .i64 0) 1 8 Try.underlying24 hi0 hz0 hz1 hz2 rfl (by omega) none 0 0 [] (by rfl) (fun _ => ⟨rfl, rfl⟩) (by rfl) (fun _ h => by cases h) ⟨b2, o2, none⟩ 3 c2 ((List.range 3).map (intV f2)) (by rfl) (by rfl)
          (news3 (fun i hi => ((hS0.2.2.2.2.cell (p := ⟨b2, o2 + i, none⟩) hl2).trans (hk2 i hi)))) (one3i _) (by omega) (by unfold maxLen; omega) (by omega) ?_; intro va wa howna hga; have hbw := below_none hga; clear hga; obtain ⟨p0, z0, fz0⟩ := (hS0.2.2.2.1.keep hbw).cell (j := 0) (by omega); obtain ⟨p1, z1, fz1⟩ := (hS0.2.2.2.1.keep hbw).cell (j := 1) (by omega); obtain ⟨p2, z2, fz2⟩ := (hS0.2.2.2.1.keep hbw).cell (j := 2) (by omega); clear hS0; obtain ⟨B2, d2, hva, hrb⟩ := row_made howna; subst hva; clear howna; have hzz := hbw.size; (try (have q := hra.keep hbw; clear hra; have hra := q; clear q)); (try (have q := hrc.keep hbw; clear hrc; have hrc := q; clear q)))
      | (have hS0 := ‹_ ∧ _›; refine step_append_grows (by rfl) (.const (.slice none 0 0)) (.tmp 10) 25 (by rfl) 4 j0 (.bool false) 1 1 Try.underlying25 hj0 hy0 hy1 hy2 rfl (by omega) none 0 0 [] (by rfl) (fun _ => ⟨rfl, rfl⟩) (by rfl) (fun _ h => by cases h) ⟨b3, o3, none⟩ 3 c3 ((List.range 3).map (boolV f3)) (by rfl) (by rfl)
          (news3 (fun i hi => ((hS0.2.2.2.2.cell (p := ⟨b3, o3 + i, none⟩) hl3).trans (hk3 i hi)))) (one3b _) (by omega) (by unfold maxLen; omega) (by omega) ?_; intro va wa howna hga; have hbw := below_none hga; clear hga; obtain ⟨p0, z0, fz0⟩ := (hS0.2.2.2.1.keep hbw).cell (j := 0) (by omega); obtain ⟨p1, z1, fz1⟩ := (hS0.2.2.2.1.keep hbw).cell (j := 1) (by omega); obtain ⟨p2, z2, fz2⟩ := (hS0.2.2.2.1.keep hbw).cell (j := 2) (by omega); clear hS0; obtain ⟨B3, d3, hva, hrc⟩ := row_made howna; subst hva; clear howna; have hzz := hbw.size; (try (have q := hra.keep hbw; clear hra; have hra := q; clear q)); (try (have q := hrb.keep hbw; clear hrb; have hrb := q; clear q))))
  all_goals
    have hbr : Below w.heap.size w _ := (by have hh := ‹_ ∧ _›; exact hh.2.2.2.2)
    go_wp2
    obtain ⟨WF, hWF, t0, t1, t2⟩ := set3 (u := .slice B1 3 d1) (v := .slice B2 3 d2) (x := .slice B3 3 d3) z0 z1 z2
    rw [← hWF] at hbr ⊢
    have hC : Ch (fun k => k = w.heap.size + 1) wa WF := by
      rw [hWF]; exact (((Ch.refl (S := fun k => k = w.heap.size + 1) wa).setCell (p := ⟨w.heap.size + 1, 0, none⟩) rfl _).setCell (p := ⟨w.heap.size + 1, 1, none⟩) rfl _).setCell (p := ⟨w.heap.size + 1, 2, none⟩) rfl _
    have hzF := hC.size
    have hdz : W.drew.heap.size = W.heap.size := rfl
    refine bodyPost_ret (v := .agg #[.slice B1 3 d1, .slice B2 3 d2, .slice B3 3 d3]) (by simp [results, Try.results68, go_sem, t0, t1, t2]) rfl ⟨B1, d1, B2, d2, B3, d3, rfl, ?_, hbr⟩
    exact BtIn.mk' (hra.ch hC (fun k hk e => by unfold Iv at hk; omega)) (hrb.ch hC (fun k hk e => by unfold Iv at hk; omega)) (hrc.ch hC (fun k hk e => by unfold Iv at hk; omega))
      (by omega) (by omega) (by omega) (by omega) (by omega) (by omega)
end Go.Proofs.Ytjhkeknbbeckgaa
