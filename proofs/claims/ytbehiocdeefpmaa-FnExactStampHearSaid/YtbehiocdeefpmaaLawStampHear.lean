/- The law FnExactStampHear holds: for all arguments the program's StampHear answers what the reference's answers. Conditions: none. -/
import Derived.Test.YtbehiocdeefpmaaLawStamps
import Derived.Test.YtbehiocdeefpmaaHear
import Derived.Test.YtbehiocdeefpmaaDag
import Derived.Test.YtbehiocdeefpmaaOwn
import Derived.Deep.RegionHeld3
namespace Go.Proofs.Ytbehiocdeefpmaa
open Go.ChangeShapes Go.WideShapes Go.ChangeAt Go.RowKit Go.Joins

/-- three cells that may be written; from some time on they hold a stamp -/
def StBox (w : World) (g : Nat) (full : Bool) (p q r : Int) : Prop :=
  (∃ u v x, w.cell? ⟨g, 0, none⟩ = some u ∧ w.cell? ⟨g, 1, none⟩ = some v ∧ w.cell? ⟨g, 2, none⟩ = some x) ∧
  (w.frozen? ⟨g, 0, none⟩ = false ∧ w.frozen? ⟨g, 1, none⟩ = false ∧ w.frozen? ⟨g, 2, none⟩ = false) ∧
  (full = true → w.cell? ⟨g, 0, none⟩ = some (.int .i64 p) ∧ w.cell? ⟨g, 1, none⟩ = some (.int .i64 q) ∧ w.cell? ⟨g, 2, none⟩ = some (.int .i64 r))
theorem StBox.keep {w w' : World} {g : Nat} {f : Bool} {p q r : Int} (h : StBox w g f p q r) (hb : Below w.heap.size w w') : StBox w' g f p q r := by
  obtain ⟨⟨u, v, x, h0, h1, h2⟩, ⟨f0, f1, f2⟩, h3⟩ := h
  have hl := cell_lt h0
  exact ⟨⟨u, v, x, keep_cell hb h0, keep_cell hb h1, keep_cell hb h2⟩, ⟨(hb.frozen hl).trans f0, (hb.frozen hl).trans f1, (hb.frozen hl).trans f2⟩, fun hf => ⟨keep_cell hb (h3 hf).1, keep_cell hb (h3 hf).2.1, keep_cell hb (h3 hf).2.2⟩⟩
theorem StBox.new (w : World) (t : Nat) {p q r : Int} {D : Bool} (hD : D = false) : StBox (w.alloc (.cells #[.int .i64 0, .int .i64 0, .int .i64 0] t)) w.heap.size D p q r :=
  ⟨⟨_, _, _, by simp [go_sem]; rfl, by simp [go_sem]; rfl, by simp [go_sem]; rfl⟩, ⟨by simp [go_sem], by simp [go_sem], by simp [go_sem]⟩, fun h => by rw [hD] at h; cases h⟩
theorem StBox.put {w : World} {g : Nat} {p q r : Int} {u v x : Value} {f : Bool} (h0 : w.cell? ⟨g, 0, none⟩ = some u) (h1 : w.cell? ⟨g, 1, none⟩ = some v) (h2 : w.cell? ⟨g, 2, none⟩ = some x)
    (f0 : w.frozen? ⟨g, 0, none⟩ = false) (f1 : w.frozen? ⟨g, 1, none⟩ = false) (f2 : w.frozen? ⟨g, 2, none⟩ = false) :
    StBox (((w.setCell ⟨g, 0, none⟩ (.int .i64 p)).setCell ⟨g, 1, none⟩ (.int .i64 q)).setCell ⟨g, 2, none⟩ (.int .i64 r)) g f p q r := by
  obtain ⟨WF, hWF, t0, t1, t2⟩ := set3 (u := .int .i64 p) (v := .int .i64 q) (x := .int .i64 r) h0 h1 h2
  have hf : ∀ j, w.frozen? ⟨g, j, none⟩ = false → WF.frozen? ⟨g, j, none⟩ = false := fun j h => by rw [hWF, World.frozen?_setCell, World.frozen?_setCell, World.frozen?_setCell]; exact h
  rw [← hWF]
  exact ⟨⟨_, _, _, t0, t1, t2⟩, ⟨hf 0 f0, hf 1 f1, hf 2 f2⟩, fun _ => ⟨t0, t1, t2⟩⟩

set_option maxRecDepth 8000 in
set_option maxHeartbeats 1000000 in
theorem fnExactStampHear_any (a b c x y z wall : Int) (w : World) :
    Calls Try.prog 3 #[.agg #[.int .i64 a, .int .i64 b, .int .i64 c], .agg #[.int .i64 x, .int .i64 y, .int .i64 z], .int .i64 wall] w fun e w' => e = .returned (.bool true) ∧ Below w.heap.size w w' := by
  obtain ⟨⟨⟨p, q, r⟩, ok⟩, hnow⟩ : ∃ t, stampHear a b c x y z wall = t := ⟨_, rfl⟩
  have hI := stampHear_impl a b c x y z wall
  have hS := stampHear_spec a b c x y z wall
  rw [hnow] at hI hS
  simp only [stampV] at hI hS
  have HI := Lib.hid hI; have HS := Lib.hid hS; clear hI hS hnow
  go_enter Try.func3, Try.ntmps3
  go_wp2
  obtain ⟨W, hW⟩ : ∃ W, W = (w.alloc (.cells #[.int .i64 a, .int .i64 b, .int .i64 c] 23)).alloc (.cells #[.int .i64 x, .int .i64 y, .int .i64 z] 23) := ⟨_, rfl⟩
  rw [← hW]
  have y0 : W.cell? ⟨w.heap.size, 0, none⟩ = some (.int .i64 a) := by subst hW; simp [go_sem]
  have y1 : W.cell? ⟨w.heap.size, 1, none⟩ = some (.int .i64 b) := by subst hW; simp [go_sem]
  have y2 : W.cell? ⟨w.heap.size, 2, none⟩ = some (.int .i64 c) := by subst hW; simp [go_sem]
  have z0 : W.cell? ⟨w.heap.size + 1, 0, none⟩ = some (.int .i64 x) := by subst hW; simp [go_sem]
  have z1 : W.cell? ⟨w.heap.size + 1, 1, none⟩ = some (.int .i64 y) := by subst hW; simp [go_sem]
  have z2 : W.cell? ⟨w.heap.size + 1, 2, none⟩ = some (.int .i64 z) := by subst hW; simp [go_sem]
  have hl1 := cell_lt y0
  have hl2 := cell_lt z0
  have hbW : Below w.heap.size w W := by subst hW; exact ((Below.refl _ _).alloc (Nat.le_refl _) _).alloc (by simp) _
  clear hW
  refine wp_region_dag (by kernel_rfl) (by kernel_rfl) (fun D a' w' => ∃ v12 v13 v14 v15 v16 v17 v11 v18 v19 v7 v8 : Value, a' = { tmps := #[.agg #[.int .i64 a, .int .i64 b, .int .i64 c], .agg #[.int .i64 x, .int .i64 y, .int .i64 z], .int .i64 wall, .pointer (some ⟨w.heap.size, 0, none⟩), .pointer (some ⟨w.heap.size + 1, 0, none⟩), undef, .bool false, v7, v8, undef, undef, v11, v12, v13, v14, v15, v16, v17, v18, v19, undef, undef, undef, undef, undef, undef, undef, undef, undef, undef, undef, undef, undef, undef, undef, undef, undef, undef], defers := [] } ∧ Below W.heap.size W w' ∧ (D 0 = true → v12 = (.agg #[.int .i64 a, .int .i64 b, .int .i64 c])) ∧ (D 1 = true → v13 = (.agg #[.int .i64 a, .int .i64 b, .int .i64 c])) ∧ (D 2 = true → v14 = (.agg #[.int .i64 x, .int .i64 y, .int .i64 z])) ∧ (D 3 = true → v15 = (.agg #[.int .i64 x, .int .i64 y, .int .i64 z])) ∧ (D 4 = true → v16 = (.int .i64 wall)) ∧ (D 5 = true → v17 = (.tuple #[.agg #[.int .i64 p, .int .i64 q, .int .i64 r], .bool ok])) ∧ (D 6 = true → v11 = (.tuple #[.agg #[.int .i64 p, .int .i64 q, .int .i64 r], .bool ok])) ∧ (D 7 = true → v18 = (.agg #[.int .i64 p, .int .i64 q, .int .i64 r])) ∧ (D 8 = true → v19 = (.bool ok)) ∧ (D 9 = true → ∃ g, v7 = .pointer (some ⟨g, 0, none⟩) ∧ W.heap.size ≤ g ∧ StBox w' g (D 10) p q r) ∧ (D 11 = true → v8 = (.bool ok)) ∧ (D 10 = true → D 9 = true)) ⟨undef, undef, undef, undef, undef, undef, undef, undef, undef, undef, undef, rfl, (Below.refl _ _).drew, (fun h => by cases h), (fun h => by cases h), (fun h => by cases h), (fun h => by cases h), (fun h => by cases h), (fun h => by cases h), (fun h => by cases h), (fun h => by cases h), (fun h => by cases h), (fun h => by cases h), (fun h => by cases h), (fun h => by cases h)⟩ ?_ ?_
  · intro i D a' w' hi hD hdep hI
    have hi' : i < 12 := hi
    obtain ⟨v12, v13, v14, v15, v16, v17, v11, v18, v19, v7, v8, rfl, hb, k0, k1, k2, k3, k4, k5, k6, k7, k8, k9, k10, kz⟩ := hI
    rcases (show i = 0 ∨ i = 1 ∨ i = 2 ∨ i = 3 ∨ i = 4 ∨ i = 5 ∨ i = 6 ∨ i = 7 ∨ i = 8 ∨ i = 9 ∨ i = 10 ∨ i = 11 by omega) with rfl | rfl | rfl | rfl | rfl | rfl | rfl | rfl | rfl | rfl | rfl | rfl
    · -- 0 ld1
      have s0 := (hb.cell (p := ⟨w.heap.size, 0, none⟩) hl1).trans y0
      have s1 := (hb.cell (p := ⟨w.heap.size, 1, none⟩) hl1).trans y1
      have s2 := (hb.cell (p := ⟨w.heap.size, 2, none⟩) hl1).trans y2
      refine wpOp_step (by simp only [List.getElem?_toArray, List.getElem?_cons_succ, List.getElem?_cons_zero]; rfl) (fun K hK => ?_)
      go_simp
      exact hK _ _ ⟨_, v13, v14, v15, v16, v17, v11, v18, v19, v7, v8, rfl, hb, (fun _ => rfl), k1, k2, k3, k4, k5, k6, k7, k8, k9, k10, kz⟩
    · -- 1 c1
      have e0 := k0 (hdep 0 (by kernel_rfl)); subst e0
      refine wpOp_step (by simp only [List.getElem?_toArray, List.getElem?_cons_succ, List.getElem?_cons_zero]; rfl) (fun K hK => ?_)
      go_simp
      refine (toStamp_any a b c _).mono ?_
      rintro e w1 ⟨rfl, hbw⟩
      exact hK _ _ ⟨(.agg #[.int .i64 a, .int .i64 b, .int .i64 c]), _, v14, v15, v16, v17, v11, v18, v19, v7, v8, rfl, (bthen hb hbw), (fun _ => rfl), (fun _ => rfl), k2, k3, k4, k5, k6, k7, k8, (fun h => by obtain ⟨g, e1, e2, e3⟩ := k9 h; exact ⟨g, e1, e2, e3.keep hbw⟩), k10, kz⟩
    · -- 2 ld2
      have s0 := (hb.cell (p := ⟨w.heap.size + 1, 0, none⟩) hl2).trans z0
      have s1 := (hb.cell (p := ⟨w.heap.size + 1, 1, none⟩) hl2).trans z1
      have s2 := (hb.cell (p := ⟨w.heap.size + 1, 2, none⟩) hl2).trans z2
      refine wpOp_step (by simp only [List.getElem?_toArray, List.getElem?_cons_succ, List.getElem?_cons_zero]; rfl) (fun K hK => ?_)
      go_simp
      exact hK _ _ ⟨v12, v13, _, v15, v16, v17, v11, v18, v19, v7, v8, rfl, hb, k0, k1, (fun _ => rfl), k3, k4, k5, k6, k7, k8, k9, k10, kz⟩
    · -- 3 c2
      have e2 := k2 (hdep 2 (by kernel_rfl)); subst e2
      refine wpOp_step (by simp only [List.getElem?_toArray, List.getElem?_cons_succ, List.getElem?_cons_zero]; rfl) (fun K hK => ?_)
      go_simp
      refine (toStamp_any x y z _).mono ?_
      rintro e w1 ⟨rfl, hbw⟩
      exact hK _ _ ⟨v12, v13, (.agg #[.int .i64 x, .int .i64 y, .int .i64 z]), _, v16, v17, v11, v18, v19, v7, v8, rfl, (bthen hb hbw), k0, k1, (fun _ => rfl), (fun _ => rfl), k4, k5, k6, k7, k8, (fun h => by obtain ⟨g, e1, e2, e3⟩ := k9 h; exact ⟨g, e1, e2, e3.keep hbw⟩), k10, kz⟩
    · -- 4 mv
      refine wpOp_step (by simp only [List.getElem?_toArray, List.getElem?_cons_succ, List.getElem?_cons_zero]; rfl) (fun K hK => ?_)
      go_simp
      exact hK _ _ ⟨v12, v13, v14, v15, _, v17, v11, v18, v19, v7, v8, rfl, hb, k0, k1, k2, k3, (fun _ => rfl), k5, k6, k7, k8, k9, k10, kz⟩
    · -- 5 cF
      have e1 := k1 (hdep 1 (by kernel_rfl)); subst e1
      have e3 := k3 (hdep 3 (by kernel_rfl)); subst e3
      have e4 := k4 (hdep 4 (by kernel_rfl)); subst e4
      refine wpOp_step (by simp only [List.getElem?_toArray, List.getElem?_cons_succ, List.getElem?_cons_zero]; rfl) (fun K hK => ?_)
      go_simp
      refine (HS.out _).mono ?_
      rintro e w1 ⟨rfl, hbw⟩
      exact hK _ _ ⟨v12, (.agg #[.int .i64 a, .int .i64 b, .int .i64 c]), v14, (.agg #[.int .i64 x, .int .i64 y, .int .i64 z]), (.int .i64 wall), _, v11, v18, v19, v7, v8, rfl, (bthen hb hbw), k0, (fun _ => rfl), k2, (fun _ => rfl), (fun _ => rfl), (fun _ => rfl), k6, k7, k8, (fun h => by obtain ⟨g, e1, e2, e3⟩ := k9 h; exact ⟨g, e1, e2, e3.keep hbw⟩), k10, kz⟩
    · -- 6 m2
      have e5 := k5 (hdep 5 (by kernel_rfl)); subst e5
      refine wpOp_step (by simp only [List.getElem?_toArray, List.getElem?_cons_succ, List.getElem?_cons_zero]; rfl) (fun K hK => ?_)
      go_simp
      exact hK _ _ ⟨v12, v13, v14, v15, v16, (.tuple #[.agg #[.int .i64 p, .int .i64 q, .int .i64 r], .bool ok]), _, v18, v19, v7, v8, rfl, hb, k0, k1, k2, k3, k4, (fun _ => rfl), (fun _ => rfl), k7, k8, k9, k10, kz⟩
    · -- 7 e0
      have e6 := k6 (hdep 6 (by kernel_rfl)); subst e6
      refine wpOp_step (by simp only [List.getElem?_toArray, List.getElem?_cons_succ, List.getElem?_cons_zero]; rfl) (fun K hK => ?_)
      go_simp
      exact hK _ _ ⟨v12, v13, v14, v15, v16, v17, (.tuple #[.agg #[.int .i64 p, .int .i64 q, .int .i64 r], .bool ok]), _, v19, v7, v8, rfl, hb, k0, k1, k2, k3, k4, k5, (fun _ => rfl), (fun _ => rfl), k8, k9, k10, kz⟩
    · -- 8 e1
      have e6 := k6 (hdep 6 (by kernel_rfl)); subst e6
      refine wpOp_step (by simp only [List.getElem?_toArray, List.getElem?_cons_succ, List.getElem?_cons_zero]; rfl) (fun K hK => ?_)
      go_simp
      exact hK _ _ ⟨v12, v13, v14, v15, v16, v17, (.tuple #[.agg #[.int .i64 p, .int .i64 q, .int .i64 r], .bool ok]), v18, _, v7, v8, rfl, hb, k0, k1, k2, k3, k4, k5, (fun _ => rfl), k7, (fun _ => rfl), k9, k10, kz⟩
    · -- 9 ptr
      refine wpOp_step (by simp only [List.getElem?_toArray, List.getElem?_cons_succ, List.getElem?_cons_zero]; rfl) (fun K hK => ?_)
      go_simp
      exact hK _ _ ⟨v12, v13, v14, v15, v16, v17, v11, v18, v19, _, v8, rfl, (hb.alloc hb.size _), k0, k1, k2, k3, k4, k5, k6, k7, k8, (fun _ => ⟨w'.heap.size, rfl, hb.size, StBox.new w' _ (by
        cases h10 : D 10
        · exact h10
        · exact absurd (kz h10) (by rw [hD]; simp))⟩), k10, (fun _ => rfl)⟩
    · -- 10 st
      obtain ⟨g, hg, hgW, hbox⟩ := k9 (hdep 9 (by kernel_rfl))
      subst hg
      have e7 := k7 (hdep 7 (by kernel_rfl)); subst e7
      refine wpOp_step (by simp only [List.getElem?_toArray, List.getElem?_cons_succ, List.getElem?_cons_zero]; rfl) (fun K hK => ?_)
      obtain ⟨⟨u0, u1, u2, z0, z1, z2⟩, ⟨f0, f1, f2⟩, _⟩ := hbox
      go_simp
      exact hK _ _ ⟨v12, v13, v14, v15, v16, v17, v11, (.agg #[.int .i64 p, .int .i64 q, .int .i64 r]), v19, .pointer (some ⟨g, 0, none⟩), v8, rfl, (((hb.setCell hgW _).setCell hgW _).setCell hgW _), k0, k1, k2, k3, k4, k5, k6, (fun _ => rfl), k8, (fun _ => ⟨g, rfl, hgW, StBox.put z0 z1 z2 f0 f1 f2⟩), k10, (fun _ => hdep 9 (by kernel_rfl))⟩
    · -- 11 okd
      have e8 := k8 (hdep 8 (by kernel_rfl)); subst e8
      refine wpOp_step (by simp only [List.getElem?_toArray, List.getElem?_cons_succ, List.getElem?_cons_zero]; rfl) (fun K hK => ?_)
      go_simp
      exact hK _ _ ⟨v12, v13, v14, v15, v16, v17, v11, v18, (.bool ok), v7, _, rfl, hb, k0, k1, k2, k3, k4, k5, k6, k7, (fun _ => rfl), k9, (fun _ => rfl), kz⟩
  · intro D a' W1 hD hI
    obtain ⟨v12, v13, v14, v15, v16, v17, v11, v18, v19, v7, v8, rfl, hbA, k0, k1, k2, k3, k4, k5, k6, k7, k8, k9, k10, kz⟩ := hI
    have e0 := k0 (hD 0 (by decide)); subst e0
    have e1 := k1 (hD 1 (by decide)); subst e1
    have e2 := k2 (hD 2 (by decide)); subst e2
    have e3 := k3 (hD 3 (by decide)); subst e3
    have e4 := k4 (hD 4 (by decide)); subst e4
    have e5 := k5 (hD 5 (by decide)); subst e5
    have e6 := k6 (hD 6 (by decide)); subst e6
    have e7 := k7 (hD 7 (by decide)); subst e7
    have e8 := k8 (hD 8 (by decide)); subst e8
    have e11 := k10 (hD 11 (by decide)); subst e11
    obtain ⟨g, hg, hgW, hbox⟩ := k9 (hD 9 (by decide))
    subst hg
    have hbox := hbox.2.2 (hD 10 (by decide))
    clear k0 k1 k2 k3 k4 k5 k6 k7 k8 k9 k10 kz hD
    have Y0 := (hbA.cell (p := ⟨w.heap.size, 0, none⟩) hl1).trans y0
    have Y1 := (hbA.cell (p := ⟨w.heap.size, 1, none⟩) hl1).trans y1
    have Y2 := (hbA.cell (p := ⟨w.heap.size, 2, none⟩) hl1).trans y2
    have Z0 := (hbA.cell (p := ⟨w.heap.size + 1, 0, none⟩) hl2).trans z0
    have Z1 := (hbA.cell (p := ⟨w.heap.size + 1, 1, none⟩) hl2).trans z1
    have Z2 := (hbA.cell (p := ⟨w.heap.size + 1, 2, none⟩) hl2).trans z2
    have hm1 := cell_lt Y0
    have hm2 := cell_lt Z0
    clear y0 y1 y2 z0 z1 z2
    go_wp2
    refine wp_region_dag (by kernel_rfl) (by kernel_rfl) (fun D a' w' => ∃ v21 v22 v23 v24 v25 v26 v20 v27 v28 v9 v10 : Value, a' = { tmps := #[.agg #[.int .i64 a, .int .i64 b, .int .i64 c], .agg #[.int .i64 x, .int .i64 y, .int .i64 z], .int .i64 wall, .pointer (some ⟨w.heap.size, 0, none⟩), .pointer (some ⟨w.heap.size + 1, 0, none⟩), undef, .bool false, .pointer (some ⟨g, 0, none⟩), (.bool ok), v9, v10, (.tuple #[.agg #[.int .i64 p, .int .i64 q, .int .i64 r], .bool ok]), (.agg #[.int .i64 a, .int .i64 b, .int .i64 c]), (.agg #[.int .i64 a, .int .i64 b, .int .i64 c]), (.agg #[.int .i64 x, .int .i64 y, .int .i64 z]), (.agg #[.int .i64 x, .int .i64 y, .int .i64 z]), (.int .i64 wall), (.tuple #[.agg #[.int .i64 p, .int .i64 q, .int .i64 r], .bool ok]), (.agg #[.int .i64 p, .int .i64 q, .int .i64 r]), (.bool ok), v20, v21, v22, v23, v24, v25, v26, v27, v28, undef, undef, undef, undef, undef, undef, undef, undef, undef], defers := [] } ∧ Below W1.heap.size W1 w' ∧ (D 0 = true → v21 = (.agg #[.int .i64 a, .int .i64 b, .int .i64 c])) ∧ (D 1 = true → v22 = (.agg #[.int .i64 a, .int .i64 b, .int .i64 c])) ∧ (D 2 = true → v23 = (.agg #[.int .i64 x, .int .i64 y, .int .i64 z])) ∧ (D 3 = true → v24 = (.agg #[.int .i64 x, .int .i64 y, .int .i64 z])) ∧ (D 4 = true → v25 = (.int .i64 wall)) ∧ (D 5 = true → v26 = (.tuple #[.agg #[.int .i64 p, .int .i64 q, .int .i64 r], .bool ok])) ∧ (D 6 = true → v20 = (.tuple #[.agg #[.int .i64 p, .int .i64 q, .int .i64 r], .bool ok])) ∧ (D 7 = true → v27 = (.agg #[.int .i64 p, .int .i64 q, .int .i64 r])) ∧ (D 8 = true → v28 = (.bool ok)) ∧ (D 9 = true → ∃ g2, v9 = .pointer (some ⟨g2, 0, none⟩) ∧ W1.heap.size ≤ g2 ∧ StBox w' g2 (D 10) p q r) ∧ (D 11 = true → v10 = (.bool ok)) ∧ (D 10 = true → D 9 = true)) ⟨undef, undef, undef, undef, undef, undef, undef, undef, undef, undef, undef, rfl, (Below.refl _ _).drew, (fun h => by cases h), (fun h => by cases h), (fun h => by cases h), (fun h => by cases h), (fun h => by cases h), (fun h => by cases h), (fun h => by cases h), (fun h => by cases h), (fun h => by cases h), (fun h => by cases h), (fun h => by cases h), (fun h => by cases h)⟩ ?_ ?_
    · intro i D a' w' hi hD hdep hI
      have hi' : i < 12 := hi
      obtain ⟨v21, v22, v23, v24, v25, v26, v20, v27, v28, v9, v10, rfl, hb, k0, k1, k2, k3, k4, k5, k6, k7, k8, k9, k10, kz⟩ := hI
      rcases (show i = 0 ∨ i = 1 ∨ i = 2 ∨ i = 3 ∨ i = 4 ∨ i = 5 ∨ i = 6 ∨ i = 7 ∨ i = 8 ∨ i = 9 ∨ i = 10 ∨ i = 11 by omega) with rfl | rfl | rfl | rfl | rfl | rfl | rfl | rfl | rfl | rfl | rfl | rfl
      · -- 0 ld1
        have s0 := (hb.cell (p := ⟨w.heap.size, 0, none⟩) hm1).trans Y0
        have s1 := (hb.cell (p := ⟨w.heap.size, 1, none⟩) hm1).trans Y1
        have s2 := (hb.cell (p := ⟨w.heap.size, 2, none⟩) hm1).trans Y2
        refine wpOp_step (by simp only [List.getElem?_toArray, List.getElem?_cons_succ, List.getElem?_cons_zero]; rfl) (fun K hK => ?_)
        go_simp
        exact hK _ _ ⟨_, v22, v23, v24, v25, v26, v20, v27, v28, v9, v10, rfl, hb, (fun _ => rfl), k1, k2, k3, k4, k5, k6, k7, k8, k9, k10, kz⟩
      · -- 1 c1
        have e0 := k0 (hdep 0 (by kernel_rfl)); subst e0
        refine wpOp_step (by simp only [List.getElem?_toArray, List.getElem?_cons_succ, List.getElem?_cons_zero]; rfl) (fun K hK => ?_)
        go_simp
        refine (toStamp_any a b c _).mono ?_
        rintro e w1 ⟨rfl, hbw⟩
        exact hK _ _ ⟨(.agg #[.int .i64 a, .int .i64 b, .int .i64 c]), _, v23, v24, v25, v26, v20, v27, v28, v9, v10, rfl, (bthen hb hbw), (fun _ => rfl), (fun _ => rfl), k2, k3, k4, k5, k6, k7, k8, (fun h => by obtain ⟨g2, e1, e2, e3⟩ := k9 h; exact ⟨g2, e1, e2, e3.keep hbw⟩), k10, kz⟩
      · -- 2 ld2
        have s0 := (hb.cell (p := ⟨w.heap.size + 1, 0, none⟩) hm2).trans Z0
        have s1 := (hb.cell (p := ⟨w.heap.size + 1, 1, none⟩) hm2).trans Z1
        have s2 := (hb.cell (p := ⟨w.heap.size + 1, 2, none⟩) hm2).trans Z2
        refine wpOp_step (by simp only [List.getElem?_toArray, List.getElem?_cons_succ, List.getElem?_cons_zero]; rfl) (fun K hK => ?_)
        go_simp
        exact hK _ _ ⟨v21, v22, _, v24, v25, v26, v20, v27, v28, v9, v10, rfl, hb, k0, k1, (fun _ => rfl), k3, k4, k5, k6, k7, k8, k9, k10, kz⟩
      · -- 3 c2
        have e2 := k2 (hdep 2 (by kernel_rfl)); subst e2
        refine wpOp_step (by simp only [List.getElem?_toArray, List.getElem?_cons_succ, List.getElem?_cons_zero]; rfl) (fun K hK => ?_)
        go_simp
        refine (toStamp_any x y z _).mono ?_
        rintro e w1 ⟨rfl, hbw⟩
        exact hK _ _ ⟨v21, v22, (.agg #[.int .i64 x, .int .i64 y, .int .i64 z]), _, v25, v26, v20, v27, v28, v9, v10, rfl, (bthen hb hbw), k0, k1, (fun _ => rfl), (fun _ => rfl), k4, k5, k6, k7, k8, (fun h => by obtain ⟨g2, e1, e2, e3⟩ := k9 h; exact ⟨g2, e1, e2, e3.keep hbw⟩), k10, kz⟩
      · -- 4 mv
        refine wpOp_step (by simp only [List.getElem?_toArray, List.getElem?_cons_succ, List.getElem?_cons_zero]; rfl) (fun K hK => ?_)
        go_simp
        exact hK _ _ ⟨v21, v22, v23, v24, _, v26, v20, v27, v28, v9, v10, rfl, hb, k0, k1, k2, k3, (fun _ => rfl), k5, k6, k7, k8, k9, k10, kz⟩
      · -- 5 cF
        have e1 := k1 (hdep 1 (by kernel_rfl)); subst e1
        have e3 := k3 (hdep 3 (by kernel_rfl)); subst e3
        have e4 := k4 (hdep 4 (by kernel_rfl)); subst e4
        refine wpOp_step (by simp only [List.getElem?_toArray, List.getElem?_cons_succ, List.getElem?_cons_zero]; rfl) (fun K hK => ?_)
        go_simp
        refine (HI.out _).mono ?_
        rintro e w1 ⟨rfl, hbw⟩
        exact hK _ _ ⟨v21, (.agg #[.int .i64 a, .int .i64 b, .int .i64 c]), v23, (.agg #[.int .i64 x, .int .i64 y, .int .i64 z]), (.int .i64 wall), _, v20, v27, v28, v9, v10, rfl, (bthen hb hbw), k0, (fun _ => rfl), k2, (fun _ => rfl), (fun _ => rfl), (fun _ => rfl), k6, k7, k8, (fun h => by obtain ⟨g2, e1, e2, e3⟩ := k9 h; exact ⟨g2, e1, e2, e3.keep hbw⟩), k10, kz⟩
      · -- 6 m2
        have e5 := k5 (hdep 5 (by kernel_rfl)); subst e5
        refine wpOp_step (by simp only [List.getElem?_toArray, List.getElem?_cons_succ, List.getElem?_cons_zero]; rfl) (fun K hK => ?_)
        go_simp
        exact hK _ _ ⟨v21, v22, v23, v24, v25, (.tuple #[.agg #[.int .i64 p, .int .i64 q, .int .i64 r], .bool ok]), _, v27, v28, v9, v10, rfl, hb, k0, k1, k2, k3, k4, (fun _ => rfl), (fun _ => rfl), k7, k8, k9, k10, kz⟩
      · -- 7 e0
        have e6 := k6 (hdep 6 (by kernel_rfl)); subst e6
        refine wpOp_step (by simp only [List.getElem?_toArray, List.getElem?_cons_succ, List.getElem?_cons_zero]; rfl) (fun K hK => ?_)
        go_simp
        exact hK _ _ ⟨v21, v22, v23, v24, v25, v26, (.tuple #[.agg #[.int .i64 p, .int .i64 q, .int .i64 r], .bool ok]), _, v28, v9, v10, rfl, hb, k0, k1, k2, k3, k4, k5, (fun _ => rfl), (fun _ => rfl), k8, k9, k10, kz⟩
      · -- 8 e1
        have e6 := k6 (hdep 6 (by kernel_rfl)); subst e6
        refine wpOp_step (by simp only [List.getElem?_toArray, List.getElem?_cons_succ, List.getElem?_cons_zero]; rfl) (fun K hK => ?_)
        go_simp
        exact hK _ _ ⟨v21, v22, v23, v24, v25, v26, (.tuple #[.agg #[.int .i64 p, .int .i64 q, .int .i64 r], .bool ok]), v27, _, v9, v10, rfl, hb, k0, k1, k2, k3, k4, k5, (fun _ => rfl), k7, (fun _ => rfl), k9, k10, kz⟩
      · -- 9 ptr
        refine wpOp_step (by simp only [List.getElem?_toArray, List.getElem?_cons_succ, List.getElem?_cons_zero]; rfl) (fun K hK => ?_)
        go_simp
        exact hK _ _ ⟨v21, v22, v23, v24, v25, v26, v20, v27, v28, _, v10, rfl, (hb.alloc hb.size _), k0, k1, k2, k3, k4, k5, k6, k7, k8, (fun _ => ⟨w'.heap.size, rfl, hb.size, StBox.new w' _ (by
          cases h10 : D 10
          · exact h10
          · exact absurd (kz h10) (by rw [hD]; simp))⟩), k10, (fun _ => rfl)⟩
      · -- 10 st
        obtain ⟨g2, hg, hgW, hbox⟩ := k9 (hdep 9 (by kernel_rfl))
        subst hg
        have e7 := k7 (hdep 7 (by kernel_rfl)); subst e7
        refine wpOp_step (by simp only [List.getElem?_toArray, List.getElem?_cons_succ, List.getElem?_cons_zero]; rfl) (fun K hK => ?_)
        obtain ⟨⟨u0, u1, u2, z0, z1, z2⟩, ⟨f0, f1, f2⟩, _⟩ := hbox
        go_simp
        exact hK _ _ ⟨v21, v22, v23, v24, v25, v26, v20, (.agg #[.int .i64 p, .int .i64 q, .int .i64 r]), v28, .pointer (some ⟨g2, 0, none⟩), v10, rfl, (((hb.setCell hgW _).setCell hgW _).setCell hgW _), k0, k1, k2, k3, k4, k5, k6, (fun _ => rfl), k8, (fun _ => ⟨g2, rfl, hgW, StBox.put z0 z1 z2 f0 f1 f2⟩), k10, (fun _ => hdep 9 (by kernel_rfl))⟩
      · -- 11 okd
        have e8 := k8 (hdep 8 (by kernel_rfl)); subst e8
        refine wpOp_step (by simp only [List.getElem?_toArray, List.getElem?_cons_succ, List.getElem?_cons_zero]; rfl) (fun K hK => ?_)
        go_simp
        exact hK _ _ ⟨v21, v22, v23, v24, v25, v26, v20, v27, (.bool ok), v9, _, rfl, hb, k0, k1, k2, k3, k4, k5, k6, k7, (fun _ => rfl), k9, (fun _ => rfl), kz⟩
    · intro D a' w' hD hI
      obtain ⟨v21, v22, v23, v24, v25, v26, v20, v27, v28, v9, v10, rfl, hb, k0, k1, k2, k3, k4, k5, k6, k7, k8, k9, k10, kz⟩ := hI
      have e0 := k0 (hD 0 (by decide)); subst e0
      have e1 := k1 (hD 1 (by decide)); subst e1
      have e2 := k2 (hD 2 (by decide)); subst e2
      have e3 := k3 (hD 3 (by decide)); subst e3
      have e4 := k4 (hD 4 (by decide)); subst e4
      have e5 := k5 (hD 5 (by decide)); subst e5
      have e6 := k6 (hD 6 (by decide)); subst e6
      have e7 := k7 (hD 7 (by decide)); subst e7
      have e8 := k8 (hD 8 (by decide)); subst e8
      have e11 := k10 (hD 11 (by decide)); subst e11
      obtain ⟨g2, hg, hgW2, hbx⟩ := k9 (hD 9 (by decide))
      subst hg
      have hbox2 := hbx.2.2 (hD 10 (by decide))
      clear k0 k1 k2 k3 k4 k5 k6 k7 k8 k9 k10 kz hD
      have G0 := keep_cell hb hbox.1
      have G1 := keep_cell hb hbox.2.1
      have G2 := keep_cell hb hbox.2.2
      obtain ⟨E0, E1, E2⟩ := hbox2
      have hBB := hbW.trans ((hbA.trans (hb.mono hbA.size)).mono hbW.size)
      clear hbx hbox
      go_wp2_with fail
      refine (eqStamp_any p q r p q r _).mono ?_
      rintro e w3 ⟨rfl, hb3⟩
      have hd : decide (p = p ∧ q = q ∧ r = r) = true := by simp
      rw [hd]
      go_wp2
      go_returns
      exact ⟨rfl, bthen hBB hb3⟩

theorem fnExactStampHear_shape {H : Type} {enc : TypeId × Value → H} {W : World} {args : Array Value} {ds : List (DataW H)} {p : List MemPlace}
    (hA : DataW.TrodAll enc Try.prog W 0 (fun _ => true) true Try.f3.params.toList args.toList ds p) : ∃ x0 x1 x2, ds = [x0, x1, x2] := by
  obtain ⟨v0, v1, v2, d0, d1, d2, p0, p1, p2, rfl, rfl, rfl, h0, h1, h2⟩ := trodAll_three hA
  exact ⟨_, _, _, rfl⟩

set_option maxRecDepth 100000 in
theorem fnExactStampHear_contract {H : Type} {enc : TypeId × Value → H} (W : World) (base : Nat) (args : Array Value) (ds : List (DataW H)) (p : List MemPlace)
    (hval : ∀ (j : Nat) t v, Try.f3.params[j]? = some t → args[j]? = some v → Value.okWide Try.prog W .any base t v)
    (hA : DataW.TrodAll enc Try.prog W 0 (fun _ => true) true Try.f3.params.toList args.toList ds p) :
    Calls Try.prog 3 args W fun e W' => e = .returned (.bool true) ∧ Below W.heap.size W W' := by
  obtain ⟨v0, v1, v2, d0, d1, d2, p0, p1, p2, rfl, rfl, rfl, h0, h1, h2⟩ := trodAll_three hA
  obtain ⟨a0, b0, c0, rfl, ha0, hb0, hc0⟩ := open_stamp (hval 0 23 v0 rfl rfl) h0
  obtain ⟨a1, b1, c1, rfl, ha1, hb1, hc1⟩ := open_stamp (hval 1 23 v1 rfl rfl) h1
  obtain ⟨x2, rfl, _, _, wx2⟩ := open_int Try.underlying3 (hval 2 3 v2 rfl rfl) h2
  exact fnExactStampHear_any a0 b0 c0 a1 b1 c1 x2 W

set_option maxRecDepth 100000 in
theorem fnExactStampHear_lifted (os : Os) (started : os.Started) (H : Type) (enc : TypeId × Value → H) :
    ReturnsInHanded {} Try.checked os 3 .any (Rows.fnExactStampHearSpec.pre6 enc Try.prog Try.f3 Rows.fnExactStampHearRow.domain false) (Rows.fnExactStampHearSpec.post enc Try.prog Try.f3 false true false false) := by
  refine returnsInHanded_of_change (C := Try.checked) Try.own started (by kernel_rfl) Try.func3
    (ChangeSpec.witness6 (enc := enc) (C := Try.checked) false ⟨#[], #[.agg #[.int .i64 0, .int .i64 0, .int .i64 0], .agg #[.int .i64 0, .int .i64 0, .int .i64 0], .int .i64 0], []⟩ 8 (by kernel_rfl) (by kernel_rfl) (by kernel_rfl) (by kernel_rfl)) ?_
  intro W base args ds gs before hval0 hW _ _
  have hval : ∀ (j : Nat) t v, Try.f3.params[j]? = some t → args[j]? = some v → Value.okWide Try.prog W .any base t v := hval0
  have hW' := hW
  obtain ⟨p, q, hA0, hV, rfl, hfz, hnd⟩ := hW
  have hA : DataW.TrodAll enc Try.prog W 0 (fun _ => true) true Try.f3.params.toList args.toList ds p := hA0
  refine (fnExactStampHear_contract W base args ds p hval hA).mono fun e W' ⟨he, hb⟩ => ?_
  subst he
  have hds := fnExactStampHear_shape hA
  obtain ⟨hgs, _⟩ := trodVars_none hV
  subst hgs
  refine ⟨_, rfl, law_post (P := Try.prog) Try.laidOut (of_decide_eq_true (by kernel_rfl)) (by kernel_rfl) Try.underlying4 hW' rfl ?_ ?_ ?_ hb⟩
  all_goals (obtain ⟨x0, x1, x2, rfl⟩ := hds; rfl)

theorem fnExactStampHear_holds : Rows.FnExactStampHearSaid :=
  OpenClaim.holds_of_wide 3 Try.f3 rfl rfl rfl rfl rfl rfl rfl ⟨rfl, rfl, rfl, rfl, rfl⟩ rfl rfl rfl rfl rfl (by kernel_rfl) Try.func3 (by kernel_rfl)
    (of_decide_eq_true (by kernel_rfl)) (by unfold Func.isWrapper; first | (rw [if_pos (by decide +kernel)]; kernel_rfl) | (rw [if_neg (by decide +kernel)]; exact ⟨rfl, rfl⟩))
    (fun os started H enc _ => fnExactStampHear_lifted os started H enc)
end Go.Proofs.Ytbehiocdeefpmaa
