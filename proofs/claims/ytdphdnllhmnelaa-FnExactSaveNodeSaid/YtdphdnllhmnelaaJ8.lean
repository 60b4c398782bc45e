/- Contracts and lemmas: IdsOk, HasId, HasIdC, InstOkI, InstOkS, GrowL, BoxL, InstsOk. -/
import Derived.Test.YtdphdnllhmnelaaJ7
import Derived.Test.YtdphdnllhmnelaaJ3
import Derived.Test.YtdphdnllhmnelaaJ6
import Derived.Deep.MidRow
import Derived.Test.YtdphdnllhmnelaaJ0
import Derived.Test.YtdphdnllhmnelaaJ1
import Derived.Deep.RegionHeld3
/- Right rows of ids; is an id in a row: both sides. -/
namespace Go.Proofs.Ytdphdnllhmnelaa
open Go.RowKit
attribute [local go_sem] Grow.cell Grow.frozen
attribute [local irreducible] RowR iddOkB iddLess cmpI idsOkB
theorem iddR_cells {w : World} {b off i : Nat} {cs : List Value} {x : Idd} (h : iddR w cs x) (hc : ∀ j u, cs[j]? = some u → w.cell? ⟨b, off + i * 2 + j, none⟩ = some u) :
    w.cell? ⟨b, off + i * 2, none⟩ = some (.int .i64 x.r) ∧ w.cell? ⟨b, off + i * 2 + 1, none⟩ = some (.int .i64 x.s) := by
  unfold iddR iddL at h; subst h
  exact ⟨hc 0 _ rfl, hc 1 _ rfl⟩
set_option maxRecDepth 8000 in
set_option maxHeartbeats 4000000 in
theorem idsOk_impl (l : List Idd) (A : Option Addr) (n c : Nat) (w : World) (h : RowR iddR 2 w A n c l) (hb : iddsB l) :
    Calls Try.prog 129 #[.slice A n c] w fun e w' => e = .returned (.bool (idsOkB l)) ∧ Below w.heap.size w w' := by
  have HL := Lib.hid h.len.symm
  have hn : n ≤ 9223372036854775807 := by have := h.len; unfold iddsB at hb; omega
  go_enter Try.func129, Try.ntmps129
  go_wp2_with fail
  go_loopw [7] (fun i wr => ∃ (k : Nat), k ≤ n ∧ i = .int .i64 k ∧ (∀ j : Nat, j < k → iddOkB (iddAt l j) = true ∧ (j = 0 ∨ iddLess (iddAt l (j - 1)) (iddAt l j) = true)) ∧ Below w.heap.size w wr) (fun i _ => n - (intOf i).toNat)
  case atStart => exact ⟨0, Nat.zero_le _, rfl, fun j h => absurd h (by omega), Below.refl _ _⟩
  case round =>
    obtain ⟨k, hk, rfl, hcl, hbr⟩ := hrel
    have HCL := Lib.hid hcl; clear hcl
    by_cases hlt : k < n
    · obtain ⟨b, off, rfl⟩ := h.head (by omega)
      obtain ⟨bl, x, cs, hx, hR, hcell⟩ := h.elem_at hlt
      obtain ⟨x0', x1'⟩ := iddR_cells hR hcell
      have e0 := (hbr.cell (p := ⟨b, off + k * 2, none⟩) bl).trans x0'
      have e1 := (hbr.cell (p := ⟨b, off + k * 2 + 1, none⟩) bl).trans x1'
      have hax : iddAt l k = x := iddAt_of hx
      have HAX := Lib.hid hax; clear hax
      clear hcell hR x0' x1'
      have hbs : b < wr.heap.size := Nat.lt_of_lt_of_le bl hbr.size
      have al := (Below.refl wr.heap.size wr).alloc (Nat.le_refl _) (.cells #[.int .i64 x.r, .int .i64 x.s] 46)
      go_wp2_with fail
      obtain ⟨W, hW⟩ : ∃ W, W = wr.alloc (.cells #[.int .i64 x.r, .int .i64 x.s] 46) := ⟨_, rfl⟩
      obtain ⟨g, hg⟩ : ∃ g, wr.heap.size = g := ⟨_, rfl⟩
      have z0 : W.cell? ⟨g, 0, none⟩ = some (.int .i64 x.r) := by rw [hW, ← hg]; simp [go_sem]
      have z1 : W.cell? ⟨g, 1, none⟩ = some (.int .i64 x.s) := by rw [hW, ← hg]; simp [go_sem]
      have e2 := keep_cell al e0
      have e3 := keep_cell al e1
      have hbW := bthen hbr al
      have hsW := al.size
      rw [← hW] at hbW e2 e3 hsW ⊢
      have hgW := cell_lt z0
      have hbsW : b < W.heap.size := by omega
      rw [hg] at ⊢
      clear hW al e0 e1
      obtain ⟨q1, hq1⟩ : ∃ q, iddOkB x = q := ⟨_, rfl⟩
      have Q1 := Lib.hid hq1; clear hq1
      cases q1
      · have HB := Lib.hid (idsOk_no (l := l) (j := k) (by have := HL.out; omega) (.inl (by rw [HAX.out]; exact Q1.out)))
        refine wp_region_grow (by kernel_rfl) (by kernel_rfl) ?_
        repeat (first | go_big_quiet_step ((go_at_call 128; exact grow_of (known Q1.out (idOk_any x _)))))
        refine wpQuiet_nil ?_
        intro _ hw'
        obtain ⟨⟨w4, hb4⟩, hw''⟩ := hw'
        change _ = w4 at hw''
        subst hw''
        go_wp2
        go_returns
        exact ⟨by rw [HB.out]; rfl, bthen hbW hb4⟩
      · by_cases hk0 : k = 0
        · have HK := Lib.hid (show ∀ j : Nat, j < k + 1 → iddOkB (iddAt l j) = true ∧ (j = 0 ∨ iddLess (iddAt l (j - 1)) (iddAt l j) = true) from fun j hj => by
            have hjk : j = k := by omega
            rw [hjk]
            exact ⟨by rw [HAX.out]; exact Q1.out, .inl hk0⟩)
          have gd0 : decide ((k : Int) > 0) = false := by rw [decide_eq_false_iff_not]; omega
          have gd00 : decide (0 < k) = false := by rw [decide_eq_false_iff_not]; omega
          have gd000 : ¬ 0 < k := by omega
          clear hk0
          refine wp_region_grow (by kernel_rfl) (by kernel_rfl) ?_
          repeat (first | go_big_quiet_step ((go_at_call 128; exact grow_of (known Q1.out (idOk_any x _)))))
          refine wpQuiet_nil ?_
          intro _ hw'
          obtain ⟨⟨w4, hb4⟩, hw''⟩ := hw'
          change _ = w4 at hw''
          subst hw''
          go_wp2
          exact ⟨⟨k + 1, by omega, by go_num, HK.out, bthen hbW hb4⟩, by simp [intOf]; omega⟩
        · obtain ⟨k', rfl⟩ : ∃ k', k = k' + 1 := ⟨k - 1, by omega⟩
          clear hk0
          obtain ⟨_, y, cs', hy, hRy, hcelly⟩ := h.elem_at (i := k') (by omega)
          obtain ⟨y0', y1'⟩ := iddR_cells hRy hcelly
          have y0 := (hbW.cell (p := ⟨b, off + k' * 2, none⟩) bl).trans y0'
          have y1 := (hbW.cell (p := ⟨b, off + k' * 2 + 1, none⟩) bl).trans y1'
          have hay : iddAt l k' = y := iddAt_of hy
          have HAY := Lib.hid hay; clear hay
          clear hcelly hRy y0' y1' hy hx
          have gd0 : decide (((k' + 1 : Nat) : Int) > 0) = true := by rw [decide_eq_true_eq]; omega
          have gd1 : (((k' + 1 : Nat) : Int)) - 1 = (k' : Int) := by omega
          obtain ⟨q2, hq2⟩ : ∃ q, iddLess y x = q := ⟨_, rfl⟩
          have hge := cmpI_ge y x
          rw [hq2] at hge
          have Q2 := Lib.hid hq2; clear hq2
          cases q2
          · have HB := Lib.hid (idsOk_no (l := l) (j := k' + 1) (by have := HL.out; omega) (.inr ⟨by omega, by rw [Nat.add_sub_cancel, HAX.out, HAY.out]; exact Q2.out⟩))
            simp only [Bool.not_false] at hge
            refine wp_region_grow (by kernel_rfl) (by kernel_rfl) ?_
            repeat (first | go_big_quiet_step (first | (go_at_call 128; exact grow_of (known Q1.out (idOk_any x _))) | (go_at_call 163; exact grow_of (cmp_any y x _))))
            refine wpQuiet_nil ?_
            intro _ hw'
            obtain ⟨⟨w4, hb4⟩, hw''⟩ := hw'
            change _ = w4 at hw''
            subst hw''
            go_wp2
            go_returns
            exact ⟨by rw [HB.out]; rfl, bthen hbW hb4⟩
          · simp only [Bool.not_true] at hge
            refine wp_region_grow (by kernel_rfl) (by kernel_rfl) ?_
            repeat (first | go_big_quiet_step (first | (go_at_call 128; exact grow_of (known Q1.out (idOk_any x _))) | (go_at_call 163; exact grow_of (cmp_any y x _))))
            refine wpQuiet_nil ?_
            intro _ hw'
            obtain ⟨⟨w4, hb4⟩, hw''⟩ := hw'
            change _ = w4 at hw''
            subst hw''
            go_wp2
            refine ⟨⟨k' + 1 + 1, by omega, by go_num, fun j hj => ?_, bthen hbW hb4⟩, by simp [intOf]; omega⟩
            by_cases e : j = k' + 1
            · subst e; exact ⟨by rw [HAX.out]; exact Q1.out, .inr (by rw [Nat.add_sub_cancel, HAX.out, HAY.out]; exact Q2.out)⟩
            · exact HCL.out j (by omega)
    · go_wp2
      go_returns
      have HB := idsOk_yes (l := l) (fun j hj => HCL.out j (by have := HL.out; omega))
      exact ⟨by rw [HB]; rfl, hbr⟩
set_option maxRecDepth 8000 in
set_option maxHeartbeats 4000000 in
theorem idsOk_spec (l : List Idd) (A : Option Addr) (n c : Nat) (w : World) (h : RowR iddR 2 w A n c l) (hb : iddsB l) :
    Calls Try.prog 126 #[.slice A n c] w fun e w' => e = .returned (.bool (idsOkB l)) ∧ Below w.heap.size w w' := by
  have HL := Lib.hid h.len.symm
  have hn : n ≤ 9223372036854775807 := by have := h.len; unfold iddsB at hb; omega
  go_enter Try.func126, Try.ntmps126
  go_wp2_with fail
  go_loopw [3] (fun i wr => ∃ (k : Nat), k ≤ n ∧ i = .int .i64 k ∧ (∀ j : Nat, j < k → iddOkB (iddAt l j) = true ∧ (j = 0 ∨ iddLess (iddAt l (j - 1)) (iddAt l j) = true)) ∧ Below w.heap.size w wr) (fun i _ => n - (intOf i).toNat)
  case atStart => exact ⟨0, Nat.zero_le _, rfl, fun j h => absurd h (by omega), Below.refl _ _⟩
  case round =>
    obtain ⟨k, hk, rfl, hcl, hbr⟩ := hrel
    have HCL := Lib.hid hcl; clear hcl
    by_cases hlt : k < n
    · obtain ⟨b, off, rfl⟩ := h.head (by omega)
      obtain ⟨bl, x, cs, hx, hR, hcell⟩ := h.elem_at hlt
      obtain ⟨x0', x1'⟩ := iddR_cells hR hcell
      have e0 := (hbr.cell (p := ⟨b, off + k * 2, none⟩) bl).trans x0'
      have e1 := (hbr.cell (p := ⟨b, off + k * 2 + 1, none⟩) bl).trans x1'
      have hax : iddAt l k = x := iddAt_of hx
      have HAX := Lib.hid hax; clear hax
      clear hcell hR x0' x1'
      have hbs : b < wr.heap.size := Nat.lt_of_lt_of_le bl hbr.size
      have hbW := hbr
      have hbsW := hbs
      obtain ⟨W, hW⟩ : ∃ W, W = wr := ⟨_, rfl⟩
      subst hW
      obtain ⟨q1, hq1⟩ : ∃ q, iddOkB x = q := ⟨_, rfl⟩
      have Q1 := Lib.hid hq1; clear hq1
      cases q1
      · have HB := Lib.hid (idsOk_no (l := l) (j := k) (by have := HL.out; omega) (.inl (by rw [HAX.out]; exact Q1.out)))
        go_wp2
        refine wp_region_grow (by kernel_rfl) (by kernel_rfl) ?_
        repeat (first | go_big_quiet_step ((go_at_call 124; exact grow_of (known Q1.out (l8Id_any x _)))))
        refine wpQuiet_nil ?_
        intro _ hw'
        obtain ⟨⟨w4, hb4⟩, hw''⟩ := hw'
        change _ = w4 at hw''
        subst hw''
        go_wp2
        go_returns
        exact ⟨by rw [HB.out]; rfl, bthen hbW hb4⟩
      · by_cases hk0 : k = 0
        · have HK := Lib.hid (show ∀ j : Nat, j < k + 1 → iddOkB (iddAt l j) = true ∧ (j = 0 ∨ iddLess (iddAt l (j - 1)) (iddAt l j) = true) from fun j hj => by
            have hjk : j = k := by omega
            rw [hjk]
            exact ⟨by rw [HAX.out]; exact Q1.out, .inl hk0⟩)
          have gd0 : decide ((k : Int) > 0) = false := by rw [decide_eq_false_iff_not]; omega
          have gd00 : decide (0 < k) = false := by rw [decide_eq_false_iff_not]; omega
          have gd000 : ¬ 0 < k := by omega
          clear hk0
          go_wp2
          refine wp_region_grow (by kernel_rfl) (by kernel_rfl) ?_
          repeat (first | go_big_quiet_step ((go_at_call 124; exact grow_of (known Q1.out (l8Id_any x _)))))
          refine wpQuiet_nil ?_
          intro _ hw'
          obtain ⟨⟨w4, hb4⟩, hw''⟩ := hw'
          change _ = w4 at hw''
          subst hw''
          go_wp2
          exact ⟨⟨k + 1, by omega, by go_num, HK.out, bthen hbW hb4⟩, by simp [intOf]; omega⟩
        · obtain ⟨k', rfl⟩ : ∃ k', k = k' + 1 := ⟨k - 1, by omega⟩
          clear hk0
          obtain ⟨_, y, cs', hy, hRy, hcelly⟩ := h.elem_at (i := k') (by omega)
          obtain ⟨y0', y1'⟩ := iddR_cells hRy hcelly
          have y0 := (hbW.cell (p := ⟨b, off + k' * 2, none⟩) bl).trans y0'
          have y1 := (hbW.cell (p := ⟨b, off + k' * 2 + 1, none⟩) bl).trans y1'
          have hay : iddAt l k' = y := iddAt_of hy
          have HAY := Lib.hid hay; clear hay
          clear hcelly hRy y0' y1' hy hx
          have gd0 : decide (((k' + 1 : Nat) : Int) > 0) = true := by rw [decide_eq_true_eq]; omega
          have gd1 : (((k' + 1 : Nat) : Int)) - 1 = (k' : Int) := by omega
          obtain ⟨q2, hq2⟩ : ∃ q, iddLess y x = q := ⟨_, rfl⟩
          have hge := cmpI_ge y x
          rw [hq2] at hge
          have Q2 := Lib.hid hq2; clear hq2
          cases q2
          · have HB := Lib.hid (idsOk_no (l := l) (j := k' + 1) (by have := HL.out; omega) (.inr ⟨by omega, by rw [Nat.add_sub_cancel, HAX.out, HAY.out]; exact Q2.out⟩))
            simp only [Bool.not_false] at hge
            go_wp2
            refine wp_region_grow (by kernel_rfl) (by kernel_rfl) ?_
            repeat (first | go_big_quiet_step (first | (go_at_call 124; exact grow_of (known Q1.out (l8Id_any x _))) | (go_at_call 162; exact grow_of (known Q2.out (l8Less_any y x _)))))
            refine wpQuiet_nil ?_
            intro _ hw'
            obtain ⟨⟨w4, hb4⟩, hw''⟩ := hw'
            change _ = w4 at hw''
            subst hw''
            go_wp2
            go_returns
            exact ⟨by rw [HB.out]; rfl, bthen hbW hb4⟩
          · simp only [Bool.not_true] at hge
            go_wp2
            refine wp_region_grow (by kernel_rfl) (by kernel_rfl) ?_
            repeat (first | go_big_quiet_step (first | (go_at_call 124; exact grow_of (known Q1.out (l8Id_any x _))) | (go_at_call 162; exact grow_of (known Q2.out (l8Less_any y x _)))))
            refine wpQuiet_nil ?_
            intro _ hw'
            obtain ⟨⟨w4, hb4⟩, hw''⟩ := hw'
            change _ = w4 at hw''
            subst hw''
            go_wp2
            refine ⟨⟨k' + 1 + 1, by omega, by go_num, fun j hj => ?_, bthen hbW hb4⟩, by simp [intOf]; omega⟩
            by_cases e : j = k' + 1
            · subst e; exact ⟨by rw [HAX.out]; exact Q1.out, .inr (by rw [Nat.add_sub_cancel, HAX.out, HAY.out]; exact Q2.out)⟩
            · exact HCL.out j (by omega)
    · go_wp2
      go_returns
      have HB := idsOk_yes (l := l) (fun j hj => HCL.out j (by have := HL.out; omega))
      exact ⟨by rw [HB]; rfl, hbr⟩
end Go.Proofs.Ytdphdnllhmnelaa
/- Is an id in a row: the reference's l8Has, slices.Contains at Id. -/
namespace Go.Proofs.Ytdphdnllhmnelaa
open Go.RowKit
attribute [local irreducible] RowR
attribute [local go_sem] Grow.cell Grow.frozen
def iddEq (a b : Idd) : Bool := a.r == b.r && a.s == b.s
def hasId (l : List Idd) (x : Idd) : Bool := l.any (fun y => iddEq y x)
theorem hasId_yes {l : List Idd} {k : Nat} {x : Idd} (hk : k < l.length) (h : iddEq (iddAt l k) x = true) : hasId l x = true := by
  unfold hasId; rw [List.any_eq_true]; exact ⟨iddAt l k, by rw [iddAt_get hk]; exact List.getElem_mem hk, h⟩
theorem hasId_no {l : List Idd} {x : Idd} (h : ∀ j, j < l.length → iddEq (iddAt l j) x = false) : hasId l x = false := by
  unfold hasId; rw [List.any_eq_false]
  intro y hy
  obtain ⟨i, hi, rfl⟩ := List.mem_iff_getElem.1 hy
  have := h i hi
  rw [iddAt_get hi] at this
  simp [this]
set_option maxRecDepth 8000 in
theorem l8Has_any (l : List Idd) (x : Idd) (A : Option Addr) (n c : Nat) (w : World) (h : RowR iddR 2 w A n c l) (hb : iddsB l) :
    Calls Try.prog 127 #[.slice A n c, iddV x] w fun e w' => e = .returned (.bool (hasId l x)) ∧ Below w.heap.size w w' := by
  have HL := Lib.hid h.len.symm
  have hn : n ≤ 9223372036854775807 := by have := h.len; unfold iddsB at hb; omega
  obtain ⟨r, s⟩ := x
  unfold iddV
  go_enter Try.func127, Try.ntmps127
  go_wp2_with fail
  go_loopw [5] (fun i wr => ∃ k : Nat, k ≤ n ∧ i = .int .i64 k ∧ (∀ j, j < k → iddEq (iddAt l j) ⟨r, s⟩ = false) ∧ Below w.heap.size w wr ∧ wr.cell? ⟨w.heap.size, 0, none⟩ = some (.int .i64 r) ∧ wr.cell? ⟨w.heap.size, 1, none⟩ = some (.int .i64 s)) (fun i _ => n - (intOf i).toNat)
  case atStart => exact ⟨0, Nat.zero_le _, rfl, fun j hj => absurd hj (by omega), by go_grown, by simp [go_sem], by simp [go_sem]⟩
  case round =>
    obtain ⟨k, hk, rfl, hx, hbr, b0, b1⟩ := hrel
    have HX := Lib.hid hx; clear hx
    by_cases hlt : k < n
    · obtain ⟨b, off, rfl⟩ := h.head (by omega)
      obtain ⟨bl, y, cs, hy, hR, hcell⟩ := h.elem_at hlt
      obtain ⟨x0', x1'⟩ := iddR_cells hR hcell
      have e0 := (hbr.cell (p := ⟨b, off + k * 2, none⟩) bl).trans x0'
      have e1 := (hbr.cell (p := ⟨b, off + k * 2 + 1, none⟩) bl).trans x1'
      have hax : iddAt l k = y := iddAt_of hy
      have HAX := Lib.hid hax; clear hax hy hcell hR x0' x1'
      obtain ⟨r', s'⟩ := y
      have hbs : b < wr.heap.size := Nat.lt_of_lt_of_le bl hbr.size
      have hgs := cell_lt b0
      by_cases h1 : r' = r ∧ s' = s
      · obtain ⟨rfl, rfl⟩ := h1
        go_wp2
        refine wp_region_grow (by kernel_rfl) (by kernel_rfl) ?_
        repeat (first | go_big_quiet_step (fail))
        refine wpQuiet_nil ?_
        intro _ hw'
        obtain ⟨⟨w4, hb4⟩, hw''⟩ := hw'
        change _ = w4 at hw''
        subst hw''
        go_wp2
        go_returns
        exact ⟨by rw [hasId_yes (l := l) (k := k) (by have := HL.out; omega) (by rw [HAX.out]; simp [iddEq])]; rfl, bthen hbr hb4⟩
      · by_cases h2 : r' = r
        · have h3 : ¬ s' = s := fun e => h1 ⟨h2, e⟩
          have g3 : (s' == s) = false := by simpa using h3
          clear h1
          subst h2
          have GD := Lib.hid (show iddEq ⟨r', s'⟩ ⟨r', s⟩ = false by simp [iddEq, h3])
          go_wp2
          refine wp_region_grow (by kernel_rfl) (by kernel_rfl) ?_
          repeat (first | go_big_quiet_step (fail))
          refine wpQuiet_nil ?_
          intro _ hw'
          obtain ⟨⟨w4, hb4⟩, hw''⟩ := hw'
          change _ = w4 at hw''
          subst hw''
          go_wp2
          refine ⟨⟨k + 1, by omega, by go_num, fun j hj => ?_, bthen hbr hb4, keep_cell hb4 b0, keep_cell hb4 b1⟩, by simp [intOf]; omega⟩
          by_cases e : j = k
          · subst e; rw [HAX.out]; exact GD.out
          · exact HX.out j (by omega)
        · have g2 : (r' == r) = false := by simpa using h2
          clear h1
          have GD := Lib.hid (show iddEq ⟨r', s'⟩ ⟨r, s⟩ = false by simp [iddEq, h2])
          go_wp2
          refine wp_region_grow (by kernel_rfl) (by kernel_rfl) ?_
          repeat (first | go_big_quiet_step (fail))
          refine wpQuiet_nil ?_
          intro _ hw'
          obtain ⟨⟨w4, hb4⟩, hw''⟩ := hw'
          change _ = w4 at hw''
          subst hw''
          go_wp2
          refine ⟨⟨k + 1, by omega, by go_num, fun j hj => ?_, bthen hbr hb4, keep_cell hb4 b0, keep_cell hb4 b1⟩, by simp [intOf]; omega⟩
          by_cases e : j = k
          · subst e; rw [HAX.out]; exact GD.out
          · exact HX.out j (by omega)
    · go_wp2
      go_returns
      exact ⟨by rw [hasId_no (fun j hj => HX.out j (by have := HL.out; omega))]; rfl, hbr⟩
end Go.Proofs.Ytdphdnllhmnelaa
/- slices.Index, slices.Contains at Id. -/
namespace Go.Proofs.Ytdphdnllhmnelaa
open Go.RowKit
attribute [local irreducible] RowR
attribute [local go_sem] Grow.cell Grow.frozen
set_option maxRecDepth 8000 in
theorem indexId_any (l : List Idd) (x : Idd) (A : Option Addr) (n c : Nat) (w : World) (h : RowR iddR 2 w A n c l) (hb : iddsB l) :
    Calls Try.prog 164 #[.slice A n c, iddV x] w fun e w' => ∃ i : Int, e = .returned (.int .i64 i) ∧ decide (i ≥ 0) = hasId l x ∧ Below w.heap.size w w' := by
  have HL := Lib.hid h.len.symm
  have hn : n ≤ 9223372036854775807 := by have := h.len; unfold iddsB at hb; omega
  obtain ⟨r, s⟩ := x
  unfold iddV
  go_enter Try.func164, Try.ntmps164
  go_wp2_with fail
  go_loopw [8] (fun i wr => ∃ k : Nat, k ≤ n ∧ i = .int .i64 k ∧ (∀ j, j < k → iddEq (iddAt l j) ⟨r, s⟩ = false) ∧ Below w.heap.size w wr ∧ wr.cell? ⟨w.heap.size, 0, none⟩ = some (.int .i64 r) ∧ wr.cell? ⟨w.heap.size, 1, none⟩ = some (.int .i64 s)) (fun i _ => n - (intOf i).toNat)
  case atStart => exact ⟨0, Nat.zero_le _, rfl, fun j hj => absurd hj (by omega), by go_grown, by simp [go_sem], by simp [go_sem]⟩
  case round =>
    obtain ⟨k, hk, rfl, hx, hbr, b0, b1⟩ := hrel
    have HX := Lib.hid hx; clear hx
    by_cases hlt : k < n
    · obtain ⟨b, off, rfl⟩ := h.head (by omega)
      obtain ⟨bl, y, cs, hy, hR, hcell⟩ := h.elem_at hlt
      obtain ⟨x0', x1'⟩ := iddR_cells hR hcell
      have e0 := (hbr.cell (p := ⟨b, off + k * 2, none⟩) bl).trans x0'
      have e1 := (hbr.cell (p := ⟨b, off + k * 2 + 1, none⟩) bl).trans x1'
      have hax : iddAt l k = y := iddAt_of hy
      have HAX := Lib.hid hax; clear hax hy hcell hR x0' x1'
      obtain ⟨r', s'⟩ := y
      have hbs : b < wr.heap.size := Nat.lt_of_lt_of_le bl hbr.size
      have hgs := cell_lt b0
      by_cases h1 : r' = r ∧ s' = s
      · obtain ⟨rfl, rfl⟩ := h1
        go_wp2
        refine wp_region_grow (by kernel_rfl) (by kernel_rfl) ?_
        repeat (first | go_big_quiet_step (fail))
        refine wpQuiet_nil ?_
        intro _ hw'
        obtain ⟨⟨w4, hb4⟩, hw''⟩ := hw'
        change _ = w4 at hw''
        subst hw''
        go_wp2
        go_returns
        exact ⟨k, rfl, by rw [hasId_yes (l := l) (k := k) (by have := HL.out; omega) (by rw [HAX.out]; simp [iddEq])]; simp, bthen hbr hb4⟩
      · by_cases h2 : r' = r
        · have h3 : ¬ s' = s := fun e => h1 ⟨h2, e⟩
          have g3 : (s == s') = false := by simpa using fun e => h3 e.symm
          clear h1
          subst h2
          have GD := Lib.hid (show iddEq ⟨r', s'⟩ ⟨r', s⟩ = false by simp [iddEq, h3])
          go_wp2
          refine wp_region_grow (by kernel_rfl) (by kernel_rfl) ?_
          repeat (first | go_big_quiet_step (fail))
          refine wpQuiet_nil ?_
          intro _ hw'
          obtain ⟨⟨w4, hb4⟩, hw''⟩ := hw'
          change _ = w4 at hw''
          subst hw''
          go_wp2
          refine ⟨⟨k + 1, by omega, by go_num, fun j hj => ?_, bthen hbr hb4, keep_cell hb4 b0, keep_cell hb4 b1⟩, by simp [intOf]; omega⟩
          by_cases e : j = k
          · subst e; rw [HAX.out]; exact GD.out
          · exact HX.out j (by omega)
        · have g2 : (r == r') = false := by simpa using fun e => h2 e.symm
          clear h1
          have GD := Lib.hid (show iddEq ⟨r', s'⟩ ⟨r, s⟩ = false by simp [iddEq, h2])
          go_wp2
          refine wp_region_grow (by kernel_rfl) (by kernel_rfl) ?_
          repeat (first | go_big_quiet_step (fail))
          refine wpQuiet_nil ?_
          intro _ hw'
          obtain ⟨⟨w4, hb4⟩, hw''⟩ := hw'
          change _ = w4 at hw''
          subst hw''
          go_wp2
          refine ⟨⟨k + 1, by omega, by go_num, fun j hj => ?_, bthen hbr hb4, keep_cell hb4 b0, keep_cell hb4 b1⟩, by simp [intOf]; omega⟩
          by_cases e : j = k
          · subst e; rw [HAX.out]; exact GD.out
          · exact HX.out j (by omega)
    · go_wp2
      go_returns
      exact ⟨-1, rfl, by rw [hasId_no (fun j hj => HX.out j (by have := HL.out; omega))]; rfl, hbr⟩
set_option maxRecDepth 8000 in
theorem containsId_any (l : List Idd) (x : Idd) (A : Option Addr) (n c : Nat) (w : World) (h : RowR iddR 2 w A n c l) (hb : iddsB l) :
    Calls Try.prog 130 #[.slice A n c, iddV x] w fun e w' => e = .returned (.bool (hasId l x)) ∧ Below w.heap.size w w' := by
  have al := (Below.refl w.heap.size w).alloc (Nat.le_refl _) (.cells #[.int .i64 x.r, .int .i64 x.s] 46)
  have h1 := h.keep iddK al
  unfold iddV
  go_enter Try.func130, Try.ntmps130
  go_wp2_with fail
  refine (indexId_any l x A n c _ h1 hb).mono ?_
  rintro e w' ⟨i, rfl, hi, hb1⟩
  have HI := Lib.hid hi; clear hi
  have hbb := bthen al hb1
  go_wp2
  go_returns
  exact ⟨by rw [HI.out]; rfl, hbb⟩
end Go.Proofs.Ytdphdnllhmnelaa
/- Is an instance right: the program's instOk. -/
namespace Go.Proofs.Ytdphdnllhmnelaa
open Go.RowKit
def insTail (x : Ins) : Bool := !(x.st == 0) || (x.vb == -1 && x.cmd.kd == 0 && x.seq == 0 && x.deps.length == 0 && !x.same)
def insOkB (x : Ins) : Bool := iddOkB x.id && inB x.bal (-1) 600 && inB x.vb (-1) x.bal && inB x.st 0 3 && cmOkB x.cmd && inB x.seq 0 60 && idsOkB x.deps && !hasId x.deps x.id && insTail x
attribute [local irreducible] StrR RowR cmOkB iddOkB idsOkB hasId inB
set_option maxRecDepth 8000 in
set_option maxHeartbeats 8000000 in
theorem instOk_impl (x : Ins) (A1 : Option Addr) (n1 c1 : Nat) (A2 : Option Addr) (n2 c2 : Nat) (w : World) (h1 : StrR w A1 n1 c1 x.cmd.ch) (h2 : RowR iddR 2 w A2 n2 c2 x.deps) (hb1 : cmB x.cmd) (hb2 : iddsB x.deps) :
    Calls Try.prog 75 #[insV x (.slice A1 n1 c1) (.slice A2 n2 c2)] w fun e w' => e = .returned (.bool (insOkB x)) ∧ Below w.heap.size w w' := by
  have HL := Lib.hid h2.len
  have hn2 : n2 ≤ 9223372036854775807 := by have := h2.len; unfold iddsB at hb2; omega
  obtain ⟨q0, hq0⟩ : ∃ q, iddOkB x.id = q := ⟨_, rfl⟩
  obtain ⟨q1, hq1⟩ : ∃ q, inB x.bal (-1) 600 = q := ⟨_, rfl⟩
  obtain ⟨q2, hq2⟩ : ∃ q, inB x.vb (-1) x.bal = q := ⟨_, rfl⟩
  obtain ⟨q3, hq3⟩ : ∃ q, inB x.st 0 3 = q := ⟨_, rfl⟩
  obtain ⟨q4, hq4⟩ : ∃ q, cmOkB x.cmd = q := ⟨_, rfl⟩
  obtain ⟨q5, hq5⟩ : ∃ q, inB x.seq 0 60 = q := ⟨_, rfl⟩
  obtain ⟨q6, hq6⟩ : ∃ q, idsOkB x.deps = q := ⟨_, rfl⟩
  obtain ⟨q7, hq7⟩ : ∃ q, hasId x.deps x.id = q := ⟨_, rfl⟩
  have HV := Lib.hid (show insOkB x = (q0 && q1 && q2 && q3 && q4 && q5 && q6 && !q7 && insTail x) by unfold insOkB; rw [hq0, hq1, hq2, hq3, hq4, hq5, hq6, hq7])
  have Q0 := Lib.hid hq0; clear hq0
  have Q1 := Lib.hid hq1; clear hq1
  have Q2 := Lib.hid hq2; clear hq2
  have Q3 := Lib.hid hq3; clear hq3
  have Q4 := Lib.hid hq4; clear hq4
  have Q5 := Lib.hid hq5; clear hq5
  have Q6 := Lib.hid hq6; clear hq6
  have Q7 := Lib.hid hq7; clear hq7
  unfold insV
  go_enter Try.func75, Try.ntmps75
  go_wp2_with fail
  refine (idOk_any x.id _).mono ?_
  rintro e w1 ⟨rfl, hb11⟩
  obtain ⟨hc0, hf0⟩ := bcell hb11
  have hz0 := hb11.size
  try simp at hz0
  have hB0 : Below w.heap.size w w1 := bthen (by go_grown) hb11
  have hzz0 : w.heap.size < w1.heap.size := by omega
  rw [Q0.out]
  cases q0
  · go_wp2
    go_returns
    exact ⟨ret_bool (by rw [HV.out]; simp), hB0⟩
  · skip
    go_wp2_with fail
    refine (within_any _ _ _ _).mono ?_
    rintro e w' ⟨rfl, rfl⟩
    rw [Q1.out]
    cases q1
    · go_wp2
      go_returns
      exact ⟨ret_bool (by rw [HV.out]; simp), hB0⟩
    · skip
      go_wp2_with fail
      refine (within_any _ _ _ _).mono ?_
      rintro e w' ⟨rfl, rfl⟩
      rw [Q2.out]
      cases q2
      · go_wp2
        go_returns
        exact ⟨ret_bool (by rw [HV.out]; simp), hB0⟩
      · skip
        go_wp2_with fail
        refine (within_any _ _ _ _).mono ?_
        rintro e w' ⟨rfl, rfl⟩
        rw [Q3.out]
        cases q3
        · go_wp2
          go_returns
          exact ⟨ret_bool (by rw [HV.out]; simp), hB0⟩
        · skip
          go_wp2_with fail
          refine (cmdOk_impl x.cmd _ _ _ _ (h1.keep hB0) hb1).mono ?_
          rintro e w5 ⟨rfl, hb15⟩
          obtain ⟨hc4, hf4⟩ := bcell hb15
          have hz4 := hb15.size
          try simp at hz4
          have hB4 : Below w.heap.size w w5 := bthen hB0 hb15
          have hzz4 : w.heap.size < w5.heap.size := by omega
          rw [Q4.out]
          cases q4
          · go_wp2
            go_returns
            exact ⟨ret_bool (by rw [HV.out]; simp), hB4⟩
          · skip
            go_wp2_with fail
            refine (within_any _ _ _ _).mono ?_
            rintro e w' ⟨rfl, rfl⟩
            rw [Q5.out]
            cases q5
            · go_wp2
              go_returns
              exact ⟨ret_bool (by rw [HV.out]; simp), hB4⟩
            · skip
              go_wp2_with fail
              refine (idsOk_impl x.deps _ _ _ _ (h2.keep iddK hB4) hb2).mono ?_
              rintro e w7 ⟨rfl, hb17⟩
              obtain ⟨hc6, hf6⟩ := bcell hb17
              have hz6 := hb17.size
              try simp at hz6
              have hB6 : Below w.heap.size w w7 := bthen hB4 hb17
              have hzz6 : w.heap.size < w7.heap.size := by omega
              rw [Q6.out]
              cases q6
              · go_wp2
                go_returns
                exact ⟨ret_bool (by rw [HV.out]; simp), hB6⟩
              · skip
                go_wp2_with fail
                refine (containsId_any x.deps x.id _ _ _ _ (h2.keep iddK hB6) hb2).mono ?_
                rintro e w8 ⟨rfl, hb18⟩
                obtain ⟨hc7, hf7⟩ := bcell hb18
                have hz7 := hb18.size
                try simp at hz7
                have hB7 : Below w.heap.size w w8 := bthen hB6 hb18
                have hzz7 : w.heap.size < w8.heap.size := by omega
                rw [Q7.out]
                cases q7
                · have HT := Lib.hid (show insOkB x = insTail x by rw [HV.out]; simp)
                  by_cases t0 : x.st = 0
                  · have T := Lib.hid (show insTail x = (x.vb == -1 && x.cmd.kd == 0 && x.seq == 0 && x.deps.length == 0 && !x.same) by unfold insTail; simp [t0])
                    have g0 : (x.st == 0) = true := by simp [t0]
                    have g00 : (x.st != 0) = false := by simp [t0]
                    clear t0
                    obtain ⟨r1, e1⟩ : ∃ q, (x.vb == -1) = q := ⟨_, rfl⟩
                    obtain ⟨r2, e2⟩ : ∃ q, (x.cmd.kd == 0) = q := ⟨_, rfl⟩
                    obtain ⟨r3, e3⟩ : ∃ q, (x.seq == 0) = q := ⟨_, rfl⟩
                    obtain ⟨r4, e4⟩ : ∃ q, ((n2 : Int) == 0) = q := ⟨_, rfl⟩
                    obtain ⟨r5, e5⟩ : ∃ q, x.same = q := ⟨_, rfl⟩
                    have T2 := Lib.hid (show insTail x = (r1 && r2 && r3 && r4 && !r5) by rw [T.out, e1, e2, e3, e5, ← e4, HL.out]; congr 2; exact beq_bool (by simp only [beq_iff_eq]; omega))
                    clear T
                    cases r1
                    · go_wp2
                      go_returns
                      exact ⟨ret_bool (by rw [HT.out, T2.out]; simp), hB7⟩
                    · skip
                      cases r2
                      · go_wp2
                        go_returns
                        exact ⟨ret_bool (by rw [HT.out, T2.out]; simp), hB7⟩
                      · skip
                        cases r3
                        · go_wp2
                          go_returns
                          exact ⟨ret_bool (by rw [HT.out, T2.out]; simp), hB7⟩
                        · skip
                          cases r4
                          · go_wp2
                            go_returns
                            exact ⟨ret_bool (by rw [HT.out, T2.out]; simp), hB7⟩
                          · skip
                            cases r5
                            · go_wp2
                              go_returns
                              exact ⟨ret_bool (by rw [HT.out, T2.out]; simp), hB7⟩
                            · go_wp2
                              go_returns
                              exact ⟨ret_bool (by rw [HT.out, T2.out]; simp), hB7⟩
                  · have T := Lib.hid (show insTail x = true by unfold insTail; simp [t0])
                    have g0 : (x.st == 0) = false := by simp [t0]
                    have g00 : (x.st != 0) = true := by simp [t0]
                    clear t0
                    go_wp2
                    go_returns
                    exact ⟨ret_bool (by rw [HT.out, T.out]), hB7⟩
                · go_wp2
                  go_returns
                  exact ⟨ret_bool (by rw [HV.out]; simp), hB7⟩
end Go.Proofs.Ytdphdnllhmnelaa
/- Is an instance right: the reference's l8Inst. -/
namespace Go.Proofs.Ytdphdnllhmnelaa
open Go.RowKit
attribute [local irreducible] StrR RowR cmOkB iddOkB idsOkB hasId inB
set_option maxRecDepth 8000 in
set_option maxHeartbeats 8000000 in
theorem instOk_spec (x : Ins) (A1 : Option Addr) (n1 c1 : Nat) (A2 : Option Addr) (n2 c2 : Nat) (w : World) (h1 : StrR w A1 n1 c1 x.cmd.ch) (h2 : RowR iddR 2 w A2 n2 c2 x.deps) (hb1 : cmB x.cmd) (hb2 : iddsB x.deps) :
    Calls Try.prog 69 #[insV x (.slice A1 n1 c1) (.slice A2 n2 c2)] w fun e w' => e = .returned (.bool (insOkB x)) ∧ Below w.heap.size w w' := by
  have HL := Lib.hid h2.len
  have hn2 : n2 ≤ 9223372036854775807 := by have := h2.len; unfold iddsB at hb2; omega
  obtain ⟨q0, hq0⟩ : ∃ q, iddOkB x.id = q := ⟨_, rfl⟩
  obtain ⟨q1, hq1⟩ : ∃ q, inB x.bal (-1) 600 = q := ⟨_, rfl⟩
  obtain ⟨q2, hq2⟩ : ∃ q, inB x.vb (-1) x.bal = q := ⟨_, rfl⟩
  obtain ⟨q3, hq3⟩ : ∃ q, inB x.st 0 3 = q := ⟨_, rfl⟩
  obtain ⟨q4, hq4⟩ : ∃ q, cmOkB x.cmd = q := ⟨_, rfl⟩
  obtain ⟨q5, hq5⟩ : ∃ q, inB x.seq 0 60 = q := ⟨_, rfl⟩
  obtain ⟨q6, hq6⟩ : ∃ q, idsOkB x.deps = q := ⟨_, rfl⟩
  obtain ⟨q7, hq7⟩ : ∃ q, hasId x.deps x.id = q := ⟨_, rfl⟩
  have HV := Lib.hid (show insOkB x = (q0 && q1 && q2 && q3 && q4 && q5 && q6 && !q7 && insTail x) by unfold insOkB; rw [hq0, hq1, hq2, hq3, hq4, hq5, hq6, hq7])
  have Q0 := Lib.hid hq0; clear hq0
  have Q1 := Lib.hid hq1; clear hq1
  have Q2 := Lib.hid hq2; clear hq2
  have Q3 := Lib.hid hq3; clear hq3
  have Q4 := Lib.hid hq4; clear hq4
  have Q5 := Lib.hid hq5; clear hq5
  have Q6 := Lib.hid hq6; clear hq6
  have Q7 := Lib.hid hq7; clear hq7
  unfold insV
  go_enter Try.func69, Try.ntmps69
  go_wp2_with fail
  refine (l8Id_any x.id _).mono ?_
  rintro e w1 ⟨rfl, hb11⟩
  obtain ⟨hc0, hf0⟩ := bcell hb11
  have hz0 := hb11.size
  try simp at hz0
  have hB0 : Below w.heap.size w w1 := bthen (by go_grown) hb11
  have hzz0 : w.heap.size < w1.heap.size := by omega
  rw [Q0.out]
  cases q0
  · go_wp2
    go_returns
    exact ⟨ret_bool (by rw [HV.out]; simp), hB0⟩
  · skip
    go_wp2_with fail
    refine (l1In_any _ _ _ _).mono ?_
    rintro e w' ⟨rfl, rfl⟩
    rw [Q1.out]
    cases q1
    · go_wp2
      go_returns
      exact ⟨ret_bool (by rw [HV.out]; simp), hB0⟩
    · skip
      go_wp2_with fail
      refine (l1In_any _ _ _ _).mono ?_
      rintro e w' ⟨rfl, rfl⟩
      rw [Q2.out]
      cases q2
      · go_wp2
        go_returns
        exact ⟨ret_bool (by rw [HV.out]; simp), hB0⟩
      · skip
        go_wp2_with fail
        refine (l1In_any _ _ _ _).mono ?_
        rintro e w' ⟨rfl, rfl⟩
        rw [Q3.out]
        cases q3
        · go_wp2
          go_returns
          exact ⟨ret_bool (by rw [HV.out]; simp), hB0⟩
        · skip
          go_wp2_with fail
          refine (cmdOk_spec x.cmd _ _ _ _ (h1.keep hB0) hb1).mono ?_
          rintro e w5 ⟨rfl, hb15⟩
          obtain ⟨hc4, hf4⟩ := bcell hb15
          have hz4 := hb15.size
          try simp at hz4
          have hB4 : Below w.heap.size w w5 := bthen hB0 hb15
          have hzz4 : w.heap.size < w5.heap.size := by omega
          rw [Q4.out]
          cases q4
          · go_wp2
            go_returns
            exact ⟨ret_bool (by rw [HV.out]; simp), hB4⟩
          · skip
            go_wp2_with fail
            refine (l1In_any _ _ _ _).mono ?_
            rintro e w' ⟨rfl, rfl⟩
            rw [Q5.out]
            cases q5
            · go_wp2
              go_returns
              exact ⟨ret_bool (by rw [HV.out]; simp), hB4⟩
            · skip
              go_wp2_with fail
              refine (idsOk_spec x.deps _ _ _ _ (h2.keep iddK hB4) hb2).mono ?_
              rintro e w7 ⟨rfl, hb17⟩
              obtain ⟨hc6, hf6⟩ := bcell hb17
              have hz6 := hb17.size
              try simp at hz6
              have hB6 : Below w.heap.size w w7 := bthen hB4 hb17
              have hzz6 : w.heap.size < w7.heap.size := by omega
              rw [Q6.out]
              cases q6
              · go_wp2
                go_returns
                exact ⟨ret_bool (by rw [HV.out]; simp), hB6⟩
              · skip
                go_wp2_with fail
                refine (l8Has_any x.deps x.id _ _ _ _ (h2.keep iddK hB6) hb2).mono ?_
                rintro e w8 ⟨rfl, hb18⟩
                obtain ⟨hc7, hf7⟩ := bcell hb18
                have hz7 := hb18.size
                try simp at hz7
                have hB7 : Below w.heap.size w w8 := bthen hB6 hb18
                have hzz7 : w.heap.size < w8.heap.size := by omega
                rw [Q7.out]
                cases q7
                · have HT := Lib.hid (show insOkB x = insTail x by rw [HV.out]; simp)
                  by_cases t0 : x.st = 0
                  · have T := Lib.hid (show insTail x = (x.vb == -1 && x.cmd.kd == 0 && x.seq == 0 && x.deps.length == 0 && !x.same) by unfold insTail; simp [t0])
                    have g0 : (x.st == 0) = true := by simp [t0]
                    have g00 : (x.st != 0) = false := by simp [t0]
                    clear t0
                    obtain ⟨r1, e1⟩ : ∃ q, (x.vb == -1) = q := ⟨_, rfl⟩
                    obtain ⟨r2, e2⟩ : ∃ q, (x.cmd.kd == 0) = q := ⟨_, rfl⟩
                    obtain ⟨r3, e3⟩ : ∃ q, (x.seq == 0) = q := ⟨_, rfl⟩
                    obtain ⟨r4, e4⟩ : ∃ q, ((n2 : Int) == 0) = q := ⟨_, rfl⟩
                    obtain ⟨r5, e5⟩ : ∃ q, x.same = q := ⟨_, rfl⟩
                    have T2 := Lib.hid (show insTail x = (r1 && r2 && r3 && r4 && !r5) by rw [T.out, e1, e2, e3, e5, ← e4, HL.out]; congr 2; exact beq_bool (by simp only [beq_iff_eq]; omega))
                    clear T
                    cases r1
                    · go_wp2
                      go_returns
                      exact ⟨ret_bool (by rw [HT.out, T2.out]; simp), hB7⟩
                    · skip
                      cases r2
                      · go_wp2
                        go_returns
                        exact ⟨ret_bool (by rw [HT.out, T2.out]; simp), hB7⟩
                      · skip
                        cases r3
                        · go_wp2
                          go_returns
                          exact ⟨ret_bool (by rw [HT.out, T2.out]; simp), hB7⟩
                        · skip
                          cases r4
                          · go_wp2
                            go_returns
                            exact ⟨ret_bool (by rw [HT.out, T2.out]; simp), hB7⟩
                          · skip
                            cases r5
                            · go_wp2
                              go_returns
                              exact ⟨ret_bool (by rw [HT.out, T2.out]; simp), hB7⟩
                            · go_wp2
                              go_returns
                              exact ⟨ret_bool (by rw [HT.out, T2.out]; simp), hB7⟩
                  · have T := Lib.hid (show insTail x = true by unfold insTail; simp [t0])
                    have g0 : (x.st == 0) = false := by simp [t0]
                    have g00 : (x.st != 0) = true := by simp [t0]
                    clear t0
                    go_wp2
                    go_returns
                    exact ⟨ret_bool (by rw [HT.out, T.out]), hB7⟩
                · go_wp2
                  go_returns
                  exact ⟨ret_bool (by rw [HV.out]; simp), hB7⟩
end Go.Proofs.Ytdphdnllhmnelaa
/- A whole struct read in a region that draws (XGrow). -/
namespace Go.Proofs.Ytdphdnllhmnelaa
open Go.RowKit
theorem Grow.range {w : World} (X : Grow w) {b o : Nat} {cs : List Value} (hb : b < w.heap.size) (hc : w.rangeAt b o cs) : X.at_.rangeAt b o cs := fun j v hv => X.cell_of hb (hc j v hv)
theorem wpQuiet_load {P : Program} {ops : Array Oper} {w : World} {Q : Act → Prop} {a : Act} {o : Oper} {rest : List Oper} (ty : TypeId) (x : Operand) (b off : Nat) (cs : List Value) (d : TypeDesc) (hb : b < w.heap.size) (hc : w.rangeAt b off cs)
    (hu : P.underlying ty = some d) {n : Nat} (hi : (P.info? ty).map (·.size) = some n) (hl : cs.length = n) (ho : o.op = .load ty x) (hx : a.eval x = .pointer (some ⟨b, off, none⟩)) (hw : Region.wanted o (yielded ops a.tmps) = true) (hd : d.isRow = true)
    (h : wpQuiet P ops (fun w' => ∃ X : Grow w, w' = X.at_) Q rest (a.put o.dst (.agg cs.toArray))) : wpQuiet P ops (fun w' => ∃ X : Grow w, w' = X.at_) Q (o :: rest) a :=
  by
  subst hl
  exact BigFrame.wpQuiet_want hw fun K hK => ⟨_, fun w' ⟨X, hX⟩ => by
    subst hX
    unfold Oper.quietAt execOp
    simp only [ho, hx, Instr.loadAt, Instr.sureAddr, Sem.run_bind, Sem.run_pure, Result.andThen_ok, run_loadVar_mid _ b off ty cs d (X.range hb hc) hu hd hi]
    exact ⟨rfl, rfl⟩, hK _ h⟩
/-- a struct is read whole, at any offset -/
theorem wpList_load_o {P : Program} {ops : Array Oper} {rest : List Oper} {op : Oper} {a : Act} {w : World} {Q : Exit → Act → World → Prop} (ty : TypeId) (x : Operand) (b o : Nat) (cs : List Value) (d : TypeDesc) (hc : w.rangeAt b o cs)
    (hu : P.underlying ty = some d) {n : Nat} (hi : (P.info? ty).map (·.size) = some n) (hl : cs.length = n) (ho : op.op = .load ty x) (hx : a.eval x = .pointer (some ⟨b, o, none⟩)) (hgd : op.guard = none) (hd : d.isRow = true)
    (h : wpList P ops Q rest (a.put op.dst (.agg cs.toArray)) w) : wpList P ops Q (op :: rest) a w :=
  wpList_load_mid hgd ty x ho b o hx cs d hc hu hd (by rw [hl]; exact hi) h
end Go.Proofs.Ytdphdnllhmnelaa
/- A block of cells of the call's own: all of its cells, none frozen. -/
namespace Go.Proofs.Ytdphdnllhmnelaa
open Go.RowKit

structure BoxL (w : World) (h : Nat) (cs : List Value) : Prop where
  cell : ∀ j u, cs[j]? = some u → w.cell? ⟨h, j, none⟩ = some u
  fz : ∀ j, j < cs.length → w.frozen? ⟨h, j, none⟩ = false
  lt : h < w.heap.size
theorem ne_blk {g h : Nat} (hn : h ≠ g) : ¬ (fun k => k = g) h := hn
theorem BoxL.ch {S : Nat → Prop} {w w' : World} {h : Nat} {cs : List Value} (k : BoxL w h cs) (hc : Ch S w w') (hS : ¬ S h) : BoxL w' h cs :=
  ⟨fun j u hu => hc.cell (k.cell j u hu) hS, fun j hj => (World.frozen?_of_block (hc.block h k.lt hS)).trans (k.fz j hj), Nat.lt_of_lt_of_le k.lt hc.size⟩
theorem BoxL.keep {w w' : World} {h : Nat} {cs : List Value} (k : BoxL w h cs) (hb : Below w.heap.size w w') : BoxL w' h cs := k.ch (S := fun _ => False) (Ch.of_below hb) (fun h => h)
theorem Ch.set {w : World} {g o : Nat} {v : Value} : Ch (fun k => k = g) w (w.setCell ⟨g, o, none⟩ v) := (Ch.refl (S := fun k => k = g) w).setCell (p := ⟨g, o, none⟩) rfl v
theorem BoxL.set {w : World} {h j : Nat} {cs : List Value} {v : Value} (k : BoxL w h cs) (hj : j < cs.length) : BoxL (w.setCell ⟨h, j, none⟩ v) h (cs.set j v) := by
  refine ⟨fun i u hu => ?_, fun i hi => ?_, Nat.lt_of_lt_of_le k.lt (Ch.set (g := h) (o := j) (v := v)).size⟩
  · rw [List.getElem?_set] at hu
    by_cases e : j = i
    · subst e
      rw [if_pos rfl, if_pos hj] at hu
      obtain rfl := Option.some.inj hu
      exact sethere (k.cell j _ (List.getElem?_eq_getElem hj))
    · rw [if_neg e] at hu
      exact setoff (k.cell i u hu) (.inr e)
  · rw [List.length_set] at hi
    exact (World.frozen?_setCell _ _ _ _).trans (k.fz i hi)
theorem BoxL.new (w : World) (cs : List Value) (t : TypeId) : BoxL (w.alloc (.cells cs.toArray t)) w.heap.size cs :=
  ⟨fun j u hu => by rw [World.cell?_alloc_at cs.toArray t _ _ rfl]; simpa using hu, fun j _ => World.frozen?_alloc_at cs.toArray t _ _ rfl, by simp [go_sem]⟩
theorem setsW_fz {g : Nat} {p : Addr} : ∀ (vs : List Value) (o : Nat) (w : World), (setsW w g o vs).frozen? p = w.frozen? p
  | [], _, _ => rfl
  | v :: vs, o, w => (setsW_fz vs (o + 1) _).trans (World.frozen?_setCell _ _ _ _)
theorem BoxL.sets {w : World} {h : Nat} {cs vs : List Value} (k : BoxL w h cs) (hl : vs.length = cs.length) : BoxL (setsW w h 0 vs) h vs :=
  ⟨fun j u hu => by
    have := setsW_cell (g := h) vs 0 w (fun j hj => ⟨_, by rw [Nat.zero_add]; exact k.cell j _ (List.getElem?_eq_getElem (by omega))⟩) j u hu
    rwa [Nat.zero_add] at this, fun j hj => (setsW_fz vs 0 w).trans (k.fz j (by omega)), Nat.lt_of_lt_of_le k.lt (ch_setsW vs 0 w).size⟩
theorem BoxL.range {w : World} {h : Nat} {cs : List Value} (k : BoxL w h cs) : w.rangeAt h 0 cs := fun j v hv => by rw [Nat.zero_add]; exact k.cell j v hv
theorem BoxL.there {w : World} {h : Nat} {cs : List Value} (k : BoxL w h cs) {n : Nat} (hn : n = cs.length) : w.there h 0 n := fun j hj => by
  rw [Nat.zero_add]
  exact ⟨by rw [k.cell j _ (List.getElem?_eq_getElem (by omega))]; rfl, k.fz j (by omega)⟩
theorem ch_setCells {g : Nat} : ∀ (vs : List Value) (o : Nat) (w : World), Ch (fun b => b = g) w (w.setCells g o vs)
  | [], _, w => Ch.refl w
  | v :: vs, o, w => (Ch.set (g := g) (o := o) (v := v)).trans (ch_setCells vs (o + 1) _)
theorem BoxL.setCells {w : World} {h : Nat} {cs vs : List Value} (k : BoxL w h cs) (hl : vs.length = cs.length) : BoxL (w.setCells h 0 vs) h vs :=
  ⟨fun j u hu => by
    have hj : j < vs.length := (List.getElem?_eq_some_iff.1 hu).1
    have := World.cell?_setCells_in h vs 0 w (fun i hi => (k.there rfl i (by omega)).1) j hj
    rw [Nat.zero_add] at this
    rw [this, ← hu, List.getElem?_eq_getElem hj], fun j hj => (World.frozen?_setCells _ _ _ _ _).trans (k.fz j (by omega)), Nat.lt_of_lt_of_le k.lt (ch_setCells vs 0 w).size⟩
theorem BoxL.below {B : Nat} {w w' : World} {h : Nat} {cs : List Value} (k : BoxL w h cs) (hb : Below B w w') (hB : h < B) : BoxL w' h cs :=
  ⟨fun j u hu => (hb.cell (p := ⟨h, j, none⟩) hB).trans (k.cell j u hu), fun j hj => (hb.frozen (p := ⟨h, j, none⟩) hB).trans (k.fz j hj), Nat.lt_of_lt_of_le k.lt hb.size⟩
/-- a struct is read whole from its block, behind a guard or not -/
theorem wpList_load_g {P : Program} {ops : Array Oper} {rest : List Oper} {op : Oper} {a : Act} {w : World} {Q : Exit → Act → World → Prop} (hw : Region.wanted op (yielded ops a.tmps) = true) (ty : TypeId) (x : Operand) (ho : op.op = .load ty x)
    (b o : Nat) (hx : a.eval x = .pointer (some ⟨b, o, none⟩)) (cs : List Value) (d : TypeDesc) (hc : w.rangeAt b o cs)
    (hu : P.underlying ty = some d) (hd : d.isRow = true) (hi : (P.info? ty).map (·.size) = some cs.length)
    (h : wpList P ops Q rest (a.put op.dst (.agg cs.toArray)) w) : wpList P ops Q (op :: rest) a w :=
  wpList_step fun _ hK => by rw [if_pos hw]; exact wp_load_mid ty x ho b o hx cs d hc hu hd hi (hK _ _ h)
/-- a struct that lies in a block of its own and a second result are handed back -/
theorem results_cell_tmp {P : Program} {fn : Func} {c u : Tmp} {ty : TypeId} (h : fn.results = #[.cell c ty, .tmp u]) {tmps : Array Value} {w : World} {b : Nat} {cs : List Value} {d : TypeDesc} (hp : tmps.getD c undef = .pointer (some ⟨b, 0, none⟩))
    (hc : w.rangeAt b 0 cs) (hu : P.underlying ty = some d) (hd : d.isRow = true) (hi : (P.info? ty).map (·.size) = some cs.length) : (results fn tmps).run P w = .ok (.tuple #[.agg cs.toArray, tmps.getD u undef]) w := by
  have hl := run_loadVar_mid (P := P) w b 0 ty cs d hc hu hd hi
  have hp' : tmps[c]?.getD undef = .pointer (some ⟨b, 0, none⟩) := by simpa using hp
  simp [results, h, hp', asAddr, Sem.run_bind, hl]
/-- what lies in blocks from B on is changed: nothing below is -/
theorem Ch.belowB {S : Nat → Prop} {B : Nat} {w0 w w' : World} (hc : Ch S w w') (hb : Below B w0 w) (hB : B ≤ w.heap.size) (hS : ∀ k, S k → B ≤ k) : Below B w0 w' := hb.trans (hc.below hS hB)
end Go.Proofs.Ytdphdnllhmnelaa
/- Right rows of instances, both sides. -/
namespace Go.Proofs.Ytdphdnllhmnelaa
open Go.RowKit
attribute [local go_sem] Grow.cell Grow.frozen
/-- right instances whose ids rise -/
def inssOkB (l : List Ins) : Bool := (List.range l.length).all (fun j => insOkB (insAt l j) && (j == 0 || iddLess (insAt l (j - 1)).id (insAt l j).id))
theorem inssOk_yes {l : List Ins} (h : ∀ j, j < l.length → insOkB (insAt l j) = true ∧ (j = 0 ∨ iddLess (insAt l (j - 1)).id (insAt l j).id = true)) : inssOkB l = true := by
  unfold inssOkB; rw [List.all_eq_true]
  intro j hj
  obtain ⟨h1, h2⟩ := h j (List.mem_range.1 hj)
  rw [h1]
  rcases h2 with h2 | h2 <;> simp [h2]
theorem inssOk_no {l : List Ins} {j : Nat} (hj : j < l.length) (h : insOkB (insAt l j) = false ∨ (0 < j ∧ iddLess (insAt l (j - 1)).id (insAt l j).id = false)) : inssOkB l = false := by
  unfold inssOkB; rw [List.all_eq_false]
  refine ⟨j, List.mem_range.2 hj, ?_⟩
  rcases h with h | ⟨h1, h⟩
  · simp [h]
  · have : ¬ j = 0 := by omega
    simp [h, this]
theorem inssOk_at {l : List Ins} (h : inssOkB l = true) {j : Nat} (hj : j < l.length) : insOkB (insAt l j) = true ∧ (j = 0 ∨ iddLess (insAt l (j - 1)).id (insAt l j).id = true) := by
  unfold inssOkB at h
  rw [List.all_eq_true] at h
  have := h j (List.mem_range.2 hj)
  simpa [Bool.and_eq_true, Bool.or_eq_true] using this
theorem sizeInst0 : (Try.prog.info? 50).map (·.size) = some 16 := by kernel_rfl
attribute [local irreducible] RowR StrR insOkB iddLess cmpI inssOkB
set_option maxRecDepth 8000 in
set_option maxHeartbeats 4000000 in
theorem instsOk_impl (l : List Ins) (A : Option Addr) (n c : Nat) (w : World) (h : RowR insR 16 w A n c l) (hb : inssB l) :
    Calls Try.prog 143 #[.slice A n c] w fun e w' => e = .returned (.bool (inssOkB l)) ∧ Below w.heap.size w w' := by
  have HL := Lib.hid h.len.symm
  have hn : n ≤ 9223372036854775807 := by have := h.len; have := hb.1; omega
  go_enter Try.func143, Try.ntmps143
  go_wp2_with fail
  go_loopw [7] (fun i wr => ∃ (k : Nat), k ≤ n ∧ i = .int .i64 k ∧ (∀ j : Nat, j < k → insOkB (insAt l j) = true ∧ (j = 0 ∨ iddLess (insAt l (j - 1)).id (insAt l j).id = true)) ∧ Below w.heap.size w wr) (fun i _ => n - (intOf i).toNat)
  case atStart => exact ⟨0, Nat.zero_le _, rfl, fun j h => absurd h (by omega), Below.refl _ _⟩
  case round =>
    obtain ⟨k, hk, rfl, hcl, hbr⟩ := hrel
    have HCL := Lib.hid hcl; clear hcl
    by_cases hlt : k < n
    · obtain ⟨b, off, rfl⟩ := h.head (by omega)
      obtain ⟨bl, x, cs, hx, ⟨A1, n1, c1, A2, n2, c2, rfl, hx1, hx2⟩, hcell⟩ := h.elem_at hlt
      have hbx := bounds_el hb.2 hx
      have hcr : wr.rangeAt b (off + k * 16) [.int .i64 x.id.r, .int .i64 x.id.s, .int .i64 x.bal, .int .i64 x.vb, .int .i64 x.st, .int .i64 x.cmd.kd, .int .i64 x.cmd.cl, .int .i64 x.cmd.no, .string x.cmd.s, .string x.cmd.nm, .string x.cmd.tg, .int .i64 x.cmd.n, .slice A1 n1 c1, .int .i64 x.seq, .slice A2 n2 c2, .bool x.same] := fun j v hv => (hbr.cell (p := ⟨b, off + k * 16 + j, none⟩) bl).trans (hcell j v hv)
      have hax : insAt l k = x := insAt_of hx
      have HAX := Lib.hid hax; clear hax
      have hbs : b < wr.heap.size := Nat.lt_of_lt_of_le bl hbr.size
      clear hcell
      have al := (Below.refl wr.heap.size wr).alloc (Nat.le_refl _) (.cells #[.int .i64 x.id.r, .int .i64 x.id.s, .int .i64 x.bal, .int .i64 x.vb, .int .i64 x.st, .int .i64 x.cmd.kd, .int .i64 x.cmd.cl, .int .i64 x.cmd.no, .string x.cmd.s, .string x.cmd.nm, .string x.cmd.tg, .int .i64 x.cmd.n, .slice A1 n1 c1, .int .i64 x.seq, .slice A2 n2 c2, .bool x.same] 50)
      repeat (first | ((with_reducible refine wpList_load_o 50 (.tmp 10) b (off + k * 16) [.int .i64 x.id.r, .int .i64 x.id.s, .int .i64 x.bal, .int .i64 x.vb, .int .i64 x.st, .int .i64 x.cmd.kd, .int .i64 x.cmd.cl, .int .i64 x.cmd.no, .string x.cmd.s, .string x.cmd.nm, .string x.cmd.tg, .int .i64 x.cmd.n, .slice A1 n1 c1, .int .i64 x.seq, .slice A2 n2 c2, .bool x.same] _ hcr Try.underlying50 sizeInst0 ?_ ?_ ?_ ?_ ?_ ?_); (rfl); (rfl); (rfl); (rfl); (rfl)) | go_values | go_skip | go_guarded | go_step | go_upon | (simp only []; go_at_K))
      obtain ⟨W, hW⟩ : ∃ W, W = wr.alloc (.cells #[.int .i64 x.id.r, .int .i64 x.id.s, .int .i64 x.bal, .int .i64 x.vb, .int .i64 x.st, .int .i64 x.cmd.kd, .int .i64 x.cmd.cl, .int .i64 x.cmd.no, .string x.cmd.s, .string x.cmd.nm, .string x.cmd.tg, .int .i64 x.cmd.n, .slice A1 n1 c1, .int .i64 x.seq, .slice A2 n2 c2, .bool x.same] 50) := ⟨_, rfl⟩
      obtain ⟨g, hg⟩ : ∃ g, wr.heap.size = g := ⟨_, rfl⟩
      have ZB : BoxL W g [.int .i64 x.id.r, .int .i64 x.id.s, .int .i64 x.bal, .int .i64 x.vb, .int .i64 x.st, .int .i64 x.cmd.kd, .int .i64 x.cmd.cl, .int .i64 x.cmd.no, .string x.cmd.s, .string x.cmd.nm, .string x.cmd.tg, .int .i64 x.cmd.n, .slice A1 n1 c1, .int .i64 x.seq, .slice A2 n2 c2, .bool x.same] := by rw [hW, ← hg]; exact BoxL.new wr _ _
      have hbW := bthen hbr al
      have hsW := al.size
      rw [← hW] at hbW hsW ⊢
      have hgW := ZB.lt
      have hZr := ZB.range
      have z0 := ZB.cell 0 _ rfl
      have z1 := ZB.cell 1 _ rfl
      have hbsW : b < W.heap.size := by omega
      rw [hg] at ⊢
      clear hW al ZB hcr
      have hx1' := hx1.keep hbW
      have hx2' := hx2.keep iddK hbW
      clear hx1 hx2
      obtain ⟨q1, hq1⟩ : ∃ q, insOkB x = q := ⟨_, rfl⟩
      have Q1 := Lib.hid hq1; clear hq1
      cases q1
      · have HB := Lib.hid (inssOk_no (l := l) (j := k) (by have := HL.out; omega) (.inl (by rw [HAX.out]; exact Q1.out)))
        refine wp_region_grow (by kernel_rfl) (by kernel_rfl) ?_
        repeat (first | ((with_reducible refine wpQuiet_load 50 (.tmp 4) (g) (0) [.int .i64 x.id.r, .int .i64 x.id.s, .int .i64 x.bal, .int .i64 x.vb, .int .i64 x.st, .int .i64 x.cmd.kd, .int .i64 x.cmd.cl, .int .i64 x.cmd.no, .string x.cmd.s, .string x.cmd.nm, .string x.cmd.tg, .int .i64 x.cmd.n, .slice A1 n1 c1, .int .i64 x.seq, .slice A2 n2 c2, .bool x.same] _ hgW hZr Try.underlying50 sizeInst0 ?_ ?_ ?_ ?_ ?_ ?_); (rfl); (rfl); (rfl); (rfl); (rfl); (simp only [Act.put, List.setIfInBounds_toArray, List.set_cons_succ, List.set_cons_zero])) | go_big_quiet_step ((go_at_call 75; exact grow_of (known Q1.out (instOk_impl x _ _ _ _ _ _ _ (hx1'.keep (Grow.below _)) (hx2'.keep iddK (Grow.below _)) hbx.1 hbx.2)))))
        refine wpQuiet_nil ?_
        intro _ hw'
        obtain ⟨⟨w4, hb4⟩, hw''⟩ := hw'
        change _ = w4 at hw''
        subst hw''
        go_wp2
        go_returns
        exact ⟨by rw [HB.out]; rfl, bthen hbW hb4⟩
      · by_cases hk0 : k = 0
        · have HK := Lib.hid (show ∀ j : Nat, j < k + 1 → insOkB (insAt l j) = true ∧ (j = 0 ∨ iddLess (insAt l (j - 1)).id (insAt l j).id = true) from fun j hj => by
            have hjk : j = k := by omega
            rw [hjk]
            exact ⟨by rw [HAX.out]; exact Q1.out, .inl hk0⟩)
          have gd0 : decide ((k : Int) > 0) = false := by rw [decide_eq_false_iff_not]; omega
          have gd00 : decide (0 < k) = false := by rw [decide_eq_false_iff_not]; omega
          have gd000 : ¬ 0 < k := by omega
          clear hk0
          refine wp_region_grow (by kernel_rfl) (by kernel_rfl) ?_
          repeat (first | ((with_reducible refine wpQuiet_load 50 (.tmp 4) (g) (0) [.int .i64 x.id.r, .int .i64 x.id.s, .int .i64 x.bal, .int .i64 x.vb, .int .i64 x.st, .int .i64 x.cmd.kd, .int .i64 x.cmd.cl, .int .i64 x.cmd.no, .string x.cmd.s, .string x.cmd.nm, .string x.cmd.tg, .int .i64 x.cmd.n, .slice A1 n1 c1, .int .i64 x.seq, .slice A2 n2 c2, .bool x.same] _ hgW hZr Try.underlying50 sizeInst0 ?_ ?_ ?_ ?_ ?_ ?_); (rfl); (rfl); (rfl); (rfl); (rfl); (simp only [Act.put, List.setIfInBounds_toArray, List.set_cons_succ, List.set_cons_zero])) | go_big_quiet_step ((go_at_call 75; exact grow_of (known Q1.out (instOk_impl x _ _ _ _ _ _ _ (hx1'.keep (Grow.below _)) (hx2'.keep iddK (Grow.below _)) hbx.1 hbx.2)))))
          refine wpQuiet_nil ?_
          intro _ hw'
          obtain ⟨⟨w4, hb4⟩, hw''⟩ := hw'
          change _ = w4 at hw''
          subst hw''
          go_wp2
          exact ⟨⟨k + 1, by omega, by go_num, HK.out, bthen hbW hb4⟩, by simp [intOf]; omega⟩
        · obtain ⟨k', rfl⟩ : ∃ k', k = k' + 1 := ⟨k - 1, by omega⟩
          clear hk0
          obtain ⟨_, y, cs', hy, ⟨B1, m1, d1, B2, m2, d2, rfl, _, _⟩, hcelly⟩ := h.elem_at (i := k') (by omega)
          have y0 := (hbW.cell (p := ⟨b, off + k' * 16, none⟩) bl).trans (show w.cell? ⟨b, off + k' * 16, none⟩ = some (.int .i64 y.id.r) from hcelly 0 _ rfl)
          have y1 := (hbW.cell (p := ⟨b, off + k' * 16 + 1, none⟩) bl).trans (show w.cell? ⟨b, off + k' * 16 + 1, none⟩ = some (.int .i64 y.id.s) from hcelly 1 _ rfl)
          have hay : insAt l k' = y := insAt_of hy
          have HAY := Lib.hid hay; clear hay
          clear hcelly hy hx
          have gd0 : decide (((k' + 1 : Nat) : Int) > 0) = true := by rw [decide_eq_true_eq]; omega
          have gd1 : (((k' + 1 : Nat) : Int)) - 1 = (k' : Int) := by omega
          obtain ⟨q2, hq2⟩ : ∃ q, iddLess y.id x.id = q := ⟨_, rfl⟩
          have hge := cmpI_ge y.id x.id
          rw [hq2] at hge
          have Q2 := Lib.hid hq2; clear hq2
          cases q2
          · have HB := Lib.hid (inssOk_no (l := l) (j := k' + 1) (by have := HL.out; omega) (.inr ⟨by omega, by rw [Nat.add_sub_cancel, HAX.out, HAY.out]; exact Q2.out⟩))
            simp only [Bool.not_false] at hge
            refine wp_region_grow (by kernel_rfl) (by kernel_rfl) ?_
            repeat (first | ((with_reducible refine wpQuiet_load 50 (.tmp 4) (g) (0) [.int .i64 x.id.r, .int .i64 x.id.s, .int .i64 x.bal, .int .i64 x.vb, .int .i64 x.st, .int .i64 x.cmd.kd, .int .i64 x.cmd.cl, .int .i64 x.cmd.no, .string x.cmd.s, .string x.cmd.nm, .string x.cmd.tg, .int .i64 x.cmd.n, .slice A1 n1 c1, .int .i64 x.seq, .slice A2 n2 c2, .bool x.same] _ hgW hZr Try.underlying50 sizeInst0 ?_ ?_ ?_ ?_ ?_ ?_); (rfl); (rfl); (rfl); (rfl); (rfl); (simp only [Act.put, List.setIfInBounds_toArray, List.set_cons_succ, List.set_cons_zero])) | go_big_quiet_step (first | (go_at_call 75; exact grow_of (known Q1.out (instOk_impl x _ _ _ _ _ _ _ (hx1'.keep (Grow.below _)) (hx2'.keep iddK (Grow.below _)) hbx.1 hbx.2))) | (go_at_call 163; exact grow_of (cmp_any y.id x.id _))))
            refine wpQuiet_nil ?_
            intro _ hw'
            obtain ⟨⟨w4, hb4⟩, hw''⟩ := hw'
            change _ = w4 at hw''
            subst hw''
            go_wp2
            go_returns
            exact ⟨by rw [HB.out]; rfl, bthen hbW hb4⟩
          · simp only [Bool.not_true] at hge
            refine wp_region_grow (by kernel_rfl) (by kernel_rfl) ?_
            repeat (first | ((with_reducible refine wpQuiet_load 50 (.tmp 4) (g) (0) [.int .i64 x.id.r, .int .i64 x.id.s, .int .i64 x.bal, .int .i64 x.vb, .int .i64 x.st, .int .i64 x.cmd.kd, .int .i64 x.cmd.cl, .int .i64 x.cmd.no, .string x.cmd.s, .string x.cmd.nm, .string x.cmd.tg, .int .i64 x.cmd.n, .slice A1 n1 c1, .int .i64 x.seq, .slice A2 n2 c2, .bool x.same] _ hgW hZr Try.underlying50 sizeInst0 ?_ ?_ ?_ ?_ ?_ ?_); (rfl); (rfl); (rfl); (rfl); (rfl); (simp only [Act.put, List.setIfInBounds_toArray, List.set_cons_succ, List.set_cons_zero])) | go_big_quiet_step (first | (go_at_call 75; exact grow_of (known Q1.out (instOk_impl x _ _ _ _ _ _ _ (hx1'.keep (Grow.below _)) (hx2'.keep iddK (Grow.below _)) hbx.1 hbx.2))) | (go_at_call 163; exact grow_of (cmp_any y.id x.id _))))
            refine wpQuiet_nil ?_
            intro _ hw'
            obtain ⟨⟨w4, hb4⟩, hw''⟩ := hw'
            change _ = w4 at hw''
            subst hw''
            go_wp2
            refine ⟨⟨k' + 1 + 1, by omega, by go_num, fun j hj => ?_, bthen hbW hb4⟩, by simp [intOf]; omega⟩
            by_cases e : j = k' + 1
            · subst e; exact ⟨by rw [HAX.out]; exact Q1.out, .inr (by rw [Nat.add_sub_cancel, HAX.out, HAY.out]; exact Q2.out)⟩
            · exact HCL.out j (by omega)
    · go_wp2
      go_returns
      have HB := inssOk_yes (l := l) (fun j hj => HCL.out j (by have := HL.out; omega))
      exact ⟨by rw [HB]; rfl, hbr⟩
set_option maxRecDepth 8000 in
set_option maxHeartbeats 4000000 in
theorem instsOk_spec (l : List Ins) (A : Option Addr) (n c : Nat) (w : World) (h : RowR insR 16 w A n c l) (hb : inssB l) :
    Calls Try.prog 136 #[.slice A n c] w fun e w' => e = .returned (.bool (inssOkB l)) ∧ Below w.heap.size w w' := by
  have HL := Lib.hid h.len.symm
  have hn : n ≤ 9223372036854775807 := by have := h.len; have := hb.1; omega
  go_enter Try.func136, Try.ntmps136
  go_wp2_with fail
  go_loopw [3] (fun i wr => ∃ (k : Nat), k ≤ n ∧ i = .int .i64 k ∧ (∀ j : Nat, j < k → insOkB (insAt l j) = true ∧ (j = 0 ∨ iddLess (insAt l (j - 1)).id (insAt l j).id = true)) ∧ Below w.heap.size w wr) (fun i _ => n - (intOf i).toNat)
  case atStart => exact ⟨0, Nat.zero_le _, rfl, fun j h => absurd h (by omega), Below.refl _ _⟩
  case round =>
    obtain ⟨k, hk, rfl, hcl, hbr⟩ := hrel
    have HCL := Lib.hid hcl; clear hcl
    by_cases hlt : k < n
    · obtain ⟨b, off, rfl⟩ := h.head (by omega)
      obtain ⟨bl, x, cs, hx, ⟨A1, n1, c1, A2, n2, c2, rfl, hx1, hx2⟩, hcell⟩ := h.elem_at hlt
      have hbx := bounds_el hb.2 hx
      have hcr : wr.rangeAt b (off + k * 16) [.int .i64 x.id.r, .int .i64 x.id.s, .int .i64 x.bal, .int .i64 x.vb, .int .i64 x.st, .int .i64 x.cmd.kd, .int .i64 x.cmd.cl, .int .i64 x.cmd.no, .string x.cmd.s, .string x.cmd.nm, .string x.cmd.tg, .int .i64 x.cmd.n, .slice A1 n1 c1, .int .i64 x.seq, .slice A2 n2 c2, .bool x.same] := fun j v hv => (hbr.cell (p := ⟨b, off + k * 16 + j, none⟩) bl).trans (hcell j v hv)
      have e0 : wr.cell? ⟨b, off + k * 16, none⟩ = some (.int .i64 x.id.r) := hcr 0 _ rfl
      have e1 : wr.cell? ⟨b, off + k * 16 + 1, none⟩ = some (.int .i64 x.id.s) := hcr 1 _ rfl
      have hax : insAt l k = x := insAt_of hx
      have HAX := Lib.hid hax; clear hax
      have hbs : b < wr.heap.size := Nat.lt_of_lt_of_le bl hbr.size
      clear hcell
      have hbW := hbr
      have hbsW := hbs
      obtain ⟨W, hW⟩ : ∃ W, W = wr := ⟨_, rfl⟩
      subst hW
      have hx1' := hx1.keep hbW
      have hx2' := hx2.keep iddK hbW
      clear hx1 hx2
      obtain ⟨q1, hq1⟩ : ∃ q, insOkB x = q := ⟨_, rfl⟩
      have Q1 := Lib.hid hq1; clear hq1
      cases q1
      · have HB := Lib.hid (inssOk_no (l := l) (j := k) (by have := HL.out; omega) (.inl (by rw [HAX.out]; exact Q1.out)))
        go_wp2
        refine wp_region_grow (by kernel_rfl) (by kernel_rfl) ?_
        repeat (first | ((with_reducible refine wpQuiet_load 50 (.tmp 12) (b) (off + k * 16) [.int .i64 x.id.r, .int .i64 x.id.s, .int .i64 x.bal, .int .i64 x.vb, .int .i64 x.st, .int .i64 x.cmd.kd, .int .i64 x.cmd.cl, .int .i64 x.cmd.no, .string x.cmd.s, .string x.cmd.nm, .string x.cmd.tg, .int .i64 x.cmd.n, .slice A1 n1 c1, .int .i64 x.seq, .slice A2 n2 c2, .bool x.same] _ hbsW hcr Try.underlying50 sizeInst0 ?_ ?_ ?_ ?_ ?_ ?_); (rfl); (rfl); (rfl); (rfl); (rfl); (simp only [Act.put, List.setIfInBounds_toArray, List.set_cons_succ, List.set_cons_zero])) | go_big_quiet_step ((go_at_call 69; exact grow_of (known Q1.out (instOk_spec x _ _ _ _ _ _ _ (hx1'.keep (Grow.below _)) (hx2'.keep iddK (Grow.below _)) hbx.1 hbx.2)))))
        refine wpQuiet_nil ?_
        intro _ hw'
        obtain ⟨⟨w4, hb4⟩, hw''⟩ := hw'
        change _ = w4 at hw''
        subst hw''
        go_wp2
        go_returns
        exact ⟨by rw [HB.out]; rfl, bthen hbW hb4⟩
      · by_cases hk0 : k = 0
        · have HK := Lib.hid (show ∀ j : Nat, j < k + 1 → insOkB (insAt l j) = true ∧ (j = 0 ∨ iddLess (insAt l (j - 1)).id (insAt l j).id = true) from fun j hj => by
            have hjk : j = k := by omega
            rw [hjk]
            exact ⟨by rw [HAX.out]; exact Q1.out, .inl hk0⟩)
          have gd0 : decide ((k : Int) > 0) = false := by rw [decide_eq_false_iff_not]; omega
          have gd00 : decide (0 < k) = false := by rw [decide_eq_false_iff_not]; omega
          have gd000 : ¬ 0 < k := by omega
          clear hk0
          go_wp2
          refine wp_region_grow (by kernel_rfl) (by kernel_rfl) ?_
          repeat (first | ((with_reducible refine wpQuiet_load 50 (.tmp 12) (b) (off + k * 16) [.int .i64 x.id.r, .int .i64 x.id.s, .int .i64 x.bal, .int .i64 x.vb, .int .i64 x.st, .int .i64 x.cmd.kd, .int .i64 x.cmd.cl, .int .i64 x.cmd.no, .string x.cmd.s, .string x.cmd.nm, .string x.cmd.tg, .int .i64 x.cmd.n, .slice A1 n1 c1, .int .i64 x.seq, .slice A2 n2 c2, .bool x.same] _ hbsW hcr Try.underlying50 sizeInst0 ?_ ?_ ?_ ?_ ?_ ?_); (rfl); (rfl); (rfl); (rfl); (rfl); (simp only [Act.put, List.setIfInBounds_toArray, List.set_cons_succ, List.set_cons_zero])) | go_big_quiet_step ((go_at_call 69; exact grow_of (known Q1.out (instOk_spec x _ _ _ _ _ _ _ (hx1'.keep (Grow.below _)) (hx2'.keep iddK (Grow.below _)) hbx.1 hbx.2)))))
          refine wpQuiet_nil ?_
          intro _ hw'
          obtain ⟨⟨w4, hb4⟩, hw''⟩ := hw'
          change _ = w4 at hw''
          subst hw''
          go_wp2
          exact ⟨⟨k + 1, by omega, by go_num, HK.out, bthen hbW hb4⟩, by simp [intOf]; omega⟩
        · obtain ⟨k', rfl⟩ : ∃ k', k = k' + 1 := ⟨k - 1, by omega⟩
          clear hk0
          obtain ⟨_, y, cs', hy, ⟨B1, m1, d1, B2, m2, d2, rfl, _, _⟩, hcelly⟩ := h.elem_at (i := k') (by omega)
          have y0 := (hbW.cell (p := ⟨b, off + k' * 16, none⟩) bl).trans (show w.cell? ⟨b, off + k' * 16, none⟩ = some (.int .i64 y.id.r) from hcelly 0 _ rfl)
          have y1 := (hbW.cell (p := ⟨b, off + k' * 16 + 1, none⟩) bl).trans (show w.cell? ⟨b, off + k' * 16 + 1, none⟩ = some (.int .i64 y.id.s) from hcelly 1 _ rfl)
          have hay : insAt l k' = y := insAt_of hy
          have HAY := Lib.hid hay; clear hay
          clear hcelly hy hx
          have gd0 : decide (((k' + 1 : Nat) : Int) > 0) = true := by rw [decide_eq_true_eq]; omega
          have gd1 : (((k' + 1 : Nat) : Int)) - 1 = (k' : Int) := by omega
          obtain ⟨q2, hq2⟩ : ∃ q, iddLess y.id x.id = q := ⟨_, rfl⟩
          have hge := cmpI_ge y.id x.id
          rw [hq2] at hge
          have Q2 := Lib.hid hq2; clear hq2
          cases q2
          · have HB := Lib.hid (inssOk_no (l := l) (j := k' + 1) (by have := HL.out; omega) (.inr ⟨by omega, by rw [Nat.add_sub_cancel, HAX.out, HAY.out]; exact Q2.out⟩))
            simp only [Bool.not_false] at hge
            go_wp2
            refine wp_region_grow (by kernel_rfl) (by kernel_rfl) ?_
            repeat (first | ((with_reducible refine wpQuiet_load 50 (.tmp 12) (b) (off + (k' + 1) * 16) [.int .i64 x.id.r, .int .i64 x.id.s, .int .i64 x.bal, .int .i64 x.vb, .int .i64 x.st, .int .i64 x.cmd.kd, .int .i64 x.cmd.cl, .int .i64 x.cmd.no, .string x.cmd.s, .string x.cmd.nm, .string x.cmd.tg, .int .i64 x.cmd.n, .slice A1 n1 c1, .int .i64 x.seq, .slice A2 n2 c2, .bool x.same] _ hbsW hcr Try.underlying50 sizeInst0 ?_ ?_ ?_ ?_ ?_ ?_); (rfl); (rfl); (rfl); (rfl); (rfl); (simp only [Act.put, List.setIfInBounds_toArray, List.set_cons_succ, List.set_cons_zero])) | go_big_quiet_step (first | (go_at_call 69; exact grow_of (known Q1.out (instOk_spec x _ _ _ _ _ _ _ (hx1'.keep (Grow.below _)) (hx2'.keep iddK (Grow.below _)) hbx.1 hbx.2))) | (go_at_call 162; exact grow_of (known Q2.out (l8Less_any y.id x.id _)))))
            refine wpQuiet_nil ?_
            intro _ hw'
            obtain ⟨⟨w4, hb4⟩, hw''⟩ := hw'
            change _ = w4 at hw''
            subst hw''
            go_wp2
            go_returns
            exact ⟨by rw [HB.out]; rfl, bthen hbW hb4⟩
          · simp only [Bool.not_true] at hge
            go_wp2
            refine wp_region_grow (by kernel_rfl) (by kernel_rfl) ?_
            repeat (first | ((with_reducible refine wpQuiet_load 50 (.tmp 12) (b) (off + (k' + 1) * 16) [.int .i64 x.id.r, .int .i64 x.id.s, .int .i64 x.bal, .int .i64 x.vb, .int .i64 x.st, .int .i64 x.cmd.kd, .int .i64 x.cmd.cl, .int .i64 x.cmd.no, .string x.cmd.s, .string x.cmd.nm, .string x.cmd.tg, .int .i64 x.cmd.n, .slice A1 n1 c1, .int .i64 x.seq, .slice A2 n2 c2, .bool x.same] _ hbsW hcr Try.underlying50 sizeInst0 ?_ ?_ ?_ ?_ ?_ ?_); (rfl); (rfl); (rfl); (rfl); (rfl); (simp only [Act.put, List.setIfInBounds_toArray, List.set_cons_succ, List.set_cons_zero])) | go_big_quiet_step (first | (go_at_call 69; exact grow_of (known Q1.out (instOk_spec x _ _ _ _ _ _ _ (hx1'.keep (Grow.below _)) (hx2'.keep iddK (Grow.below _)) hbx.1 hbx.2))) | (go_at_call 162; exact grow_of (known Q2.out (l8Less_any y.id x.id _)))))
            refine wpQuiet_nil ?_
            intro _ hw'
            obtain ⟨⟨w4, hb4⟩, hw''⟩ := hw'
            change _ = w4 at hw''
            subst hw''
            go_wp2
            refine ⟨⟨k' + 1 + 1, by omega, by go_num, fun j hj => ?_, bthen hbW hb4⟩, by simp [intOf]; omega⟩
            by_cases e : j = k' + 1
            · subst e; exact ⟨by rw [HAX.out]; exact Q1.out, .inr (by rw [Nat.add_sub_cancel, HAX.out, HAY.out]; exact Q2.out)⟩
            · exact HCL.out j (by omega)
    · go_wp2
      go_returns
      have HB := inssOk_yes (l := l) (fun j hj => HCL.out j (by have := HL.out; omega))
      exact ⟨by rw [HB]; rfl, hbr⟩
end Go.Proofs.Ytdphdnllhmnelaa
