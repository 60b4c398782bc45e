/- Contracts and lemmas: IdsOk, HasId, HasIdC, InstOkI, InsText, L4b, RdS, GrowL, BoxL, RdApp. -/
import Derived.Test.YtdphdnllhmnelaaJ7
import Derived.Test.YtdphdnllhmnelaaJ3
import Derived.Test.YtdphdnllhmnelaaJ6
import Derived.Test.YtdphdnllhmnelaaJ0
import Derived.Deep.MidRow
import Derived.Test.YtdphdnllhmnelaaJ1
import Derived.Deep.RegionHeld3
/- Right rows of ids; is an id in a row: both sides. -/
namespace Go.Proofs.Ytdphdnllhmnelaa
open Go.RowKit
attribute [local go_sem] Grow.cell Grow.frozen
attribute [local irreducible] RowR iddOkB iddLess cmpI idsOkB
theorem iddR_cells {w : World} {b off i : Nat} {cs : List Value} {x : Idd} (h : iddR w cs x) (hc : ∀ j u, cs[j]? = some u → w.cell? ⟨b, off + i * 2 + j, none⟩ = some u) :
    w.cell? ⟨b, off + i * 2, none⟩ = some (.int .i64 x.r) ∧ w.cell? ⟨b, off + i * 2 + 1, none⟩ = some (.int .i64 x.s) := by
  unfold iddR iddL at h; subst h
  exact ⟨hc 0 _ rfl, hc 1 _ rfl⟩
set_option maxRecDepth 8000 in
set_option maxHeartbeats 4000000 in
theorem idsOk_impl (l : List Idd) (A : Option Addr) (n c : Nat) (w : World) (h : RowR iddR 2 w A n c l) (hb : iddsB l) :
    Calls Try.prog 129 #[.slice A n c] w fun e w' => e = .returned (.bool (idsOkB l)) ∧ Below w.heap.size w w' := by
  have HL := Lib.hid h.len.symm
  have hn : n ≤ 9223372036854775807 := by have := h.len; unfold iddsB at hb; omega
  go_enter Try.func129, Try.ntmps129
  go_wp2_with fail
  go_loopw [7] (fun i wr => ∃ (k : Nat), k ≤ n ∧ i = .int .i64 k ∧ (∀ j : Nat, j < k → iddOkB (iddAt l j) = true ∧ (j = 0 ∨ iddLess (iddAt l (j - 1)) (iddAt l j) = true)) ∧ Below w.heap.size w wr) (fun i _ => n - (intOf i).toNat)
  case atStart => exact ⟨0, Nat.zero_le _, rfl, fun j h => absurd h (by omega), Below.refl _ _⟩
  case round =>
    obtain ⟨k, hk, rfl, hcl, hbr⟩ := hrel
    have HCL := Lib.hid hcl; clear hcl
    by_cases hlt : k < n
    · obtain ⟨b, off, rfl⟩ := h.head (by omega)
      obtain ⟨bl, x, cs, hx, hR, hcell⟩ := h.elem_at hlt
      obtain ⟨x0', x1'⟩ := iddR_cells hR hcell
      have e0 := (hbr.cell (p := ⟨b, off + k * 2, none⟩) bl).trans x0'
      have e1 := (hbr.cell (p := ⟨b, off + k * 2 + 1, none⟩) bl).trans x1'
      have hax : iddAt l k = x := iddAt_of hx
      have HAX := Lib.hid hax; clear hax
      clear hcell hR x0' x1'
      have hbs : b < wr.heap.size := Nat.lt_of_lt_of_le bl hbr.size
      have al := (Below.refl wr.heap.size wr).alloc (Nat.le_refl _) (.cells #[.int .i64 x.r, .int .i64 x.s] 46)
      go_wp2_with fail
      obtain ⟨W, hW⟩ : ∃ W, W = wr.alloc (.cells #[.int .i64 x.r, .int .i64 x.s] 46) := ⟨_, rfl⟩
      obtain ⟨g, hg⟩ : ∃ g, wr.heap.size = g := ⟨_, rfl⟩
      have z0 : W.cell? ⟨g, 0, none⟩ = some (.int .i64 x.r) := by rw [hW, ← hg]; simp [go_sem]
      have z1 : W.cell? ⟨g, 1, none⟩ = some (.int .i64 x.s) := by rw [hW, ← hg]; simp [go_sem]
      have e2 := keep_cell al e0
      have e3 := keep_cell al e1
      have hbW := bthen hbr al
      have hsW := al.size
      rw [← hW] at hbW e2 e3 hsW ⊢
      have hgW := cell_lt z0
      have hbsW : b < W.heap.size := by omega
      rw [hg] at ⊢
      clear hW al e0 e1
      obtain ⟨q1, hq1⟩ : ∃ q, iddOkB x = q := ⟨_, rfl⟩
      have Q1 := Lib.hid hq1; clear hq1
      cases q1
      · have HB := Lib.hid (idsOk_no (l := l) (j := k) (by have := HL.out; omega) (.inl (by rw [HAX.out]; exact Q1.out)))
        refine wp_region_grow (by kernel_rfl) (by kernel_rfl) ?_
        repeat (first | go_big_quiet_step ((go_at_call 128; exact grow_of (known Q1.out (idOk_any x _)))))
        refine wpQuiet_nil ?_
        intro _ hw'
        obtain ⟨⟨w4, hb4⟩, hw''⟩ := hw'
        change _ = w4 at hw''
        subst hw''
        go_wp2
        go_returns
        exact ⟨by rw [HB.out]; rfl, bthen hbW hb4⟩
      · by_cases hk0 : k = 0
        · have HK := Lib.hid (show ∀ j : Nat, j < k + 1 → iddOkB (iddAt l j) = true ∧ (j = 0 ∨ iddLess (iddAt l (j - 1)) (iddAt l j) = true) from fun j hj => by
            have hjk : j = k := by omega
            rw [hjk]
            exact ⟨by rw [HAX.out]; exact Q1.out, .inl hk0⟩)
          have gd0 : decide ((k : Int) > 0) = false := by rw [decide_eq_false_iff_not]; omega
          have gd00 : decide (0 < k) = false := by rw [decide_eq_false_iff_not]; omega
          have gd000 : ¬ 0 < k := by omega
          clear hk0
          refine wp_region_grow (by kernel_rfl) (by kernel_rfl) ?_
          repeat (first | go_big_quiet_step ((go_at_call 128; exact grow_of (known Q1.out (idOk_any x _)))))
          refine wpQuiet_nil ?_
          intro _ hw'
          obtain ⟨⟨w4, hb4⟩, hw''⟩ := hw'
          change _ = w4 at hw''
          subst hw''
          go_wp2
          exact ⟨⟨k + 1, by omega, by go_num, HK.out, bthen hbW hb4⟩, by simp [intOf]; omega⟩
        · obtain ⟨k', rfl⟩ : ∃ k', k = k' + 1 := ⟨k - 1, by omega⟩
          clear hk0
          obtain ⟨_, y, cs', hy, hRy, hcelly⟩ := h.elem_at (i := k') (by omega)
          obtain ⟨y0', y1'⟩ := iddR_cells hRy hcelly
          have y0 := (hbW.cell (p := ⟨b, off + k' * 2, none⟩) bl).trans y0'
          have y1 := (hbW.cell (p := ⟨b, off + k' * 2 + 1, none⟩) bl).trans y1'
          have hay : iddAt l k' = y := iddAt_of hy
          have HAY := Lib.hid hay; clear hay
          clear hcelly hRy y0' y1' hy hx
          have gd0 : decide (((k' + 1 : Nat) : Int) > 0) = true := by rw [decide_eq_true_eq]; omega
          have gd1 : (((k' + 1 : Nat) : Int)) - 1 = (k' : Int) := by omega
          obtain ⟨q2, hq2⟩ : ∃ q, iddLess y x = q := ⟨_, rfl⟩
          have hge := cmpI_ge y x
          rw [hq2] at hge
          have Q2 := Lib.hid hq2; clear hq2
          cases q2
          · have HB := Lib.hid (idsOk_no (l := l) (j := k' + 1) (by have := HL.out; omega) (.inr ⟨by omega, by rw [Nat.add_sub_cancel, HAX.out, HAY.out]; exact Q2.out⟩))
            simp only [Bool.not_false] at hge
            refine wp_region_grow (by kernel_rfl) (by kernel_rfl) ?_
            repeat (first | go_big_quiet_step (first | (go_at_call 128; exact grow_of (known Q1.out (idOk_any x _))) | (go_at_call 163; exact grow_of (cmp_any y x _))))
            refine wpQuiet_nil ?_
            intro _ hw'
            obtain ⟨⟨w4, hb4⟩, hw''⟩ := hw'
            change _ = w4 at hw''
            subst hw''
            go_wp2
            go_returns
            exact ⟨by rw [HB.out]; rfl, bthen hbW hb4⟩
          · simp only [Bool.not_true] at hge
            refine wp_region_grow (by kernel_rfl) (by kernel_rfl) ?_
            repeat (first | go_big_quiet_step (first | (go_at_call 128; exact grow_of (known Q1.out (idOk_any x _))) | (go_at_call 163; exact grow_of (cmp_any y x _))))
            refine wpQuiet_nil ?_
            intro _ hw'
            obtain ⟨⟨w4, hb4⟩, hw''⟩ := hw'
            change _ = w4 at hw''
            subst hw''
            go_wp2
            refine ⟨⟨k' + 1 + 1, by omega, by go_num, fun j hj => ?_, bthen hbW hb4⟩, by simp [intOf]; omega⟩
            by_cases e : j = k' + 1
            · subst e; exact ⟨by rw [HAX.out]; exact Q1.out, .inr (by rw [Nat.add_sub_cancel, HAX.out, HAY.out]; exact Q2.out)⟩
            · exact HCL.out j (by omega)
    · go_wp2
      go_returns
      have HB := idsOk_yes (l := l) (fun j hj => HCL.out j (by have := HL.out; omega))
      exact ⟨by rw [HB]; rfl, hbr⟩
set_option maxRecDepth 8000 in
set_option maxHeartbeats 4000000 in
theorem idsOk_spec (l : List Idd) (A : Option Addr) (n c : Nat) (w : World) (h : RowR iddR 2 w A n c l) (hb : iddsB l) :
    Calls Try.prog 126 #[.slice A n c] w fun e w' => e = .returned (.bool (idsOkB l)) ∧ Below w.heap.size w w' := by
  have HL := Lib.hid h.len.symm
  have hn : n ≤ 9223372036854775807 := by have := h.len; unfold iddsB at hb; omega
  go_enter Try.func126, Try.ntmps126
  go_wp2_with fail
  go_loopw [3] (fun i wr => ∃ (k : Nat), k ≤ n ∧ i = .int .i64 k ∧ (∀ j : Nat, j < k → iddOkB (iddAt l j) = true ∧ (j = 0 ∨ iddLess (iddAt l (j - 1)) (iddAt l j) = true)) ∧ Below w.heap.size w wr) (fun i _ => n - (intOf i).toNat)
  case atStart => exact ⟨0, Nat.zero_le _, rfl, fun j h => absurd h (by omega), Below.refl _ _⟩
  case round =>
    obtain ⟨k, hk, rfl, hcl, hbr⟩ := hrel
    have HCL := Lib.hid hcl; clear hcl
    by_cases hlt : k < n
    · obtain ⟨b, off, rfl⟩ := h.head (by omega)
      obtain ⟨bl, x, cs, hx, hR, hcell⟩ := h.elem_at hlt
      obtain ⟨x0', x1'⟩ := iddR_cells hR hcell
      have e0 := (hbr.cell (p := ⟨b, off + k * 2, none⟩) bl).trans x0'
      have e1 := (hbr.cell (p := ⟨b, off + k * 2 + 1, none⟩) bl).trans x1'
      have hax : iddAt l k = x := iddAt_of hx
      have HAX := Lib.hid hax; clear hax
      clear hcell hR x0' x1'
      have hbs : b < wr.heap.size := Nat.lt_of_lt_of_le bl hbr.size
      have hbW := hbr
      have hbsW := hbs
      obtain ⟨W, hW⟩ : ∃ W, W = wr := ⟨_, rfl⟩
      subst hW
      obtain ⟨q1, hq1⟩ : ∃ q, iddOkB x = q := ⟨_, rfl⟩
      have Q1 := Lib.hid hq1; clear hq1
      cases q1
      · have HB := Lib.hid (idsOk_no (l := l) (j := k) (by have := HL.out; omega) (.inl (by rw [HAX.out]; exact Q1.out)))
        go_wp2
        refine wp_region_grow (by kernel_rfl) (by kernel_rfl) ?_
        repeat (first | go_big_quiet_step ((go_at_call 124; exact grow_of (known Q1.out (l8Id_any x _)))))
        refine wpQuiet_nil ?_
        intro _ hw'
        obtain ⟨⟨w4, hb4⟩, hw''⟩ := hw'
        change _ = w4 at hw''
        subst hw''
        go_wp2
        go_returns
        exact ⟨by rw [HB.out]; rfl, bthen hbW hb4⟩
      · by_cases hk0 : k = 0
        · have HK := Lib.hid (show ∀ j : Nat, j < k + 1 → iddOkB (iddAt l j) = true ∧ (j = 0 ∨ iddLess (iddAt l (j - 1)) (iddAt l j) = true) from fun j hj => by
            have hjk : j = k := by omega
            rw [hjk]
            exact ⟨by rw [HAX.out]; exact Q1.out, .inl hk0⟩)
          have gd0 : decide ((k : Int) > 0) = false := by rw [decide_eq_false_iff_not]; omega
          have gd00 : decide (0 < k) = false := by rw [decide_eq_false_iff_not]; omega
          have gd000 : ¬ 0 < k := by omega
          clear hk0
          go_wp2
          refine wp_region_grow (by kernel_rfl) (by kernel_rfl) ?_
          repeat (first | go_big_quiet_step ((go_at_call 124; exact grow_of (known Q1.out (l8Id_any x _)))))
          refine wpQuiet_nil ?_
          intro _ hw'
          obtain ⟨⟨w4, hb4⟩, hw''⟩ := hw'
          change _ = w4 at hw''
          subst hw''
          go_wp2
          exact ⟨⟨k + 1, by omega, by go_num, HK.out, bthen hbW hb4⟩, by simp [intOf]; omega⟩
        · obtain ⟨k', rfl⟩ : ∃ k', k = k' + 1 := ⟨k - 1, by omega⟩
          clear hk0
          obtain ⟨_, y, cs', hy, hRy, hcelly⟩ := h.elem_at (i := k') (by omega)
          obtain ⟨y0', y1'⟩ := iddR_cells hRy hcelly
          have y0 := (hbW.cell (p := ⟨b, off + k' * 2, none⟩) bl).trans y0'
          have y1 := (hbW.cell (p := ⟨b, off + k' * 2 + 1, none⟩) bl).trans y1'
          have hay : iddAt l k' = y := iddAt_of hy
          have HAY := Lib.hid hay; clear hay
          clear hcelly hRy y0' y1' hy hx
          have gd0 : decide (((k' + 1 : Nat) : Int) > 0) = true := by rw [decide_eq_true_eq]; omega
          have gd1 : (((k' + 1 : Nat) : Int)) - 1 = (k' : Int) := by omega
          obtain ⟨q2, hq2⟩ : ∃ q, iddLess y x = q := ⟨_, rfl⟩
          have hge := cmpI_ge y x
          rw [hq2] at hge
          have Q2 := Lib.hid hq2; clear hq2
          cases q2
          · have HB := Lib.hid (idsOk_no (l := l) (j := k' + 1) (by have := HL.out; omega) (.inr ⟨by omega, by rw [Nat.add_sub_cancel, HAX.out, HAY.out]; exact Q2.out⟩))
            simp only [Bool.not_false] at hge
            go_wp2
            refine wp_region_grow (by kernel_rfl) (by kernel_rfl) ?_
            repeat (first | go_big_quiet_step (first | (go_at_call 124; exact grow_of (known Q1.out (l8Id_any x _))) | (go_at_call 162; exact grow_of (known Q2.out (l8Less_any y x _)))))
            refine wpQuiet_nil ?_
            intro _ hw'
            obtain ⟨⟨w4, hb4⟩, hw''⟩ := hw'
            change _ = w4 at hw''
            subst hw''
            go_wp2
            go_returns
            exact ⟨by rw [HB.out]; rfl, bthen hbW hb4⟩
          · simp only [Bool.not_true] at hge
            go_wp2
            refine wp_region_grow (by kernel_rfl) (by kernel_rfl) ?_
            repeat (first | go_big_quiet_step (first | (go_at_call 124; exact grow_of (known Q1.out (l8Id_any x _))) | (go_at_call 162; exact grow_of (known Q2.out (l8Less_any y x _)))))
            refine wpQuiet_nil ?_
            intro _ hw'
            obtain ⟨⟨w4, hb4⟩, hw''⟩ := hw'
            change _ = w4 at hw''
            subst hw''
            go_wp2
            refine ⟨⟨k' + 1 + 1, by omega, by go_num, fun j hj => ?_, bthen hbW hb4⟩, by simp [intOf]; omega⟩
            by_cases e : j = k' + 1
            · subst e; exact ⟨by rw [HAX.out]; exact Q1.out, .inr (by rw [Nat.add_sub_cancel, HAX.out, HAY.out]; exact Q2.out)⟩
            · exact HCL.out j (by omega)
    · go_wp2
      go_returns
      have HB := idsOk_yes (l := l) (fun j hj => HCL.out j (by have := HL.out; omega))
      exact ⟨by rw [HB]; rfl, hbr⟩
end Go.Proofs.Ytdphdnllhmnelaa
/- Is an id in a row: the reference's l8Has, slices.Contains at Id. -/
namespace Go.Proofs.Ytdphdnllhmnelaa
open Go.RowKit
attribute [local irreducible] RowR
attribute [local go_sem] Grow.cell Grow.frozen
def iddEq (a b : Idd) : Bool := a.r == b.r && a.s == b.s
def hasId (l : List Idd) (x : Idd) : Bool := l.any (fun y => iddEq y x)
theorem hasId_yes {l : List Idd} {k : Nat} {x : Idd} (hk : k < l.length) (h : iddEq (iddAt l k) x = true) : hasId l x = true := by
  unfold hasId; rw [List.any_eq_true]; exact ⟨iddAt l k, by rw [iddAt_get hk]; exact List.getElem_mem hk, h⟩
theorem hasId_no {l : List Idd} {x : Idd} (h : ∀ j, j < l.length → iddEq (iddAt l j) x = false) : hasId l x = false := by
  unfold hasId; rw [List.any_eq_false]
  intro y hy
  obtain ⟨i, hi, rfl⟩ := List.mem_iff_getElem.1 hy
  have := h i hi
  rw [iddAt_get hi] at this
  simp [this]
set_option maxRecDepth 8000 in
theorem l8Has_any (l : List Idd) (x : Idd) (A : Option Addr) (n c : Nat) (w : World) (h : RowR iddR 2 w A n c l) (hb : iddsB l) :
    Calls Try.prog 127 #[.slice A n c, iddV x] w fun e w' => e = .returned (.bool (hasId l x)) ∧ Below w.heap.size w w' := by
  have HL := Lib.hid h.len.symm
  have hn : n ≤ 9223372036854775807 := by have := h.len; unfold iddsB at hb; omega
  obtain ⟨r, s⟩ := x
  unfold iddV
  go_enter Try.func127, Try.ntmps127
  go_wp2_with fail
  go_loopw [5] (fun i wr => ∃ k : Nat, k ≤ n ∧ i = .int .i64 k ∧ (∀ j, j < k → iddEq (iddAt l j) ⟨r, s⟩ = false) ∧ Below w.heap.size w wr ∧ wr.cell? ⟨w.heap.size, 0, none⟩ = some (.int .i64 r) ∧ wr.cell? ⟨w.heap.size, 1, none⟩ = some (.int .i64 s)) (fun i _ => n - (intOf i).toNat)
  case atStart => exact ⟨0, Nat.zero_le _, rfl, fun j hj => absurd hj (by omega), by go_grown, by simp [go_sem], by simp [go_sem]⟩
  case round =>
    obtain ⟨k, hk, rfl, hx, hbr, b0, b1⟩ := hrel
    have HX := Lib.hid hx; clear hx
    by_cases hlt : k < n
    · obtain ⟨b, off, rfl⟩ := h.head (by omega)
      obtain ⟨bl, y, cs, hy, hR, hcell⟩ := h.elem_at hlt
      obtain ⟨x0', x1'⟩ := iddR_cells hR hcell
      have e0 := (hbr.cell (p := ⟨b, off + k * 2, none⟩) bl).trans x0'
      have e1 := (hbr.cell (p := ⟨b, off + k * 2 + 1, none⟩) bl).trans x1'
      have hax : iddAt l k = y := iddAt_of hy
      have HAX := Lib.hid hax; clear hax hy hcell hR x0' x1'
      obtain ⟨r', s'⟩ := y
      have hbs : b < wr.heap.size := Nat.lt_of_lt_of_le bl hbr.size
      have hgs := cell_lt b0
      by_cases h1 : r' = r ∧ s' = s
      · obtain ⟨rfl, rfl⟩ := h1
        go_wp2
        refine wp_region_grow (by kernel_rfl) (by kernel_rfl) ?_
        repeat (first | go_big_quiet_step (fail))
        refine wpQuiet_nil ?_
        intro _ hw'
        obtain ⟨⟨w4, hb4⟩, hw''⟩ := hw'
        change _ = w4 at hw''
        subst hw''
        go_wp2
        go_returns
        exact ⟨by rw [hasId_yes (l := l) (k := k) (by have := HL.out; omega) (by rw [HAX.out]; simp [iddEq])]; rfl, bthen hbr hb4⟩
      · by_cases h2 : r' = r
        · have h3 : ¬ s' = s := fun e => h1 ⟨h2, e⟩
          have g3 : (s' == s) = false := by simpa using h3
          clear h1
          subst h2
          have GD := Lib.hid (show iddEq ⟨r', s'⟩ ⟨r', s⟩ = false by simp [iddEq, h3])
          go_wp2
          refine wp_region_grow (by kernel_rfl) (by kernel_rfl) ?_
          repeat (first | go_big_quiet_step (fail))
          refine wpQuiet_nil ?_
          intro _ hw'
          obtain ⟨⟨w4, hb4⟩, hw''⟩ := hw'
          change _ = w4 at hw''
          subst hw''
          go_wp2
          refine ⟨⟨k + 1, by omega, by go_num, fun j hj => ?_, bthen hbr hb4, keep_cell hb4 b0, keep_cell hb4 b1⟩, by simp [intOf]; omega⟩
          by_cases e : j = k
          · subst e; rw [HAX.out]; exact GD.out
          · exact HX.out j (by omega)
        · have g2 : (r' == r) = false := by simpa using h2
          clear h1
          have GD := Lib.hid (show iddEq ⟨r', s'⟩ ⟨r, s⟩ = false by simp [iddEq, h2])
          go_wp2
          refine wp_region_grow (by kernel_rfl) (by kernel_rfl) ?_
          repeat (first | go_big_quiet_step (fail))
          refine wpQuiet_nil ?_
          intro _ hw'
          obtain ⟨⟨w4, hb4⟩, hw''⟩ := hw'
          change _ = w4 at hw''
          subst hw''
          go_wp2
          refine ⟨⟨k + 1, by omega, by go_num, fun j hj => ?_, bthen hbr hb4, keep_cell hb4 b0, keep_cell hb4 b1⟩, by simp [intOf]; omega⟩
          by_cases e : j = k
          · subst e; rw [HAX.out]; exact GD.out
          · exact HX.out j (by omega)
    · go_wp2
      go_returns
      exact ⟨by rw [hasId_no (fun j hj => HX.out j (by have := HL.out; omega))]; rfl, hbr⟩
end Go.Proofs.Ytdphdnllhmnelaa
/- slices.Index, slices.Contains at Id. -/
namespace Go.Proofs.Ytdphdnllhmnelaa
open Go.RowKit
attribute [local irreducible] RowR
attribute [local go_sem] Grow.cell Grow.frozen
set_option maxRecDepth 8000 in
theorem indexId_any (l : List Idd) (x : Idd) (A : Option Addr) (n c : Nat) (w : World) (h : RowR iddR 2 w A n c l) (hb : iddsB l) :
    Calls Try.prog 164 #[.slice A n c, iddV x] w fun e w' => ∃ i : Int, e = .returned (.int .i64 i) ∧ decide (i ≥ 0) = hasId l x ∧ Below w.heap.size w w' := by
  have HL := Lib.hid h.len.symm
  have hn : n ≤ 9223372036854775807 := by have := h.len; unfold iddsB at hb; omega
  obtain ⟨r, s⟩ := x
  unfold iddV
  go_enter Try.func164, Try.ntmps164
  go_wp2_with fail
  go_loopw [8] (fun i wr => ∃ k : Nat, k ≤ n ∧ i = .int .i64 k ∧ (∀ j, j < k → iddEq (iddAt l j) ⟨r, s⟩ = false) ∧ Below w.heap.size w wr ∧ wr.cell? ⟨w.heap.size, 0, none⟩ = some (.int .i64 r) ∧ wr.cell? ⟨w.heap.size, 1, none⟩ = some (.int .i64 s)) (fun i _ => n - (intOf i).toNat)
  case atStart => exact ⟨0, Nat.zero_le _, rfl, fun j hj => absurd hj (by omega), by go_grown, by simp [go_sem], by simp [go_sem]⟩
  case round =>
    obtain ⟨k, hk, rfl, hx, hbr, b0, b1⟩ := hrel
    have HX := Lib.hid hx; clear hx
    by_cases hlt : k < n
    · obtain ⟨b, off, rfl⟩ := h.head (by omega)
      obtain ⟨bl, y, cs, hy, hR, hcell⟩ := h.elem_at hlt
      obtain ⟨x0', x1'⟩ := iddR_cells hR hcell
      have e0 := (hbr.cell (p := ⟨b, off + k * 2, none⟩) bl).trans x0'
      have e1 := (hbr.cell (p := ⟨b, off + k * 2 + 1, none⟩) bl).trans x1'
      have hax : iddAt l k = y := iddAt_of hy
      have HAX := Lib.hid hax; clear hax hy hcell hR x0' x1'
      obtain ⟨r', s'⟩ := y
      have hbs : b < wr.heap.size := Nat.lt_of_lt_of_le bl hbr.size
      have hgs := cell_lt b0
      by_cases h1 : r' = r ∧ s' = s
      · obtain ⟨rfl, rfl⟩ := h1
        go_wp2
        refine wp_region_grow (by kernel_rfl) (by kernel_rfl) ?_
        repeat (first | go_big_quiet_step (fail))
        refine wpQuiet_nil ?_
        intro _ hw'
        obtain ⟨⟨w4, hb4⟩, hw''⟩ := hw'
        change _ = w4 at hw''
        subst hw''
        go_wp2
        go_returns
        exact ⟨k, rfl, by rw [hasId_yes (l := l) (k := k) (by have := HL.out; omega) (by rw [HAX.out]; simp [iddEq])]; simp, bthen hbr hb4⟩
      · by_cases h2 : r' = r
        · have h3 : ¬ s' = s := fun e => h1 ⟨h2, e⟩
          have g3 : (s == s') = false := by simpa using fun e => h3 e.symm
          clear h1
          subst h2
          have GD := Lib.hid (show iddEq ⟨r', s'⟩ ⟨r', s⟩ = false by simp [iddEq, h3])
          go_wp2
          refine wp_region_grow (by kernel_rfl) (by kernel_rfl) ?_
          repeat (first | go_big_quiet_step (fail))
          refine wpQuiet_nil ?_
          intro _ hw'
          obtain ⟨⟨w4, hb4⟩, hw''⟩ := hw'
          change _ = w4 at hw''
          subst hw''
          go_wp2
          refine ⟨⟨k + 1, by omega, by go_num, fun j hj => ?_, bthen hbr hb4, keep_cell hb4 b0, keep_cell hb4 b1⟩, by simp [intOf]; omega⟩
          by_cases e : j = k
          · subst e; rw [HAX.out]; exact GD.out
          · exact HX.out j (by omega)
        · have g2 : (r == r') = false := by simpa using fun e => h2 e.symm
          clear h1
          have GD := Lib.hid (show iddEq ⟨r', s'⟩ ⟨r, s⟩ = false by simp [iddEq, h2])
          go_wp2
          refine wp_region_grow (by kernel_rfl) (by kernel_rfl) ?_
          repeat (first | go_big_quiet_step (fail))
          refine wpQuiet_nil ?_
          intro _ hw'
          obtain ⟨⟨w4, hb4⟩, hw''⟩ := hw'
          change _ = w4 at hw''
          subst hw''
          go_wp2
          refine ⟨⟨k + 1, by omega, by go_num, fun j hj => ?_, bthen hbr hb4, keep_cell hb4 b0, keep_cell hb4 b1⟩, by simp [intOf]; omega⟩
          by_cases e : j = k
          · subst e; rw [HAX.out]; exact GD.out
          · exact HX.out j (by omega)
    · go_wp2
      go_returns
      exact ⟨-1, rfl, by rw [hasId_no (fun j hj => HX.out j (by have := HL.out; omega))]; rfl, hbr⟩
set_option maxRecDepth 8000 in
theorem containsId_any (l : List Idd) (x : Idd) (A : Option Addr) (n c : Nat) (w : World) (h : RowR iddR 2 w A n c l) (hb : iddsB l) :
    Calls Try.prog 130 #[.slice A n c, iddV x] w fun e w' => e = .returned (.bool (hasId l x)) ∧ Below w.heap.size w w' := by
  have al := (Below.refl w.heap.size w).alloc (Nat.le_refl _) (.cells #[.int .i64 x.r, .int .i64 x.s] 46)
  have h1 := h.keep iddK al
  unfold iddV
  go_enter Try.func130, Try.ntmps130
  go_wp2_with fail
  refine (indexId_any l x A n c _ h1 hb).mono ?_
  rintro e w' ⟨i, rfl, hi, hb1⟩
  have HI := Lib.hid hi; clear hi
  have hbb := bthen al hb1
  go_wp2
  go_returns
  exact ⟨by rw [HI.out]; rfl, hbb⟩
end Go.Proofs.Ytdphdnllhmnelaa
/- Is an instance right: the program's instOk. -/
namespace Go.Proofs.Ytdphdnllhmnelaa
open Go.RowKit
def insTail (x : Ins) : Bool := !(x.st == 0) || (x.vb == -1 && x.cmd.kd == 0 && x.seq == 0 && x.deps.length == 0 && !x.same)
def insOkB (x : Ins) : Bool := iddOkB x.id && inB x.bal (-1) 600 && inB x.vb (-1) x.bal && inB x.st 0 3 && cmOkB x.cmd && inB x.seq 0 60 && idsOkB x.deps && !hasId x.deps x.id && insTail x
attribute [local irreducible] StrR RowR cmOkB iddOkB idsOkB hasId inB
set_option maxRecDepth 8000 in
set_option maxHeartbeats 8000000 in
theorem instOk_impl (x : Ins) (A1 : Option Addr) (n1 c1 : Nat) (A2 : Option Addr) (n2 c2 : Nat) (w : World) (h1 : StrR w A1 n1 c1 x.cmd.ch) (h2 : RowR iddR 2 w A2 n2 c2 x.deps) (hb1 : cmB x.cmd) (hb2 : iddsB x.deps) :
    Calls Try.prog 75 #[insV x (.slice A1 n1 c1) (.slice A2 n2 c2)] w fun e w' => e = .returned (.bool (insOkB x)) ∧ Below w.heap.size w w' := by
  have HL := Lib.hid h2.len
  have hn2 : n2 ≤ 9223372036854775807 := by have := h2.len; unfold iddsB at hb2; omega
  obtain ⟨q0, hq0⟩ : ∃ q, iddOkB x.id = q := ⟨_, rfl⟩
  obtain ⟨q1, hq1⟩ : ∃ q, inB x.bal (-1) 600 = q := ⟨_, rfl⟩
  obtain ⟨q2, hq2⟩ : ∃ q, inB x.vb (-1) x.bal = q := ⟨_, rfl⟩
  obtain ⟨q3, hq3⟩ : ∃ q, inB x.st 0 3 = q := ⟨_, rfl⟩
  obtain ⟨q4, hq4⟩ : ∃ q, cmOkB x.cmd = q := ⟨_, rfl⟩
  obtain ⟨q5, hq5⟩ : ∃ q, inB x.seq 0 60 = q := ⟨_, rfl⟩
  obtain ⟨q6, hq6⟩ : ∃ q, idsOkB x.deps = q := ⟨_, rfl⟩
  obtain ⟨q7, hq7⟩ : ∃ q, hasId x.deps x.id = q := ⟨_, rfl⟩
  have HV := Lib.hid (show insOkB x = (q0 && q1 && q2 && q3 && q4 && q5 && q6 && !q7 && insTail x) by unfold insOkB; rw [hq0, hq1, hq2, hq3, hq4, hq5, hq6, hq7])
  have Q0 := Lib.hid hq0; clear hq0
  have Q1 := Lib.hid hq1; clear hq1
  have Q2 := Lib.hid hq2; clear hq2
  have Q3 := Lib.hid hq3; clear hq3
  have Q4 := Lib.hid hq4; clear hq4
  have Q5 := Lib.hid hq5; clear hq5
  have Q6 := Lib.hid hq6; clear hq6
  have Q7 := Lib.hid hq7; clear hq7
  unfold insV
  go_enter Try.func75, Try.ntmps75
  go_wp2_with fail
  refine (idOk_any x.id _).mono ?_
  rintro e w1 ⟨rfl, hb11⟩
  obtain ⟨hc0, hf0⟩ := bcell hb11
  have hz0 := hb11.size
  try simp at hz0
  have hB0 : Below w.heap.size w w1 := bthen (by go_grown) hb11
  have hzz0 : w.heap.size < w1.heap.size := by omega
  rw [Q0.out]
  cases q0
  · go_wp2
    go_returns
    exact ⟨ret_bool (by rw [HV.out]; simp), hB0⟩
  · skip
    go_wp2_with fail
    refine (within_any _ _ _ _).mono ?_
    rintro e w' ⟨rfl, rfl⟩
    rw [Q1.out]
    cases q1
    · go_wp2
      go_returns
      exact ⟨ret_bool (by rw [HV.out]; simp), hB0⟩
    · skip
      go_wp2_with fail
      refine (within_any _ _ _ _).mono ?_
      rintro e w' ⟨rfl, rfl⟩
      rw [Q2.out]
      cases q2
      · go_wp2
        go_returns
        exact ⟨ret_bool (by rw [HV.out]; simp), hB0⟩
      · skip
        go_wp2_with fail
        refine (within_any _ _ _ _).mono ?_
        rintro e w' ⟨rfl, rfl⟩
        rw [Q3.out]
        cases q3
        · go_wp2
          go_returns
          exact ⟨ret_bool (by rw [HV.out]; simp), hB0⟩
        · skip
          go_wp2_with fail
          refine (cmdOk_impl x.cmd _ _ _ _ (h1.keep hB0) hb1).mono ?_
          rintro e w5 ⟨rfl, hb15⟩
          obtain ⟨hc4, hf4⟩ := bcell hb15
          have hz4 := hb15.size
          try simp at hz4
          have hB4 : Below w.heap.size w w5 := bthen hB0 hb15
          have hzz4 : w.heap.size < w5.heap.size := by omega
          rw [Q4.out]
          cases q4
          · go_wp2
            go_returns
            exact ⟨ret_bool (by rw [HV.out]; simp), hB4⟩
          · skip
            go_wp2_with fail
            refine (within_any _ _ _ _).mono ?_
            rintro e w' ⟨rfl, rfl⟩
            rw [Q5.out]
            cases q5
            · go_wp2
              go_returns
              exact ⟨ret_bool (by rw [HV.out]; simp), hB4⟩
            · skip
              go_wp2_with fail
              refine (idsOk_impl x.deps _ _ _ _ (h2.keep iddK hB4) hb2).mono ?_
              rintro e w7 ⟨rfl, hb17⟩
              obtain ⟨hc6, hf6⟩ := bcell hb17
              have hz6 := hb17.size
              try simp at hz6
              have hB6 : Below w.heap.size w w7 := bthen hB4 hb17
              have hzz6 : w.heap.size < w7.heap.size := by omega
              rw [Q6.out]
              cases q6
              · go_wp2
                go_returns
                exact ⟨ret_bool (by rw [HV.out]; simp), hB6⟩
              · skip
                go_wp2_with fail
                refine (containsId_any x.deps x.id _ _ _ _ (h2.keep iddK hB6) hb2).mono ?_
                rintro e w8 ⟨rfl, hb18⟩
                obtain ⟨hc7, hf7⟩ := bcell hb18
                have hz7 := hb18.size
                try simp at hz7
                have hB7 : Below w.heap.size w w8 := bthen hB6 hb18
                have hzz7 : w.heap.size < w8.heap.size := by omega
                rw [Q7.out]
                cases q7
                · have HT := Lib.hid (show insOkB x = insTail x by rw [HV.out]; simp)
                  by_cases t0 : x.st = 0
                  · have T := Lib.hid (show insTail x = (x.vb == -1 && x.cmd.kd == 0 && x.seq == 0 && x.deps.length == 0 && !x.same) by unfold insTail; simp [t0])
                    have g0 : (x.st == 0) = true := by simp [t0]
                    have g00 : (x.st != 0) = false := by simp [t0]
                    clear t0
                    obtain ⟨r1, e1⟩ : ∃ q, (x.vb == -1) = q := ⟨_, rfl⟩
                    obtain ⟨r2, e2⟩ : ∃ q, (x.cmd.kd == 0) = q := ⟨_, rfl⟩
                    obtain ⟨r3, e3⟩ : ∃ q, (x.seq == 0) = q := ⟨_, rfl⟩
                    obtain ⟨r4, e4⟩ : ∃ q, ((n2 : Int) == 0) = q := ⟨_, rfl⟩
                    obtain ⟨r5, e5⟩ : ∃ q, x.same = q := ⟨_, rfl⟩
                    have T2 := Lib.hid (show insTail x = (r1 && r2 && r3 && r4 && !r5) by rw [T.out, e1, e2, e3, e5, ← e4, HL.out]; congr 2; exact beq_bool (by simp only [beq_iff_eq]; omega))
                    clear T
                    cases r1
                    · go_wp2
                      go_returns
                      exact ⟨ret_bool (by rw [HT.out, T2.out]; simp), hB7⟩
                    · skip
                      cases r2
                      · go_wp2
                        go_returns
                        exact ⟨ret_bool (by rw [HT.out, T2.out]; simp), hB7⟩
                      · skip
                        cases r3
                        · go_wp2
                          go_returns
                          exact ⟨ret_bool (by rw [HT.out, T2.out]; simp), hB7⟩
                        · skip
                          cases r4
                          · go_wp2
                            go_returns
                            exact ⟨ret_bool (by rw [HT.out, T2.out]; simp), hB7⟩
                          · skip
                            cases r5
                            · go_wp2
                              go_returns
                              exact ⟨ret_bool (by rw [HT.out, T2.out]; simp), hB7⟩
                            · go_wp2
                              go_returns
                              exact ⟨ret_bool (by rw [HT.out, T2.out]; simp), hB7⟩
                  · have T := Lib.hid (show insTail x = true by unfold insTail; simp [t0])
                    have g0 : (x.st == 0) = false := by simp [t0]
                    have g00 : (x.st != 0) = true := by simp [t0]
                    clear t0
                    go_wp2
                    go_returns
                    exact ⟨ret_bool (by rw [HT.out, T.out]), hB7⟩
                · go_wp2
                  go_returns
                  exact ⟨ret_bool (by rw [HV.out]; simp), hB7⟩
end Go.Proofs.Ytdphdnllhmnelaa
/- Plain laws: the text of an instance, and its being read back. -/
namespace Go.Proofs.Ytdphdnllhmnelaa
open Go.RowKit

theorem iddOk_bd {x : Idd} (h : iddOkB x = true) : (0 ≤ x.r ∧ x.r ≤ 2) ∧ 1 ≤ x.s ∧ x.s ≤ 6 := by
  unfold iddOkB at h
  rw [Bool.and_eq_true] at h
  exact ⟨inB_le h.1, inB_le h.2⟩
theorem idsOk_at {l : List Idd} (h : idsOkB l = true) {j : Nat} (hj : j < l.length) : iddOkB (iddAt l j) = true ∧ (j = 0 ∨ iddLess (iddAt l (j - 1)) (iddAt l j) = true) := by
  unfold idsOkB at h
  rw [List.all_eq_true] at h
  have := h j (List.mem_range.2 hj)
  simpa [Bool.and_eq_true, Bool.or_eq_true] using this
theorem idsOk_key {l : List Idd} (h : idsOkB l = true) : ∀ j, j < l.length → (j : Int) ≤ 6 * (iddAt l j).r + (iddAt l j).s - 1
  | 0, hj => by have := iddOk_bd (idsOk_at h hj).1; omega
  | j + 1, hj => by
    have ih := idsOk_key h j (by omega)
    have h1 := iddOk_bd (idsOk_at h hj).1
    have h2 := iddOk_bd (idsOk_at h (j := j) (by omega)).1
    rcases (idsOk_at h hj).2 with h3 | h3
    · omega
    · unfold iddLess at h3
      simp only [Nat.add_sub_cancel, Bool.or_eq_true, Bool.and_eq_true, decide_eq_true_eq, beq_iff_eq] at h3
      omega
theorem idsOk_len {l : List Idd} (h : idsOkB l = true) : l.length ≤ 18 := by
  rcases Nat.lt_or_ge 18 l.length with h1 | h1
  · have h2 := idsOk_key h 18 h1
    have h3 := iddOk_bd (idsOk_at h h1).1
    omega
  · exact h1
/-- the bounds of a right instance -/
structure InsBd (x : Ins) : Prop where
  r : 0 ≤ x.id.r ∧ x.id.r ≤ 2
  s : 1 ≤ x.id.s ∧ x.id.s ≤ 6
  bal : -1 ≤ x.bal ∧ x.bal ≤ 600
  vb : -1 ≤ x.vb ∧ x.vb ≤ 600
  st : 0 ≤ x.st ∧ x.st ≤ 3
  cmd : cmOkB x.cmd = true
  seq : 0 ≤ x.seq ∧ x.seq ≤ 60
  len : x.deps.length ≤ 18
  dep : ∀ j, j < x.deps.length → (0 ≤ (iddAt x.deps j).r ∧ (iddAt x.deps j).r ≤ 2) ∧ 1 ≤ (iddAt x.deps j).s ∧ (iddAt x.deps j).s ≤ 6
theorem insOk_bd {x : Ins} (h : insOkB x = true) : InsBd x := by
  unfold insOkB at h
  simp only [Bool.and_eq_true] at h
  obtain ⟨⟨⟨⟨⟨⟨⟨⟨h1, h2⟩, h3⟩, h4⟩, h5⟩, h6⟩, h7⟩, h8⟩, h9⟩ := h
  have k1 := iddOk_bd h1
  have k2 := inB_le h2
  have k3 := inB_le h3
  exact ⟨k1.1, k1.2, k2, by omega, inB_le h4, h5, inB_le h6, idsOk_len h7, fun j hj => iddOk_bd (idsOk_at h7 hj).1⟩
def sameT (b : Bool) : ByteArray := if b then ⟨#[1]⟩ else ⟨#[0]⟩
theorem sameT_size (b : Bool) : (sameT b).size = 1 := by cases b <;> rfl
def insHd (x : Ins) : ByteArray := varS x.id.r.toNat ++ varS x.id.s.toNat ++ varS (x.bal + 1).toNat ++ varS (x.vb + 1).toNat ++ varS x.st.toNat ++ varS x.seq.toNat ++ sameT x.same ++ (varS (cmText x.cmd).size ++ cmText x.cmd) ++ varS x.deps.length
def insTo (x : Ins) : Nat → ByteArray
  | 0 => insHd x
  | k + 1 => insTo x k ++ varS (iddAt x.deps k).r.toNat ++ varS (iddAt x.deps k).s.toNat
/-- an instance as text -/
def insText (x : Ins) : ByteArray := if insOkB x = true then insTo x x.deps.length else ByteArray.empty
def depL : List Idd → ByteArray
  | [] => ByteArray.empty
  | d :: l => varS d.r.toNat ++ (varS d.s.toNat ++ depL l)
theorem depL_app (a b : List Idd) : depL (a ++ b) = depL a ++ depL b := by
  induction a with
  | nil => simp [depL]
  | cons x a ih => simp only [List.cons_append, depL, ih, ByteArray.append_assoc]
theorem depL_drop {l : List Idd} {k : Nat} (h : k < l.length) : depL (l.drop k) = varS (iddAt l k).r.toNat ++ (varS (iddAt l k).s.toNat ++ depL (l.drop (k + 1))) := by
  rw [iddAt_get h, List.drop_eq_getElem_cons h]
  rfl
theorem insText_yes {x : Ins} (h : insOkB x = true) : insText x = insTo x x.deps.length := by unfold insText; rw [if_pos h]
theorem insText_no {x : Ins} (h : insOkB x = false) : insText x = ByteArray.empty := by unfold insText; rw [if_neg (by rw [h]; simp)]
theorem insTo_depL (x : Ins) : ∀ k, k ≤ x.deps.length → insTo x k = insHd x ++ depL (x.deps.take k)
  | 0, _ => by simp [insTo, depL]
  | k + 1, h => by
    have e : iddAt x.deps k = x.deps[k]'(by omega) := iddAt_get (by omega)
    rw [List.take_succ_eq_append_getElem (by omega), depL_app, insTo, insTo_depL x k (by omega), e]
    simp [depL, ByteArray.append_assoc]
theorem insText_depL {x : Ins} (h : insOkB x = true) : insText x = varS x.id.r.toNat ++ (varS x.id.s.toNat ++ (varS (x.bal + 1).toNat ++ (varS (x.vb + 1).toNat ++ (varS x.st.toNat ++ (varS x.seq.toNat ++ (sameT x.same ++ (varS (cmText x.cmd).size ++ (cmText x.cmd ++ (varS x.deps.length ++ depL x.deps))))))))) := by
  rw [insText_yes h, insTo_depL x _ (Nat.le_refl _), List.take_length]
  unfold insHd
  simp only [ByteArray.append_assoc]
theorem insHd_size {x : Ins} (h : InsBd x) : (insHd x).size ≤ 5000 := by
  obtain ⟨a, b, c, d, e, f, g, i, j⟩ := h
  have v1 := varS_size x.id.r.toNat
  have v2 := varS_size x.id.s.toNat
  have v3 := varS_size (x.bal + 1).toNat
  have v4 := varS_size (x.vb + 1).toNat
  have v5 := varS_size x.st.toNat
  have v6 := varS_size x.seq.toNat
  have v7 := sameT_size x.same
  have v8 := varS_size (cmText x.cmd).size
  have v9 := cmText_size x.cmd
  have v10 := varS_size x.deps.length
  unfold insHd
  simp only [ByteArray.size_append]
  omega
theorem insTo_size {x : Ins} (h : InsBd x) : ∀ k, k ≤ x.deps.length → (insTo x k).size ≤ 5000 + 10 * k
  | 0, _ => by have := insHd_size h; unfold insTo; omega
  | k + 1, hk => by
    have h1 := insTo_size h k (by omega)
    have h2 := h.dep k (by omega)
    have v1 := varS_size (iddAt x.deps k).r.toNat
    have v2 := varS_size (iddAt x.deps k).s.toNat
    unfold insTo
    simp only [ByteArray.size_append]; omega
theorem insText_size (x : Ins) : (insText x).size ≤ 5180 := by
  cases h : insOkB x
  · rw [insText_no h]; exact Nat.zero_le _
  · have h1 := insOk_bd h
    have h2 := insTo_size h1 _ (Nat.le_refl _)
    have h3 := h1.len
    rw [insText_yes h]; omega
theorem insText_ne {x : Ins} (h : insOkB x = true) : insText x ≠ ByteArray.empty := by
  intro e
  have h1 := congrArg ByteArray.size e
  rw [insText_depL h, ByteArray.size_append] at h1
  have h2 := varS_pos x.id.r.toNat
  have h3 : ByteArray.empty.size = 0 := rfl
  omega
/-- what the reader's steps give on the text of a right instance -/
theorem ins_parse {x : Ins} (h : insOkB x = true) : ∃ r1 r2 r3 r4 r5 r6 r7 r8, numF (insText x, false) = (x.id.r.toNat, (r1, false)) ∧ numF (r1, false) = (x.id.s.toNat, (r2, false)) ∧ numF (r2, false) = ((x.bal + 1).toNat, (r3, false)) ∧ numF (r3, false) = ((x.vb + 1).toNat, (r4, false)) ∧
    numF (r4, false) = (x.st.toNat, (r5, false)) ∧ numF (r5, false) = (x.seq.toNat, (r6, false)) ∧ cutF (r6, false) 1 = (sameT x.same, (r7, false)) ∧ textF (r7, false) = (cmText x.cmd, (r8, false)) ∧ manyF (r8, false) 18 = (x.deps.length, (depL x.deps, false)) := by
  have hb := insOk_bd h
  have a := hb.r; have b := hb.s; have c := hb.bal; have d := hb.vb; have e := hb.st; have f := hb.seq; have g := hb.len
  have i := cmText_size x.cmd
  rw [insText_depL h]
  exact ⟨_, _, _, _, _, _, _, _, numF_var (by omega) _, numF_var (by omega) _, numF_var (by omega) _, numF_var (by omega) _, numF_var (by omega) _, numF_var (by omega) _, cutF_app _ _ (sameT_size _), textF_app (by omega) _, manyF_var (by omega) (by omega) _⟩
/-- what is read so far agrees with whatever instance the text is the text of -/
def InJ (s : ByteArray) (r sl bal vb st sq : Nat) (sm t : ByteArray) (m : Nat) (ds : List Idd) (x : Sc) : Prop :=
  ∀ c, insOkB c = true → insText c = s → c.id = ⟨r, sl⟩ ∧ c.bal = bal - 1 ∧ c.vb = vb - 1 ∧ c.st = st ∧ c.seq = sq ∧ sameT c.same = sm ∧ cmText c.cmd = t ∧ m = c.deps.length ∧ ds = c.deps.take ds.length ∧ ds.length ≤ c.deps.length ∧ x = (depL (c.deps.drop ds.length), false)
theorem InJ.start {s : ByteArray} {x1 x2 x3 x4 x5 x6 x9 : Nat × Sc} {x7 x8 : ByteArray × Sc} (f1 : numF (s, false) = x1) (f2 : numF x1.2 = x2) (f3 : numF x2.2 = x3) (f4 : numF x3.2 = x4) (f5 : numF x4.2 = x5) (f6 : numF x5.2 = x6) (f7 : cutF x6.2 1 = x7) (f8 : textF x7.2 = x8) (f9 : manyF x8.2 18 = x9) :
    InJ s x1.1 x2.1 x3.1 x4.1 x5.1 x6.1 x7.1 x8.1 x9.1 [] x9.2 := by
  intro c hc hs
  obtain ⟨r1, r2, r3, r4, r5, r6, r7, r8, e1, e2, e3, e4, e5, e6, e7, e8, e9⟩ := ins_parse hc
  rw [hs] at e1
  have hb := insOk_bd hc
  rw [e1] at f1; subst f1; simp only at f2
  rw [e2] at f2; subst f2; simp only at f3
  rw [e3] at f3; subst f3; simp only at f4
  rw [e4] at f4; subst f4; simp only at f5
  rw [e5] at f5; subst f5; simp only at f6
  rw [e6] at f6; subst f6; simp only at f7
  rw [e7] at f7; subst f7; simp only at f8
  rw [e8] at f8; subst f8; simp only at f9
  rw [e9] at f9; subst f9
  have a := hb.r; have b := hb.s; have c1 := hb.bal; have d := hb.vb; have e := hb.st; have f := hb.seq
  obtain ⟨⟨cr, cs⟩, cb, cv, ct, cc, cq, cd, cm⟩ := c
  simp only at a b c1 d e f
  exact ⟨by simp only [Idd.mk.injEq]; omega, by simp only; omega, by simp only; omega, by simp only; omega, by simp only; omega, rfl, rfl, rfl, by simp, by simp, by simp⟩
theorem InJ.step {s : ByteArray} {r sl bal vb st sq : Nat} {sm t : ByteArray} {m : Nat} {ds : List Idd} {x : Sc} (h : InJ s r sl bal vb st sq sm t m ds x) (hm : ds.length < m) : InJ s r sl bal vb st sq sm t m (ds ++ [⟨(numF x).1, (numF (numF x).2).1⟩]) (numF (numF x).2).2 := by
  intro c hc hs
  obtain ⟨h1, h2, h3, h4, h5, h6, h7, h8, h9, h10, h11⟩ := h c hc hs
  have hk : ds.length < c.deps.length := by omega
  have hd := (insOk_bd hc).dep _ hk
  rw [h11, depL_drop hk, numF_var (by omega), numF_var (by omega)]
  refine ⟨h1, h2, h3, h4, h5, h6, h7, h8, ?_, by rw [List.length_append]; simp only [List.length_cons, List.length_nil]; omega, by rw [List.length_append]; rfl⟩
  rw [List.length_append, List.length_singleton, List.take_succ_eq_append_getElem hk, ← h9]
  have e := iddAt_get hk
  rw [← e]
  congr 2
  generalize iddAt c.deps ds.length = y at hd ⊢
  obtain ⟨yr, ys⟩ := y
  simp only at hd ⊢
  rw [Idd.mk.injEq]; omega
def isOne (s : ByteArray) : Bool := decide (s = ⟨#[1]⟩)
theorem isOne_sameT (b : Bool) : isOne (sameT b) = b := by cases b <;> decide
theorem InJ.end_ {s : ByteArray} {r sl bal vb st sq : Nat} {sm t : ByteArray} {m : Nat} {ds : List Idd} {x : Sc} (h : InJ s r sl bal vb st sq sm t m ds x) (hm : m ≤ ds.length) : ∀ c, insOkB c = true → insText c = s → c = ⟨⟨r, sl⟩, bal - 1, vb - 1, st, rdCm t, sq, ds, isOne sm⟩ ∧ x.2 = false := by
  intro c hc hs
  obtain ⟨h1, h2, h3, h4, h5, h6, h7, h8, h9, h10, h11⟩ := h c hc hs
  have hl : ds.length = c.deps.length := by omega
  rw [hl, List.take_length] at h9
  refine ⟨?_, by rw [h11]⟩
  have e1 := (rdCm_yes (insOk_bd hc).cmd h7).1
  rw [← h1, ← h2, ← h3, ← h4, ← h5, ← h6, isOne_sameT, e1, h9]
open Classical in
noncomputable def rdIn (s : ByteArray) : Ins := if h : ∃ c, insOkB c = true ∧ insText c = s then Classical.choose h else insNil
open Classical in
noncomputable def rdInB (s : ByteArray) : Bool := if ∃ c, insOkB c = true ∧ insText c = s then true else false
theorem insText_inj {c c' : Ins} (h : insOkB c = true) (h' : insOkB c' = true) (e : insText c = insText c') : c = c' := by
  have key : ∀ k, k ≤ c.deps.length → ∃ ds x, ds.length = k ∧ InJ (insText c) (numF (insText c, false)).1 (numF (numF (insText c, false)).2).1 (numF (numF (numF (insText c, false)).2).2).1 (numF (numF (numF (numF (insText c, false)).2).2).2).1 (numF (numF (numF (numF (numF (insText c, false)).2).2).2).2).1 (numF (numF (numF (numF (numF (numF (insText c, false)).2).2).2).2).2).1 (cutF (numF (numF (numF (numF (numF (numF (insText c, false)).2).2).2).2).2).2 1).1 (textF (cutF (numF (numF (numF (numF (numF (numF (insText c, false)).2).2).2).2).2).2 1).2).1 (manyF (textF (cutF (numF (numF (numF (numF (numF (numF (insText c, false)).2).2).2).2).2).2 1).2).2 18).1 ds x := by
    intro k
    induction k with
    | zero => intro _; exact ⟨[], _, rfl, InJ.start rfl rfl rfl rfl rfl rfl rfl rfl rfl⟩
    | succ k ih =>
      intro hk
      obtain ⟨ds, x, hl, hj⟩ := ih (by omega)
      obtain ⟨_, _, _, _, _, _, _, h8, _⟩ := hj c h rfl
      exact ⟨_, _, by rw [List.length_append, hl]; rfl, hj.step (by omega)⟩
  obtain ⟨ds, x, hl, hj⟩ := key _ (Nat.le_refl _)
  obtain ⟨_, _, _, _, _, _, _, h8, _⟩ := hj c h rfl
  have e1 := (hj.end_ (by omega) c h rfl).1
  have e2 := (hj.end_ (by omega) c' h' e.symm).1
  rw [e1, e2]
theorem rdIn_yes {s : ByteArray} {c : Ins} (h1 : insOkB c = true) (h2 : insText c = s) : rdIn s = c ∧ rdInB s = true := by
  have h : ∃ c, insOkB c = true ∧ insText c = s := ⟨c, h1, h2⟩
  refine ⟨?_, by unfold rdInB; rw [if_pos h]⟩
  unfold rdIn
  rw [dif_pos h]
  have hc := Classical.choose_spec h
  exact insText_inj hc.1 h1 (hc.2.trans h2.symm)
theorem rdIn_no {s : ByteArray} (h : ∀ c, insOkB c = true → insText c = s → False) : rdIn s = insNil ∧ rdInB s = false := by
  have h' : ¬ ∃ c, insOkB c = true ∧ insText c = s := fun ⟨c, h1, h2⟩ => h c h1 h2
  exact ⟨by unfold rdIn; rw [dif_neg h'], by unfold rdInB; rw [if_neg h']⟩
end Go.Proofs.Ytdphdnllhmnelaa
/- Contracts of l4Vars and l4Take, the reference's readers; held against the program's. -/
namespace Go.Proofs.Ytdphdnllhmnelaa
open Go.RowKit
attribute [local irreducible] rvF
theorem infoIntV : (Try.prog.info? 3).map (fun i => (i.zero, i.size, i.bytes)) = some (some (.int .i64 0), 1, 8) := by kernel_rfl

def natL4 (n : Nat) : Value := .int .i64 (n : Int)
/-- k numbers behind those in o, from at on; -1 where one is missing -/
noncomputable def vsF (s : ByteArray) : Nat → List Nat × Int → List Nat × Int
  | 0, r => r
  | k + 1, (o, at_) => if at_ < 0 ∨ (s.size : Int) < at_ ∨ (rvF (s.extract at_.toNat s.size)).2 = 0 then (o, -1) else vsF s k (o ++ [(rvF (s.extract at_.toNat s.size)).1], at_ + ((rvF (s.extract at_.toNat s.size)).2 : Nat))
theorem vsF_no {s : ByteArray} {k : Nat} {o : List Nat} {at_ : Int} (h : at_ < 0 ∨ (s.size : Int) < at_ ∨ (rvF (s.extract at_.toNat s.size)).2 = 0) : vsF s (k + 1) (o, at_) = (o, -1) := by rw [vsF, if_pos h]
theorem vsF_yes {s : ByteArray} {k : Nat} {o : List Nat} {a v m : Nat} (h : a ≤ s.size) (hr : rvF (s.extract a s.size) = (v, m)) (hm : m ≠ 0) : vsF s (k + 1) (o, (a : Int)) = vsF s k (o ++ [v], ((a + m : Nat) : Int)) := by
  rw [vsF, Int.toNat_natCast, hr, if_neg (by simp; omega)]
  rfl
theorem vsF_in (s : ByteArray) : ∀ (k : Nat) (o : List Nat) (at_ : Int), at_ ≤ s.size → -1 ≤ at_ → (∀ v ∈ o, v ≤ 562949953421311) → -1 ≤ (vsF s k (o, at_)).2 ∧ (vsF s k (o, at_)).2 ≤ s.size ∧ ∀ v ∈ (vsF s k (o, at_)).1, v ≤ 562949953421311 := by
  intro k
  induction k with
  | zero => intro o at_ h1 h0 h2; exact ⟨h0, h1, h2⟩
  | succ k ih =>
    intro o at_ h1 h0 h2
    have hz := rvF_size (s.extract at_.toNat s.size)
    rw [ByteArray.size_extract] at hz
    rw [vsF]
    split
    · exact ⟨by simp only; omega, by simp only; omega, h2⟩
    · refine ih _ _ (by omega) (by omega) (fun v hv => ?_)
      rcases List.mem_append.1 hv with hv | hv
      · exact h2 v hv
      · have : v = (rvF (s.extract at_.toNat s.size)).1 := by simpa using hv
        omega

set_option maxRecDepth 4000 in
set_option maxHeartbeats 1000000 in
theorem l4Vars_spec (s : ByteArray) (at0 : Int) (n : Nat) (w : World) (hs : s.size ≤ 16777216) (ha : -1 ≤ at0) (ha2 : at0 ≤ 1152921504606846976) (hn : n ≤ 16) :
    Calls Try.prog 81 #[.string s, .int .i64 at0, .int .i64 n] w fun e w' => (∃ A c, e = .returned (.tuple #[.slice A (vsF s n ([], at0)).1.length c, .int .i64 (vsF s n ([], at0)).2]) ∧ RowIn 3 1 w.heap.size w'.heap.size w' A (vsF s n ([], at0)).1.length c ((vsF s n ([], at0)).1.map natL4)) ∧ Below w.heap.size w w' := by
  obtain ⟨r, hr⟩ : ∃ r, vsF s n ([], at0) = r := ⟨_, rfl⟩
  rw [hr]
  go_enter Try.func81, Try.ntmps81
  go_wp2
  go_loopw [1, 8, 9] (fun a o k wr => ∃ (at_ : Int) (O : Option Addr) (cap : Nat) (L : List Nat), a = .int .i64 at_ ∧ o = .slice O L.length cap ∧ k = .int .i64 (L.length : Nat) ∧ L.length ≤ n ∧ -1 ≤ at_ ∧ at_ ≤ 1152921504606846976 ∧ vsF s (n - L.length) (L, at_) = r ∧ wr.ownsRow w.heap.size 3 1 (.slice O L.length cap) L.length (L.map natL4) ∧ Below w.heap.size w wr) (fun _ _ k _ => n - (intOf k).toNat)
  case atStart => exact ⟨at0, some ⟨w.heap.size, 0, none⟩, 0, [], rfl, rfl, rfl, Nat.zero_le _, ha, ha2, hr, by simpa using own_empty w 3 1 (base := w.heap.size) (Nat.le_refl _), (Below.refl _ _).alloc (Nat.le_refl _) _⟩
  case round =>
    obtain ⟨at_, O, cap, L, rfl, rfl, rfl, hj, h1, h2, hv, hown, hb⟩ := hrel
    have HV := Lib.hid hv; clear hv hr
    have hzr := hb.size
    by_cases hlt : L.length < n
    · have ij : (L.length : Int) < (n : Int) := by omega
      obtain ⟨q, hq⟩ : ∃ q, n - L.length = q + 1 := ⟨n - L.length - 1, by omega⟩
      have HQ := Lib.hid hq; clear hq
      by_cases hneg : at_ < 0
      · have HR := Lib.hid (show r = (L, -1) by rw [← HV.out, HQ.out, vsF_no (.inl hneg)])
        go_wp2
        go_returns
        rw [HR.out]
        exact ⟨⟨O, cap, rfl, RowIn.of_own hown⟩, hb⟩
      · by_cases hbig : (s.size : Int) < at_
        · have HR := Lib.hid (show r = (L, -1) by rw [← HV.out, HQ.out, vsF_no (.inr (.inl hbig))])
          go_wp2
          go_returns
          rw [HR.out]
          exact ⟨⟨O, cap, rfl, RowIn.of_own hown⟩, hb⟩
        · obtain ⟨a, rfl⟩ : ∃ a : Nat, at_ = a := ⟨at_.toNat, by omega⟩
          have hna : ¬ ((a : Int) < 0) := by omega
          have has : a ≤ s.size := by omega
          have hz := rvF_size (s.extract a s.size)
          rw [ByteArray.size_extract] at hz
          clear hneg
          go_wp2_with fail
          refine (readVar_spec _ _ (by rw [ByteArray.size_extract]; omega)).mono ?_
          rintro e w1 ⟨rfl, hb1⟩
          obtain ⟨v, m, hvm⟩ : ∃ v m, rvF (s.extract a s.size) = (v, m) := ⟨_, _, rfl⟩
          rw [hvm] at hz ⊢
          simp only at hz
          have HVM := Lib.hid hvm; clear hvm
          have hz1 := hb1.size
          by_cases hm : m = 0
          · have HR := Lib.hid (show r = (L, -1) by rw [← HV.out, HQ.out, vsF_no (.inr (.inr (by rw [Int.toNat_natCast, HVM.out]; exact hm)))])
            subst hm
            go_wp2
            go_returns
            rw [HR.out]
            exact ⟨⟨O, cap, rfl, (RowIn.of_own hown).keep hb1 |>.wide (Nat.le_refl _) hz1⟩, bthen hb hb1⟩
          · have hm0 : ¬ ((m : Int) = 0) := by omega
            have HR := Lib.hid (show vsF s q (L ++ [v], ((a + m : Nat) : Int)) = r by rw [← HV.out, HQ.out, vsF_yes has HVM.out hm])
            have hown1 := ((RowIn.of_own hown).keep hb1).own
            have hz2 := Nat.le_trans hzr hz1
            go_wp2_with (at_builtin; refine wpList_app1g (P := Try.prog) w1 rfl (.tmp 37) (.tmp 39) 78 rfl w.heap.size 3 _ 1 8 Try.underlying78 infoIntV rfl (by omega) (.slice O _ cap) _ _ rfl hown1 #[.int .i64 (v : Int)] _ rfl (by simp) rfl (by simp [Value.oneCell']) (by unfold maxLen; omega) (by omega) hz2 ?_; intro A' c' w2 hown2 hg2 hb2 _)
            refine ⟨⟨((a + m : Nat) : Int), A', c', L ++ [v], by go_num, by simp, by simp, by rw [List.length_append]; simp only [List.length_cons, List.length_nil]; omega, by omega, by omega, ?_, ?_, (bthen hb hb1).trans hb2⟩, by simp [intOf]; omega⟩
            · rw [List.length_append]
              have := HQ.out
              rw [show n - (L.length + [v].length) = q by simp only [List.length_cons, List.length_nil]; omega]
              exact HR.out
            · rw [List.length_append, List.map_append]
              exact hown2
    · have ij : ¬ (L.length : Int) < (n : Int) := by omega
      have HR := Lib.hid (show r = (L, at_) by rw [← HV.out, show n - L.length = 0 by omega]; rfl)
      go_wp2
      go_returns
      rw [HR.out]
      exact ⟨⟨O, cap, rfl, RowIn.of_own hown⟩, hb⟩

theorem vs1 (s : ByteArray) (at_ : Int) : vsF s 1 ([], at_) = ([], -1) ∨ ∃ v e : Nat, vsF s 1 ([], at_) = ([v], (e : Int)) ∧ v ≤ 562949953421311 ∧ e ≤ s.size := by
  have hz := rvF_size (s.extract at_.toNat s.size)
  rw [ByteArray.size_extract] at hz
  rw [vsF]
  split
  · exact .inl rfl
  · refine .inr ⟨(rvF (s.extract at_.toNat s.size)).1, at_.toNat + (rvF (s.extract at_.toNat s.size)).2, ?_, hz.2.2, by omega⟩
    rw [vsF]
    refine Prod.ext rfl ?_
    show at_ + _ = _
    omega
/-- a text with its size ahead of it, from at on; -1 where there is none -/
noncomputable def tkF (s : ByteArray) (at_ : Int) : ByteArray × Int :=
  if (vsF s 1 ([], at_)).2 < 0 ∨ (s.size : Int) - (vsF s 1 ([], at_)).2 < ((vsF s 1 ([], at_)).1.headD 0 : Nat) then (.empty, -1)
  else (s.extract (vsF s 1 ([], at_)).2.toNat ((vsF s 1 ([], at_)).2.toNat + (vsF s 1 ([], at_)).1.headD 0), (vsF s 1 ([], at_)).2 + ((vsF s 1 ([], at_)).1.headD 0 : Nat))
theorem tkF_no {s : ByteArray} {at_ : Int} (h : vsF s 1 ([], at_) = ([], -1)) : tkF s at_ = (.empty, -1) := by unfold tkF; rw [h, if_pos (.inl (by simp))]
theorem tkF_big {s : ByteArray} {at_ : Int} {v e : Nat} (h : vsF s 1 ([], at_) = ([v], (e : Int))) (hb : s.size < e + v) : tkF s at_ = (.empty, -1) := by unfold tkF; rw [h, if_pos (.inr (by simp only [List.headD_cons]; omega))]
theorem tkF_yes {s : ByteArray} {at_ : Int} {v e : Nat} (h : vsF s 1 ([], at_) = ([v], (e : Int))) (hb : e + v ≤ s.size) : tkF s at_ = (s.extract e (e + v), ((e + v : Nat) : Int)) := by
  unfold tkF; rw [h, if_neg (by simp only [List.headD_cons]; omega)]
  refine Prod.ext (by simp) (by simp)
theorem tkF_in (s : ByteArray) (at_ : Int) : -1 ≤ (tkF s at_).2 ∧ (tkF s at_).2 ≤ s.size ∧ (tkF s at_).1.size ≤ s.size := by
  rcases vs1 s at_ with h | ⟨v, e, h, hv, he⟩
  · rw [tkF_no h]; exact ⟨by simp, by simp only; omega, by simp⟩
  · by_cases hb : e + v ≤ s.size
    · rw [tkF_yes h hb]; exact ⟨by simp only; omega, by simp only; omega, by simp only [ByteArray.size_extract]; omega⟩
    · rw [tkF_big h (by omega)]; exact ⟨by simp, by simp only; omega, by simp⟩
theorem row_nat {lo hi : Nat} {w : World} {A : Option Addr} {c : Nat} {L : List Nat} (h : RowIn 3 1 lo hi w A L.length c (L.map natL4)) {v : Nat} (hv : L = [v]) : ∃ g, A = some ⟨g, 0, none⟩ ∧ w.cell? ⟨g, 0, none⟩ = some (.int .i64 (v : Int)) ∧ g < w.heap.size ∧ lo ≤ g := by
  subst hv
  obtain ⟨g, rfl⟩ := h.head (by simp)
  have hc := h.own.cells (g := g) rfl 0 (natL4 v) rfl
  rw [Addr.add_lit] at hc
  have hi := (h.blk (g := g) rfl).1
  unfold Iv at hi
  exact ⟨g, rfl, hc, (h.blk (g := g) rfl).2, hi.1⟩

set_option maxRecDepth 4000 in
set_option maxHeartbeats 1000000 in
theorem l4Take_spec (s : ByteArray) (at0 : Int) (w : World) (hs : s.size ≤ 16777216) (ha : -1 ≤ at0) (ha2 : at0 ≤ 1152921504606846976) :
    Calls Try.prog 82 #[.string s, .int .i64 at0] w fun e w' => e = .returned (.tuple #[.string (tkF s at0).1, .int .i64 (tkF s at0).2]) ∧ Below w.heap.size w w' := by
  go_enter Try.func82, Try.ntmps82
  go_wp2_with fail
  refine (l4Vars_spec s at0 1 _ hs ha ha2 (by omega)).mono ?_
  rintro e w1 ⟨⟨A, c, rfl, hrow⟩, hb1⟩
  rcases vs1 s at0 with h | ⟨v, e, h, hv, he⟩
  · have HR := Lib.hid (tkF_no h)
    rw [h]
    clear h hrow
    go_wp2
    go_returns
    rw [HR.out]
    exact ⟨rfl, hb1⟩
  · rw [h] at hrow ⊢
    obtain ⟨g, rfl, hc, hg, _⟩ := row_nat hrow rfl
    by_cases hb : e + v ≤ s.size
    · have HR := Lib.hid (tkF_yes h hb)
      clear h hrow
      have hbi : ¬ ((s.size : Int) - (e : Int) < (v : Int)) := by omega
      have hn : ¬ ((e : Int) < 0) := by omega
      go_wp2
      go_quiet (fail)
      go_wp2
      go_returns
      rw [HR.out]
      exact ⟨by rfl, bthen hb1 (((Ch.refl (S := fun _ => False) _).drewN nq).below (fun _ h => h.elim) (Nat.le_refl _))⟩
    · have HR := Lib.hid (tkF_big h (by omega))
      clear h hrow
      have hbi : ((s.size : Int) - (e : Int) < (v : Int)) := by omega
      have hn : ¬ ((e : Int) < 0) := by omega
      go_wp2
      go_returns
      rw [HR.out]
      exact ⟨rfl, hb1⟩
noncomputable def TT (s : ByteArray) (a : Nat) : Sc := (s.extract a s.size, false)
theorem ext_ext (s : ByteArray) {a m : Nat} (_ : a + m ≤ s.size) : (s.extract a s.size).extract m (s.extract a s.size).size = s.extract (a + m) s.size := by
  apply ByteArray.ext
  simp only [ByteArray.data_extract, ByteArray.size_extract]
  show (s.data.extract a s.data.size).extract m _ = s.data.extract (a + m) s.data.size
  rw [Array.extract_extract]
  congr 1
  have : s.size = s.data.size := rfl
  omega
theorem ext_ext0 (s : ByteArray) {a n : Nat} (h : a + n ≤ s.size) : (s.extract a s.size).extract 0 n = s.extract a (a + n) := by
  apply ByteArray.ext
  simp only [ByteArray.data_extract]
  show (s.data.extract a s.data.size).extract 0 n = s.data.extract a (a + n)
  rw [Array.extract_extract]
  have : s.size = s.data.size := rfl
  rw [Nat.add_zero, Nat.min_eq_left (by omega)]
theorem cutT {s : ByteArray} {a n : Nat} (h : a + n ≤ s.size) : cutF (TT s a) n = (s.extract a (a + n), TT s (a + n)) := by
  have h1 : cutF (TT s a) n = if false = true ∨ ¬ n ≤ (s.extract a s.size).size then (.empty, (s.extract a s.size, true)) else ((s.extract a s.size).extract 0 n, ((s.extract a s.size).extract n (s.extract a s.size).size, false)) := rfl
  rw [h1, if_neg (by rw [ByteArray.size_extract]; simp; omega), ext_ext s h, ext_ext0 s h]
  rfl
theorem cutT_no {s : ByteArray} {a n : Nat} (h : s.size < a + n) (ha : a ≤ s.size) : (cutF (TT s a) n).2.2 = true := by
  have h1 : cutF (TT s a) n = if false = true ∨ ¬ n ≤ (s.extract a s.size).size then (.empty, (s.extract a s.size, true)) else ((s.extract a s.size).extract 0 n, ((s.extract a s.size).extract n (s.extract a s.size).size, false)) := rfl
  rw [h1, if_pos (.inr (by rw [ByteArray.size_extract]; omega))]
theorem numT {s : ByteArray} {a : Nat} (ha : a ≤ s.size) : (vsF s 1 ([], (a : Int)) = ([], -1) ∧ (numF (TT s a)).2.2 = true) ∨ ∃ v e : Nat, vsF s 1 ([], (a : Int)) = ([v], (e : Int)) ∧ v ≤ 562949953421311 ∧ a ≤ e ∧ e ≤ s.size ∧ numF (TT s a) = (v, TT s e) := by
  have hz := rvF_size (s.extract a s.size)
  rw [ByteArray.size_extract] at hz
  have h1 : numF (TT s a) = if false = true ∨ (rvF (s.extract a s.size)).2 = 0 then (0, (s.extract a s.size, true)) else ((rvF (s.extract a s.size)).1, ((s.extract a s.size).extract (rvF (s.extract a s.size)).2 (s.extract a s.size).size, false)) := rfl
  obtain ⟨v, m, hvm⟩ : ∃ v m, rvF (s.extract a s.size) = (v, m) := ⟨_, _, rfl⟩
  rw [hvm] at h1 hz
  simp only at hz
  by_cases hm : m = 0
  · refine .inl ⟨vsF_no (.inr (.inr (by rw [Int.toNat_natCast, hvm]; exact hm))), ?_⟩
    rw [h1, if_pos (.inr hm)]
  · refine .inr ⟨v, a + m, ?_, hz.2.2, by omega, by omega, ?_⟩
    · rw [vsF_yes ha hvm hm]; rfl
    · rw [h1, if_neg (by simp; omega)]
      rw [ext_ext s (by omega)]
      rfl
theorem num_bad {x : Sc} (h : x.2 = true) : (numF x).2.2 = true := by unfold numF; rw [if_pos (.inl h)]
theorem cut_bad {x : Sc} {n : Nat} (h : x.2 = true) : (cutF x n).2.2 = true := by unfold cutF; rw [if_pos (.inl h)]
theorem many_bad {x : Sc} {n : Nat} (h : x.2 = true) : (manyF x n).2.2 = true := by unfold manyF; rw [if_pos (.inl (num_bad h))]
theorem tkT {s : ByteArray} {a : Nat} (ha : a ≤ s.size) : (tkF s (a : Int) = (.empty, -1) ∧ (textF (TT s a)).2.2 = true) ∨ ∃ (p : ByteArray) (e : Nat), tkF s (a : Int) = (p, (e : Int)) ∧ a ≤ e ∧ e ≤ s.size ∧ textF (TT s a) = (p, TT s e) := by
  rcases numT ha with ⟨h1, h2⟩ | ⟨v, e, h1, h2, h3, h4, h5⟩
  · exact .inl ⟨tkF_no h1, by unfold textF; exact cut_bad h2⟩
  · by_cases hb : e + v ≤ s.size
    · refine .inr ⟨_, _, tkF_yes h1 hb, by omega, hb, ?_⟩
      unfold textF; rw [h5]; exact cutT hb
    · refine .inl ⟨tkF_big h1 (by omega), ?_⟩
      unfold textF; rw [h5]; exact cutT_no (by omega) h4
theorem manyT {s : ByteArray} {a : Nat} (ha : a ≤ s.size) : (vsF s 1 ([], (a : Int)) = ([], -1) ∧ (manyF (TT s a) 4).2.2 = true) ∨ ∃ v e : Nat, vsF s 1 ([], (a : Int)) = ([v], (e : Int)) ∧ v ≤ 562949953421311 ∧ a ≤ e ∧ e ≤ s.size ∧ ((4 < v ∧ (manyF (TT s a) 4).2.2 = true) ∨ (v ≤ 4 ∧ manyF (TT s a) 4 = (v, TT s e))) := by
  rcases numT ha with ⟨h1, h2⟩ | ⟨v, e, h1, h2, h3, h4, h5⟩
  · exact .inl ⟨h1, by unfold manyF; rw [if_pos (.inl h2)]⟩
  · refine .inr ⟨v, e, h1, h2, h3, h4, ?_⟩
    by_cases h : 4 < v
    · exact .inl ⟨h, by unfold manyF; rw [h5, if_pos (.inr h)]⟩
    · exact .inr ⟨by omega, by unfold manyF; rw [h5, if_neg (by unfold TT; simp; omega)]⟩
end Go.Proofs.Ytdphdnllhmnelaa
/- Plain laws: the reference's readers on the text of a command and of an instance. -/
namespace Go.Proofs.Ytdphdnllhmnelaa
open Go.RowKit

theorem sum8 {l : List ByteArray} (h : ∀ j, j < l.length → (sAt l j).size = 8) : (chL l).size = 8 * l.length := by
  induction l with
  | nil => rfl
  | cons c l ih =>
    have h0 := h 0 (by simp)
    have e0 : sAt (c :: l) 0 = c := rfl
    rw [e0] at h0
    simp only [chL, ByteArray.size_append, List.length_cons]
    rw [ih (fun j hj => by have := h (j + 1) (by simpa using hj); simpa [sAt] using this), h0]
    omega
theorem ext_all (s : ByteArray) : s.extract 0 s.size = s := by
  apply ByteArray.ext
  rw [ByteArray.data_extract]
  show s.data.extract 0 s.data.size = s.data
  simp
theorem ext_cut {s t p : ByteArray} {a : Nat} (ha : a ≤ s.size) (h : s.extract a s.size = p ++ t) : a + p.size ≤ s.size ∧ s.extract (a + p.size) s.size = t ∧ s.extract a (a + p.size) = p := by
  have h1 := congrArg ByteArray.size h
  rw [ByteArray.size_append, ByteArray.size_extract] at h1
  have h2 : a + p.size ≤ s.size := by omega
  refine ⟨h2, ?_, ?_⟩
  · rw [← ext_ext s h2, h, ext_right]
  · rw [← ext_ext0 s h2, h, ext_left]
theorem vs_step {s t : ByteArray} {a n : Nat} (ha : a ≤ s.size) (h : s.extract a s.size = varS n ++ t) (hn : n ≤ 562949953421311) (k : Nat) (o : List Nat) :
    vsF s (k + 1) (o, (a : Int)) = vsF s k (o ++ [n], ((a + (varS n).size : Nat) : Int)) ∧ a + (varS n).size ≤ s.size ∧ s.extract (a + (varS n).size) s.size = t := by
  obtain ⟨h1, h2, _⟩ := ext_cut ha h
  refine ⟨vsF_yes ha (by rw [h]; exact rvF_var hn t) ?_, h1, h2⟩
  have := varS_pos n
  omega
theorem vs_end (s : ByteArray) (r : List Nat × Int) : vsF s 0 r = r := by rw [vsF]
theorem tk_step {s t p : ByteArray} {a : Nat} (ha : a ≤ s.size) (h : s.extract a s.size = varS p.size ++ (p ++ t)) (hp : p.size ≤ 562949953421311) :
    tkF s (a : Int) = (p, ((a + (varS p.size).size + p.size : Nat) : Int)) ∧ a + (varS p.size).size + p.size ≤ s.size ∧ s.extract (a + (varS p.size).size + p.size) s.size = t := by
  obtain ⟨h1, h2, h3⟩ := vs_step ha h hp 0 []
  obtain ⟨h4, h5, h6⟩ := ext_cut h2 h3
  rw [vs_end] at h1
  exact ⟨by rw [tkF_yes h1 h4, h6], h4, h5⟩
/-- the reference's steps on the text of a right command -/
theorem cm_parseS {s : ByteArray} {x : Cm} (h : cmOkB x = true) (hs : cmText x = s) : ∃ e4 e5 e6 e7 e8 : Nat, vsF s 4 ([], 0) = ([x.kd.toNat, x.cl.toNat, x.no.toNat, x.n.toNat], (e4 : Int)) ∧ tkF s (e4 : Int) = (x.s, (e5 : Int)) ∧ tkF s (e5 : Int) = (x.nm, (e6 : Int)) ∧ tkF s (e6 : Int) = (x.tg, (e7 : Int)) ∧
    vsF s 1 ([], (e7 : Int)) = ([x.ch.length], (e8 : Int)) ∧ e8 + 8 * x.ch.length = s.size ∧ ∀ j, j < x.ch.length → s.extract (e8 + 8 * j) (e8 + 8 * j + 8) = sAt x.ch j := by
  have hb := cmOk_bd h
  have a := hb.kd; have b := hb.cl; have c := hb.no; have d := hb.n; have e := hb.s; have f := hb.nm; have g := hb.tg; have i := hb.ch
  have h0 : s.extract 0 s.size = _ := (ext_all s).trans (hs.symm.trans (cmText_chL h))
  obtain ⟨p1, q1, h1⟩ := vs_step (Nat.zero_le _) h0 (by omega) 3 []
  obtain ⟨p2, q2, h2⟩ := vs_step q1 h1 (by omega) 2 ([] ++ [x.kd.toNat])
  obtain ⟨p3, q3, h3⟩ := vs_step q2 h2 (by omega) 1 ([] ++ [x.kd.toNat] ++ [x.cl.toNat])
  obtain ⟨p4, q4, h4⟩ := vs_step q3 h3 (by omega) 0 ([] ++ [x.kd.toNat] ++ [x.cl.toNat] ++ [x.no.toNat])
  obtain ⟨p5, q5, h5⟩ := tk_step q4 h4 (by omega)
  obtain ⟨p6, q6, h6⟩ := tk_step q5 h5 (by omega)
  obtain ⟨p7, q7, h7⟩ := tk_step q6 h6 (by omega)
  obtain ⟨p8, q8, h8⟩ := vs_step q7 h7 (by omega) 0 []
  rw [vs_end] at p4 p8
  refine ⟨_, _, _, _, _, ?_, p5, p6, p7, p8, ?_, ?_⟩
  · exact p1.trans (p2.trans (p3.trans p4))
  · have h9 := congrArg ByteArray.size h8
    have h10 := sum8 hb.c8
    rw [ByteArray.size_extract] at h9
    omega
  · have key : ∀ E : Nat, E ≤ s.size → s.extract E s.size = chL x.ch → ∀ j, j ≤ x.ch.length → E + 8 * j ≤ s.size ∧ s.extract (E + 8 * j) s.size = chL (x.ch.drop j) := by
      intro E hE hx j
      induction j with
      | zero => intro _; exact ⟨hE, by simpa using hx⟩
      | succ j ih =>
        intro hj
        obtain ⟨k1, k2⟩ := ih (by omega)
        rw [chL_drop (by omega)] at k2
        obtain ⟨k3, k4, _⟩ := ext_cut k1 k2
        rw [hb.c8 j (by omega)] at k3 k4
        exact ⟨by omega, k4⟩
    intro j hj
    obtain ⟨k1, k2⟩ := key _ q8 h8 j (by omega)
    rw [chL_drop hj] at k2
    obtain ⟨_, _, k3⟩ := ext_cut k1 k2
    rw [hb.c8 j hj] at k3
    exact k3
/-- the reference's steps on the text of a right instance -/
theorem ins_parseS {s : ByteArray} {x : Ins} (h : insOkB x = true) (hs : insText x = s) : ∃ e6 e8 e9 : Nat, vsF s 6 ([], 0) = ([x.id.r.toNat, x.id.s.toNat, (x.bal + 1).toNat, (x.vb + 1).toNat, x.st.toNat, x.seq.toNat], (e6 : Int)) ∧ e6 < s.size ∧ bAt s e6 = (if x.same then 1 else 0) ∧
    tkF s ((e6 + 1 : Nat) : Int) = (cmText x.cmd, (e8 : Int)) ∧ vsF s 1 ([], (e8 : Int)) = ([x.deps.length], (e9 : Int)) ∧ e9 ≤ s.size ∧ s.extract e9 s.size = depL x.deps := by
  have hb := insOk_bd h
  have a := hb.r; have b := hb.s; have c := hb.bal; have d := hb.vb; have e := hb.st; have f := hb.seq; have g := hb.len
  have i := cmText_size x.cmd
  have h0 : s.extract 0 s.size = _ := (ext_all s).trans (hs.symm.trans (insText_depL h))
  obtain ⟨p1, q1, h1⟩ := vs_step (Nat.zero_le _) h0 (by omega) 5 []
  obtain ⟨p2, q2, h2⟩ := vs_step q1 h1 (by omega) 4 ([] ++ [x.id.r.toNat])
  obtain ⟨p3, q3, h3⟩ := vs_step q2 h2 (by omega) 3 ([] ++ [x.id.r.toNat] ++ [x.id.s.toNat])
  obtain ⟨p4, q4, h4⟩ := vs_step q3 h3 (by omega) 2 ([] ++ [x.id.r.toNat] ++ [x.id.s.toNat] ++ [(x.bal + 1).toNat])
  obtain ⟨p5, q5, h5⟩ := vs_step q4 h4 (by omega) 1 ([] ++ [x.id.r.toNat] ++ [x.id.s.toNat] ++ [(x.bal + 1).toNat] ++ [(x.vb + 1).toNat])
  obtain ⟨p6, q6, h6⟩ := vs_step q5 h5 (by omega) 0 ([] ++ [x.id.r.toNat] ++ [x.id.s.toNat] ++ [(x.bal + 1).toNat] ++ [(x.vb + 1).toNat] ++ [x.st.toNat])
  obtain ⟨q7, h7, k7⟩ := ext_cut q6 h6
  rw [sameT_size] at q7 h7 k7
  obtain ⟨p8, q8, h8⟩ := tk_step q7 h7 (by omega)
  obtain ⟨p9, q9, h9⟩ := vs_step q8 h8 (by omega) 0 []
  rw [vs_end] at p6 p9
  refine ⟨_, _, _, ?_, by omega, ?_, p8, p9, q9, h9⟩
  · exact p1.trans (p2.trans (p3.trans (p4.trans (p5.trans p6))))
  · have hbt : ∀ E : Nat, E < s.size → s.extract E (E + 1) = sameT x.same → bAt s E = if x.same then 1 else 0 := by
      intro E hE hx
      have h1 : bAt (s.extract E (E + 1)) 0 = bAt s E := by
        unfold bAt
        rw [dif_pos hE, dif_pos (by rw [ByteArray.size_extract]; omega), ByteArray.getElem_extract]
        simp
      rw [← h1, hx]
      cases x.same <;> rfl
    exact hbt _ (by omega) k7
theorem dep_step {s : ByteArray} {x : Ins} (h : InsBd x) {a j : Nat} (ha : a ≤ s.size) (hj : j < x.deps.length) (hx : s.extract a s.size = depL (x.deps.drop j)) :
    ∃ e : Nat, vsF s 2 ([], (a : Int)) = ([(iddAt x.deps j).r.toNat, (iddAt x.deps j).s.toNat], (e : Int)) ∧ e ≤ s.size ∧ s.extract e s.size = depL (x.deps.drop (j + 1)) := by
  have hd := h.dep j hj
  rw [depL_drop hj] at hx
  obtain ⟨p1, q1, h1⟩ := vs_step ha hx (by omega) 1 []
  obtain ⟨p2, q2, h2⟩ := vs_step q1 h1 (by omega) 0 ([] ++ [(iddAt x.deps j).r.toNat])
  rw [vs_end] at p2
  exact ⟨_, p1.trans p2, q2, h2⟩
end Go.Proofs.Ytdphdnllhmnelaa
/- A whole struct read in a region that draws (XGrow). -/
namespace Go.Proofs.Ytdphdnllhmnelaa
open Go.RowKit
theorem Grow.range {w : World} (X : Grow w) {b o : Nat} {cs : List Value} (hb : b < w.heap.size) (hc : w.rangeAt b o cs) : X.at_.rangeAt b o cs := fun j v hv => X.cell_of hb (hc j v hv)
theorem wpQuiet_load {P : Program} {ops : Array Oper} {w : World} {Q : Act → Prop} {a : Act} {o : Oper} {rest : List Oper} (ty : TypeId) (x : Operand) (b off : Nat) (cs : List Value) (d : TypeDesc) (hb : b < w.heap.size) (hc : w.rangeAt b off cs)
    (hu : P.underlying ty = some d) {n : Nat} (hi : (P.info? ty).map (·.size) = some n) (hl : cs.length = n) (ho : o.op = .load ty x) (hx : a.eval x = .pointer (some ⟨b, off, none⟩)) (hw : Region.wanted o (yielded ops a.tmps) = true) (hd : d.isRow = true)
    (h : wpQuiet P ops (fun w' => ∃ X : Grow w, w' = X.at_) Q rest (a.put o.dst (.agg cs.toArray))) : wpQuiet P ops (fun w' => ∃ X : Grow w, w' = X.at_) Q (o :: rest) a :=
  by
  subst hl
  exact BigFrame.wpQuiet_want hw fun K hK => ⟨_, fun w' ⟨X, hX⟩ => by
    subst hX
    unfold Oper.quietAt execOp
    simp only [ho, hx, Instr.loadAt, Instr.sureAddr, Sem.run_bind, Sem.run_pure, Result.andThen_ok, run_loadVar_mid _ b off ty cs d (X.range hb hc) hu hd hi]
    exact ⟨rfl, rfl⟩, hK _ h⟩
/-- a struct is read whole, at any offset -/
theorem wpList_load_o {P : Program} {ops : Array Oper} {rest : List Oper} {op : Oper} {a : Act} {w : World} {Q : Exit → Act → World → Prop} (ty : TypeId) (x : Operand) (b o : Nat) (cs : List Value) (d : TypeDesc) (hc : w.rangeAt b o cs)
    (hu : P.underlying ty = some d) {n : Nat} (hi : (P.info? ty).map (·.size) = some n) (hl : cs.length = n) (ho : op.op = .load ty x) (hx : a.eval x = .pointer (some ⟨b, o, none⟩)) (hgd : op.guard = none) (hd : d.isRow = true)
    (h : wpList P ops Q rest (a.put op.dst (.agg cs.toArray)) w) : wpList P ops Q (op :: rest) a w :=
  wpList_load_mid hgd ty x ho b o hx cs d hc hu hd (by rw [hl]; exact hi) h
end Go.Proofs.Ytdphdnllhmnelaa
/- A block of cells of the call's own: all of its cells, none frozen. -/
namespace Go.Proofs.Ytdphdnllhmnelaa
open Go.RowKit

structure BoxL (w : World) (h : Nat) (cs : List Value) : Prop where
  cell : ∀ j u, cs[j]? = some u → w.cell? ⟨h, j, none⟩ = some u
  fz : ∀ j, j < cs.length → w.frozen? ⟨h, j, none⟩ = false
  lt : h < w.heap.size
theorem ne_blk {g h : Nat} (hn : h ≠ g) : ¬ (fun k => k = g) h := hn
theorem BoxL.ch {S : Nat → Prop} {w w' : World} {h : Nat} {cs : List Value} (k : BoxL w h cs) (hc : Ch S w w') (hS : ¬ S h) : BoxL w' h cs :=
  ⟨fun j u hu => hc.cell (k.cell j u hu) hS, fun j hj => (World.frozen?_of_block (hc.block h k.lt hS)).trans (k.fz j hj), Nat.lt_of_lt_of_le k.lt hc.size⟩
theorem BoxL.keep {w w' : World} {h : Nat} {cs : List Value} (k : BoxL w h cs) (hb : Below w.heap.size w w') : BoxL w' h cs := k.ch (S := fun _ => False) (Ch.of_below hb) (fun h => h)
theorem Ch.set {w : World} {g o : Nat} {v : Value} : Ch (fun k => k = g) w (w.setCell ⟨g, o, none⟩ v) := (Ch.refl (S := fun k => k = g) w).setCell (p := ⟨g, o, none⟩) rfl v
theorem BoxL.set {w : World} {h j : Nat} {cs : List Value} {v : Value} (k : BoxL w h cs) (hj : j < cs.length) : BoxL (w.setCell ⟨h, j, none⟩ v) h (cs.set j v) := by
  refine ⟨fun i u hu => ?_, fun i hi => ?_, Nat.lt_of_lt_of_le k.lt (Ch.set (g := h) (o := j) (v := v)).size⟩
  · rw [List.getElem?_set] at hu
    by_cases e : j = i
    · subst e
      rw [if_pos rfl, if_pos hj] at hu
      obtain rfl := Option.some.inj hu
      exact sethere (k.cell j _ (List.getElem?_eq_getElem hj))
    · rw [if_neg e] at hu
      exact setoff (k.cell i u hu) (.inr e)
  · rw [List.length_set] at hi
    exact (World.frozen?_setCell _ _ _ _).trans (k.fz i hi)
theorem BoxL.new (w : World) (cs : List Value) (t : TypeId) : BoxL (w.alloc (.cells cs.toArray t)) w.heap.size cs :=
  ⟨fun j u hu => by rw [World.cell?_alloc_at cs.toArray t _ _ rfl]; simpa using hu, fun j _ => World.frozen?_alloc_at cs.toArray t _ _ rfl, by simp [go_sem]⟩
theorem setsW_fz {g : Nat} {p : Addr} : ∀ (vs : List Value) (o : Nat) (w : World), (setsW w g o vs).frozen? p = w.frozen? p
  | [], _, _ => rfl
  | v :: vs, o, w => (setsW_fz vs (o + 1) _).trans (World.frozen?_setCell _ _ _ _)
theorem BoxL.sets {w : World} {h : Nat} {cs vs : List Value} (k : BoxL w h cs) (hl : vs.length = cs.length) : BoxL (setsW w h 0 vs) h vs :=
  ⟨fun j u hu => by
    have := setsW_cell (g := h) vs 0 w (fun j hj => ⟨_, by rw [Nat.zero_add]; exact k.cell j _ (List.getElem?_eq_getElem (by omega))⟩) j u hu
    rwa [Nat.zero_add] at this, fun j hj => (setsW_fz vs 0 w).trans (k.fz j (by omega)), Nat.lt_of_lt_of_le k.lt (ch_setsW vs 0 w).size⟩
theorem BoxL.range {w : World} {h : Nat} {cs : List Value} (k : BoxL w h cs) : w.rangeAt h 0 cs := fun j v hv => by rw [Nat.zero_add]; exact k.cell j v hv
theorem BoxL.there {w : World} {h : Nat} {cs : List Value} (k : BoxL w h cs) {n : Nat} (hn : n = cs.length) : w.there h 0 n := fun j hj => by
  rw [Nat.zero_add]
  exact ⟨by rw [k.cell j _ (List.getElem?_eq_getElem (by omega))]; rfl, k.fz j (by omega)⟩
theorem ch_setCells {g : Nat} : ∀ (vs : List Value) (o : Nat) (w : World), Ch (fun b => b = g) w (w.setCells g o vs)
  | [], _, w => Ch.refl w
  | v :: vs, o, w => (Ch.set (g := g) (o := o) (v := v)).trans (ch_setCells vs (o + 1) _)
theorem BoxL.setCells {w : World} {h : Nat} {cs vs : List Value} (k : BoxL w h cs) (hl : vs.length = cs.length) : BoxL (w.setCells h 0 vs) h vs :=
  ⟨fun j u hu => by
    have hj : j < vs.length := (List.getElem?_eq_some_iff.1 hu).1
    have := World.cell?_setCells_in h vs 0 w (fun i hi => (k.there rfl i (by omega)).1) j hj
    rw [Nat.zero_add] at this
    rw [this, ← hu, List.getElem?_eq_getElem hj], fun j hj => (World.frozen?_setCells _ _ _ _ _).trans (k.fz j (by omega)), Nat.lt_of_lt_of_le k.lt (ch_setCells vs 0 w).size⟩
theorem BoxL.below {B : Nat} {w w' : World} {h : Nat} {cs : List Value} (k : BoxL w h cs) (hb : Below B w w') (hB : h < B) : BoxL w' h cs :=
  ⟨fun j u hu => (hb.cell (p := ⟨h, j, none⟩) hB).trans (k.cell j u hu), fun j hj => (hb.frozen (p := ⟨h, j, none⟩) hB).trans (k.fz j hj), Nat.lt_of_lt_of_le k.lt hb.size⟩
/-- a struct is read whole from its block, behind a guard or not -/
theorem wpList_load_g {P : Program} {ops : Array Oper} {rest : List Oper} {op : Oper} {a : Act} {w : World} {Q : Exit → Act → World → Prop} (hw : Region.wanted op (yielded ops a.tmps) = true) (ty : TypeId) (x : Operand) (ho : op.op = .load ty x)
    (b o : Nat) (hx : a.eval x = .pointer (some ⟨b, o, none⟩)) (cs : List Value) (d : TypeDesc) (hc : w.rangeAt b o cs)
    (hu : P.underlying ty = some d) (hd : d.isRow = true) (hi : (P.info? ty).map (·.size) = some cs.length)
    (h : wpList P ops Q rest (a.put op.dst (.agg cs.toArray)) w) : wpList P ops Q (op :: rest) a w :=
  wpList_step fun _ hK => by rw [if_pos hw]; exact wp_load_mid ty x ho b o hx cs d hc hu hd hi (hK _ _ h)
/-- a struct that lies in a block of its own and a second result are handed back -/
theorem results_cell_tmp {P : Program} {fn : Func} {c u : Tmp} {ty : TypeId} (h : fn.results = #[.cell c ty, .tmp u]) {tmps : Array Value} {w : World} {b : Nat} {cs : List Value} {d : TypeDesc} (hp : tmps.getD c undef = .pointer (some ⟨b, 0, none⟩))
    (hc : w.rangeAt b 0 cs) (hu : P.underlying ty = some d) (hd : d.isRow = true) (hi : (P.info? ty).map (·.size) = some cs.length) : (results fn tmps).run P w = .ok (.tuple #[.agg cs.toArray, tmps.getD u undef]) w := by
  have hl := run_loadVar_mid (P := P) w b 0 ty cs d hc hu hd hi
  have hp' : tmps[c]?.getD undef = .pointer (some ⟨b, 0, none⟩) := by simpa using hp
  simp [results, h, hp', asAddr, Sem.run_bind, hl]
/-- what lies in blocks from B on is changed: nothing below is -/
theorem Ch.belowB {S : Nat → Prop} {B : Nat} {w0 w w' : World} (hc : Ch S w w') (hb : Below B w0 w) (hB : B ≤ w.heap.size) (hS : ∀ k, S k → B ≤ k) : Below B w0 w' := hb.trans (hc.below hS hB)
end Go.Proofs.Ytdphdnllhmnelaa
/- append as an operation of a region that draws; a block made there. -/
namespace Go.Proofs.Ytdphdnllhmnelaa
open Go.RowKit
theorem step_app {P : Program} {ops : Array Oper} {o : Oper} {a : Act} {w : World} {K : Act → World → Prop} {Q : Exit → Act → World → Prop} {E : Prop} (hgd : o.guard = none) (s x : Operand) (t : TypeId)
    (ho : o.op = .call { callee := .builtin .append, args := #[s, x], argTypes := #[t, t] })
    (base : Nat) (e : TypeId) (z : Value) (size bytes : Nat) (ht : P.underlying t = some (.slice e)) (hinfo : (P.info? e).map (fun i => (i.zero, i.size, i.bytes)) = some (some z, size, bytes))
    (hzs : z.cells.size = size) (hsz : 0 < size) (v : Value) (n : Nat) (xs : List Value) (hs : a.eval s = v) (hown : w.ownsRow base e size v n xs)
    (A : Option Addr) (m c : Nat) (news : List Value) (hx : a.eval x = .slice A m c) (hsrc : CellsAt w A m size news) (h1 : ∀ u ∈ news, u.oneCell' = true) (hn : A = none → c = 0)
    (h63 : n + m ≤ maxLen) (hbytes : (n + m) * bytes ≤ 140737488355328) (hbase : base ≤ w.heap.size)
    (h : ∀ A' c' w', w'.ownsRow base e size (.slice A' (n + m) c') (n + m) (xs ++ news) → w.grownBy w' v.ownBlock → Below base w w' →
      ((Value.slice A' (n + m) c').ownBlock = v.ownBlock ∨ (Value.slice A' (n + m) c').ownBlock = some w.heap.size) → K (a.put o.dst (.slice A' (n + m) c')) w') :
    if Region.wanted o (yielded ops a.tmps) = true then Oper.wp P o a w K Q else E := by
  have hw : Region.wanted o (yielded ops a.tmps) = true := by simp [Region.wanted, hgd]
  rw [if_pos hw]
  obtain ⟨A', c', w', hr, h2, h3, h4⟩ := run_app (P := P) w base t o.type e z size bytes ht hinfo hzs hsz v n xs hown A m c news hsrc h1 hn h63 hbytes hbase
  unfold Oper.wp execOp
  simp only [ho, resolve, invoke, builtin, Sem.run_bind, Sem.run_pure, Result.andThen_ok, List.map_toArray, List.map_cons, List.map_nil, hs, hx, hr]
  exact h A' c' w' h2 h3 (below_own hown h3 hbase) h4
theorem new1c (w : World) (cs : List Value) (n : Nat) (hn : cs.length = n) (t : TypeId) : CellsAt (w.alloc (.cells cs.toArray t)) (some ⟨w.heap.size, 0, none⟩) 1 n cs := by
  refine ⟨by simpa using hn, fun _ => ⟨w.heap.size, 0, rfl, fun j u hu => ?_⟩⟩
  rw [Nat.zero_add, World.cell?_alloc_new]
  simpa using hu
end Go.Proofs.Ytdphdnllhmnelaa
