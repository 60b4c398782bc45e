/- Contracts and lemmas: IdsOk, HasId, HasIdC, InstOkI, InsText, InstOkS, ShowInst, BoxL, CopyK, KindA. -/
import Derived.Test.YtdphdnllhmnelaaJ7
import Derived.Test.YtdphdnllhmnelaaJ3
import Derived.Test.YtdphdnllhmnelaaJ6
import Derived.Test.YtdphdnllhmnelaaJ5
import Derived.Test.YtdphdnllhmnelaaJ0
import Derived.Test.YtdphdnllhmnelaaJ1
import Derived.Deep.RegionHeld3
import Derived.Deep.MidRow
/- Right rows of ids; is an id in a row: both sides. -/
namespace Go.Proofs.Ytdphdnllhmnelaa
open Go.RowKit
attribute [local go_sem] Grow.cell Grow.frozen
attribute [local irreducible] RowR iddOkB iddLess cmpI idsOkB
theorem iddR_cells {w : World} {b off i : Nat} {cs : List Value} {x : Idd} (h : iddR w cs x) (hc : ∀ j u, cs[j]? = some u → w.cell? ⟨b, off + i * 2 + j, none⟩ = some u) :
    w.cell? ⟨b, off + i * 2, none⟩ = some (.int .i64 x.r) ∧ w.cell? ⟨b, off + i * 2 + 1, none⟩ = some (.int .i64 x.s) := by
  unfold iddR iddL at h; subst h
  exact ⟨hc 0 _ rfl, hc 1 _ rfl⟩
set_option maxRecDepth 8000 in
set_option maxHeartbeats 4000000 in
theorem idsOk_impl (l : List Idd) (A : Option Addr) (n c : Nat) (w : World) (h : RowR iddR 2 w A n c l) (hb : iddsB l) :
    Calls Try.prog 129 #[.slice A n c] w fun e w' => e = .returned (.bool (idsOkB l)) ∧ Below w.heap.size w w' := by
  have HL := Lib.hid h.len.symm
  have hn : n ≤ 9223372036854775807 := by have := h.len; unfold iddsB at hb; omega
  go_enter Try.func129, Try.ntmps129
  go_wp2_with fail
  go_loopw [7] (fun i wr => ∃ (k : Nat), k ≤ n ∧ i = .int .i64 k ∧ (∀ j : Nat, j < k → iddOkB (iddAt l j) = true ∧ (j = 0 ∨ iddLess (iddAt l (j - 1)) (iddAt l j) = true)) ∧ Below w.heap.size w wr) (fun i _ => n - (intOf i).toNat)
  case atStart => exact ⟨0, Nat.zero_le _, rfl, fun j h => absurd h (by omega), Below.refl _ _⟩
  case round =>
    obtain ⟨k, hk, rfl, hcl, hbr⟩ := hrel
    have HCL := Lib.hid hcl; clear hcl
    by_cases hlt : k < n
    · obtain ⟨b, off, rfl⟩ := h.head (by omega)
      obtain ⟨bl, x, cs, hx, hR, hcell⟩ := h.elem_at hlt
      obtain ⟨x0', x1'⟩ := iddR_cells hR hcell
      have e0 := (hbr.cell (p := ⟨b, off + k * 2, none⟩) bl).trans x0'
      have e1 := (hbr.cell (p := ⟨b, off + k * 2 + 1, none⟩) bl).trans x1'
      have hax : iddAt l k = x := iddAt_of hx
      have HAX := Lib.hid hax; clear hax
      clear hcell hR x0' x1'
      have hbs : b < wr.heap.size := Nat.lt_of_lt_of_le bl hbr.size
      have al := (Below.refl wr.heap.size wr).alloc (Nat.le_refl _) (.cells #[.int .i64 x.r, .int .i64 x.s] 46)
      go_wp2_with fail
      obtain ⟨W, hW⟩ : ∃ W, W = wr.alloc (.cells #[.int .i64 x.r, .int .i64 x.s] 46) := ⟨_, rfl⟩
      obtain ⟨g, hg⟩ : ∃ g, wr.heap.size = g := ⟨_, rfl⟩
      have z0 : W.cell? ⟨g, 0, none⟩ = some (.int .i64 x.r) := by rw [hW, ← hg]; simp [go_sem]
      have z1 : W.cell? ⟨g, 1, none⟩ = some (.int .i64 x.s) := by rw [hW, ← hg]; simp [go_sem]
      have e2 := keep_cell al e0
      have e3 := keep_cell al e1
      have hbW := bthen hbr al
      have hsW := al.size
      rw [← hW] at hbW e2 e3 hsW ⊢
      have hgW := cell_lt z0
      have hbsW : b < W.heap.size := by omega
      rw [hg] at ⊢
      clear hW al e0 e1
      obtain ⟨q1, hq1⟩ : ∃ q, iddOkB x = q := ⟨_, rfl⟩
      have Q1 := Lib.hid hq1; clear hq1
      cases q1
      · have HB := Lib.hid (idsOk_no (l := l) (j := k) (by have := HL.out; omega) (.inl (by rw [HAX.out]; exact Q1.out)))
        refine wp_region_grow (by kernel_rfl) (by kernel_rfl) ?_
        repeat (first | go_big_quiet_step ((go_at_call 128; exact grow_of (known Q1.out (idOk_any x _)))))
        refine wpQuiet_nil ?_
        intro _ hw'
        obtain ⟨⟨w4, hb4⟩, hw''⟩ := hw'
        change _ = w4 at hw''
        subst hw''
        go_wp2
        go_returns
        exact ⟨by rw [HB.out]; rfl, bthen hbW hb4⟩
      · by_cases hk0 : k = 0
        · have HK := Lib.hid (show ∀ j : Nat, j < k + 1 → iddOkB (iddAt l j) = true ∧ (j = 0 ∨ iddLess (iddAt l (j - 1)) (iddAt l j) = true) from fun j hj => by
            have hjk : j = k := by omega
            rw [hjk]
            exact ⟨by rw [HAX.out]; exact Q1.out, .inl hk0⟩)
          have gd0 : decide ((k : Int) > 0) = false := by rw [decide_eq_false_iff_not]; omega
          have gd00 : decide (0 < k) = false := by rw [decide_eq_false_iff_not]; omega
          have gd000 : ¬ 0 < k := by omega
          clear hk0
          refine wp_region_grow (by kernel_rfl) (by kernel_rfl) ?_
          repeat (first | go_big_quiet_step ((go_at_call 128; exact grow_of (known Q1.out (idOk_any x _)))))
          refine wpQuiet_nil ?_
          intro _ hw'
          obtain ⟨⟨w4, hb4⟩, hw''⟩ := hw'
          change _ = w4 at hw''
          subst hw''
          go_wp2
          exact ⟨⟨k + 1, by omega, by go_num, HK.out, bthen hbW hb4⟩, by simp [intOf]; omega⟩
        · obtain ⟨k', rfl⟩ : ∃ k', k = k' + 1 := ⟨k - 1, by omega⟩
          clear hk0
          obtain ⟨_, y, cs', hy, hRy, hcelly⟩ := h.elem_at (i := k') (by omega)
          obtain ⟨y0', y1'⟩ := iddR_cells hRy hcelly
          have y0 := (hbW.cell (p := ⟨b, off + k' * 2, none⟩) bl).trans y0'
          have y1 := (hbW.cell (p := ⟨b, off + k' * 2 + 1, none⟩) bl).trans y1'
          have hay : iddAt l k' = y := iddAt_of hy
          have HAY := Lib.hid hay; clear hay
          clear hcelly hRy y0' y1' hy hx
          have gd0 : decide (((k' + 1 : Nat) : Int) > 0) = true := by rw [decide_eq_true_eq]; omega
          have gd1 : (((k' + 1 : Nat) : Int)) - 1 = (k' : Int) := by omega
          obtain ⟨q2, hq2⟩ : ∃ q, iddLess y x = q := ⟨_, rfl⟩
          have hge := cmpI_ge y x
          rw [hq2] at hge
          have Q2 := Lib.hid hq2; clear hq2
          cases q2
          · have HB := Lib.hid (idsOk_no (l := l) (j := k' + 1) (by have := HL.out; omega) (.inr ⟨by omega, by rw [Nat.add_sub_cancel, HAX.out, HAY.out]; exact Q2.out⟩))
            simp only [Bool.not_false] at hge
            refine wp_region_grow (by kernel_rfl) (by kernel_rfl) ?_
            repeat (first | go_big_quiet_step (first | (go_at_call 128; exact grow_of (known Q1.out (idOk_any x _))) | (go_at_call 163; exact grow_of (cmp_any y x _))))
            refine wpQuiet_nil ?_
            intro _ hw'
            obtain ⟨⟨w4, hb4⟩, hw''⟩ := hw'
            change _ = w4 at hw''
            subst hw''
            go_wp2
            go_returns
            exact ⟨by rw [HB.out]; rfl, bthen hbW hb4⟩
          · simp only [Bool.not_true] at hge
            refine wp_region_grow (by kernel_rfl) (by kernel_rfl) ?_
            repeat (first | go_big_quiet_step (first | (go_at_call 128; exact grow_of (known Q1.out (idOk_any x _))) | (go_at_call 163; exact grow_of (cmp_any y x _))))
            refine wpQuiet_nil ?_
            intro _ hw'
            obtain ⟨⟨w4, hb4⟩, hw''⟩ := hw'
            change _ = w4 at hw''
            subst hw''
            go_wp2
            refine ⟨⟨k' + 1 + 1, by omega, by go_num, fun j hj => ?_, bthen hbW hb4⟩, by simp [intOf]; omega⟩
            by_cases e : j = k' + 1
            · subst e; exact ⟨by rw [HAX.out]; exact Q1.out, .inr (by rw [Nat.add_sub_cancel, HAX.out, HAY.out]; exact Q2.out)⟩
            · exact HCL.out j (by omega)
    · go_wp2
      go_returns
      have HB := idsOk_yes (l := l) (fun j hj => HCL.out j (by have := HL.out; omega))
      exact ⟨by rw [HB]; rfl, hbr⟩
set_option maxRecDepth 8000 in
set_option maxHeartbeats 4000000 in
theorem idsOk_spec (l : List Idd) (A : Option Addr) (n c : Nat) (w : World) (h : RowR iddR 2 w A n c l) (hb : iddsB l) :
    Calls Try.prog 126 #[.slice A n c] w fun e w' => e = .returned (.bool (idsOkB l)) ∧ Below w.heap.size w w' := by
  have HL := Lib.hid h.len.symm
  have hn : n ≤ 9223372036854775807 := by have := h.len; unfold iddsB at hb; omega
  go_enter Try.func126, Try.ntmps126
  go_wp2_with fail
  go_loopw [3] (fun i wr => ∃ (k : Nat), k ≤ n ∧ i = .int .i64 k ∧ (∀ j : Nat, j < k → iddOkB (iddAt l j) = true ∧ (j = 0 ∨ iddLess (iddAt l (j - 1)) (iddAt l j) = true)) ∧ Below w.heap.size w wr) (fun i _ => n - (intOf i).toNat)
  case atStart => exact ⟨0, Nat.zero_le _, rfl, fun j h => absurd h (by omega), Below.refl _ _⟩
  case round =>
    obtain ⟨k, hk, rfl, hcl, hbr⟩ := hrel
    have HCL := Lib.hid hcl; clear hcl
    by_cases hlt : k < n
    · obtain ⟨b, off, rfl⟩ := h.head (by omega)
      obtain ⟨bl, x, cs, hx, hR, hcell⟩ := h.elem_at hlt
      obtain ⟨x0', x1'⟩ := iddR_cells hR hcell
      have e0 := (hbr.cell (p := ⟨b, off + k * 2, none⟩) bl).trans x0'
      have e1 := (hbr.cell (p := ⟨b, off + k * 2 + 1, none⟩) bl).trans x1'
      have hax : iddAt l k = x := iddAt_of hx
      have HAX := Lib.hid hax; clear hax
      clear hcell hR x0' x1'
      have hbs : b < wr.heap.size := Nat.lt_of_lt_of_le bl hbr.size
      have hbW := hbr
      have hbsW := hbs
      obtain ⟨W, hW⟩ : ∃ W, W = wr := ⟨_, rfl⟩
      subst hW
      obtain ⟨q1, hq1⟩ : ∃ q, iddOkB x = q := ⟨_, rfl⟩
      have Q1 := Lib.hid hq1; clear hq1
      cases q1
      · have HB := Lib.hid (idsOk_no (l := l) (j := k) (by have := HL.out; omega) (.inl (by rw [HAX.out]; exact Q1.out)))
        go_wp2
        refine wp_region_grow (by kernel_rfl) (by kernel_rfl) ?_
        repeat (first | go_big_quiet_step ((go_at_call 124; exact grow_of (known Q1.out (l8Id_any x _)))))
        refine wpQuiet_nil ?_
        intro _ hw'
        obtain ⟨⟨w4, hb4⟩, hw''⟩ := hw'
        change _ = w4 at hw''
        subst hw''
        go_wp2
        go_returns
        exact ⟨by rw [HB.out]; rfl, bthen hbW hb4⟩
      · by_cases hk0 : k = 0
        · have HK := Lib.hid (show ∀ j : Nat, j < k + 1 → iddOkB (iddAt l j) = true ∧ (j = 0 ∨ iddLess (iddAt l (j - 1)) (iddAt l j) = true) from fun j hj => by
            have hjk : j = k := by omega
            rw [hjk]
            exact ⟨by rw [HAX.out]; exact Q1.out, .inl hk0⟩)
          have gd0 : decide ((k : Int) > 0) = false := by rw [decide_eq_false_iff_not]; omega
          have gd00 : decide (0 < k) = false := by rw [decide_eq_false_iff_not]; omega
          have gd000 : ¬ 0 < k := by omega
          clear hk0
          go_wp2
          refine wp_region_grow (by kernel_rfl) (by kernel_rfl) ?_
          repeat (first | go_big_quiet_step ((go_at_call 124; exact grow_of (known Q1.out (l8Id_any x _)))))
          refine wpQuiet_nil ?_
          intro _ hw'
          obtain ⟨⟨w4, hb4⟩, hw''⟩ := hw'
          change _ = w4 at hw''
          subst hw''
          go_wp2
          exact ⟨⟨k + 1, by omega, by go_num, HK.out, bthen hbW hb4⟩, by simp [intOf]; omega⟩
        · obtain ⟨k', rfl⟩ : ∃ k', k = k' + 1 := ⟨k - 1, by omega⟩
          clear hk0
          obtain ⟨_, y, cs', hy, hRy, hcelly⟩ := h.elem_at (i := k') (by omega)
          obtain ⟨y0', y1'⟩ := iddR_cells hRy hcelly
          have y0 := (hbW.cell (p := ⟨b, off + k' * 2, none⟩) bl).trans y0'
          have y1 := (hbW.cell (p := ⟨b, off + k' * 2 + 1, none⟩) bl).trans y1'
          have hay : iddAt l k' = y := iddAt_of hy
          have HAY := Lib.hid hay; clear hay
          clear hcelly hRy y0' y1' hy hx
          have gd0 : decide (((k' + 1 : Nat) : Int) > 0) = true := by rw [decide_eq_true_eq]; omega
          have gd1 : (((k' + 1 : Nat) : Int)) - 1 = (k' : Int) := by omega
          obtain ⟨q2, hq2⟩ : ∃ q, iddLess y x = q := ⟨_, rfl⟩
          have hge := cmpI_ge y x
          rw [hq2] at hge
          have Q2 := Lib.hid hq2; clear hq2
          cases q2
          · have HB := Lib.hid (idsOk_no (l := l) (j := k' + 1) (by have := HL.out; omega) (.inr ⟨by omega, by rw [Nat.add_sub_cancel, HAX.out, HAY.out]; exact Q2.out⟩))
            simp only [Bool.not_false] at hge
            go_wp2
            refine wp_region_grow (by kernel_rfl) (by kernel_rfl) ?_
            repeat (first | go_big_quiet_step (first | (go_at_call 124; exact grow_of (known Q1.out (l8Id_any x _))) | (go_at_call 162; exact grow_of (known Q2.out (l8Less_any y x _)))))
            refine wpQuiet_nil ?_
            intro _ hw'
            obtain ⟨⟨w4, hb4⟩, hw''⟩ := hw'
            change _ = w4 at hw''
            subst hw''
            go_wp2
            go_returns
            exact ⟨by rw [HB.out]; rfl, bthen hbW hb4⟩
          · simp only [Bool.not_true] at hge
            go_wp2
            refine wp_region_grow (by kernel_rfl) (by kernel_rfl) ?_
            repeat (first | go_big_quiet_step (first | (go_at_call 124; exact grow_of (known Q1.out (l8Id_any x _))) | (go_at_call 162; exact grow_of (known Q2.out (l8Less_any y x _)))))
            refine wpQuiet_nil ?_
            intro _ hw'
            obtain ⟨⟨w4, hb4⟩, hw''⟩ := hw'
            change _ = w4 at hw''
            subst hw''
            go_wp2
            refine ⟨⟨k' + 1 + 1, by omega, by go_num, fun j hj => ?_, bthen hbW hb4⟩, by simp [intOf]; omega⟩
            by_cases e : j = k' + 1
            · subst e; exact ⟨by rw [HAX.out]; exact Q1.out, .inr (by rw [Nat.add_sub_cancel, HAX.out, HAY.out]; exact Q2.out)⟩
            · exact HCL.out j (by omega)
    · go_wp2
      go_returns
      have HB := idsOk_yes (l := l) (fun j hj => HCL.out j (by have := HL.out; omega))
      exact ⟨by rw [HB]; rfl, hbr⟩
end Go.Proofs.Ytdphdnllhmnelaa
/- Is an id in a row: the reference's l8Has, slices.Contains at Id. -/
namespace Go.Proofs.Ytdphdnllhmnelaa
open Go.RowKit
attribute [local irreducible] RowR
attribute [local go_sem] Grow.cell Grow.frozen
def iddEq (a b : Idd) : Bool := a.r == b.r && a.s == b.s
def hasId (l : List Idd) (x : Idd) : Bool := l.any (fun y => iddEq y x)
theorem hasId_yes {l : List Idd} {k : Nat} {x : Idd} (hk : k < l.length) (h : iddEq (iddAt l k) x = true) : hasId l x = true := by
  unfold hasId; rw [List.any_eq_true]; exact ⟨iddAt l k, by rw [iddAt_get hk]; exact List.getElem_mem hk, h⟩
theorem hasId_no {l : List Idd} {x : Idd} (h : ∀ j, j < l.length → iddEq (iddAt l j) x = false) : hasId l x = false := by
  unfold hasId; rw [List.any_eq_false]
  intro y hy
  obtain ⟨i, hi, rfl⟩ := List.mem_iff_getElem.1 hy
  have := h i hi
  rw [iddAt_get hi] at this
  simp [this]
set_option maxRecDepth 8000 in
theorem l8Has_any (l : List Idd) (x : Idd) (A : Option Addr) (n c : Nat) (w : World) (h : RowR iddR 2 w A n c l) (hb : iddsB l) :
    Calls Try.prog 127 #[.slice A n c, iddV x] w fun e w' => e = .returned (.bool (hasId l x)) ∧ Below w.heap.size w w' := by
  have HL := Lib.hid h.len.symm
  have hn : n ≤ 9223372036854775807 := by have := h.len; unfold iddsB at hb; omega
  obtain ⟨r, s⟩ := x
  unfold iddV
  go_enter Try.func127, Try.ntmps127
  go_wp2_with fail
  go_loopw [5] (fun i wr => ∃ k : Nat, k ≤ n ∧ i = .int .i64 k ∧ (∀ j, j < k → iddEq (iddAt l j) ⟨r, s⟩ = false) ∧ Below w.heap.size w wr ∧ wr.cell? ⟨w.heap.size, 0, none⟩ = some (.int .i64 r) ∧ wr.cell? ⟨w.heap.size, 1, none⟩ = some (.int .i64 s)) (fun i _ => n - (intOf i).toNat)
  case atStart => exact ⟨0, Nat.zero_le _, rfl, fun j hj => absurd hj (by omega), by go_grown, by simp [go_sem], by simp [go_sem]⟩
  case round =>
    obtain ⟨k, hk, rfl, hx, hbr, b0, b1⟩ := hrel
    have HX := Lib.hid hx; clear hx
    by_cases hlt : k < n
    · obtain ⟨b, off, rfl⟩ := h.head (by omega)
      obtain ⟨bl, y, cs, hy, hR, hcell⟩ := h.elem_at hlt
      obtain ⟨x0', x1'⟩ := iddR_cells hR hcell
      have e0 := (hbr.cell (p := ⟨b, off + k * 2, none⟩) bl).trans x0'
      have e1 := (hbr.cell (p := ⟨b, off + k * 2 + 1, none⟩) bl).trans x1'
      have hax : iddAt l k = y := iddAt_of hy
      have HAX := Lib.hid hax; clear hax hy hcell hR x0' x1'
      obtain ⟨r', s'⟩ := y
      have hbs : b < wr.heap.size := Nat.lt_of_lt_of_le bl hbr.size
      have hgs := cell_lt b0
      by_cases h1 : r' = r ∧ s' = s
      · obtain ⟨rfl, rfl⟩ := h1
        go_wp2
        refine wp_region_grow (by kernel_rfl) (by kernel_rfl) ?_
        repeat (first | go_big_quiet_step (fail))
        refine wpQuiet_nil ?_
        intro _ hw'
        obtain ⟨⟨w4, hb4⟩, hw''⟩ := hw'
        change _ = w4 at hw''
        subst hw''
        go_wp2
        go_returns
        exact ⟨by rw [hasId_yes (l := l) (k := k) (by have := HL.out; omega) (by rw [HAX.out]; simp [iddEq])]; rfl, bthen hbr hb4⟩
      · by_cases h2 : r' = r
        · have h3 : ¬ s' = s := fun e => h1 ⟨h2, e⟩
          have g3 : (s' == s) = false := by simpa using h3
          clear h1
          subst h2
          have GD := Lib.hid (show iddEq ⟨r', s'⟩ ⟨r', s⟩ = false by simp [iddEq, h3])
          go_wp2
          refine wp_region_grow (by kernel_rfl) (by kernel_rfl) ?_
          repeat (first | go_big_quiet_step (fail))
          refine wpQuiet_nil ?_
          intro _ hw'
          obtain ⟨⟨w4, hb4⟩, hw''⟩ := hw'
          change _ = w4 at hw''
          subst hw''
          go_wp2
          refine ⟨⟨k + 1, by omega, by go_num, fun j hj => ?_, bthen hbr hb4, keep_cell hb4 b0, keep_cell hb4 b1⟩, by simp [intOf]; omega⟩
          by_cases e : j = k
          · subst e; rw [HAX.out]; exact GD.out
          · exact HX.out j (by omega)
        · have g2 : (r' == r) = false := by simpa using h2
          clear h1
          have GD := Lib.hid (show iddEq ⟨r', s'⟩ ⟨r, s⟩ = false by simp [iddEq, h2])
          go_wp2
          refine wp_region_grow (by kernel_rfl) (by kernel_rfl) ?_
          repeat (first | go_big_quiet_step (fail))
          refine wpQuiet_nil ?_
          intro _ hw'
          obtain ⟨⟨w4, hb4⟩, hw''⟩ := hw'
          change _ = w4 at hw''
          subst hw''
          go_wp2
          refine ⟨⟨k + 1, by omega, by go_num, fun j hj => ?_, bthen hbr hb4, keep_cell hb4 b0, keep_cell hb4 b1⟩, by simp [intOf]; omega⟩
          by_cases e : j = k
          · subst e; rw [HAX.out]; exact GD.out
          · exact HX.out j (by omega)
    · go_wp2
      go_returns
      exact ⟨by rw [hasId_no (fun j hj => HX.out j (by have := HL.out; omega))]; rfl, hbr⟩
end Go.Proofs.Ytdphdnllhmnelaa
/- slices.Index, slices.Contains at Id. -/
namespace Go.Proofs.Ytdphdnllhmnelaa
open Go.RowKit
attribute [local irreducible] RowR
attribute [local go_sem] Grow.cell Grow.frozen
set_option maxRecDepth 8000 in
theorem indexId_any (l : List Idd) (x : Idd) (A : Option Addr) (n c : Nat) (w : World) (h : RowR iddR 2 w A n c l) (hb : iddsB l) :
    Calls Try.prog 164 #[.slice A n c, iddV x] w fun e w' => ∃ i : Int, e = .returned (.int .i64 i) ∧ decide (i ≥ 0) = hasId l x ∧ Below w.heap.size w w' := by
  have HL := Lib.hid h.len.symm
  have hn : n ≤ 9223372036854775807 := by have := h.len; unfold iddsB at hb; omega
  obtain ⟨r, s⟩ := x
  unfold iddV
  go_enter Try.func164, Try.ntmps164
  go_wp2_with fail
  go_loopw [8] (fun i wr => ∃ k : Nat, k ≤ n ∧ i = .int .i64 k ∧ (∀ j, j < k → iddEq (iddAt l j) ⟨r, s⟩ = false) ∧ Below w.heap.size w wr ∧ wr.cell? ⟨w.heap.size, 0, none⟩ = some (.int .i64 r) ∧ wr.cell? ⟨w.heap.size, 1, none⟩ = some (.int .i64 s)) (fun i _ => n - (intOf i).toNat)
  case atStart => exact ⟨0, Nat.zero_le _, rfl, fun j hj => absurd hj (by omega), by go_grown, by simp [go_sem], by simp [go_sem]⟩
  case round =>
    obtain ⟨k, hk, rfl, hx, hbr, b0, b1⟩ := hrel
    have HX := Lib.hid hx; clear hx
    by_cases hlt : k < n
    · obtain ⟨b, off, rfl⟩ := h.head (by omega)
      obtain ⟨bl, y, cs, hy, hR, hcell⟩ := h.elem_at hlt
      obtain ⟨x0', x1'⟩ := iddR_cells hR hcell
      have e0 := (hbr.cell (p := ⟨b, off + k * 2, none⟩) bl).trans x0'
      have e1 := (hbr.cell (p := ⟨b, off + k * 2 + 1, none⟩) bl).trans x1'
      have hax : iddAt l k = y := iddAt_of hy
      have HAX := Lib.hid hax; clear hax hy hcell hR x0' x1'
      obtain ⟨r', s'⟩ := y
      have hbs : b < wr.heap.size := Nat.lt_of_lt_of_le bl hbr.size
      have hgs := cell_lt b0
      by_cases h1 : r' = r ∧ s' = s
      · obtain ⟨rfl, rfl⟩ := h1
        go_wp2
        refine wp_region_grow (by kernel_rfl) (by kernel_rfl) ?_
        repeat (first | go_big_quiet_step (fail))
        refine wpQuiet_nil ?_
        intro _ hw'
        obtain ⟨⟨w4, hb4⟩, hw''⟩ := hw'
        change _ = w4 at hw''
        subst hw''
        go_wp2
        go_returns
        exact ⟨k, rfl, by rw [hasId_yes (l := l) (k := k) (by have := HL.out; omega) (by rw [HAX.out]; simp [iddEq])]; simp, bthen hbr hb4⟩
      · by_cases h2 : r' = r
        · have h3 : ¬ s' = s := fun e => h1 ⟨h2, e⟩
          have g3 : (s == s') = false := by simpa using fun e => h3 e.symm
          clear h1
          subst h2
          have GD := Lib.hid (show iddEq ⟨r', s'⟩ ⟨r', s⟩ = false by simp [iddEq, h3])
          go_wp2
          refine wp_region_grow (by kernel_rfl) (by kernel_rfl) ?_
          repeat (first | go_big_quiet_step (fail))
          refine wpQuiet_nil ?_
          intro _ hw'
          obtain ⟨⟨w4, hb4⟩, hw''⟩ := hw'
          change _ = w4 at hw''
          subst hw''
          go_wp2
          refine ⟨⟨k + 1, by omega, by go_num, fun j hj => ?_, bthen hbr hb4, keep_cell hb4 b0, keep_cell hb4 b1⟩, by simp [intOf]; omega⟩
          by_cases e : j = k
          · subst e; rw [HAX.out]; exact GD.out
          · exact HX.out j (by omega)
        · have g2 : (r == r') = false := by simpa using fun e => h2 e.symm
          clear h1
          have GD := Lib.hid (show iddEq ⟨r', s'⟩ ⟨r, s⟩ = false by simp [iddEq, h2])
          go_wp2
          refine wp_region_grow (by kernel_rfl) (by kernel_rfl) ?_
          repeat (first | go_big_quiet_step (fail))
          refine wpQuiet_nil ?_
          intro _ hw'
          obtain ⟨⟨w4, hb4⟩, hw''⟩ := hw'
          change _ = w4 at hw''
          subst hw''
          go_wp2
          refine ⟨⟨k + 1, by omega, by go_num, fun j hj => ?_, bthen hbr hb4, keep_cell hb4 b0, keep_cell hb4 b1⟩, by simp [intOf]; omega⟩
          by_cases e : j = k
          · subst e; rw [HAX.out]; exact GD.out
          · exact HX.out j (by omega)
    · go_wp2
      go_returns
      exact ⟨-1, rfl, by rw [hasId_no (fun j hj => HX.out j (by have := HL.out; omega))]; rfl, hbr⟩
set_option maxRecDepth 8000 in
theorem containsId_any (l : List Idd) (x : Idd) (A : Option Addr) (n c : Nat) (w : World) (h : RowR iddR 2 w A n c l) (hb : iddsB l) :
    Calls Try.prog 130 #[.slice A n c, iddV x] w fun e w' => e = .returned (.bool (hasId l x)) ∧ Below w.heap.size w w' := by
  have al := (Below.refl w.heap.size w).alloc (Nat.le_refl _) (.cells #[.int .i64 x.r, .int .i64 x.s] 46)
  have h1 := h.keep iddK al
  unfold iddV
  go_enter Try.func130, Try.ntmps130
  go_wp2_with fail
  refine (indexId_any l x A n c _ h1 hb).mono ?_
  rintro e w' ⟨i, rfl, hi, hb1⟩
  have HI := Lib.hid hi; clear hi
  have hbb := bthen al hb1
  go_wp2
  go_returns
  exact ⟨by rw [HI.out]; rfl, hbb⟩
end Go.Proofs.Ytdphdnllhmnelaa
/- Is an instance right: the program's instOk. -/
namespace Go.Proofs.Ytdphdnllhmnelaa
open Go.RowKit
def insTail (x : Ins) : Bool := !(x.st == 0) || (x.vb == -1 && x.cmd.kd == 0 && x.seq == 0 && x.deps.length == 0 && !x.same)
def insOkB (x : Ins) : Bool := iddOkB x.id && inB x.bal (-1) 600 && inB x.vb (-1) x.bal && inB x.st 0 3 && cmOkB x.cmd && inB x.seq 0 60 && idsOkB x.deps && !hasId x.deps x.id && insTail x
attribute [local irreducible] StrR RowR cmOkB iddOkB idsOkB hasId inB
set_option maxRecDepth 8000 in
set_option maxHeartbeats 8000000 in
theorem instOk_impl (x : Ins) (A1 : Option Addr) (n1 c1 : Nat) (A2 : Option Addr) (n2 c2 : Nat) (w : World) (h1 : StrR w A1 n1 c1 x.cmd.ch) (h2 : RowR iddR 2 w A2 n2 c2 x.deps) (hb1 : cmB x.cmd) (hb2 : iddsB x.deps) :
    Calls Try.prog 75 #[insV x (.slice A1 n1 c1) (.slice A2 n2 c2)] w fun e w' => e = .returned (.bool (insOkB x)) ∧ Below w.heap.size w w' := by
  have HL := Lib.hid h2.len
  have hn2 : n2 ≤ 9223372036854775807 := by have := h2.len; unfold iddsB at hb2; omega
  obtain ⟨q0, hq0⟩ : ∃ q, iddOkB x.id = q := ⟨_, rfl⟩
  obtain ⟨q1, hq1⟩ : ∃ q, inB x.bal (-1) 600 = q := ⟨_, rfl⟩
  obtain ⟨q2, hq2⟩ : ∃ q, inB x.vb (-1) x.bal = q := ⟨_, rfl⟩
  obtain ⟨q3, hq3⟩ : ∃ q, inB x.st 0 3 = q := ⟨_, rfl⟩
  obtain ⟨q4, hq4⟩ : ∃ q, cmOkB x.cmd = q := ⟨_, rfl⟩
  obtain ⟨q5, hq5⟩ : ∃ q, inB x.seq 0 60 = q := ⟨_, rfl⟩
  obtain ⟨q6, hq6⟩ : ∃ q, idsOkB x.deps = q := ⟨_, rfl⟩
  obtain ⟨q7, hq7⟩ : ∃ q, hasId x.deps x.id = q := ⟨_, rfl⟩
  have HV := Lib.hid (show insOkB x = (q0 && q1 && q2 && q3 && q4 && q5 && q6 && !q7 && insTail x) by unfold insOkB; rw [hq0, hq1, hq2, hq3, hq4, hq5, hq6, hq7])
  have Q0 := Lib.hid hq0; clear hq0
  have Q1 := Lib.hid hq1; clear hq1
  have Q2 := Lib.hid hq2; clear hq2
  have Q3 := Lib.hid hq3; clear hq3
  have Q4 := Lib.hid hq4; clear hq4
  have Q5 := Lib.hid hq5; clear hq5
  have Q6 := Lib.hid hq6; clear hq6
  have Q7 := Lib.hid hq7; clear hq7
  unfold insV
  go_enter Try.func75, Try.ntmps75
  go_wp2_with fail
  refine (idOk_any x.id _).mono ?_
  rintro e w1 ⟨rfl, hb11⟩
  obtain ⟨hc0, hf0⟩ := bcell hb11
  have hz0 := hb11.size
  try simp at hz0
  have hB0 : Below w.heap.size w w1 := bthen (by go_grown) hb11
  have hzz0 : w.heap.size < w1.heap.size := by omega
  rw [Q0.out]
  cases q0
  · go_wp2
    go_returns
    exact ⟨ret_bool (by rw [HV.out]; simp), hB0⟩
  · skip
    go_wp2_with fail
    refine (within_any _ _ _ _).mono ?_
    rintro e w' ⟨rfl, rfl⟩
    rw [Q1.out]
    cases q1
    · go_wp2
      go_returns
      exact ⟨ret_bool (by rw [HV.out]; simp), hB0⟩
    · skip
      go_wp2_with fail
      refine (within_any _ _ _ _).mono ?_
      rintro e w' ⟨rfl, rfl⟩
      rw [Q2.out]
      cases q2
      · go_wp2
        go_returns
        exact ⟨ret_bool (by rw [HV.out]; simp), hB0⟩
      · skip
        go_wp2_with fail
        refine (within_any _ _ _ _).mono ?_
        rintro e w' ⟨rfl, rfl⟩
        rw [Q3.out]
        cases q3
        · go_wp2
          go_returns
          exact ⟨ret_bool (by rw [HV.out]; simp), hB0⟩
        · skip
          go_wp2_with fail
          refine (cmdOk_impl x.cmd _ _ _ _ (h1.keep hB0) hb1).mono ?_
          rintro e w5 ⟨rfl, hb15⟩
          obtain ⟨hc4, hf4⟩ := bcell hb15
          have hz4 := hb15.size
          try simp at hz4
          have hB4 : Below w.heap.size w w5 := bthen hB0 hb15
          have hzz4 : w.heap.size < w5.heap.size := by omega
          rw [Q4.out]
          cases q4
          · go_wp2
            go_returns
            exact ⟨ret_bool (by rw [HV.out]; simp), hB4⟩
          · skip
            go_wp2_with fail
            refine (within_any _ _ _ _).mono ?_
            rintro e w' ⟨rfl, rfl⟩
            rw [Q5.out]
            cases q5
            · go_wp2
              go_returns
              exact ⟨ret_bool (by rw [HV.out]; simp), hB4⟩
            · skip
              go_wp2_with fail
              refine (idsOk_impl x.deps _ _ _ _ (h2.keep iddK hB4) hb2).mono ?_
              rintro e w7 ⟨rfl, hb17⟩
              obtain ⟨hc6, hf6⟩ := bcell hb17
              have hz6 := hb17.size
              try simp at hz6
              have hB6 : Below w.heap.size w w7 := bthen hB4 hb17
              have hzz6 : w.heap.size < w7.heap.size := by omega
              rw [Q6.out]
              cases q6
              · go_wp2
                go_returns
                exact ⟨ret_bool (by rw [HV.out]; simp), hB6⟩
              · skip
                go_wp2_with fail
                refine (containsId_any x.deps x.id _ _ _ _ (h2.keep iddK hB6) hb2).mono ?_
                rintro e w8 ⟨rfl, hb18⟩
                obtain ⟨hc7, hf7⟩ := bcell hb18
                have hz7 := hb18.size
                try simp at hz7
                have hB7 : Below w.heap.size w w8 := bthen hB6 hb18
                have hzz7 : w.heap.size < w8.heap.size := by omega
                rw [Q7.out]
                cases q7
                · have HT := Lib.hid (show insOkB x = insTail x by rw [HV.out]; simp)
                  by_cases t0 : x.st = 0
                  · have T := Lib.hid (show insTail x = (x.vb == -1 && x.cmd.kd == 0 && x.seq == 0 && x.deps.length == 0 && !x.same) by unfold insTail; simp [t0])
                    have g0 : (x.st == 0) = true := by simp [t0]
                    have g00 : (x.st != 0) = false := by simp [t0]
                    clear t0
                    obtain ⟨r1, e1⟩ : ∃ q, (x.vb == -1) = q := ⟨_, rfl⟩
                    obtain ⟨r2, e2⟩ : ∃ q, (x.cmd.kd == 0) = q := ⟨_, rfl⟩
                    obtain ⟨r3, e3⟩ : ∃ q, (x.seq == 0) = q := ⟨_, rfl⟩
                    obtain ⟨r4, e4⟩ : ∃ q, ((n2 : Int) == 0) = q := ⟨_, rfl⟩
                    obtain ⟨r5, e5⟩ : ∃ q, x.same = q := ⟨_, rfl⟩
                    have T2 := Lib.hid (show insTail x = (r1 && r2 && r3 && r4 && !r5) by rw [T.out, e1, e2, e3, e5, ← e4, HL.out]; congr 2; exact beq_bool (by simp only [beq_iff_eq]; omega))
                    clear T
                    cases r1
                    · go_wp2
                      go_returns
                      exact ⟨ret_bool (by rw [HT.out, T2.out]; simp), hB7⟩
                    · skip
                      cases r2
                      · go_wp2
                        go_returns
                        exact ⟨ret_bool (by rw [HT.out, T2.out]; simp), hB7⟩
                      · skip
                        cases r3
                        · go_wp2
                          go_returns
                          exact ⟨ret_bool (by rw [HT.out, T2.out]; simp), hB7⟩
                        · skip
                          cases r4
                          · go_wp2
                            go_returns
                            exact ⟨ret_bool (by rw [HT.out, T2.out]; simp), hB7⟩
                          · skip
                            cases r5
                            · go_wp2
                              go_returns
                              exact ⟨ret_bool (by rw [HT.out, T2.out]; simp), hB7⟩
                            · go_wp2
                              go_returns
                              exact ⟨ret_bool (by rw [HT.out, T2.out]; simp), hB7⟩
                  · have T := Lib.hid (show insTail x = true by unfold insTail; simp [t0])
                    have g0 : (x.st == 0) = false := by simp [t0]
                    have g00 : (x.st != 0) = true := by simp [t0]
                    clear t0
                    go_wp2
                    go_returns
                    exact ⟨ret_bool (by rw [HT.out, T.out]), hB7⟩
                · go_wp2
                  go_returns
                  exact ⟨ret_bool (by rw [HV.out]; simp), hB7⟩
end Go.Proofs.Ytdphdnllhmnelaa
/- Plain laws: the text of an instance, and its being read back. -/
namespace Go.Proofs.Ytdphdnllhmnelaa
open Go.RowKit

theorem iddOk_bd {x : Idd} (h : iddOkB x = true) : (0 ≤ x.r ∧ x.r ≤ 2) ∧ 1 ≤ x.s ∧ x.s ≤ 6 := by
  unfold iddOkB at h
  rw [Bool.and_eq_true] at h
  exact ⟨inB_le h.1, inB_le h.2⟩
theorem idsOk_at {l : List Idd} (h : idsOkB l = true) {j : Nat} (hj : j < l.length) : iddOkB (iddAt l j) = true ∧ (j = 0 ∨ iddLess (iddAt l (j - 1)) (iddAt l j) = true) := by
  unfold idsOkB at h
  rw [List.all_eq_true] at h
  have := h j (List.mem_range.2 hj)
  simpa [Bool.and_eq_true, Bool.or_eq_true] using this
theorem idsOk_key {l : List Idd} (h : idsOkB l = true) : ∀ j, j < l.length → (j : Int) ≤ 6 * (iddAt l j).r + (iddAt l j).s - 1
  | 0, hj => by have := iddOk_bd (idsOk_at h hj).1; omega
  | j + 1, hj => by
    have ih := idsOk_key h j (by omega)
    have h1 := iddOk_bd (idsOk_at h hj).1
    have h2 := iddOk_bd (idsOk_at h (j := j) (by omega)).1
    rcases (idsOk_at h hj).2 with h3 | h3
    · omega
    · unfold iddLess at h3
      simp only [Nat.add_sub_cancel, Bool.or_eq_true, Bool.and_eq_true, decide_eq_true_eq, beq_iff_eq] at h3
      omega
theorem idsOk_len {l : List Idd} (h : idsOkB l = true) : l.length ≤ 18 := by
  rcases Nat.lt_or_ge 18 l.length with h1 | h1
  · have h2 := idsOk_key h 18 h1
    have h3 := iddOk_bd (idsOk_at h h1).1
    omega
  · exact h1
/-- the bounds of a right instance -/
structure InsBd (x : Ins) : Prop where
  r : 0 ≤ x.id.r ∧ x.id.r ≤ 2
  s : 1 ≤ x.id.s ∧ x.id.s ≤ 6
  bal : -1 ≤ x.bal ∧ x.bal ≤ 600
  vb : -1 ≤ x.vb ∧ x.vb ≤ 600
  st : 0 ≤ x.st ∧ x.st ≤ 3
  cmd : cmOkB x.cmd = true
  seq : 0 ≤ x.seq ∧ x.seq ≤ 60
  len : x.deps.length ≤ 18
  dep : ∀ j, j < x.deps.length → (0 ≤ (iddAt x.deps j).r ∧ (iddAt x.deps j).r ≤ 2) ∧ 1 ≤ (iddAt x.deps j).s ∧ (iddAt x.deps j).s ≤ 6
theorem insOk_bd {x : Ins} (h : insOkB x = true) : InsBd x := by
  unfold insOkB at h
  simp only [Bool.and_eq_true] at h
  obtain ⟨⟨⟨⟨⟨⟨⟨⟨h1, h2⟩, h3⟩, h4⟩, h5⟩, h6⟩, h7⟩, h8⟩, h9⟩ := h
  have k1 := iddOk_bd h1
  have k2 := inB_le h2
  have k3 := inB_le h3
  exact ⟨k1.1, k1.2, k2, by omega, inB_le h4, h5, inB_le h6, idsOk_len h7, fun j hj => iddOk_bd (idsOk_at h7 hj).1⟩
def sameT (b : Bool) : ByteArray := if b then ⟨#[1]⟩ else ⟨#[0]⟩
theorem sameT_size (b : Bool) : (sameT b).size = 1 := by cases b <;> rfl
def insHd (x : Ins) : ByteArray := varS x.id.r.toNat ++ varS x.id.s.toNat ++ varS (x.bal + 1).toNat ++ varS (x.vb + 1).toNat ++ varS x.st.toNat ++ varS x.seq.toNat ++ sameT x.same ++ (varS (cmText x.cmd).size ++ cmText x.cmd) ++ varS x.deps.length
def insTo (x : Ins) : Nat → ByteArray
  | 0 => insHd x
  | k + 1 => insTo x k ++ varS (iddAt x.deps k).r.toNat ++ varS (iddAt x.deps k).s.toNat
/-- an instance as text -/
def insText (x : Ins) : ByteArray := if insOkB x = true then insTo x x.deps.length else ByteArray.empty
def depL : List Idd → ByteArray
  | [] => ByteArray.empty
  | d :: l => varS d.r.toNat ++ (varS d.s.toNat ++ depL l)
theorem depL_app (a b : List Idd) : depL (a ++ b) = depL a ++ depL b := by
  induction a with
  | nil => simp [depL]
  | cons x a ih => simp only [List.cons_append, depL, ih, ByteArray.append_assoc]
theorem depL_drop {l : List Idd} {k : Nat} (h : k < l.length) : depL (l.drop k) = varS (iddAt l k).r.toNat ++ (varS (iddAt l k).s.toNat ++ depL (l.drop (k + 1))) := by
  rw [iddAt_get h, List.drop_eq_getElem_cons h]
  rfl
theorem insText_yes {x : Ins} (h : insOkB x = true) : insText x = insTo x x.deps.length := by unfold insText; rw [if_pos h]
theorem insText_no {x : Ins} (h : insOkB x = false) : insText x = ByteArray.empty := by unfold insText; rw [if_neg (by rw [h]; simp)]
theorem insTo_depL (x : Ins) : ∀ k, k ≤ x.deps.length → insTo x k = insHd x ++ depL (x.deps.take k)
  | 0, _ => by simp [insTo, depL]
  | k + 1, h => by
    have e : iddAt x.deps k = x.deps[k]'(by omega) := iddAt_get (by omega)
    rw [List.take_succ_eq_append_getElem (by omega), depL_app, insTo, insTo_depL x k (by omega), e]
    simp [depL, ByteArray.append_assoc]
theorem insText_depL {x : Ins} (h : insOkB x = true) : insText x = varS x.id.r.toNat ++ (varS x.id.s.toNat ++ (varS (x.bal + 1).toNat ++ (varS (x.vb + 1).toNat ++ (varS x.st.toNat ++ (varS x.seq.toNat ++ (sameT x.same ++ (varS (cmText x.cmd).size ++ (cmText x.cmd ++ (varS x.deps.length ++ depL x.deps))))))))) := by
  rw [insText_yes h, insTo_depL x _ (Nat.le_refl _), List.take_length]
  unfold insHd
  simp only [ByteArray.append_assoc]
theorem insHd_size {x : Ins} (h : InsBd x) : (insHd x).size ≤ 5000 := by
  obtain ⟨a, b, c, d, e, f, g, i, j⟩ := h
  have v1 := varS_size x.id.r.toNat
  have v2 := varS_size x.id.s.toNat
  have v3 := varS_size (x.bal + 1).toNat
  have v4 := varS_size (x.vb + 1).toNat
  have v5 := varS_size x.st.toNat
  have v6 := varS_size x.seq.toNat
  have v7 := sameT_size x.same
  have v8 := varS_size (cmText x.cmd).size
  have v9 := cmText_size x.cmd
  have v10 := varS_size x.deps.length
  unfold insHd
  simp only [ByteArray.size_append]
  omega
theorem insTo_size {x : Ins} (h : InsBd x) : ∀ k, k ≤ x.deps.length → (insTo x k).size ≤ 5000 + 10 * k
  | 0, _ => by have := insHd_size h; unfold insTo; omega
  | k + 1, hk => by
    have h1 := insTo_size h k (by omega)
    have h2 := h.dep k (by omega)
    have v1 := varS_size (iddAt x.deps k).r.toNat
    have v2 := varS_size (iddAt x.deps k).s.toNat
    unfold insTo
    simp only [ByteArray.size_append]; omega
theorem insText_size (x : Ins) : (insText x).size ≤ 5180 := by
  cases h : insOkB x
  · rw [insText_no h]; exact Nat.zero_le _
  · have h1 := insOk_bd h
    have h2 := insTo_size h1 _ (Nat.le_refl _)
    have h3 := h1.len
    rw [insText_yes h]; omega
theorem insText_ne {x : Ins} (h : insOkB x = true) : insText x ≠ ByteArray.empty := by
  intro e
  have h1 := congrArg ByteArray.size e
  rw [insText_depL h, ByteArray.size_append] at h1
  have h2 := varS_pos x.id.r.toNat
  have h3 : ByteArray.empty.size = 0 := rfl
  omega
/-- what the reader's steps give on the text of a right instance -/
theorem ins_parse {x : Ins} (h : insOkB x = true) : ∃ r1 r2 r3 r4 r5 r6 r7 r8, numF (insText x, false) = (x.id.r.toNat, (r1, false)) ∧ numF (r1, false) = (x.id.s.toNat, (r2, false)) ∧ numF (r2, false) = ((x.bal + 1).toNat, (r3, false)) ∧ numF (r3, false) = ((x.vb + 1).toNat, (r4, false)) ∧
    numF (r4, false) = (x.st.toNat, (r5, false)) ∧ numF (r5, false) = (x.seq.toNat, (r6, false)) ∧ cutF (r6, false) 1 = (sameT x.same, (r7, false)) ∧ textF (r7, false) = (cmText x.cmd, (r8, false)) ∧ manyF (r8, false) 18 = (x.deps.length, (depL x.deps, false)) := by
  have hb := insOk_bd h
  have a := hb.r; have b := hb.s; have c := hb.bal; have d := hb.vb; have e := hb.st; have f := hb.seq; have g := hb.len
  have i := cmText_size x.cmd
  rw [insText_depL h]
  exact ⟨_, _, _, _, _, _, _, _, numF_var (by omega) _, numF_var (by omega) _, numF_var (by omega) _, numF_var (by omega) _, numF_var (by omega) _, numF_var (by omega) _, cutF_app _ _ (sameT_size _), textF_app (by omega) _, manyF_var (by omega) (by omega) _⟩
/-- what is read so far agrees with whatever instance the text is the text of -/
def InJ (s : ByteArray) (r sl bal vb st sq : Nat) (sm t : ByteArray) (m : Nat) (ds : List Idd) (x : Sc) : Prop :=
  ∀ c, insOkB c = true → insText c = s → c.id = ⟨r, sl⟩ ∧ c.bal = bal - 1 ∧ c.vb = vb - 1 ∧ c.st = st ∧ c.seq = sq ∧ sameT c.same = sm ∧ cmText c.cmd = t ∧ m = c.deps.length ∧ ds = c.deps.take ds.length ∧ ds.length ≤ c.deps.length ∧ x = (depL (c.deps.drop ds.length), false)
theorem InJ.start {s : ByteArray} {x1 x2 x3 x4 x5 x6 x9 : Nat × Sc} {x7 x8 : ByteArray × Sc} (f1 : numF (s, false) = x1) (f2 : numF x1.2 = x2) (f3 : numF x2.2 = x3) (f4 : numF x3.2 = x4) (f5 : numF x4.2 = x5) (f6 : numF x5.2 = x6) (f7 : cutF x6.2 1 = x7) (f8 : textF x7.2 = x8) (f9 : manyF x8.2 18 = x9) :
    InJ s x1.1 x2.1 x3.1 x4.1 x5.1 x6.1 x7.1 x8.1 x9.1 [] x9.2 := by
  intro c hc hs
  obtain ⟨r1, r2, r3, r4, r5, r6, r7, r8, e1, e2, e3, e4, e5, e6, e7, e8, e9⟩ := ins_parse hc
  rw [hs] at e1
  have hb := insOk_bd hc
  rw [e1] at f1; subst f1; simp only at f2
  rw [e2] at f2; subst f2; simp only at f3
  rw [e3] at f3; subst f3; simp only at f4
  rw [e4] at f4; subst f4; simp only at f5
  rw [e5] at f5; subst f5; simp only at f6
  rw [e6] at f6; subst f6; simp only at f7
  rw [e7] at f7; subst f7; simp only at f8
  rw [e8] at f8; subst f8; simp only at f9
  rw [e9] at f9; subst f9
  have a := hb.r; have b := hb.s; have c1 := hb.bal; have d := hb.vb; have e := hb.st; have f := hb.seq
  obtain ⟨⟨cr, cs⟩, cb, cv, ct, cc, cq, cd, cm⟩ := c
  simp only at a b c1 d e f
  exact ⟨by simp only [Idd.mk.injEq]; omega, by simp only; omega, by simp only; omega, by simp only; omega, by simp only; omega, rfl, rfl, rfl, by simp, by simp, by simp⟩
theorem InJ.step {s : ByteArray} {r sl bal vb st sq : Nat} {sm t : ByteArray} {m : Nat} {ds : List Idd} {x : Sc} (h : InJ s r sl bal vb st sq sm t m ds x) (hm : ds.length < m) : InJ s r sl bal vb st sq sm t m (ds ++ [⟨(numF x).1, (numF (numF x).2).1⟩]) (numF (numF x).2).2 := by
  intro c hc hs
  obtain ⟨h1, h2, h3, h4, h5, h6, h7, h8, h9, h10, h11⟩ := h c hc hs
  have hk : ds.length < c.deps.length := by omega
  have hd := (insOk_bd hc).dep _ hk
  rw [h11, depL_drop hk, numF_var (by omega), numF_var (by omega)]
  refine ⟨h1, h2, h3, h4, h5, h6, h7, h8, ?_, by rw [List.length_append]; simp only [List.length_cons, List.length_nil]; omega, by rw [List.length_append]; rfl⟩
  rw [List.length_append, List.length_singleton, List.take_succ_eq_append_getElem hk, ← h9]
  have e := iddAt_get hk
  rw [← e]
  congr 2
  generalize iddAt c.deps ds.length = y at hd ⊢
  obtain ⟨yr, ys⟩ := y
  simp only at hd ⊢
  rw [Idd.mk.injEq]; omega
def isOne (s : ByteArray) : Bool := decide (s = ⟨#[1]⟩)
theorem isOne_sameT (b : Bool) : isOne (sameT b) = b := by cases b <;> decide
theorem InJ.end_ {s : ByteArray} {r sl bal vb st sq : Nat} {sm t : ByteArray} {m : Nat} {ds : List Idd} {x : Sc} (h : InJ s r sl bal vb st sq sm t m ds x) (hm : m ≤ ds.length) : ∀ c, insOkB c = true → insText c = s → c = ⟨⟨r, sl⟩, bal - 1, vb - 1, st, rdCm t, sq, ds, isOne sm⟩ ∧ x.2 = false := by
  intro c hc hs
  obtain ⟨h1, h2, h3, h4, h5, h6, h7, h8, h9, h10, h11⟩ := h c hc hs
  have hl : ds.length = c.deps.length := by omega
  rw [hl, List.take_length] at h9
  refine ⟨?_, by rw [h11]⟩
  have e1 := (rdCm_yes (insOk_bd hc).cmd h7).1
  rw [← h1, ← h2, ← h3, ← h4, ← h5, ← h6, isOne_sameT, e1, h9]
open Classical in
noncomputable def rdIn (s : ByteArray) : Ins := if h : ∃ c, insOkB c = true ∧ insText c = s then Classical.choose h else insNil
open Classical in
noncomputable def rdInB (s : ByteArray) : Bool := if ∃ c, insOkB c = true ∧ insText c = s then true else false
theorem insText_inj {c c' : Ins} (h : insOkB c = true) (h' : insOkB c' = true) (e : insText c = insText c') : c = c' := by
  have key : ∀ k, k ≤ c.deps.length → ∃ ds x, ds.length = k ∧ InJ (insText c) (numF (insText c, false)).1 (numF (numF (insText c, false)).2).1 (numF (numF (numF (insText c, false)).2).2).1 (numF (numF (numF (numF (insText c, false)).2).2).2).1 (numF (numF (numF (numF (numF (insText c, false)).2).2).2).2).1 (numF (numF (numF (numF (numF (numF (insText c, false)).2).2).2).2).2).1 (cutF (numF (numF (numF (numF (numF (numF (insText c, false)).2).2).2).2).2).2 1).1 (textF (cutF (numF (numF (numF (numF (numF (numF (insText c, false)).2).2).2).2).2).2 1).2).1 (manyF (textF (cutF (numF (numF (numF (numF (numF (numF (insText c, false)).2).2).2).2).2).2 1).2).2 18).1 ds x := by
    intro k
    induction k with
    | zero => intro _; exact ⟨[], _, rfl, InJ.start rfl rfl rfl rfl rfl rfl rfl rfl rfl⟩
    | succ k ih =>
      intro hk
      obtain ⟨ds, x, hl, hj⟩ := ih (by omega)
      obtain ⟨_, _, _, _, _, _, _, h8, _⟩ := hj c h rfl
      exact ⟨_, _, by rw [List.length_append, hl]; rfl, hj.step (by omega)⟩
  obtain ⟨ds, x, hl, hj⟩ := key _ (Nat.le_refl _)
  obtain ⟨_, _, _, _, _, _, _, h8, _⟩ := hj c h rfl
  have e1 := (hj.end_ (by omega) c h rfl).1
  have e2 := (hj.end_ (by omega) c' h' e.symm).1
  rw [e1, e2]
theorem rdIn_yes {s : ByteArray} {c : Ins} (h1 : insOkB c = true) (h2 : insText c = s) : rdIn s = c ∧ rdInB s = true := by
  have h : ∃ c, insOkB c = true ∧ insText c = s := ⟨c, h1, h2⟩
  refine ⟨?_, by unfold rdInB; rw [if_pos h]⟩
  unfold rdIn
  rw [dif_pos h]
  have hc := Classical.choose_spec h
  exact insText_inj hc.1 h1 (hc.2.trans h2.symm)
theorem rdIn_no {s : ByteArray} (h : ∀ c, insOkB c = true → insText c = s → False) : rdIn s = insNil ∧ rdInB s = false := by
  have h' : ¬ ∃ c, insOkB c = true ∧ insText c = s := fun ⟨c, h1, h2⟩ => h c h1 h2
  exact ⟨by unfold rdIn; rw [dif_neg h'], by unfold rdInB; rw [if_neg h']⟩
end Go.Proofs.Ytdphdnllhmnelaa
/- Is an instance right: the reference's l8Inst. -/
namespace Go.Proofs.Ytdphdnllhmnelaa
open Go.RowKit
attribute [local irreducible] StrR RowR cmOkB iddOkB idsOkB hasId inB
set_option maxRecDepth 8000 in
set_option maxHeartbeats 8000000 in
theorem instOk_spec (x : Ins) (A1 : Option Addr) (n1 c1 : Nat) (A2 : Option Addr) (n2 c2 : Nat) (w : World) (h1 : StrR w A1 n1 c1 x.cmd.ch) (h2 : RowR iddR 2 w A2 n2 c2 x.deps) (hb1 : cmB x.cmd) (hb2 : iddsB x.deps) :
    Calls Try.prog 69 #[insV x (.slice A1 n1 c1) (.slice A2 n2 c2)] w fun e w' => e = .returned (.bool (insOkB x)) ∧ Below w.heap.size w w' := by
  have HL := Lib.hid h2.len
  have hn2 : n2 ≤ 9223372036854775807 := by have := h2.len; unfold iddsB at hb2; omega
  obtain ⟨q0, hq0⟩ : ∃ q, iddOkB x.id = q := ⟨_, rfl⟩
  obtain ⟨q1, hq1⟩ : ∃ q, inB x.bal (-1) 600 = q := ⟨_, rfl⟩
  obtain ⟨q2, hq2⟩ : ∃ q, inB x.vb (-1) x.bal = q := ⟨_, rfl⟩
  obtain ⟨q3, hq3⟩ : ∃ q, inB x.st 0 3 = q := ⟨_, rfl⟩
  obtain ⟨q4, hq4⟩ : ∃ q, cmOkB x.cmd = q := ⟨_, rfl⟩
  obtain ⟨q5, hq5⟩ : ∃ q, inB x.seq 0 60 = q := ⟨_, rfl⟩
  obtain ⟨q6, hq6⟩ : ∃ q, idsOkB x.deps = q := ⟨_, rfl⟩
  obtain ⟨q7, hq7⟩ : ∃ q, hasId x.deps x.id = q := ⟨_, rfl⟩
  have HV := Lib.hid (show insOkB x = (q0 && q1 && q2 && q3 && q4 && q5 && q6 && !q7 && insTail x) by unfold insOkB; rw [hq0, hq1, hq2, hq3, hq4, hq5, hq6, hq7])
  have Q0 := Lib.hid hq0; clear hq0
  have Q1 := Lib.hid hq1; clear hq1
  have Q2 := Lib.hid hq2; clear hq2
  have Q3 := Lib.hid hq3; clear hq3
  have Q4 := Lib.hid hq4; clear hq4
  have Q5 := Lib.hid hq5; clear hq5
  have Q6 := Lib.hid hq6; clear hq6
  have Q7 := Lib.hid hq7; clear hq7
  unfold insV
  go_enter Try.func69, Try.ntmps69
  go_wp2_with fail
  refine (l8Id_any x.id _).mono ?_
  rintro e w1 ⟨rfl, hb11⟩
  obtain ⟨hc0, hf0⟩ := bcell hb11
  have hz0 := hb11.size
  try simp at hz0
  have hB0 : Below w.heap.size w w1 := bthen (by go_grown) hb11
  have hzz0 : w.heap.size < w1.heap.size := by omega
  rw [Q0.out]
  cases q0
  · go_wp2
    go_returns
    exact ⟨ret_bool (by rw [HV.out]; simp), hB0⟩
  · skip
    go_wp2_with fail
    refine (l1In_any _ _ _ _).mono ?_
    rintro e w' ⟨rfl, rfl⟩
    rw [Q1.out]
    cases q1
    · go_wp2
      go_returns
      exact ⟨ret_bool (by rw [HV.out]; simp), hB0⟩
    · skip
      go_wp2_with fail
      refine (l1In_any _ _ _ _).mono ?_
      rintro e w' ⟨rfl, rfl⟩
      rw [Q2.out]
      cases q2
      · go_wp2
        go_returns
        exact ⟨ret_bool (by rw [HV.out]; simp), hB0⟩
      · skip
        go_wp2_with fail
        refine (l1In_any _ _ _ _).mono ?_
        rintro e w' ⟨rfl, rfl⟩
        rw [Q3.out]
        cases q3
        · go_wp2
          go_returns
          exact ⟨ret_bool (by rw [HV.out]; simp), hB0⟩
        · skip
          go_wp2_with fail
          refine (cmdOk_spec x.cmd _ _ _ _ (h1.keep hB0) hb1).mono ?_
          rintro e w5 ⟨rfl, hb15⟩
          obtain ⟨hc4, hf4⟩ := bcell hb15
          have hz4 := hb15.size
          try simp at hz4
          have hB4 : Below w.heap.size w w5 := bthen hB0 hb15
          have hzz4 : w.heap.size < w5.heap.size := by omega
          rw [Q4.out]
          cases q4
          · go_wp2
            go_returns
            exact ⟨ret_bool (by rw [HV.out]; simp), hB4⟩
          · skip
            go_wp2_with fail
            refine (l1In_any _ _ _ _).mono ?_
            rintro e w' ⟨rfl, rfl⟩
            rw [Q5.out]
            cases q5
            · go_wp2
              go_returns
              exact ⟨ret_bool (by rw [HV.out]; simp), hB4⟩
            · skip
              go_wp2_with fail
              refine (idsOk_spec x.deps _ _ _ _ (h2.keep iddK hB4) hb2).mono ?_
              rintro e w7 ⟨rfl, hb17⟩
              obtain ⟨hc6, hf6⟩ := bcell hb17
              have hz6 := hb17.size
              try simp at hz6
              have hB6 : Below w.heap.size w w7 := bthen hB4 hb17
              have hzz6 : w.heap.size < w7.heap.size := by omega
              rw [Q6.out]
              cases q6
              · go_wp2
                go_returns
                exact ⟨ret_bool (by rw [HV.out]; simp), hB6⟩
              · skip
                go_wp2_with fail
                refine (l8Has_any x.deps x.id _ _ _ _ (h2.keep iddK hB6) hb2).mono ?_
                rintro e w8 ⟨rfl, hb18⟩
                obtain ⟨hc7, hf7⟩ := bcell hb18
                have hz7 := hb18.size
                try simp at hz7
                have hB7 : Below w.heap.size w w8 := bthen hB6 hb18
                have hzz7 : w.heap.size < w8.heap.size := by omega
                rw [Q7.out]
                cases q7
                · have HT := Lib.hid (show insOkB x = insTail x by rw [HV.out]; simp)
                  by_cases t0 : x.st = 0
                  · have T := Lib.hid (show insTail x = (x.vb == -1 && x.cmd.kd == 0 && x.seq == 0 && x.deps.length == 0 && !x.same) by unfold insTail; simp [t0])
                    have g0 : (x.st == 0) = true := by simp [t0]
                    have g00 : (x.st != 0) = false := by simp [t0]
                    clear t0
                    obtain ⟨r1, e1⟩ : ∃ q, (x.vb == -1) = q := ⟨_, rfl⟩
                    obtain ⟨r2, e2⟩ : ∃ q, (x.cmd.kd == 0) = q := ⟨_, rfl⟩
                    obtain ⟨r3, e3⟩ : ∃ q, (x.seq == 0) = q := ⟨_, rfl⟩
                    obtain ⟨r4, e4⟩ : ∃ q, ((n2 : Int) == 0) = q := ⟨_, rfl⟩
                    obtain ⟨r5, e5⟩ : ∃ q, x.same = q := ⟨_, rfl⟩
                    have T2 := Lib.hid (show insTail x = (r1 && r2 && r3 && r4 && !r5) by rw [T.out, e1, e2, e3, e5, ← e4, HL.out]; congr 2; exact beq_bool (by simp only [beq_iff_eq]; omega))
                    clear T
                    cases r1
                    · go_wp2
                      go_returns
                      exact ⟨ret_bool (by rw [HT.out, T2.out]; simp), hB7⟩
                    · skip
                      cases r2
                      · go_wp2
                        go_returns
                        exact ⟨ret_bool (by rw [HT.out, T2.out]; simp), hB7⟩
                      · skip
                        cases r3
                        · go_wp2
                          go_returns
                          exact ⟨ret_bool (by rw [HT.out, T2.out]; simp), hB7⟩
                        · skip
                          cases r4
                          · go_wp2
                            go_returns
                            exact ⟨ret_bool (by rw [HT.out, T2.out]; simp), hB7⟩
                          · skip
                            cases r5
                            · go_wp2
                              go_returns
                              exact ⟨ret_bool (by rw [HT.out, T2.out]; simp), hB7⟩
                            · go_wp2
                              go_returns
                              exact ⟨ret_bool (by rw [HT.out, T2.out]; simp), hB7⟩
                  · have T := Lib.hid (show insTail x = true by unfold insTail; simp [t0])
                    have g0 : (x.st == 0) = false := by simp [t0]
                    have g00 : (x.st != 0) = true := by simp [t0]
                    clear t0
                    go_wp2
                    go_returns
                    exact ⟨ret_bool (by rw [HT.out, T.out]), hB7⟩
                · go_wp2
                  go_returns
                  exact ⟨ret_bool (by rw [HV.out]; simp), hB7⟩
end Go.Proofs.Ytdphdnllhmnelaa
/- Contracts of ShowInst (both sides): the text of an instance. -/
namespace Go.Proofs.Ytdphdnllhmnelaa
open Go.RowKit
attribute [local go_sem] Grow.cell Grow.frozen
def hdTo (L : List Int) : Nat → ByteArray
  | 0 => ByteArray.empty
  | k + 1 => hdTo L k ++ varS (L.getD k 0).toNat
theorem hdTo_size {L : List Int} (h : ∀ j, 0 ≤ L.getD j 0 ∧ L.getD j 0 ≤ 601) : ∀ k, (hdTo L k).size ≤ k * 602
  | 0 => by simp [hdTo]
  | k + 1 => by
    have h1 := hdTo_size h k
    have h2 := h k
    have h3 := varS_size (L.getD k 0).toNat
    unfold hdTo
    rw [ByteArray.size_append]; omega
theorem insHd_hd (x : Ins) : insTo x 0 = hdTo [x.id.r, x.id.s, x.bal + 1, x.vb + 1, x.st, x.seq] 6 ++ sameT x.same ++ (varS (cmText x.cmd).size ++ cmText x.cmd) ++ varS x.deps.length := by
  unfold insTo insHd
  simp [hdTo]
attribute [local irreducible] StrsAt StrR RowR varS insOkB cmText
set_option maxRecDepth 8000 in
set_option maxHeartbeats 4000000 in
theorem showInst_impl (x : Ins) (A1 : Option Addr) (n1 c1 : Nat) (A2 : Option Addr) (n2 c2 : Nat) (w : World) (h1 : StrR w A1 n1 c1 x.cmd.ch) (h2 : RowR iddR 2 w A2 n2 c2 x.deps) (hb1 : cmB x.cmd) (hb2 : iddsB x.deps) :
    Calls Try.prog 26 #[insV x (.slice A1 n1 c1) (.slice A2 n2 c2)] w fun e w' => e = .returned (.string (insText x)) ∧ Below w.heap.size w w' := by
  have HN := Lib.hid h2.len
  have al := (Below.refl w.heap.size w).alloc (Nat.le_refl _) (.cells #[.int .i64 x.id.r, .int .i64 x.id.s, .int .i64 x.bal, .int .i64 x.vb, .int .i64 x.st, .int .i64 x.cmd.kd, .int .i64 x.cmd.cl, .int .i64 x.cmd.no, .string x.cmd.s, .string x.cmd.nm, .string x.cmd.tg, .int .i64 x.cmd.n, .slice A1 n1 c1, .int .i64 x.seq, .slice A2 n2 c2, .bool x.same] 50)
  obtain ⟨q, hq⟩ : ∃ q, insOkB x = q := ⟨_, rfl⟩
  have HQ := Lib.hid hq
  cases q
  · have HT := Lib.hid (insText_no hq)
    clear hq
    rw [HT.out]
    unfold insV
    go_enter Try.func26, Try.ntmps26
    go_wp2_with fail
    refine (instOk_impl x _ _ _ _ _ _ _ (h1.keep al) (h2.keep iddK al) hb1 hb2).mono ?_
    rintro e w1 ⟨rfl, hc1⟩
    rw [HQ.out]
    go_wp2
    go_returns
    exact ⟨rfl, bthen al hc1⟩
  · have HT := Lib.hid (insText_yes hq)
    have hd := insOk_bd hq
    have HTS := Lib.hid (insTo_size hd)
    have hcs := cmText_size x.cmd
    obtain ⟨a1, a2, a3, a4, a5, a6, a7, a8, a9⟩ := hd
    have A9 := Lib.hid a9; clear a9 hq a6
    rw [HT.out]
    unfold insV
    go_enter Try.func26, Try.ntmps26
    go_wp2_with fail
    refine (instOk_impl x _ _ _ _ _ _ _ (h1.keep al) (h2.keep iddK al) hb1 hb2).mono ?_
    rintro e w1 ⟨rfl, hc1⟩
    rw [HQ.out]
    have hB1 := bthen al hc1
    have hz1 := hc1.size
    simp at hz1
    have hz1' : w.heap.size < w1.heap.size := by omega
    have e0 : w1.cell? ⟨w.heap.size, 0, none⟩ = some (.int .i64 x.id.r) := keep_cell hc1 (by simp [go_sem])
    have e1 : w1.cell? ⟨w.heap.size, 1, none⟩ = some (.int .i64 x.id.s) := keep_cell hc1 (by simp [go_sem])
    have e2 : w1.cell? ⟨w.heap.size, 2, none⟩ = some (.int .i64 x.bal) := keep_cell hc1 (by simp [go_sem])
    have e3 : w1.cell? ⟨w.heap.size, 3, none⟩ = some (.int .i64 x.vb) := keep_cell hc1 (by simp [go_sem])
    have e4 : w1.cell? ⟨w.heap.size, 4, none⟩ = some (.int .i64 x.st) := keep_cell hc1 (by simp [go_sem])
    have e5 : w1.cell? ⟨w.heap.size, 5, none⟩ = some (.int .i64 x.cmd.kd) := keep_cell hc1 (by simp [go_sem])
    have e6 : w1.cell? ⟨w.heap.size, 6, none⟩ = some (.int .i64 x.cmd.cl) := keep_cell hc1 (by simp [go_sem])
    have e7 : w1.cell? ⟨w.heap.size, 7, none⟩ = some (.int .i64 x.cmd.no) := keep_cell hc1 (by simp [go_sem])
    have e8 : w1.cell? ⟨w.heap.size, 8, none⟩ = some (.string x.cmd.s) := keep_cell hc1 (by simp [go_sem])
    have e9 : w1.cell? ⟨w.heap.size, 9, none⟩ = some (.string x.cmd.nm) := keep_cell hc1 (by simp [go_sem])
    have e10 : w1.cell? ⟨w.heap.size, 10, none⟩ = some (.string x.cmd.tg) := keep_cell hc1 (by simp [go_sem])
    have e11 : w1.cell? ⟨w.heap.size, 11, none⟩ = some (.int .i64 x.cmd.n) := keep_cell hc1 (by simp [go_sem])
    have e12 : w1.cell? ⟨w.heap.size, 12, none⟩ = some (.slice A1 n1 c1) := keep_cell hc1 (by simp [go_sem])
    have e13 : w1.cell? ⟨w.heap.size, 13, none⟩ = some (.int .i64 x.seq) := keep_cell hc1 (by simp [go_sem])
    have e14 : w1.cell? ⟨w.heap.size, 14, none⟩ = some (.slice A2 n2 c2) := keep_cell hc1 (by simp [go_sem])
    have e15 : w1.cell? ⟨w.heap.size, 15, none⟩ = some (.bool x.same) := keep_cell hc1 (by simp [go_sem])
    have v0 := varS_size (x.id.r.toNat)
    have v1 := varS_size (x.id.s.toNat)
    have v2 := varS_size ((x.bal + 1).toNat)
    have v3 := varS_size ((x.vb + 1).toNat)
    have v4 := varS_size (x.st.toNat)
    have v5 := varS_size (x.seq.toNat)
    have v6 := varS_size ((cmText x.cmd).size)
    have v7 := varS_size (n2)
    have hn2 : n2 ≤ 18 := by have := HN.out; omega
    go_wp2_with fail
    have al1 := (Below.refl w1.heap.size w1).alloc (Nat.le_refl _) (.cells #[.int .i64 x.id.r, .int .i64 x.id.s, .int .i64 (x.bal + 1), .int .i64 (x.vb + 1), .int .i64 x.st, .int .i64 x.seq] 3)
    obtain ⟨W, hW⟩ : ∃ W, W = w1.alloc (.cells #[.int .i64 x.id.r, .int .i64 x.id.s, .int .i64 (x.bal + 1), .int .i64 (x.vb + 1), .int .i64 x.st, .int .i64 x.seq] 3) := ⟨_, rfl⟩
    obtain ⟨L, hL⟩ : ∃ L, L = [x.id.r, x.id.s, x.bal + 1, x.vb + 1, x.st, x.seq] := ⟨_, rfl⟩
    have HC := Lib.hid (show ∀ k, k < 6 → W.cell? ⟨w1.heap.size, k, none⟩ = some (.int .i64 (L.getD k 0)) from fun k hk => by
      rw [hW, hL]
      rcases (show k = 0 ∨ k = 1 ∨ k = 2 ∨ k = 3 ∨ k = 4 ∨ k = 5 by omega) with rfl | rfl | rfl | rfl | rfl | rfl <;> simp [go_sem])
    have HL := Lib.hid (show ∀ k, 0 ≤ L.getD k 0 ∧ L.getD k 0 ≤ 601 from fun k => by
      rw [hL]
      rcases (show k = 0 ∨ k = 1 ∨ k = 2 ∨ k = 3 ∨ k = 4 ∨ k = 5 ∨ 6 ≤ k by omega) with rfl | rfl | rfl | rfl | rfl | rfl | h6 <;> first | (simp; omega) | (rw [List.getD_eq_getElem?_getD, List.getElem?_eq_none (by simpa using h6)]; simp))
    have HH := Lib.hid (insHd_hd x)
    rw [← hL] at HH
    have hBW := bthen hB1 al1
    rw [← hW] at hBW al1 ⊢
    have e0' := keep_cell al1 e0; clear e0; have e0 := e0'; clear e0'
    have e1' := keep_cell al1 e1; clear e1; have e1 := e1'; clear e1'
    have e2' := keep_cell al1 e2; clear e2; have e2 := e2'; clear e2'
    have e3' := keep_cell al1 e3; clear e3; have e3 := e3'; clear e3'
    have e4' := keep_cell al1 e4; clear e4; have e4 := e4'; clear e4'
    have e5' := keep_cell al1 e5; clear e5; have e5 := e5'; clear e5'
    have e6' := keep_cell al1 e6; clear e6; have e6 := e6'; clear e6'
    have e7' := keep_cell al1 e7; clear e7; have e7 := e7'; clear e7'
    have e8' := keep_cell al1 e8; clear e8; have e8 := e8'; clear e8'
    have e9' := keep_cell al1 e9; clear e9; have e9 := e9'; clear e9'
    have e10' := keep_cell al1 e10; clear e10; have e10 := e10'; clear e10'
    have e11' := keep_cell al1 e11; clear e11; have e11 := e11'; clear e11'
    have e12' := keep_cell al1 e12; clear e12; have e12 := e12'; clear e12'
    have e13' := keep_cell al1 e13; clear e13; have e13 := e13'; clear e13'
    have e14' := keep_cell al1 e14; clear e14; have e14 := e14'; clear e14'
    have e15' := keep_cell al1 e15; clear e15; have e15 := e15'; clear e15'
    have hWs : w1.heap.size < W.heap.size := by rw [hW]; simp [go_sem]
    clear hW hL al1
    go_loopw [3, 30] (fun o i wr => ∃ k : Nat, k ≤ 6 ∧ i = .int .i64 k ∧ o = .string (hdTo L k) ∧ Below W.heap.size W wr) (fun _ i _ => 6 - (intOf i).toNat)
    case atStart => exact ⟨0, Nat.zero_le _, rfl, rfl, Below.refl _ _⟩
    case round =>
      obtain ⟨k, hk, rfl, rfl, hbr⟩ := hrel
      have hts := hdTo_size HL.out k
      by_cases hlt : k < 6
      · have HS := Lib.hid (show hdTo L (k + 1) = hdTo L k ++ varS (L.getD k 0).toNat from rfl)
        obtain ⟨z, hz⟩ : ∃ z, L.getD k 0 = z := ⟨_, rfl⟩
        have hzb := HL.out k
        have ck := keep_cell hbr (HC.out k hlt)
        rw [hz] at hzb ck HS
        clear hz
        have hvz := varS_size z.toNat
        go_wp2_with fail
        refine (var_implZ z _ (by omega) (by omega)).mono ?_
        rintro e w9 ⟨rfl, hb9⟩
        go_wp2
        exact ⟨⟨k + 1, by omega, by go_num, by rw [HS.out], bthen hbr hb9⟩, by simp [intOf]; omega⟩
      · obtain rfl : k = 6 := by omega
        have f4 := keep_cell hbr e4
        have f5 := keep_cell hbr e5
        have f6 := keep_cell hbr e6
        have f7 := keep_cell hbr e7
        have f8 := keep_cell hbr e8
        have f9 := keep_cell hbr e9
        have f10 := keep_cell hbr e10
        have f11 := keep_cell hbr e11
        have f12 := keep_cell hbr e12
        have f13 := keep_cell hbr e13
        have f14 := keep_cell hbr e14
        have f15 := keep_cell hbr e15
        have hBr := bthen hBW hbr
        have hzr := hbr.size
        have hgr : w.heap.size < wr.heap.size := by omega
        obtain ⟨b, hsm⟩ : ∃ b, x.same = b := ⟨_, rfl⟩
        rw [hsm] at f15 HH
        obtain ⟨t6, ht6⟩ : ∃ t, hdTo L 6 = t := ⟨_, rfl⟩
        rw [ht6] at hts HH ⊢
        clear ht6 hsm
        have u3 := sameT_size b
        obtain ⟨wd, hwd⟩ : ∃ W, W = wr := ⟨_, rfl⟩
        rw [← hwd] at hBr hgr f5 f6 f7 f8 f9 f10 f11 f12 f14 f15 ⊢
        clear hbr hwd hzr f4 f13 e0 e1 e2 e3 e4 e5 e6 e7 e8 e9 e10 e11 e12 e13 e14 e15
        cases b
        · rw [show sameT false = ⟨#[0]⟩ from rfl] at u3 HH
          go_wp2
          refine wp_region_grow (by kernel_rfl) (by kernel_rfl) ?_
          repeat (first | go_big_quiet_step (first | (go_at_call 78; exact grow_of (showCmd_impl x.cmd _ _ _ _ ((h1.keep hBr).keep (Grow.below _)) hb1)) | (go_at_call 77; exact grow_of (sized_impl _ _ (by omega))) | (go_at_call 76; exact grow_of (var_impl _ _ (by omega)))))
          refine wpQuiet_nil ?_
          intro _ hw'
          obtain ⟨⟨w4, hb4⟩, hw''⟩ := hw'
          change _ = w4 at hw''
          subst hw''
          rename_i w4
          have hB4 := bthen hBr hb4
          have e14 := keep_cell hb4 f14
          have hz4 := hb4.size
          have HH0 := Lib.hid HH.out
          rw [← HN.out] at HH0
          have hg4 : w.heap.size < w4.heap.size := by omega
          go_wp2
          have hBw := hB4.size
          have hgw : w.heap.size < w4.heap.size := by omega
          go_loopw [3, 57] (fun o i wr => ∃ k : Nat, k ≤ n2 ∧ i = .int .i64 k ∧ o = .string (insTo x k) ∧ Below w4.heap.size w4 wr) (fun _ i _ => n2 - (intOf i).toNat)
          case atStart => exact ⟨0, Nat.zero_le _, rfl, by rw [HH0.out], by first | exact Below.refl _ _ | exact (Below.refl _ _).drew⟩
          case round =>
            obtain ⟨k, hk, rfl, rfl, hbr⟩ := hrel
            have HS := Lib.hid (show insTo x (k + 1) = insTo x k ++ varS (iddAt x.deps k).r.toNat ++ varS (iddAt x.deps k).s.toNat from rfl)
            have ht := HTS.out k (by have := HN.out; omega)
            have hz9 := hbr.size
            by_cases hlt : k < n2
            · obtain ⟨d1, d2, d3⟩ := A9.out k (by have := HN.out; omega)
              have h2r := (h2.keep iddK hB4).keep iddK hbr
              obtain ⟨b, off, rfl⟩ := h2r.head (by omega)
              obtain ⟨bl, y, cs, hy, hR, hcell⟩ := h2r.elem_at hlt
              obtain ⟨y0, y1⟩ := iddR_cells hR hcell
              have hax : iddAt x.deps k = y := iddAt_of hy
              rw [hax] at HS d1 d2 d3
              clear hcell hR hy h2r hax
              have u1 := varS_size y.r.toNat
              have u2 := varS_size y.s.toNat
              have al := (Below.refl wr.heap.size wr).alloc (Nat.le_refl _) (.cells #[.int .i64 y.r, .int .i64 y.s] 46)
              go_wp2_with fail
              obtain ⟨W, hW⟩ : ∃ W, W = wr.alloc (.cells #[.int .i64 y.r, .int .i64 y.s] 46) := ⟨_, rfl⟩
              obtain ⟨g, hg⟩ : ∃ g, wr.heap.size = g := ⟨_, rfl⟩
              have z0 : W.cell? ⟨g, 0, none⟩ = some (.int .i64 y.r) := by rw [hW, ← hg]; simp [go_sem]
              have z1 : W.cell? ⟨g, 1, none⟩ = some (.int .i64 y.s) := by rw [hW, ← hg]; simp [go_sem]
              have hbW := bthen hbr al
              rw [← hW] at hbW ⊢
              have hgW := cell_lt z0
              rw [hg] at ⊢
              clear hW al y0 y1
              refine wp_region_grow (by kernel_rfl) (by kernel_rfl) ?_
              repeat (first | go_big_quiet_step ((go_at_call 76; exact grow_of (var_implZ _ _ (by omega) (by omega)))))
              refine wpQuiet_nil ?_
              intro _ hw'
              obtain ⟨⟨w5, hb5⟩, hw''⟩ := hw'
              change _ = w5 at hw''
              subst hw''
              go_wp2
              exact ⟨⟨k + 1, by omega, by go_num, by rw [HS.out], bthen hbW hb5⟩, by simp [intOf]; omega⟩
            · go_wp2
              go_returns
              have hkn : k = x.deps.length := by have := HN.out; omega
              exact ⟨by rw [hkn]; rfl, bthen hB4 hbr⟩
        · rw [show sameT true = ⟨#[1]⟩ from rfl] at u3 HH
          go_wp2
          refine wp_region_grow (by kernel_rfl) (by kernel_rfl) ?_
          repeat (first | go_big_quiet_step (first | (go_at_call 78; exact grow_of (showCmd_impl x.cmd _ _ _ _ ((h1.keep hBr).keep (Grow.below _)) hb1)) | (go_at_call 77; exact grow_of (sized_impl _ _ (by omega))) | (go_at_call 76; exact grow_of (var_impl _ _ (by omega)))))
          refine wpQuiet_nil ?_
          intro _ hw'
          obtain ⟨⟨w4, hb4⟩, hw''⟩ := hw'
          change _ = w4 at hw''
          subst hw''
          rename_i w4
          have hB4 := bthen hBr hb4
          have e14 := keep_cell hb4 f14
          have hz4 := hb4.size
          have HH0 := Lib.hid HH.out
          rw [← HN.out] at HH0
          have hg4 : w.heap.size < w4.heap.size := by omega
          go_wp2
          have hBw := hB4.size
          have hgw : w.heap.size < w4.heap.size := by omega
          go_loopw [3, 57] (fun o i wr => ∃ k : Nat, k ≤ n2 ∧ i = .int .i64 k ∧ o = .string (insTo x k) ∧ Below w4.heap.size w4 wr) (fun _ i _ => n2 - (intOf i).toNat)
          case atStart => exact ⟨0, Nat.zero_le _, rfl, by rw [HH0.out], by first | exact Below.refl _ _ | exact (Below.refl _ _).drew⟩
          case round =>
            obtain ⟨k, hk, rfl, rfl, hbr⟩ := hrel
            have HS := Lib.hid (show insTo x (k + 1) = insTo x k ++ varS (iddAt x.deps k).r.toNat ++ varS (iddAt x.deps k).s.toNat from rfl)
            have ht := HTS.out k (by have := HN.out; omega)
            have hz9 := hbr.size
            by_cases hlt : k < n2
            · obtain ⟨d1, d2, d3⟩ := A9.out k (by have := HN.out; omega)
              have h2r := (h2.keep iddK hB4).keep iddK hbr
              obtain ⟨b, off, rfl⟩ := h2r.head (by omega)
              obtain ⟨bl, y, cs, hy, hR, hcell⟩ := h2r.elem_at hlt
              obtain ⟨y0, y1⟩ := iddR_cells hR hcell
              have hax : iddAt x.deps k = y := iddAt_of hy
              rw [hax] at HS d1 d2 d3
              clear hcell hR hy h2r hax
              have u1 := varS_size y.r.toNat
              have u2 := varS_size y.s.toNat
              have al := (Below.refl wr.heap.size wr).alloc (Nat.le_refl _) (.cells #[.int .i64 y.r, .int .i64 y.s] 46)
              go_wp2_with fail
              obtain ⟨W, hW⟩ : ∃ W, W = wr.alloc (.cells #[.int .i64 y.r, .int .i64 y.s] 46) := ⟨_, rfl⟩
              obtain ⟨g, hg⟩ : ∃ g, wr.heap.size = g := ⟨_, rfl⟩
              have z0 : W.cell? ⟨g, 0, none⟩ = some (.int .i64 y.r) := by rw [hW, ← hg]; simp [go_sem]
              have z1 : W.cell? ⟨g, 1, none⟩ = some (.int .i64 y.s) := by rw [hW, ← hg]; simp [go_sem]
              have hbW := bthen hbr al
              rw [← hW] at hbW ⊢
              have hgW := cell_lt z0
              rw [hg] at ⊢
              clear hW al y0 y1
              refine wp_region_grow (by kernel_rfl) (by kernel_rfl) ?_
              repeat (first | go_big_quiet_step ((go_at_call 76; exact grow_of (var_implZ _ _ (by omega) (by omega)))))
              refine wpQuiet_nil ?_
              intro _ hw'
              obtain ⟨⟨w5, hb5⟩, hw''⟩ := hw'
              change _ = w5 at hw''
              subst hw''
              go_wp2
              exact ⟨⟨k + 1, by omega, by go_num, by rw [HS.out], bthen hbW hb5⟩, by simp [intOf]; omega⟩
            · go_wp2
              go_returns
              have hkn : k = x.deps.length := by have := HN.out; omega
              exact ⟨by rw [hkn]; rfl, bthen hB4 hbr⟩
end Go.Proofs.Ytdphdnllhmnelaa
/- A block of cells of the call's own: all of its cells, none frozen. -/
namespace Go.Proofs.Ytdphdnllhmnelaa
open Go.RowKit

structure BoxL (w : World) (h : Nat) (cs : List Value) : Prop where
  cell : ∀ j u, cs[j]? = some u → w.cell? ⟨h, j, none⟩ = some u
  fz : ∀ j, j < cs.length → w.frozen? ⟨h, j, none⟩ = false
  lt : h < w.heap.size
theorem ne_blk {g h : Nat} (hn : h ≠ g) : ¬ (fun k => k = g) h := hn
theorem BoxL.ch {S : Nat → Prop} {w w' : World} {h : Nat} {cs : List Value} (k : BoxL w h cs) (hc : Ch S w w') (hS : ¬ S h) : BoxL w' h cs :=
  ⟨fun j u hu => hc.cell (k.cell j u hu) hS, fun j hj => (World.frozen?_of_block (hc.block h k.lt hS)).trans (k.fz j hj), Nat.lt_of_lt_of_le k.lt hc.size⟩
theorem BoxL.keep {w w' : World} {h : Nat} {cs : List Value} (k : BoxL w h cs) (hb : Below w.heap.size w w') : BoxL w' h cs := k.ch (S := fun _ => False) (Ch.of_below hb) (fun h => h)
theorem Ch.set {w : World} {g o : Nat} {v : Value} : Ch (fun k => k = g) w (w.setCell ⟨g, o, none⟩ v) := (Ch.refl (S := fun k => k = g) w).setCell (p := ⟨g, o, none⟩) rfl v
theorem BoxL.set {w : World} {h j : Nat} {cs : List Value} {v : Value} (k : BoxL w h cs) (hj : j < cs.length) : BoxL (w.setCell ⟨h, j, none⟩ v) h (cs.set j v) := by
  refine ⟨fun i u hu => ?_, fun i hi => ?_, Nat.lt_of_lt_of_le k.lt (Ch.set (g := h) (o := j) (v := v)).size⟩
  · rw [List.getElem?_set] at hu
    by_cases e : j = i
    · subst e
      rw [if_pos rfl, if_pos hj] at hu
      obtain rfl := Option.some.inj hu
      exact sethere (k.cell j _ (List.getElem?_eq_getElem hj))
    · rw [if_neg e] at hu
      exact setoff (k.cell i u hu) (.inr e)
  · rw [List.length_set] at hi
    exact (World.frozen?_setCell _ _ _ _).trans (k.fz i hi)
theorem BoxL.new (w : World) (cs : List Value) (t : TypeId) : BoxL (w.alloc (.cells cs.toArray t)) w.heap.size cs :=
  ⟨fun j u hu => by rw [World.cell?_alloc_at cs.toArray t _ _ rfl]; simpa using hu, fun j _ => World.frozen?_alloc_at cs.toArray t _ _ rfl, by simp [go_sem]⟩
theorem setsW_fz {g : Nat} {p : Addr} : ∀ (vs : List Value) (o : Nat) (w : World), (setsW w g o vs).frozen? p = w.frozen? p
  | [], _, _ => rfl
  | v :: vs, o, w => (setsW_fz vs (o + 1) _).trans (World.frozen?_setCell _ _ _ _)
theorem BoxL.sets {w : World} {h : Nat} {cs vs : List Value} (k : BoxL w h cs) (hl : vs.length = cs.length) : BoxL (setsW w h 0 vs) h vs :=
  ⟨fun j u hu => by
    have := setsW_cell (g := h) vs 0 w (fun j hj => ⟨_, by rw [Nat.zero_add]; exact k.cell j _ (List.getElem?_eq_getElem (by omega))⟩) j u hu
    rwa [Nat.zero_add] at this, fun j hj => (setsW_fz vs 0 w).trans (k.fz j (by omega)), Nat.lt_of_lt_of_le k.lt (ch_setsW vs 0 w).size⟩
theorem BoxL.range {w : World} {h : Nat} {cs : List Value} (k : BoxL w h cs) : w.rangeAt h 0 cs := fun j v hv => by rw [Nat.zero_add]; exact k.cell j v hv
theorem BoxL.there {w : World} {h : Nat} {cs : List Value} (k : BoxL w h cs) {n : Nat} (hn : n = cs.length) : w.there h 0 n := fun j hj => by
  rw [Nat.zero_add]
  exact ⟨by rw [k.cell j _ (List.getElem?_eq_getElem (by omega))]; rfl, k.fz j (by omega)⟩
theorem ch_setCells {g : Nat} : ∀ (vs : List Value) (o : Nat) (w : World), Ch (fun b => b = g) w (w.setCells g o vs)
  | [], _, w => Ch.refl w
  | v :: vs, o, w => (Ch.set (g := g) (o := o) (v := v)).trans (ch_setCells vs (o + 1) _)
theorem BoxL.setCells {w : World} {h : Nat} {cs vs : List Value} (k : BoxL w h cs) (hl : vs.length = cs.length) : BoxL (w.setCells h 0 vs) h vs :=
  ⟨fun j u hu => by
    have hj : j < vs.length := (List.getElem?_eq_some_iff.1 hu).1
    have := World.cell?_setCells_in h vs 0 w (fun i hi => (k.there rfl i (by omega)).1) j hj
    rw [Nat.zero_add] at this
    rw [this, ← hu, List.getElem?_eq_getElem hj], fun j hj => (World.frozen?_setCells _ _ _ _ _).trans (k.fz j (by omega)), Nat.lt_of_lt_of_le k.lt (ch_setCells vs 0 w).size⟩
theorem BoxL.below {B : Nat} {w w' : World} {h : Nat} {cs : List Value} (k : BoxL w h cs) (hb : Below B w w') (hB : h < B) : BoxL w' h cs :=
  ⟨fun j u hu => (hb.cell (p := ⟨h, j, none⟩) hB).trans (k.cell j u hu), fun j hj => (hb.frozen (p := ⟨h, j, none⟩) hB).trans (k.fz j hj), Nat.lt_of_lt_of_le k.lt hb.size⟩
/-- a struct is read whole from its block, behind a guard or not -/
theorem wpList_load_g {P : Program} {ops : Array Oper} {rest : List Oper} {op : Oper} {a : Act} {w : World} {Q : Exit → Act → World → Prop} (hw : Region.wanted op (yielded ops a.tmps) = true) (ty : TypeId) (x : Operand) (ho : op.op = .load ty x)
    (b o : Nat) (hx : a.eval x = .pointer (some ⟨b, o, none⟩)) (cs : List Value) (d : TypeDesc) (hc : w.rangeAt b o cs)
    (hu : P.underlying ty = some d) (hd : d.isRow = true) (hi : (P.info? ty).map (·.size) = some cs.length)
    (h : wpList P ops Q rest (a.put op.dst (.agg cs.toArray)) w) : wpList P ops Q (op :: rest) a w :=
  wpList_step fun _ hK => by rw [if_pos hw]; exact wp_load_mid ty x ho b o hx cs d hc hu hd hi (hK _ _ h)
/-- a struct that lies in a block of its own and a second result are handed back -/
theorem results_cell_tmp {P : Program} {fn : Func} {c u : Tmp} {ty : TypeId} (h : fn.results = #[.cell c ty, .tmp u]) {tmps : Array Value} {w : World} {b : Nat} {cs : List Value} {d : TypeDesc} (hp : tmps.getD c undef = .pointer (some ⟨b, 0, none⟩))
    (hc : w.rangeAt b 0 cs) (hu : P.underlying ty = some d) (hd : d.isRow = true) (hi : (P.info? ty).map (·.size) = some cs.length) : (results fn tmps).run P w = .ok (.tuple #[.agg cs.toArray, tmps.getD u undef]) w := by
  have hl := run_loadVar_mid (P := P) w b 0 ty cs d hc hu hd hi
  have hp' : tmps[c]?.getD undef = .pointer (some ⟨b, 0, none⟩) := by simpa using hp
  simp [results, h, hp', asAddr, Sem.run_bind, hl]
/-- what lies in blocks from B on is changed: nothing below is -/
theorem Ch.belowB {S : Nat → Prop} {B : Nat} {w0 w w' : World} (hc : Ch S w w') (hb : Below B w0 w) (hB : B ≤ w.heap.size) (hS : ∀ k, S k → B ≤ k) : Below B w0 w' := hb.trans (hc.below hS hB)
end Go.Proofs.Ytdphdnllhmnelaa
/- What grew by an append. -/
namespace Go.Proofs.Ytdphdnllhmnelaa
open Go.RowKit
theorem Ch.of_grow {w w' : World} {o : Option Nat} (h : w.grownBy w' o) : Ch (fun k => o = some k) w w' := ⟨h.os, h.tape, h.output, h.size, fun k hk hn => h.block k hk (fun e => hn e.symm)⟩
end Go.Proofs.Ytdphdnllhmnelaa
/- Rows that are owned: appending an element, changing an element. -/
namespace Go.Proofs.Ytdphdnllhmnelaa
open Go.RowKit
/-- the walk stands still here -/
def Stop (p : Prop) : Prop := p
theorem stop_of {p : Prop} (h : Stop p) : p := h
theorem IntO.mk' {w : World} {A : Option Addr} {n c : Nat} {l : List Int} (h : w.ownsRow 0 3 1 (.slice A n c) n (l.map (Value.int .i64))) : IntO (blkL A) w A n c l := ⟨rfl, h⟩
theorem IntO.own {fp : List Nat} {w : World} {A : Option Addr} {n c : Nat} {l : List Int} (h : IntO fp w A n c l) : fp = blkL A ∧ w.ownsRow 0 3 1 (.slice A n c) n (l.map (Value.int .i64)) := h
theorem IntR.at_r {w : World} {A : Option Addr} {n c : Nat} {l : List Int} (h : IntR w A n c l) : IntsAt w A n l := h.1
theorem StrO.mk' {w : World} {A : Option Addr} {n c : Nat} {l : List ByteArray} (h : w.ownsRow 0 9 1 (.slice A n c) n (l.map Value.string)) : StrO (blkL A) w A n c l := ⟨rfl, h⟩
theorem StrO.own {fp : List Nat} {w : World} {A : Option Addr} {n c : Nat} {l : List ByteArray} (h : StrO fp w A n c l) : fp = blkL A ∧ w.ownsRow 0 9 1 (.slice A n c) n (l.map Value.string) := h
section
variable {α : Type} {R : World → List Value → α → Prop} {F : List Nat → World → List Value → α → Prop} {e sz n c c' m : Nat} {w w' : World} {fps : List (List Nat)} {css : List (List Value)} {A A' : Option Addr} {l : List α} {cs : List Value} {f : List Nat} {x : α}
/-- one element more behind an append -/
theorem app_els (K : KindOk R F sz) (hE : Els F w css fps l) (hx : F f w cs x) (hN : (blkL A ++ (fps ++ [f]).flatten).Nodup) (hg : w.grownBy w' (Value.slice A n c).ownBlock)
    (hob : (Value.slice A' (n + 1) c').ownBlock = (Value.slice A n c).ownBlock ∨ (Value.slice A' (n + 1) c').ownBlock = some m) (hm : w.heap.size ≤ m) :
    Els F w' (css ++ [cs]) (fps ++ [f]) (l ++ [x]) ∧ (blkL A' ++ (fps ++ [f]).flatten).Nodup ∧ ∀ b ∈ blkL A', b ∈ blkL A ∨ b = m := by
  have hE2 := hE.app (Els.one hx)
  have hN2 := List.nodup_append.1 hN
  have hblk : ∀ b ∈ blkL A', b ∈ blkL A ∨ b = m := fun b hb => by
    have h1 := blk_own (n := n + 1) (c := c') (mem_blkL.1 hb)
    rcases hob with h2 | h2
    · exact .inl (mem_blkL.2 (blk_of (h2.symm.trans h1)))
    · exact .inr (Option.some.inj (h1.symm.trans h2))
  refine ⟨hE2.ch K (Ch.of_grow hg) (fun b hb e => hN2.2.2 b (mem_blkL.2 (blk_of e)) b hb rfl), ?_, hblk⟩
  refine List.nodup_append.2 ⟨by cases A' <;> simp [blkL], hN2.2.1, fun a ha b hb e => ?_⟩
  subst e
  rcases hblk a ha with h1 | h1
  · exact hN2.2.2 a h1 a hb rfl
  · have := hE2.lt K a hb; omega
/-- an element and what it leads to are changed -/
theorem upd_els {c1 c2 : List (List Value)} {f1 f2 : List (List Nat)} {l1 l2 : List α} {g : Nat} {cs' : List Value} {f' : List Nat} {x' : α} {w7 w8 : World} (K : KindOk R F sz)
    (ho : w.ownsRow 0 e sz (.slice (some ⟨g, 0, none⟩) n c) n (c1.flatten ++ (cs ++ c2.flatten))) (hE1 : Els F w c1 f1 l1) (hE2 : Els F w c2 f2 l2) (hcs : cs.length = sz) (hn : n = l1.length + 1 + l2.length)
    (hN : (g :: (f1.flatten ++ (f ++ f2.flatten))).Nodup) (hC : Ch (fun b => b ∈ f) w w7) (hx : F f' w7 cs' x') (hf' : ∀ b ∈ f', b ∈ f ∨ w.heap.size ≤ b) (hf'N : f'.Nodup) (hw8 : w8 = setsW w7 g (l1.length * sz) cs') :
    RowO F e sz (blkL (some ⟨g, 0, none⟩) ++ (f1 ++ f' :: f2).flatten) w8 (some ⟨g, 0, none⟩) n c (l1 ++ x' :: l2) ∧ (g :: (f1.flatten ++ (f' ++ f2.flatten))).Nodup ∧ Ch (fun b => b = g ∨ b ∈ f) w w8 := by
  have hgw : g < w.heap.size := (own_lo ho g (by simp [blkL])).2
  have lt1 := hE1.lt K
  have lt2 := hE2.lt K
  simp only [List.nodup_cons, List.nodup_append, List.mem_append, not_or] at hN
  have hgf : ¬ g ∈ f := by grind
  have d1 : ∀ b ∈ f1.flatten, ¬ b ∈ f := fun b h1 h2 => by grind
  have d2 : ∀ b ∈ f2.flatten, ¬ b ∈ f := fun b h1 h2 => by grind
  have e1 : ∀ b ∈ f1.flatten, ¬ b = g := fun b h1 h2 => by subst h2; grind
  have e2 : ∀ b ∈ f2.flatten, ¬ b = g := fun b h1 h2 => by subst h2; grind
  have e3 : ∀ b ∈ f', ¬ b = g := fun b h1 h2 => by
    subst h2
    rcases hf' b h1 with h | h
    · exact hgf h
    · omega
  have hC8 : Ch (fun b => b = g) w7 w8 := by rw [hw8]; exact ch_setsW _ _ _
  have o7 := own_ch ho hC (fun b hb h2 => hgf (by
    have : b = g := by simpa [Value.ownBlock, eq_comm] using hb
    rw [← this]; exact h2))
  have o8 := own_setsW cs' (l1.length * sz) w7 _ o7
  rw [setsL_at (hE1.flat K) (by rw [hcs, K.rlen (K.fr hx)]), ← hw8] at o8
  have E1 := (hE1.ch K hC d1).ch K hC8 e1
  have E2 := (hE2.ch K hC d2).ch K hC8 e2
  have X := K.fch hx hC8 e3
  refine ⟨RowO.intro (css := c1 ++ cs' :: c2) (by simpa using o8) (by simp; omega) (E1.app ⟨X, E2⟩), ?_, (hC.mono (fun b hb => .inr hb)).trans (hC8.mono (fun b hb => .inl hb))⟩
  simp only [List.nodup_cons, List.nodup_append, List.mem_append, not_or]
  refine ⟨⟨by grind, fun h => e3 g h rfl, by grind⟩, by grind, ⟨hf'N, by grind, fun a ha b hb hab => ?_⟩, fun a ha b hb hab => ?_⟩
  · subst hab
    rcases hf' a ha with h | h
    · exact d2 a hb h
    · have := lt2 a hb; omega
  · subst hab
    rcases hb with hb | hb
    · rcases hf' a hb with h | h
      · exact d1 a ha h
      · have := lt1 a ha; omega
    · grind
end
end Go.Proofs.Ytdphdnllhmnelaa
