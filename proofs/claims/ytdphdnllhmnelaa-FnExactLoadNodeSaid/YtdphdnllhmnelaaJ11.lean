/- Contracts and lemmas: InstsOk, Leads, LeadAt. -/
import Derived.Test.YtdphdnllhmnelaaJ10
import Derived.Test.YtdphdnllhmnelaaJ8
import Derived.Test.YtdphdnllhmnelaaJ4
/- Right rows of instances, both sides. -/
namespace Go.Proofs.Ytdphdnllhmnelaa
open Go.RowKit
attribute [local go_sem] Grow.cell Grow.frozen
/-- right instances whose ids rise -/
def inssOkB (l : List Ins) : Bool := (List.range l.length).all (fun j => insOkB (insAt l j) && (j == 0 || iddLess (insAt l (j - 1)).id (insAt l j).id))
theorem inssOk_yes {l : List Ins} (h : ∀ j, j < l.length → insOkB (insAt l j) = true ∧ (j = 0 ∨ iddLess (insAt l (j - 1)).id (insAt l j).id = true)) : inssOkB l = true := by
  unfold inssOkB; rw [List.all_eq_true]
  intro j hj
  obtain ⟨h1, h2⟩ := h j (List.mem_range.1 hj)
  rw [h1]
  rcases h2 with h2 | h2 <;> simp [h2]
theorem inssOk_no {l : List Ins} {j : Nat} (hj : j < l.length) (h : insOkB (insAt l j) = false ∨ (0 < j ∧ iddLess (insAt l (j - 1)).id (insAt l j).id = false)) : inssOkB l = false := by
  unfold inssOkB; rw [List.all_eq_false]
  refine ⟨j, List.mem_range.2 hj, ?_⟩
  rcases h with h | ⟨h1, h⟩
  · simp [h]
  · have : ¬ j = 0 := by omega
    simp [h, this]
theorem inssOk_at {l : List Ins} (h : inssOkB l = true) {j : Nat} (hj : j < l.length) : insOkB (insAt l j) = true ∧ (j = 0 ∨ iddLess (insAt l (j - 1)).id (insAt l j).id = true) := by
  unfold inssOkB at h
  rw [List.all_eq_true] at h
  have := h j (List.mem_range.2 hj)
  simpa [Bool.and_eq_true, Bool.or_eq_true] using this
theorem sizeInst0 : (Try.prog.info? 50).map (·.size) = some 16 := by kernel_rfl
attribute [local irreducible] RowR StrR insOkB iddLess cmpI inssOkB
set_option maxRecDepth 8000 in
set_option maxHeartbeats 4000000 in
theorem instsOk_impl (l : List Ins) (A : Option Addr) (n c : Nat) (w : World) (h : RowR insR 16 w A n c l) (hb : inssB l) :
    Calls Try.prog 143 #[.slice A n c] w fun e w' => e = .returned (.bool (inssOkB l)) ∧ Below w.heap.size w w' := by
  have HL := Lib.hid h.len.symm
  have hn : n ≤ 9223372036854775807 := by have := h.len; have := hb.1; omega
  go_enter Try.func143, Try.ntmps143
  go_wp2_with fail
  go_loopw [7] (fun i wr => ∃ (k : Nat), k ≤ n ∧ i = .int .i64 k ∧ (∀ j : Nat, j < k → insOkB (insAt l j) = true ∧ (j = 0 ∨ iddLess (insAt l (j - 1)).id (insAt l j).id = true)) ∧ Below w.heap.size w wr) (fun i _ => n - (intOf i).toNat)
  case atStart => exact ⟨0, Nat.zero_le _, rfl, fun j h => absurd h (by omega), Below.refl _ _⟩
  case round =>
    obtain ⟨k, hk, rfl, hcl, hbr⟩ := hrel
    have HCL := Lib.hid hcl; clear hcl
    by_cases hlt : k < n
    · obtain ⟨b, off, rfl⟩ := h.head (by omega)
      obtain ⟨bl, x, cs, hx, ⟨A1, n1, c1, A2, n2, c2, rfl, hx1, hx2⟩, hcell⟩ := h.elem_at hlt
      have hbx := bounds_el hb.2 hx
      have hcr : wr.rangeAt b (off + k * 16) [.int .i64 x.id.r, .int .i64 x.id.s, .int .i64 x.bal, .int .i64 x.vb, .int .i64 x.st, .int .i64 x.cmd.kd, .int .i64 x.cmd.cl, .int .i64 x.cmd.no, .string x.cmd.s, .string x.cmd.nm, .string x.cmd.tg, .int .i64 x.cmd.n, .slice A1 n1 c1, .int .i64 x.seq, .slice A2 n2 c2, .bool x.same] := fun j v hv => (hbr.cell (p := ⟨b, off + k * 16 + j, none⟩) bl).trans (hcell j v hv)
      have hax : insAt l k = x := insAt_of hx
      have HAX := Lib.hid hax; clear hax
      have hbs : b < wr.heap.size := Nat.lt_of_lt_of_le bl hbr.size
      clear hcell
      have al := (Below.refl wr.heap.size wr).alloc (Nat.le_refl _) (.cells #[.int .i64 x.id.r, .int .i64 x.id.s, .int .i64 x.bal, .int .i64 x.vb, .int .i64 x.st, .int .i64 x.cmd.kd, .int .i64 x.cmd.cl, .int .i64 x.cmd.no, .string x.cmd.s, .string x.cmd.nm, .string x.cmd.tg, .int .i64 x.cmd.n, .slice A1 n1 c1, .int .i64 x.seq, .slice A2 n2 c2, .bool x.same] 50)
      repeat (first | ((with_reducible refine wpList_load_o 50 (.tmp 10) b (off + k * 16) [.int .i64 x.id.r, .int .i64 x.id.s, .int .i64 x.bal, .int .i64 x.vb, .int .i64 x.st, .int .i64 x.cmd.kd, .int .i64 x.cmd.cl, .int .i64 x.cmd.no, .string x.cmd.s, .string x.cmd.nm, .string x.cmd.tg, .int .i64 x.cmd.n, .slice A1 n1 c1, .int .i64 x.seq, .slice A2 n2 c2, .bool x.same] _ hcr Try.underlying50 sizeInst0 ?_ ?_ ?_ ?_ ?_ ?_); (rfl); (rfl); (rfl); (rfl); (rfl)) | go_values | go_skip | go_guarded | go_step | go_upon | (simp only []; go_at_K))
      obtain ⟨W, hW⟩ : ∃ W, W = wr.alloc (.cells #[.int .i64 x.id.r, .int .i64 x.id.s, .int .i64 x.bal, .int .i64 x.vb, .int .i64 x.st, .int .i64 x.cmd.kd, .int .i64 x.cmd.cl, .int .i64 x.cmd.no, .string x.cmd.s, .string x.cmd.nm, .string x.cmd.tg, .int .i64 x.cmd.n, .slice A1 n1 c1, .int .i64 x.seq, .slice A2 n2 c2, .bool x.same] 50) := ⟨_, rfl⟩
      obtain ⟨g, hg⟩ : ∃ g, wr.heap.size = g := ⟨_, rfl⟩
      have ZB : BoxL W g [.int .i64 x.id.r, .int .i64 x.id.s, .int .i64 x.bal, .int .i64 x.vb, .int .i64 x.st, .int .i64 x.cmd.kd, .int .i64 x.cmd.cl, .int .i64 x.cmd.no, .string x.cmd.s, .string x.cmd.nm, .string x.cmd.tg, .int .i64 x.cmd.n, .slice A1 n1 c1, .int .i64 x.seq, .slice A2 n2 c2, .bool x.same] := by rw [hW, ← hg]; exact BoxL.new wr _ _
      have hbW := bthen hbr al
      have hsW := al.size
      rw [← hW] at hbW hsW ⊢
      have hgW := ZB.lt
      have hZr := ZB.range
      have z0 := ZB.cell 0 _ rfl
      have z1 := ZB.cell 1 _ rfl
      have hbsW : b < W.heap.size := by omega
      rw [hg] at ⊢
      clear hW al ZB hcr
      have hx1' := hx1.keep hbW
      have hx2' := hx2.keep iddK hbW
      clear hx1 hx2
      obtain ⟨q1, hq1⟩ : ∃ q, insOkB x = q := ⟨_, rfl⟩
      have Q1 := Lib.hid hq1; clear hq1
      cases q1
      · have HB := Lib.hid (inssOk_no (l := l) (j := k) (by have := HL.out; omega) (.inl (by rw [HAX.out]; exact Q1.out)))
        refine wp_region_grow (by kernel_rfl) (by kernel_rfl) ?_
        repeat (first | ((with_reducible refine wpQuiet_load 50 (.tmp 4) (g) (0) [.int .i64 x.id.r, .int .i64 x.id.s, .int .i64 x.bal, .int .i64 x.vb, .int .i64 x.st, .int .i64 x.cmd.kd, .int .i64 x.cmd.cl, .int .i64 x.cmd.no, .string x.cmd.s, .string x.cmd.nm, .string x.cmd.tg, .int .i64 x.cmd.n, .slice A1 n1 c1, .int .i64 x.seq, .slice A2 n2 c2, .bool x.same] _ hgW hZr Try.underlying50 sizeInst0 ?_ ?_ ?_ ?_ ?_ ?_); (rfl); (rfl); (rfl); (rfl); (rfl); (simp only [Act.put, List.setIfInBounds_toArray, List.set_cons_succ, List.set_cons_zero])) | go_big_quiet_step ((go_at_call 75; exact grow_of (known Q1.out (instOk_impl x _ _ _ _ _ _ _ (hx1'.keep (Grow.below _)) (hx2'.keep iddK (Grow.below _)) hbx.1 hbx.2)))))
        refine wpQuiet_nil ?_
        intro _ hw'
        obtain ⟨⟨w4, hb4⟩, hw''⟩ := hw'
        change _ = w4 at hw''
        subst hw''
        go_wp2
        go_returns
        exact ⟨by rw [HB.out]; rfl, bthen hbW hb4⟩
      · by_cases hk0 : k = 0
        · have HK := Lib.hid (show ∀ j : Nat, j < k + 1 → insOkB (insAt l j) = true ∧ (j = 0 ∨ iddLess (insAt l (j - 1)).id (insAt l j).id = true) from fun j hj => by
            have hjk : j = k := by omega
            rw [hjk]
            exact ⟨by rw [HAX.out]; exact Q1.out, .inl hk0⟩)
          have gd0 : decide ((k : Int) > 0) = false := by rw [decide_eq_false_iff_not]; omega
          have gd00 : decide (0 < k) = false := by rw [decide_eq_false_iff_not]; omega
          have gd000 : ¬ 0 < k := by omega
          clear hk0
          refine wp_region_grow (by kernel_rfl) (by kernel_rfl) ?_
          repeat (first | ((with_reducible refine wpQuiet_load 50 (.tmp 4) (g) (0) [.int .i64 x.id.r, .int .i64 x.id.s, .int .i64 x.bal, .int .i64 x.vb, .int .i64 x.st, .int .i64 x.cmd.kd, .int .i64 x.cmd.cl, .int .i64 x.cmd.no, .string x.cmd.s, .string x.cmd.nm, .string x.cmd.tg, .int .i64 x.cmd.n, .slice A1 n1 c1, .int .i64 x.seq, .slice A2 n2 c2, .bool x.same] _ hgW hZr Try.underlying50 sizeInst0 ?_ ?_ ?_ ?_ ?_ ?_); (rfl); (rfl); (rfl); (rfl); (rfl); (simp only [Act.put, List.setIfInBounds_toArray, List.set_cons_succ, List.set_cons_zero])) | go_big_quiet_step ((go_at_call 75; exact grow_of (known Q1.out (instOk_impl x _ _ _ _ _ _ _ (hx1'.keep (Grow.below _)) (hx2'.keep iddK (Grow.below _)) hbx.1 hbx.2)))))
          refine wpQuiet_nil ?_
          intro _ hw'
          obtain ⟨⟨w4, hb4⟩, hw''⟩ := hw'
          change _ = w4 at hw''
          subst hw''
          go_wp2
          exact ⟨⟨k + 1, by omega, by go_num, HK.out, bthen hbW hb4⟩, by simp [intOf]; omega⟩
        · obtain ⟨k', rfl⟩ : ∃ k', k = k' + 1 := ⟨k - 1, by omega⟩
          clear hk0
          obtain ⟨_, y, cs', hy, ⟨B1, m1, d1, B2, m2, d2, rfl, _, _⟩, hcelly⟩ := h.elem_at (i := k') (by omega)
          have y0 := (hbW.cell (p := ⟨b, off + k' * 16, none⟩) bl).trans (show w.cell? ⟨b, off + k' * 16, none⟩ = some (.int .i64 y.id.r) from hcelly 0 _ rfl)
          have y1 := (hbW.cell (p := ⟨b, off + k' * 16 + 1, none⟩) bl).trans (show w.cell? ⟨b, off + k' * 16 + 1, none⟩ = some (.int .i64 y.id.s) from hcelly 1 _ rfl)
          have hay : insAt l k' = y := insAt_of hy
          have HAY := Lib.hid hay; clear hay
          clear hcelly hy hx
          have gd0 : decide (((k' + 1 : Nat) : Int) > 0) = true := by rw [decide_eq_true_eq]; omega
          have gd1 : (((k' + 1 : Nat) : Int)) - 1 = (k' : Int) := by omega
          obtain ⟨q2, hq2⟩ : ∃ q, iddLess y.id x.id = q := ⟨_, rfl⟩
          have hge := cmpI_ge y.id x.id
          rw [hq2] at hge
          have Q2 := Lib.hid hq2; clear hq2
          cases q2
          · have HB := Lib.hid (inssOk_no (l := l) (j := k' + 1) (by have := HL.out; omega) (.inr ⟨by omega, by rw [Nat.add_sub_cancel, HAX.out, HAY.out]; exact Q2.out⟩))
            simp only [Bool.not_false] at hge
            refine wp_region_grow (by kernel_rfl) (by kernel_rfl) ?_
            repeat (first | ((with_reducible refine wpQuiet_load 50 (.tmp 4) (g) (0) [.int .i64 x.id.r, .int .i64 x.id.s, .int .i64 x.bal, .int .i64 x.vb, .int .i64 x.st, .int .i64 x.cmd.kd, .int .i64 x.cmd.cl, .int .i64 x.cmd.no, .string x.cmd.s, .string x.cmd.nm, .string x.cmd.tg, .int .i64 x.cmd.n, .slice A1 n1 c1, .int .i64 x.seq, .slice A2 n2 c2, .bool x.same] _ hgW hZr Try.underlying50 sizeInst0 ?_ ?_ ?_ ?_ ?_ ?_); (rfl); (rfl); (rfl); (rfl); (rfl); (simp only [Act.put, List.setIfInBounds_toArray, List.set_cons_succ, List.set_cons_zero])) | go_big_quiet_step (first | (go_at_call 75; exact grow_of (known Q1.out (instOk_impl x _ _ _ _ _ _ _ (hx1'.keep (Grow.below _)) (hx2'.keep iddK (Grow.below _)) hbx.1 hbx.2))) | (go_at_call 163; exact grow_of (cmp_any y.id x.id _))))
            refine wpQuiet_nil ?_
            intro _ hw'
            obtain ⟨⟨w4, hb4⟩, hw''⟩ := hw'
            change _ = w4 at hw''
            subst hw''
            go_wp2
            go_returns
            exact ⟨by rw [HB.out]; rfl, bthen hbW hb4⟩
          · simp only [Bool.not_true] at hge
            refine wp_region_grow (by kernel_rfl) (by kernel_rfl) ?_
            repeat (first | ((with_reducible refine wpQuiet_load 50 (.tmp 4) (g) (0) [.int .i64 x.id.r, .int .i64 x.id.s, .int .i64 x.bal, .int .i64 x.vb, .int .i64 x.st, .int .i64 x.cmd.kd, .int .i64 x.cmd.cl, .int .i64 x.cmd.no, .string x.cmd.s, .string x.cmd.nm, .string x.cmd.tg, .int .i64 x.cmd.n, .slice A1 n1 c1, .int .i64 x.seq, .slice A2 n2 c2, .bool x.same] _ hgW hZr Try.underlying50 sizeInst0 ?_ ?_ ?_ ?_ ?_ ?_); (rfl); (rfl); (rfl); (rfl); (rfl); (simp only [Act.put, List.setIfInBounds_toArray, List.set_cons_succ, List.set_cons_zero])) | go_big_quiet_step (first | (go_at_call 75; exact grow_of (known Q1.out (instOk_impl x _ _ _ _ _ _ _ (hx1'.keep (Grow.below _)) (hx2'.keep iddK (Grow.below _)) hbx.1 hbx.2))) | (go_at_call 163; exact grow_of (cmp_any y.id x.id _))))
            refine wpQuiet_nil ?_
            intro _ hw'
            obtain ⟨⟨w4, hb4⟩, hw''⟩ := hw'
            change _ = w4 at hw''
            subst hw''
            go_wp2
            refine ⟨⟨k' + 1 + 1, by omega, by go_num, fun j hj => ?_, bthen hbW hb4⟩, by simp [intOf]; omega⟩
            by_cases e : j = k' + 1
            · subst e; exact ⟨by rw [HAX.out]; exact Q1.out, .inr (by rw [Nat.add_sub_cancel, HAX.out, HAY.out]; exact Q2.out)⟩
            · exact HCL.out j (by omega)
    · go_wp2
      go_returns
      have HB := inssOk_yes (l := l) (fun j hj => HCL.out j (by have := HL.out; omega))
      exact ⟨by rw [HB]; rfl, hbr⟩
set_option maxRecDepth 8000 in
set_option maxHeartbeats 4000000 in
theorem instsOk_spec (l : List Ins) (A : Option Addr) (n c : Nat) (w : World) (h : RowR insR 16 w A n c l) (hb : inssB l) :
    Calls Try.prog 136 #[.slice A n c] w fun e w' => e = .returned (.bool (inssOkB l)) ∧ Below w.heap.size w w' := by
  have HL := Lib.hid h.len.symm
  have hn : n ≤ 9223372036854775807 := by have := h.len; have := hb.1; omega
  go_enter Try.func136, Try.ntmps136
  go_wp2_with fail
  go_loopw [3] (fun i wr => ∃ (k : Nat), k ≤ n ∧ i = .int .i64 k ∧ (∀ j : Nat, j < k → insOkB (insAt l j) = true ∧ (j = 0 ∨ iddLess (insAt l (j - 1)).id (insAt l j).id = true)) ∧ Below w.heap.size w wr) (fun i _ => n - (intOf i).toNat)
  case atStart => exact ⟨0, Nat.zero_le _, rfl, fun j h => absurd h (by omega), Below.refl _ _⟩
  case round =>
    obtain ⟨k, hk, rfl, hcl, hbr⟩ := hrel
    have HCL := Lib.hid hcl; clear hcl
    by_cases hlt : k < n
    · obtain ⟨b, off, rfl⟩ := h.head (by omega)
      obtain ⟨bl, x, cs, hx, ⟨A1, n1, c1, A2, n2, c2, rfl, hx1, hx2⟩, hcell⟩ := h.elem_at hlt
      have hbx := bounds_el hb.2 hx
      have hcr : wr.rangeAt b (off + k * 16) [.int .i64 x.id.r, .int .i64 x.id.s, .int .i64 x.bal, .int .i64 x.vb, .int .i64 x.st, .int .i64 x.cmd.kd, .int .i64 x.cmd.cl, .int .i64 x.cmd.no, .string x.cmd.s, .string x.cmd.nm, .string x.cmd.tg, .int .i64 x.cmd.n, .slice A1 n1 c1, .int .i64 x.seq, .slice A2 n2 c2, .bool x.same] := fun j v hv => (hbr.cell (p := ⟨b, off + k * 16 + j, none⟩) bl).trans (hcell j v hv)
      have e0 : wr.cell? ⟨b, off + k * 16, none⟩ = some (.int .i64 x.id.r) := hcr 0 _ rfl
      have e1 : wr.cell? ⟨b, off + k * 16 + 1, none⟩ = some (.int .i64 x.id.s) := hcr 1 _ rfl
      have hax : insAt l k = x := insAt_of hx
      have HAX := Lib.hid hax; clear hax
      have hbs : b < wr.heap.size := Nat.lt_of_lt_of_le bl hbr.size
      clear hcell
      have hbW := hbr
      have hbsW := hbs
      obtain ⟨W, hW⟩ : ∃ W, W = wr := ⟨_, rfl⟩
      subst hW
      have hx1' := hx1.keep hbW
      have hx2' := hx2.keep iddK hbW
      clear hx1 hx2
      obtain ⟨q1, hq1⟩ : ∃ q, insOkB x = q := ⟨_, rfl⟩
      have Q1 := Lib.hid hq1; clear hq1
      cases q1
      · have HB := Lib.hid (inssOk_no (l := l) (j := k) (by have := HL.out; omega) (.inl (by rw [HAX.out]; exact Q1.out)))
        go_wp2
        refine wp_region_grow (by kernel_rfl) (by kernel_rfl) ?_
        repeat (first | ((with_reducible refine wpQuiet_load 50 (.tmp 12) (b) (off + k * 16) [.int .i64 x.id.r, .int .i64 x.id.s, .int .i64 x.bal, .int .i64 x.vb, .int .i64 x.st, .int .i64 x.cmd.kd, .int .i64 x.cmd.cl, .int .i64 x.cmd.no, .string x.cmd.s, .string x.cmd.nm, .string x.cmd.tg, .int .i64 x.cmd.n, .slice A1 n1 c1, .int .i64 x.seq, .slice A2 n2 c2, .bool x.same] _ hbsW hcr Try.underlying50 sizeInst0 ?_ ?_ ?_ ?_ ?_ ?_); (rfl); (rfl); (rfl); (rfl); (rfl); (simp only [Act.put, List.setIfInBounds_toArray, List.set_cons_succ, List.set_cons_zero])) | go_big_quiet_step ((go_at_call 69; exact grow_of (known Q1.out (instOk_spec x _ _ _ _ _ _ _ (hx1'.keep (Grow.below _)) (hx2'.keep iddK (Grow.below _)) hbx.1 hbx.2)))))
        refine wpQuiet_nil ?_
        intro _ hw'
        obtain ⟨⟨w4, hb4⟩, hw''⟩ := hw'
        change _ = w4 at hw''
        subst hw''
        go_wp2
        go_returns
        exact ⟨by rw [HB.out]; rfl, bthen hbW hb4⟩
      · by_cases hk0 : k = 0
        · have HK := Lib.hid (show ∀ j : Nat, j < k + 1 → insOkB (insAt l j) = true ∧ (j = 0 ∨ iddLess (insAt l (j - 1)).id (insAt l j).id = true) from fun j hj => by
            have hjk : j = k := by omega
            rw [hjk]
            exact ⟨by rw [HAX.out]; exact Q1.out, .inl hk0⟩)
          have gd0 : decide ((k : Int) > 0) = false := by rw [decide_eq_false_iff_not]; omega
          have gd00 : decide (0 < k) = false := by rw [decide_eq_false_iff_not]; omega
          have gd000 : ¬ 0 < k := by omega
          clear hk0
          go_wp2
          refine wp_region_grow (by kernel_rfl) (by kernel_rfl) ?_
          repeat (first | ((with_reducible refine wpQuiet_load 50 (.tmp 12) (b) (off + k * 16) [.int .i64 x.id.r, .int .i64 x.id.s, .int .i64 x.bal, .int .i64 x.vb, .int .i64 x.st, .int .i64 x.cmd.kd, .int .i64 x.cmd.cl, .int .i64 x.cmd.no, .string x.cmd.s, .string x.cmd.nm, .string x.cmd.tg, .int .i64 x.cmd.n, .slice A1 n1 c1, .int .i64 x.seq, .slice A2 n2 c2, .bool x.same] _ hbsW hcr Try.underlying50 sizeInst0 ?_ ?_ ?_ ?_ ?_ ?_); (rfl); (rfl); (rfl); (rfl); (rfl); (simp only [Act.put, List.setIfInBounds_toArray, List.set_cons_succ, List.set_cons_zero])) | go_big_quiet_step ((go_at_call 69; exact grow_of (known Q1.out (instOk_spec x _ _ _ _ _ _ _ (hx1'.keep (Grow.below _)) (hx2'.keep iddK (Grow.below _)) hbx.1 hbx.2)))))
          refine wpQuiet_nil ?_
          intro _ hw'
          obtain ⟨⟨w4, hb4⟩, hw''⟩ := hw'
          change _ = w4 at hw''
          subst hw''
          go_wp2
          exact ⟨⟨k + 1, by omega, by go_num, HK.out, bthen hbW hb4⟩, by simp [intOf]; omega⟩
        · obtain ⟨k', rfl⟩ : ∃ k', k = k' + 1 := ⟨k - 1, by omega⟩
          clear hk0
          obtain ⟨_, y, cs', hy, ⟨B1, m1, d1, B2, m2, d2, rfl, _, _⟩, hcelly⟩ := h.elem_at (i := k') (by omega)
          have y0 := (hbW.cell (p := ⟨b, off + k' * 16, none⟩) bl).trans (show w.cell? ⟨b, off + k' * 16, none⟩ = some (.int .i64 y.id.r) from hcelly 0 _ rfl)
          have y1 := (hbW.cell (p := ⟨b, off + k' * 16 + 1, none⟩) bl).trans (show w.cell? ⟨b, off + k' * 16 + 1, none⟩ = some (.int .i64 y.id.s) from hcelly 1 _ rfl)
          have hay : insAt l k' = y := insAt_of hy
          have HAY := Lib.hid hay; clear hay
          clear hcelly hy hx
          have gd0 : decide (((k' + 1 : Nat) : Int) > 0) = true := by rw [decide_eq_true_eq]; omega
          have gd1 : (((k' + 1 : Nat) : Int)) - 1 = (k' : Int) := by omega
          obtain ⟨q2, hq2⟩ : ∃ q, iddLess y.id x.id = q := ⟨_, rfl⟩
          have hge := cmpI_ge y.id x.id
          rw [hq2] at hge
          have Q2 := Lib.hid hq2; clear hq2
          cases q2
          · have HB := Lib.hid (inssOk_no (l := l) (j := k' + 1) (by have := HL.out; omega) (.inr ⟨by omega, by rw [Nat.add_sub_cancel, HAX.out, HAY.out]; exact Q2.out⟩))
            simp only [Bool.not_false] at hge
            go_wp2
            refine wp_region_grow (by kernel_rfl) (by kernel_rfl) ?_
            repeat (first | ((with_reducible refine wpQuiet_load 50 (.tmp 12) (b) (off + (k' + 1) * 16) [.int .i64 x.id.r, .int .i64 x.id.s, .int .i64 x.bal, .int .i64 x.vb, .int .i64 x.st, .int .i64 x.cmd.kd, .int .i64 x.cmd.cl, .int .i64 x.cmd.no, .string x.cmd.s, .string x.cmd.nm, .string x.cmd.tg, .int .i64 x.cmd.n, .slice A1 n1 c1, .int .i64 x.seq, .slice A2 n2 c2, .bool x.same] _ hbsW hcr Try.underlying50 sizeInst0 ?_ ?_ ?_ ?_ ?_ ?_); (rfl); (rfl); (rfl); (rfl); (rfl); (simp only [Act.put, List.setIfInBounds_toArray, List.set_cons_succ, List.set_cons_zero])) | go_big_quiet_step (first | (go_at_call 69; exact grow_of (known Q1.out (instOk_spec x _ _ _ _ _ _ _ (hx1'.keep (Grow.below _)) (hx2'.keep iddK (Grow.below _)) hbx.1 hbx.2))) | (go_at_call 162; exact grow_of (known Q2.out (l8Less_any y.id x.id _)))))
            refine wpQuiet_nil ?_
            intro _ hw'
            obtain ⟨⟨w4, hb4⟩, hw''⟩ := hw'
            change _ = w4 at hw''
            subst hw''
            go_wp2
            go_returns
            exact ⟨by rw [HB.out]; rfl, bthen hbW hb4⟩
          · simp only [Bool.not_true] at hge
            go_wp2
            refine wp_region_grow (by kernel_rfl) (by kernel_rfl) ?_
            repeat (first | ((with_reducible refine wpQuiet_load 50 (.tmp 12) (b) (off + (k' + 1) * 16) [.int .i64 x.id.r, .int .i64 x.id.s, .int .i64 x.bal, .int .i64 x.vb, .int .i64 x.st, .int .i64 x.cmd.kd, .int .i64 x.cmd.cl, .int .i64 x.cmd.no, .string x.cmd.s, .string x.cmd.nm, .string x.cmd.tg, .int .i64 x.cmd.n, .slice A1 n1 c1, .int .i64 x.seq, .slice A2 n2 c2, .bool x.same] _ hbsW hcr Try.underlying50 sizeInst0 ?_ ?_ ?_ ?_ ?_ ?_); (rfl); (rfl); (rfl); (rfl); (rfl); (simp only [Act.put, List.setIfInBounds_toArray, List.set_cons_succ, List.set_cons_zero])) | go_big_quiet_step (first | (go_at_call 69; exact grow_of (known Q1.out (instOk_spec x _ _ _ _ _ _ _ (hx1'.keep (Grow.below _)) (hx2'.keep iddK (Grow.below _)) hbx.1 hbx.2))) | (go_at_call 162; exact grow_of (known Q2.out (l8Less_any y.id x.id _)))))
            refine wpQuiet_nil ?_
            intro _ hw'
            obtain ⟨⟨w4, hb4⟩, hw''⟩ := hw'
            change _ = w4 at hw''
            subst hw''
            go_wp2
            refine ⟨⟨k' + 1 + 1, by omega, by go_num, fun j hj => ?_, bthen hbW hb4⟩, by simp [intOf]; omega⟩
            by_cases e : j = k' + 1
            · subst e; exact ⟨by rw [HAX.out]; exact Q1.out, .inr (by rw [Nat.add_sub_cancel, HAX.out, HAY.out]; exact Q2.out)⟩
            · exact HCL.out j (by omega)
    · go_wp2
      go_returns
      have HB := inssOk_yes (l := l) (fun j hj => HCL.out j (by have := HL.out; omega))
      exact ⟨by rw [HB]; rfl, hbr⟩
end Go.Proofs.Ytdphdnllhmnelaa
/- Leads: is one right, where one with an id stands; both sides. -/
namespace Go.Proofs.Ytdphdnllhmnelaa
open Go.RowKit
attribute [local go_sem] Grow.cell Grow.frozen
/-- nodes that rise -/
def frsOkB (l : List Int) : Bool := (List.range l.length).all (fun j => inB (iAt l j) 0 2 && (j == 0 || decide (iAt l (j - 1) < iAt l j)))
theorem frsOk_yes {l : List Int} (h : ∀ j, j < l.length → inB (iAt l j) 0 2 = true ∧ (j = 0 ∨ iAt l (j - 1) < iAt l j)) : frsOkB l = true := by
  unfold frsOkB; rw [List.all_eq_true]
  intro j hj
  obtain ⟨h1, h2⟩ := h j (List.mem_range.1 hj)
  rw [h1]
  rcases h2 with h2 | h2 <;> simp [h2]
theorem frsOk_no {l : List Int} {j : Nat} (hj : j < l.length) (h : inB (iAt l j) 0 2 = false ∨ (0 < j ∧ iAt l j ≤ iAt l (j - 1))) : frsOkB l = false := by
  unfold frsOkB; rw [List.all_eq_false]
  refine ⟨j, List.mem_range.2 hj, ?_⟩
  rcases h with h | ⟨h1, h⟩
  · simp [h]
  · have : ¬ j = 0 := by omega
    have h3 : ¬ iAt l (j - 1) < iAt l j := by omega
    simp [this, h3]
theorem frsOk_at {l : List Int} (h : frsOkB l = true) {j : Nat} (hj : j < l.length) : inB (iAt l j) 0 2 = true ∧ (j = 0 ∨ iAt l (j - 1) < iAt l j) := by
  unfold frsOkB at h
  rw [List.all_eq_true] at h
  have := h j (List.mem_range.2 hj)
  simpa [Bool.and_eq_true, Bool.or_eq_true] using this
theorem frsOk_key {l : List Int} (h : frsOkB l = true) : ∀ j, j < l.length → (j : Int) ≤ iAt l j
  | 0, hj => by have := (frsOk_at h hj).1; simp [inB] at this; omega
  | j + 1, hj => by
    have ih := frsOk_key h j (by omega)
    rcases (frsOk_at h hj).2 with h3 | h3
    · omega
    · simp only [Nat.add_sub_cancel] at h3; omega
theorem frsOk_len {l : List Int} (h : frsOkB l = true) : l.length ≤ 3 := by
  rcases Nat.lt_or_ge 3 l.length with h1 | h1
  · have h2 := frsOk_key h 3 h1
    have h3 := (frsOk_at h h1).1
    simp [inB] at h3; omega
  · exact h1
def leaOkB (x : Lea) : Bool := iddOkB x.id && inB x.bal 0 600 && inB x.ph 1 3 && inB x.seq 0 60 && idsOkB x.deps && !hasId x.deps x.id && frsOkB x.fr
/-- where the first lead of an id stands, from k on; -1: nowhere -/
def ledI : List Lea → Nat → Idd → Int
  | [], _, _ => -1
  | x :: l, k, id => if iddEq x.id id = true then (k : Int) else ledI l (k + 1) id
theorem ledI_drop {l : List Lea} {k : Nat} (id : Idd) (hk : k < l.length) : ledI (l.drop k) k id = if iddEq (leaAt l k).id id = true then (k : Int) else ledI (l.drop (k + 1)) (k + 1) id := by
  rw [List.drop_eq_getElem_cons hk, ledI, leaAt_get hk]
theorem IntR.vals {w : World} {A : Option Addr} {n c : Nat} {l : List Int} (h : IntR w A n c l) (hn : 0 < n) : ∃ b off, A = some ⟨b, off, none⟩ ∧ b < w.heap.size ∧ ∀ j, j < n → w.cell? ⟨b, off + j, none⟩ = some (.int .i64 (iAt l j)) := by
  obtain ⟨b, off, rfl, hb, hc⟩ := h.1.2 hn
  exact ⟨b, off, rfl, hb, hc⟩
attribute [local irreducible] RowR IntR RowO IntO inB iddOkB idsOkB hasId frsOkB
theorem areDeps_any (l : List Idd) (x : Idd) (A : Option Addr) (n c : Nat) (w : World) (h : RowR iddR 2 w A n c l) (hb : iddsB l) :
    Calls Try.prog 165 #[.slice A n c, iddV x] w fun e w' => e = .returned (.bool (idsOkB l && !hasId l x)) ∧ Below w.heap.size w w' := by
  have al := (Below.refl w.heap.size w).alloc (Nat.le_refl _) (.cells #[.int .i64 x.r, .int .i64 x.s] 46)
  obtain ⟨q1, hq1⟩ : ∃ q, idsOkB l = q := ⟨_, rfl⟩
  obtain ⟨q2, hq2⟩ : ∃ q, hasId l x = q := ⟨_, rfl⟩
  have HV := Lib.hid (show (idsOkB l && !hasId l x) = (q1 && !q2) by rw [hq1, hq2])
  have Q1 := Lib.hid hq1; clear hq1
  have Q2 := Lib.hid hq2; clear hq2
  unfold iddV
  go_enter Try.func165, Try.ntmps165
  go_wp2_with fail
  refine (idsOk_impl l _ _ _ _ (h.keep iddK al) hb).mono ?_
  rintro e w1 ⟨rfl, hb1⟩
  rw [Q1.out]
  have hB1 := bthen al hb1
  have BX := (BoxL.new w [.int .i64 x.r, .int .i64 x.s] 46).keep hb1
  have e0 := BX.cell 0 _ rfl
  have e1 := BX.cell 1 _ rfl
  have hlt := BX.lt
  cases q1
  · go_wp2
    go_returns
    exact ⟨ret_bool (by rw [HV.out]; rfl), hB1⟩
  · go_wp2_with fail
    refine (containsId_any l x _ _ _ _ (h.keep iddK hB1) hb).mono ?_
    rintro e w2 ⟨rfl, hb2⟩
    rw [Q2.out]
    go_wp2
    go_returns
    exact ⟨ret_bool (by rw [HV.out]; simp), bthen hB1 hb2⟩
set_option maxRecDepth 8000 in
set_option maxHeartbeats 4000000 in
theorem leadOk_impl (x : Lea) (A1 : Option Addr) (n1 c1 : Nat) (A2 : Option Addr) (n2 c2 : Nat) (w : World) (h1 : RowR iddR 2 w A1 n1 c1 x.deps) (h2 : IntR w A2 n2 c2 x.fr) (hb : leaB x) :
    Calls Try.prog 145 #[leaV x (.slice A1 n1 c1) (.slice A2 n2 c2)] w fun e w' => e = .returned (.bool (leaOkB x)) ∧ Below w.heap.size w w' := by
  have HL := Lib.hid h2.len
  have hn : n2 ≤ 9223372036854775807 := by have := h2.len; have := hb.2; unfold intB at this; omega
  obtain ⟨q0, hq0⟩ : ∃ q, iddOkB x.id = q := ⟨_, rfl⟩
  obtain ⟨q1, hq1⟩ : ∃ q, inB x.bal 0 600 = q := ⟨_, rfl⟩
  obtain ⟨q2, hq2⟩ : ∃ q, inB x.ph 1 3 = q := ⟨_, rfl⟩
  obtain ⟨q3, hq3⟩ : ∃ q, inB x.seq 0 60 = q := ⟨_, rfl⟩
  obtain ⟨q4, hq4⟩ : ∃ q, idsOkB x.deps = q := ⟨_, rfl⟩
  obtain ⟨q5, hq5⟩ : ∃ q, hasId x.deps x.id = q := ⟨_, rfl⟩
  obtain ⟨q6, hq6⟩ : ∃ q, frsOkB x.fr = q := ⟨_, rfl⟩
  have HV := Lib.hid (show leaOkB x = (q0 && q1 && q2 && q3 && q4 && !q5 && q6) by unfold leaOkB; rw [hq0, hq1, hq2, hq3, hq4, hq5, hq6])
  have Q0 := Lib.hid hq0; clear hq0
  have Q1 := Lib.hid hq1; clear hq1
  have Q2 := Lib.hid hq2; clear hq2
  have Q3 := Lib.hid hq3; clear hq3
  have Q4 := Lib.hid hq4; clear hq4
  have Q5 := Lib.hid hq5; clear hq5
  have Q6 := Lib.hid hq6; clear hq6
  have al := (Below.refl w.heap.size w).alloc (Nat.le_refl _) (.cells #[.int .i64 x.id.r, .int .i64 x.id.s, .int .i64 x.bal, .int .i64 x.ph, .int .i64 x.seq, .slice A1 n1 c1, .slice A2 n2 c2, .bool x.same] 170)
  have BX := BoxL.new w [.int .i64 x.id.r, .int .i64 x.id.s, .int .i64 x.bal, .int .i64 x.ph, .int .i64 x.seq, .slice A1 n1 c1, .slice A2 n2 c2, .bool x.same] 170
  unfold leaV
  go_enter Try.func145, Try.ntmps145
  go_wp2_with fail
  obtain ⟨W, hW⟩ : ∃ W, W = w.alloc (.cells #[.int .i64 x.id.r, .int .i64 x.id.s, .int .i64 x.bal, .int .i64 x.ph, .int .i64 x.seq, .slice A1 n1 c1, .slice A2 n2 c2, .bool x.same] 170) := ⟨_, rfl⟩
  obtain ⟨g, hg⟩ : ∃ g, w.heap.size = g := ⟨_, rfl⟩
  have HG := Lib.hid hg
  have hB := al
  rw [← hW] at BX hB ⊢
  simp only [hg] at BX ⊢
  clear hW al hg
  have k1 := h1.keep iddK hB; have k2 := h2.keep hB; clear h1 h2
  have hgl := BX.lt
  have e0 := BX.cell 0 _ rfl
  have e1 := BX.cell 1 _ rfl
  have e2 := BX.cell 2 _ rfl
  have e3 := BX.cell 3 _ rfl
  have e4 := BX.cell 4 _ rfl
  have e5 := BX.cell 5 _ rfl
  have e6 := BX.cell 6 _ rfl
  have e7 := BX.cell 7 _ rfl
  obtain ⟨V, hV⟩ : ∃ V, V = W := ⟨_, rfl⟩
  subst hV
  have HQ6 := Q6
  go_loopw [8] (fun i wr => ∃ (k : Nat), k ≤ n2 ∧ i = .int .i64 k ∧ (∀ j : Nat, j < k → inB (iAt x.fr j) 0 2 = true ∧ (j = 0 ∨ iAt x.fr (j - 1) < iAt x.fr j)) ∧ Below V.heap.size V wr) (fun i _ => n2 - (intOf i).toNat)
  case atStart => exact ⟨0, Nat.zero_le _, rfl, fun j h => absurd h (by omega), Below.refl _ _⟩
  case round =>
    obtain ⟨k, hk, rfl, hcl, hbr⟩ := hrel
    have HCL := Lib.hid hcl; clear hcl
    have BX' := BX.keep hbr; have hB' := bthen hB hbr; have k1' := k1.keep iddK hbr; have k2' := k2.keep hbr
    clear hgl e0 e1 e2 e3 e4 e5 e6 e7
    clear BX hB k1 k2; have BX := BX'; have hB := hB'; have k1 := k1'; have k2 := k2'; clear BX' hB' k1' k2'
    have hgl := BX.lt
    have e0 := BX.cell 0 _ rfl
    have e1 := BX.cell 1 _ rfl
    have e2 := BX.cell 2 _ rfl
    have e3 := BX.cell 3 _ rfl
    have e4 := BX.cell 4 _ rfl
    have e5 := BX.cell 5 _ rfl
    have e6 := BX.cell 6 _ rfl
    have e7 := BX.cell 7 _ rfl
    by_cases hlt : k < n2
    · skip
      obtain ⟨b, off, rfl, hbl, hv⟩ := k2.vals (by omega)
      have v0 := hv k hlt
      obtain ⟨p, hp⟩ : ∃ p, inB (iAt x.fr k) 0 2 = p := ⟨_, rfl⟩
      have P := Lib.hid hp; clear hp
      cases p
      · have HB := Lib.hid (show q6 = false by rw [← Q6.out]; exact frsOk_no (l := x.fr) (j := k) (by have := HL.out; omega) (.inl P.out))
        clear hv
        go_wp2_with fail
        refine (isRep_any _ _).mono ?_
        rintro e w' ⟨rfl, rfl⟩
        rw [P.out]
        have hb4 := Below.refl wr.heap.size wr
        go_wp2
        go_returns
        exact ⟨ret_bool (by rw [HV.out, HB.out]; simp), bthen hB hb4⟩
      · by_cases hk0 : k = 0
        · have HK := Lib.hid (show ∀ j : Nat, j < k + 1 → inB (iAt x.fr j) 0 2 = true ∧ (j = 0 ∨ iAt x.fr (j - 1) < iAt x.fr j) from fun j hj => by
            have hjk : j = k := by omega
            rw [hjk]
            exact ⟨P.out, .inl hk0⟩)
          have gd0 : decide ((k : Int) > 0) = false := by rw [decide_eq_false_iff_not]; omega
          have gd00 : decide (0 < k) = false := by rw [decide_eq_false_iff_not]; omega
          have gd000 : ¬ 0 < k := by omega
          clear hk0 hv
          go_wp2_with fail
          refine (isRep_any _ _).mono ?_
          rintro e w' ⟨rfl, rfl⟩
          rw [P.out]
          have hb4 := Below.refl wr.heap.size wr
          go_wp2
          exact ⟨⟨k + 1, by omega, by go_num, HK.out, bthen hbr hb4⟩, by simp [intOf]; omega⟩
        · obtain ⟨k', rfl⟩ : ∃ k', k = k' + 1 := ⟨k - 1, by omega⟩
          clear hk0
          have u0 := hv k' (by omega)
          have gd0 : decide (((k' + 1 : Nat) : Int) > 0) = true := by rw [decide_eq_true_eq]; omega
          have gd1 : (((k' + 1 : Nat) : Int)) - 1 = (k' : Int) := by omega
          obtain ⟨a0, ha0⟩ : ∃ a, iAt x.fr k' = a := ⟨_, rfl⟩
          obtain ⟨a1, ha1⟩ : ∃ a, iAt x.fr (k' + 1) = a := ⟨_, rfl⟩
          have A0 := Lib.hid ha0; have A1_ := Lib.hid ha1
          rw [ha0] at u0; rw [ha1] at v0; rw [ha1] at P
          clear ha0 ha1 hv
          by_cases hge : a1 ≤ a0
          · have HB := Lib.hid (show q6 = false by rw [← Q6.out]; exact frsOk_no (l := x.fr) (j := k' + 1) (by have := HL.out; omega) (.inr ⟨by omega, by rw [Nat.add_sub_cancel, A1_.out, A0.out]; exact hge⟩))
            go_wp2_with fail
            refine (isRep_any _ _).mono ?_
            rintro e w' ⟨rfl, rfl⟩
            rw [P.out]
            have hb4 := Below.refl wr.heap.size wr
            go_wp2
            go_returns
            exact ⟨ret_bool (by rw [HV.out, HB.out]; simp), bthen hB hb4⟩
          · skip
            go_wp2_with fail
            refine (isRep_any _ _).mono ?_
            rintro e w' ⟨rfl, rfl⟩
            rw [P.out]
            have hb4 := Below.refl wr.heap.size wr
            go_wp2
            refine ⟨⟨k' + 1 + 1, by omega, by go_num, fun j hj => ?_, bthen hbr hb4⟩, by simp [intOf]; omega⟩
            by_cases e : j = k' + 1
            · subst e; exact ⟨by rw [A1_.out]; exact P.out, .inr (by rw [Nat.add_sub_cancel, A1_.out, A0.out]; omega)⟩
            · exact HCL.out j (by omega)
    · have HB := Lib.hid (show q6 = true by rw [← Q6.out]; exact frsOk_yes (l := x.fr) (fun j hj => HCL.out j (by have := HL.out; omega)))
      clear HCL
      go_wp2_with fail
      refine (idOk_any x.id _).mono ?_
      rintro e w1 ⟨rfl, hb1⟩
      have BX' := BX.keep hb1; have hB' := bthen hB hb1; have k1' := k1.keep iddK hb1; have k2' := k2.keep hb1
      clear hgl e0 e1 e2 e3 e4 e5 e6 e7
      clear BX hB k1 k2; have BX := BX'; have hB := hB'; have k1 := k1'; have k2 := k2'; clear BX' hB' k1' k2'
      have hgl := BX.lt
      have e0 := BX.cell 0 _ rfl
      have e1 := BX.cell 1 _ rfl
      have e2 := BX.cell 2 _ rfl
      have e3 := BX.cell 3 _ rfl
      have e4 := BX.cell 4 _ rfl
      have e5 := BX.cell 5 _ rfl
      have e6 := BX.cell 6 _ rfl
      have e7 := BX.cell 7 _ rfl
      rw [Q0.out]
      cases q0
      · skip
        go_wp2
        go_returns
        exact ⟨ret_bool (by rw [HV.out]; simp), hB⟩
      · skip
        go_wp2_with fail
        refine (within_any _ _ _ _).mono ?_
        rintro e w' ⟨rfl, rfl⟩
        rw [Q1.out]
        cases q1
        · skip
          go_wp2
          go_returns
          exact ⟨ret_bool (by rw [HV.out]; simp), hB⟩
        · skip
          go_wp2_with fail
          refine (within_any _ _ _ _).mono ?_
          rintro e w' ⟨rfl, rfl⟩
          rw [Q2.out]
          cases q2
          · skip
            go_wp2
            go_returns
            exact ⟨ret_bool (by rw [HV.out]; simp), hB⟩
          · skip
            go_wp2_with fail
            refine (within_any _ _ _ _).mono ?_
            rintro e w' ⟨rfl, rfl⟩
            rw [Q3.out]
            cases q3
            · skip
              go_wp2
              go_returns
              exact ⟨ret_bool (by rw [HV.out]; simp), hB⟩
            · skip
              go_wp2_with fail
              refine (areDeps_any x.deps x.id _ _ _ _ k1 hb.1).mono ?_
              rintro e w2 ⟨rfl, hb2⟩
              have BX' := BX.keep hb2; have hB' := bthen hB hb2; have k1' := k1.keep iddK hb2; have k2' := k2.keep hb2
              clear hgl e0 e1 e2 e3 e4 e5 e6 e7
              clear BX hB k1 k2; have BX := BX'; have hB := hB'; have k1 := k1'; have k2 := k2'; clear BX' hB' k1' k2'
              have hgl := BX.lt
              have e0 := BX.cell 0 _ rfl
              have e1 := BX.cell 1 _ rfl
              have e2 := BX.cell 2 _ rfl
              have e3 := BX.cell 3 _ rfl
              have e4 := BX.cell 4 _ rfl
              have e5 := BX.cell 5 _ rfl
              have e6 := BX.cell 6 _ rfl
              have e7 := BX.cell 7 _ rfl
              rw [Q4.out, Q5.out]
              go_wp2
              go_returns
              exact ⟨ret_bool (by rw [HV.out, HB.out]; simp), hB⟩
set_option maxRecDepth 8000 in
set_option maxHeartbeats 4000000 in
theorem leadOk_spec (x : Lea) (A1 : Option Addr) (n1 c1 : Nat) (A2 : Option Addr) (n2 c2 : Nat) (w : World) (h1 : RowR iddR 2 w A1 n1 c1 x.deps) (h2 : IntR w A2 n2 c2 x.fr) (hb : leaB x) :
    Calls Try.prog 137 #[leaV x (.slice A1 n1 c1) (.slice A2 n2 c2)] w fun e w' => e = .returned (.bool (leaOkB x)) ∧ Below w.heap.size w w' := by
  have HL := Lib.hid h2.len
  have hn : n2 ≤ 9223372036854775807 := by have := h2.len; have := hb.2; unfold intB at this; omega
  obtain ⟨q0, hq0⟩ : ∃ q, iddOkB x.id = q := ⟨_, rfl⟩
  obtain ⟨q1, hq1⟩ : ∃ q, inB x.bal 0 600 = q := ⟨_, rfl⟩
  obtain ⟨q2, hq2⟩ : ∃ q, inB x.ph 1 3 = q := ⟨_, rfl⟩
  obtain ⟨q3, hq3⟩ : ∃ q, inB x.seq 0 60 = q := ⟨_, rfl⟩
  obtain ⟨q4, hq4⟩ : ∃ q, idsOkB x.deps = q := ⟨_, rfl⟩
  obtain ⟨q5, hq5⟩ : ∃ q, hasId x.deps x.id = q := ⟨_, rfl⟩
  obtain ⟨q6, hq6⟩ : ∃ q, frsOkB x.fr = q := ⟨_, rfl⟩
  have HV := Lib.hid (show leaOkB x = (q0 && q1 && q2 && q3 && q4 && !q5 && q6) by unfold leaOkB; rw [hq0, hq1, hq2, hq3, hq4, hq5, hq6])
  have Q0 := Lib.hid hq0; clear hq0
  have Q1 := Lib.hid hq1; clear hq1
  have Q2 := Lib.hid hq2; clear hq2
  have Q3 := Lib.hid hq3; clear hq3
  have Q4 := Lib.hid hq4; clear hq4
  have Q5 := Lib.hid hq5; clear hq5
  have Q6 := Lib.hid hq6; clear hq6
  have al := (Below.refl w.heap.size w).alloc (Nat.le_refl _) (.cells #[.int .i64 x.id.r, .int .i64 x.id.s, .int .i64 x.bal, .int .i64 x.ph, .int .i64 x.seq, .slice A1 n1 c1, .slice A2 n2 c2, .bool x.same] 170)
  have BX := BoxL.new w [.int .i64 x.id.r, .int .i64 x.id.s, .int .i64 x.bal, .int .i64 x.ph, .int .i64 x.seq, .slice A1 n1 c1, .slice A2 n2 c2, .bool x.same] 170
  unfold leaV
  go_enter Try.func137, Try.ntmps137
  go_wp2_with fail
  refine (l8Id_any x.id _).mono ?_
  rintro e w1 ⟨rfl, hb1⟩
  have hB := bthen al hb1
  have BX' := BX.keep hb1; clear BX; have BX := BX'; clear BX'
  obtain ⟨g, hg⟩ : ∃ g, w.heap.size = g := ⟨_, rfl⟩
  simp only [hg] at BX ⊢
  have HG := Lib.hid hg
  clear al hb1 hg
  have k1 := h1.keep iddK hB; have k2 := h2.keep hB; clear h1 h2
  have hgl := BX.lt
  have e0 := BX.cell 0 _ rfl
  have e1 := BX.cell 1 _ rfl
  have e2 := BX.cell 2 _ rfl
  have e3 := BX.cell 3 _ rfl
  have e4 := BX.cell 4 _ rfl
  have e5 := BX.cell 5 _ rfl
  have e6 := BX.cell 6 _ rfl
  have e7 := BX.cell 7 _ rfl
  rw [Q0.out]
  cases q0
  · skip
    go_wp2
    go_returns
    exact ⟨ret_bool (by rw [HV.out]; simp), hB⟩
  · skip
    go_wp2_with fail
    refine (l1In_any _ _ _ _).mono ?_
    rintro e w' ⟨rfl, rfl⟩
    rw [Q1.out]
    cases q1
    · skip
      go_wp2
      go_returns
      exact ⟨ret_bool (by rw [HV.out]; simp), hB⟩
    · skip
      go_wp2_with fail
      refine (l1In_any _ _ _ _).mono ?_
      rintro e w' ⟨rfl, rfl⟩
      rw [Q2.out]
      cases q2
      · skip
        go_wp2
        go_returns
        exact ⟨ret_bool (by rw [HV.out]; simp), hB⟩
      · skip
        go_wp2_with fail
        refine (l1In_any _ _ _ _).mono ?_
        rintro e w' ⟨rfl, rfl⟩
        rw [Q3.out]
        cases q3
        · skip
          go_wp2
          go_returns
          exact ⟨ret_bool (by rw [HV.out]; simp), hB⟩
        · skip
          go_wp2_with fail
          refine (idsOk_spec x.deps _ _ _ _ k1 hb.1).mono ?_
          rintro e w2 ⟨rfl, hb2⟩
          have BX' := BX.keep hb2; have hB' := bthen hB hb2; have k1' := k1.keep iddK hb2; have k2' := k2.keep hb2
          clear hgl e0 e1 e2 e3 e4 e5 e6 e7
          clear BX hB k1 k2; have BX := BX'; have hB := hB'; have k1 := k1'; have k2 := k2'; clear BX' hB' k1' k2'
          have hgl := BX.lt
          have e0 := BX.cell 0 _ rfl
          have e1 := BX.cell 1 _ rfl
          have e2 := BX.cell 2 _ rfl
          have e3 := BX.cell 3 _ rfl
          have e4 := BX.cell 4 _ rfl
          have e5 := BX.cell 5 _ rfl
          have e6 := BX.cell 6 _ rfl
          have e7 := BX.cell 7 _ rfl
          rw [Q4.out]
          cases q4
          · skip
            go_wp2
            go_returns
            exact ⟨ret_bool (by rw [HV.out]; simp), hB⟩
          · skip
            go_wp2_with fail
            refine (l8Has_any x.deps x.id _ _ _ _ k1 hb.1).mono ?_
            rintro e w3 ⟨rfl, hb3⟩
            have BX' := BX.keep hb3; have hB' := bthen hB hb3; have k1' := k1.keep iddK hb3; have k2' := k2.keep hb3
            clear hgl e0 e1 e2 e3 e4 e5 e6 e7
            clear BX hB k1 k2; have BX := BX'; have hB := hB'; have k1 := k1'; have k2 := k2'; clear BX' hB' k1' k2'
            have hgl := BX.lt
            have e0 := BX.cell 0 _ rfl
            have e1 := BX.cell 1 _ rfl
            have e2 := BX.cell 2 _ rfl
            have e3 := BX.cell 3 _ rfl
            have e4 := BX.cell 4 _ rfl
            have e5 := BX.cell 5 _ rfl
            have e6 := BX.cell 6 _ rfl
            have e7 := BX.cell 7 _ rfl
            rw [Q5.out]
            cases q5
            rotate_left
            · skip
              go_wp2
              go_returns
              exact ⟨ret_bool (by rw [HV.out]; simp), hB⟩
            by_cases h3 : 3 < n2
            · have HB := Lib.hid (show q6 = false by
                rcases Bool.eq_false_or_eq_true q6 with h | h
                · have := frsOk_len (Q6.out.trans h); have := HL.out; omega
                · exact h)
              have gd : (3 : Int) < (n2 : Int) := by omega
              go_wp2
              go_returns
              exact ⟨ret_bool (by rw [HV.out, HB.out]; simp), hB⟩
            · have gd : ¬ (3 : Int) < (n2 : Int) := by omega
              go_wp2
              obtain ⟨V, hV⟩ : ∃ V, V = w3 := ⟨_, rfl⟩
              subst hV
              have HQ6 := Q6
              go_loopw [3] (fun i wr => ∃ (k : Nat), k ≤ n2 ∧ i = .int .i64 k ∧ (∀ j : Nat, j < k → inB (iAt x.fr j) 0 2 = true ∧ (j = 0 ∨ iAt x.fr (j - 1) < iAt x.fr j)) ∧ Below V.heap.size V wr) (fun i _ => n2 - (intOf i).toNat)
              case atStart => exact ⟨0, Nat.zero_le _, rfl, fun j h => absurd h (by omega), Below.refl _ _⟩
              case round =>
                obtain ⟨k, hk, rfl, hcl, hbr⟩ := hrel
                have HCL := Lib.hid hcl; clear hcl
                have BX' := BX.keep hbr; have hB' := bthen hB hbr; have k1' := k1.keep iddK hbr; have k2' := k2.keep hbr
                clear hgl e0 e1 e2 e3 e4 e5 e6 e7
                clear BX hB k1 k2; have BX := BX'; have hB := hB'; have k1 := k1'; have k2 := k2'; clear BX' hB' k1' k2'
                have hgl := BX.lt
                have e0 := BX.cell 0 _ rfl
                have e1 := BX.cell 1 _ rfl
                have e2 := BX.cell 2 _ rfl
                have e3 := BX.cell 3 _ rfl
                have e4 := BX.cell 4 _ rfl
                have e5 := BX.cell 5 _ rfl
                have e6 := BX.cell 6 _ rfl
                have e7 := BX.cell 7 _ rfl
                by_cases hlt : k < n2
                · skip
                  obtain ⟨b, off, rfl, hbl, hv⟩ := k2.vals (by omega)
                  have v0 := hv k hlt
                  obtain ⟨p, hp⟩ : ∃ p, inB (iAt x.fr k) 0 2 = p := ⟨_, rfl⟩
                  have P := Lib.hid hp; clear hp
                  cases p
                  · have HB := Lib.hid (show q6 = false by rw [← Q6.out]; exact frsOk_no (l := x.fr) (j := k) (by have := HL.out; omega) (.inl P.out))
                    clear hv
                    go_wp2
                    refine wp_region_grow (by kernel_rfl) (by kernel_rfl) ?_
                    repeat (first | go_big_quiet_step ((go_at_call 135; exact grow_same (known P.out (l9Node_any _ _)))))
                    refine wpQuiet_nil ?_
                    intro _ hw'
                    obtain ⟨⟨w4, hb4⟩, hw''⟩ := hw'
                    change _ = w4 at hw''
                    subst hw''
                    go_wp2
                    go_returns
                    exact ⟨ret_bool (by rw [HV.out, HB.out]; simp), bthen hB hb4⟩
                  · by_cases hk0 : k = 0
                    · have HK := Lib.hid (show ∀ j : Nat, j < k + 1 → inB (iAt x.fr j) 0 2 = true ∧ (j = 0 ∨ iAt x.fr (j - 1) < iAt x.fr j) from fun j hj => by
                        have hjk : j = k := by omega
                        rw [hjk]
                        exact ⟨P.out, .inl hk0⟩)
                      have gd0 : decide ((k : Int) > 0) = false := by rw [decide_eq_false_iff_not]; omega
                      have gd00 : decide (0 < k) = false := by rw [decide_eq_false_iff_not]; omega
                      have gd000 : ¬ 0 < k := by omega
                      clear hk0 hv
                      go_wp2
                      refine wp_region_grow (by kernel_rfl) (by kernel_rfl) ?_
                      repeat (first | go_big_quiet_step ((go_at_call 135; exact grow_same (known P.out (l9Node_any _ _)))))
                      refine wpQuiet_nil ?_
                      intro _ hw'
                      obtain ⟨⟨w4, hb4⟩, hw''⟩ := hw'
                      change _ = w4 at hw''
                      subst hw''
                      go_wp2
                      exact ⟨⟨k + 1, by omega, by go_num, HK.out, bthen hbr hb4⟩, by simp [intOf]; omega⟩
                    · obtain ⟨k', rfl⟩ : ∃ k', k = k' + 1 := ⟨k - 1, by omega⟩
                      clear hk0
                      have u0 := hv k' (by omega)
                      have gd0 : decide (((k' + 1 : Nat) : Int) > 0) = true := by rw [decide_eq_true_eq]; omega
                      have gd1 : (((k' + 1 : Nat) : Int)) - 1 = (k' : Int) := by omega
                      obtain ⟨a0, ha0⟩ : ∃ a, iAt x.fr k' = a := ⟨_, rfl⟩
                      obtain ⟨a1, ha1⟩ : ∃ a, iAt x.fr (k' + 1) = a := ⟨_, rfl⟩
                      have A0 := Lib.hid ha0; have A1_ := Lib.hid ha1
                      rw [ha0] at u0; rw [ha1] at v0; rw [ha1] at P
                      clear ha0 ha1 hv
                      by_cases hge : a1 ≤ a0
                      · have HB := Lib.hid (show q6 = false by rw [← Q6.out]; exact frsOk_no (l := x.fr) (j := k' + 1) (by have := HL.out; omega) (.inr ⟨by omega, by rw [Nat.add_sub_cancel, A1_.out, A0.out]; exact hge⟩))
                        go_wp2
                        refine wp_region_grow (by kernel_rfl) (by kernel_rfl) ?_
                        repeat (first | go_big_quiet_step ((go_at_call 135; exact grow_same (known P.out (l9Node_any _ _)))))
                        refine wpQuiet_nil ?_
                        intro _ hw'
                        obtain ⟨⟨w4, hb4⟩, hw''⟩ := hw'
                        change _ = w4 at hw''
                        subst hw''
                        go_wp2
                        go_returns
                        exact ⟨ret_bool (by rw [HV.out, HB.out]; simp), bthen hB hb4⟩
                      · skip
                        go_wp2
                        refine wp_region_grow (by kernel_rfl) (by kernel_rfl) ?_
                        repeat (first | go_big_quiet_step ((go_at_call 135; exact grow_same (known P.out (l9Node_any _ _)))))
                        refine wpQuiet_nil ?_
                        intro _ hw'
                        obtain ⟨⟨w4, hb4⟩, hw''⟩ := hw'
                        change _ = w4 at hw''
                        subst hw''
                        go_wp2
                        refine ⟨⟨k' + 1 + 1, by omega, by go_num, fun j hj => ?_, bthen hbr hb4⟩, by simp [intOf]; omega⟩
                        by_cases e : j = k' + 1
                        · subst e; exact ⟨by rw [A1_.out]; exact P.out, .inr (by rw [Nat.add_sub_cancel, A1_.out, A0.out]; omega)⟩
                        · exact HCL.out j (by omega)
                · have HB := Lib.hid (show q6 = true by rw [← Q6.out]; exact frsOk_yes (l := x.fr) (fun j hj => HCL.out j (by have := HL.out; omega)))
                  clear HCL
                  go_wp2
                  go_returns
                  exact ⟨ret_bool (by rw [HV.out, HB.out]; simp), hB⟩
end Go.Proofs.Ytdphdnllhmnelaa
/- Where the first lead with an id stands: slices.IndexFunc with the program's test, the reference's l9At. -/
namespace Go.Proofs.Ytdphdnllhmnelaa
open Go.RowKit
attribute [local go_sem] Grow.cell Grow.frozen
theorem sizeLead0 : (Try.prog.info? 170).map (·.size) = some 8 := by kernel_rfl
attribute [local irreducible] RowR IntR
set_option maxRecDepth 8000 in
theorem lead_fn (x : Lea) (id : Idd) (s1 s2 : Value) (B : Nat) (w : World) (h0 : w.cell? ⟨B, 0, none⟩ = some (.int .i64 id.r)) (h1 : w.cell? ⟨B, 1, none⟩ = some (.int .i64 id.s)) :
    Calls Try.prog 167 #[leaV x s1 s2, .pointer (some ⟨B, 0, none⟩)] w fun r w' => r = .returned (.bool (iddEq x.id id)) ∧ Below w.heap.size w w' := by
  have hlt := cell_lt h0
  obtain ⟨⟨r, s⟩, b1, b2, b3, d1, d2, b4⟩ := x
  obtain ⟨r', s'⟩ := id
  unfold leaV
  simp only at h0 h1 ⊢
  by_cases h1 : r = r'
  · subst h1
    by_cases h2 : s = s'
    · subst h2
      have HV := Lib.hid (show iddEq ⟨r, s⟩ ⟨r, s⟩ = true by simp [iddEq])
      go_enter Try.func167, Try.ntmps167
      go_wp2
      go_returns
      exact ⟨ret_bool (by rw [HV.out]), by go_grown⟩
    · have g2 : (s == s') = false := by simpa using h2
      have HV := Lib.hid (show iddEq ⟨r, s⟩ ⟨r, s'⟩ = false by simp [iddEq, h2])
      go_enter Try.func167, Try.ntmps167
      go_wp2
      go_returns
      exact ⟨ret_bool (by rw [HV.out]), by go_grown⟩
  · have g1 : (r == r') = false := by simpa using h1
    have HV := Lib.hid (show iddEq ⟨r, s⟩ ⟨r', s'⟩ = false by simp [iddEq, h1])
    go_enter Try.func167, Try.ntmps167
    go_wp2
    go_returns
    exact ⟨ret_bool (by rw [HV.out]), by go_grown⟩
set_option maxRecDepth 8000 in
theorem lead_idx (A : Option Addr) (n c : Nat) (l : List Lea) (id : Idd) (B : Nat) (w : World) (h : RowR leaR 8 w A n c l) (hb : leasB l) (h0 : w.cell? ⟨B, 0, none⟩ = some (.int .i64 id.r)) (h1 : w.cell? ⟨B, 1, none⟩ = some (.int .i64 id.s)) :
    Calls Try.prog 166 #[.slice A n c, .func (.func 167) #[] #[.pointer (some ⟨B, 0, none⟩)]] w fun r w' => r = .returned (.int .i64 (ledI l 0 id)) ∧ Below w.heap.size w w' := by
  have HL := Lib.hid h.len.symm
  have hn : n ≤ 9223372036854775807 := by have := h.len; have := hb.1; omega
  go_enter Try.func166, Try.ntmps166
  go_wp2
  go_loopw [8] (fun i wr => ∃ k : Nat, k ≤ n ∧ i = .int .i64 k ∧ ledI l 0 id = ledI (l.drop k) k id ∧ Below w.heap.size w wr) (fun i _ => n - (intOf i).toNat)
  case atStart => exact ⟨0, Nat.zero_le _, rfl, rfl, Below.refl _ _⟩
  case round =>
    obtain ⟨k, hk, rfl, hx, hbr⟩ := hrel
    have HX := Lib.hid hx; clear hx
    by_cases hlt : k < n
    · obtain ⟨b, off, rfl⟩ := h.head (by omega)
      obtain ⟨bl, x, cs, hx, ⟨A1, n1, c1, A2, n2, c2, rfl, _, _⟩, hcell⟩ := h.elem_at hlt
      have hcr : wr.rangeAt b (off + k * 8) (leaL x (.slice A1 n1 c1) (.slice A2 n2 c2)) := fun j v hv => (hbr.cell (p := ⟨b, off + k * 8 + j, none⟩) bl).trans (hcell j v hv)
      have HP := Lib.hid (ledI_drop id (show k < l.length by have := HL.out; omega))
      have HA := Lib.hid (leaAt_of hx)
      have g0 := keep_cell hbr h0
      have g1 := keep_cell hbr h1
      clear hx hcell
      unfold leaL at hcr
      repeat (first | ((with_reducible refine wpList_load_o 170 (.tmp 14) b (off + k * 8) _ _ hcr Try.underlying170 sizeLead0 ?_ ?_ ?_ ?_ ?_ ?_); (rfl); (rfl); (rfl); (rfl); (rfl)) | go_values | go_skip | go_guarded | go_step | go_upon | (simp only []; go_at_K))
      refine (lead_fn x id _ _ B _ g0 g1).mono ?_
      rintro r w1 ⟨rfl, hb1⟩
      obtain ⟨q, hq⟩ : ∃ q, iddEq x.id id = q := ⟨_, rfl⟩
      have HQ := Lib.hid hq
      rw [hq]
      clear hq
      cases q
      · go_wp2
        exact ⟨⟨k + 1, by omega, by go_num, by rw [HX.out, HP.out, HA.out, HQ.out]; rfl, bthen hbr hb1⟩, by simp [intOf]; omega⟩
      · go_wp2
        go_returns
        exact ⟨by rw [HX.out, HP.out, HA.out, HQ.out]; rfl, bthen hbr hb1⟩
    · go_wp2
      go_returns
      obtain rfl : k = n := by omega
      exact ⟨by rw [HX.out, List.drop_eq_nil_of_le (by have := HL.out; omega)]; rfl, hbr⟩
set_option maxRecDepth 8000 in
theorem lead_impl (l : List Lea) (id : Idd) (B : Nat) (A : Option Addr) (n c : Nat) (w : World) (h : RowR leaR 8 w A n c l) (hb : leasB l) (hB : w.cell? ⟨B, 3, none⟩ = some (.slice A n c)) :
    Calls Try.prog 146 #[.pointer (some ⟨B, 0, none⟩), iddV id] w fun r w' => r = .returned (.int .i64 (ledI l 0 id)) ∧ Below w.heap.size w w' := by
  have hlt := cell_lt hB
  have al := (Below.refl w.heap.size w).alloc (Nat.le_refl _) (.cells #[.int .i64 id.r, .int .i64 id.s] 46)
  have BX := BoxL.new w [.int .i64 id.r, .int .i64 id.s] 46
  unfold iddV
  go_enter Try.func146, Try.ntmps146
  go_wp2_with fail
  refine (lead_idx A n c l id w.heap.size _ (h.keep leaK al) hb (BX.cell 0 _ rfl) (BX.cell 1 _ rfl)).mono ?_
  rintro r w1 ⟨rfl, hb1⟩
  go_wp2
  go_returns
  exact ⟨rfl, bthen al hb1⟩
set_option maxRecDepth 8000 in
theorem l9At_spec (l : List Lea) (id : Idd) (me nx : Int) (A1 : Option Addr) (n1 c1 : Nat) (A : Option Addr) (n c : Nat) (w : World) (h : RowR leaR 8 w A n c l) (hb : leasB l) :
    Calls Try.prog 138 #[.agg #[.int .i64 me, .int .i64 nx, .slice A1 n1 c1, .slice A n c], iddV id] w fun r w' => r = .returned (.int .i64 (ledI l 0 id)) ∧ Below w.heap.size w w' := by
  have HL := Lib.hid h.len.symm
  have hn : n ≤ 9223372036854775807 := by have := h.len; have := hb.1; omega
  have al := (Below.refl w.heap.size w).alloc (Nat.le_refl _) (.cells #[.int .i64 me, .int .i64 nx, .slice A1 n1 c1, .slice A n c] 67)
  have N0 := BoxL.new w [.int .i64 me, .int .i64 nx, .slice A1 n1 c1, .slice A n c] 67
  obtain ⟨W1, hW1⟩ : ∃ W, W = w.alloc (.cells #[.int .i64 me, .int .i64 nx, .slice A1 n1 c1, .slice A n c] 67) := ⟨_, rfl⟩
  have z1 : W1.heap.size = w.heap.size + 1 := by rw [hW1]; simp
  have HW1 := Lib.hid hW1
  rw [← hW1] at al N0
  clear hW1
  have al2 := (Below.refl W1.heap.size W1).alloc (Nat.le_refl _) (.cells #[.int .i64 id.r, .int .i64 id.s] 46)
  have J0 := BoxL.new W1 [.int .i64 id.r, .int .i64 id.s] 46
  have N1 := N0.keep al2
  have hB := bthen al al2
  rw [HW1.out] at N1 hB J0
  have hz : (w.alloc (.cells #[.int .i64 me, .int .i64 nx, .slice A1 n1 c1, .slice A n c] 67)).heap.size = w.heap.size + 1 := by simp
  rw [hz] at J0
  clear al al2 N0 hz z1 HW1
  unfold iddV
  go_enter Try.func138, Try.ntmps138
  go_wp2_with fail
  obtain ⟨W, hW⟩ : ∃ W, W = (w.alloc (.cells #[.int .i64 me, .int .i64 nx, .slice A1 n1 c1, .slice A n c] 67)).alloc (.cells #[.int .i64 id.r, .int .i64 id.s] 46) := ⟨_, rfl⟩
  rw [← hW] at N1 hB J0 ⊢
  clear hW
  obtain ⟨g, hg⟩ : ∃ g, w.heap.size = g := ⟨_, rfl⟩
  have HG := Lib.hid hg
  simp only [hg] at N1 J0 ⊢
  clear hg
  go_loopw [5] (fun i wr => ∃ k : Nat, k ≤ n ∧ i = .int .i64 k ∧ ledI l 0 id = ledI (l.drop k) k id ∧ Below W.heap.size W wr) (fun i _ => n - (intOf i).toNat)
  case atStart => exact ⟨0, Nat.zero_le _, rfl, rfl, Below.refl _ _⟩
  case round =>
    obtain ⟨k, hk, rfl, hx, hbr⟩ := hrel
    have HX := Lib.hid hx; clear hx
    have N2 := N1.keep hbr
    have J2 := J0.keep hbr
    have e3 := N2.cell 3 _ rfl
    have j0 := J2.cell 0 _ rfl
    have j1 := J2.cell 1 _ rfl
    have hgl := N2.lt
    have hjl := J2.lt
    have hbw := bthen hB hbr
    by_cases hlt : k < n
    · obtain ⟨b, off, rfl⟩ := h.head (by omega)
      obtain ⟨bl, x, cs, hx, ⟨B1, m1, d1, B2, m2, d2, rfl, _, _⟩, hcell⟩ := h.elem_at hlt
      have e0 := (hbw.cell (p := ⟨b, off + k * 8, none⟩) bl).trans (show w.cell? ⟨b, off + k * 8, none⟩ = some (.int .i64 x.id.r) from hcell 0 _ rfl)
      have e1 := (hbw.cell (p := ⟨b, off + k * 8 + 1, none⟩) bl).trans (show w.cell? ⟨b, off + k * 8 + 1, none⟩ = some (.int .i64 x.id.s) from hcell 1 _ rfl)
      have hbs := cell_lt e0
      have HP := Lib.hid (ledI_drop id (show k < l.length by have := HL.out; omega))
      have HA := Lib.hid (leaAt_of hx)
      clear hx hcell
      obtain ⟨⟨r, s⟩, y1, y2, y3, y4, y5, y6⟩ := x
      obtain ⟨r', s'⟩ := id
      simp only at e0 e1 j0 j1
      by_cases h1 : r = r' ∧ s = s'
      · obtain ⟨rfl, rfl⟩ := h1
        have HQ := Lib.hid (show iddEq ⟨r, s⟩ ⟨r, s⟩ = true by simp [iddEq])
        go_wp2
        refine wp_region_grow (by kernel_rfl) (by kernel_rfl) ?_
        repeat (first | go_big_quiet_step (fail))
        refine wpQuiet_nil ?_
        intro _ hw'
        obtain ⟨⟨w4, hb4⟩, hw''⟩ := hw'
        change _ = w4 at hw''
        subst hw''
        go_wp2
        go_returns
        exact ⟨by rw [HX.out, HP.out, HA.out]; simp only [HQ.out]; rfl, bthen hbw hb4⟩
      · by_cases h2 : r = r'
        · have h3 : ¬ s = s' := fun e => h1 ⟨h2, e⟩
          have g3 : (s == s') = false := by simpa using h3
          clear h1
          subst h2
          have HQ := Lib.hid (show iddEq ⟨r, s⟩ ⟨r, s'⟩ = false by simp [iddEq, h3])
          go_wp2
          refine wp_region_grow (by kernel_rfl) (by kernel_rfl) ?_
          repeat (first | go_big_quiet_step (fail))
          refine wpQuiet_nil ?_
          intro _ hw'
          obtain ⟨⟨w4, hb4⟩, hw''⟩ := hw'
          change _ = w4 at hw''
          subst hw''
          go_wp2
          exact ⟨⟨k + 1, by omega, by go_num, by rw [HX.out, HP.out, HA.out]; simp only [HQ.out]; rfl, bthen hbr hb4⟩, by simp [intOf]; omega⟩
        · have g2 : (r == r') = false := by simpa using h2
          clear h1
          have HQ := Lib.hid (show iddEq ⟨r, s⟩ ⟨r', s'⟩ = false by simp [iddEq, h2])
          go_wp2
          refine wp_region_grow (by kernel_rfl) (by kernel_rfl) ?_
          repeat (first | go_big_quiet_step (fail))
          refine wpQuiet_nil ?_
          intro _ hw'
          obtain ⟨⟨w4, hb4⟩, hw''⟩ := hw'
          change _ = w4 at hw''
          subst hw''
          go_wp2
          exact ⟨⟨k + 1, by omega, by go_num, by rw [HX.out, HP.out, HA.out]; simp only [HQ.out]; rfl, bthen hbr hb4⟩, by simp [intOf]; omega⟩
    · go_wp2
      go_returns
      obtain rfl : k = n := by omega
      exact ⟨by rw [HX.out, List.drop_eq_nil_of_le (by have := HL.out; omega)]; rfl, hbw⟩
end Go.Proofs.Ytdphdnllhmnelaa
