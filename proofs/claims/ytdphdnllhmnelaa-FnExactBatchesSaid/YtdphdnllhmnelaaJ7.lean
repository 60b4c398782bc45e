/- Contracts and lemmas: BatchesS. -/
import Derived.Test.YtdphdnllhmnelaaJ6
/- Contract of the reference's Batches. -/
namespace Go.Proofs.Ytdphdnllhmnelaa
open Go.RowKit
attribute [local go_sem] Grow.cell Grow.frozen
theorem rowOf_step (l : List Cm) (i b : Nat) (q : Bool) (h : (lv l i == b) = q) : rowOf l (i + 1) b = rowOf l i b ++ (if q = true then [(i : Int)] else []) := by rw [rowOf_succ, h]
theorem rowsOf_take (l : List Cm) (n b : Nat) (h : b < mxL l n) : (rowsOf l n).take (b + 1) = (rowsOf l n).take b ++ [rowOf l n b] := take_more (rowsOf_at l n b h)
theorem RowF.frz {e lo hi : Nat} {w : World} {g n c : Nat} {f : Nat → Value} (h : RowF e lo hi w (some ⟨g, 0, none⟩) n c f) (j : Nat) : w.frozen? ⟨g, j, none⟩ = false := (RowIn.own h).frozenAt j
theorem RowF.at_ {e lo hi : Nat} {w : World} {g n c : Nat} {f : Nat → Value} (h : RowF e lo hi w (some ⟨g, 0, none⟩) n c f) {j : Nat} (hj : j < n) : w.cell? ⟨g, j, none⟩ = some (f j) := by
  obtain ⟨b, off, hA, _, hc⟩ := h.vals (by omega)
  injection hA with hA; injection hA with e1 e2 _
  subst e1 e2
  simpa using hc j hj
attribute [local irreducible] StrR IntR StrO IntO RowR RowO StrsAt IntsAt clashB cmsOkB lv lvTo mxL rowsOf rowOf lvI batchL RowF
set_option maxRecDepth 8000 in
set_option maxHeartbeats 4000000 in
theorem batches_spec (l : List Cm) (A : Option Addr) (n c : Nat) (w : World) (h : RowR cmR 8 w A n c l) (hb : cmsB l) :
    Calls Try.prog 11 #[.slice A n c] w fun e w' => ∃ A' n' c', e = .returned (.slice A' n' c') ∧ RowI intF 78 1 w.heap.size w'.heap.size w' A' n' c' (batchL l) ∧ Below w.heap.size w w' := by
  have HL := Lib.hid h.len.symm
  have al0 := (Below.refl w.heap.size w).alloc (Nat.le_refl _) (.cells #[] 78)
  have hOA := own_up (own_empty w 78 1 (Nat.le_refl w.heap.size)) (Nat.zero_le _)
  go_enter Try.func11, Try.ntmps11
  go_wp2_with fail
  refine (l34Ok_spec l _ _ _ _ (h.keep cmK al0) hb).mono ?_
  rintro e w1 ⟨rfl, hb1⟩
  have hz1 := hb1.size
  simp only [World.size_alloc] at hz1
  have hO1 := own_ch hOA (Ch.of_below (S := fun _ => False) hb1) (fun _ _ h => h)
  have hb1w := bthen al0 hb1
  obtain ⟨q, hq⟩ : ∃ q, cmsOkB l = q := ⟨_, rfl⟩
  rw [hq]
  cases q
  · have HB := Lib.hid (show batchL l = [] by unfold batchL; rw [hq]; rfl)
    clear hq
    go_wp2
    go_returns
    have hI : RowI intF 78 1 w.heap.size w1.heap.size w1 (some ⟨w.heap.size, 0, none⟩) 0 0 ([] : List (List Int)) := ⟨blkL (some ⟨w.heap.size, 0, none⟩) ++ ([] : List (List Nat)).flatten, by simp [blkL], fun b hb => by simp [blkL] at hb; omega, RowO.intro (css := []) (fps := []) hO1 rfl Els.nil⟩
    exact ⟨_, 0, 0, rfl, by rw [HB.out]; exact hI, hb1w⟩
  · have HB := Lib.hid (show batchL l = rowsOf l l.length by unfold batchL; rw [if_pos hq])
    have hn10 : n ≤ 10 := by have := cmsOk_len hq; have := HL.out; omega
    clear hq
    have h1 := h.keep cmK hb1w
    go_wp2_with (refine wpList_mk (P := Try.prog) _ rfl _ _ 78 rfl w1.heap.size 3 _ 1 8 Try.underlying78 infoInt _ _ _ _ n rfl rfl rfl rfl (by omega) (by unfold maxLen; omega) (Nat.le_refl _) ?_; intro w2 hown2 hg2 hb2)
    have hR : RowF 3 w1.heap.size (w1.heap.size + 1) w2 (some ⟨w1.heap.size, 0, none⟩) n n (fun j => .int .i64 (if j < 0 then ((lv l j : Nat) : Int) else 0)) := by
      have hx : (madeCells (Value.int .i64 0).cells (n * 1)).toList = List.replicate n (.int .i64 0) := by rw [Nat.mul_one]; exact toList_madeCells_one _ n
      rw [hx] at hown2
      have h3 : RowF 3 w1.heap.size w2.heap.size w2 (some ⟨w1.heap.size, 0, none⟩) n n (fun j => .int .i64 (if j < 0 then ((lv l j : Nat) : Int) else 0)) := RowF.of_own hown2 (fun j hj => by simp [hj])
      unfold RowF at h3 ⊢
      exact ⟨h3.own, fun g hg => by have := hg.eq; omega⟩
    have hG2 : w1.heap.size < w2.heap.size := (own_lo hown2 w1.heap.size (by simp [blkL])).2
    clear hown2 hg2 hOA al0 hb1 h
    go_loopw [5, 6] (fun m i wr => ∃ (k : Nat), k ≤ n ∧ i = .int .i64 k ∧ m = .int .i64 (((mxL l k : Nat) : Int) - 1) ∧ RowF 3 w1.heap.size (w1.heap.size + 1) wr (some ⟨w1.heap.size, 0, none⟩) n n (fun j => .int .i64 (if j < k then ((lv l j : Nat) : Int) else 0)) ∧ w1.heap.size < wr.heap.size ∧ Below w1.heap.size w1 wr) (fun _ i _ => n - (intOf i).toNat)
    case atStart => exact ⟨0, Nat.zero_le _, rfl, by rw [mxL_zero]; rfl, hR, hG2, hb2⟩
    case round =>
      clear hR hG2 hb2
      obtain ⟨i, hi, rfl, rfl, hR, hGr, hbr⟩ := hrel
      have hmx : mxL l i ≤ i := mxL_le l i
      have hmx1 : mxL l (i + 1) ≤ i + 1 := mxL_le l (i + 1)
      by_cases hlt : i < n
      · have hRi : RowF 3 w1.heap.size (w1.heap.size + 1) wr (some ⟨w1.heap.size, 0, none⟩) n n (fun j => .int .i64 (if j < i then ((lv l j : Nat) : Int) else if j = i then ((lvTo l (lv l) i 0 : Nat) : Int) else 0)) := hR.congr (fun j hj => by
          have e0 : lvTo l (lv l) i 0 = 0 := by unfold lvTo; rfl
          rw [e0]
          by_cases h1 : j < i
          · simp [h1]
          · by_cases h2 : j = i <;> simp [h1, h2])
        clear hR
        go_wp2
        go_loopw [7] (fun t wr => ∃ (k : Nat), k ≤ i ∧ t = .int .i64 k ∧ RowF 3 w1.heap.size (w1.heap.size + 1) wr (some ⟨w1.heap.size, 0, none⟩) n n (fun j => .int .i64 (if j < i then ((lv l j : Nat) : Int) else if j = i then ((lvTo l (lv l) i k : Nat) : Int) else 0)) ∧ w1.heap.size < wr.heap.size ∧ Below w1.heap.size w1 wr) (fun t _ => i - (intOf t).toNat)
        case atStart => exact ⟨0, Nat.zero_le _, rfl, hRi, hGr, hbr⟩
        case round =>
          clear hRi hGr hbr
          obtain ⟨k, hk, rfl, hR, hGr, hbr⟩ := hrel
          have hlvb : lvTo l (lv l) i k ≤ 10 := by have := lvTo_le l i k; have := mxL_le l k; omega
          by_cases hlk : k < i
          · obtain ⟨b, off, rfl⟩ := h1.head (by omega)
            obtain ⟨bl, x, cs, hx, ⟨A1, n1, c1, rfl, hx1⟩, hcx⟩ := h1.elem_at (i := i) hlt
            obtain ⟨_, y, cs', hy, ⟨A2, n2, c2, rfl, hy1⟩, hcy⟩ := h1.elem_at (i := k) (by omega)
            have x0 := (hbr.cell (p := ⟨b, off + i * 8, none⟩) bl).trans (show w1.cell? ⟨b, off + i * 8, none⟩ = some (.int .i64 x.kd) from hcx 0 _ rfl)
            have x1 := (hbr.cell (p := ⟨b, off + i * 8 + 1, none⟩) bl).trans (show w1.cell? ⟨b, off + i * 8 + 1, none⟩ = some (.int .i64 x.cl) from hcx 1 _ rfl)
            have x2 := (hbr.cell (p := ⟨b, off + i * 8 + 2, none⟩) bl).trans (show w1.cell? ⟨b, off + i * 8 + 2, none⟩ = some (.int .i64 x.no) from hcx 2 _ rfl)
            have x3 := (hbr.cell (p := ⟨b, off + i * 8 + 3, none⟩) bl).trans (show w1.cell? ⟨b, off + i * 8 + 3, none⟩ = some (.string x.s) from hcx 3 _ rfl)
            have x4 := (hbr.cell (p := ⟨b, off + i * 8 + 4, none⟩) bl).trans (show w1.cell? ⟨b, off + i * 8 + 4, none⟩ = some (.string x.nm) from hcx 4 _ rfl)
            have x5 := (hbr.cell (p := ⟨b, off + i * 8 + 5, none⟩) bl).trans (show w1.cell? ⟨b, off + i * 8 + 5, none⟩ = some (.string x.tg) from hcx 5 _ rfl)
            have x6 := (hbr.cell (p := ⟨b, off + i * 8 + 6, none⟩) bl).trans (show w1.cell? ⟨b, off + i * 8 + 6, none⟩ = some (.int .i64 x.n) from hcx 6 _ rfl)
            have x7 := (hbr.cell (p := ⟨b, off + i * 8 + 7, none⟩) bl).trans (show w1.cell? ⟨b, off + i * 8 + 7, none⟩ = some (.slice A1 n1 c1) from hcx 7 _ rfl)
            have y0 := (hbr.cell (p := ⟨b, off + k * 8, none⟩) bl).trans (show w1.cell? ⟨b, off + k * 8, none⟩ = some (.int .i64 y.kd) from hcy 0 _ rfl)
            have y1 := (hbr.cell (p := ⟨b, off + k * 8 + 1, none⟩) bl).trans (show w1.cell? ⟨b, off + k * 8 + 1, none⟩ = some (.int .i64 y.cl) from hcy 1 _ rfl)
            have y2 := (hbr.cell (p := ⟨b, off + k * 8 + 2, none⟩) bl).trans (show w1.cell? ⟨b, off + k * 8 + 2, none⟩ = some (.int .i64 y.no) from hcy 2 _ rfl)
            have y3 := (hbr.cell (p := ⟨b, off + k * 8 + 3, none⟩) bl).trans (show w1.cell? ⟨b, off + k * 8 + 3, none⟩ = some (.string y.s) from hcy 3 _ rfl)
            have y4 := (hbr.cell (p := ⟨b, off + k * 8 + 4, none⟩) bl).trans (show w1.cell? ⟨b, off + k * 8 + 4, none⟩ = some (.string y.nm) from hcy 4 _ rfl)
            have y5 := (hbr.cell (p := ⟨b, off + k * 8 + 5, none⟩) bl).trans (show w1.cell? ⟨b, off + k * 8 + 5, none⟩ = some (.string y.tg) from hcy 5 _ rfl)
            have y6 := (hbr.cell (p := ⟨b, off + k * 8 + 6, none⟩) bl).trans (show w1.cell? ⟨b, off + k * 8 + 6, none⟩ = some (.int .i64 y.n) from hcy 6 _ rfl)
            have y7 := (hbr.cell (p := ⟨b, off + k * 8 + 7, none⟩) bl).trans (show w1.cell? ⟨b, off + k * 8 + 7, none⟩ = some (.slice A2 n2 c2) from hcy 7 _ rfl)
            clear hcx hcy
            have hbrs : b < wr.heap.size := Nat.lt_of_lt_of_le bl hbr.size
            have hbx := bounds_el hb.2 hx
            have hby := bounds_el hb.2 hy
            have hx2 := hx1.keep hbr
            have hy2 := hy1.keep hbr
            have hcm : cmAt l k = y := cmAt_of hy
            have hcx : cmAt l i = x := cmAt_of hx
            have HST := Lib.hid (show lvTo l (lv l) i (k + 1) = if clashB x y = true then max (lvTo l (lv l) i k) (lv l k + 1) else lvTo l (lv l) i k by rw [lvTo, hcm, hcx, sameBA_symm])
            clear hcm hcx
            have v0 := hR.at_ (j := k) (by omega)
            have v1 := hR.at_ (j := i) hlt
            simp only [hlk, if_true] at v0
            simp only [Nat.lt_irrefl, if_false, if_true] at v1
            have hlk2 : lv l k ≤ 10 := by have := lv_le l k; have := mxL_le l k; omega
            obtain ⟨q, hq⟩ : ∃ q, clashB x y = q := ⟨_, rfl⟩
            rw [hq] at HST
            have HQ := Lib.hid hq; clear hq
            cases q
            · go_wp2
              refine wp_region_grow (by kernel_rfl) (by kernel_rfl) ?_
              repeat (go_big_quiet_step ((go_at_call 52; exact grow_of (known HQ.out (clash_spec x y _ _ _ _ _ _ _ (hx2.keep (Grow.below _)) (hy2.keep (Grow.below _)) hbx hby)))))
              refine wpQuiet_nil ?_
              intro _ hw'
              obtain ⟨⟨w4, hb4⟩, hw''⟩ := hw'
              change _ = w4 at hw''
              subst hw''
              go_wp2
              refine ⟨⟨k + 1, by omega, by go_num, ?_, Nat.lt_of_lt_of_le hGr hb4.size, bthen hbr hb4⟩, by simp [intOf]; omega⟩
              rw [HST.out]; exact hR.keep hb4
            · by_cases hge : lvTo l (lv l) i k ≤ lv l k
              · have gd : decide (((lv l k : Nat) : Int) ≥ ((lvTo l (lv l) i k : Nat) : Int)) = true := by simp; omega
                have HGE := Lib.hid hge; clear hge
                go_wp2
                refine wp_region_grow (by kernel_rfl) (by kernel_rfl) ?_
                repeat (go_big_quiet_step ((go_at_call 52; exact grow_of (known HQ.out (clash_spec x y _ _ _ _ _ _ _ (hx2.keep (Grow.below _)) (hy2.keep (Grow.below _)) hbx hby)))))
                refine wpQuiet_nil ?_
                intro _ hw'
                obtain ⟨⟨w4, hb4⟩, hw''⟩ := hw'
                change _ = w4 at hw''
                subst hw''
                have hR4 := hR.keep hb4
                have u0 := keep_cell hb4 v0
                have u1 := keep_cell hb4 v1
                have y9 := hR4.frz i
                clear v0 v1
                have hGr4 := Nat.lt_of_lt_of_le hGr hb4.size
                have hbr4 := bthen hbr hb4
                go_wp2
                refine ⟨⟨k + 1, by omega, by go_num, ?_, by simpa using hGr4, hbr4.setCell (Nat.le_refl _) _⟩, by simp [intOf]; omega⟩
                refine (hR4.store i (.int .i64 (((lv l k : Nat) : Int) + 1))).congr (fun j hj => ?_)
                have hm : lvTo l (lv l) i (k + 1) = lv l k + 1 := by rw [HST.out]; simp only [if_true]; have := HGE.out; omega
                rw [hm]
                by_cases e1 : j = i
                · subst e1; simp
                · by_cases e2 : j < i <;> simp [e1, e2]
              · have gd : decide (((lv l k : Nat) : Int) ≥ ((lvTo l (lv l) i k : Nat) : Int)) = false := by simp; omega
                have HGE := Lib.hid hge; clear hge
                go_wp2
                refine wp_region_grow (by kernel_rfl) (by kernel_rfl) ?_
                repeat (go_big_quiet_step ((go_at_call 52; exact grow_of (known HQ.out (clash_spec x y _ _ _ _ _ _ _ (hx2.keep (Grow.below _)) (hy2.keep (Grow.below _)) hbx hby)))))
                refine wpQuiet_nil ?_
                intro _ hw'
                obtain ⟨⟨w4, hb4⟩, hw''⟩ := hw'
                change _ = w4 at hw''
                subst hw''
                go_wp2
                refine ⟨⟨k + 1, by omega, by go_num, ?_, Nat.lt_of_lt_of_le hGr hb4.size, bthen hbr hb4⟩, by simp [intOf]; omega⟩
                have hm : lvTo l (lv l) i (k + 1) = lvTo l (lv l) i k := by rw [HST.out]; simp only [if_true]; have := HGE.out; omega
                rw [hm]; exact hR.keep hb4
          · have hki : k = i := by omega
            subst hki
            have hR2 : RowF 3 w1.heap.size (w1.heap.size + 1) wr (some ⟨w1.heap.size, 0, none⟩) n n (fun j => .int .i64 (if j < (k + 1) then ((lv l j : Nat) : Int) else 0)) := hR.congr (fun j hj => by
              by_cases e1 : j < k
              · have e2 : j < k + 1 := by omega
                simp [e1, e2]
              · by_cases e3 : j = k
                · subst e3; simp [← lv_eq]
                · have e2 : ¬ j < k + 1 := by omega
                  simp [e1, e2, e3])
            clear hR
            have v1 := hR2.at_ (j := k) hlt
            simp only [Nat.lt_succ_self, if_true] at v1
            have hs := mxL_succ l k
            have hl10 := lv_le l k
            by_cases hgt : mxL l k ≤ lv l k
            · have gd : decide (((lv l k : Nat) : Int) > ((mxL l k : Nat) : Int) - 1) = true := by simp; omega
              have HGT := Lib.hid hgt; clear hgt
              have HS := Lib.hid hs; clear hs
              go_wp2
              exact ⟨⟨k + 1, by omega, by go_num, by congr 1; have := HS.out; have := HGT.out; omega, hR2, hGr, hbr⟩, by simp [intOf]; omega⟩
            · have gd : decide (((lv l k : Nat) : Int) > ((mxL l k : Nat) : Int) - 1) = false := by simp; omega
              have HGT := Lib.hid hgt; clear hgt
              have HS := Lib.hid hs; clear hs
              go_wp2
              exact ⟨⟨k + 1, by omega, by go_num, by congr 1; have := HS.out; have := HGT.out; omega, hR2, hGr, hbr⟩, by simp [intOf]; omega⟩
      · have hin : i = n := by omega
        subst hin
        have hRn : RowF 3 w1.heap.size (w1.heap.size + 1) wr (some ⟨w1.heap.size, 0, none⟩) i i (fun j => .int .i64 ((lv l j : Nat) : Int)) := hR.congr (fun j hj => by simp [hj])
        clear hR
        have hOw := own_ch hO1 (Ch.of_below (S := fun _ => False) hbr) (fun _ _ h => h)
        have hm10 : mxL l i ≤ 10 := by omega
        go_wp2
        go_loopw [3, 8] (fun o t wr => ∃ (b : Nat) (O : Option Addr) (co : Nat) (css : List (List Value)) (fps : List (List Nat)), b ≤ mxL l i ∧ t = .int .i64 b ∧ o = .slice O b co ∧ wr.ownsRow 0 78 1 (.slice O b co) b css.flatten ∧ Els intF wr css fps ((rowsOf l i).take b) ∧ (blkL O ++ fps.flatten).Nodup ∧ (∀ x ∈ blkL O ++ fps.flatten, w.heap.size ≤ x ∧ x < wr.heap.size ∧ ¬ x = w1.heap.size) ∧ RowF 3 w1.heap.size (w1.heap.size + 1) wr (some ⟨w1.heap.size, 0, none⟩) i i (fun j => .int .i64 ((lv l j : Nat) : Int)) ∧ Below w.heap.size w wr ∧ w1.heap.size < wr.heap.size) (fun _ t _ => mxL l i - (intOf t).toNat)
        case atStart =>
          refine ⟨0, _, 0, [], [], Nat.zero_le _, rfl, rfl, hOw, Els.nil, by simp [blkL], fun x hx => ?_, hRn, bthen hb1w hbr, hGr⟩
          simp [blkL] at hx; omega
        case round =>
          clear hRn hOw hbr hGr hO1 hb1w
          obtain ⟨b, O, co, css, fps, hbm, rfl, rfl, hOo, hOE, hND, hBD, hRn, hbw, hGr⟩ := hrel
          by_cases hblt : b < mxL l i
          · have gle : (b : Int) ≤ ((mxL l i : Nat) : Int) - 1 := by omega
            have al := (Below.refl wr.heap.size wr).alloc (Nat.le_refl _) (.cells #[] 3)
            have q0 : IntO (blkL (some ⟨wr.heap.size, 0, none⟩)) (wr.alloc (.cells #[] 3)) (some ⟨wr.heap.size, 0, none⟩) 0 0 [] := IntO.mk' (by simpa using own_empty wr 3 1 (Nat.zero_le _))
            have hRa := hRn.keep al
            have hOa := own_ch hOo (Ch.of_below (S := fun _ => False) al) (fun _ _ h => h)
            have hEa := hOE.keep intK al
            have hba := bthen hbw al
            have hwz := hbw.size
            have hEl := hOE.lt intK
            have hOl := own_lo hOo
            clear hRn hOo hOE
            go_wp2
            obtain ⟨V, hV⟩ : ∃ V, V = wr.alloc (.cells #[] 3) := ⟨_, rfl⟩
            have hVs : V.heap.size = wr.heap.size + 1 := by rw [hV]; simp
            rw [← hV] at q0 hRa hOa hEa hba al ⊢
            clear hV
            obtain ⟨B0, hB0⟩ : ∃ B, B = wr.heap.size := ⟨_, rfl⟩
            rw [← hB0] at hBD hGr hVs hwz hEl hOl q0 ⊢
            clear hB0
            go_loopw [9, 10] (fun r t wr => ∃ (j : Nat) (R : Option Addr) (cr : Nat), j ≤ i ∧ t = .int .i64 j ∧ r = .slice R (rowOf l j b).length cr ∧ IntO (blkL R) wr R (rowOf l j b).length cr (rowOf l j b) ∧ (∀ x ∈ blkL R, B0 ≤ x ∧ x < wr.heap.size) ∧ V.heap.size ≤ wr.heap.size ∧ Below B0 V wr) (fun _ t _ => i - (intOf t).toNat)
            case atStart =>
              have e0 : rowOf l 0 b = [] := by unfold rowOf; rfl
              exact ⟨0, some ⟨B0, 0, none⟩, 0, Nat.zero_le _, rfl, by rw [e0]; rfl, by rw [e0]; exact q0, fun x hx => by simp [blkL] at hx; omega, Nat.le_refl _, Below.refl _ _⟩
            case round =>
              clear q0
              obtain ⟨j, R, cr, hj, rfl, rfl, hRo, hRb, hVz, hbV⟩ := hrel
              have hv0 := fun hji : j < i => (hbV.cell (p := ⟨w1.heap.size, j, none⟩) hGr).trans (hRa.at_ (j := j) hji)
              have hrl := rowOf_len l j b
              by_cases hji : j < i
              · have v0 := hv0 hji
                clear hv0
                obtain ⟨q, hq⟩ : ∃ q, (lv l j == b) = q := ⟨_, rfl⟩
                have HS := Lib.hid (rowOf_step l j b q hq)
                cases q
                · have gd : (((lv l j : Nat) : Int) == (b : Int)) = false := by have : ¬ lv l j = b := by simpa using hq
                                                                                simp; omega
                  clear hq
                  have HR : rowOf l (j + 1) b = rowOf l j b := by rw [HS.out]; simp
                  have HRh := Lib.hid HR; clear HR
                  go_wp2
                  refine ⟨⟨j + 1, R, cr, by omega, by go_num, by rw [HRh.out], by rw [HRh.out]; exact hRo, hRb, hVz, hbV⟩, by simp [intOf]; omega⟩
                · have gd : (((lv l j : Nat) : Int) == (b : Int)) = true := by have : lv l j = b := by simpa using hq
                                                                               simp [this]
                  clear hq
                  have HR : rowOf l (j + 1) b = rowOf l j b ++ [(j : Int)] := by rw [HS.out]; simp
                  have HRh := Lib.hid HR; clear HR
                  have hRw := hRo.own.2
                  go_wp2_with (first | (at_builtin; refine wpList_app1g (P := Try.prog) wr rfl (.tmp 86) (.tmp 88) 78 rfl 0 3 _ 1 8 Try.underlying78 infoInt rfl (by omega) (.slice R (rowOf l j b).length cr) _ _ rfl hRw _ _ rfl (by simp) rfl (by simp [Value.oneCell']) (by unfold maxLen; omega) (by omega) (Nat.zero_le _) ?_; intro R' cr' w5 hR5 hgR hbR hobR; refine stop_of ?_) | fail)
                  have hC5 : Ch (fun x => x ∈ blkL R) wr w5 := (Ch.of_grow hgR).mono (fun x hx => mem_blkL.2 (blk_of hx))
                  have hz5 := hC5.size
                  have hR5' : IntO (blkL R') w5 R' ((rowOf l j b).length + 1) cr' (rowOf l j b ++ [(j : Int)]) := IntO.mk' (by simpa using hR5)
                  have hlt5 := hR5'.lt
                  have hRn : ∀ x ∈ blkL R', B0 ≤ x ∧ x < w5.heap.size := fun x hx => by
                    have h1 := blk_own (n := (rowOf l j b).length + 1) (c := cr') (mem_blkL.1 hx)
                    have h3 := hlt5 x hx
                    rcases hobR with h2 | h2
                    · have := hRb x (mem_blkL.2 (blk_of (h2.symm.trans h1))); omega
                    · have := Option.some.inj (h1.symm.trans h2); omega
                  unfold Stop
                  go_wp2
                  have hlen : (rowOf l (j + 1) b).length = (rowOf l j b).length + 1 := by rw [HRh.out]; simp
                  exact ⟨⟨j + 1, R', cr', by omega, by go_num, by rw [hlen], by rw [hlen, HRh.out]; exact hR5', hRn, by omega, hbV.trans (hC5.below (fun x hx => (hRb x hx).1) (by omega))⟩, by simp [intOf]; omega⟩
              · have hjn : j = i := by omega
                subst hjn
                clear hv0
                have hCV : Ch (fun x => B0 ≤ x) V wr := ⟨hbV.os, hbV.tape, hbV.output, hbV.size, fun x _ hx => hbV.block x (by omega)⟩
                have hOb := own_chL hOa hCV (fun x hx => by have := (hOl x hx).2; omega)
                have hEb := hEa.ch intK hCV (fun x hx => by have := hEl x hx; omega)
                have hRb2 := hRa.ch hCV (fun x hx => by unfold Iv at hx; omega)
                have hbb : Below w.heap.size w wr := hba.trans (hbV.mono (by omega))
                clear hOa hEa hRa
                go_wp2_with (first | (at_builtin; refine wpList_app1g (P := Try.prog) wr rfl (.tmp 90) (.tmp 92) 24 rfl 0 78 _ 1 24 Try.underlying24 infoIntS rfl (by omega) (.slice O b co) _ _ rfl hOb _ _ rfl (by simp) rfl (by simp [Value.oneCell']) (by unfold maxLen; omega) (by omega) (Nat.zero_le _) ?_; intro O' co' w6 hO7 hgO hbO hobO; refine stop_of ?_) | fail)
                have hxr : intF (blkL R) wr [.slice R (rowOf l j b).length cr] (rowOf l j b) := ⟨R, _, cr, rfl, hRo⟩
                have hN6 : (blkL O ++ (fps ++ [blkL R]).flatten).Nodup := by
                  rw [List.flatten_append, ← List.append_assoc]
                  exact nodup_new (m := B0) hND (by cases R <;> simp [blkL]) (fun x hx => (hBD x hx).2.1) (fun x hx => (hRb x (by simpa using hx)).1)
                obtain ⟨hE7, hN7, hO7n⟩ := app_els (A := O) (n := b) (c := co) intK hEb hxr hN6 hgO hobO (by omega)
                have hCO : Ch (fun x => x ∈ blkL O) wr w6 := (Ch.of_grow hgO).mono (fun x hx => mem_blkL.2 (blk_of hx))
                have hz6 := hCO.size
                have hO8 : w6.ownsRow 0 78 1 (.slice O' (b + 1) co') (b + 1) (css ++ [([.slice R (rowOf l j b).length cr] : List Value)]).flatten := by rw [flat_snoc]; simpa using hO7
                have hO8lt := own_lo hO8
                have hRf := hRb2.ch hCO (fun x hx h2 => by
                  unfold Iv at hx
                  have h3 := hBD x (List.mem_append_left _ h2)
                  omega)
                rw [← rowsOf_take l j b hblt] at hE7
                unfold Stop
                go_wp2
                refine ⟨⟨b + 1, O', co', _, _, by omega, by go_num, rfl, hO8, hE7, hN7, fun x hx => ?_, hRf, hbb.trans (hCO.below (fun x hx => (hBD x (List.mem_append_left _ hx)).1) hbb.size), by omega⟩, by simp [intOf]; omega⟩
                rcases List.mem_append.1 hx with hx | hx
                · have h8 := hO8lt x hx
                  rcases hO7n x hx with h | h
                  · have := hBD x (List.mem_append_left _ h); omega
                  · omega
                · rw [List.flatten_append] at hx
                  rcases List.mem_append.1 hx with hx | hx
                  · have := hBD x (List.mem_append_right _ hx); omega
                  · have := hRb x (by simpa using hx); omega
          · have gle : ¬ (b : Int) ≤ ((mxL l i : Nat) : Int) - 1 := by omega
            have hbe : b = mxL l i := by omega
            subst hbe
            go_wp2
            go_returns
            rw [HB.out, HL.out]
            rw [List.take_of_length_le (by rw [rowsOf_len]; omega)] at hOE
            exact ⟨O, _, co, rfl, ⟨_, hND, fun x hx => ⟨(hBD x hx).1, (hBD x hx).2.1⟩, RowO.intro hOo (by rw [rowsOf_len]) hOE⟩, hbw⟩
end Go.Proofs.Ytdphdnllhmnelaa
