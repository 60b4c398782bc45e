/- Contracts and lemmas: BatchesS, FitL, KCSnap, KCSet, KCatalog, RowApp, BoxL, RdApp, CopyCat, CatFind. -/
import Derived.Test.YtdphdnllhmnelaaJ21
import Derived.Test.YtdphdnllhmnelaaJ2
import Derived.Test.YtdphdnllhmnelaaJ15
import Derived.Test.YtdphdnllhmnelaaJ17
import Derived.Deep.RegionHeld3
import Derived.StillTailTactics
import Derived.BigQuiet
import Derived.Deep.QuietTactic
import Derived.Test.YtdphdnllhmnelaaJ1
import Derived.Deep.MidRow
import Derived.Test.YtdphdnllhmnelaaJ7
import Derived.Test.YtdphdnllhmnelaaJ4
import Derived.Test.YtdphdnllhmnelaaJ5
/- Contract of the reference's Batches. -/
namespace Go.Proofs.Ytdphdnllhmnelaa
open Go.RowKit
attribute [local go_sem] Grow.cell Grow.frozen
theorem rowOf_step (l : List Cm) (i b : Nat) (q : Bool) (h : (lv l i == b) = q) : rowOf l (i + 1) b = rowOf l i b ++ (if q = true then [(i : Int)] else []) := by rw [rowOf_succ, h]
theorem rowsOf_take (l : List Cm) (n b : Nat) (h : b < mxL l n) : (rowsOf l n).take (b + 1) = (rowsOf l n).take b ++ [rowOf l n b] := take_more (rowsOf_at l n b h)
theorem RowF.frz {e lo hi : Nat} {w : World} {g n c : Nat} {f : Nat → Value} (h : RowF e lo hi w (some ⟨g, 0, none⟩) n c f) (j : Nat) : w.frozen? ⟨g, j, none⟩ = false := (RowIn.own h).frozenAt j
theorem RowF.at_ {e lo hi : Nat} {w : World} {g n c : Nat} {f : Nat → Value} (h : RowF e lo hi w (some ⟨g, 0, none⟩) n c f) {j : Nat} (hj : j < n) : w.cell? ⟨g, j, none⟩ = some (f j) := by
  obtain ⟨b, off, hA, _, hc⟩ := h.vals (by omega)
  injection hA with hA; injection hA with e1 e2 _
  subst e1 e2
  simpa using hc j hj
attribute [local irreducible] StrR IntR StrO IntO RowR RowO StrsAt IntsAt clashB cmsOkB lv lvTo mxL rowsOf rowOf lvI batchL RowF
set_option maxRecDepth 8000 in
set_option maxHeartbeats 4000000 in
theorem batches_spec (l : List Cm) (A : Option Addr) (n c : Nat) (w : World) (h : RowR cmR 8 w A n c l) (hb : cmsB l) :
    Calls Try.prog 11 #[.slice A n c] w fun e w' => ∃ A' n' c', e = .returned (.slice A' n' c') ∧ RowI intF 78 1 w.heap.size w'.heap.size w' A' n' c' (batchL l) ∧ Below w.heap.size w w' := by
  have HL := Lib.hid h.len.symm
  have al0 := (Below.refl w.heap.size w).alloc (Nat.le_refl _) (.cells #[] 78)
  have hOA := own_up (own_empty w 78 1 (Nat.le_refl w.heap.size)) (Nat.zero_le _)
  go_enter Try.func11, Try.ntmps11
  go_wp2_with fail
  refine (l34Ok_spec l _ _ _ _ (h.keep cmK al0) hb).mono ?_
  rintro e w1 ⟨rfl, hb1⟩
  have hz1 := hb1.size
  simp only [World.size_alloc] at hz1
  have hO1 := own_ch hOA (Ch.of_below (S := fun _ => False) hb1) (fun _ _ h => h)
  have hb1w := bthen al0 hb1
  obtain ⟨q, hq⟩ : ∃ q, cmsOkB l = q := ⟨_, rfl⟩
  rw [hq]
  cases q
  · have HB := Lib.hid (show batchL l = [] by unfold batchL; rw [hq]; rfl)
    clear hq
    go_wp2
    go_returns
    have hI : RowI intF 78 1 w.heap.size w1.heap.size w1 (some ⟨w.heap.size, 0, none⟩) 0 0 ([] : List (List Int)) := ⟨blkL (some ⟨w.heap.size, 0, none⟩) ++ ([] : List (List Nat)).flatten, by simp [blkL], fun b hb => by simp [blkL] at hb; omega, RowO.intro (css := []) (fps := []) hO1 rfl Els.nil⟩
    exact ⟨_, 0, 0, rfl, by rw [HB.out]; exact hI, hb1w⟩
  · have HB := Lib.hid (show batchL l = rowsOf l l.length by unfold batchL; rw [if_pos hq])
    have hn10 : n ≤ 10 := by have := cmsOk_len hq; have := HL.out; omega
    clear hq
    have h1 := h.keep cmK hb1w
    go_wp2_with (refine wpList_mk (P := Try.prog) _ rfl _ _ 78 rfl w1.heap.size 3 _ 1 8 Try.underlying78 infoInt _ _ _ _ n rfl rfl rfl rfl (by omega) (by unfold maxLen; omega) (Nat.le_refl _) ?_; intro w2 hown2 hg2 hb2)
    have hR : RowF 3 w1.heap.size (w1.heap.size + 1) w2 (some ⟨w1.heap.size, 0, none⟩) n n (fun j => .int .i64 (if j < 0 then ((lv l j : Nat) : Int) else 0)) := by
      have hx : (madeCells (Value.int .i64 0).cells (n * 1)).toList = List.replicate n (.int .i64 0) := by rw [Nat.mul_one]; exact toList_madeCells_one _ n
      rw [hx] at hown2
      have h3 : RowF 3 w1.heap.size w2.heap.size w2 (some ⟨w1.heap.size, 0, none⟩) n n (fun j => .int .i64 (if j < 0 then ((lv l j : Nat) : Int) else 0)) := RowF.of_own hown2 (fun j hj => by simp [hj])
      unfold RowF at h3 ⊢
      exact ⟨h3.own, fun g hg => by have := hg.eq; omega⟩
    have hG2 : w1.heap.size < w2.heap.size := (own_lo hown2 w1.heap.size (by simp [blkL])).2
    clear hown2 hg2 hOA al0 hb1 h
    go_loopw [5, 6] (fun m i wr => ∃ (k : Nat), k ≤ n ∧ i = .int .i64 k ∧ m = .int .i64 (((mxL l k : Nat) : Int) - 1) ∧ RowF 3 w1.heap.size (w1.heap.size + 1) wr (some ⟨w1.heap.size, 0, none⟩) n n (fun j => .int .i64 (if j < k then ((lv l j : Nat) : Int) else 0)) ∧ w1.heap.size < wr.heap.size ∧ Below w1.heap.size w1 wr) (fun _ i _ => n - (intOf i).toNat)
    case atStart => exact ⟨0, Nat.zero_le _, rfl, by rw [mxL_zero]; rfl, hR, hG2, hb2⟩
    case round =>
      clear hR hG2 hb2
      obtain ⟨i, hi, rfl, rfl, hR, hGr, hbr⟩ := hrel
      have hmx : mxL l i ≤ i := mxL_le l i
      have hmx1 : mxL l (i + 1) ≤ i + 1 := mxL_le l (i + 1)
      by_cases hlt : i < n
      · have hRi : RowF 3 w1.heap.size (w1.heap.size + 1) wr (some ⟨w1.heap.size, 0, none⟩) n n (fun j => .int .i64 (if j < i then ((lv l j : Nat) : Int) else if j = i then ((lvTo l (lv l) i 0 : Nat) : Int) else 0)) := hR.congr (fun j hj => by
          have e0 : lvTo l (lv l) i 0 = 0 := by unfold lvTo; rfl
          rw [e0]
          by_cases h1 : j < i
          · simp [h1]
          · by_cases h2 : j = i <;> simp [h1, h2])
        clear hR
        go_wp2
        go_loopw [7] (fun t wr => ∃ (k : Nat), k ≤ i ∧ t = .int .i64 k ∧ RowF 3 w1.heap.size (w1.heap.size + 1) wr (some ⟨w1.heap.size, 0, none⟩) n n (fun j => .int .i64 (if j < i then ((lv l j : Nat) : Int) else if j = i then ((lvTo l (lv l) i k : Nat) : Int) else 0)) ∧ w1.heap.size < wr.heap.size ∧ Below w1.heap.size w1 wr) (fun t _ => i - (intOf t).toNat)
        case atStart => exact ⟨0, Nat.zero_le _, rfl, hRi, hGr, hbr⟩
        case round =>
          clear hRi hGr hbr
          obtain ⟨k, hk, rfl, hR, hGr, hbr⟩ := hrel
          have hlvb : lvTo l (lv l) i k ≤ 10 := by have := lvTo_le l i k; have := mxL_le l k; omega
          by_cases hlk : k < i
          · obtain ⟨b, off, rfl⟩ := h1.head (by omega)
            obtain ⟨bl, x, cs, hx, ⟨A1, n1, c1, rfl, hx1⟩, hcx⟩ := h1.elem_at (i := i) hlt
            obtain ⟨_, y, cs', hy, ⟨A2, n2, c2, rfl, hy1⟩, hcy⟩ := h1.elem_at (i := k) (by omega)
            have x0 := (hbr.cell (p := ⟨b, off + i * 8, none⟩) bl).trans (show w1.cell? ⟨b, off + i * 8, none⟩ = some (.int .i64 x.kd) from hcx 0 _ rfl)
            have x1 := (hbr.cell (p := ⟨b, off + i * 8 + 1, none⟩) bl).trans (show w1.cell? ⟨b, off + i * 8 + 1, none⟩ = some (.int .i64 x.cl) from hcx 1 _ rfl)
            have x2 := (hbr.cell (p := ⟨b, off + i * 8 + 2, none⟩) bl).trans (show w1.cell? ⟨b, off + i * 8 + 2, none⟩ = some (.int .i64 x.no) from hcx 2 _ rfl)
            have x3 := (hbr.cell (p := ⟨b, off + i * 8 + 3, none⟩) bl).trans (show w1.cell? ⟨b, off + i * 8 + 3, none⟩ = some (.string x.s) from hcx 3 _ rfl)
            have x4 := (hbr.cell (p := ⟨b, off + i * 8 + 4, none⟩) bl).trans (show w1.cell? ⟨b, off + i * 8 + 4, none⟩ = some (.string x.nm) from hcx 4 _ rfl)
            have x5 := (hbr.cell (p := ⟨b, off + i * 8 + 5, none⟩) bl).trans (show w1.cell? ⟨b, off + i * 8 + 5, none⟩ = some (.string x.tg) from hcx 5 _ rfl)
            have x6 := (hbr.cell (p := ⟨b, off + i * 8 + 6, none⟩) bl).trans (show w1.cell? ⟨b, off + i * 8 + 6, none⟩ = some (.int .i64 x.n) from hcx 6 _ rfl)
            have x7 := (hbr.cell (p := ⟨b, off + i * 8 + 7, none⟩) bl).trans (show w1.cell? ⟨b, off + i * 8 + 7, none⟩ = some (.slice A1 n1 c1) from hcx 7 _ rfl)
            have y0 := (hbr.cell (p := ⟨b, off + k * 8, none⟩) bl).trans (show w1.cell? ⟨b, off + k * 8, none⟩ = some (.int .i64 y.kd) from hcy 0 _ rfl)
            have y1 := (hbr.cell (p := ⟨b, off + k * 8 + 1, none⟩) bl).trans (show w1.cell? ⟨b, off + k * 8 + 1, none⟩ = some (.int .i64 y.cl) from hcy 1 _ rfl)
            have y2 := (hbr.cell (p := ⟨b, off + k * 8 + 2, none⟩) bl).trans (show w1.cell? ⟨b, off + k * 8 + 2, none⟩ = some (.int .i64 y.no) from hcy 2 _ rfl)
            have y3 := (hbr.cell (p := ⟨b, off + k * 8 + 3, none⟩) bl).trans (show w1.cell? ⟨b, off + k * 8 + 3, none⟩ = some (.string y.s) from hcy 3 _ rfl)
            have y4 := (hbr.cell (p := ⟨b, off + k * 8 + 4, none⟩) bl).trans (show w1.cell? ⟨b, off + k * 8 + 4, none⟩ = some (.string y.nm) from hcy 4 _ rfl)
            have y5 := (hbr.cell (p := ⟨b, off + k * 8 + 5, none⟩) bl).trans (show w1.cell? ⟨b, off + k * 8 + 5, none⟩ = some (.string y.tg) from hcy 5 _ rfl)
            have y6 := (hbr.cell (p := ⟨b, off + k * 8 + 6, none⟩) bl).trans (show w1.cell? ⟨b, off + k * 8 + 6, none⟩ = some (.int .i64 y.n) from hcy 6 _ rfl)
            have y7 := (hbr.cell (p := ⟨b, off + k * 8 + 7, none⟩) bl).trans (show w1.cell? ⟨b, off + k * 8 + 7, none⟩ = some (.slice A2 n2 c2) from hcy 7 _ rfl)
            clear hcx hcy
            have hbrs : b < wr.heap.size := Nat.lt_of_lt_of_le bl hbr.size
            have hbx := bounds_el hb.2 hx
            have hby := bounds_el hb.2 hy
            have hx2 := hx1.keep hbr
            have hy2 := hy1.keep hbr
            have hcm : cmAt l k = y := cmAt_of hy
            have hcx : cmAt l i = x := cmAt_of hx
            have HST := Lib.hid (show lvTo l (lv l) i (k + 1) = if clashB x y = true then max (lvTo l (lv l) i k) (lv l k + 1) else lvTo l (lv l) i k by rw [lvTo, hcm, hcx, sameBA_symm])
            clear hcm hcx
            have v0 := hR.at_ (j := k) (by omega)
            have v1 := hR.at_ (j := i) hlt
            simp only [hlk, if_true] at v0
            simp only [Nat.lt_irrefl, if_false, if_true] at v1
            have hlk2 : lv l k ≤ 10 := by have := lv_le l k; have := mxL_le l k; omega
            obtain ⟨q, hq⟩ : ∃ q, clashB x y = q := ⟨_, rfl⟩
            rw [hq] at HST
            have HQ := Lib.hid hq; clear hq
            cases q
            · go_wp2
              refine wp_region_grow (by kernel_rfl) (by kernel_rfl) ?_
              repeat (first | go_big_quiet_step ((go_at_call 52; exact grow_of (known HQ.out (clash_spec x y _ _ _ _ _ _ _ (hx2.keep (Grow.below _)) (hy2.keep (Grow.below _)) hbx hby)))))
              refine wpQuiet_nil ?_
              intro _ hw'
              obtain ⟨⟨w4, hb4⟩, hw''⟩ := hw'
              change _ = w4 at hw''
              subst hw''
              go_wp2
              refine ⟨⟨k + 1, by omega, by go_num, ?_, Nat.lt_of_lt_of_le hGr hb4.size, bthen hbr hb4⟩, by simp [intOf]; omega⟩
              rw [HST.out]; exact hR.keep hb4
            · by_cases hge : lvTo l (lv l) i k ≤ lv l k
              · have gd : decide (((lv l k : Nat) : Int) ≥ ((lvTo l (lv l) i k : Nat) : Int)) = true := by simp; omega
                have HGE := Lib.hid hge; clear hge
                go_wp2
                refine wp_region_grow (by kernel_rfl) (by kernel_rfl) ?_
                repeat (first | go_big_quiet_step ((go_at_call 52; exact grow_of (known HQ.out (clash_spec x y _ _ _ _ _ _ _ (hx2.keep (Grow.below _)) (hy2.keep (Grow.below _)) hbx hby)))))
                refine wpQuiet_nil ?_
                intro _ hw'
                obtain ⟨⟨w4, hb4⟩, hw''⟩ := hw'
                change _ = w4 at hw''
                subst hw''
                have hR4 := hR.keep hb4
                have u0 := keep_cell hb4 v0
                have u1 := keep_cell hb4 v1
                have y9 := hR4.frz i
                clear v0 v1
                have hGr4 := Nat.lt_of_lt_of_le hGr hb4.size
                have hbr4 := bthen hbr hb4
                go_wp2
                refine ⟨⟨k + 1, by omega, by go_num, ?_, by simpa using hGr4, hbr4.setCell (Nat.le_refl _) _⟩, by simp [intOf]; omega⟩
                refine (hR4.store i (.int .i64 (((lv l k : Nat) : Int) + 1))).congr (fun j hj => ?_)
                have hm : lvTo l (lv l) i (k + 1) = lv l k + 1 := by rw [HST.out]; simp only [if_true]; have := HGE.out; omega
                rw [hm]
                by_cases e1 : j = i
                · subst e1; simp
                · by_cases e2 : j < i <;> simp [e1, e2]
              · have gd : decide (((lv l k : Nat) : Int) ≥ ((lvTo l (lv l) i k : Nat) : Int)) = false := by simp; omega
                have HGE := Lib.hid hge; clear hge
                go_wp2
                refine wp_region_grow (by kernel_rfl) (by kernel_rfl) ?_
                repeat (first | go_big_quiet_step ((go_at_call 52; exact grow_of (known HQ.out (clash_spec x y _ _ _ _ _ _ _ (hx2.keep (Grow.below _)) (hy2.keep (Grow.below _)) hbx hby)))))
                refine wpQuiet_nil ?_
                intro _ hw'
                obtain ⟨⟨w4, hb4⟩, hw''⟩ := hw'
                change _ = w4 at hw''
                subst hw''
                go_wp2
                refine ⟨⟨k + 1, by omega, by go_num, ?_, Nat.lt_of_lt_of_le hGr hb4.size, bthen hbr hb4⟩, by simp [intOf]; omega⟩
                have hm : lvTo l (lv l) i (k + 1) = lvTo l (lv l) i k := by rw [HST.out]; simp only [if_true]; have := HGE.out; omega
                rw [hm]; exact hR.keep hb4
          · have hki : k = i := by omega
            subst hki
            have hR2 : RowF 3 w1.heap.size (w1.heap.size + 1) wr (some ⟨w1.heap.size, 0, none⟩) n n (fun j => .int .i64 (if j < (k + 1) then ((lv l j : Nat) : Int) else 0)) := hR.congr (fun j hj => by
              by_cases e1 : j < k
              · have e2 : j < k + 1 := by omega
                simp [e1, e2]
              · by_cases e3 : j = k
                · subst e3; simp [← lv_eq]
                · have e2 : ¬ j < k + 1 := by omega
                  simp [e1, e2, e3])
            clear hR
            have v1 := hR2.at_ (j := k) hlt
            simp only [Nat.lt_succ_self, if_true] at v1
            have hs := mxL_succ l k
            have hl10 := lv_le l k
            by_cases hgt : mxL l k ≤ lv l k
            · have gd : decide (((lv l k : Nat) : Int) > ((mxL l k : Nat) : Int) - 1) = true := by simp; omega
              have HGT := Lib.hid hgt; clear hgt
              have HS := Lib.hid hs; clear hs
              go_wp2
              exact ⟨⟨k + 1, by omega, by go_num, by congr 1; have := HS.out; have := HGT.out; omega, hR2, hGr, hbr⟩, by simp [intOf]; omega⟩
            · have gd : decide (((lv l k : Nat) : Int) > ((mxL l k : Nat) : Int) - 1) = false := by simp; omega
              have HGT := Lib.hid hgt; clear hgt
              have HS := Lib.hid hs; clear hs
              go_wp2
              exact ⟨⟨k + 1, by omega, by go_num, by congr 1; have := HS.out; have := HGT.out; omega, hR2, hGr, hbr⟩, by simp [intOf]; omega⟩
      · have hin : i = n := by omega
        subst hin
        have hRn : RowF 3 w1.heap.size (w1.heap.size + 1) wr (some ⟨w1.heap.size, 0, none⟩) i i (fun j => .int .i64 ((lv l j : Nat) : Int)) := hR.congr (fun j hj => by simp [hj])
        clear hR
        have hOw := own_ch hO1 (Ch.of_below (S := fun _ => False) hbr) (fun _ _ h => h)
        have hm10 : mxL l i ≤ 10 := by omega
        go_wp2
        go_loopw [3, 8] (fun o t wr => ∃ (b : Nat) (O : Option Addr) (co : Nat) (css : List (List Value)) (fps : List (List Nat)), b ≤ mxL l i ∧ t = .int .i64 b ∧ o = .slice O b co ∧ wr.ownsRow 0 78 1 (.slice O b co) b css.flatten ∧ Els intF wr css fps ((rowsOf l i).take b) ∧ (blkL O ++ fps.flatten).Nodup ∧ (∀ x ∈ blkL O ++ fps.flatten, w.heap.size ≤ x ∧ x < wr.heap.size ∧ ¬ x = w1.heap.size) ∧ RowF 3 w1.heap.size (w1.heap.size + 1) wr (some ⟨w1.heap.size, 0, none⟩) i i (fun j => .int .i64 ((lv l j : Nat) : Int)) ∧ Below w.heap.size w wr ∧ w1.heap.size < wr.heap.size) (fun _ t _ => mxL l i - (intOf t).toNat)
        case atStart =>
          refine ⟨0, _, 0, [], [], Nat.zero_le _, rfl, rfl, hOw, Els.nil, by simp [blkL], fun x hx => ?_, hRn, bthen hb1w hbr, hGr⟩
          simp [blkL] at hx; omega
        case round =>
          clear hRn hOw hbr hGr hO1 hb1w
          obtain ⟨b, O, co, css, fps, hbm, rfl, rfl, hOo, hOE, hND, hBD, hRn, hbw, hGr⟩ := hrel
          by_cases hblt : b < mxL l i
          · have gle : (b : Int) ≤ ((mxL l i : Nat) : Int) - 1 := by omega
            have al := (Below.refl wr.heap.size wr).alloc (Nat.le_refl _) (.cells #[] 3)
            have q0 : IntO (blkL (some ⟨wr.heap.size, 0, none⟩)) (wr.alloc (.cells #[] 3)) (some ⟨wr.heap.size, 0, none⟩) 0 0 [] := IntO.mk' (by simpa using own_empty wr 3 1 (Nat.zero_le _))
            have hRa := hRn.keep al
            have hOa := own_ch hOo (Ch.of_below (S := fun _ => False) al) (fun _ _ h => h)
            have hEa := hOE.keep intK al
            have hba := bthen hbw al
            have hwz := hbw.size
            have hEl := hOE.lt intK
            have hOl := own_lo hOo
            clear hRn hOo hOE
            go_wp2
            obtain ⟨V, hV⟩ : ∃ V, V = wr.alloc (.cells #[] 3) := ⟨_, rfl⟩
            have hVs : V.heap.size = wr.heap.size + 1 := by rw [hV]; simp
            rw [← hV] at q0 hRa hOa hEa hba al ⊢
            clear hV
            obtain ⟨B0, hB0⟩ : ∃ B, B = wr.heap.size := ⟨_, rfl⟩
            rw [← hB0] at hBD hGr hVs hwz hEl hOl q0 ⊢
            clear hB0
            go_loopw [9, 10] (fun r t wr => ∃ (j : Nat) (R : Option Addr) (cr : Nat), j ≤ i ∧ t = .int .i64 j ∧ r = .slice R (rowOf l j b).length cr ∧ IntO (blkL R) wr R (rowOf l j b).length cr (rowOf l j b) ∧ (∀ x ∈ blkL R, B0 ≤ x ∧ x < wr.heap.size) ∧ V.heap.size ≤ wr.heap.size ∧ Below B0 V wr) (fun _ t _ => i - (intOf t).toNat)
            case atStart =>
              have e0 : rowOf l 0 b = [] := by unfold rowOf; rfl
              exact ⟨0, some ⟨B0, 0, none⟩, 0, Nat.zero_le _, rfl, by rw [e0]; rfl, by rw [e0]; exact q0, fun x hx => by simp [blkL] at hx; omega, Nat.le_refl _, Below.refl _ _⟩
            case round =>
              clear q0
              obtain ⟨j, R, cr, hj, rfl, rfl, hRo, hRb, hVz, hbV⟩ := hrel
              have hv0 := fun hji : j < i => (hbV.cell (p := ⟨w1.heap.size, j, none⟩) hGr).trans (hRa.at_ (j := j) hji)
              have hrl := rowOf_len l j b
              by_cases hji : j < i
              · have v0 := hv0 hji
                clear hv0
                obtain ⟨q, hq⟩ : ∃ q, (lv l j == b) = q := ⟨_, rfl⟩
                have HS := Lib.hid (rowOf_step l j b q hq)
                cases q
                · have gd : (((lv l j : Nat) : Int) == (b : Int)) = false := by have : ¬ lv l j = b := by simpa using hq
                                                                                simp; omega
                  clear hq
                  have HR : rowOf l (j + 1) b = rowOf l j b := by rw [HS.out]; simp
                  have HRh := Lib.hid HR; clear HR
                  go_wp2
                  refine ⟨⟨j + 1, R, cr, by omega, by go_num, by rw [HRh.out], by rw [HRh.out]; exact hRo, hRb, hVz, hbV⟩, by simp [intOf]; omega⟩
                · have gd : (((lv l j : Nat) : Int) == (b : Int)) = true := by have : lv l j = b := by simpa using hq
                                                                               simp [this]
                  clear hq
                  have HR : rowOf l (j + 1) b = rowOf l j b ++ [(j : Int)] := by rw [HS.out]; simp
                  have HRh := Lib.hid HR; clear HR
                  have hRw := hRo.own.2
                  go_wp2_with (first | (at_builtin; refine wpList_app1g (P := Try.prog) wr rfl (.tmp 86) (.tmp 88) 78 rfl 0 3 _ 1 8 Try.underlying78 infoInt rfl (by omega) (.slice R (rowOf l j b).length cr) _ _ rfl hRw _ _ rfl (by simp) rfl (by simp [Value.oneCell']) (by unfold maxLen; omega) (by omega) (Nat.zero_le _) ?_; intro R' cr' w5 hR5 hgR hbR hobR; refine stop_of ?_) | fail)
                  have hC5 : Ch (fun x => x ∈ blkL R) wr w5 := (Ch.of_grow hgR).mono (fun x hx => mem_blkL.2 (blk_of hx))
                  have hz5 := hC5.size
                  have hR5' : IntO (blkL R') w5 R' ((rowOf l j b).length + 1) cr' (rowOf l j b ++ [(j : Int)]) := IntO.mk' (by simpa using hR5)
                  have hlt5 := hR5'.lt
                  have hRn : ∀ x ∈ blkL R', B0 ≤ x ∧ x < w5.heap.size := fun x hx => by
                    have h1 := blk_own (n := (rowOf l j b).length + 1) (c := cr') (mem_blkL.1 hx)
                    have h3 := hlt5 x hx
                    rcases hobR with h2 | h2
                    · have := hRb x (mem_blkL.2 (blk_of (h2.symm.trans h1))); omega
                    · have := Option.some.inj (h1.symm.trans h2); omega
                  unfold Stop
                  go_wp2
                  have hlen : (rowOf l (j + 1) b).length = (rowOf l j b).length + 1 := by rw [HRh.out]; simp
                  exact ⟨⟨j + 1, R', cr', by omega, by go_num, by rw [hlen], by rw [hlen, HRh.out]; exact hR5', hRn, by omega, hbV.trans (hC5.below (fun x hx => (hRb x hx).1) (by omega))⟩, by simp [intOf]; omega⟩
              · have hjn : j = i := by omega
                subst hjn
                clear hv0
                have hCV : Ch (fun x => B0 ≤ x) V wr := ⟨hbV.os, hbV.tape, hbV.output, hbV.size, fun x _ hx => hbV.block x (by omega)⟩
                have hOb := own_chL hOa hCV (fun x hx => by have := (hOl x hx).2; omega)
                have hEb := hEa.ch intK hCV (fun x hx => by have := hEl x hx; omega)
                have hRb2 := hRa.ch hCV (fun x hx => by unfold Iv at hx; omega)
                have hbb : Below w.heap.size w wr := hba.trans (hbV.mono (by omega))
                clear hOa hEa hRa
                go_wp2_with (first | (at_builtin; refine wpList_app1g (P := Try.prog) wr rfl (.tmp 90) (.tmp 92) 24 rfl 0 78 _ 1 24 Try.underlying24 infoIntS rfl (by omega) (.slice O b co) _ _ rfl hOb _ _ rfl (by simp) rfl (by simp [Value.oneCell']) (by unfold maxLen; omega) (by omega) (Nat.zero_le _) ?_; intro O' co' w6 hO7 hgO hbO hobO; refine stop_of ?_) | fail)
                have hxr : intF (blkL R) wr [.slice R (rowOf l j b).length cr] (rowOf l j b) := ⟨R, _, cr, rfl, hRo⟩
                have hN6 : (blkL O ++ (fps ++ [blkL R]).flatten).Nodup := by
                  rw [List.flatten_append, ← List.append_assoc]
                  exact nodup_new (m := B0) hND (by cases R <;> simp [blkL]) (fun x hx => (hBD x hx).2.1) (fun x hx => (hRb x (by simpa using hx)).1)
                obtain ⟨hE7, hN7, hO7n⟩ := app_els (A := O) (n := b) (c := co) intK hEb hxr hN6 hgO hobO (by omega)
                have hCO : Ch (fun x => x ∈ blkL O) wr w6 := (Ch.of_grow hgO).mono (fun x hx => mem_blkL.2 (blk_of hx))
                have hz6 := hCO.size
                have hO8 : w6.ownsRow 0 78 1 (.slice O' (b + 1) co') (b + 1) (css ++ [([.slice R (rowOf l j b).length cr] : List Value)]).flatten := by rw [flat_snoc]; simpa using hO7
                have hO8lt := own_lo hO8
                have hRf := hRb2.ch hCO (fun x hx h2 => by
                  unfold Iv at hx
                  have h3 := hBD x (List.mem_append_left _ h2)
                  omega)
                rw [← rowsOf_take l j b hblt] at hE7
                unfold Stop
                go_wp2
                refine ⟨⟨b + 1, O', co', _, _, by omega, by go_num, rfl, hO8, hE7, hN7, fun x hx => ?_, hRf, hbb.trans (hCO.below (fun x hx => (hBD x (List.mem_append_left _ hx)).1) hbb.size), by omega⟩, by simp [intOf]; omega⟩
                rcases List.mem_append.1 hx with hx | hx
                · have h8 := hO8lt x hx
                  rcases hO7n x hx with h | h
                  · have := hBD x (List.mem_append_left _ h); omega
                  · omega
                · rw [List.flatten_append] at hx
                  rcases List.mem_append.1 hx with hx | hx
                  · have := hBD x (List.mem_append_right _ hx); omega
                  · have := hRb x (by simpa using hx); omega
          · have gle : ¬ (b : Int) ≤ ((mxL l i : Nat) : Int) - 1 := by omega
            have hbe : b = mxL l i := by omega
            subst hbe
            go_wp2
            go_returns
            rw [HB.out, HL.out]
            rw [List.take_of_length_le (by rw [rowsOf_len]; omega)] at hOE
            exact ⟨O, _, co, rfl, ⟨_, hND, fun x hx => ⟨(hBD x hx).1, (hBD x hx).2.1⟩, RowO.intro hOo (by rw [rowsOf_len]) hOE⟩, hbw⟩
end Go.Proofs.Ytdphdnllhmnelaa
/- Plain law of BatchFits: where a number stands, what a batch plan is. -/
namespace Go.Proofs.Ytdphdnllhmnelaa
open Go.RowKit
def lAt (l : List (List Int)) (i : Nat) : List Int := l.getD i []
theorem lAt_get {l : List (List Int)} {k : Nat} (h : k < l.length) : lAt l k = l[k] := by simp [lAt, h]
theorem take_snoc {α : Type} (l : List α) (k : Nat) (h : k < l.length) : l.take (k + 1) = l.take k ++ [l[k]] := List.take_succ_eq_append_getElem h
/-- the first list that holds j, counted from k; -1 if none does -/
def posI : List (List Int) → Nat → Int → Int
  | [], _, _ => -1
  | x :: b, k, j => if hasI x j = true then (k : Int) else posI b (k + 1) j
theorem posI_or : ∀ (b : List (List Int)) (k : Nat) (j : Int), (posI b k j = -1 ∧ j ∉ b.flatten) ∨ ((k : Int) ≤ posI b k j ∧ posI b k j < k + b.length ∧ j ∈ b.flatten)
  | [], k, j => Or.inl ⟨rfl, by simp⟩
  | x :: b, k, j => by
    unfold posI
    by_cases h : hasI x j = true
    · rw [if_pos h]
      refine Or.inr ⟨by omega, by simp; omega, ?_⟩
      unfold hasI at h
      simp at h
      simp [h]
    · rw [if_neg h]
      unfold hasI at h
      simp at h
      rcases posI_or b (k + 1) j with ⟨h1, h2⟩ | ⟨h1, h2, h3⟩
      · exact Or.inl ⟨h1, by rw [List.flatten_cons, List.mem_append]; exact fun e => e.elim h h2⟩
      · exact Or.inr ⟨by omega, by simp only [List.length_cons]; omega, by rw [List.flatten_cons, List.mem_append]; exact Or.inr h3⟩
theorem posI_app : ∀ (b : List (List Int)) (t : List Int) (k : Nat) (j : Int), posI (b ++ [t]) k j = if 0 ≤ posI b k j then posI b k j else if hasI t j = true then ((k + b.length : Nat) : Int) else -1
  | [], t, k, j => by
    rw [List.nil_append]; unfold posI; unfold posI
    rw [if_neg (show ¬ (0 : Int) ≤ -1 by omega)]; simp
  | x :: b, t, k, j => by
    rw [List.cons_append]
    have e1 : posI (x :: (b ++ [t])) k j = if hasI x j = true then (k : Int) else posI (b ++ [t]) (k + 1) j := rfl
    have e2 : posI (x :: b) k j = if hasI x j = true then (k : Int) else posI b (k + 1) j := rfl
    rw [e1, e2]
    by_cases h : hasI x j = true
    · rw [if_pos h, if_pos h, if_pos (by omega)]
    · rw [if_neg h, if_neg h, posI_app b t (k + 1) j]
      have : k + 1 + b.length = k + (x :: b).length := by simp; omega
      rw [this]
theorem posI_drop {b : List (List Int)} {k : Nat} (j : Int) (h : k < b.length) : posI (b.drop k) k j = if hasI (lAt b k) j = true then (k : Int) else posI (b.drop (k + 1)) (k + 1) j := by
  rw [List.drop_eq_getElem_cons h, lAt_get h]; rfl
/-- the numbers in the lists so far -/
def cutI (b : List (List Int)) (k i : Nat) (j : Int) : Int := posI (b.take k ++ [(lAt b k).take i]) 0 j
theorem cut_zero (b : List (List Int)) (k : Nat) (j : Int) : cutI b k 0 j = posI (b.take k) 0 j := by
  unfold cutI; rw [posI_app, List.take_zero]
  have h : hasI [] j = false := by simp [hasI]
  rw [h]
  by_cases h0 : 0 ≤ posI (b.take k) 0 j
  · rw [if_pos h0]
  · rw [if_neg h0, if_neg (by simp)]
    rcases posI_or (b.take k) 0 j with ⟨h1, _⟩ | ⟨h1, _, _⟩
    · exact h1.symm
    · exact absurd (by simpa using h1) h0
theorem cut_full (b : List (List Int)) (k : Nat) (j : Int) (h : k < b.length) : cutI b k (lAt b k).length j = posI (b.take (k + 1)) 0 j := by
  unfold cutI; rw [List.take_length, take_snoc b k h, lAt_get h]
theorem cut_step {b : List (List Int)} {k i : Nat} {x : Int} (h : k ≤ b.length) (hi : i < (lAt b k).length) (hx : iAt (lAt b k) i = x) (hn : cutI b k i x < 0) (j : Int) :
    cutI b k (i + 1) j = if j = x then (k : Int) else cutI b k i j := by
  have ht : (lAt b k).take (i + 1) = (lAt b k).take i ++ [x] := by rw [take_snoc _ _ hi, ← iAt_get hi, hx]
  have hh : ∀ y, hasI ((lAt b k).take i ++ [x]) y = (hasI ((lAt b k).take i) y || decide (y = x)) := fun y => by unfold hasI; simp
  have hl : (b.take k).length = k := by rw [List.length_take]; omega
  unfold cutI at hn ⊢
  rw [posI_app] at hn
  rw [posI_app, posI_app, ht, hh, hl]
  rw [hl] at hn
  by_cases hjx : j = x
  · subst hjx
    rw [if_pos rfl]
    by_cases h0 : 0 ≤ posI (b.take k) 0 j
    · rw [if_pos h0] at hn; omega
    · rw [if_neg h0]; simp
  · rw [if_neg hjx]; simp [hjx]
/-- what has been seen: every number once, each in range -/
def okP (n : Nat) (p : List Int) : Prop := p.Nodup ∧ ∀ x ∈ p, 0 ≤ x ∧ x < n
def seen (b : List (List Int)) (k i : Nat) : List Int := (b.take k).flatten ++ (lAt b k).take i
theorem cut_or (b : List (List Int)) (k i : Nat) (j : Int) : (cutI b k i j < 0 ∧ j ∉ seen b k i) ∨ (0 ≤ cutI b k i j ∧ j ∈ seen b k i) := by
  unfold cutI seen
  have e : (b.take k).flatten ++ (lAt b k).take i = (b.take k ++ [(lAt b k).take i]).flatten := by simp
  rw [e]
  rcases posI_or (b.take k ++ [(lAt b k).take i]) 0 j with ⟨h1, h2⟩ | ⟨h1, _, h2⟩
  · exact Or.inl ⟨by omega, h2⟩
  · exact Or.inr ⟨by omega, h2⟩
theorem seen_zero (b : List (List Int)) : seen b 0 0 = [] := by simp [seen]
theorem seen_full {b : List (List Int)} {k : Nat} (h : k < b.length) : seen b k (lAt b k).length = seen b (k + 1) 0 := by
  unfold seen
  rw [List.take_length, take_snoc b k h, ← lAt_get h]; simp
theorem seen_all {b : List (List Int)} : seen b b.length 0 = b.flatten := by simp [seen]
theorem seen_step {b : List (List Int)} {k i : Nat} {x : Int} (hi : i < (lAt b k).length) (hx : iAt (lAt b k) i = x) : seen b k (i + 1) = seen b k i ++ [x] := by
  unfold seen; rw [take_snoc _ _ hi, ← iAt_get hi, hx, List.append_assoc]
theorem okP_nil (n : Nat) : okP n [] := ⟨List.nodup_nil, fun x h => by cases h⟩
theorem okP_step {n : Nat} {p : List Int} {x : Int} (h : okP n p) (h0 : 0 ≤ x) (h1 : x < n) (h2 : x ∉ p) : okP n (p ++ [x]) := by
  refine ⟨List.nodup_append.2 ⟨h.1, by simp, fun a ha b hb => by simp at hb; subst hb; exact fun e => h2 (e ▸ ha)⟩, fun y hy => ?_⟩
  rcases List.mem_append.1 hy with hy | hy
  · exact h.2 y hy
  · simp at hy; subst hy; exact ⟨h0, h1⟩
theorem seen_split {b : List (List Int)} {k i : Nat} {x : Int} (h : k < b.length) (hi : i < (lAt b k).length) (hx : iAt (lAt b k) i = x) : ∃ r, b.flatten = seen b k i ++ x :: r := by
  refine ⟨(lAt b k).drop (i + 1) ++ (b.drop (k + 1)).flatten, ?_⟩
  have e1 : b.flatten = (b.take k).flatten ++ (lAt b k ++ (b.drop (k + 1)).flatten) := by
    rw [lAt_get h, ← List.flatten_cons, ← List.drop_eq_getElem_cons h, ← List.flatten_append, List.take_append_drop]
  have e2 : lAt b k = (lAt b k).take i ++ x :: (lAt b k).drop (i + 1) := by
    rw [← hx, iAt_get hi, ← List.drop_eq_getElem_cons hi, List.take_append_drop]
  rw [e1]; unfold seen
  conv => lhs; rw [e2]
  simp
theorem okP_no {b : List (List Int)} {n k i : Nat} {x : Int} (h : k < b.length) (hi : i < (lAt b k).length) (hx : iAt (lAt b k) i = x) (hb : x < 0 ∨ (n : Int) ≤ x ∨ 0 ≤ cutI b k i x) : ¬ okP n b.flatten := by
  obtain ⟨r, hr⟩ := seen_split h hi hx
  rw [hr]
  intro hk
  have := hk.2 x (by simp)
  rcases hb with hb | hb | hb
  · omega
  · omega
  · have hs : x ∈ seen b k i := by
      rcases cut_or b k i x with ⟨h1, _⟩ | ⟨_, h2⟩
      · omega
      · exact h2
    exact (List.nodup_append.1 hk.1).2.2 x hs x (by simp) rfl
/-- a plan of n commands: each stands in it once -/
def PermB (n : Nat) (b : List (List Int)) : Prop := okP n b.flatten ∧ ∀ j : Nat, j < n → 0 ≤ posI b 0 j
theorem sub_len : ∀ {l1 l2 : List Int}, l1.Nodup → (∀ x ∈ l1, x ∈ l2) → l1.length ≤ l2.length
  | [], _, _, _ => Nat.zero_le _
  | x :: t, l2, hN, hs => by
    have hx := hs x (List.mem_cons_self ..)
    have hN' := List.nodup_cons.1 hN
    have h1 := sub_len (l2 := l2.erase x) hN'.2 (fun y hy => (List.mem_erase_of_ne (fun (e : y = x) => hN'.1 (by rw [← e]; exact hy))).2 (hs y (List.mem_cons_of_mem _ hy)))
    rw [List.length_erase_of_mem hx] at h1
    have := List.length_pos_of_mem hx
    simp only [List.length_cons]; omega
theorem nodup_of : ∀ {l2 l1 : List Int}, l1.Nodup → (∀ x ∈ l1, x ∈ l2) → l2.length ≤ l1.length → l2.Nodup
  | [], _, _, _, _ => List.nodup_nil
  | y :: t, l1, hN, hs, hl => by
    simp only [List.length_cons] at hl
    have hy : y ∉ t := fun hy => by
      have := sub_len (l2 := t) hN (fun x hx => by rcases List.mem_cons.1 (hs x hx) with rfl | h; exact hy; exact h)
      omega
    refine List.nodup_cons.2 ⟨hy, nodup_of (l1 := l1.erase y) (hN.erase y) (fun z hz => ?_) ?_⟩
    · have h1 := (hN.mem_erase_iff).1 hz
      rcases List.mem_cons.1 (hs z h1.2) with h | h
      · exact absurd h h1.1
      · exact h
    · rw [List.length_erase]; split <;> omega
def iota (n : Nat) : List Int := (List.range n).map Int.ofNat
theorem iota_nodup (n : Nat) : (iota n).Nodup := by
  unfold iota
  exact List.Pairwise.map _ (fun a b h e => h (Int.ofNat.inj e)) List.nodup_range
theorem mem_iota {n : Nat} {x : Int} : x ∈ iota n ↔ 0 ≤ x ∧ x < n := by
  unfold iota
  simp only [List.mem_map, List.mem_range]
  constructor
  · rintro ⟨a, h, rfl⟩; simp; omega
  · intro h; exact ⟨x.toNat, by omega, by simp; omega⟩
theorem perm_of {n : Nat} {b : List (List Int)} (hl : b.flatten.length = n) (h : ∀ j : Nat, j < n → 0 ≤ posI b 0 j) : PermB n b := by
  have hs : ∀ x ∈ iota n, x ∈ b.flatten := fun x hx => by
    have h1 := mem_iota.1 hx
    have h2 := h x.toNat (by omega)
    have h3 : ((x.toNat : Nat) : Int) = x := by omega
    rw [h3] at h2
    rcases posI_or b 0 x with ⟨h4, _⟩ | ⟨_, _, h4⟩
    · omega
    · exact h4
  have hil : (iota n).length = n := by simp [iota]
  refine ⟨⟨nodup_of (iota_nodup n) hs (by omega), fun x hx => ?_⟩, h⟩
  refine mem_iota.1 (Classical.byContradiction fun hni => ?_)
  have h5 := sub_len (l2 := b.flatten.erase x) (iota_nodup n) (fun y hy => (List.mem_erase_of_ne (fun (e : y = x) => hni (by rw [← e]; exact hy))).2 (hs y hy))
  rw [List.length_erase_of_mem hx] at h5
  have := List.length_pos_of_mem hx
  omega
theorem perm_len {n : Nat} {b : List (List Int)} (h : PermB n b) : b.flatten.length = n := by
  have hil : (iota n).length = n := by simp [iota]
  have h1 := sub_len (l2 := iota n) h.1.1 (fun x hx => mem_iota.2 (h.1.2 x hx))
  have h2 := sub_len (l1 := iota n) (l2 := b.flatten) (iota_nodup n) (fun x hx => by
    have h1 := mem_iota.1 hx
    have h2 := h.2 x.toNat (by omega)
    have h3 : ((x.toNat : Nat) : Int) = x := by omega
    rw [h3] at h2
    rcases posI_or b 0 x with ⟨h4, _⟩ | ⟨_, _, h4⟩
    · omega
    · exact h4)
  omega
/-- the plan fits -/
def Fits (l : List Cm) (b : List (List Int)) : Prop :=
  cmsOkB l = true ∧ PermB l.length b ∧ ∀ i k : Nat, k < i → i < l.length → clashB (cmAt l i) (cmAt l k) = true → posI b 0 k < posI b 0 i
open Classical in
noncomputable def fitsB (l : List Cm) (b : List (List Int)) : Bool := decide (Fits l b)
theorem fits_yes {l : List Cm} {b : List (List Int)} (h : Fits l b) : fitsB l b = true := by unfold fitsB; exact @decide_eq_true _ (Classical.propDecidable _) h
theorem fits_no {l : List Cm} {b : List (List Int)} (h : ¬ Fits l b) : fitsB l b = false := by unfold fitsB; exact @decide_eq_false _ (Classical.propDecidable _) h
end Go.Proofs.Ytdphdnllhmnelaa
/- CSnap: how it lies in memory, the laws' helpers on it. -/
namespace Go.Proofs.Ytdphdnllhmnelaa
open Go.RowKit
structure Snp where
  nm : ByteArray
  tg : ByteArray
  ch : List ByteArray
def snpNil : Snp := ⟨ByteArray.empty, ByteArray.empty, []⟩
def snpAt (l : List Snp) (i : Nat) : Snp := l.getD i snpNil
theorem snpAt_get {l : List Snp} {k : Nat} (h : k < l.length) : snpAt l k = l[k] := by simp [snpAt, h]
theorem snpAt_of {l : List Snp} {k : Nat} {x : Snp} (h : l[k]? = some x) : snpAt l k = x := by simp [snpAt, h]
/-- its cells, its value -/
def snpL (x : Snp) (s1 : Value) : List Value := [.string x.nm, .string x.tg, s1]
def snpV (x : Snp) (s1 : Value) : Value := .agg #[.string x.nm, .string x.tg, s1]
def snpR (w : World) (cs : List Value) (x : Snp) : Prop := ∃ (A1 : Option Addr) (n1 c1 : Nat), cs = snpL x (.slice A1 n1 c1) ∧ StrR w A1 n1 c1 x.ch
def snpF (fp : List Nat) (w : World) (cs : List Value) (x : Snp) : Prop := ∃ (A1 : Option Addr) (n1 c1 : Nat) (f1 : List Nat), cs = snpL x (.slice A1 n1 c1) ∧ fp = f1 ∧ StrO f1 w A1 n1 c1 x.ch
theorem snpK : KindOk snpR snpF 3 where
  rlen := fun h => by obtain ⟨A1, n1, c1, rfl, h1⟩ := h; rfl
  rkeep := fun h hb => by obtain ⟨A1, n1, c1, rfl, h1⟩ := h; exact ⟨A1, n1, c1, rfl, h1.keep hb⟩
  flt := fun h b hb => by
    obtain ⟨A1, n1, c1, f1, rfl, rfl, h1⟩ := h
    exact h1.lt b hb
  fch := fun h hc hS => by
    obtain ⟨A1, n1, c1, f1, rfl, rfl, h1⟩ := h
    exact ⟨A1, n1, c1, _, rfl, rfl, h1.ch hc (fun b hb => hS b (by simp [hb]))⟩
  fr := fun h => by obtain ⟨A1, n1, c1, f1, rfl, rfl, h1⟩ := h; exact ⟨A1, n1, c1, rfl, h1.at_⟩
  one := fun h v hv => by
    obtain ⟨A1, n1, c1, rfl, h1⟩ := h
    simp only [snpL, List.mem_cons, List.not_mem_nil, or_false] at hv
    rcases hv with rfl | rfl | rfl <;> rfl
/-- its bounds -/
def snpB (x : Snp) : Prop := x.nm.size ≤ 9223372036854775807 ∧ x.tg.size ≤ 9223372036854775807 ∧ strB x.ch
def snpsB (l : List Snp) : Prop := l.length ≤ 9223372036854775807 ∧ ∀ y ∈ l, snpB y
def snpSz (x : Snp) : Nat := x.nm.size + x.tg.size + strsSz x.ch
def snpsSz (l : List Snp) : Nat := l.length + (l.map snpSz).sum
/-- its marks -/
def snpCnt (x : Snp) : Nat := 1 + 1 + strsCnt x.ch
def snpTop (x : Snp) : Nat := strsCnt x.ch
def snpsCnt (l : List Snp) : Nat := (l.map snpCnt).sum
def snpMk (k : Int) (x : Snp) : Snp := ⟨mtx k, mtx (k + 1), strsMk (k + 1 + 1) x.ch⟩
def snpsMk (k : Int) : List Snp → List Snp
  | [] => []
  | x :: l => snpMk k x :: snpsMk (k + (snpCnt x : Nat)) l
def snpTopMk (k : Int) (x : Snp) : Snp := ⟨x.nm, x.tg, strsMk k x.ch⟩
attribute [local irreducible] StrR IntR StrO IntO RowR RowO StrsAt IntsAt
end Go.Proofs.Ytdphdnllhmnelaa
/- CSet: how it lies in memory, the laws' helpers on it. -/
namespace Go.Proofs.Ytdphdnllhmnelaa
open Go.RowKit
structure Cst where
  nm : ByteArray
  snaps : List Snp
def cstNil : Cst := ⟨ByteArray.empty, []⟩
def cstAt (l : List Cst) (i : Nat) : Cst := l.getD i cstNil
theorem cstAt_get {l : List Cst} {k : Nat} (h : k < l.length) : cstAt l k = l[k] := by simp [cstAt, h]
theorem cstAt_of {l : List Cst} {k : Nat} {x : Cst} (h : l[k]? = some x) : cstAt l k = x := by simp [cstAt, h]
/-- its cells, its value -/
def cstL (x : Cst) (s1 : Value) : List Value := [.string x.nm, s1]
def cstV (x : Cst) (s1 : Value) : Value := .agg #[.string x.nm, s1]
def cstR (w : World) (cs : List Value) (x : Cst) : Prop := ∃ (A1 : Option Addr) (n1 c1 : Nat), cs = cstL x (.slice A1 n1 c1) ∧ RowR snpR 3 w A1 n1 c1 x.snaps
def cstF (fp : List Nat) (w : World) (cs : List Value) (x : Cst) : Prop := ∃ (A1 : Option Addr) (n1 c1 : Nat) (f1 : List Nat), cs = cstL x (.slice A1 n1 c1) ∧ fp = f1 ∧ RowO snpF 150 3 f1 w A1 n1 c1 x.snaps
theorem cstK : KindOk cstR cstF 2 where
  rlen := fun h => by obtain ⟨A1, n1, c1, rfl, h1⟩ := h; rfl
  rkeep := fun h hb => by obtain ⟨A1, n1, c1, rfl, h1⟩ := h; exact ⟨A1, n1, c1, rfl, h1.keep snpK hb⟩
  flt := fun h b hb => by
    obtain ⟨A1, n1, c1, f1, rfl, rfl, h1⟩ := h
    exact h1.lt snpK b hb
  fch := fun h hc hS => by
    obtain ⟨A1, n1, c1, f1, rfl, rfl, h1⟩ := h
    exact ⟨A1, n1, c1, _, rfl, rfl, h1.ch snpK hc (fun b hb => hS b (by simp [hb]))⟩
  fr := fun h => by obtain ⟨A1, n1, c1, f1, rfl, rfl, h1⟩ := h; exact ⟨A1, n1, c1, rfl, h1.at_ snpK (by omega)⟩
  one := fun h v hv => by
    obtain ⟨A1, n1, c1, rfl, h1⟩ := h
    simp only [cstL, List.mem_cons, List.not_mem_nil, or_false] at hv
    rcases hv with rfl | rfl <;> rfl
/-- its bounds -/
def cstB (x : Cst) : Prop := x.nm.size ≤ 9223372036854775807 ∧ snpsB x.snaps
def cstsB (l : List Cst) : Prop := l.length ≤ 9223372036854775807 ∧ ∀ y ∈ l, cstB y
def cstSz (x : Cst) : Nat := x.nm.size + snpsSz x.snaps
def cstsSz (l : List Cst) : Nat := l.length + (l.map cstSz).sum
/-- its marks -/
def cstCnt (x : Cst) : Nat := 1 + snpsCnt x.snaps
def cstTop (x : Cst) : Nat := snpsCnt x.snaps
def cstsCnt (l : List Cst) : Nat := (l.map cstCnt).sum
def cstMk (k : Int) (x : Cst) : Cst := ⟨mtx k, snpsMk (k + 1) x.snaps⟩
def cstsMk (k : Int) : List Cst → List Cst
  | [] => []
  | x :: l => cstMk k x :: cstsMk (k + (cstCnt x : Nat)) l
def cstTopMk (k : Int) (x : Cst) : Cst := ⟨x.nm, snpsMk k x.snaps⟩
attribute [local irreducible] StrR IntR StrO IntO RowR RowO StrsAt IntsAt
end Go.Proofs.Ytdphdnllhmnelaa
/- Catalog: how it lies in memory, the laws' helpers on it. -/
namespace Go.Proofs.Ytdphdnllhmnelaa
open Go.RowKit
structure Ctl where
  sets : List Cst
def ctlNil : Ctl := ⟨[]⟩
def ctlAt (l : List Ctl) (i : Nat) : Ctl := l.getD i ctlNil
/-- its cells, its value -/
def ctlL (x : Ctl) (s1 : Value) : List Value := [s1]
def ctlV (x : Ctl) (s1 : Value) : Value := .agg #[s1]
def ctlR (w : World) (cs : List Value) (x : Ctl) : Prop := ∃ (A1 : Option Addr) (n1 c1 : Nat), cs = ctlL x (.slice A1 n1 c1) ∧ RowR cstR 2 w A1 n1 c1 x.sets
def ctlF (fp : List Nat) (w : World) (cs : List Value) (x : Ctl) : Prop := ∃ (A1 : Option Addr) (n1 c1 : Nat) (f1 : List Nat), cs = ctlL x (.slice A1 n1 c1) ∧ fp = f1 ∧ RowO cstF 148 2 f1 w A1 n1 c1 x.sets
/-- its bounds -/
def ctlB (x : Ctl) : Prop := cstsB x.sets
def ctlsB (l : List Ctl) : Prop := l.length ≤ 9223372036854775807 ∧ ∀ y ∈ l, ctlB y
def ctlSz (x : Ctl) : Nat := cstsSz x.sets
def ctlsSz (l : List Ctl) : Nat := l.length + (l.map ctlSz).sum
/-- its marks -/
def ctlCnt (x : Ctl) : Nat := cstsCnt x.sets
def ctlTop (x : Ctl) : Nat := cstsCnt x.sets
def ctlsCnt (l : List Ctl) : Nat := (l.map ctlCnt).sum
def ctlMk (k : Int) (x : Ctl) : Ctl := ⟨cstsMk k x.sets⟩
def ctlsMk (k : Int) : List Ctl → List Ctl
  | [] => []
  | x :: l => ctlMk k x :: ctlsMk (k + (ctlCnt x : Nat)) l
def ctlTopMk (k : Int) (x : Ctl) : Ctl := ⟨cstsMk k x.sets⟩
attribute [local irreducible] StrR IntR StrO IntO RowR RowO StrsAt IntsAt
end Go.Proofs.Ytdphdnllhmnelaa
/- One element more in a row of the call's own, behind an append. -/
namespace Go.Proofs.Ytdphdnllhmnelaa
open Go.RowKit
section
variable {α : Type} {R : World → List Value → α → Prop} {F : List Nat → World → List Value → α → Prop} {e sz n c c' m : Nat} {w w' : World} {fps : List (List Nat)} {css : List (List Value)} {A A' : Option Addr} {l : List α} {cs : List Value} {f : List Nat} {x : α}
theorem row_app1 (K : KindOk R F sz) (hl : n = l.length) (E : Els F w css fps l) (hx : F f w cs x) (hN : ((blkL A ++ fps.flatten) ++ f).Nodup)
    (own' : w'.ownsRow 0 e sz (.slice A' (n + 1) c') (n + 1) (css.flatten ++ cs)) (hg : w.grownBy w' (Value.slice A n c).ownBlock)
    (hob : (Value.slice A' (n + 1) c').ownBlock = (Value.slice A n c).ownBlock ∨ (Value.slice A' (n + 1) c').ownBlock = some m) (hm : w.heap.size ≤ m) :
    ∃ fp', RowO F e sz fp' w' A' (n + 1) c' (l ++ [x]) ∧ fp'.Nodup ∧ (∀ b ∈ fp', b ∈ blkL A ++ fps.flatten ∨ b ∈ f ∨ b = m) ∧ Ch (fun b => b ∈ blkL A) w w' := by
  have hN6 : (blkL A ++ (fps ++ [f]).flatten).Nodup := by
    rw [List.flatten_append, ← List.append_assoc]
    simpa using hN
  obtain ⟨hE8, hN8, hO8⟩ := app_els (A := A) (n := n) (c := c) K E hx hN6 hg hob hm
  have own9 : w'.ownsRow 0 e sz (.slice A' (n + 1) c') (n + 1) (css ++ [cs]).flatten := by rw [List.flatten_append]; simpa using own'
  refine ⟨_, RowO.intro own9 (by rw [List.length_append, hl]; rfl) hE8, hN8, fun b hb => ?_, (Ch.of_grow hg).mono (fun b hb => mem_blkL.2 (blk_of hb))⟩
  rcases List.mem_append.1 hb with hb | hb
  · rcases hO8 b hb with h | h
    · exact .inl (List.mem_append_left _ h)
    · exact .inr (.inr h)
  · rw [List.flatten_append] at hb
    rcases List.mem_append.1 hb with hb | hb
    · exact .inl (List.mem_append_right _ hb)
    · exact .inr (.inl (by simpa using hb))
/-- one cell of an element and what it leads to are changed -/
theorem upd_els1 {c1 c2 : List (List Value)} {f1 f2 : List (List Nat)} {l1 l2 : List α} {g j : Nat} {v : Value} {f' : List Nat} {x' : α} {w7 w8 : World} (K : KindOk R F sz)
    (ho : w.ownsRow 0 e sz (.slice (some ⟨g, 0, none⟩) n c) n (c1.flatten ++ (cs ++ c2.flatten))) (hE1 : Els F w c1 f1 l1) (hE2 : Els F w c2 f2 l2) (hcs : cs.length = sz) (hj : j < sz) (hn : n = l1.length + 1 + l2.length)
    (hN : (g :: (f1.flatten ++ (f ++ f2.flatten))).Nodup) (hC : Ch (fun b => b ∈ f) w w7) (hx : F f' w7 (cs.set j v) x') (hf' : ∀ b ∈ f', b ∈ f ∨ w.heap.size ≤ b) (hf'N : f'.Nodup) (hw8 : w8 = w7.setCell ⟨g, l1.length * sz + j, none⟩ v) :
    RowO F e sz (blkL (some ⟨g, 0, none⟩) ++ (f1 ++ f' :: f2).flatten) w8 (some ⟨g, 0, none⟩) n c (l1 ++ x' :: l2) ∧ (g :: (f1.flatten ++ (f' ++ f2.flatten))).Nodup ∧ Ch (fun b => b = g ∨ b ∈ f) w w8 := by
  have hgw : g < w.heap.size := (own_lo ho g (by simp [blkL])).2
  have lt1 := hE1.lt K
  have lt2 := hE2.lt K
  simp only [List.nodup_cons, List.nodup_append, List.mem_append, not_or] at hN
  have hgf : ¬ g ∈ f := by grind
  have d1 : ∀ b ∈ f1.flatten, ¬ b ∈ f := fun b h1 h2 => by grind
  have d2 : ∀ b ∈ f2.flatten, ¬ b ∈ f := fun b h1 h2 => by grind
  have e1 : ∀ b ∈ f1.flatten, ¬ b = g := fun b h1 h2 => by subst h2; grind
  have e2 : ∀ b ∈ f2.flatten, ¬ b = g := fun b h1 h2 => by subst h2; grind
  have e3 : ∀ b ∈ f', ¬ b = g := fun b h1 h2 => by
    subst h2
    rcases hf' b h1 with h | h
    · exact hgf h
    · omega
  have hC8 : Ch (fun b => b = g) w7 w8 := by rw [hw8]; exact (Ch.refl (S := fun b => b = g) w7).setCell (p := ⟨g, l1.length * sz + j, none⟩) rfl v
  have o7 := own_ch ho hC (fun b hb h2 => hgf (by
    have : b = g := by simpa [Value.ownBlock, eq_comm] using hb
    rw [← this]; exact h2))
  have o8 := own_setsW [v] (l1.length * sz + j) w7 _ o7
  rw [setsL_in (hE1.flat K) (by simp; omega)] at o8
  have o9 : w8.ownsRow 0 e sz (.slice (some ⟨g, 0, none⟩) n c) n (c1.flatten ++ (cs.set j v ++ c2.flatten)) := by rw [hw8]; exact o8
  have E1 := (hE1.ch K hC d1).ch K hC8 e1
  have E2 := (hE2.ch K hC d2).ch K hC8 e2
  have X := K.fch hx hC8 e3
  refine ⟨RowO.intro (css := c1 ++ cs.set j v :: c2) (by simpa using o9) (by simp; omega) (E1.app ⟨X, E2⟩), ?_, (hC.mono (fun b hb => .inr hb)).trans (hC8.mono (fun b hb => .inl hb))⟩
  simp only [List.nodup_cons, List.nodup_append, List.mem_append, not_or]
  refine ⟨⟨by grind, fun h => e3 g h rfl, by grind⟩, by grind, ⟨hf'N, by grind, fun a ha b hb hab => ?_⟩, fun a ha b hb hab => ?_⟩
  · subst hab
    rcases hf' a ha with h | h
    · exact d2 a hb h
    · have := lt2 a hb; omega
  · subst hab
    rcases hb with hb | hb
    · rcases hf' a hb with h | h
      · exact d1 a ha h
      · have := lt1 a ha; omega
    · grind
end
end Go.Proofs.Ytdphdnllhmnelaa
/- A block of cells of the call's own: all of its cells, none frozen. -/
namespace Go.Proofs.Ytdphdnllhmnelaa
open Go.RowKit

structure BoxL (w : World) (h : Nat) (cs : List Value) : Prop where
  cell : ∀ j u, cs[j]? = some u → w.cell? ⟨h, j, none⟩ = some u
  fz : ∀ j, j < cs.length → w.frozen? ⟨h, j, none⟩ = false
  lt : h < w.heap.size
theorem ne_blk {g h : Nat} (hn : h ≠ g) : ¬ (fun k => k = g) h := hn
theorem BoxL.ch {S : Nat → Prop} {w w' : World} {h : Nat} {cs : List Value} (k : BoxL w h cs) (hc : Ch S w w') (hS : ¬ S h) : BoxL w' h cs :=
  ⟨fun j u hu => hc.cell (k.cell j u hu) hS, fun j hj => (World.frozen?_of_block (hc.block h k.lt hS)).trans (k.fz j hj), Nat.lt_of_lt_of_le k.lt hc.size⟩
theorem BoxL.keep {w w' : World} {h : Nat} {cs : List Value} (k : BoxL w h cs) (hb : Below w.heap.size w w') : BoxL w' h cs := k.ch (S := fun _ => False) (Ch.of_below hb) (fun h => h)
theorem Ch.set {w : World} {g o : Nat} {v : Value} : Ch (fun k => k = g) w (w.setCell ⟨g, o, none⟩ v) := (Ch.refl (S := fun k => k = g) w).setCell (p := ⟨g, o, none⟩) rfl v
theorem BoxL.set {w : World} {h j : Nat} {cs : List Value} {v : Value} (k : BoxL w h cs) (hj : j < cs.length) : BoxL (w.setCell ⟨h, j, none⟩ v) h (cs.set j v) := by
  refine ⟨fun i u hu => ?_, fun i hi => ?_, Nat.lt_of_lt_of_le k.lt (Ch.set (g := h) (o := j) (v := v)).size⟩
  · rw [List.getElem?_set] at hu
    by_cases e : j = i
    · subst e
      rw [if_pos rfl, if_pos hj] at hu
      obtain rfl := Option.some.inj hu
      exact sethere (k.cell j _ (List.getElem?_eq_getElem hj))
    · rw [if_neg e] at hu
      exact setoff (k.cell i u hu) (.inr e)
  · rw [List.length_set] at hi
    exact (World.frozen?_setCell _ _ _ _).trans (k.fz i hi)
theorem BoxL.new (w : World) (cs : List Value) (t : TypeId) : BoxL (w.alloc (.cells cs.toArray t)) w.heap.size cs :=
  ⟨fun j u hu => by rw [World.cell?_alloc_at cs.toArray t _ _ rfl]; simpa using hu, fun j _ => World.frozen?_alloc_at cs.toArray t _ _ rfl, by simp [go_sem]⟩
theorem setsW_fz {g : Nat} {p : Addr} : ∀ (vs : List Value) (o : Nat) (w : World), (setsW w g o vs).frozen? p = w.frozen? p
  | [], _, _ => rfl
  | v :: vs, o, w => (setsW_fz vs (o + 1) _).trans (World.frozen?_setCell _ _ _ _)
theorem BoxL.sets {w : World} {h : Nat} {cs vs : List Value} (k : BoxL w h cs) (hl : vs.length = cs.length) : BoxL (setsW w h 0 vs) h vs :=
  ⟨fun j u hu => by
    have := setsW_cell (g := h) vs 0 w (fun j hj => ⟨_, by rw [Nat.zero_add]; exact k.cell j _ (List.getElem?_eq_getElem (by omega))⟩) j u hu
    rwa [Nat.zero_add] at this, fun j hj => (setsW_fz vs 0 w).trans (k.fz j (by omega)), Nat.lt_of_lt_of_le k.lt (ch_setsW vs 0 w).size⟩
theorem BoxL.range {w : World} {h : Nat} {cs : List Value} (k : BoxL w h cs) : w.rangeAt h 0 cs := fun j v hv => by rw [Nat.zero_add]; exact k.cell j v hv
theorem BoxL.there {w : World} {h : Nat} {cs : List Value} (k : BoxL w h cs) {n : Nat} (hn : n = cs.length) : w.there h 0 n := fun j hj => by
  rw [Nat.zero_add]
  exact ⟨by rw [k.cell j _ (List.getElem?_eq_getElem (by omega))]; rfl, k.fz j (by omega)⟩
theorem ch_setCells {g : Nat} : ∀ (vs : List Value) (o : Nat) (w : World), Ch (fun b => b = g) w (w.setCells g o vs)
  | [], _, w => Ch.refl w
  | v :: vs, o, w => (Ch.set (g := g) (o := o) (v := v)).trans (ch_setCells vs (o + 1) _)
theorem BoxL.setCells {w : World} {h : Nat} {cs vs : List Value} (k : BoxL w h cs) (hl : vs.length = cs.length) : BoxL (w.setCells h 0 vs) h vs :=
  ⟨fun j u hu => by
    have hj : j < vs.length := (List.getElem?_eq_some_iff.1 hu).1
    have := World.cell?_setCells_in h vs 0 w (fun i hi => (k.there rfl i (by omega)).1) j hj
    rw [Nat.zero_add] at this
    rw [this, ← hu, List.getElem?_eq_getElem hj], fun j hj => (World.frozen?_setCells _ _ _ _ _).trans (k.fz j (by omega)), Nat.lt_of_lt_of_le k.lt (ch_setCells vs 0 w).size⟩
theorem BoxL.below {B : Nat} {w w' : World} {h : Nat} {cs : List Value} (k : BoxL w h cs) (hb : Below B w w') (hB : h < B) : BoxL w' h cs :=
  ⟨fun j u hu => (hb.cell (p := ⟨h, j, none⟩) hB).trans (k.cell j u hu), fun j hj => (hb.frozen (p := ⟨h, j, none⟩) hB).trans (k.fz j hj), Nat.lt_of_lt_of_le k.lt hb.size⟩
/-- a struct that lies in a block of its own and a second result are handed back -/
theorem results_cell_tmp {P : Program} {fn : Func} {c u : Tmp} {ty : TypeId} (h : fn.results = #[.cell c ty, .tmp u]) {tmps : Array Value} {w : World} {b : Nat} {cs : List Value} {d : TypeDesc} (hp : tmps.getD c undef = .pointer (some ⟨b, 0, none⟩))
    (hc : w.rangeAt b 0 cs) (hu : P.underlying ty = some d) (hd : d.isRow = true) (hi : (P.info? ty).map (·.size) = some cs.length) : (results fn tmps).run P w = .ok (.tuple #[.agg cs.toArray, tmps.getD u undef]) w := by
  have hl := run_loadVar_mid (P := P) w b 0 ty cs d hc hu hd hi
  have hp' : tmps[c]?.getD undef = .pointer (some ⟨b, 0, none⟩) := by simpa using hp
  simp [results, h, hp', asAddr, Sem.run_bind, hl]
/-- what lies in blocks from B on is changed: nothing below is -/
theorem Ch.belowB {S : Nat → Prop} {B : Nat} {w0 w w' : World} (hc : Ch S w w') (hb : Below B w0 w) (hB : B ≤ w.heap.size) (hS : ∀ k, S k → B ≤ k) : Below B w0 w' := hb.trans (hc.below hS hB)
end Go.Proofs.Ytdphdnllhmnelaa
/- append as an operation of a region that draws; a block made there. -/
namespace Go.Proofs.Ytdphdnllhmnelaa
open Go.RowKit
theorem step_app {P : Program} {ops : Array Oper} {o : Oper} {a : Act} {w : World} {K : Act → World → Prop} {Q : Exit → Act → World → Prop} {E : Prop} (hgd : o.guard = none) (s x : Operand) (t : TypeId)
    (ho : o.op = .call { callee := .builtin .append, args := #[s, x], argTypes := #[t, t] })
    (base : Nat) (e : TypeId) (z : Value) (size bytes : Nat) (ht : P.underlying t = some (.slice e)) (hinfo : (P.info? e).map (fun i => (i.zero, i.size, i.bytes)) = some (some z, size, bytes))
    (hzs : z.cells.size = size) (hsz : 0 < size) (v : Value) (n : Nat) (xs : List Value) (hs : a.eval s = v) (hown : w.ownsRow base e size v n xs)
    (A : Option Addr) (m c : Nat) (news : List Value) (hx : a.eval x = .slice A m c) (hsrc : CellsAt w A m size news) (h1 : ∀ u ∈ news, u.oneCell' = true) (hn : A = none → c = 0)
    (h63 : n + m ≤ maxLen) (hbytes : (n + m) * bytes ≤ 140737488355328) (hbase : base ≤ w.heap.size)
    (h : ∀ A' c' w', w'.ownsRow base e size (.slice A' (n + m) c') (n + m) (xs ++ news) → w.grownBy w' v.ownBlock → Below base w w' →
      ((Value.slice A' (n + m) c').ownBlock = v.ownBlock ∨ (Value.slice A' (n + m) c').ownBlock = some w.heap.size) → K (a.put o.dst (.slice A' (n + m) c')) w') :
    if Region.wanted o (yielded ops a.tmps) = true then Oper.wp P o a w K Q else E := by
  have hw : Region.wanted o (yielded ops a.tmps) = true := by simp [Region.wanted, hgd]
  rw [if_pos hw]
  obtain ⟨A', c', w', hr, h2, h3, h4⟩ := run_app (P := P) w base t o.type e z size bytes ht hinfo hzs hsz v n xs hown A m c news hsrc h1 hn h63 hbytes hbase
  unfold Oper.wp execOp
  simp only [ho, resolve, invoke, builtin, Sem.run_bind, Sem.run_pure, Result.andThen_ok, List.map_toArray, List.map_cons, List.map_nil, hs, hx, hr]
  exact h A' c' w' h2 h3 (below_own hown h3 hbase) h4
theorem new1c (w : World) (cs : List Value) (n : Nat) (hn : cs.length = n) (t : TypeId) : CellsAt (w.alloc (.cells cs.toArray t)) (some ⟨w.heap.size, 0, none⟩) 1 n cs := by
  refine ⟨by simpa using hn, fun _ => ⟨w.heap.size, 0, rfl, fun j u hu => ?_⟩⟩
  rw [Nat.zero_add, World.cell?_alloc_new]
  simpa using hu
end Go.Proofs.Ytdphdnllhmnelaa
/- Copies of a catalog: the program's copyCatalog. -/
namespace Go.Proofs.Ytdphdnllhmnelaa
open Go.RowKit
theorem Ch.nam {S : Nat → Prop} {w w' : World} (_ : Ch S w w') : ∃ V, V = w' := ⟨_, rfl⟩
/-- a catalog that fits: what a copy of it costs is little -/
def ctlW (x : Ctl) : Prop := x.sets.length ≤ 1000 ∧ ∀ s ∈ x.sets, s.snaps.length ≤ 1000 ∧ ∀ p ∈ s.snaps, p.ch.length ≤ 1000
theorem results_cell1 {P : Program} {fn : Func} {c : Tmp} {ty : TypeId} (h : fn.results = #[.cell c ty]) {tmps : Array Value} {w : World} {b : Nat} {cs : List Value} {d : TypeDesc} (hp : tmps.getD c undef = .pointer (some ⟨b, 0, none⟩))
    (hc : w.rangeAt b 0 cs) (hu : P.underlying ty = some d) (hd : d.isRow = true) (hi : (P.info? ty).map (·.size) = some cs.length) : (results fn tmps).run P w = .ok (.agg cs.toArray) w := by
  have hl := run_loadVar_mid (P := P) w b 0 ty cs d hc hu hd hi
  have hp' : tmps[c]?.getD undef = .pointer (some ⟨b, 0, none⟩) := by simpa using hp
  simp [results, h, hp', asAddr, Sem.run_bind, hl]
theorem cstInfo : (Try.prog.info? 148).map (fun i => (i.zero, i.size, i.bytes)) = some (some (.agg #[.string ByteArray.empty, .slice none 0 0]), 2, 40) := by kernel_rfl
theorem snpInfo : (Try.prog.info? 150).map (fun i => (i.zero, i.size, i.bytes)) = some (some (.agg #[.string ByteArray.empty, .string ByteArray.empty, .slice none 0 0]), 3, 56) := by kernel_rfl
theorem sizeCat0 : (Try.prog.info? 84).map (·.size) = some 1 := by kernel_rfl
theorem StrR.nilcap {w : World} {A : Option Addr} {n c : Nat} {l : List ByteArray} (h : StrR w A n c l) : A = none → c = 0 := by unfold StrR at h; exact h.2
theorem StrR.at_r' {w : World} {A : Option Addr} {n c : Nat} {l : List ByteArray} (h : StrR w A n c l) : StrsAt w A n l := by unfold StrR at h; exact h.1
theorem strO_in {lo hi n c : Nat} {w : World} {A : Option Addr} {l : List ByteArray} (h : StrsIn lo hi w A n c l) : ∃ fp, fp.Nodup ∧ (∀ b ∈ fp, lo ≤ b ∧ b < hi) ∧ StrO fp w A n c l := StrO.of_in h
theorem cstF_of {f : List Nat} {w : World} {A : Option Addr} {n c : Nat} {y : Cst} (h : RowO snpF 150 3 f w A n c y.snaps) : cstF f w [.string y.nm, .slice A n c] y := ⟨A, n, c, f, rfl, rfl, h⟩
theorem snpF_of {f : List Nat} {w : World} {A : Option Addr} {n c : Nat} {y : Snp} (h : StrO f w A n c y.ch) : snpF f w [.string y.nm, .string y.tg, .slice A n c] y := ⟨A, n, c, f, rfl, rfl, h⟩
attribute [local irreducible] StrsAt StrR StrO RowR RowO
set_option maxRecDepth 8000 in
set_option maxHeartbeats 8000000 in
theorem copyCat_impl (x : Ctl) (A : Option Addr) (n c : Nat) (w : World) (h : RowR cstR 2 w A n c x.sets) (hW : ctlW x) :
    Calls Try.prog 184 #[ctlV x (.slice A n c)] w fun e w' => (∃ A' n' c' fp, e = .returned (ctlV x (.slice A' n' c')) ∧ RowO cstF 148 2 fp w' A' n' c' x.sets ∧ fp.Nodup ∧ ∀ b ∈ fp, w.heap.size ≤ b ∧ b < w'.heap.size) ∧ Below w.heap.size w w' := by
  have HL := Lib.hid h.len
  have hn : n ≤ 1000 := by have := h.len; have := hW.1; omega
  unfold ctlV
  go_enter Try.func184, Try.ntmps184
  go_wp2_with fail
  have al0 := (Below.refl (w).heap.size (w)).alloc (Nat.le_refl _) (.cells #[.slice A n c] 84)
  have X0 := BoxL.new (w) [.slice A n c] 84
  have al1 := (Below.refl ((w).alloc (.cells #[.slice A n c] 84)).heap.size ((w).alloc (.cells #[.slice A n c] 84))).alloc (Nat.le_refl _) (.cells #[.slice none 0 0] 84)
  have X1 := BoxL.new ((w).alloc (.cells #[.slice A n c] 84)) [.slice none 0 0] 84
  have al2 := (Below.refl (((w).alloc (.cells #[.slice A n c] 84)).alloc (.cells #[.slice none 0 0] 84)).heap.size (((w).alloc (.cells #[.slice A n c] 84)).alloc (.cells #[.slice none 0 0] 84))).alloc (Nat.le_refl _) (.cells #[.slice none 0 0] 84)
  have X2 := BoxL.new (((w).alloc (.cells #[.slice A n c] 84)).alloc (.cells #[.slice none 0 0] 84)) [.slice none 0 0] 84
  obtain ⟨W, hW0⟩ : ∃ W, W = (((w).alloc (.cells #[.slice A n c] 84)).alloc (.cells #[.slice none 0 0] 84)).alloc (.cells #[.slice none 0 0] 84) := ⟨_, rfl⟩
  have P0 : BoxL W w.heap.size [.slice A n c] := by rw [hW0]; exact (X0.keep al1).keep al2
  have R0 : BoxL W (w.heap.size + 1) [.slice none 0 0] := by rw [hW0]; have := X1.keep al2; simpa using this
  have O0 : BoxL W (w.heap.size + 1 + 1) [.slice none 0 0] := by rw [hW0]; simpa using X2
  have B0 : Below w.heap.size w W := by rw [hW0]; exact bthen (bthen al0 al1) al2
  rw [← hW0]
  clear X0 X1 X2 al0 al1 al2 hW0
  obtain ⟨g, hg⟩ : ∃ g, w.heap.size = g := ⟨_, rfl⟩
  have HG := Lib.hid hg
  simp only [hg] at P0 R0 O0 ⊢
  clear hg
  have hOl := O0.lt
  go_loopw [13] (fun i wr => ∃ (k : Nat) (P : Option Addr) (cp : Nat) (fp : List Nat), k ≤ n ∧ i = .int .i64 k ∧ BoxL wr g [.slice A n c] ∧ BoxL wr (g + 1) [.slice none 0 0] ∧ BoxL wr (g + 1 + 1) [.slice P k cp] ∧ RowO cstF 148 2 fp wr P k cp (x.sets.take k) ∧ fp.Nodup ∧ (∀ b ∈ fp, W.heap.size ≤ b) ∧ Below w.heap.size w wr ∧ W.heap.size ≤ wr.heap.size) (fun i _ => n - (intOf i).toNat)
  case atStart => exact ⟨0, none, 0, [], Nat.zero_le _, rfl, P0, R0, O0, by rw [List.take_zero]; exact RowO.nil, List.nodup_nil, (fun b hb => by cases hb), B0, Nat.le_refl _⟩
  case round =>
    clear P0 R0 O0 B0
    obtain ⟨k, P, cp, fp, hk, rfl, BP, BR, BO, RO, hND, hFP, hB, hz⟩ := hrel
    by_cases hlt : k < n
    · skip
      have k1 := h.keep cstK hB
      obtain ⟨b, off, rfl⟩ := k1.head (by omega)
      obtain ⟨bl, y, cs, hy, ⟨B1, m1, d1, rfl, y1⟩, hcell⟩ := k1.elem_at hlt
      have hyW := bounds_el hW.2 hy
      have f0 : wr.cell? ⟨b, off + k * 2, none⟩ = some (.string y.nm) := hcell 0 _ rfl
      have f1 : wr.cell? ⟨b, off + k * 2 + 1, none⟩ = some (.slice B1 m1 d1) := hcell 1 _ rfl
      have HT := Lib.hid (take_more hy)
      have HM := Lib.hid y1.len
      have hm1 : m1 ≤ 1000 := by have := y1.len; have := hyW.1; omega
      have p0 := BP.cell 0 _ rfl; have pl := BP.lt
      have hRl := RO.lt cstK
      clear hcell hy
      have al0 := (Below.refl (wr).heap.size (wr)).alloc (Nat.le_refl _) (.cells #[.string y.nm, .slice B1 m1 d1] 148)
      have X0 := BoxL.new (wr) [.string y.nm, .slice B1 m1 d1] 148
      have al1 := (Below.refl ((wr).alloc (.cells #[.string y.nm, .slice B1 m1 d1] 148)).heap.size ((wr).alloc (.cells #[.string y.nm, .slice B1 m1 d1] 148))).alloc (Nat.le_refl _) (.cells #[.string y.nm, .slice none 0 0] 148)
      have X1 := BoxL.new ((wr).alloc (.cells #[.string y.nm, .slice B1 m1 d1] 148)) [.string y.nm, .slice none 0 0] 148
      go_wp2_with fail
      obtain ⟨V, hV⟩ : ∃ V, V = ((wr).alloc (.cells #[.string y.nm, .slice B1 m1 d1] 148)).alloc (.cells #[.string y.nm, .slice none 0 0] 148) := ⟨_, rfl⟩
      have BS : BoxL V wr.heap.size [.string y.nm, .slice B1 m1 d1] := by rw [hV]; exact X0.keep al1
      have BX : BoxL V (wr.heap.size + 1) [.string y.nm, .slice none 0 0] := by rw [hV]; simpa using X1
      have alV : Below wr.heap.size wr V := by rw [hV]; exact bthen al0 al1
      rw [← hV]
      clear X0 X1 al0 al1 hV
      obtain ⟨gs, hgs⟩ : ∃ g, wr.heap.size = g := ⟨_, rfl⟩
      have HGS := Lib.hid hgs
      simp only [hgs] at BS BX ⊢
      clear hgs
      obtain ⟨gx, hgx⟩ : ∃ g, gs + 1 = g := ⟨_, rfl⟩
      have HGX := Lib.hid hgx
      simp only [hgx] at BX ⊢
      have hsx : gs < gx := by omega
      clear hgx
      have hgs1 : gs = wr.heap.size := HGS.out.symm
      have hzx : wr.heap.size ≤ gs := by omega
      clear hgs1
      have BP' := BP.keep alV; have BR' := BR.keep alV; have BO' := BO.keep alV; have RO' := RO.keep cstK alV; have hB' := bthen hB alV
      have y2 := y1.keep snpK alV
      have hVz := alV.size
      have hbw : b < wr.heap.size := bl
      have hxV := BX.lt
      clear BP BR BO RO hB p0 pl f0 f1 k1 bl
      go_loopw [23] (fun i wq => ∃ (j : Nat) (Q : Option Addr) (cq : Nat) (fq : List Nat), j ≤ m1 ∧ i = .int .i64 j ∧ BoxL wq gx [.string y.nm, .slice Q j cq] ∧ RowO snpF 150 3 fq wq Q j cq (y.snaps.take j) ∧ fq.Nodup ∧ (∀ b ∈ fq, V.heap.size ≤ b) ∧ Ch (fun b => b = gx ∨ V.heap.size ≤ b) V wq ∧ V.heap.size ≤ wq.heap.size) (fun i _ => m1 - (intOf i).toNat)
      case atStart => exact ⟨0, none, 0, [], Nat.zero_le _, rfl, BX, by rw [List.take_zero]; exact RowO.nil, List.nodup_nil, (fun b hb => by cases hb), Ch.refl _, Nat.le_refl _⟩
      case round =>
        clear BX
        obtain ⟨j, Q, cq, fq, hj, rfl, BX, RQ, hNQ, hFQ, hCh, hzq⟩ := hrel
        obtain ⟨wq, hwq⟩ := Ch.nam hCh; subst hwq
        have hBq : Below w.heap.size w wq := hCh.belowB hB' (by have := hB'.size; omega) (fun b hb => by have := HG.out; rcases hb with hb | hb <;> omega)
        have nP : ∀ t : Nat, t < g + 3 → ¬ (t = gx ∨ V.heap.size ≤ t) := fun t ht => by omega
        have BPq := BP'.ch hCh (nP _ (by omega)); have BRq := BR'.ch hCh (nP _ (by omega)); have BOq := BO'.ch hCh (nP _ (by omega))
        have BSq := BS.ch hCh (by omega)
        by_cases hltj : j < m1
        · skip
          have yq : RowR snpR 3 wq B1 m1 d1 y.snaps := y1.keep snpK (alV.trans (hCh.below (B := wr.heap.size) (fun b hb => by rcases hb with hb | hb <;> omega) (by omega)))
          have s0 := BSq.cell 0 _ rfl; have s1 := BSq.cell 1 _ rfl; have sl := BSq.lt
          obtain ⟨sb, so, rfl⟩ := yq.head (by omega)
          obtain ⟨sbl, v, cs2, hv, ⟨E1, em, ed, rfl, v1⟩, hcellv⟩ := yq.elem_at hltj
          have hvW := bounds_el hyW.2 hv
          have t0 : wq.cell? ⟨sb, so + j * 3, none⟩ = some (.string v.nm) := hcellv 0 _ rfl
          have t1 : wq.cell? ⟨sb, so + j * 3 + 1, none⟩ = some (.string v.tg) := hcellv 1 _ rfl
          have t2 : wq.cell? ⟨sb, so + j * 3 + 2, none⟩ = some (.slice E1 em ed) := hcellv 2 _ rfl
          have HTV := Lib.hid (take_more hv)
          have HE := Lib.hid v1.len
          have hem : em ≤ 1000 := by have := v1.len; omega
          have hRQl := RQ.lt snpK
          clear hcellv hv
          have aly := (Below.refl wq.heap.size wq).alloc (Nat.le_refl _) (.cells #[.string v.nm, .string v.tg, .slice E1 em ed] 150)
          have BY := BoxL.new wq [.string v.nm, .string v.tg, .slice E1 em ed] 150
          go_wp2_with fail
          obtain ⟨Y, hY⟩ : ∃ V, V = wq.alloc (.cells #[.string v.nm, .string v.tg, .slice E1 em ed] 150) := ⟨_, rfl⟩
          rw [← hY] at aly BY ⊢
          obtain ⟨gy, hgy⟩ : ∃ g, wq.heap.size = g := ⟨_, rfl⟩
          have HGY := Lib.hid hgy
          simp only [hgy] at BY ⊢
          have hzy : wq.heap.size ≤ gy := by omega
          clear hY hgy
          have vY := v1.keep aly
          have BX2 := BX.keep aly; have RQ2 := RQ.keep snpK aly
          have hChY := hCh.trans (Ch.of_below (S := fun b => b = gx ∨ V.heap.size ≤ b) aly)
          have hYl := aly.size
          clear t0 t1 t2 s0 s1 sl BX RQ v1
          obtain ⟨css, fps, rfl, own, hlQ, EQ⟩ := RQ2.ex
          have HLQ := Lib.hid hlQ; clear hlQ
          have hyl := BY.lt; have hxl := BX2.lt
          have hgxy : gx < gy := by omega
          have hNQ2 : (blkL Q ++ fps.flatten).Nodup := hNQ
          have hlt2 : ∀ b ∈ blkL Q ++ fps.flatten, b < wq.heap.size := hRQl
          have hge2 : ∀ b ∈ blkL Q ++ fps.flatten, V.heap.size ≤ b := hFQ
          refine wp_region_dagb [27, 28, 29, 30, 31, 32, 33, 34, 35, 36, 37, 38, 39] (by kernel_rfl) (by kernel_rfl) (fun D vs w' => ∃ v27 v28 v29 v30 v31 v32 v33 v34 v35 v36 v37 v38 v39 : Value, vs = [v27, v28, v29, v30, v31, v32, v33, v34, v35, v36, v37, v38, v39] ∧ (D 11 = false → Below Y.heap.size Y w') ∧ Ch (fun b => b = gx ∨ V.heap.size ≤ b) V w' ∧ Y.heap.size ≤ w'.heap.size ∧ (D 13 = false → BoxL w' gx [.string y.nm, .slice Q j cq]) ∧ BoxL w' gy [.string v.nm, .string v.tg, .slice E1 em ed] ∧ (D 11 = false → w'.ownsRow 0 150 3 (.slice Q j cq) j css.flatten) ∧ (D 11 = false → Els snpF w' css fps (y.snaps.take j)) ∧ (D 0 = true → v27 = .pointer (some ⟨gx, 1, none⟩)) ∧ (D 1 = true → v28 = .slice Q j cq) ∧ (D 2 = true → v29 = .pointer (some ⟨gy, 0, none⟩)) ∧ (D 3 = true → v30 = .string v.nm) ∧ (D 4 = true → v31 = .pointer (some ⟨gy, 1, none⟩)) ∧ (D 5 = true → v32 = .string v.tg) ∧ (D 6 = true → v33 = .pointer (some ⟨gy, 2, none⟩)) ∧ (D 7 = true → v34 = .slice E1 em ed) ∧ (D 8 = true → (D 9 = false → ∃ (E2 : Option Addr) (ed2 : Nat) (f2 : List Nat), v35 = .slice E2 em ed2 ∧ f2.Nodup ∧ (∀ b ∈ f2, Y.heap.size ≤ b ∧ b < w'.heap.size) ∧ StrO f2 w' E2 em ed2 v.ch)) ∧ (D 9 = true → (D 10 = false → ∃ (E2 : Option Addr) (ed2 : Nat) (f2 : List Nat), v36 = .agg #[.string v.nm, .string v.tg, .slice E2 em ed2] ∧ f2.Nodup ∧ (∀ b ∈ f2, Y.heap.size ≤ b ∧ b < w'.heap.size) ∧ StrO f2 w' E2 em ed2 v.ch)) ∧ (D 10 = true → (D 11 = false → ∃ (gb : Nat) (E2 : Option Addr) (ed2 : Nat) (f2 : List Nat), v37 = .slice (some ⟨gb, 0, none⟩) 1 1 ∧ CellsAt w' (some ⟨gb, 0, none⟩) 1 3 [.string v.nm, .string v.tg, .slice E2 em ed2] ∧ f2.Nodup ∧ (∀ b ∈ f2, Y.heap.size ≤ b ∧ b < w'.heap.size) ∧ StrO f2 w' E2 em ed2 v.ch)) ∧ (D 11 = true → (D 13 = false → ∃ (A' : Option Addr) (c' : Nat) (fp' : List Nat), v38 = .slice A' (j + 1) c' ∧ RowO snpF 150 3 fp' w' A' (j + 1) c' (y.snaps.take j ++ [v]) ∧ fp'.Nodup ∧ ∀ b ∈ fp', V.heap.size ≤ b)) ∧ (D 12 = true → v39 = .pointer (some ⟨gx, 1, none⟩)) ∧ (D 13 = true → ∃ (A' : Option Addr) (c' : Nat) (fp' : List Nat), BoxL w' gx [.string y.nm, .slice A' (j + 1) c'] ∧ RowO snpF 150 3 fp' w' A' (j + 1) c' (y.snaps.take j ++ [v]) ∧ fp'.Nodup ∧ ∀ b ∈ fp', V.heap.size ≤ b))
            ⟨_, _, _, _, _, _, _, _, _, _, _, _, _, rfl, (fun _ => (Below.refl _ _).drew), (hChY.trans (Ch.of_below (S := (fun b => b = gx ∨ V.heap.size ≤ b)) (Below.refl _ _).drew)), (by simp), (fun _ => BX2.keep (Below.refl _ _).drew), (BY.keep (Below.refl _ _).drew), (fun _ => own_chL own (Ch.of_below (S := fun _ => False) (Below.refl _ _).drew) (fun _ _ h => h)), (fun _ => EQ.keep snpK (Below.refl _ _).drew), (fun h => by cases h), (fun h => by cases h), (fun h => by cases h), (fun h => by cases h), (fun h => by cases h), (fun h => by cases h), (fun h => by cases h), (fun h => by cases h), (fun h => by cases h), (fun h => by cases h), (fun h => by cases h), (fun h => by cases h), (fun h => by cases h), (fun h => by cases h)⟩ ?_ ?_
          · intro i D vs w' hi hD hdep hcl hI
            have hi' : i < 14 := hi
            obtain ⟨v27, v28, v29, v30, v31, v32, v33, v34, v35, v36, v37, v38, v39, rfl, hb, hC, hzz, hX, hYb, hown, hE, k0, k1, k2, k3, k4, k5, k6, k7, k8, k9, k10, k11, k12, k13⟩ := hI
            simp only [putAll, List.setIfInBounds_toArray, List.set_cons_succ, List.set_cons_zero]
            rcases (show i = 0 ∨ i = 1 ∨ i = 2 ∨ i = 3 ∨ i = 4 ∨ i = 5 ∨ i = 6 ∨ i = 7 ∨ i = 8 ∨ i = 9 ∨ i = 10 ∨ i = 11 ∨ i = 12 ∨ i = 13 by omega) with rfl | rfl | rfl | rfl | rfl | rfl | rfl | rfl | rfl | rfl | rfl | rfl | rfl | rfl
            · refine wpOp_step (by simp only [List.getElem?_toArray, List.getElem?_cons_zero]; rfl) (fun K hK => ?_)
              go_simp
              refine hK _ _ ⟨[.pointer (some ⟨gx, 1, none⟩), v28, v29, v30, v31, v32, v33, v34, v35, v36, v37, v38, v39], ?_, _, _, _, _, _, _, _, _, _, _, _, _, _, rfl, hb, hC, hzz, hX, hYb, hown, hE, (fun _ => rfl), k1, k2, k3, k4, k5, k6, k7, k8, k9, k10, k11, k12, k13⟩
              simp only [putAll, List.setIfInBounds_toArray, List.set_cons_succ, List.set_cons_zero] <;> rfl
            · have e0 := k0 (hdep 0 (by kernel_rfl))
              subst e0
              have n13 : D 13 = false := Bool.eq_false_iff.2 (fun h => absurd (hcl 11 1 (hcl 13 11 h (by kernel_rfl)) (by kernel_rfl)) (by rw [hD]; simp))
              have q7 := (hX n13).cell 1 _ rfl
              refine wpOp_step (by simp only [List.getElem?_toArray, List.getElem?_cons_succ, List.getElem?_cons_zero]; rfl) (fun K hK => ?_)
              go_simp
              refine hK _ _ ⟨[.pointer (some ⟨gx, 1, none⟩), .slice Q j cq, v29, v30, v31, v32, v33, v34, v35, v36, v37, v38, v39], ?_, _, _, _, _, _, _, _, _, _, _, _, _, _, rfl, hb, hC, hzz, hX, hYb, hown, hE, (fun _ => rfl), (fun _ => rfl), k2, k3, k4, k5, k6, k7, k8, k9, k10, k11, k12, k13⟩
              simp only [putAll, List.setIfInBounds_toArray, List.set_cons_succ, List.set_cons_zero] <;> rfl
            · refine wpOp_step (by simp only [List.getElem?_toArray, List.getElem?_cons_succ, List.getElem?_cons_zero]; rfl) (fun K hK => ?_)
              go_simp
              refine hK _ _ ⟨[v27, v28, .pointer (some ⟨gy, 0, none⟩), v30, v31, v32, v33, v34, v35, v36, v37, v38, v39], ?_, _, _, _, _, _, _, _, _, _, _, _, _, _, rfl, hb, hC, hzz, hX, hYb, hown, hE, k0, k1, (fun _ => rfl), k3, k4, k5, k6, k7, k8, k9, k10, k11, k12, k13⟩
              simp only [putAll, List.setIfInBounds_toArray, List.set_cons_succ, List.set_cons_zero] <;> rfl
            · have e2 := k2 (hdep 2 (by kernel_rfl))
              subst e2
              have q7 := hYb.cell 0 _ rfl
              refine wpOp_step (by simp only [List.getElem?_toArray, List.getElem?_cons_succ, List.getElem?_cons_zero]; rfl) (fun K hK => ?_)
              go_simp
              refine hK _ _ ⟨[v27, v28, .pointer (some ⟨gy, 0, none⟩), .string v.nm, v31, v32, v33, v34, v35, v36, v37, v38, v39], ?_, _, _, _, _, _, _, _, _, _, _, _, _, _, rfl, hb, hC, hzz, hX, hYb, hown, hE, k0, k1, (fun _ => rfl), (fun _ => rfl), k4, k5, k6, k7, k8, k9, k10, k11, k12, k13⟩
              simp only [putAll, List.setIfInBounds_toArray, List.set_cons_succ, List.set_cons_zero] <;> rfl
            · refine wpOp_step (by simp only [List.getElem?_toArray, List.getElem?_cons_succ, List.getElem?_cons_zero]; rfl) (fun K hK => ?_)
              go_simp
              refine hK _ _ ⟨[v27, v28, v29, v30, .pointer (some ⟨gy, 1, none⟩), v32, v33, v34, v35, v36, v37, v38, v39], ?_, _, _, _, _, _, _, _, _, _, _, _, _, _, rfl, hb, hC, hzz, hX, hYb, hown, hE, k0, k1, k2, k3, (fun _ => rfl), k5, k6, k7, k8, k9, k10, k11, k12, k13⟩
              simp only [putAll, List.setIfInBounds_toArray, List.set_cons_succ, List.set_cons_zero] <;> rfl
            · have e4 := k4 (hdep 4 (by kernel_rfl))
              subst e4
              have q7 := hYb.cell 1 _ rfl
              refine wpOp_step (by simp only [List.getElem?_toArray, List.getElem?_cons_succ, List.getElem?_cons_zero]; rfl) (fun K hK => ?_)
              go_simp
              refine hK _ _ ⟨[v27, v28, v29, v30, .pointer (some ⟨gy, 1, none⟩), .string v.tg, v33, v34, v35, v36, v37, v38, v39], ?_, _, _, _, _, _, _, _, _, _, _, _, _, _, rfl, hb, hC, hzz, hX, hYb, hown, hE, k0, k1, k2, k3, (fun _ => rfl), (fun _ => rfl), k6, k7, k8, k9, k10, k11, k12, k13⟩
              simp only [putAll, List.setIfInBounds_toArray, List.set_cons_succ, List.set_cons_zero] <;> rfl
            · refine wpOp_step (by simp only [List.getElem?_toArray, List.getElem?_cons_succ, List.getElem?_cons_zero]; rfl) (fun K hK => ?_)
              go_simp
              refine hK _ _ ⟨[v27, v28, v29, v30, v31, v32, .pointer (some ⟨gy, 2, none⟩), v34, v35, v36, v37, v38, v39], ?_, _, _, _, _, _, _, _, _, _, _, _, _, _, rfl, hb, hC, hzz, hX, hYb, hown, hE, k0, k1, k2, k3, k4, k5, (fun _ => rfl), k7, k8, k9, k10, k11, k12, k13⟩
              simp only [putAll, List.setIfInBounds_toArray, List.set_cons_succ, List.set_cons_zero] <;> rfl
            · have e6 := k6 (hdep 6 (by kernel_rfl))
              subst e6
              have q7 := hYb.cell 2 _ rfl
              refine wpOp_step (by simp only [List.getElem?_toArray, List.getElem?_cons_succ, List.getElem?_cons_zero]; rfl) (fun K hK => ?_)
              go_simp
              refine hK _ _ ⟨[v27, v28, v29, v30, v31, v32, .pointer (some ⟨gy, 2, none⟩), .slice E1 em ed, v35, v36, v37, v38, v39], ?_, _, _, _, _, _, _, _, _, _, _, _, _, _, rfl, hb, hC, hzz, hX, hYb, hown, hE, k0, k1, k2, k3, k4, k5, (fun _ => rfl), (fun _ => rfl), k8, k9, k10, k11, k12, k13⟩
              simp only [putAll, List.setIfInBounds_toArray, List.set_cons_succ, List.set_cons_zero] <;> rfl
            · have e7 := k7 (hdep 7 (by kernel_rfl))
              subst e7
              have n9 : D 9 = false := Bool.eq_false_iff.2 (fun h => absurd (hcl 9 8 h (by kernel_rfl)) (by rw [hD]; simp))
              have n10 : D 10 = false := Bool.eq_false_iff.2 (fun h => absurd (hcl 9 8 (hcl 10 9 h (by kernel_rfl)) (by kernel_rfl)) (by rw [hD]; simp))
              have n11 : D 11 = false := Bool.eq_false_iff.2 (fun h => absurd (hcl 9 8 (hcl 10 9 (hcl 11 10 h (by kernel_rfl)) (by kernel_rfl)) (by kernel_rfl)) (by rw [hD]; simp))
              have n13 : D 13 = false := Bool.eq_false_iff.2 (fun h => absurd (hcl 9 8 (hcl 10 9 (hcl 11 10 (hcl 13 11 h (by kernel_rfl)) (by kernel_rfl)) (by kernel_rfl)) (by kernel_rfl)) (by rw [hD]; simp))
              refine wpOp_step (by simp only [List.getElem?_toArray, List.getElem?_cons_succ, List.getElem?_cons_zero]; rfl) (fun K hK => ?_)
              go_simp
              refine (copyTextsT E1 em ed v.ch _ (vY.keep (hb n11)).at_r' vY.nilcap (by omega)).mono ?_
              rintro e w4_ ⟨E2, ed2, rfl, hin, hb4⟩
              obtain ⟨f2, hn2, hf2, so2⟩ := strO_in hin
              refine hK _ _ ⟨[v27, v28, v29, v30, v31, v32, v33, .slice E1 em ed, .slice E2 em ed2, v36, v37, v38, v39], ?_, _, _, _, _, _, _, _, _, _, _, _, _, _, rfl, (fun h' => bthen (hb h') hb4), (hC.trans (Ch.of_below hb4)), (Nat.le_trans hzz hb4.size), (fun h' => (hX h').keep hb4), (hYb.keep hb4), (fun h' => own_chL (hown h') (Ch.of_below (S := fun _ => False) hb4) (fun _ _ h => h)), (fun h' => (hE h').keep snpK hb4), k0, k1, k2, k3, k4, k5, k6, (fun _ => rfl), (fun _ _ => ⟨E2, ed2, f2, rfl, hn2, fun b hb => ⟨by have := (hf2 b hb).1; omega, (hf2 b hb).2⟩, so2⟩), (fun h => by rw [show D 9 = true from by simpa using h] at n9; cases n9), (fun h => by rw [show D 10 = true from by simpa using h] at n10; cases n10), (fun h => by rw [show D 11 = true from by simpa using h] at n11; cases n11), k12, (fun h => by rw [show D 13 = true from by simpa using h] at n13; cases n13)⟩
              simp only [putAll, List.setIfInBounds_toArray, List.set_cons_succ, List.set_cons_zero] <;> rfl
            · have e3 := k3 (hdep 3 (by kernel_rfl))
              subst e3
              have e5 := k5 (hdep 5 (by kernel_rfl))
              subst e5
              obtain z8 := k8 (hdep 8 (by kernel_rfl))
              obtain ⟨E2, ed2, f2, rfl, hn2, hf2, so2⟩ := z8 hD
              refine wpOp_step (by simp only [List.getElem?_toArray, List.getElem?_cons_succ, List.getElem?_cons_zero]; rfl) (fun K hK => ?_)
              go_simp
              refine hK _ _ ⟨[v27, v28, v29, .string v.nm, v31, .string v.tg, v33, v34, .slice E2 em ed2, .agg #[.string v.nm, .string v.tg, .slice E2 em ed2], v37, v38, v39], ?_, _, _, _, _, _, _, _, _, _, _, _, _, _, rfl, hb, hC, hzz, hX, hYb, hown, hE, k0, k1, k2, (fun _ => rfl), k4, (fun _ => rfl), k6, k7, (fun _ h => absurd h (by simp)), (fun _ _ => ⟨E2, ed2, f2, rfl, hn2, hf2, so2⟩), k10, k11, k12, k13⟩
              simp only [putAll, List.setIfInBounds_toArray, List.set_cons_succ, List.set_cons_zero] <;> rfl
            · obtain z9 := k9 (hdep 9 (by kernel_rfl))
              have n11 : D 11 = false := Bool.eq_false_iff.2 (fun h => absurd (hcl 11 10 h (by kernel_rfl)) (by rw [hD]; simp))
              have n13 : D 13 = false := Bool.eq_false_iff.2 (fun h => absurd (hcl 11 10 (hcl 13 11 h (by kernel_rfl)) (by kernel_rfl)) (by rw [hD]; simp))
              obtain ⟨E2, ed2, f2, rfl, hn2, hf2, so2⟩ := z9 hD
              have hal := (Below.refl w'.heap.size w').alloc (Nat.le_refl _) (.cells #[.string v.nm, .string v.tg, .slice E2 em ed2] 150)
              refine wpOp_step (by simp only [List.getElem?_toArray, List.getElem?_cons_succ, List.getElem?_cons_zero]; rfl) (fun K hK => ?_)
              go_simp
              refine hK _ _ ⟨[v27, v28, v29, v30, v31, v32, v33, v34, v35, .agg #[.string v.nm, .string v.tg, .slice E2 em ed2], .slice (some ⟨w'.heap.size, 0, none⟩) 1 1, v38, v39], ?_, _, _, _, _, _, _, _, _, _, _, _, _, _, rfl, (fun h' => bthen (hb h') hal), (hC.trans (Ch.of_below hal)), (Nat.le_trans hzz hal.size), (fun h' => (hX h').keep hal), (hYb.keep hal), (fun h' => own_chL (hown h') (Ch.of_below (S := fun _ => False) hal) (fun _ _ h => h)), (fun h' => (hE h').keep snpK hal), k0, k1, k2, k3, k4, k5, k6, k7, (fun _ h => by have d9 := hdep 9 (by kernel_rfl); rw [show D 9 = false from by simpa using h] at d9; cases d9), (fun _ h => absurd h (by simp)), (fun _ _ => ⟨_, E2, ed2, f2, rfl, new1c _ [.string v.nm, .string v.tg, .slice E2 em ed2] 3 rfl _, hn2, fun b hb => ⟨(hf2 b hb).1, Nat.lt_of_lt_of_le (hf2 b hb).2 hal.size⟩, so2.keep hal⟩), (fun h => by rw [show D 11 = true from by simpa using h] at n11; cases n11), k12, (fun h => by rw [show D 13 = true from by simpa using h] at n13; cases n13)⟩
              simp only [putAll, List.setIfInBounds_toArray, List.set_cons_succ, List.set_cons_zero] <;> rfl
            · have e1 := k1 (hdep 1 (by kernel_rfl))
              subst e1
              obtain z10 := k10 (hdep 10 (by kernel_rfl))
              have n13 : D 13 = false := Bool.eq_false_iff.2 (fun h => absurd (hcl 13 11 h (by kernel_rfl)) (by rw [hD]; simp))
              obtain ⟨gb, E2, ed2, f2, rfl, hcl4, hn2, hf2, so2⟩ := z10 hD
              refine wpOp_step (by simp only [List.getElem?_toArray, List.getElem?_cons_succ, List.getElem?_cons_zero]; rfl) (fun K hK => ?_)
              refine step_app (by rfl) (.tmp 28) (.tmp 37) 146 (by rfl) 0 150 _ 3 56 Try.underlying146 snpInfo rfl (by omega) (.slice Q j cq) j css.flatten (by rfl) (hown hD) (some ⟨gb, 0, none⟩) 1 1 [.string v.nm, .string v.tg, .slice E2 em ed2] (by rfl) hcl4 (by simp [Value.oneCell']) (fun h => by cases h) (by unfold maxLen; omega) (by omega) (Nat.zero_le _) ?_
              intro A' c' wq2 own5 hg5 hb5 hob5
              have hNN : ((blkL Q ++ fps.flatten) ++ f2).Nodup := nodup_new (m := Y.heap.size) hNQ2 hn2 (fun x hx => by have := hlt2 x hx; omega) (fun x hx => (hf2 x hx).1)
              obtain ⟨fp', RO5, hN5, hF5, hc5⟩ := row_app1 (x := v) snpK HLQ.out (hE hD) (snpF_of so2) hNN own5 hg5 hob5 (Nat.le_refl _)
              have hq5 : ∀ b ∈ blkL Q, V.heap.size ≤ b ∧ b < wq.heap.size := fun b hb => ⟨hge2 b (List.mem_append_left _ hb), hlt2 b (List.mem_append_left _ hb)⟩
              refine hK _ _ ⟨[v27, .slice Q j cq, v29, v30, v31, v32, v33, v34, v35, v36, .slice (some ⟨gb, 0, none⟩) 1 1, .slice A' (j + 1) c', v39], ?_, _, _, _, _, _, _, _, _, _, _, _, _, _, rfl, (fun h => absurd h (by simp)), (hC.trans (hc5.mono (fun b hb => .inr (hq5 b hb).1))), (Nat.le_trans hzz hc5.size), (fun h' => (hX h').ch hc5 (fun hb => by have := (hq5 _ hb).1; omega)), (hYb.ch hc5 (fun hb => by have := (hq5 _ hb).2; omega)), (fun h => absurd h (by simp)), (fun h => absurd h (by simp)), k0, (fun _ => rfl), k2, k3, k4, k5, k6, k7, (fun _ h => by have d9 := hcl 10 9 (hdep 10 (by kernel_rfl)) (by kernel_rfl); rw [show D 9 = false from by simpa using h] at d9; cases d9), (fun _ h => by have d10 := hdep 10 (by kernel_rfl); rw [show D 10 = false from by simpa using h] at d10; cases d10), (fun _ h => absurd h (by simp)), (fun _ _ => ⟨A', c', fp', rfl, RO5, hN5, fun b hb => by have h3 := hF5 b hb; have h4 := hge2 b; have h5 := hf2 b; rcases h3 with h1 | h1 | h1; (exact h4 h1); (have := (h5 h1).1; omega); omega⟩), k12, (fun h => by rw [show D 13 = true from by simpa using h] at n13; cases n13)⟩
              simp only [Act.put, putAll, List.setIfInBounds_toArray, List.set_cons_succ, List.set_cons_zero] <;> rfl
            · refine wpOp_step (by simp only [List.getElem?_toArray, List.getElem?_cons_succ, List.getElem?_cons_zero]; rfl) (fun K hK => ?_)
              go_simp
              refine hK _ _ ⟨[v27, v28, v29, v30, v31, v32, v33, v34, v35, v36, v37, v38, .pointer (some ⟨gx, 1, none⟩)], ?_, _, _, _, _, _, _, _, _, _, _, _, _, _, rfl, hb, hC, hzz, hX, hYb, hown, hE, k0, k1, k2, k3, k4, k5, k6, k7, k8, k9, k10, k11, (fun _ => rfl), k13⟩
              simp only [putAll, List.setIfInBounds_toArray, List.set_cons_succ, List.set_cons_zero] <;> rfl
            · obtain z11 := k11 (hdep 11 (by kernel_rfl))
              have e12 := k12 (hdep 12 (by kernel_rfl))
              subst e12
              obtain ⟨A', c', fp', rfl, RO5, hN5, hF5⟩ := z11 hD
              have hXn := hX hD
              have q7 := hXn.cell 1 _ rfl
              have y7 := hXn.fz 1 (by simp)
              have d11 : D 11 = true := hdep 11 (by kernel_rfl)
              have one : Ch (fun k => k = gx) w' (w'.setCell ⟨gx, 1, none⟩ (.slice A' (j + 1) c')) := Ch.set
              refine wpOp_step (by simp only [List.getElem?_toArray, List.getElem?_cons_succ, List.getElem?_cons_zero]; rfl) (fun K hK => ?_)
              go_simp
              refine hK _ _ ⟨[v27, v28, v29, v30, v31, v32, v33, v34, v35, v36, v37, .slice A' (j + 1) c', .pointer (some ⟨gx, 1, none⟩)], ?_, _, _, _, _, _, _, _, _, _, _, _, _, _, rfl, (fun h' => by rw [show D 11 = false from by simpa using h'] at d11; cases d11), (hC.trans (one.mono (fun b hb => .inl hb))), (Nat.le_trans hzz one.size), (fun h => absurd h (by simp)), (hYb.ch one (ne_blk (by omega))), (fun h' => by rw [show D 11 = false from by simpa using h'] at d11; cases d11), (fun h' => by rw [show D 11 = false from by simpa using h'] at d11; cases d11), k0, k1, k2, k3, k4, k5, k6, k7, (fun _ h => by have d9 := hcl 10 9 (hcl 11 10 d11 (by kernel_rfl)) (by kernel_rfl); rw [show D 9 = false from by simpa using h] at d9; cases d9), (fun _ h => by have d10 := hcl 11 10 d11 (by kernel_rfl); rw [show D 10 = false from by simpa using h] at d10; cases d10), (fun _ h => by rw [show D 11 = false from by simpa using h] at d11; cases d11), (fun _ h => absurd h (by simp)), (fun _ => rfl), (fun _ => ⟨A', c', fp', hXn.set (j := 1) (by simp), RO5.ch snpK one (fun b hb h2 => by have h2 : b = gx := h2; have := hF5 b hb; omega), hN5, hF5⟩)⟩
              simp only [putAll, List.setIfInBounds_toArray, List.set_cons_succ, List.set_cons_zero] <;> rfl
          · intro D vs w' hD hI
            obtain ⟨v27, v28, v29, v30, v31, v32, v33, v34, v35, v36, v37, v38, v39, rfl, hb, hC, hzz, hX, hYb, hown, hE, k0, k1, k2, k3, k4, k5, k6, k7, k8, k9, k10, k11, k12, k13⟩ := hI
            simp only [putAll, List.setIfInBounds_toArray, List.set_cons_succ, List.set_cons_zero]
            obtain ⟨A', c', fp', X6, RO6, hN6, hF6⟩ := k13 (hD 13 (show 13 < 14 by decide))
            clear hD hb hX hown hE
            go_wp2
            exact ⟨⟨j + 1, A', c', fp', by omega, by go_num, X6, by rw [HTV.out]; exact RO6, hN6, hF6, hC, by omega⟩, by simp [intOf]; omega⟩
        · skip
          have HJ := Lib.hid (show y.snaps.take j = y.snaps from List.take_of_length_le (by have := HM.out; omega))
          rw [HJ.out] at RQ
          have ROq := RO'.ch cstK hCh (fun b hb => by have := hRl b hb; omega)
          obtain ⟨css2, fps2, rfl, own2, hlP, E2⟩ := ROq.ex
          have HLP := Lib.hid hlP; clear hlP
          have x0 := BX.cell 0 _ rfl; have x1 := BX.cell 1 _ rfl; have xl := BX.lt
          have o0 := BOq.cell 0 _ rfl; have of0 := BOq.fz 0 (by simp); have ol := BOq.lt
          have iltq : ¬ ((j : Int) < (m1 : Int)) := by omega
          have hk5 : k ≤ 1000 := by omega
          go_wp2_with (first | (at_builtin; refine wpList_app1g (P := Try.prog) wq rfl (.tmp 42) (.tmp 44) 82 rfl 0 148 _ 2 40 Try.underlying82 cstInfo rfl (by omega) (.slice P k cp) _ _ rfl own2 #[.string y.nm, .slice Q j cq] _ rfl (by simp) rfl (by simp [Value.oneCell']) (by unfold maxLen; omega) (by omega) (Nat.zero_le _) ?_; intro A' c' w8 own8 hgr hb8 hob; refine stop_of ?_) | fail)
          have hge8 : ∀ b ∈ blkL P ++ fps2.flatten, W.heap.size ≤ b ∧ b < wr.heap.size := fun b hb => ⟨hFP b hb, hRl b hb⟩
          have hNN : ((blkL P ++ fps2.flatten) ++ fq).Nodup := nodup_new (m := V.heap.size) hND hNQ (fun x hx => by have := (hge8 x hx).2; omega) (fun x hx => hFQ x hx)
          obtain ⟨fp', RO8, hN8, hF8, hc8⟩ := row_app1 (x := y) cstK HLP.out E2 (cstF_of RQ) hNN own8 hgr hob (by omega)
          have hq8 : ∀ b ∈ blkL P, W.heap.size ≤ b := fun b hb => (hge8 b (List.mem_append_left _ hb)).1
          have BP8 := BPq.ch hc8 (fun hb => by have := hq8 _ hb; omega); have BR8 := BRq.ch hc8 (fun hb => by have := hq8 _ hb; omega); have BO8 := BOq.ch hc8 (fun hb => by have := hq8 _ hb; omega)
          have hB8 := hc8.belowB hBq (by have := hBq.size; omega) (fun b hb => by have := hq8 b hb; have := HG.out; omega)
          have hz8 := hc8.size
          clear own2 E2 own8 hgr hob o0 of0 ol x0 x1 xl BX ROq
          have o0 := BO8.cell 0 _ rfl; have of0 := BO8.fz 0 (by simp); have ol := BO8.lt
          unfold Stop
          go_wp2
          have d : Ch (fun k => k = g + 1 + 1) w8 (w8.setCell ⟨g + 1 + 1, 0, none⟩ (.slice A' (k + 1) c')) := Ch.set
          have hF9 : ∀ b ∈ fp', W.heap.size ≤ b := fun b hb => by
            rcases hF8 b hb with h1 | h1 | h1
            · exact (hge8 b h1).1
            · have := hFQ b h1; omega
            · omega
          have RO9 := RO8.ch cstK d (fun b hb h2 => by have h2 : b = g + 1 + 1 := h2; have := hF9 b hb; omega)
          have hdz := d.size
          refine ⟨⟨k + 1, A', c', fp', by omega, by go_num, BP8.ch d (ne_blk (by omega)), BR8.ch d (ne_blk (by omega)), by simpa using BO8.set (j := 0) (v := .slice A' (k + 1) c') (by simp), by rw [HT.out]; exact RO9, hN8, hF9, d.belowB hB8 (by have := hB8.size; omega) (fun b hb => by have hb : b = _ := hb; have := HG.out; omega), by omega⟩, by simp [intOf]; omega⟩
    · skip
      have hkn : k = n := by omega
      have HK := Lib.hid (show x.sets.take k = x.sets from List.take_of_length_le (by have := HL.out; omega))
      rw [HK.out] at RO
      have o0 := BO.cell 0 _ rfl; have ol := BO.lt; have r0 := BR.cell 0 _ rfl; have rf := BR.fz 0 (by simp); have rl := BR.lt; have p0 := BP.cell 0 _ rfl; have pl := BP.lt
      have ilt : ¬ ((k : Int) < (n : Int)) := by omega
      clear hkn
      have hWr : (wr.setCell ⟨g + 1, 0, none⟩ (.slice P k cp)).rangeAt (g + 1) 0 [.slice P k cp] := by have := (BR.set (j := 0) (v := .slice P k cp) (by simp)).range; simpa using this
      repeat (first | go_values | go_skip | go_guarded | go_step | go_upon | (simp only []; go_at_K))
      try simp only [Exit.inBlock, Exit.then]
      refine bodyPost_ret (results_cell1 Try.results184 rfl hWr Try.underlying84 rfl sizeCat0) rfl ?_
      have d : Ch (fun t => t = g + 1) wr (wr.setCell ⟨g + 1, 0, none⟩ (.slice P k cp)) := Ch.set
      have RO9 := RO.ch cstK d (fun b hb h2 => by have h2 : b = g + 1 := h2; have := hFP b hb; omega)
      exact ⟨⟨P, k, cp, fp, rfl, RO9, hND, fun b hb => ⟨by have := hFP b hb; have := HG.out; omega, RO9.lt cstK b hb⟩⟩, d.belowB hB (by have := hB.size; omega) (fun b hb => by have hb : b = _ := hb; have := HG.out; omega)⟩
end Go.Proofs.Ytdphdnllhmnelaa
/- Where a snapshot of a name stands in a set, a set of a name in a catalog: both sides. -/
namespace Go.Proofs.Ytdphdnllhmnelaa
open Go.RowKit
attribute [local irreducible] RowR StrR
/-- where the first of a name stands, from k on; -1: nowhere -/
def snpFnd : List Snp → Nat → ByteArray → Int
  | [], _, _ => -1
  | x :: l, k, s => if x.nm = s then (k : Int) else snpFnd l (k + 1) s
theorem snpFnd_drop {l : List Snp} {k : Nat} (s : ByteArray) (hk : k < l.length) : snpFnd (l.drop k) k s = if (snpAt l k).nm = s then (k : Int) else snpFnd (l.drop (k + 1)) (k + 1) s := by
  rw [List.drop_eq_getElem_cons hk, snpFnd, snpAt_get hk]
theorem snpFnd_in (s : ByteArray) : ∀ (l : List Snp) (k : Nat), snpFnd l k s = -1 ∧ (∀ x ∈ l, x.nm ≠ s) ∨ ∃ j : Nat, j < l.length ∧ snpFnd l k s = ((k + j : Nat) : Int) ∧ (snpAt l j).nm = s ∧ ∀ i, i < j → (snpAt l i).nm ≠ s
  | [], k => .inl ⟨rfl, fun x h => by cases h⟩
  | x :: l, k => by
    by_cases h : x.nm = s
    · exact .inr ⟨0, by simp, by unfold snpFnd; rw [if_pos h]; rfl, h, fun i hi => absurd hi (by omega)⟩
    · rcases snpFnd_in s l (k + 1) with ⟨h1, h2⟩ | ⟨j, h1, h2, h3, h4⟩
      · refine .inl ⟨by unfold snpFnd; rw [if_neg h]; exact h1, fun y hy => ?_⟩
        rcases List.mem_cons.1 hy with rfl | hy
        · exact h
        · exact h2 y hy
      · refine .inr ⟨j + 1, by simp; omega, by unfold snpFnd; rw [if_neg h, h2]; congr 1; omega, h3, fun i hi => ?_⟩
        match i with
        | 0 => exact h
        | i + 1 => exact h4 i (by omega)
theorem sizeCSnap0 : (Try.prog.info? 150).map (·.size) = some 3 := by kernel_rfl
set_option maxRecDepth 8000 in
theorem snp_fn (x : Snp) (s : ByteArray) (A1 : Option Addr) (n1 c1 : Nat) (B : Nat) (w : World) (h0 : w.cell? ⟨B, 0, none⟩ = some (.string s)) :
    Calls Try.prog 212 #[snpV x (.slice A1 n1 c1), .pointer (some ⟨B, 0, none⟩)] w fun r w' => r = .returned (.bool (decide (x.nm = s))) ∧ Below w.heap.size w w' := by
  have hlt := cell_lt h0
  have hsb := str_beq x.nm s
  unfold snpV
  by_cases hx : x.nm = s
  · have HX := Lib.hid hx
    rw [decide_eq_true hx] at hsb
    clear hx
    go_enter Try.func212, Try.ntmps212
    go_wp2
    go_returns
    exact ⟨ret_bool (by simp [HX.out]), by go_grown⟩
  · have HX := Lib.hid hx
    rw [decide_eq_false hx] at hsb
    clear hx
    go_enter Try.func212, Try.ntmps212
    go_wp2
    go_returns
    exact ⟨ret_bool (by simp [HX.out]), by go_grown⟩
set_option maxRecDepth 8000 in
theorem snp_idx (A : Option Addr) (n c : Nat) (l : List Snp) (s : ByteArray) (B : Nat) (w : World) (h : RowR snpR 3 w A n c l) (hn : n ≤ 9223372036854775807) (h0 : w.cell? ⟨B, 0, none⟩ = some (.string s)) :
    Calls Try.prog 211 #[.slice A n c, .func (.func 212) #[] #[.pointer (some ⟨B, 0, none⟩)]] w fun r w' => r = .returned (.int .i64 (snpFnd l 0 s)) ∧ Below w.heap.size w w' := by
  have HL := Lib.hid h.len.symm
  go_enter Try.func211, Try.ntmps211
  go_wp2
  go_loopw [8] (fun i wr => ∃ k : Nat, k ≤ n ∧ i = .int .i64 k ∧ snpFnd l 0 s = snpFnd (l.drop k) k s ∧ Below w.heap.size w wr) (fun i _ => n - (intOf i).toNat)
  case atStart => exact ⟨0, Nat.zero_le _, rfl, rfl, Below.refl _ _⟩
  case round =>
    obtain ⟨k, hk, rfl, hx, hbr⟩ := hrel
    have HX := Lib.hid hx; clear hx
    by_cases hlt : k < n
    · obtain ⟨b, off, rfl⟩ := h.head (by omega)
      obtain ⟨bl, x, cs, hx, ⟨A1, n1, c1, rfl, _⟩, hcell⟩ := h.elem_at hlt
      have hcr : wr.rangeAt b (off + k * 3) (snpL x (.slice A1 n1 c1)) := fun j v hv => (hbr.cell (p := ⟨b, off + k * 3 + j, none⟩) bl).trans (hcell j v hv)
      have HP := Lib.hid (snpFnd_drop s (show k < l.length by have := HL.out; omega))
      have HA := Lib.hid (snpAt_of hx)
      have g0 := keep_cell hbr h0
      clear hx hcell
      unfold snpL at hcr
      repeat (first | ((with_reducible refine wpList_load_o 150 (.tmp 14) b (off + k * 3) _ _ hcr Try.underlying150 sizeCSnap0 ?_ ?_ ?_ ?_ ?_ ?_); (rfl); (rfl); (rfl); (rfl); (rfl)) | go_values | go_skip | go_guarded | go_step | go_upon | (simp only []; go_at_K))
      refine (snp_fn x s _ _ _ B _ g0).mono ?_
      rintro r w1 ⟨rfl, hb1⟩
      by_cases hq : x.nm = s
      · rw [decide_eq_true hq]
        have HQ := Lib.hid hq
        clear hq
        go_wp2
        go_returns
        exact ⟨by rw [HX.out, HP.out, HA.out, if_pos HQ.out]; rfl, bthen hbr hb1⟩
      · rw [decide_eq_false hq]
        have HQ := Lib.hid hq
        clear hq
        go_wp2
        exact ⟨⟨k + 1, by omega, by go_num, by rw [HX.out, HP.out, HA.out, if_neg HQ.out], bthen hbr hb1⟩, by simp [intOf]; omega⟩
    · go_wp2
      go_returns
      obtain rfl : k = n := by omega
      exact ⟨by rw [HX.out, List.drop_eq_nil_of_le (by have := HL.out; omega)]; rfl, hbr⟩
set_option maxRecDepth 8000 in
theorem snpFnd_impl (x : Cst) (s : ByteArray) (A : Option Addr) (n c : Nat) (w : World) (h : RowR snpR 3 w A n c x.snaps) (hn : n ≤ 9223372036854775807) :
    Calls Try.prog 204 #[cstV x (.slice A n c), .string s] w fun r w' => r = .returned (.int .i64 (snpFnd x.snaps 0 s)) ∧ Below w.heap.size w w' := by
  have al1 := (Below.refl w.heap.size w).alloc (Nat.le_refl _) (.cells #[.string x.nm, .slice A n c] 148)
  have al2 := al1.alloc al1.size (.cells #[.string s] 9)
  have g0 : ((w.alloc (.cells #[.string x.nm, .slice A n c] 148)).alloc (.cells #[.string s] 9)).cell? ⟨w.heap.size + 1, 0, none⟩ = some (.string s) := by simp [go_sem]
  unfold cstV
  go_enter Try.func204, Try.ntmps204
  go_wp2_with fail
  refine (snp_idx A n c x.snaps s _ _ (h.keep snpK al2) hn g0).mono ?_
  rintro r w1 ⟨rfl, hb1⟩
  go_wp2
  go_returns
  exact ⟨rfl, bthen al2 hb1⟩
set_option maxRecDepth 8000 in
theorem snpFnd_spec (x : Cst) (s : ByteArray) (A : Option Addr) (n c : Nat) (w : World) (h : RowR snpR 3 w A n c x.snaps) (hn : n ≤ 9223372036854775807) :
    Calls Try.prog 179 #[cstV x (.slice A n c), .string s] w fun r w' => r = .returned (.int .i64 (snpFnd x.snaps 0 s)) ∧ Below w.heap.size w w' := by
  have HL := Lib.hid h.len.symm
  have al := (Below.refl w.heap.size w).alloc (Nat.le_refl _) (.cells #[.string x.nm, .slice A n c] 148)
  have BX := BoxL.new w [.string x.nm, .slice A n c] 148
  unfold cstV
  go_enter Try.func179, Try.ntmps179
  go_wp2_with fail
  obtain ⟨W, hW⟩ : ∃ W, W = w.alloc (.cells #[.string x.nm, .slice A n c] 148) := ⟨_, rfl⟩
  rw [← hW] at al BX ⊢
  obtain ⟨g, hg⟩ : ∃ g, w.heap.size = g := ⟨_, rfl⟩
  have HG := Lib.hid hg
  simp only [hg] at BX ⊢
  clear hW hg
  have er := BX.cell 1 _ rfl
  have hgl := BX.lt
  go_loop [5] (fun i => ∃ k : Nat, k ≤ n ∧ i = .int .i64 k ∧ snpFnd x.snaps 0 s = snpFnd (x.snaps.drop k) k s) (fun i => n - (intOf i).toNat)
  case atStart => exact ⟨0, Nat.zero_le _, rfl, rfl⟩
  case round =>
    obtain ⟨k, hk, rfl, hx⟩ := hrel
    have HX := Lib.hid hx; clear hx
    by_cases hlt : k < n
    · have h2 := h.keep snpK al
      obtain ⟨b, off, rfl⟩ := h2.head (by omega)
      obtain ⟨bl, y, cs, hy, ⟨A1, n1, c1, rfl, _⟩, hcell⟩ := h2.elem_at hlt
      have e0 : W.cell? ⟨b, off + k * 3, none⟩ = some (.string y.nm) := hcell 0 _ rfl
      have HP := Lib.hid (snpFnd_drop s (show k < x.snaps.length by have := HL.out; omega))
      have HA := Lib.hid (snpAt_of hy)
      have hsb := str_beq y.nm s
      clear hy hcell h2
      by_cases hq : y.nm = s
      · rw [decide_eq_true hq] at hsb
        have HQ := Lib.hid hq
        clear hq
        go_wp2
        go_returns
        exact ⟨by rw [HX.out, HP.out, HA.out, if_pos HQ.out]; rfl, al⟩
      · rw [decide_eq_false hq] at hsb
        have HQ := Lib.hid hq
        clear hq
        go_wp2
        exact ⟨⟨k + 1, by omega, by go_num, by rw [HX.out, HP.out, HA.out, if_neg HQ.out]⟩, by simp [intOf]; omega⟩
    · go_wp2
      go_returns
      obtain rfl : k = n := by omega
      exact ⟨by rw [HX.out, List.drop_eq_nil_of_le (by have := HL.out; omega)]; rfl, al⟩
/-- where the first of a name stands, from k on; -1: nowhere -/
def cstFnd : List Cst → Nat → ByteArray → Int
  | [], _, _ => -1
  | x :: l, k, s => if x.nm = s then (k : Int) else cstFnd l (k + 1) s
theorem cstFnd_drop {l : List Cst} {k : Nat} (s : ByteArray) (hk : k < l.length) : cstFnd (l.drop k) k s = if (cstAt l k).nm = s then (k : Int) else cstFnd (l.drop (k + 1)) (k + 1) s := by
  rw [List.drop_eq_getElem_cons hk, cstFnd, cstAt_get hk]
theorem cstFnd_in (s : ByteArray) : ∀ (l : List Cst) (k : Nat), cstFnd l k s = -1 ∧ (∀ x ∈ l, x.nm ≠ s) ∨ ∃ j : Nat, j < l.length ∧ cstFnd l k s = ((k + j : Nat) : Int) ∧ (cstAt l j).nm = s ∧ ∀ i, i < j → (cstAt l i).nm ≠ s
  | [], k => .inl ⟨rfl, fun x h => by cases h⟩
  | x :: l, k => by
    by_cases h : x.nm = s
    · exact .inr ⟨0, by simp, by unfold cstFnd; rw [if_pos h]; rfl, h, fun i hi => absurd hi (by omega)⟩
    · rcases cstFnd_in s l (k + 1) with ⟨h1, h2⟩ | ⟨j, h1, h2, h3, h4⟩
      · refine .inl ⟨by unfold cstFnd; rw [if_neg h]; exact h1, fun y hy => ?_⟩
        rcases List.mem_cons.1 hy with rfl | hy
        · exact h
        · exact h2 y hy
      · refine .inr ⟨j + 1, by simp; omega, by unfold cstFnd; rw [if_neg h, h2]; congr 1; omega, h3, fun i hi => ?_⟩
        match i with
        | 0 => exact h
        | i + 1 => exact h4 i (by omega)
theorem sizeCSet0 : (Try.prog.info? 148).map (·.size) = some 2 := by kernel_rfl
set_option maxRecDepth 8000 in
theorem cst_fn (x : Cst) (s : ByteArray) (A1 : Option Addr) (n1 c1 : Nat) (B : Nat) (w : World) (h0 : w.cell? ⟨B, 0, none⟩ = some (.string s)) :
    Calls Try.prog 203 #[cstV x (.slice A1 n1 c1), .pointer (some ⟨B, 0, none⟩)] w fun r w' => r = .returned (.bool (decide (x.nm = s))) ∧ Below w.heap.size w w' := by
  have hlt := cell_lt h0
  have hsb := str_beq x.nm s
  unfold cstV
  by_cases hx : x.nm = s
  · have HX := Lib.hid hx
    rw [decide_eq_true hx] at hsb
    clear hx
    go_enter Try.func203, Try.ntmps203
    go_wp2
    go_returns
    exact ⟨ret_bool (by simp [HX.out]), by go_grown⟩
  · have HX := Lib.hid hx
    rw [decide_eq_false hx] at hsb
    clear hx
    go_enter Try.func203, Try.ntmps203
    go_wp2
    go_returns
    exact ⟨ret_bool (by simp [HX.out]), by go_grown⟩
set_option maxRecDepth 8000 in
theorem cst_idx (A : Option Addr) (n c : Nat) (l : List Cst) (s : ByteArray) (B : Nat) (w : World) (h : RowR cstR 2 w A n c l) (hn : n ≤ 9223372036854775807) (h0 : w.cell? ⟨B, 0, none⟩ = some (.string s)) :
    Calls Try.prog 202 #[.slice A n c, .func (.func 203) #[] #[.pointer (some ⟨B, 0, none⟩)]] w fun r w' => r = .returned (.int .i64 (cstFnd l 0 s)) ∧ Below w.heap.size w w' := by
  have HL := Lib.hid h.len.symm
  go_enter Try.func202, Try.ntmps202
  go_wp2
  go_loopw [8] (fun i wr => ∃ k : Nat, k ≤ n ∧ i = .int .i64 k ∧ cstFnd l 0 s = cstFnd (l.drop k) k s ∧ Below w.heap.size w wr) (fun i _ => n - (intOf i).toNat)
  case atStart => exact ⟨0, Nat.zero_le _, rfl, rfl, Below.refl _ _⟩
  case round =>
    obtain ⟨k, hk, rfl, hx, hbr⟩ := hrel
    have HX := Lib.hid hx; clear hx
    by_cases hlt : k < n
    · obtain ⟨b, off, rfl⟩ := h.head (by omega)
      obtain ⟨bl, x, cs, hx, ⟨A1, n1, c1, rfl, _⟩, hcell⟩ := h.elem_at hlt
      have hcr : wr.rangeAt b (off + k * 2) (cstL x (.slice A1 n1 c1)) := fun j v hv => (hbr.cell (p := ⟨b, off + k * 2 + j, none⟩) bl).trans (hcell j v hv)
      have HP := Lib.hid (cstFnd_drop s (show k < l.length by have := HL.out; omega))
      have HA := Lib.hid (cstAt_of hx)
      have g0 := keep_cell hbr h0
      clear hx hcell
      unfold cstL at hcr
      repeat (first | ((with_reducible refine wpList_load_o 148 (.tmp 14) b (off + k * 2) _ _ hcr Try.underlying148 sizeCSet0 ?_ ?_ ?_ ?_ ?_ ?_); (rfl); (rfl); (rfl); (rfl); (rfl)) | go_values | go_skip | go_guarded | go_step | go_upon | (simp only []; go_at_K))
      refine (cst_fn x s _ _ _ B _ g0).mono ?_
      rintro r w1 ⟨rfl, hb1⟩
      by_cases hq : x.nm = s
      · rw [decide_eq_true hq]
        have HQ := Lib.hid hq
        clear hq
        go_wp2
        go_returns
        exact ⟨by rw [HX.out, HP.out, HA.out, if_pos HQ.out]; rfl, bthen hbr hb1⟩
      · rw [decide_eq_false hq]
        have HQ := Lib.hid hq
        clear hq
        go_wp2
        exact ⟨⟨k + 1, by omega, by go_num, by rw [HX.out, HP.out, HA.out, if_neg HQ.out], bthen hbr hb1⟩, by simp [intOf]; omega⟩
    · go_wp2
      go_returns
      obtain rfl : k = n := by omega
      exact ⟨by rw [HX.out, List.drop_eq_nil_of_le (by have := HL.out; omega)]; rfl, hbr⟩
set_option maxRecDepth 8000 in
theorem cstFnd_impl (x : Ctl) (s : ByteArray) (A : Option Addr) (n c : Nat) (w : World) (h : RowR cstR 2 w A n c x.sets) (hn : n ≤ 9223372036854775807) :
    Calls Try.prog 188 #[ctlV x (.slice A n c), .string s] w fun r w' => r = .returned (.int .i64 (cstFnd x.sets 0 s)) ∧ Below w.heap.size w w' := by
  have al1 := (Below.refl w.heap.size w).alloc (Nat.le_refl _) (.cells #[.slice A n c] 84)
  have al2 := al1.alloc al1.size (.cells #[.string s] 9)
  have g0 : ((w.alloc (.cells #[.slice A n c] 84)).alloc (.cells #[.string s] 9)).cell? ⟨w.heap.size + 1, 0, none⟩ = some (.string s) := by simp [go_sem]
  unfold ctlV
  go_enter Try.func188, Try.ntmps188
  go_wp2_with fail
  refine (cst_idx A n c x.sets s _ _ (h.keep cstK al2) hn g0).mono ?_
  rintro r w1 ⟨rfl, hb1⟩
  go_wp2
  go_returns
  exact ⟨rfl, bthen al2 hb1⟩
end Go.Proofs.Ytdphdnllhmnelaa
