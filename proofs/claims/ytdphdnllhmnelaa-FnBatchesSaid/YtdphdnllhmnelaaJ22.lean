/- Contracts and lemmas: Batches. -/
import Derived.Test.YtdphdnllhmnelaaJ21
/- Contract of the program's Batches. -/
namespace Go.Proofs.Ytdphdnllhmnelaa
open Go.RowKit
attribute [local irreducible] StrR IntR StrO IntO RowR RowO StrsAt IntsAt clashB cmsOkB lv lvTo mxL rowsOf rowOf lvI batchL
set_option maxRecDepth 8000 in
set_option maxHeartbeats 4000000 in
theorem batches_impl (l : List Cm) (A : Option Addr) (n c : Nat) (w : World) (h : RowR cmR 8 w A n c l) (hb : cmsB l) (hcap : n ≤ c) :
    Calls Try.prog 13 #[.slice A n c] w fun e w' => ∃ A' n' c', e = .returned (.slice A' n' c') ∧ RowI intF 78 1 w.heap.size w'.heap.size w' A' n' c' (batchL l) ∧ Below w.heap.size w w' := by
  have HL := Lib.hid h.len.symm
  go_enter Try.func13, Try.ntmps13
  go_wp2_with fail
  refine (areCmds_impl l _ _ _ _ h hb).mono ?_
  rintro e w1 ⟨rfl, hb1⟩
  obtain ⟨q, hq⟩ : ∃ q, cmsOkB l = q := ⟨_, rfl⟩
  rw [hq]
  cases q
  · have HB := Lib.hid (show batchL l = [] by unfold batchL; rw [hq]; rfl)
    clear hq
    go_wp2
    go_returns
    exact ⟨none, 0, 0, rfl, by rw [HB.out]; exact RowI.nil, hb1⟩
  · have HB := Lib.hid (show batchL l = rowsOf l l.length by unfold batchL; rw [if_pos hq])
    have hn10 : n ≤ 10 := by have := cmsOk_len hq; have := HL.out; omega
    clear hq
    have h1 := h.keep cmK hb1
    go_wp2
    have al1 := (Below.refl w1.heap.size w1).alloc (Nat.le_refl _) (.cells #[] 78)
    have al2 := al1.alloc al1.size (.cells #[] 3)
    have hz2 := al2.size
    obtain ⟨W, hW⟩ : ∃ W, W = (w1.alloc (.cells #[] 78)).alloc (.cells #[] 3) := ⟨_, rfl⟩
    have s1 : RowO intF 78 1 (blkL (some ⟨w1.heap.size, 0, none⟩) ++ ([] : List (List Nat)).flatten) W (some ⟨w1.heap.size, 0, none⟩) 0 0 ([] : List (List Int)) :=
      RowO.intro (css := []) (by rw [hW]; exact own_up (own_ch (own_empty w1 78 1 (Nat.le_refl _)) (Ch.of_below (S := fun _ => False) ((Below.refl _ _).alloc (Nat.le_refl _) _)) (fun _ _ h => h)) (Nat.zero_le _)) rfl Els.nil
    have s2 : IntO (blkL (some ⟨w1.heap.size + 1, 0, none⟩)) W (some ⟨w1.heap.size + 1, 0, none⟩) 0 0 [] := IntO.mk' (by rw [hW]; simpa using own_empty (w1.alloc (.cells #[] 78)) 3 1 (Nat.zero_le _))
    have hWs : W.heap.size = w1.heap.size + 2 := by rw [hW]; simp
    have hbW : Below w1.heap.size w1 W := by rw [hW]; exact al2
    rw [← hW]
    clear hW al1 al2 hz2
    go_loopw [3, 4, 17] (fun o f i wr => ∃ (k : Nat) (O : Option Addr) (co : Nat) (P : Option Addr) (cp : Nat) (fp : List Nat), k ≤ n ∧ i = .int .i64 k ∧ o = .slice O (mxL l k) co ∧ f = .slice P k cp ∧ RowO intF 78 1 fp wr O (mxL l k) co (rowsOf l k) ∧ IntO (blkL P) wr P k cp (lvI l k) ∧ (blkL P ++ fp).Nodup ∧ (∀ b ∈ blkL P ++ fp, w1.heap.size ≤ b ∧ b < wr.heap.size) ∧ Below w1.heap.size w1 wr) (fun _ _ i _ => n - (intOf i).toNat)
    case atStart =>
      refine ⟨0, some ⟨w1.heap.size, 0, none⟩, 0, some ⟨w1.heap.size + 1, 0, none⟩, 0, blkL (some ⟨w1.heap.size, 0, none⟩) ++ ([] : List (List Nat)).flatten, Nat.zero_le _, rfl, by congr 1; unfold mxL; rfl, rfl, ?_, ?_, ?_, ?_, hbW⟩
      · have e1 : mxL l 0 = 0 := by unfold mxL; rfl
        have e2 : rowsOf l 0 = [] := by unfold rowsOf; rw [e1]; rfl
        rw [e1, e2]; exact s1
      · have e2 : lvI l 0 = [] := by unfold lvI; rfl
        rw [e2]; exact s2
      · simp [blkL]
      · intro b hb; simp [blkL] at hb; omega
    case round =>
      clear s1 s2 hbW hWs
      obtain ⟨i, O, co, P, cp, fp, hi, rfl, rfl, rfl, hO, hP, hND, hBD, hbr⟩ := hrel
      have hmx : mxL l i ≤ i := mxL_le l i
      by_cases hlt : i < n
      · obtain ⟨b, off, rfl⟩ := h1.head (by omega)
        obtain ⟨bl, x, cs, hx, hR, hcell⟩ := h1.elem_at hlt
        obtain ⟨A1, n1, c1, rfl, hx1⟩ := hR
        have e0 := (hbr.cell (p := ⟨b, off + i * 8, none⟩) bl).trans (show w1.cell? ⟨b, off + i * 8, none⟩ = some (.int .i64 x.kd) from hcell 0 _ rfl)
        have e1 := (hbr.cell (p := ⟨b, off + i * 8 + 1, none⟩) bl).trans (show w1.cell? ⟨b, off + i * 8 + 1, none⟩ = some (.int .i64 x.cl) from hcell 1 _ rfl)
        have e2 := (hbr.cell (p := ⟨b, off + i * 8 + 2, none⟩) bl).trans (show w1.cell? ⟨b, off + i * 8 + 2, none⟩ = some (.int .i64 x.no) from hcell 2 _ rfl)
        have e3 := (hbr.cell (p := ⟨b, off + i * 8 + 3, none⟩) bl).trans (show w1.cell? ⟨b, off + i * 8 + 3, none⟩ = some (.string x.s) from hcell 3 _ rfl)
        have e4 := (hbr.cell (p := ⟨b, off + i * 8 + 4, none⟩) bl).trans (show w1.cell? ⟨b, off + i * 8 + 4, none⟩ = some (.string x.nm) from hcell 4 _ rfl)
        have e5 := (hbr.cell (p := ⟨b, off + i * 8 + 5, none⟩) bl).trans (show w1.cell? ⟨b, off + i * 8 + 5, none⟩ = some (.string x.tg) from hcell 5 _ rfl)
        have e6 := (hbr.cell (p := ⟨b, off + i * 8 + 6, none⟩) bl).trans (show w1.cell? ⟨b, off + i * 8 + 6, none⟩ = some (.int .i64 x.n) from hcell 6 _ rfl)
        have e7 := (hbr.cell (p := ⟨b, off + i * 8 + 7, none⟩) bl).trans (show w1.cell? ⟨b, off + i * 8 + 7, none⟩ = some (.slice A1 n1 c1) from hcell 7 _ rfl)
        clear hcell
        have hbx := bounds_el hb.2 hx
        have al := (Below.refl wr.heap.size wr).alloc (Nat.le_refl _) (.cells #[.int .i64 x.kd, .int .i64 x.cl, .int .i64 x.no, .string x.s, .string x.nm, .string x.tg, .int .i64 x.n, .slice A1 n1 c1] 47)
        have hin : i ≤ c := by omega
        have hxr := hx1.keep (bthen hbr al)
        have hO1 := hO.keep intK al
        have hP1 := hP.keep al
        have hrow := h1.keep cmK (bthen hbr al)
        clear hO hP
        go_wp2
        obtain ⟨W, hW⟩ : ∃ W, W = wr.alloc (.cells #[.int .i64 x.kd, .int .i64 x.cl, .int .i64 x.no, .string x.s, .string x.nm, .string x.tg, .int .i64 x.n, .slice A1 n1 c1] 47) := ⟨_, rfl⟩
        obtain ⟨gc, hgc⟩ : ∃ g, wr.heap.size = g := ⟨_, rfl⟩
        have x0 : W.cell? ⟨gc, 0, none⟩ = some (.int .i64 x.kd) := by rw [hW, ← hgc]; simp [go_sem]
        have x1 : W.cell? ⟨gc, 1, none⟩ = some (.int .i64 x.cl) := by rw [hW, ← hgc]; simp [go_sem]
        have x2 : W.cell? ⟨gc, 2, none⟩ = some (.int .i64 x.no) := by rw [hW, ← hgc]; simp [go_sem]
        have x3 : W.cell? ⟨gc, 3, none⟩ = some (.string x.s) := by rw [hW, ← hgc]; simp [go_sem]
        have x4 : W.cell? ⟨gc, 4, none⟩ = some (.string x.nm) := by rw [hW, ← hgc]; simp [go_sem]
        have x5 : W.cell? ⟨gc, 5, none⟩ = some (.string x.tg) := by rw [hW, ← hgc]; simp [go_sem]
        have x6 : W.cell? ⟨gc, 6, none⟩ = some (.int .i64 x.n) := by rw [hW, ← hgc]; simp [go_sem]
        have x7 : W.cell? ⟨gc, 7, none⟩ = some (.slice A1 n1 c1) := by rw [hW, ← hgc]; simp [go_sem]
        rw [← hW] at al hxr hO1 hP1 hrow ⊢
        have hbW := bthen hbr al
        have hgW : gc < W.heap.size := cell_lt x0
        have hWz := al.size
        rw [hgc] at hBD hWz ⊢
        clear hW al
        clear e0 e1 e2 e3 e4 e5 e6 e7
        have HI := Lib.hid hP1.at_
        go_loopw [7, 26] (fun a j wr => ∃ (k : Nat), k ≤ i ∧ j = .int .i64 k ∧ a = .int .i64 ((lvTo l (lv l) i k : Nat) : Int) ∧ Below W.heap.size W wr) (fun _ j _ => i - (intOf j).toNat)
        case atStart => exact ⟨0, Nat.zero_le _, rfl, by unfold lvTo; rfl, Below.refl _ _⟩
        case round =>
          obtain ⟨k, hk, rfl, rfl, hbs⟩ := hrel
          have hlvb : lvTo l (lv l) i k ≤ 10 := by have := lvTo_le l i k; have := mxL_le l k; omega
          by_cases hlk : k < i
          · obtain ⟨_, y, cs', hy, hRy, hcelly⟩ := hrow.elem_at (i := k) (by omega)
            obtain ⟨A2, n2, c2, rfl, hy1⟩ := hRy
            have y0 := (hbs.cell (p := ⟨b, off + k * 8, none⟩) (Nat.lt_of_lt_of_le bl hbW.size)).trans (show W.cell? ⟨b, off + k * 8, none⟩ = some (.int .i64 y.kd) from hcelly 0 _ rfl)
            have y1 := (hbs.cell (p := ⟨b, off + k * 8 + 1, none⟩) (Nat.lt_of_lt_of_le bl hbW.size)).trans (show W.cell? ⟨b, off + k * 8 + 1, none⟩ = some (.int .i64 y.cl) from hcelly 1 _ rfl)
            have y2 := (hbs.cell (p := ⟨b, off + k * 8 + 2, none⟩) (Nat.lt_of_lt_of_le bl hbW.size)).trans (show W.cell? ⟨b, off + k * 8 + 2, none⟩ = some (.int .i64 y.no) from hcelly 2 _ rfl)
            have y3 := (hbs.cell (p := ⟨b, off + k * 8 + 3, none⟩) (Nat.lt_of_lt_of_le bl hbW.size)).trans (show W.cell? ⟨b, off + k * 8 + 3, none⟩ = some (.string y.s) from hcelly 3 _ rfl)
            have y4 := (hbs.cell (p := ⟨b, off + k * 8 + 4, none⟩) (Nat.lt_of_lt_of_le bl hbW.size)).trans (show W.cell? ⟨b, off + k * 8 + 4, none⟩ = some (.string y.nm) from hcelly 4 _ rfl)
            have y5 := (hbs.cell (p := ⟨b, off + k * 8 + 5, none⟩) (Nat.lt_of_lt_of_le bl hbW.size)).trans (show W.cell? ⟨b, off + k * 8 + 5, none⟩ = some (.string y.tg) from hcelly 5 _ rfl)
            have y6 := (hbs.cell (p := ⟨b, off + k * 8 + 6, none⟩) (Nat.lt_of_lt_of_le bl hbW.size)).trans (show W.cell? ⟨b, off + k * 8 + 6, none⟩ = some (.int .i64 y.n) from hcelly 6 _ rfl)
            have y7 := (hbs.cell (p := ⟨b, off + k * 8 + 7, none⟩) (Nat.lt_of_lt_of_le bl hbW.size)).trans (show W.cell? ⟨b, off + k * 8 + 7, none⟩ = some (.slice A2 n2 c2) from hcelly 7 _ rfl)
            clear hcelly
            have hby := bounds_el hb.2 hy
            have al := (Below.refl wr.heap.size wr).alloc (Nat.le_refl _) (.cells #[.int .i64 y.kd, .int .i64 y.cl, .int .i64 y.no, .string y.s, .string y.nm, .string y.tg, .int .i64 y.n, .slice A2 n2 c2] 47)
            have z0 := keep_cell al (keep_cell hbs x0)
            have z1 := keep_cell al (keep_cell hbs x1)
            have z2 := keep_cell al (keep_cell hbs x2)
            have z3 := keep_cell al (keep_cell hbs x3)
            have z4 := keep_cell al (keep_cell hbs x4)
            have z5 := keep_cell al (keep_cell hbs x5)
            have z6 := keep_cell al (keep_cell hbs x6)
            have z7 := keep_cell al (keep_cell hbs x7)
            have hyr := hy1.keep (bthen hbs al)
            have hxr2 := hxr.keep (bthen hbs al)
            have hcm : cmAt l k = y := cmAt_of hy
            have hcx : cmAt l i = x := cmAt_of hx
            have HST := Lib.hid (show lvTo l (lv l) i (k + 1) = if clashB y x = true then max (lvTo l (lv l) i k) (lv l k + 1) else lvTo l (lv l) i k by rw [lvTo, hcm, hcx])
            clear hcm hcx
            have hbsl := bthen hbs al
            go_wp2_with fail
            refine (clash_impl y x _ _ _ _ _ _ _ hyr hxr2 hby hbx).mono ?_
            rintro e w4 ⟨rfl, hb4⟩
            have hb4W := bthen hbsl hb4
            obtain ⟨q, hq⟩ : ∃ q, clashB y x = q := ⟨_, rfl⟩
            rw [hq]
            rw [hq] at HST
            clear hq y0 z0 y1 z1 y2 z2 y3 z3 y4 z4 y5 z5 y6 z6 y7 z7
            cases q
            · go_wp2
              exact ⟨⟨k + 1, by omega, by go_num, by rw [HST.out]; rfl, hb4W⟩, by simp [intOf]; omega⟩
            · obtain ⟨b5, off5, hP5, hbl5, hc5⟩ := (IntR.at_r HI.out).at_ (by omega)
              subst hP5
              have hk5 := (hb4W.cell (p := ⟨b5, off5 + k, none⟩) hbl5).trans (hc5 k (by omega))
              rw [lvI_at l i k hlk] at hk5
              clear hc5
              have hlk2 : lv l k ≤ 10 := by have := lv_le l k; have := mxL_le l k; omega
              go_wp2
              refine ⟨⟨k + 1, by omega, by go_num, ?_, hb4W⟩, by simp [intOf]; omega⟩
              rw [HST.out]; simp only [if_true]; congr 1; split <;> omega
          · have hki : k = i := by omega
            subst hki
            have HLV := Lib.hid (lv_eq l k)
            rw [← HLV.out]
            rw [← HLV.out] at hlvb
            clear HI hrow hxr x0 x1 x2 x3 x4 x5 x6 x7
            have hO2 := hO1.keep intK hbs
            have hP2 := hP1.keep hbs
            have hbw2 := bthen hbW hbs
            have hzs := hbs.size
            clear hO1 hP1 HLV hgW hbr hlk hk
            have hPo := hP2.own.2
            have hPlo := hP2.lt
            obtain ⟨css, fps, rfl, hOo, -, hOE⟩ := hO2.ex
            have hOlt := hO2.lt intK
            clear hO2 hP2
            have hlvk := lv_le l k
            have hmk := mxL_le l (k + 1)
            have hl10 : k < l.length := by have := HL.out; omega
            by_cases he : lv l k = mxL l k
            · have gd : (((lv l k : Nat) : Int) == ((mxL l k : Nat) : Int)) = true := by simp [he]
              have hmx1 : mxL l (k + 1) = mxL l k + 1 := by rw [mxL_succ]; omega
              have hRE : rowsE l k = rowsOf l k ++ [[]] := by unfold rowsE; rw [if_pos he]
              have HE := Lib.hid he; clear he
              go_wp2_with (first | (at_builtin; refine wpList_app1g (P := Try.prog) wr rfl (.tmp 42) (.tmp 44) 78 rfl 0 3 _ 1 8 Try.underlying78 infoInt rfl (by omega) (.slice P k cp) _ _ rfl hPo _ _ rfl (by simp) rfl (by simp [Value.oneCell']) (by unfold maxLen; omega) (by omega) (Nat.zero_le _) ?_; intro P' cp' w5 hP5 hgP hbP hobP; refine stop_of ?_) | fail)
              have hC5 : Ch (fun b => b ∈ blkL P) wr w5 := (Ch.of_grow hgP).mono (fun b hb => mem_blkL.2 (blk_of hb))
              have hz5 := hC5.size
              have hP5' : IntO (blkL P') w5 P' (k + 1) cp' (lvI l (k + 1)) := IntO.mk' (by rw [lvI_succ]; simpa using hP5)
              have hPn : ∀ b ∈ blkL P', b ∈ blkL P ∨ wr.heap.size ≤ b := fun b hb => by
                have h1 := blk_own (n := k + 1) (c := cp') (mem_blkL.1 hb)
                rcases hobP with h2 | h2
                · exact .inl (mem_blkL.2 (blk_of (h2.symm.trans h1)))
                · have := Option.some.inj (h1.symm.trans h2); exact .inr (by omega)
              have hdO : ∀ b ∈ blkL O ++ fps.flatten, ¬ b ∈ blkL P := fun b h1 h2 => (List.nodup_append.1 hND).2.2 b h2 b h1 rfl
              have hO5 := own_chL hOo hC5 (fun b hb => hdO b (List.mem_append_left _ hb))
              have hE5 := hOE.ch intK hC5 (fun b hb => hdO b (List.mem_append_right _ hb))
              have hb5 : Below w1.heap.size w1 w5 := hbw2.trans (hC5.below (fun b hb => (hBD b (List.mem_append_left _ hb)).1) hbw2.size)
              have hN5 : (blkL P' ++ (blkL O ++ fps.flatten)).Nodup := by
                refine List.nodup_append.2 ⟨by cases P' <;> simp [blkL], (List.nodup_append.1 hND).2.1, fun a ha b hb hab => ?_⟩
                subst hab
                rcases hPn a ha with h | h
                · exact hdO a hb h
                · have := hOlt a hb; omega
              have hB5 : ∀ b ∈ blkL P' ++ (blkL O ++ fps.flatten), w1.heap.size ≤ b ∧ b < w5.heap.size := fun b hb => by
                rcases List.mem_append.1 hb with h | h
                · have l1 := hP5'.lt b h
                  rcases hPn b h with h2 | h2
                  · exact ⟨(hBD b (List.mem_append_left _ h2)).1, l1⟩
                  · have := hbw2.size; omega
                · have := hBD b (List.mem_append_right _ h); have := hOlt b h; omega
              clear hPo hOo hOE hND hBD hP5 hgP hbP hobP hC5 hdO
              have al6 := (Below.refl w5.heap.size w5).alloc (Nat.le_refl _) (.cells #[] 3)
              have hO6 := own_ch hO5 (Ch.of_below (S := fun _ => False) al6) (fun _ _ h => h)
              have hE6 := hE5.keep intK al6
              have hP6 := hP5'.keep al6
              have hx6 : intF (blkL (some ⟨w5.heap.size, 0, none⟩)) (w5.alloc (.cells #[] 3)) [.slice (some ⟨w5.heap.size, 0, none⟩) 0 0] [] := ⟨_, _, _, rfl, IntO.mk' (by simpa using own_empty w5 3 1 (Nat.zero_le _))⟩
              clear hO5 hE5 hP5'
              unfold Stop
              go_wp2_with (first | (at_builtin; refine wpList_app1g (P := Try.prog) _ rfl (.tmp 50) (.tmp 52) 24 rfl 0 78 _ 1 24 Try.underlying24 infoIntS rfl (by omega) (.slice O (mxL l k) co) _ _ rfl hO6 _ _ rfl (by simp) rfl (by simp [Value.oneCell']) (by unfold maxLen; omega) (by omega) (Nat.zero_le _) ?_; intro O' co' w6 hO7 hgO hbO hobO; refine stop_of ?_) | fail)
              have hgE : ∀ b ∈ blkL (some (⟨w5.heap.size, 0, none⟩ : Addr)), b = w5.heap.size := fun b hb => by simpa [blkL] using hb
              have hN6 : (blkL O ++ (fps ++ [blkL (some ⟨w5.heap.size, 0, none⟩)]).flatten).Nodup := by
                have h1 := (List.nodup_append.1 hN5).2.1
                rw [List.flatten_append, ← List.append_assoc]
                refine nodup_new (m := w5.heap.size) h1 (by simp [blkL]) (fun b hb => (hB5 b (List.mem_append_right _ hb)).2) (fun b hb => by simp [blkL] at hb; omega)
              obtain ⟨hE7, hN7, hO7n⟩ := app_els (A := O) (n := mxL l k) (c := co) intK hE6 hx6 hN6 hgO hobO (by simp)
              have hCO : Ch (fun b => b ∈ blkL O) (w5.alloc (.cells #[] 3)) w6 := (Ch.of_grow hgO).mono (fun b hb => mem_blkL.2 (blk_of hb))
              have hz6 := hCO.size
              simp only [World.size_alloc] at hz6
              have hP7 := hP6.ch hCO (fun b h1 h2 => (List.nodup_append.1 hN5).2.2 b h1 b (List.mem_append_left _ h2) rfl)
              have hO8 : w6.ownsRow 0 78 1 (.slice O' (mxL l k + 1) co') (mxL l k + 1) (css ++ [([.slice (some ⟨w5.heap.size, 0, none⟩) 0 0] : List Value)]).flatten := by rw [flat_snoc]; simpa using hO7
              rw [← hRE] at hE7
              have hO7lt := own_lo hO8
              have hm5 : ∀ b ∈ blkL O', b ∈ blkL O ∨ b = w5.heap.size + 1 + 1 := fun b hb => by have := hO7n b hb; simpa using this
              have hb6 : Below w1.heap.size w1 w6 := (bthen hb5 al6).trans (hCO.below (fun b hb => (hB5 b (by simp [hb])).1) (by have := hb5.size; simp; omega))
              have hN8 : (blkL P' ++ (blkL O' ++ (fps ++ [blkL (some ⟨w5.heap.size, 0, none⟩)]).flatten)).Nodup := by
                refine List.nodup_append.2 ⟨by cases P' <;> simp [blkL], hN7, fun a ha b hb hab => ?_⟩
                subst hab
                have h5 := (List.nodup_append.1 hN5).2.2 a ha
                have h6 := hB5 a (List.mem_append_left _ ha)
                rcases List.mem_append.1 hb with hb | hb
                · rcases hm5 a hb with h | h
                  · exact h5 a (List.mem_append_left _ h) rfl
                  · omega
                · rw [List.flatten_append] at hb
                  rcases List.mem_append.1 hb with hb | hb
                  · exact h5 a (List.mem_append_right _ hb) rfl
                  · have := hgE a (by simpa using hb); omega
              have hB8 : ∀ b ∈ blkL P' ++ (blkL O' ++ (fps ++ [blkL (some ⟨w5.heap.size, 0, none⟩)]).flatten), w1.heap.size ≤ b ∧ b < w6.heap.size := fun b hb => by
                have hz55 := hb5.size
                rcases List.mem_append.1 hb with hb | hb
                · have := hB5 b (List.mem_append_left _ hb); omega
                · rcases List.mem_append.1 hb with hb | hb
                  · have h2 := (hO7lt b hb).2
                    rcases hm5 b hb with h | h
                    · have := hB5 b (by simp [h]); omega
                    · omega
                  · rw [List.flatten_append] at hb
                    rcases List.mem_append.1 hb with hb | hb
                    · have := hB5 b (by simp only [List.mem_append]; exact .inr (.inr hb)); omega
                    · have := hgE b (by simpa using hb); omega
              have hEl := rowsE_len l k
              rw [← hmx1] at hO8
              clear hO6 hE6 hP6 hx6 hO7 hgO hbO hobO hN6 hN5 hB5 hO7n hO7lt
              have hm11 : mxL l (k + 1) ≤ 11 := by omega
              rw [show mxL l k + 1 = mxL l (k + 1) from hmx1.symm]
              have hat := rowsE_at l k
              obtain ⟨q1, q2⟩ := List.getElem?_eq_some_iff.1 hat
              have hsp : rowsE l k = (rowsE l k).take (lv l k) ++ rowOf l k (lv l k) :: (rowsE l k).drop (lv l k + 1) := by rw [← drop_one hat, List.take_append_drop]
              have hset : rowsOf l (k + 1) = (rowsE l k).take (lv l k) ++ (rowOf l k (lv l k) ++ [(k : Int)]) :: (rowsE l k).drop (lv l k + 1) := by rw [rowsOf_succ, List.set_eq_take_append_cons_drop, if_pos q1]
              have hE9 := hE7
              rw [hsp] at hE9
              obtain ⟨c1, c2', f1, f2', hcs, hfs, hE91, hE92⟩ := hE9.split
              obtain ⟨cs, c2, f, f2, rfl, rfl, hFx, hE93⟩ := hE92.cons
              obtain ⟨B, nB, cB, rfl, hB⟩ := hFx
              have hnB : nB = (rowOf l k (lv l k)).length := hB.at_.len
              subst hnB
              obtain ⟨rfl, hBo⟩ := hB.own
              have hrl := rowOf_len l k (lv l k)
              have hOr := hO8
              rw [hcs, List.flatten_append, List.flatten_cons] at hOr
              obtain ⟨g, hA, hg0⟩ : ∃ g, O' = some ⟨g, 0, none⟩ ∧ g < w6.heap.size := by rcases own_form hOr with ⟨_, h0, _⟩ | ⟨g, h1, _, h2⟩ <;> first | omega | exact ⟨g, h1, h2⟩
              subst hA
              have htl : ((rowsE l k).take (lv l k)).length = lv l k := by rw [List.length_take]; omega
              have hP1 : c1.flatten.length = lv l k := by rw [hE91.flat intK, htl]; omega
              have e0 : w6.cell? ⟨g, lv l k, none⟩ = some (.slice B (rowOf l k (lv l k)).length cB) := by have := own_mid hOr hP1 (r := 0) rfl; simpa using this
              have hN9 := hN8
              rw [hfs] at hN9
              have hNg : (g :: (f1.flatten ++ (blkL B ++ f2.flatten))).Nodup := by have := (List.nodup_append.1 hN9).2.1; simpa [blkL] using this
              have hgB : ¬ g ∈ blkL B := by have := List.nodup_cons.1 hNg; grind
              unfold Stop
              go_wp2_with (at_builtin; refine wpList_app1g (P := Try.prog) w6 rfl (.tmp 59) (.tmp 61) 78 rfl 0 3 _ 1 8 Try.underlying78 infoInt rfl (by omega) (.slice B (rowOf l k (lv l k)).length cB) _ _ rfl hBo _ _ rfl (by simp) rfl (by simp [Value.oneCell']) (by unfold maxLen; omega) (by omega) (Nat.zero_le _) ?_; intro B' cB' w7 hB7 hgB7 hbB7 hobB7; refine stop_of ?_)
              have hC7 : Ch (fun b => b ∈ blkL B) w6 w7 := (Ch.of_grow hgB7).mono (fun b hb => mem_blkL.2 (blk_of hb))
              have hB7' : IntO (blkL B') w7 B' ((rowOf l k (lv l k)).length + 1) cB' (rowOf l k (lv l k) ++ [(k : Int)]) := IntO.mk' (by simpa using hB7)
              have hBn : ∀ b ∈ blkL B', b ∈ blkL B ∨ w6.heap.size ≤ b := fun b hb => by
                have h1 := blk_own (n := (rowOf l k (lv l k)).length + 1) (c := cB') (mem_blkL.1 hb)
                rcases hobB7 with h2 | h2
                · exact .inl (mem_blkL.2 (blk_of (h2.symm.trans h1)))
                · have := Option.some.inj (h1.symm.trans h2); exact .inr (by omega)
              have o7 := own_ch hOr hC7 (fun b hb h2 => hgB (by rw [show g = b by simpa [Value.ownBlock] using hb]; exact h2))
              have y0 := o7.frozenAt (lv l k)
              have e7 : w7.cell? ⟨g, lv l k, none⟩ = some (.slice B (rowOf l k (lv l k)).length cB) := by have := own_mid o7 hP1 (r := 0) rfl; simpa using this
              unfold Stop
              go_wp2
              have hz78 : w7.heap.size ≤ (w7.setCell ⟨g, lv l k, none⟩ (.slice B' ((rowOf l k (lv l k)).length + 1) cB')).heap.size := by simp
              obtain ⟨w8, hw8⟩ : ∃ W, W = w7.setCell ⟨g, lv l k, none⟩ (.slice B' ((rowOf l k (lv l k)).length + 1) cB') := ⟨_, rfl⟩
              rw [← hw8] at hz78 ⊢
              have hw9 : w8 = setsW w7 g (((rowsE l k).take (lv l k)).length * 1) [.slice B' ((rowOf l k (lv l k)).length + 1) cB'] := by rw [htl, Nat.mul_one]; exact hw8
              obtain ⟨U1, U2, U3⟩ := upd_els (f' := blkL B') (x' := rowOf l k (lv l k) ++ [(k : Int)]) intK hOr hE91 hE93 rfl (by have hq := congrArg List.length hsp; rw [hEl, List.length_append, List.length_cons] at hq; omega) hNg hC7 ⟨B', _, cB', rfl, hB7'⟩ hBn (by cases B' <;> simp [blkL]) hw9
              clear hw8 hw9 e7 y0 o7
              rw [← hset] at U1
              have hdP : ∀ b ∈ blkL P', ¬ (b = g ∨ b ∈ blkL B) := fun b hb h2 => by
                have h5 := (List.nodup_append.1 hN9).2.2 b hb
                rcases h2 with h2 | h2
                · exact h5 b (by simp [blkL, h2]) rfl
                · exact h5 b (by simp [h2]) rfl
              have hPf := hP7.ch U3 hdP
              have hz8 := U3.size
              have hVz := hb6.size
              have hBx : ∀ b ∈ blkL B', w1.heap.size ≤ b ∧ b < w8.heap.size := fun b hb => by
                have l1 := hB7'.lt b hb
                have l2 := hz78
                rcases hBn b hb with h | h
                · have := hB8 b (by rw [hfs]; simp [h]); omega
                · omega
              refine ⟨⟨k + 1, _, _, P', _, _, by omega, by go_num, by rw [hmx1], rfl, U1, hPf, ?_, ?_, hb6.trans (U3.below (fun b hb => by exact hb.elim (fun h => by subst h; exact (hB8 _ (by simp [blkL])).1) (fun h => (hB8 b (by rw [hfs]; simp [h])).1)) hb6.size)⟩, by simp [intOf]; omega⟩
              · refine List.nodup_append.2 ⟨by cases P' <;> simp [blkL], by simpa [blkL] using U2, fun a ha b hb hab => ?_⟩
                subst hab
                have h5 := (List.nodup_append.1 hN9).2.2 a ha
                simp only [blkL, List.flatten_append, List.flatten_cons, List.mem_append, List.mem_cons, List.not_mem_nil, or_false] at hb
                have hPlt := hP7.lt a ha
                rcases hb with hb | hb | hb | hb
                · exact h5 a (by simp [blkL, hb]) rfl
                · exact h5 a (by simp [hb]) rfl
                · rcases hBn a hb with h | h
                  · exact h5 a (by simp [h]) rfl
                  · omega
                · exact h5 a (by simp [hb]) rfl
              · intro b hb
                rcases List.mem_append.1 hb with hb | hb
                · have := hB8 b (List.mem_append_left _ hb); omega
                simp only [blkL, List.flatten_append, List.flatten_cons, List.mem_append, List.mem_cons, List.not_mem_nil, or_false] at hb
                rcases hb with hb | hb | hb | hb
                · have := hB8 b (by rw [hfs]; simp [blkL, hb]); omega
                · have := hB8 b (by rw [hfs]; simp [hb]); omega
                · exact hBx b hb
                · have := hB8 b (by rw [hfs]; simp [hb]); omega
            · have gd : (((lv l k : Nat) : Int) == ((mxL l k : Nat) : Int)) = false := by simp; omega
              have hmx1 : mxL l (k + 1) = mxL l k := by rw [mxL_succ]; omega
              have hRE : rowsE l k = rowsOf l k := by unfold rowsE; rw [if_neg he]
              have HE := Lib.hid he; clear he
              go_wp2_with (first | (at_builtin; refine wpList_app1g (P := Try.prog) wr rfl (.tmp 42) (.tmp 44) 78 rfl 0 3 _ 1 8 Try.underlying78 infoInt rfl (by omega) (.slice P k cp) _ _ rfl hPo _ _ rfl (by simp) rfl (by simp [Value.oneCell']) (by unfold maxLen; omega) (by omega) (Nat.zero_le _) ?_; intro P' cp' w5 hP5 hgP hbP hobP; refine stop_of ?_) | fail)
              have hC5 : Ch (fun b => b ∈ blkL P) wr w5 := (Ch.of_grow hgP).mono (fun b hb => mem_blkL.2 (blk_of hb))
              have hz5 := hC5.size
              have hP5' : IntO (blkL P') w5 P' (k + 1) cp' (lvI l (k + 1)) := IntO.mk' (by rw [lvI_succ]; simpa using hP5)
              have hPn : ∀ b ∈ blkL P', b ∈ blkL P ∨ wr.heap.size ≤ b := fun b hb => by
                have h1 := blk_own (n := k + 1) (c := cp') (mem_blkL.1 hb)
                rcases hobP with h2 | h2
                · exact .inl (mem_blkL.2 (blk_of (h2.symm.trans h1)))
                · have := Option.some.inj (h1.symm.trans h2); exact .inr (by omega)
              have hdO : ∀ b ∈ blkL O ++ fps.flatten, ¬ b ∈ blkL P := fun b h1 h2 => (List.nodup_append.1 hND).2.2 b h2 b h1 rfl
              have hO5 := own_chL hOo hC5 (fun b hb => hdO b (List.mem_append_left _ hb))
              have hE5 := hOE.ch intK hC5 (fun b hb => hdO b (List.mem_append_right _ hb))
              have hb5 : Below w1.heap.size w1 w5 := hbw2.trans (hC5.below (fun b hb => (hBD b (List.mem_append_left _ hb)).1) hbw2.size)
              have hN5 : (blkL P' ++ (blkL O ++ fps.flatten)).Nodup := by
                refine List.nodup_append.2 ⟨by cases P' <;> simp [blkL], (List.nodup_append.1 hND).2.1, fun a ha b hb hab => ?_⟩
                subst hab
                rcases hPn a ha with h | h
                · exact hdO a hb h
                · have := hOlt a hb; omega
              have hB5 : ∀ b ∈ blkL P' ++ (blkL O ++ fps.flatten), w1.heap.size ≤ b ∧ b < w5.heap.size := fun b hb => by
                rcases List.mem_append.1 hb with h | h
                · have l1 := hP5'.lt b h
                  rcases hPn b h with h2 | h2
                  · exact ⟨(hBD b (List.mem_append_left _ h2)).1, l1⟩
                  · have := hbw2.size; omega
                · have := hBD b (List.mem_append_right _ h); have := hOlt b h; omega
              clear hPo hOo hOE hND hBD hP5 hgP hbP hobP hC5 hdO
              have hEl := rowsE_len l k
              rw [← hRE] at hE5
              have hO8 : w5.ownsRow 0 78 1 (.slice O (mxL l (k + 1)) co) (mxL l (k + 1)) css.flatten := by rw [hmx1]; exact hO5
              have hm11 : mxL l (k + 1) ≤ 11 := by omega
              rw [show mxL l k = mxL l (k + 1) from hmx1.symm]
              have hat := rowsE_at l k
              obtain ⟨q1, q2⟩ := List.getElem?_eq_some_iff.1 hat
              have hsp : rowsE l k = (rowsE l k).take (lv l k) ++ rowOf l k (lv l k) :: (rowsE l k).drop (lv l k + 1) := by rw [← drop_one hat, List.take_append_drop]
              have hset : rowsOf l (k + 1) = (rowsE l k).take (lv l k) ++ (rowOf l k (lv l k) ++ [(k : Int)]) :: (rowsE l k).drop (lv l k + 1) := by rw [rowsOf_succ, List.set_eq_take_append_cons_drop, if_pos q1]
              have hE9 := hE5
              rw [hsp] at hE9
              obtain ⟨c1, c2', f1, f2', hcs, hfs, hE91, hE92⟩ := hE9.split
              obtain ⟨cs, c2, f, f2, rfl, rfl, hFx, hE93⟩ := hE92.cons
              obtain ⟨B, nB, cB, rfl, hB⟩ := hFx
              have hnB : nB = (rowOf l k (lv l k)).length := hB.at_.len
              subst hnB
              obtain ⟨rfl, hBo⟩ := hB.own
              have hrl := rowOf_len l k (lv l k)
              have hOr := hO8
              rw [hcs, List.flatten_append, List.flatten_cons] at hOr
              obtain ⟨g, hA, hg0⟩ : ∃ g, O = some ⟨g, 0, none⟩ ∧ g < w5.heap.size := by rcases own_form hOr with ⟨_, h0, _⟩ | ⟨g, h1, _, h2⟩ <;> first | omega | exact ⟨g, h1, h2⟩
              subst hA
              have htl : ((rowsE l k).take (lv l k)).length = lv l k := by rw [List.length_take]; omega
              have hP1 : c1.flatten.length = lv l k := by rw [hE91.flat intK, htl]; omega
              have e0 : w5.cell? ⟨g, lv l k, none⟩ = some (.slice B (rowOf l k (lv l k)).length cB) := by have := own_mid hOr hP1 (r := 0) rfl; simpa using this
              have hN9 := hN5
              rw [hfs] at hN9
              have hNg : (g :: (f1.flatten ++ (blkL B ++ f2.flatten))).Nodup := by have := (List.nodup_append.1 hN9).2.1; simpa [blkL] using this
              have hgB : ¬ g ∈ blkL B := by have := List.nodup_cons.1 hNg; grind
              unfold Stop
              go_wp2_with (at_builtin; refine wpList_app1g (P := Try.prog) w5 rfl (.tmp 59) (.tmp 61) 78 rfl 0 3 _ 1 8 Try.underlying78 infoInt rfl (by omega) (.slice B (rowOf l k (lv l k)).length cB) _ _ rfl hBo _ _ rfl (by simp) rfl (by simp [Value.oneCell']) (by unfold maxLen; omega) (by omega) (Nat.zero_le _) ?_; intro B' cB' w7 hB7 hgB7 hbB7 hobB7; refine stop_of ?_)
              have hC7 : Ch (fun b => b ∈ blkL B) w5 w7 := (Ch.of_grow hgB7).mono (fun b hb => mem_blkL.2 (blk_of hb))
              have hB7' : IntO (blkL B') w7 B' ((rowOf l k (lv l k)).length + 1) cB' (rowOf l k (lv l k) ++ [(k : Int)]) := IntO.mk' (by simpa using hB7)
              have hBn : ∀ b ∈ blkL B', b ∈ blkL B ∨ w5.heap.size ≤ b := fun b hb => by
                have h1 := blk_own (n := (rowOf l k (lv l k)).length + 1) (c := cB') (mem_blkL.1 hb)
                rcases hobB7 with h2 | h2
                · exact .inl (mem_blkL.2 (blk_of (h2.symm.trans h1)))
                · have := Option.some.inj (h1.symm.trans h2); exact .inr (by omega)
              have o7 := own_ch hOr hC7 (fun b hb h2 => hgB (by rw [show g = b by simpa [Value.ownBlock] using hb]; exact h2))
              have y0 := o7.frozenAt (lv l k)
              have e7 : w7.cell? ⟨g, lv l k, none⟩ = some (.slice B (rowOf l k (lv l k)).length cB) := by have := own_mid o7 hP1 (r := 0) rfl; simpa using this
              unfold Stop
              go_wp2
              have hz78 : w7.heap.size ≤ (w7.setCell ⟨g, lv l k, none⟩ (.slice B' ((rowOf l k (lv l k)).length + 1) cB')).heap.size := by simp
              obtain ⟨w8, hw8⟩ : ∃ W, W = w7.setCell ⟨g, lv l k, none⟩ (.slice B' ((rowOf l k (lv l k)).length + 1) cB') := ⟨_, rfl⟩
              rw [← hw8] at hz78 ⊢
              have hw9 : w8 = setsW w7 g (((rowsE l k).take (lv l k)).length * 1) [.slice B' ((rowOf l k (lv l k)).length + 1) cB'] := by rw [htl, Nat.mul_one]; exact hw8
              obtain ⟨U1, U2, U3⟩ := upd_els (f' := blkL B') (x' := rowOf l k (lv l k) ++ [(k : Int)]) intK hOr hE91 hE93 rfl (by have hq := congrArg List.length hsp; rw [hEl, List.length_append, List.length_cons] at hq; omega) hNg hC7 ⟨B', _, cB', rfl, hB7'⟩ hBn (by cases B' <;> simp [blkL]) hw9
              clear hw8 hw9 e7 y0 o7
              rw [← hset] at U1
              have hdP : ∀ b ∈ blkL P', ¬ (b = g ∨ b ∈ blkL B) := fun b hb h2 => by
                have h5 := (List.nodup_append.1 hN9).2.2 b hb
                rcases h2 with h2 | h2
                · exact h5 b (by simp [blkL, h2]) rfl
                · exact h5 b (by simp [h2]) rfl
              have hPf := hP5'.ch U3 hdP
              have hz8 := U3.size
              have hVz := hb5.size
              have hBx : ∀ b ∈ blkL B', w1.heap.size ≤ b ∧ b < w8.heap.size := fun b hb => by
                have l1 := hB7'.lt b hb
                have l2 := hz78
                rcases hBn b hb with h | h
                · have := hB5 b (by rw [hfs]; simp [h]); omega
                · omega
              refine ⟨⟨k + 1, _, _, P', _, _, by omega, by go_num, by rw [hmx1], rfl, U1, hPf, ?_, ?_, hb5.trans (U3.below (fun b hb => by exact hb.elim (fun h => by subst h; exact (hB5 _ (by simp [blkL])).1) (fun h => (hB5 b (by rw [hfs]; simp [h])).1)) hb5.size)⟩, by simp [intOf]; omega⟩
              · refine List.nodup_append.2 ⟨by cases P' <;> simp [blkL], by simpa [blkL] using U2, fun a ha b hb hab => ?_⟩
                subst hab
                have h5 := (List.nodup_append.1 hN9).2.2 a ha
                simp only [blkL, List.flatten_append, List.flatten_cons, List.mem_append, List.mem_cons, List.not_mem_nil, or_false] at hb
                have hPlt := hP5'.lt a ha
                rcases hb with hb | hb | hb | hb
                · exact h5 a (by simp [blkL, hb]) rfl
                · exact h5 a (by simp [hb]) rfl
                · rcases hBn a hb with h | h
                  · exact h5 a (by simp [h]) rfl
                  · omega
                · exact h5 a (by simp [hb]) rfl
              · intro b hb
                rcases List.mem_append.1 hb with hb | hb
                · have := hB5 b (List.mem_append_left _ hb); omega
                simp only [blkL, List.flatten_append, List.flatten_cons, List.mem_append, List.mem_cons, List.not_mem_nil, or_false] at hb
                rcases hb with hb | hb | hb | hb
                · have := hB5 b (by rw [hfs]; simp [blkL, hb]); omega
                · have := hB5 b (by rw [hfs]; simp [hb]); omega
                · exact hBx b hb
                · have := hB5 b (by rw [hfs]; simp [hb]); omega
      · go_wp2
        go_returns
        have hin : i = l.length := by have := HL.out; omega
        rw [HB.out, ← hin]
        have hbz := hb1.size
        exact ⟨O, mxL l i, co, rfl, ⟨fp, (List.nodup_append.1 hND).2.1, fun b hb => by have := hBD b (List.mem_append_right _ hb); omega, hO⟩, bthen hb1 hbr⟩
end Go.Proofs.Ytdphdnllhmnelaa
