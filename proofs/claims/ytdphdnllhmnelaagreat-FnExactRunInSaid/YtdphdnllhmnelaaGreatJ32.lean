/- Contracts and lemmas: CatDoS. -/
import Derived.Test.YtdphdnllhmnelaaGreatJ31
import Derived.Test.YtdphdnllhmnelaaGreatJ24
import Derived.Test.YtdphdnllhmnelaaGreatJ28
/- The reference's CatDo. -/
namespace Go.Proofs.YtdphdnllhmnelaaGreat
open Go.RowKit
attribute [local go_sem] Grow.cell Grow.frozen
theorem catDo_cr {x : Ctl} {m : Cm} (h1 : catOkB x = true) (h2 : cmOkB m = true) (h3 : m.kd = 1) : catDo x m = (⟨crL x.sets m.s⟩, crT x.sets m.s) := by
  unfold catDo
  rw [if_neg (by rw [h1]; simp), if_neg (by rw [h2]; simp), if_neg (by omega), if_pos h3]
  unfold crL crT
  by_cases h4 : 0 ≤ cstFnd x.sets 0 m.s
  · rw [if_pos h4, if_pos h4, if_pos h4]
  · rw [if_neg h4, if_neg h4, if_neg h4]
    by_cases h5 : x.sets.length = 5
    · rw [if_pos h5, if_pos h5, if_pos h5]
    · rw [if_neg h5, if_neg h5, if_neg h5]
theorem catDo_se {x : Ctl} {m : Cm} {k : Nat} (h1 : catOkB x = true) (h2 : cmOkB m = true) (h3 : ¬ m.kd = 0) (h4 : ¬ m.kd = 1) (h5 : ¬ m.kd = 7) (h6 : cstFnd x.sets 0 m.s = (k : Int)) : catDo x m = (⟨seL x.sets k m⟩, seT x.sets k m) := by
  unfold catDo
  rw [if_neg (by rw [h1]; simp), if_neg (by rw [h2]; simp), if_neg h3, if_neg h4, if_neg h5, if_neg (by omega), h6, Int.toNat_natCast]
  unfold seL seT
  by_cases h7 : m.kd = 2
  · rw [if_pos h7, if_pos h7, if_pos h7]
  · rw [if_neg h7, if_neg h7, if_neg h7]
/-- the answer laid into the result's block -/
theorem cat_fin {l : List Cst} {t : ByteArray} {w w5 : World} {A : Option Addr} {n c g p : Nat} {f : List Nat} {v : Value} (R : RowO cstF 165 2 f w5 A n c l) (hN : f.Nodup) (hF : ∀ b ∈ f, g ≤ b ∧ b ≠ p) (hb : Below g w w5) (hg : w.heap.size = g) (hp : g ≤ p) (hp5 : p < w5.heap.size) :
    CatOut l t w.heap.size w (.returned (.tuple #[.agg #[.slice A n c], .string t])) (w5.setCell ⟨p, 0, none⟩ v) := by
  have hch := Ch.set (w := w5) (g := p) (o := 0) (v := v)
  subst hg
  exact CatOut.mk' (R.ch cstK hch (fun b hb => (hF b hb).2)) hN (fun b hb => (hF b hb).1) (hch.belowB hb (by omega) (fun k hk => by have hk : k = p := hk; omega))
theorem CatOut.out {l : List Cst} {t : ByteArray} {B : Nat} {w w' : World} {e : Ending} (h : CatOut l t B w e w') : ∃ A' n' c' fq', e = .returned (.tuple #[.agg #[.slice A' n' c'], .string t]) ∧ RowO cstF 165 2 fq' w' A' n' c' l ∧ fq'.Nodup ∧ (∀ t ∈ fq', B ≤ t) ∧ Below B w w' := h
theorem CatOut.more {l : List Cst} {t : ByteArray} {B : Nat} {w w' w'' : World} {e : Ending} (h : CatOut l t B w e w') (hb : Below w'.heap.size w' w'') (hB : B ≤ w'.heap.size) : CatOut l t B w e w'' := by
  obtain ⟨A', n', c', fq', h1, h2, h3, h4, h5⟩ := h
  exact ⟨A', n', c', fq', h1, h2.keep cstK hb, h3, h4, h5.trans (hb.mono hB)⟩
attribute [local irreducible] StrsAt StrR StrO RowR RowO cstFnd snpFnd sLt seL seT crL crT CatOut catOkB cmOkB catDo spTo
set_option maxRecDepth 8000 in
set_option maxHeartbeats 16000000 in
theorem catDo_spec (x : Ctl) (m : Cm) (A : Option Addr) (n c : Nat) (A1 : Option Addr) (n1 c1 : Nat) (w : World) (h : RowR cstR 2 w A n c x.sets) (hbd : CatBd x) (hm : StrR w A1 n1 c1 m.ch) (hmB : cmB m) :
    Calls Tryz.prog 128 #[ctlV x (.slice A n c), cmV m (.slice A1 n1 c1)] w (CatOut (catDo x m).1.sets (catDo x m).2 w.heap.size w) := by
  have hW := catBd_W hbd
  have hB := catBd_B hbd
  have hn : n ≤ 1000 := by have := hW.1; have := h.len; omega
  have al1 := (Below.refl w.heap.size w).alloc (Nat.le_refl _) (.cells #[.slice A n c] 27)
  have al2 := al1.alloc al1.size (.cells #[.int .i64 m.kd, .int .i64 m.cl, .int .i64 m.no, .string m.s, .string m.nm, .string m.tg, .int .i64 m.n, .slice A1 n1 c1] 48)
  have al3 := al2.alloc al2.size (.cells #[.slice none 0 0] 27)
  have BX := ((BoxL.new w [.slice A n c] 27).keep ((Below.refl _ _).alloc (Nat.le_refl _) (.cells #[.int .i64 m.kd, .int .i64 m.cl, .int .i64 m.no, .string m.s, .string m.nm, .string m.tg, .int .i64 m.n, .slice A1 n1 c1] 48))).keep ((Below.refl _ _).alloc (Nat.le_refl _) (.cells #[.slice none 0 0] 27))
  have BM := (BoxL.new (w.alloc (.cells #[.slice A n c] 27)) [.int .i64 m.kd, .int .i64 m.cl, .int .i64 m.no, .string m.s, .string m.nm, .string m.tg, .int .i64 m.n, .slice A1 n1 c1] 48).keep ((Below.refl _ _).alloc (Nat.le_refl _) (.cells #[.slice none 0 0] 27))
  have BO := BoxL.new ((w.alloc (.cells #[.slice A n c] 27)).alloc (.cells #[.int .i64 m.kd, .int .i64 m.cl, .int .i64 m.no, .string m.s, .string m.nm, .string m.tg, .int .i64 m.n, .slice A1 n1 c1] 48)) [.slice none 0 0] 27
  have hz1 : (w.alloc (.cells #[.slice A n c] 27)).heap.size = w.heap.size + 1 := Array.size_push _
  have hz2 : ((w.alloc (.cells #[.slice A n c] 27)).alloc (.cells #[.int .i64 m.kd, .int .i64 m.cl, .int .i64 m.no, .string m.s, .string m.nm, .string m.tg, .int .i64 m.n, .slice A1 n1 c1] 48)).heap.size = w.heap.size + 2 := (Array.size_push _).trans (by rw [hz1])
  unfold ctlV cmV
  go_enter Tryz.func128, Tryz.ntmps128
  go_wp2_with fail
  obtain ⟨W, hWW⟩ : ∃ W, W = (((w.alloc (.cells #[.slice A n c] 27)).alloc (.cells #[.int .i64 m.kd, .int .i64 m.cl, .int .i64 m.no, .string m.s, .string m.nm, .string m.tg, .int .i64 m.n, .slice A1 n1 c1] 48)).alloc (.cells #[.slice none 0 0] 27)) := ⟨_, rfl⟩
  obtain ⟨g, hg⟩ : ∃ g, w.heap.size = g := ⟨_, rfl⟩
  rw [hz1] at BM
  rw [hz2] at BO
  have HG := Lib.hid hg
  rw [← hWW] at al3 BX BM BO ⊢
  simp only [hg] at BX BM BO ⊢
  clear hWW hg al1 al2 hz1 hz2
  have hR := h.keep cstK al3
  have mW := hm.keep al3
  have hco := catOk_spec x A n c W hR hB
  unfold ctlV at hco
  refine hco.mono ?_
  rintro e w1 ⟨rfl, hb1⟩
  clear hco
  have BX1 := BX.keep hb1; have BM1 := BM.keep hb1; have BO1 := BO.keep hb1
  have hR1 := hR.keep cstK hb1; have m1 := mW.keep hb1
  have hg1 : Below g w w1 := by have := bthen al3 hb1; rw [HG.out] at this; exact this
  clear BX BM BO hR mW al3 hb1
  have o0 := BO1.cell 0 _ rfl
  have of := BO1.fz 0 (by simp)
  have x0 := BX1.cell 0 _ rfl
  have l0 := BX1.lt
  have l1 := BM1.lt
  have l2 := BO1.lt
  obtain ⟨q1, hq1⟩ : ∃ k, catOkB x = k := ⟨_, rfl⟩
  have HC := Lib.hid hq1
  rw [hq1]
  clear hq1
  cases q1
  · have hWr := (BO1.set (v := .slice none 0 0) (j := 0) (by simp)).range
    simp only [List.set_cons_zero] at hWr
    have HE := Lib.hid (show catDo x m = (⟨[]⟩, ByteArray.empty) by unfold catDo; rw [if_pos HC.out])
    go_wp2
    refine bodyPost_ret (results_cell_tmp Tryz.results128 rfl hWr Tryz.underlying27 rfl sizeCat0) rfl ?_
    rw [HE.out]
    exact cat_fin (g := g) (p := g + 2) (f := []) RowO.nil List.nodup_nil (fun b hb => by cases hb) hg1 HG.out (by omega) l2
  have hcb := catOk_bd HC.out
  go_wp2_with fail
  have ex := copyCat_spec x A n c w1 hR1 hW
  unfold ctlV at ex
  refine ex.mono ?_
  rintro e w2 ⟨⟨A2, n2, c2, fp, rfl, RO, N2, F2⟩, hb2⟩
  clear ex
  have BX2 := BX1.keep hb2; have BM2 := BM1.keep hb2; have BO2 := BO1.keep hb2
  have m2 := m1.keep hb2
  have hg2 : Below g w w2 := hg1.trans (hb2.mono (show g ≤ w1.heap.size by omega))
  have hz12 := hb2.size
  have F3 : ∀ t ∈ fp, g + 2 < t ∧ t < w2.heap.size := fun t ht => by have := F2 t ht; omega
  clear BX1 BM1 BO1 hR1 m1 hg1 hb2 o0 of x0 l0 l1 l2 F2
  have al4 := (Below.refl w2.heap.size w2).alloc (Nat.le_refl _) (.cells #[.slice A2 n2 c2] 27)
  have BQ := BoxL.new w2 [.slice A2 n2 c2] 27
  have l0 := BX2.lt; have l1 := BM2.lt; have l2 := BO2.lt
  have u0 := BM2.cell 0 _ rfl; have u1 := BM2.cell 1 _ rfl; have u2 := BM2.cell 2 _ rfl; have u3 := BM2.cell 3 _ rfl; have u4 := BM2.cell 4 _ rfl; have u5 := BM2.cell 5 _ rfl; have u6 := BM2.cell 6 _ rfl; have u7 := BM2.cell 7 _ rfl
  go_wp2_with fail
  obtain ⟨V, hV⟩ : ∃ V, V = w2.alloc (.cells #[.slice A2 n2 c2] 27) := ⟨_, rfl⟩
  obtain ⟨q, hq⟩ : ∃ q, w2.heap.size = q := ⟨_, rfl⟩
  rw [← hV] at al4 BQ ⊢
  simp only [hq] at BQ l0 l1 l2 F3 hz12 ⊢
  have R3 := RO.keep cstK al4
  have BX3 := BX2.keep al4; have BM3 := BM2.keep al4; have BO3 := BO2.keep al4
  have m3 := m2.keep al4
  have hg3 : Below g w V := hg2.trans (al4.mono (show g ≤ w2.heap.size by omega))
  clear hV BX2 BM2 BO2 m2 RO hg2 al4 u0 u1 u2 u3 u4 u5 u6 u7 hz12
  have hmo := cmdOk_spec m A1 n1 c1 V m3 hmB
  unfold cmV at hmo
  refine hmo.mono ?_
  rintro e w3 ⟨rfl, hb3⟩
  clear hmo
  have hqV := BQ.lt
  have R4 := R3.keep cstK hb3
  have BM4 := BM3.keep hb3; have BO4 := BO3.keep hb3; have BQ4 := BQ.keep hb3
  have m4 := m3.keep hb3
  have hg4 : Below g w w3 := hg3.trans (hb3.mono (show g ≤ V.heap.size by omega))
  clear R3 BX3 BM3 BO3 BQ m3 hg3 hb3 hqV l0 l1 l2 hq
  have l1 := BM4.lt; have l2 := BO4.lt; have lq := BQ4.lt
  have o0 := BO4.cell 0 _ rfl; have of := BO4.fz 0 (by simp)
  have q0 := BQ4.cell 0 _ rfl
  have y0 := BM4.cell 0 _ rfl; have y3 := BM4.cell 3 _ rfl
  have F4 : ∀ b ∈ fp, g ≤ b ∧ b ≠ g + 2 := fun b hb => by have := F3 b hb; omega
  have hn2 : n2 ≤ 5 := by have := R4.len; have := hcb.1; omega
  have hWr := (BO4.set (v := .slice A2 n2 c2) (j := 0) (by simp)).range
  simp only [List.set_cons_zero] at hWr
  obtain ⟨q1, hq1⟩ : ∃ k, cmOkB m = k := ⟨_, rfl⟩
  have HM := Lib.hid hq1
  rw [hq1]
  clear hq1
  cases q1
  · have HE := Lib.hid (show catDo x m = (x, ByteArray.empty) by unfold catDo; rw [if_neg (by rw [HC.out]; simp), if_pos HM.out])
    go_wp2
    refine bodyPost_ret (results_cell_tmp Tryz.results128 rfl hWr Tryz.underlying27 rfl sizeCat0) rfl ?_
    rw [HE.out]
    exact cat_fin (g := g) (p := g + 2) R4 N2 F4 hg4 HG.out (by omega) l2
  have hmb := cmOk_bd HM.out
  by_cases k0 : m.kd = 0
  · have g0 : (m.kd == (0 : Int)) = true := beq_iff_eq.2 k0
    have HE := Lib.hid (show catDo x m = (x, ByteArray.empty) by unfold catDo; rw [if_neg (by rw [HC.out]; simp), if_neg (by rw [HM.out]; simp), if_pos k0])
    clear k0
    go_wp2
    refine bodyPost_ret (results_cell_tmp Tryz.results128 rfl hWr Tryz.underlying27 rfl sizeCat0) rfl ?_
    rw [HE.out]
    exact cat_fin (g := g) (p := g + 2) R4 N2 F4 hg4 HG.out (by omega) l2
  have g0 : (m.kd == (0 : Int)) = false := beq_eq_false_iff_ne.2 k0
  have K0 := Lib.hid k0; clear k0
  by_cases k1 : m.kd = 1
  · have g1 : (m.kd == (1 : Int)) = true := beq_iff_eq.2 k1
    have HE := Lib.hid (catDo_cr HC.out HM.out k1); clear k1
    clear hWr
    go_wp2_with fail
    have hcr := create_spec x m.s A2 n2 c2 fp w3 R4 N2 hn2 (g + 3) (by omega) (fun t ht => (F3 t ht).1)
    unfold ctlV at hcr
    refine hcr.mono ?_
    intro e w4 hout
    obtain ⟨E1, j1, k1, fc, rfl, RC, NC, FC, hb4⟩ := hout.out
    clear hcr hout
    have BO5 := BO4.below hb4 (by omega)
    have hz4 := hb4.size
    have hg5 : Below g w w4 := hg4.trans (hb4.mono (by omega))
    have hFC : ∀ b ∈ fc, g ≤ b ∧ b ≠ g + 2 := fun b hb => by have := FC b hb; omega
    have BOx := BO5.set (v := .slice E1 j1 k1) (j := 0) (by simp)
    simp only [List.set_cons_zero] at BOx
    have cs := Ch.set (w := w4) (g := g + 2) (o := 0) (v := .slice E1 j1 k1)
    have al5 := (Below.refl (w4.setCell ⟨g + 2, 0, none⟩ (.slice E1 j1 k1)).heap.size (w4.setCell ⟨g + 2, 0, none⟩ (.slice E1 j1 k1))).alloc (Nat.le_refl _) (.cells #[.slice E1 j1 k1] 27)
    have hWr := (BOx.keep al5).range
    clear o0 of q0 l1 l2 lq
    have o0 := BO5.cell 0 _ rfl; have of := BO5.fz 0 (by simp); have l2 := BO5.lt
    have HWR := Lib.hid hWr; have HAL := Lib.hid al5; have HCS := Lib.hid cs; clear hWr BOx al5 cs
    go_wp2
    refine bodyPost_ret (results_cell_tmp Tryz.results128 rfl HWR.out Tryz.underlying27 rfl sizeCat0) rfl ?_
    rw [HE.out]
    exact (cat_fin (g := g) (p := g + 2) RC NC hFC hg5 HG.out (by omega) l2).more HAL.out (by have := HCS.out.size; have := HG.out; omega)
  have g1 : (m.kd == (1 : Int)) = false := beq_eq_false_iff_ne.2 k1
  have K1 := Lib.hid k1; clear k1
  by_cases k7 : m.kd = 7
  · have g7 : (m.kd == (7 : Int)) = true := beq_iff_eq.2 k7
    have HE := Lib.hid (show catDo x m = (x, spTo (x.sets.map Cst.nm) x.sets.length) by
      unfold catDo; rw [if_neg (by rw [HC.out]; simp), if_neg (by rw [HM.out]; simp), if_neg K0.out, if_neg K1.out, if_pos k7])
    clear k7 hWr
    have HL := Lib.hid R4.len
    have hRR := R4.at_ cstK (by omega)
    have hsz : ∀ p ∈ x.sets, p.nm.size ≤ 100 := fun p hp => by have := (hcb.2 p hp).1; omega
    go_wp2_with fail
    obtain ⟨U, hU⟩ : ∃ U, U = w3 := ⟨_, rfl⟩
    subst hU
    go_loopw [9, 10] (fun s i wr => ∃ (k : Nat), k ≤ n2 ∧ i = .int .i64 k ∧ s = .string (spTo (x.sets.map Cst.nm) k) ∧ Below U.heap.size U wr) (fun _ i _ => n2 - (intOf i).toNat)
    case atStart => exact ⟨0, Nat.zero_le _, rfl, by unfold spTo; rfl, Below.refl _ _⟩
    case round =>
      obtain ⟨k, hk, rfl, rfl, hbr⟩ := hrel
      have q0r := keep_cell hbr q0
      have lqr := cell_lt q0r
      by_cases hlt : k < n2
      · have k1 := hRR.keep cstK hbr
        obtain ⟨b, off, rfl⟩ := k1.head (by omega)
        obtain ⟨bl, y, cs, hy, ⟨B1, m1, d1, rfl, _⟩, hcell⟩ := k1.elem_at hlt
        have f0 : wr.cell? ⟨b, off + k * 2, none⟩ = some (.string y.nm) := hcell 0 _ rfl
        have hsA := sAt_map Cst.nm hy
        have hsy := bounds_el hsz hy
        have hsp : spT.size = 1 := rfl
        have hss := spTo_size (sAt_size (l := x.sets) (f := Cst.nm) (m := 100) hsz) k
        clear hcell hy
        by_cases hk0 : k = 0
        · subst hk0
          have HS := Lib.hid (show spTo (x.sets.map Cst.nm) 1 = ByteArray.empty ++ y.nm by rw [spTo_one, hsA])
          have he : spTo (x.sets.map Cst.nm) 0 = ByteArray.empty := by unfold spTo; rfl
          rw [he]
          simp only [Nat.zero_mul, Nat.add_zero] at f0
          clear hsA
          go_wp2
          refine ⟨⟨1, by omega, by simp, by rw [HS.out]; try rfl, hbr⟩, by simp [intOf]; omega⟩
        · obtain ⟨k', rfl⟩ : ∃ k', k = k' + 1 := ⟨k - 1, by omega⟩
          have gd0 : decide (((k' + 1 : Nat) : Int) > 0) = true := by rw [decide_eq_true_eq]; omega
          have HS := Lib.hid (show spTo (x.sets.map Cst.nm) (k' + 1 + 1) = (spTo (x.sets.map Cst.nm) (k' + 1) ++ spT) ++ y.nm by rw [spTo_more, hsA])
          obtain ⟨z, hz⟩ : ∃ z, spTo (x.sets.map Cst.nm) (k' + 1) = z := ⟨_, rfl⟩
          rw [hz] at HS hss ⊢
          have ha0 : (z ++ spT).size ≤ 200000 := by rw [ByteArray.size_append]; omega
          clear hsA hk0 hz
          go_wp2
          refine ⟨⟨k' + 1 + 1, by omega, by go_num, by rw [HS.out]; try rfl, hbr⟩, by simp [intOf]; omega⟩
      · have hkn : k = x.sets.length := by have := HL.out; omega
        have HK := Lib.hid hkn; clear hkn
        have BO5 := BO4.keep hbr
        have R5 := R4.keep cstK hbr
        have hg5 := hg4.trans (hbr.mono (show g ≤ U.heap.size by omega))
        have hWr := (BO5.set (v := .slice A2 n2 c2) (j := 0) (by simp)).range
        simp only [List.set_cons_zero] at hWr
        have o05 := BO5.cell 0 _ rfl; have of5 := BO5.fz 0 (by simp); have l25 := BO5.lt
        go_wp2
        refine bodyPost_ret (results_cell_tmp Tryz.results128 rfl hWr Tryz.underlying27 rfl sizeCat0) rfl ?_
        rw [HE.out, ← HK.out]
        exact cat_fin (g := g) (p := g + 2) R5 N2 F4 hg5 HG.out (by omega) l25
  have g7 : (m.kd == (7 : Int)) = false := beq_eq_false_iff_ne.2 k7
  have K7 := Lib.hid k7; clear k7
  clear hWr
  have hfo := cstFnd_spec x m.s A2 n2 c2 w3 (R4.at_ cstK (by omega)) (by omega)
  unfold ctlV at hfo
  go_wp2_with fail
  refine hfo.mono ?_
  rintro e w4 ⟨rfl, hb4⟩
  clear hfo
  have R5 := R4.keep cstK hb4
  have BM5 := BM4.keep hb4; have BO5 := BO4.keep hb4; have BQ5 := BQ4.keep hb4
  have m5 := m4.keep hb4
  have hg5 : Below g w w4 := hg4.trans (hb4.mono (show g ≤ w3.heap.size by omega))
  clear R4 BM4 BO4 BQ4 m4 hg4 hb4 l1 l2 lq o0 of q0 y0 y3
  have l1 := BM5.lt; have l2 := BO5.lt; have lq := BQ5.lt
  have o0 := BO5.cell 0 _ rfl; have of := BO5.fz 0 (by simp)
  have q0 := BQ5.cell 0 _ rfl
  obtain ⟨t, ht⟩ : ∃ t, cstFnd x.sets 0 m.s = t := ⟨_, rfl⟩
  have T := Lib.hid ht
  simp only [ht]
  clear ht
  by_cases ht0 : t < 0
  · have gd : decide (t < 0) = true := decide_eq_true ht0
    have HE := Lib.hid (show catDo x m = (x, noT) by
      unfold catDo; rw [if_neg (by rw [HC.out]; simp), if_neg (by rw [HM.out]; simp), if_neg K0.out, if_neg K1.out, if_neg K7.out, if_pos (by rw [T.out]; exact ht0)])
    have hWr := (BO5.set (v := .slice A2 n2 c2) (j := 0) (by simp)).range
    simp only [List.set_cons_zero] at hWr
    go_wp2
    refine bodyPost_ret (results_cell_tmp Tryz.results128 rfl hWr Tryz.underlying27 rfl sizeCat0) rfl ?_
    rw [HE.out]
    exact cat_fin (g := g) (p := g + 2) R5 N2 F4 hg5 HG.out (by omega) l2
  have gd : decide (t < 0) = false := decide_eq_false ht0
  obtain ⟨k, rfl⟩ : ∃ k : Nat, t = (k : Int) := ⟨t.toNat, by omega⟩
  have hkn : k < n2 := by
    have h2 := R5.len
    rcases cstFnd_in m.s x.sets 0 with ⟨h1, _⟩ | ⟨j, hj, h1, _⟩
    · rw [T.out] at h1; omega
    · rw [T.out] at h1; omega
  have HE := Lib.hid (catDo_se HC.out HM.out K0.out K1.out K7.out T.out)
  have hn1 : n1 ≤ 1000 := by have h5 := m5.at_r; unfold StrsAt at h5; have h6 := h5.1; have := hmb.ch; omega
  have u0 := BM5.cell 0 _ rfl; have u1 := BM5.cell 1 _ rfl; have u2 := BM5.cell 2 _ rfl; have u3 := BM5.cell 3 _ rfl; have u4 := BM5.cell 4 _ rfl; have u5 := BM5.cell 5 _ rfl; have u6 := BM5.cell 6 _ rfl; have u7 := BM5.cell 7 _ rfl
  go_wp2_with fail
  have hse := set_spec x m k A2 n2 c2 fp A1 n1 c1 w4 R5 N2 hkn m5 hn1 (fun s hs => ⟨(hcb.2 s hs).2.1, fun p hp => by have := (hcb.2 s hs).2.2 p hp; omega⟩) (by omega) hmb.n.1 hmb.n.2 (g + 3) (by omega) (fun t ht => (F3 t ht).1)
  unfold ctlV cmV at hse
  refine hse.mono ?_
  intro e w6 hout
  obtain ⟨E1, j1, k1, fc, rfl, RC, NC, FC, hb6⟩ := hout.out
  clear hse hout u0 u1 u2 u3 u4 u5 u6 u7
  have BO6a := BO5.below hb6 (by omega)
  have hz4 := hb6.size
  have hg6a : Below g w w6 := hg5.trans (hb6.mono (by omega))
  have hFC : ∀ b ∈ fc, g ≤ b ∧ b ≠ g + 2 := fun b hb => by have := FC b hb; omega
  have BOx := BO6a.set (v := .slice E1 j1 k1) (j := 0) (by simp)
  simp only [List.set_cons_zero] at BOx
  have cs := Ch.set (w := w6) (g := g + 2) (o := 0) (v := .slice E1 j1 k1)
  have al5 := (Below.refl (w6.setCell ⟨g + 2, 0, none⟩ (.slice E1 j1 k1)).heap.size (w6.setCell ⟨g + 2, 0, none⟩ (.slice E1 j1 k1))).alloc (Nat.le_refl _) (.cells #[.slice E1 j1 k1] 27)
  have hWr := (BOx.keep al5).range
  clear o0 of q0 l1 l2 lq
  have o0 := BO6a.cell 0 _ rfl; have of := BO6a.fz 0 (by simp); have l2 := BO6a.lt
  have HWR := Lib.hid hWr; have HAL := Lib.hid al5; have HCS := Lib.hid cs; clear hWr BOx al5 cs
  go_wp2
  refine bodyPost_ret (results_cell_tmp Tryz.results128 rfl HWR.out Tryz.underlying27 rfl sizeCat0) rfl ?_
  rw [HE.out]
  exact (cat_fin (g := g) (p := g + 2) RC NC hFC hg6a HG.out (by omega) l2).more HAL.out (by have := HCS.out.size; have := HG.out; omega)
end Go.Proofs.YtdphdnllhmnelaaGreat
