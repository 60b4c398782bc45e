/- Contracts and lemmas: CatDoS, PutSai, StateDoS. -/
import Derived.Test.YtdphdnllhmnelaaGreatJ14
import Derived.Test.YtdphdnllhmnelaaGreatJ15
import Derived.Test.YtdphdnllhmnelaaGreatJ9
import Derived.Test.YtdphdnllhmnelaaGreatJ11
import Derived.Test.YtdphdnllhmnelaaGreatJ12
/- The reference's CatDo. -/
namespace Go.Proofs.YtdphdnllhmnelaaGreat
open Go.RowKit
attribute [local go_sem] Grow.cell Grow.frozen
theorem catDo_cr {x : Ctl} {m : Cm} (h1 : catOkB x = true) (h2 : cmOkB m = true) (h3 : m.kd = 1) : catDo x m = (⟨crL x.sets m.s⟩, crT x.sets m.s) := by
  unfold catDo
  rw [if_neg (by rw [h1]; simp), if_neg (by rw [h2]; simp), if_neg (by omega), if_pos h3]
  unfold crL crT
  by_cases h4 : 0 ≤ cstFnd x.sets 0 m.s
  · rw [if_pos h4, if_pos h4, if_pos h4]
  · rw [if_neg h4, if_neg h4, if_neg h4]
    by_cases h5 : x.sets.length = 5
    · rw [if_pos h5, if_pos h5, if_pos h5]
    · rw [if_neg h5, if_neg h5, if_neg h5]
theorem catDo_se {x : Ctl} {m : Cm} {k : Nat} (h1 : catOkB x = true) (h2 : cmOkB m = true) (h3 : ¬ m.kd = 0) (h4 : ¬ m.kd = 1) (h5 : ¬ m.kd = 7) (h6 : cstFnd x.sets 0 m.s = (k : Int)) : catDo x m = (⟨seL x.sets k m⟩, seT x.sets k m) := by
  unfold catDo
  rw [if_neg (by rw [h1]; simp), if_neg (by rw [h2]; simp), if_neg h3, if_neg h4, if_neg h5, if_neg (by omega), h6, Int.toNat_natCast]
  unfold seL seT
  by_cases h7 : m.kd = 2
  · rw [if_pos h7, if_pos h7, if_pos h7]
  · rw [if_neg h7, if_neg h7, if_neg h7]
/-- the answer laid into the result's block -/
theorem cat_fin {l : List Cst} {t : ByteArray} {w w5 : World} {A : Option Addr} {n c g p : Nat} {f : List Nat} {v : Value} (R : RowO cstF 165 2 f w5 A n c l) (hN : f.Nodup) (hF : ∀ b ∈ f, g ≤ b ∧ b ≠ p) (hb : Below g w w5) (hg : w.heap.size = g) (hp : g ≤ p) (hp5 : p < w5.heap.size) :
    CatOut l t w.heap.size w (.returned (.tuple #[.agg #[.slice A n c], .string t])) (w5.setCell ⟨p, 0, none⟩ v) := by
  have hch := Ch.set (w := w5) (g := p) (o := 0) (v := v)
  subst hg
  exact CatOut.mk' (R.ch cstK hch (fun b hb => (hF b hb).2)) hN (fun b hb => (hF b hb).1) (hch.belowB hb (by omega) (fun k hk => by have hk : k = p := hk; omega))
theorem CatOut.out {l : List Cst} {t : ByteArray} {B : Nat} {w w' : World} {e : Ending} (h : CatOut l t B w e w') : ∃ A' n' c' fq', e = .returned (.tuple #[.agg #[.slice A' n' c'], .string t]) ∧ RowO cstF 165 2 fq' w' A' n' c' l ∧ fq'.Nodup ∧ (∀ t ∈ fq', B ≤ t) ∧ Below B w w' := h
theorem CatOut.more {l : List Cst} {t : ByteArray} {B : Nat} {w w' w'' : World} {e : Ending} (h : CatOut l t B w e w') (hb : Below w'.heap.size w' w'') (hB : B ≤ w'.heap.size) : CatOut l t B w e w'' := by
  obtain ⟨A', n', c', fq', h1, h2, h3, h4, h5⟩ := h
  exact ⟨A', n', c', fq', h1, h2.keep cstK hb, h3, h4, h5.trans (hb.mono hB)⟩
attribute [local irreducible] StrsAt StrR StrO RowR RowO cstFnd snpFnd sLt seL seT crL crT CatOut catOkB cmOkB catDo spTo
set_option maxRecDepth 8000 in
set_option maxHeartbeats 16000000 in
theorem catDo_spec (x : Ctl) (m : Cm) (A : Option Addr) (n c : Nat) (A1 : Option Addr) (n1 c1 : Nat) (w : World) (h : RowR cstR 2 w A n c x.sets) (hbd : CatBd x) (hm : StrR w A1 n1 c1 m.ch) (hmB : cmB m) :
    Calls Tryz.prog 128 #[ctlV x (.slice A n c), cmV m (.slice A1 n1 c1)] w (CatOut (catDo x m).1.sets (catDo x m).2 w.heap.size w) := by
  have hW := catBd_W hbd
  have hB := catBd_B hbd
  have hn : n ≤ 1000 := by have := hW.1; have := h.len; omega
  have al1 := (Below.refl w.heap.size w).alloc (Nat.le_refl _) (.cells #[.slice A n c] 27)
  have al2 := al1.alloc al1.size (.cells #[.int .i64 m.kd, .int .i64 m.cl, .int .i64 m.no, .string m.s, .string m.nm, .string m.tg, .int .i64 m.n, .slice A1 n1 c1] 48)
  have al3 := al2.alloc al2.size (.cells #[.slice none 0 0] 27)
  have BX := ((BoxL.new w [.slice A n c] 27).keep ((Below.refl _ _).alloc (Nat.le_refl _) (.cells #[.int .i64 m.kd, .int .i64 m.cl, .int .i64 m.no, .string m.s, .string m.nm, .string m.tg, .int .i64 m.n, .slice A1 n1 c1] 48))).keep ((Below.refl _ _).alloc (Nat.le_refl _) (.cells #[.slice none 0 0] 27))
  have BM := (BoxL.new (w.alloc (.cells #[.slice A n c] 27)) [.int .i64 m.kd, .int .i64 m.cl, .int .i64 m.no, .string m.s, .string m.nm, .string m.tg, .int .i64 m.n, .slice A1 n1 c1] 48).keep ((Below.refl _ _).alloc (Nat.le_refl _) (.cells #[.slice none 0 0] 27))
  have BO := BoxL.new ((w.alloc (.cells #[.slice A n c] 27)).alloc (.cells #[.int .i64 m.kd, .int .i64 m.cl, .int .i64 m.no, .string m.s, .string m.nm, .string m.tg, .int .i64 m.n, .slice A1 n1 c1] 48)) [.slice none 0 0] 27
  have hz1 : (w.alloc (.cells #[.slice A n c] 27)).heap.size = w.heap.size + 1 := Array.size_push _
  have hz2 : ((w.alloc (.cells #[.slice A n c] 27)).alloc (.cells #[.int .i64 m.kd, .int .i64 m.cl, .int .i64 m.no, .string m.s, .string m.nm, .string m.tg, .int .i64 m.n, .slice A1 n1 c1] 48)).heap.size = w.heap.size + 2 := (Array.size_push _).trans (by rw [hz1])
  unfold ctlV cmV
  go_enter Tryz.func128, Tryz.ntmps128
  go_wp2_with fail
  obtain ⟨W, hWW⟩ : ∃ W, W = (((w.alloc (.cells #[.slice A n c] 27)).alloc (.cells #[.int .i64 m.kd, .int .i64 m.cl, .int .i64 m.no, .string m.s, .string m.nm, .string m.tg, .int .i64 m.n, .slice A1 n1 c1] 48)).alloc (.cells #[.slice none 0 0] 27)) := ⟨_, rfl⟩
  obtain ⟨g, hg⟩ : ∃ g, w.heap.size = g := ⟨_, rfl⟩
  rw [hz1] at BM
  rw [hz2] at BO
  have HG := Lib.hid hg
  rw [← hWW] at al3 BX BM BO ⊢
  simp only [hg] at BX BM BO ⊢
  clear hWW hg al1 al2 hz1 hz2
  have hR := h.keep cstK al3
  have mW := hm.keep al3
  have hco := catOk_spec x A n c W hR hB
  unfold ctlV at hco
  refine hco.mono ?_
  rintro e w1 ⟨rfl, hb1⟩
  clear hco
  have BX1 := BX.keep hb1; have BM1 := BM.keep hb1; have BO1 := BO.keep hb1
  have hR1 := hR.keep cstK hb1; have m1 := mW.keep hb1
  have hg1 : Below g w w1 := by have := bthen al3 hb1; rw [HG.out] at this; exact this
  clear BX BM BO hR mW al3 hb1
  have o0 := BO1.cell 0 _ rfl
  have of := BO1.fz 0 (by simp)
  have x0 := BX1.cell 0 _ rfl
  have l0 := BX1.lt
  have l1 := BM1.lt
  have l2 := BO1.lt
  obtain ⟨q1, hq1⟩ : ∃ k, catOkB x = k := ⟨_, rfl⟩
  have HC := Lib.hid hq1
  rw [hq1]
  clear hq1
  cases q1
  · have hWr := (BO1.set (v := .slice none 0 0) (j := 0) (by simp)).range
    simp only [List.set_cons_zero] at hWr
    have HE := Lib.hid (show catDo x m = (⟨[]⟩, ByteArray.empty) by unfold catDo; rw [if_pos HC.out])
    go_wp2
    refine bodyPost_ret (results_cell_tmp Tryz.results128 rfl hWr Tryz.underlying27 rfl sizeCat0) rfl ?_
    rw [HE.out]
    exact cat_fin (g := g) (p := g + 2) (f := []) RowO.nil List.nodup_nil (fun b hb => by cases hb) hg1 HG.out (by omega) l2
  have hcb := catOk_bd HC.out
  go_wp2_with fail
  have ex := copyCat_spec x A n c w1 hR1 hW
  unfold ctlV at ex
  refine ex.mono ?_
  rintro e w2 ⟨⟨A2, n2, c2, fp, rfl, RO, N2, F2⟩, hb2⟩
  clear ex
  have BX2 := BX1.keep hb2; have BM2 := BM1.keep hb2; have BO2 := BO1.keep hb2
  have m2 := m1.keep hb2
  have hg2 : Below g w w2 := hg1.trans (hb2.mono (show g ≤ w1.heap.size by omega))
  have hz12 := hb2.size
  have F3 : ∀ t ∈ fp, g + 2 < t ∧ t < w2.heap.size := fun t ht => by have := F2 t ht; omega
  clear BX1 BM1 BO1 hR1 m1 hg1 hb2 o0 of x0 l0 l1 l2 F2
  have al4 := (Below.refl w2.heap.size w2).alloc (Nat.le_refl _) (.cells #[.slice A2 n2 c2] 27)
  have BQ := BoxL.new w2 [.slice A2 n2 c2] 27
  have l0 := BX2.lt; have l1 := BM2.lt; have l2 := BO2.lt
  have u0 := BM2.cell 0 _ rfl; have u1 := BM2.cell 1 _ rfl; have u2 := BM2.cell 2 _ rfl; have u3 := BM2.cell 3 _ rfl; have u4 := BM2.cell 4 _ rfl; have u5 := BM2.cell 5 _ rfl; have u6 := BM2.cell 6 _ rfl; have u7 := BM2.cell 7 _ rfl
  go_wp2_with fail
  obtain ⟨V, hV⟩ : ∃ V, V = w2.alloc (.cells #[.slice A2 n2 c2] 27) := ⟨_, rfl⟩
  obtain ⟨q, hq⟩ : ∃ q, w2.heap.size = q := ⟨_, rfl⟩
  rw [← hV] at al4 BQ ⊢
  simp only [hq] at BQ l0 l1 l2 F3 hz12 ⊢
  have R3 := RO.keep cstK al4
  have BX3 := BX2.keep al4; have BM3 := BM2.keep al4; have BO3 := BO2.keep al4
  have m3 := m2.keep al4
  have hg3 : Below g w V := hg2.trans (al4.mono (show g ≤ w2.heap.size by omega))
  clear hV BX2 BM2 BO2 m2 RO hg2 al4 u0 u1 u2 u3 u4 u5 u6 u7 hz12
  have hmo := cmdOk_spec m A1 n1 c1 V m3 hmB
  unfold cmV at hmo
  refine hmo.mono ?_
  rintro e w3 ⟨rfl, hb3⟩
  clear hmo
  have hqV := BQ.lt
  have R4 := R3.keep cstK hb3
  have BM4 := BM3.keep hb3; have BO4 := BO3.keep hb3; have BQ4 := BQ.keep hb3
  have m4 := m3.keep hb3
  have hg4 : Below g w w3 := hg3.trans (hb3.mono (show g ≤ V.heap.size by omega))
  clear R3 BX3 BM3 BO3 BQ m3 hg3 hb3 hqV l0 l1 l2 hq
  have l1 := BM4.lt; have l2 := BO4.lt; have lq := BQ4.lt
  have o0 := BO4.cell 0 _ rfl; have of := BO4.fz 0 (by simp)
  have q0 := BQ4.cell 0 _ rfl
  have y0 := BM4.cell 0 _ rfl; have y3 := BM4.cell 3 _ rfl
  have F4 : ∀ b ∈ fp, g ≤ b ∧ b ≠ g + 2 := fun b hb => by have := F3 b hb; omega
  have hn2 : n2 ≤ 5 := by have := R4.len; have := hcb.1; omega
  have hWr := (BO4.set (v := .slice A2 n2 c2) (j := 0) (by simp)).range
  simp only [List.set_cons_zero] at hWr
  obtain ⟨q1, hq1⟩ : ∃ k, cmOkB m = k := ⟨_, rfl⟩
  have HM := Lib.hid hq1
  rw [hq1]
  clear hq1
  cases q1
  · have HE := Lib.hid (show catDo x m = (x, ByteArray.empty) by unfold catDo; rw [if_neg (by rw [HC.out]; simp), if_pos HM.out])
    go_wp2
    refine bodyPost_ret (results_cell_tmp Tryz.results128 rfl hWr Tryz.underlying27 rfl sizeCat0) rfl ?_
    rw [HE.out]
    exact cat_fin (g := g) (p := g + 2) R4 N2 F4 hg4 HG.out (by omega) l2
  have hmb := cmOk_bd HM.out
  by_cases k0 : m.kd = 0
  · have g0 : (m.kd == (0 : Int)) = true := beq_iff_eq.2 k0
    have HE := Lib.hid (show catDo x m = (x, ByteArray.empty) by unfold catDo; rw [if_neg (by rw [HC.out]; simp), if_neg (by rw [HM.out]; simp), if_pos k0])
    clear k0
    go_wp2
    refine bodyPost_ret (results_cell_tmp Tryz.results128 rfl hWr Tryz.underlying27 rfl sizeCat0) rfl ?_
    rw [HE.out]
    exact cat_fin (g := g) (p := g + 2) R4 N2 F4 hg4 HG.out (by omega) l2
  have g0 : (m.kd == (0 : Int)) = false := beq_eq_false_iff_ne.2 k0
  have K0 := Lib.hid k0; clear k0
  by_cases k1 : m.kd = 1
  · have g1 : (m.kd == (1 : Int)) = true := beq_iff_eq.2 k1
    have HE := Lib.hid (catDo_cr HC.out HM.out k1); clear k1
    clear hWr
    go_wp2_with fail
    have hcr := create_spec x m.s A2 n2 c2 fp w3 R4 N2 hn2 (g + 3) (by omega) (fun t ht => (F3 t ht).1)
    unfold ctlV at hcr
    refine hcr.mono ?_
    intro e w4 hout
    obtain ⟨E1, j1, k1, fc, rfl, RC, NC, FC, hb4⟩ := hout.out
    clear hcr hout
    have BO5 := BO4.below hb4 (by omega)
    have hz4 := hb4.size
    have hg5 : Below g w w4 := hg4.trans (hb4.mono (by omega))
    have hFC : ∀ b ∈ fc, g ≤ b ∧ b ≠ g + 2 := fun b hb => by have := FC b hb; omega
    have BOx := BO5.set (v := .slice E1 j1 k1) (j := 0) (by simp)
    simp only [List.set_cons_zero] at BOx
    have cs := Ch.set (w := w4) (g := g + 2) (o := 0) (v := .slice E1 j1 k1)
    have al5 := (Below.refl (w4.setCell ⟨g + 2, 0, none⟩ (.slice E1 j1 k1)).heap.size (w4.setCell ⟨g + 2, 0, none⟩ (.slice E1 j1 k1))).alloc (Nat.le_refl _) (.cells #[.slice E1 j1 k1] 27)
    have hWr := (BOx.keep al5).range
    clear o0 of q0 l1 l2 lq
    have o0 := BO5.cell 0 _ rfl; have of := BO5.fz 0 (by simp); have l2 := BO5.lt
    have HWR := Lib.hid hWr; have HAL := Lib.hid al5; have HCS := Lib.hid cs; clear hWr BOx al5 cs
    go_wp2
    refine bodyPost_ret (results_cell_tmp Tryz.results128 rfl HWR.out Tryz.underlying27 rfl sizeCat0) rfl ?_
    rw [HE.out]
    exact (cat_fin (g := g) (p := g + 2) RC NC hFC hg5 HG.out (by omega) l2).more HAL.out (by have := HCS.out.size; have := HG.out; omega)
  have g1 : (m.kd == (1 : Int)) = false := beq_eq_false_iff_ne.2 k1
  have K1 := Lib.hid k1; clear k1
  by_cases k7 : m.kd = 7
  · have g7 : (m.kd == (7 : Int)) = true := beq_iff_eq.2 k7
    have HE := Lib.hid (show catDo x m = (x, spTo (x.sets.map Cst.nm) x.sets.length) by
      unfold catDo; rw [if_neg (by rw [HC.out]; simp), if_neg (by rw [HM.out]; simp), if_neg K0.out, if_neg K1.out, if_pos k7])
    clear k7 hWr
    have HL := Lib.hid R4.len
    have hRR := R4.at_ cstK (by omega)
    have hsz : ∀ p ∈ x.sets, p.nm.size ≤ 100 := fun p hp => by have := (hcb.2 p hp).1; omega
    go_wp2_with fail
    obtain ⟨U, hU⟩ : ∃ U, U = w3 := ⟨_, rfl⟩
    subst hU
    go_loopw [9, 10] (fun s i wr => ∃ (k : Nat), k ≤ n2 ∧ i = .int .i64 k ∧ s = .string (spTo (x.sets.map Cst.nm) k) ∧ Below U.heap.size U wr) (fun _ i _ => n2 - (intOf i).toNat)
    case atStart => exact ⟨0, Nat.zero_le _, rfl, by unfold spTo; rfl, Below.refl _ _⟩
    case round =>
      obtain ⟨k, hk, rfl, rfl, hbr⟩ := hrel
      have q0r := keep_cell hbr q0
      have lqr := cell_lt q0r
      by_cases hlt : k < n2
      · have k1 := hRR.keep cstK hbr
        obtain ⟨b, off, rfl⟩ := k1.head (by omega)
        obtain ⟨bl, y, cs, hy, ⟨B1, m1, d1, rfl, _⟩, hcell⟩ := k1.elem_at hlt
        have f0 : wr.cell? ⟨b, off + k * 2, none⟩ = some (.string y.nm) := hcell 0 _ rfl
        have hsA := sAt_map Cst.nm hy
        have hsy := bounds_el hsz hy
        have hsp : spT.size = 1 := rfl
        have hss := spTo_size (sAt_size (l := x.sets) (f := Cst.nm) (m := 100) hsz) k
        clear hcell hy
        by_cases hk0 : k = 0
        · subst hk0
          have HS := Lib.hid (show spTo (x.sets.map Cst.nm) 1 = ByteArray.empty ++ y.nm by rw [spTo_one, hsA])
          have he : spTo (x.sets.map Cst.nm) 0 = ByteArray.empty := by unfold spTo; rfl
          rw [he]
          simp only [Nat.zero_mul, Nat.add_zero] at f0
          clear hsA
          go_wp2
          refine ⟨⟨1, by omega, by simp, by rw [HS.out]; try rfl, hbr⟩, by simp [intOf]; omega⟩
        · obtain ⟨k', rfl⟩ : ∃ k', k = k' + 1 := ⟨k - 1, by omega⟩
          have gd0 : decide (((k' + 1 : Nat) : Int) > 0) = true := by rw [decide_eq_true_eq]; omega
          have HS := Lib.hid (show spTo (x.sets.map Cst.nm) (k' + 1 + 1) = (spTo (x.sets.map Cst.nm) (k' + 1) ++ spT) ++ y.nm by rw [spTo_more, hsA])
          obtain ⟨z, hz⟩ : ∃ z, spTo (x.sets.map Cst.nm) (k' + 1) = z := ⟨_, rfl⟩
          rw [hz] at HS hss ⊢
          have ha0 : (z ++ spT).size ≤ 200000 := by rw [ByteArray.size_append]; omega
          clear hsA hk0 hz
          go_wp2
          refine ⟨⟨k' + 1 + 1, by omega, by go_num, by rw [HS.out]; try rfl, hbr⟩, by simp [intOf]; omega⟩
      · have hkn : k = x.sets.length := by have := HL.out; omega
        have HK := Lib.hid hkn; clear hkn
        have BO5 := BO4.keep hbr
        have R5 := R4.keep cstK hbr
        have hg5 := hg4.trans (hbr.mono (show g ≤ U.heap.size by omega))
        have hWr := (BO5.set (v := .slice A2 n2 c2) (j := 0) (by simp)).range
        simp only [List.set_cons_zero] at hWr
        have o05 := BO5.cell 0 _ rfl; have of5 := BO5.fz 0 (by simp); have l25 := BO5.lt
        go_wp2
        refine bodyPost_ret (results_cell_tmp Tryz.results128 rfl hWr Tryz.underlying27 rfl sizeCat0) rfl ?_
        rw [HE.out, ← HK.out]
        exact cat_fin (g := g) (p := g + 2) R5 N2 F4 hg5 HG.out (by omega) l25
  have g7 : (m.kd == (7 : Int)) = false := beq_eq_false_iff_ne.2 k7
  have K7 := Lib.hid k7; clear k7
  clear hWr
  have hfo := cstFnd_spec x m.s A2 n2 c2 w3 (R4.at_ cstK (by omega)) (by omega)
  unfold ctlV at hfo
  go_wp2_with fail
  refine hfo.mono ?_
  rintro e w4 ⟨rfl, hb4⟩
  clear hfo
  have R5 := R4.keep cstK hb4
  have BM5 := BM4.keep hb4; have BO5 := BO4.keep hb4; have BQ5 := BQ4.keep hb4
  have m5 := m4.keep hb4
  have hg5 : Below g w w4 := hg4.trans (hb4.mono (show g ≤ w3.heap.size by omega))
  clear R4 BM4 BO4 BQ4 m4 hg4 hb4 l1 l2 lq o0 of q0 y0 y3
  have l1 := BM5.lt; have l2 := BO5.lt; have lq := BQ5.lt
  have o0 := BO5.cell 0 _ rfl; have of := BO5.fz 0 (by simp)
  have q0 := BQ5.cell 0 _ rfl
  obtain ⟨t, ht⟩ : ∃ t, cstFnd x.sets 0 m.s = t := ⟨_, rfl⟩
  have T := Lib.hid ht
  simp only [ht]
  clear ht
  by_cases ht0 : t < 0
  · have gd : decide (t < 0) = true := decide_eq_true ht0
    have HE := Lib.hid (show catDo x m = (x, noT) by
      unfold catDo; rw [if_neg (by rw [HC.out]; simp), if_neg (by rw [HM.out]; simp), if_neg K0.out, if_neg K1.out, if_neg K7.out, if_pos (by rw [T.out]; exact ht0)])
    have hWr := (BO5.set (v := .slice A2 n2 c2) (j := 0) (by simp)).range
    simp only [List.set_cons_zero] at hWr
    go_wp2
    refine bodyPost_ret (results_cell_tmp Tryz.results128 rfl hWr Tryz.underlying27 rfl sizeCat0) rfl ?_
    rw [HE.out]
    exact cat_fin (g := g) (p := g + 2) R5 N2 F4 hg5 HG.out (by omega) l2
  have gd : decide (t < 0) = false := decide_eq_false ht0
  obtain ⟨k, rfl⟩ : ∃ k : Nat, t = (k : Int) := ⟨t.toNat, by omega⟩
  have hkn : k < n2 := by
    have h2 := R5.len
    rcases cstFnd_in m.s x.sets 0 with ⟨h1, _⟩ | ⟨j, hj, h1, _⟩
    · rw [T.out] at h1; omega
    · rw [T.out] at h1; omega
  have HE := Lib.hid (catDo_se HC.out HM.out K0.out K1.out K7.out T.out)
  have hn1 : n1 ≤ 1000 := by have h5 := m5.at_r; unfold StrsAt at h5; have h6 := h5.1; have := hmb.ch; omega
  have u0 := BM5.cell 0 _ rfl; have u1 := BM5.cell 1 _ rfl; have u2 := BM5.cell 2 _ rfl; have u3 := BM5.cell 3 _ rfl; have u4 := BM5.cell 4 _ rfl; have u5 := BM5.cell 5 _ rfl; have u6 := BM5.cell 6 _ rfl; have u7 := BM5.cell 7 _ rfl
  go_wp2_with fail
  have hse := set_spec x m k A2 n2 c2 fp A1 n1 c1 w4 R5 N2 hkn m5 hn1 (fun s hs => ⟨(hcb.2 s hs).2.1, fun p hp => by have := (hcb.2 s hs).2.2 p hp; omega⟩) (by omega) hmb.n.1 hmb.n.2 (g + 3) (by omega) (fun t ht => (F3 t ht).1)
  unfold ctlV cmV at hse
  refine hse.mono ?_
  intro e w6 hout
  obtain ⟨E1, j1, k1, fc, rfl, RC, NC, FC, hb6⟩ := hout.out
  clear hse hout u0 u1 u2 u3 u4 u5 u6 u7
  have BO6a := BO5.below hb6 (by omega)
  have hz4 := hb6.size
  have hg6a : Below g w w6 := hg5.trans (hb6.mono (by omega))
  have hFC : ∀ b ∈ fc, g ≤ b ∧ b ≠ g + 2 := fun b hb => by have := FC b hb; omega
  have BOx := BO6a.set (v := .slice E1 j1 k1) (j := 0) (by simp)
  simp only [List.set_cons_zero] at BOx
  have cs := Ch.set (w := w6) (g := g + 2) (o := 0) (v := .slice E1 j1 k1)
  have al5 := (Below.refl (w6.setCell ⟨g + 2, 0, none⟩ (.slice E1 j1 k1)).heap.size (w6.setCell ⟨g + 2, 0, none⟩ (.slice E1 j1 k1))).alloc (Nat.le_refl _) (.cells #[.slice E1 j1 k1] 27)
  have hWr := (BOx.keep al5).range
  clear o0 of q0 l1 l2 lq
  have o0 := BO6a.cell 0 _ rfl; have of := BO6a.fz 0 (by simp); have l2 := BO6a.lt
  have HWR := Lib.hid hWr; have HAL := Lib.hid al5; have HCS := Lib.hid cs; clear hWr BOx al5 cs
  go_wp2
  refine bodyPost_ret (results_cell_tmp Tryz.results128 rfl HWR.out Tryz.underlying27 rfl sizeCat0) rfl ?_
  rw [HE.out]
  exact (cat_fin (g := g) (p := g + 2) RC NC hFC hg6a HG.out (by omega) l2).more HAL.out (by have := HCS.out.size; have := HG.out; omega)
end Go.Proofs.YtdphdnllhmnelaaGreat
/- The reference's l16Put. -/
namespace Go.Proofs.YtdphdnllhmnelaaGreat
open Go.RowKit
attribute [local go_sem] Grow.cell Grow.frozen
theorem sai_flat (l : List Sai) (x : Sai) : ((l ++ [x]).map saiL).flatten = (l.map saiL).flatten ++ [.int .i64 x.cl, .int .i64 x.no, .string x.tx] := by simp [saiL]
theorem sai_rowO {w : World} {n c : Nat} {A : Option Addr} {l : List Sai} (ho : w.ownsRow 0 114 3 (.slice A n c) n (l.map saiL).flatten) (hl : n = l.length) : RowO saiF 114 3 (blkL A) w A n c l :=
  saiO_of ho hl ⟨by simp, fun i x hx => ⟨saiL x, by simp [hx], rfl⟩⟩
theorem sai_one (l : List Sai) : ∀ v ∈ (l.map saiL).flatten, v.oneCell' = true := by
  intro v hv
  obtain ⟨cs, hc, hv⟩ := List.mem_flatten.1 hv
  obtain ⟨x, _, rfl⟩ := List.mem_map.1 hc
  simp only [saiL, List.mem_cons, List.not_mem_nil, or_false] at hv
  rcases hv with rfl | rfl | rfl <;> rfl
theorem blk_new {A A' : Option Addr} {n c n' c' m B : Nat} (h : (Value.slice A' n' c').ownBlock = (Value.slice A n c).ownBlock ∨ (Value.slice A' n' c').ownBlock = some m) (hA : ∀ b ∈ blkL A, B ≤ b) (hm : B ≤ m) : ∀ b ∈ blkL A', B ≤ b := fun b hb => by
  have h1 := blk_own (n := n') (c := c') (mem_blkL.1 hb)
  rcases h with h2 | h2
  · exact hA b (mem_blkL.2 (blk_of (h2.symm.trans h1)))
  · have := Option.some.inj (h1.symm.trans h2); omega
attribute [local irreducible] RowR putF
set_option maxRecDepth 8000 in
set_option maxHeartbeats 8000000 in
theorem put_spec (l : List Sai) (y : Sai) (A : Option Addr) (n c : Nat) (w : World) (h : RowR saiR 3 w A n c l) (hn : n ≤ 1000) :
    Calls Tryz.prog 129 #[.slice A n c, saiV y] w fun e w' => ∃ P m cp, e = .returned (.slice P m cp) ∧ RowO saiF 114 3 (blkL P) w' P m cp (putF l y false) ∧ (∀ b ∈ blkL P, w.heap.size ≤ b) ∧ Below w.heap.size w w' := by
  have HL := Lib.hid h.len
  have al1 := (Below.refl w.heap.size w).alloc (Nat.le_refl _) (.cells #[.int .i64 y.cl, .int .i64 y.no, .string y.tx] 114)
  have al2 := al1.alloc al1.size (.cells #[] 114)
  have hz1 : (w.alloc (.cells #[.int .i64 y.cl, .int .i64 y.no, .string y.tx] 114)).heap.size = w.heap.size + 1 := Array.size_push _
  have BX := (BoxL.new w [.int .i64 y.cl, .int .i64 y.no, .string y.tx] 114).keep ((Below.refl _ _).alloc (Nat.le_refl _) (.cells #[] 114))
  have own0 := own_empty (w.alloc (.cells #[.int .i64 y.cl, .int .i64 y.no, .string y.tx] 114)) 114 3 (base := 0) (Nat.zero_le _)
  unfold saiV
  go_enter Tryz.func129, Tryz.ntmps129
  go_wp2_with fail
  obtain ⟨W, hWW⟩ : ∃ W, W = (w.alloc (.cells #[.int .i64 y.cl, .int .i64 y.no, .string y.tx] 114)).alloc (.cells #[] 114) := ⟨_, rfl⟩
  obtain ⟨g, hg⟩ : ∃ g, w.heap.size = g := ⟨_, rfl⟩
  rw [hz1] at own0
  have HG := Lib.hid hg
  rw [← hWW] at al2 BX own0 ⊢
  simp only [hg] at BX own0 ⊢
  clear hWW hg al1 hz1
  have hgl := BX.lt
  go_loopw [5, 6, 7] (fun s p i wr => ∃ (k : Nat) (b : Bool) (P : Option Addr) (cp : Nat) (lO : List Sai), k ≤ n ∧ i = .int .i64 k ∧ p = .bool b ∧ s = .slice P lO.length cp ∧ lO.length ≤ 2 * k ∧ wr.ownsRow 0 114 3 (.slice P lO.length cp) lO.length (lO.map saiL).flatten ∧ (∀ x ∈ blkL P, g + 1 ≤ x) ∧
      putF l y false = lO ++ putF (l.drop k) y b ∧ BoxL wr g [.int .i64 y.cl, .int .i64 y.no, .string y.tx] ∧ Below w.heap.size w wr ∧ g + 1 ≤ wr.heap.size) (fun _ _ i _ => n - (intOf i).toNat)
  case atStart => exact ⟨0, false, _, _, [], Nat.zero_le _, rfl, rfl, rfl, Nat.le_refl _, own0, (fun x hx => by have h2 : x = g + 1 := (by simpa [blkL] using hx); omega), rfl, BX, al2, by omega⟩
  case round =>
    clear BX own0
    obtain ⟨k, b, P, cp, lO, hk, rfl, rfl, rfl, hlO, own1, hP, hpu, BX, hB, hgz⟩ := hrel
    have HI := Lib.hid hpu; clear hpu
    have HO := Lib.hid hlO
    have x0 := BX.cell 0 _ rfl; have x1 := BX.cell 1 _ rfl; have x2 := BX.cell 2 _ rfl; have xl := BX.lt
    by_cases hlt : k < n
    · have hR := h.keep saiK hB
      obtain ⟨qb, so, rfl⟩ := hR.head (by omega)
      obtain ⟨bl, s, hs, hcr⟩ := sai_el hR hlt
      have hqw := (sai_el h hlt).1
      have f0 : wr.cell? ⟨qb, so + k * 3, none⟩ = some (.int .i64 s.cl) := hcr 0 _ rfl
      have f1 : wr.cell? ⟨qb, so + k * 3 + 1, none⟩ = some (.int .i64 s.no) := hcr 1 _ rfl
      have f2 : wr.cell? ⟨qb, so + k * 3 + 2, none⟩ = some (.string s.tx) := hcr 2 _ rfl
      have HD := Lib.hid (putF_drop y b hs)
      have hlO3 : lO.length ≤ 2000 := by omega
      clear hs hcr hlO hR
      have w1e : ∃ w1, w1 = wr := ⟨_, rfl⟩
      obtain ⟨w1, hw1⟩ := Below.nam hB; subst hw1
      have BX1 := BX; have hB1 := hB; have hgz1 := hgz; have hPA := hP
      clear BX hB hgz hP
      obtain ⟨PA, hPAe⟩ : ∃ PA, PA = P := ⟨_, rfl⟩; subst hPAe
      obtain ⟨cpA, hcpe⟩ : ∃ cpA, cpA = cp := ⟨_, rfl⟩; subst hcpe
      cases b
      · by_cases hle : y.cl ≤ s.cl
        · have gd : decide (s.cl ≥ y.cl) = true := decide_eq_true hle
          go_wp2_with fail
          refine wp_region_grow (by kernel_rfl) (by kernel_rfl) ?_
          repeat (first | go_big_quiet_step (fail))
          refine wpQuiet_nil ?_
          intro _ hw'
          obtain ⟨⟨w2, hb2⟩, hw''⟩ := hw'
          change _ = w2 at hw''
          subst hw''
          obtain ⟨w2, hV⟩ := Below.nam hb2; subst hV
          have BX2 := BX1.keep hb2; have hB2 := bthen hB1 hb2; have own2 := own_chL own1 (Ch.of_below (S := fun _ => False) hb2) (fun _ _ h => h)
          have hgz2 := Nat.le_trans hgz1 hb2.size
          have f0_ := keep_cell hb2 f0; have f1_ := keep_cell hb2 f1; have f2_ := keep_cell hb2 f2
          clear x0 x1 x2 xl f0 f1 f2 bl
          have f0 := f0_; have f1 := f1_; have f2 := f2_; clear f0_ f1_ f2_
          have bl := cell_lt f0
          have x0 := BX2.cell 0 _ rfl; have x1 := BX2.cell 1 _ rfl; have x2 := BX2.cell 2 _ rfl; have xl := BX2.lt
          clear BX1 own1 hB1 hgz1 hb2
          go_wp2_with (first | (at_builtin; refine wpList_app1g (P := Tryz.prog) _ rfl (.tmp 27) (.tmp 29) 28 rfl 0 114 _ 3 32 Tryz.underlying28 saidInfo rfl (by omega) (.slice PA lO.length cpA) _ _ rfl own2 _ _ rfl (by simp) rfl (by simp [Value.oneCell']) (by unfold maxLen; omega) (by omega) (Nat.zero_le _) ?_; intro PB cpB w3 own3 hg3 hb3 hob3; refine stop_of ?_) | fail)
          unfold Stop
          have C3 : Ch (fun t => g + 1 ≤ t) w2 w3 := (Ch.of_grow hg3).mono (fun t ht => hPA t (mem_blkL.2 (blk_of ht)))
          have hPB := blk_new hob3 hPA (by omega)
          have BX3 := BX2.ch C3 (by omega)
          have hB3 : Below w.heap.size w w3 := C3.belowB hB2 hB2.size (fun t ht => by have ht : g + 1 ≤ t := ht; have := HG.out; omega)
          have hgz3 := Nat.le_trans hgz2 C3.size
          have f0_ := C3.cell f0 (by have := HG.out; omega); have f1_ := C3.cell f1 (by have := HG.out; omega); have f2_ := C3.cell f2 (by have := HG.out; omega)
          clear x0 x1 x2 xl f0 f1 f2 bl
          have f0 := f0_; have f1 := f1_; have f2 := f2_; clear f0_ f1_ f2_
          have bl := cell_lt f0
          have x0 := BX3.cell 0 _ rfl; have x1 := BX3.cell 1 _ rfl; have x2 := BX3.cell 2 _ rfl; have xl := BX3.lt
          clear BX2 hB2 hgz2 C3 hg3 hb3 hob3
          by_cases heq : s.cl = y.cl
          · have gn : (s.cl == y.cl) = true := beq_iff_eq.2 heq
            have gne : (s.cl != y.cl) = false := by simp [heq]
            have HJ := Lib.hid (show putF l y false = (lO ++ [y]) ++ putF (l.drop (k + 1)) y true by rw [HI.out, HD.out, if_pos (by simpa using hle), if_pos heq, decide_eq_true hle]; simp)
            clear hle heq
            go_wp2_with fail
            refine wp_region_grow (by kernel_rfl) (by kernel_rfl) ?_
            repeat (first | go_big_quiet_step (fail))
            refine wpQuiet_nil ?_
            intro _ hw'
            obtain ⟨⟨w4, hb4⟩, hw''⟩ := hw'
            change _ = w4 at hw''
            subst hw''
            obtain ⟨w4, hV⟩ := Below.nam hb4; subst hV
            have BX4 := BX3.keep hb4; have hB4 := bthen hB3 hb4; have own4 := own_chL own3 (Ch.of_below (S := fun _ => False) hb4) (fun _ _ h => h)
            have hgz4 := Nat.le_trans hgz3 hb4.size
            have f0_ := keep_cell hb4 f0; have f1_ := keep_cell hb4 f1; have f2_ := keep_cell hb4 f2
            clear x0 x1 x2 xl f0 f1 f2 bl
            have f0 := f0_; have f1 := f1_; have f2 := f2_; clear f0_ f1_ f2_
            have bl := cell_lt f0
            have x0 := BX4.cell 0 _ rfl; have x1 := BX4.cell 1 _ rfl; have x2 := BX4.cell 2 _ rfl; have xl := BX4.lt
            clear BX3 own3 hB3 hgz3 hb4
            have HX := Lib.hid (And.intro (And.intro BX4 hB4) (And.intro hgz4 hPB)); have HOW := Lib.hid own4; clear BX4 hB4 hgz4 hPB own4
            go_wp2
            exact ⟨⟨k + 1, true, PB, cpB, (lO ++ [y]), by omega, by go_num, (by first | rfl | trivial), (by first | rfl | trivial | simp), by have := HO.out; simp; omega, by have h5 := HOW.out; simpa [saiL] using h5, HX.out.2.2, HJ.out, HX.out.1.1, HX.out.1.2, HX.out.2.1⟩, by simp [intOf]; omega⟩
          · have gn : (s.cl == y.cl) = false := beq_eq_false_iff_ne.2 heq
            have gne : (s.cl != y.cl) = true := by simp [heq]
            have HJ := Lib.hid (show putF l y false = ((lO ++ [y]) ++ [s]) ++ putF (l.drop (k + 1)) y true by rw [HI.out, HD.out, if_pos (by simpa using hle), if_neg heq, decide_eq_true hle]; simp)
            clear hle heq
            go_wp2_with fail
            refine wp_region_grow (by kernel_rfl) (by kernel_rfl) ?_
            repeat (first | go_big_quiet_step (fail))
            refine wpQuiet_nil ?_
            intro _ hw'
            obtain ⟨⟨w4, hb4⟩, hw''⟩ := hw'
            change _ = w4 at hw''
            subst hw''
            obtain ⟨w4, hV⟩ := Below.nam hb4; subst hV
            have BX4 := BX3.keep hb4; have hB4 := bthen hB3 hb4; have own4 := own_chL own3 (Ch.of_below (S := fun _ => False) hb4) (fun _ _ h => h)
            have hgz4 := Nat.le_trans hgz3 hb4.size
            have f0_ := keep_cell hb4 f0; have f1_ := keep_cell hb4 f1; have f2_ := keep_cell hb4 f2
            clear x0 x1 x2 xl f0 f1 f2 bl
            have f0 := f0_; have f1 := f1_; have f2 := f2_; clear f0_ f1_ f2_
            have bl := cell_lt f0
            have x0 := BX4.cell 0 _ rfl; have x1 := BX4.cell 1 _ rfl; have x2 := BX4.cell 2 _ rfl; have xl := BX4.lt
            clear BX3 own3 hB3 hgz3 hb4
            go_wp2_with (first | (at_builtin; refine wpList_app1g (P := Tryz.prog) _ rfl (.tmp 39) (.tmp 44) 28 rfl 0 114 _ 3 32 Tryz.underlying28 saidInfo rfl (by omega) (.slice PB (lO.length + 1) cpB) _ _ rfl own4 _ _ rfl (by simp) rfl (by simp [Value.oneCell']) (by unfold maxLen; omega) (by omega) (Nat.zero_le _) ?_; intro PC cpC w5 own5 hg5 hb5 hob5; refine stop_of ?_) | fail)
            unfold Stop
            have C5 : Ch (fun t => g + 1 ≤ t) w4 w5 := (Ch.of_grow hg5).mono (fun t ht => hPB t (mem_blkL.2 (blk_of ht)))
            have hPC := blk_new hob5 hPB (by omega)
            have BX5 := BX4.ch C5 (by omega)
            have hB5 : Below w.heap.size w w5 := C5.belowB hB4 hB4.size (fun t ht => by have ht : g + 1 ≤ t := ht; have := HG.out; omega)
            have hgz5 := Nat.le_trans hgz4 C5.size
            have f0_ := C5.cell f0 (by have := HG.out; omega); have f1_ := C5.cell f1 (by have := HG.out; omega); have f2_ := C5.cell f2 (by have := HG.out; omega)
            clear x0 x1 x2 xl f0 f1 f2 bl
            have f0 := f0_; have f1 := f1_; have f2 := f2_; clear f0_ f1_ f2_
            have bl := cell_lt f0
            have x0 := BX5.cell 0 _ rfl; have x1 := BX5.cell 1 _ rfl; have x2 := BX5.cell 2 _ rfl; have xl := BX5.lt
            clear BX4 hB4 hgz4 C5 hg5 hb5 hob5
            have HX := Lib.hid (And.intro (And.intro BX5 hB5) (And.intro hgz5 hPC)); have HOW := Lib.hid own5; clear BX5 hB5 hgz5 hPC own5
            go_wp2
            exact ⟨⟨k + 1, true, PC, cpC, ((lO ++ [y]) ++ [s]), by omega, by go_num, (by first | rfl | trivial), (by first | rfl | trivial | simp), by have := HO.out; simp; omega, by have h5 := HOW.out; simpa [saiL] using h5, HX.out.2.2, HJ.out, HX.out.1.1, HX.out.1.2, HX.out.2.1⟩, by simp [intOf]; omega⟩
        · have gd : decide (s.cl ≥ y.cl) = false := decide_eq_false hle
          have hne : s.cl ≠ y.cl := by omega
          have gn : (s.cl == y.cl) = false := beq_eq_false_iff_ne.2 hne
          have gne : (s.cl != y.cl) = true := by simp [hne]
          have HJ := Lib.hid (show putF l y false = (lO ++ [s]) ++ putF (l.drop (k + 1)) y false by rw [HI.out, HD.out, if_neg (fun h => hle h.2), if_neg hne, decide_eq_false hle]; simp)
          clear hle hne
          go_wp2_with fail
          refine wp_region_grow (by kernel_rfl) (by kernel_rfl) ?_
          repeat (first | go_big_quiet_step (fail))
          refine wpQuiet_nil ?_
          intro _ hw'
          obtain ⟨⟨w2, hb2⟩, hw''⟩ := hw'
          change _ = w2 at hw''
          subst hw''
          obtain ⟨w2, hV⟩ := Below.nam hb2; subst hV
          have BX2 := BX1.keep hb2; have hB2 := bthen hB1 hb2; have own2 := own_chL own1 (Ch.of_below (S := fun _ => False) hb2) (fun _ _ h => h)
          have hgz2 := Nat.le_trans hgz1 hb2.size
          have f0_ := keep_cell hb2 f0; have f1_ := keep_cell hb2 f1; have f2_ := keep_cell hb2 f2
          clear x0 x1 x2 xl f0 f1 f2 bl
          have f0 := f0_; have f1 := f1_; have f2 := f2_; clear f0_ f1_ f2_
          have bl := cell_lt f0
          have x0 := BX2.cell 0 _ rfl; have x1 := BX2.cell 1 _ rfl; have x2 := BX2.cell 2 _ rfl; have xl := BX2.lt
          clear BX1 own1 hB1 hgz1 hb2
          go_wp2_with fail
          refine wp_region_grow (by kernel_rfl) (by kernel_rfl) ?_
          repeat (first | go_big_quiet_step (fail))
          refine wpQuiet_nil ?_
          intro _ hw'
          obtain ⟨⟨w3, hb3⟩, hw''⟩ := hw'
          change _ = w3 at hw''
          subst hw''
          obtain ⟨w3, hV⟩ := Below.nam hb3; subst hV
          have BX3 := BX2.keep hb3; have hB3 := bthen hB2 hb3; have own3 := own_chL own2 (Ch.of_below (S := fun _ => False) hb3) (fun _ _ h => h)
          have hgz3 := Nat.le_trans hgz2 hb3.size
          have f0_ := keep_cell hb3 f0; have f1_ := keep_cell hb3 f1; have f2_ := keep_cell hb3 f2
          clear x0 x1 x2 xl f0 f1 f2 bl
          have f0 := f0_; have f1 := f1_; have f2 := f2_; clear f0_ f1_ f2_
          have bl := cell_lt f0
          have x0 := BX3.cell 0 _ rfl; have x1 := BX3.cell 1 _ rfl; have x2 := BX3.cell 2 _ rfl; have xl := BX3.lt
          clear BX2 own2 hB2 hgz2 hb3
          go_wp2_with (first | (at_builtin; refine wpList_app1g (P := Tryz.prog) _ rfl (.tmp 39) (.tmp 44) 28 rfl 0 114 _ 3 32 Tryz.underlying28 saidInfo rfl (by omega) (.slice PA lO.length cpA) _ _ rfl own3 _ _ rfl (by simp) rfl (by simp [Value.oneCell']) (by unfold maxLen; omega) (by omega) (Nat.zero_le _) ?_; intro PC cpC w5 own5 hg5 hb5 hob5; refine stop_of ?_) | fail)
          unfold Stop
          have C5 : Ch (fun t => g + 1 ≤ t) w3 w5 := (Ch.of_grow hg5).mono (fun t ht => hPA t (mem_blkL.2 (blk_of ht)))
          have hPC := blk_new hob5 hPA (by omega)
          have BX5 := BX3.ch C5 (by omega)
          have hB5 : Below w.heap.size w w5 := C5.belowB hB3 hB3.size (fun t ht => by have ht : g + 1 ≤ t := ht; have := HG.out; omega)
          have hgz5 := Nat.le_trans hgz3 C5.size
          have f0_ := C5.cell f0 (by have := HG.out; omega); have f1_ := C5.cell f1 (by have := HG.out; omega); have f2_ := C5.cell f2 (by have := HG.out; omega)
          clear x0 x1 x2 xl f0 f1 f2 bl
          have f0 := f0_; have f1 := f1_; have f2 := f2_; clear f0_ f1_ f2_
          have bl := cell_lt f0
          have x0 := BX5.cell 0 _ rfl; have x1 := BX5.cell 1 _ rfl; have x2 := BX5.cell 2 _ rfl; have xl := BX5.lt
          clear BX3 hB3 hgz3 C5 hg5 hb5 hob5
          have HX := Lib.hid (And.intro (And.intro BX5 hB5) (And.intro hgz5 hPC)); have HOW := Lib.hid own5; clear BX5 hB5 hgz5 hPC own5
          go_wp2
          exact ⟨⟨k + 1, false, PC, cpC, (lO ++ [s]), by omega, by go_num, (by first | rfl | trivial), (by first | rfl | trivial | simp), by have := HO.out; simp; omega, by have h5 := HOW.out; simpa [saiL] using h5, HX.out.2.2, HJ.out, HX.out.1.1, HX.out.1.2, HX.out.2.1⟩, by simp [intOf]; omega⟩
      · by_cases heq : s.cl = y.cl
        · have gn : (s.cl == y.cl) = true := beq_iff_eq.2 heq
          have gne : (s.cl != y.cl) = false := by simp [heq]
          have HJ := Lib.hid (show putF l y false = lO ++ putF (l.drop (k + 1)) y true by rw [HI.out, HD.out, if_neg (by simp), if_pos heq]; simp)
          clear heq
          go_wp2_with fail
          refine wp_region_grow (by kernel_rfl) (by kernel_rfl) ?_
          repeat (first | go_big_quiet_step (fail))
          refine wpQuiet_nil ?_
          intro _ hw'
          obtain ⟨⟨w2, hb2⟩, hw''⟩ := hw'
          change _ = w2 at hw''
          subst hw''
          obtain ⟨w2, hV⟩ := Below.nam hb2; subst hV
          have BX2 := BX1.keep hb2; have hB2 := bthen hB1 hb2; have own2 := own_chL own1 (Ch.of_below (S := fun _ => False) hb2) (fun _ _ h => h)
          have hgz2 := Nat.le_trans hgz1 hb2.size
          have f0_ := keep_cell hb2 f0; have f1_ := keep_cell hb2 f1; have f2_ := keep_cell hb2 f2
          clear x0 x1 x2 xl f0 f1 f2 bl
          have f0 := f0_; have f1 := f1_; have f2 := f2_; clear f0_ f1_ f2_
          have bl := cell_lt f0
          have x0 := BX2.cell 0 _ rfl; have x1 := BX2.cell 1 _ rfl; have x2 := BX2.cell 2 _ rfl; have xl := BX2.lt
          clear BX1 own1 hB1 hgz1 hb2
          go_wp2_with fail
          refine wp_region_grow (by kernel_rfl) (by kernel_rfl) ?_
          repeat (first | go_big_quiet_step (fail))
          refine wpQuiet_nil ?_
          intro _ hw'
          obtain ⟨⟨w3, hb3⟩, hw''⟩ := hw'
          change _ = w3 at hw''
          subst hw''
          obtain ⟨w3, hV⟩ := Below.nam hb3; subst hV
          have BX3 := BX2.keep hb3; have hB3 := bthen hB2 hb3; have own3 := own_chL own2 (Ch.of_below (S := fun _ => False) hb3) (fun _ _ h => h)
          have hgz3 := Nat.le_trans hgz2 hb3.size
          have f0_ := keep_cell hb3 f0; have f1_ := keep_cell hb3 f1; have f2_ := keep_cell hb3 f2
          clear x0 x1 x2 xl f0 f1 f2 bl
          have f0 := f0_; have f1 := f1_; have f2 := f2_; clear f0_ f1_ f2_
          have bl := cell_lt f0
          have x0 := BX3.cell 0 _ rfl; have x1 := BX3.cell 1 _ rfl; have x2 := BX3.cell 2 _ rfl; have xl := BX3.lt
          clear BX2 own2 hB2 hgz2 hb3
          have HX := Lib.hid (And.intro (And.intro BX3 hB3) (And.intro hgz3 hPA)); have HOW := Lib.hid own3; clear BX3 hB3 hgz3 hPA own3
          go_wp2
          exact ⟨⟨k + 1, true, PA, cpA, lO, by omega, by go_num, (by first | rfl | trivial), (by first | rfl | trivial | simp), by have := HO.out; simp; omega, by have h5 := HOW.out; simpa [saiL] using h5, HX.out.2.2, HJ.out, HX.out.1.1, HX.out.1.2, HX.out.2.1⟩, by simp [intOf]; omega⟩
        · have gn : (s.cl == y.cl) = false := beq_eq_false_iff_ne.2 heq
          have gne : (s.cl != y.cl) = true := by simp [heq]
          have HJ := Lib.hid (show putF l y false = (lO ++ [s]) ++ putF (l.drop (k + 1)) y true by rw [HI.out, HD.out, if_neg (by simp), if_neg heq]; simp)
          clear heq
          go_wp2_with fail
          refine wp_region_grow (by kernel_rfl) (by kernel_rfl) ?_
          repeat (first | go_big_quiet_step (fail))
          refine wpQuiet_nil ?_
          intro _ hw'
          obtain ⟨⟨w2, hb2⟩, hw''⟩ := hw'
          change _ = w2 at hw''
          subst hw''
          obtain ⟨w2, hV⟩ := Below.nam hb2; subst hV
          have BX2 := BX1.keep hb2; have hB2 := bthen hB1 hb2; have own2 := own_chL own1 (Ch.of_below (S := fun _ => False) hb2) (fun _ _ h => h)
          have hgz2 := Nat.le_trans hgz1 hb2.size
          have f0_ := keep_cell hb2 f0; have f1_ := keep_cell hb2 f1; have f2_ := keep_cell hb2 f2
          clear x0 x1 x2 xl f0 f1 f2 bl
          have f0 := f0_; have f1 := f1_; have f2 := f2_; clear f0_ f1_ f2_
          have bl := cell_lt f0
          have x0 := BX2.cell 0 _ rfl; have x1 := BX2.cell 1 _ rfl; have x2 := BX2.cell 2 _ rfl; have xl := BX2.lt
          clear BX1 own1 hB1 hgz1 hb2
          go_wp2_with fail
          refine wp_region_grow (by kernel_rfl) (by kernel_rfl) ?_
          repeat (first | go_big_quiet_step (fail))
          refine wpQuiet_nil ?_
          intro _ hw'
          obtain ⟨⟨w3, hb3⟩, hw''⟩ := hw'
          change _ = w3 at hw''
          subst hw''
          obtain ⟨w3, hV⟩ := Below.nam hb3; subst hV
          have BX3 := BX2.keep hb3; have hB3 := bthen hB2 hb3; have own3 := own_chL own2 (Ch.of_below (S := fun _ => False) hb3) (fun _ _ h => h)
          have hgz3 := Nat.le_trans hgz2 hb3.size
          have f0_ := keep_cell hb3 f0; have f1_ := keep_cell hb3 f1; have f2_ := keep_cell hb3 f2
          clear x0 x1 x2 xl f0 f1 f2 bl
          have f0 := f0_; have f1 := f1_; have f2 := f2_; clear f0_ f1_ f2_
          have bl := cell_lt f0
          have x0 := BX3.cell 0 _ rfl; have x1 := BX3.cell 1 _ rfl; have x2 := BX3.cell 2 _ rfl; have xl := BX3.lt
          clear BX2 own2 hB2 hgz2 hb3
          go_wp2_with (first | (at_builtin; refine wpList_app1g (P := Tryz.prog) _ rfl (.tmp 39) (.tmp 44) 28 rfl 0 114 _ 3 32 Tryz.underlying28 saidInfo rfl (by omega) (.slice PA lO.length cpA) _ _ rfl own3 _ _ rfl (by simp) rfl (by simp [Value.oneCell']) (by unfold maxLen; omega) (by omega) (Nat.zero_le _) ?_; intro PC cpC w5 own5 hg5 hb5 hob5; refine stop_of ?_) | fail)
          unfold Stop
          have C5 : Ch (fun t => g + 1 ≤ t) w3 w5 := (Ch.of_grow hg5).mono (fun t ht => hPA t (mem_blkL.2 (blk_of ht)))
          have hPC := blk_new hob5 hPA (by omega)
          have BX5 := BX3.ch C5 (by omega)
          have hB5 : Below w.heap.size w w5 := C5.belowB hB3 hB3.size (fun t ht => by have ht : g + 1 ≤ t := ht; have := HG.out; omega)
          have hgz5 := Nat.le_trans hgz3 C5.size
          have f0_ := C5.cell f0 (by have := HG.out; omega); have f1_ := C5.cell f1 (by have := HG.out; omega); have f2_ := C5.cell f2 (by have := HG.out; omega)
          clear x0 x1 x2 xl f0 f1 f2 bl
          have f0 := f0_; have f1 := f1_; have f2 := f2_; clear f0_ f1_ f2_
          have bl := cell_lt f0
          have x0 := BX5.cell 0 _ rfl; have x1 := BX5.cell 1 _ rfl; have x2 := BX5.cell 2 _ rfl; have xl := BX5.lt
          clear BX3 hB3 hgz3 C5 hg5 hb5 hob5
          have HX := Lib.hid (And.intro (And.intro BX5 hB5) (And.intro hgz5 hPC)); have HOW := Lib.hid own5; clear BX5 hB5 hgz5 hPC own5
          go_wp2
          exact ⟨⟨k + 1, true, PC, cpC, (lO ++ [s]), by omega, by go_num, (by first | rfl | trivial), (by first | rfl | trivial | simp), by have := HO.out; simp; omega, by have h5 := HOW.out; simpa [saiL] using h5, HX.out.2.2, HJ.out, HX.out.1.1, HX.out.1.2, HX.out.2.1⟩, by simp [intOf]; omega⟩
    · have hkn : k = n := by omega
      subst hkn
      have he := putF_end (l := l) (k := k) y b (by have := HL.out; omega)
      have HI2 := Lib.hid (show putF l y false = lO ++ (if b then [] else [y]) by rw [HI.out, he])
      clear he
      have hlO3 : lO.length ≤ 2000 := by omega
      clear hlO
      cases b
      · go_wp2_with (first | (at_builtin; refine wpList_app1g (P := Tryz.prog) _ rfl (.tmp 48) (.tmp 50) 28 rfl 0 114 _ 3 32 Tryz.underlying28 saidInfo rfl (by omega) (.slice P lO.length cp) _ _ rfl own1 _ _ rfl (by simp) rfl (by simp [Value.oneCell']) (by unfold maxLen; omega) (by omega) (Nat.zero_le _) ?_; intro P3 cp3 w3 own3 hg3 hb3 hob3; refine stop_of ?_) | fail)
        unfold Stop
        have C3 : Ch (fun t => g + 1 ≤ t) wr w3 := (Ch.of_grow hg3).mono (fun t ht => hP t (mem_blkL.2 (blk_of ht)))
        have hP3 := blk_new hob3 hP (by omega)
        have hB3 : Below w.heap.size w w3 := C3.belowB hB hB.size (fun t ht => by have ht : g + 1 ≤ t := ht; have := HG.out; omega)
        have R3 := sai_rowO (l := lO ++ [y]) (by rw [sai_flat]; exact own3) (by simp)
        have HX := Lib.hid (And.intro hP3 hB3); clear hP3 hB3
        go_wp2
        go_returns
        rw [HI2.out]
        exact ⟨P3, _, cp3, rfl, by simpa using R3, fun t ht => by have := HX.out.1 t ht; have := HG.out; omega, HX.out.2⟩
      · have R3 := sai_rowO own1 rfl
        have HX := Lib.hid (And.intro hP hB); clear hP hB
        go_wp2
        go_returns
        rw [HI2.out]
        exact ⟨P, _, cp, rfl, by simpa using R3, fun t ht => by have := HX.out.1 t ht; have := HG.out; omega, HX.out.2⟩
end Go.Proofs.YtdphdnllhmnelaaGreat
/- The reference's StateDo. -/
namespace Go.Proofs.YtdphdnllhmnelaaGreat
open Go.RowKit
attribute [local go_sem] Grow.cell Grow.frozen
attribute [local irreducible] StrsAt StrR RowR RowO repS putF putS staOkB cmOkB StaOut CatOut catDo
set_option maxRecDepth 8000 in
set_option maxHeartbeats 16000000 in
theorem staDo_spec (x : Sta) (m : Cm) (A1 : Option Addr) (n1 c1 : Nat) (A2 : Option Addr) (n2 c2 : Nat) (A3 : Option Addr) (n3 c3 : Nat) (w : World) (h1 : RowR cstR 2 w A1 n1 c1 x.cat.sets) (h2 : RowR saiR 3 w A2 n2 c2 x.said) (hbd : StaBd x) (hm : StrR w A3 n3 c3 m.ch) (hmB : cmB m) :
    Calls Tryz.prog 79 #[staV x (.slice A1 n1 c1) (.slice A2 n2 c2), cmV m (.slice A3 n3 c3)] w (StaOut (stDo x m) w) := by
  have hn2 : n2 ≤ 1000 := by have := h2.len; have := hbd.2.1; omega
  have hW := catBd_W hbd.1
  have hB := catBd_B hbd.1
  have al1 := (Below.refl w.heap.size w).alloc (Nat.le_refl _) (.cells #[.slice A1 n1 c1, .slice A2 n2 c2] 30)
  have al2 := al1.alloc al1.size (.cells #[.int .i64 m.kd, .int .i64 m.cl, .int .i64 m.no, .string m.s, .string m.nm, .string m.tg, .int .i64 m.n, .slice A3 n3 c3] 48)
  have al3 := al2.alloc al2.size (.cells #[.slice none 0 0, .slice none 0 0] 30)
  have BX := ((BoxL.new w [.slice A1 n1 c1, .slice A2 n2 c2] 30).keep ((Below.refl _ _).alloc (Nat.le_refl _) (.cells #[.int .i64 m.kd, .int .i64 m.cl, .int .i64 m.no, .string m.s, .string m.nm, .string m.tg, .int .i64 m.n, .slice A3 n3 c3] 48))).keep ((Below.refl _ _).alloc (Nat.le_refl _) (.cells #[.slice none 0 0, .slice none 0 0] 30))
  have BM := (BoxL.new (w.alloc (.cells #[.slice A1 n1 c1, .slice A2 n2 c2] 30)) [.int .i64 m.kd, .int .i64 m.cl, .int .i64 m.no, .string m.s, .string m.nm, .string m.tg, .int .i64 m.n, .slice A3 n3 c3] 48).keep ((Below.refl _ _).alloc (Nat.le_refl _) (.cells #[.slice none 0 0, .slice none 0 0] 30))
  have BO := BoxL.new ((w.alloc (.cells #[.slice A1 n1 c1, .slice A2 n2 c2] 30)).alloc (.cells #[.int .i64 m.kd, .int .i64 m.cl, .int .i64 m.no, .string m.s, .string m.nm, .string m.tg, .int .i64 m.n, .slice A3 n3 c3] 48)) [.slice none 0 0, .slice none 0 0] 30
  have hz1 : (w.alloc (.cells #[.slice A1 n1 c1, .slice A2 n2 c2] 30)).heap.size = w.heap.size + 1 := Array.size_push _
  have hz2 : ((w.alloc (.cells #[.slice A1 n1 c1, .slice A2 n2 c2] 30)).alloc (.cells #[.int .i64 m.kd, .int .i64 m.cl, .int .i64 m.no, .string m.s, .string m.nm, .string m.tg, .int .i64 m.n, .slice A3 n3 c3] 48)).heap.size = w.heap.size + 2 := (Array.size_push _).trans (by rw [hz1])
  unfold staV cmV
  go_enter Tryz.func79, Tryz.ntmps79
  go_wp2_with fail
  obtain ⟨W, hWW⟩ : ∃ W, W = ((w.alloc (.cells #[.slice A1 n1 c1, .slice A2 n2 c2] 30)).alloc (.cells #[.int .i64 m.kd, .int .i64 m.cl, .int .i64 m.no, .string m.s, .string m.nm, .string m.tg, .int .i64 m.n, .slice A3 n3 c3] 48)).alloc (.cells #[.slice none 0 0, .slice none 0 0] 30) := ⟨_, rfl⟩
  obtain ⟨g, hg⟩ : ∃ g, w.heap.size = g := ⟨_, rfl⟩
  rw [hz1] at BM
  rw [hz2] at BO
  have HG := Lib.hid hg
  rw [← hWW] at al3 BX BM BO ⊢
  simp only [hg] at BX BM BO ⊢
  clear hWW hg al1 al2 hz1 hz2
  have hR := h1.keep cstK al3
  have hS := h2.keep saiK al3
  have mW := hm.keep al3
  have hgW := BO.lt
  have hco := staOk_spec x A1 n1 c1 A2 n2 c2 W hR hS hB hn2
  unfold staV at hco
  refine hco.mono ?_
  rintro e w1 ⟨rfl, hb1⟩
  clear hco
  have BX1 := BX.keep hb1; have BM1 := BM.keep hb1; have BO1 := BO.keep hb1
  have hR1 := hR.keep cstK hb1; have hS1 := hS.keep saiK hb1; have mW1 := mW.keep hb1
  have hg1 : Below g w w1 := by have h5 := bthen al3 hb1; rw [HG.out] at h5; exact h5
  clear BX BM BO hR hS mW al3 hb1
  have x0 := BX1.cell 0 _ rfl; have x1 := BX1.cell 1 _ rfl
  have o0 := BO1.cell 0 _ rfl; have o1 := BO1.cell 1 _ rfl; have of := BO1.fz 0 (by simp); have og := BO1.fz 1 (by simp)
  have l0 := BX1.lt; have l1 := BM1.lt; have l2 := BO1.lt
  obtain ⟨k, hk⟩ : ∃ k, staOkB x = k := ⟨_, rfl⟩
  have HC := Lib.hid hk
  rw [hk]
  clear hk
  cases k
  · have hWr := (BO1.setCells (vs := [.slice none 0 0, .slice none 0 0]) rfl).range
    go_wp2
    refine bodyPost_ret (results_cell_tmp Tryz.results79 rfl hWr Tryz.underlying30 rfl sizeState0) rfl ?_
    have e1 : stDo x m = (⟨⟨[]⟩, []⟩, ByteArray.empty) := by unfold stDo; rw [if_pos HC.out]
    rw [e1]
    exact sta_out (s := (⟨⟨[]⟩, []⟩, ByteArray.empty)) (g := g) (p := g + 2) (f1 := []) (f2 := []) RowO.nil RowO.nil List.nodup_nil (fun b hb => by cases hb) hg1 HG.out (by omega) l2
  have hos2 : saisOkB x.said = true := by have h5 := HC.out; unfold staOkB at h5; rw [Bool.and_eq_true] at h5; exact h5.1
  have HS2 := Lib.hid hos2; clear hos2
  go_wp2_with fail
  have ex := copySta_spec x A1 n1 c1 A2 n2 c2 w1 hR1 hS1 hW hn2
  unfold staV at ex
  refine ex.mono ?_
  rintro e w2 ⟨B1, m1, d1, B2, m2, d2, f1, f2, rfl, R1, R2, N, F, hb2⟩
  clear ex
  have hm2 : m2 ≤ 1000 := by have := R2.len; have := hbd.2.1; omega
  have BX2 := BX1.keep hb2; have BM2 := BM1.keep hb2; have BO2 := BO1.keep hb2
  have hR2 := hR1.keep cstK hb2; have hS2 := hS1.keep saiK hb2; have mW2 := mW1.keep hb2
  have hg2 : Below g w w2 := hg1.trans (hb2.mono (show g ≤ w1.heap.size by omega))
  have hz12 := hb2.size
  have F3 : ∀ t ∈ f1 ++ f2, g + 2 < t ∧ t < w2.heap.size := fun t ht => by have := F t ht; omega
  clear BX1 BM1 BO1 hR1 hS1 mW1 hg1 hb2 F x0 x1 o0 o1 of og l0 l1 l2
  have al4 := (Below.refl w2.heap.size w2).alloc (Nat.le_refl _) (.cells #[.slice B1 m1 d1, .slice B2 m2 d2] 30)
  have BQ := BoxL.new w2 [.slice B1 m1 d1, .slice B2 m2 d2] 30
  have l0 := BX2.lt; have l1 := BM2.lt; have l2 := BO2.lt
  have u0 := BM2.cell 0 _ rfl; have u1 := BM2.cell 1 _ rfl; have u2 := BM2.cell 2 _ rfl; have u3 := BM2.cell 3 _ rfl; have u4 := BM2.cell 4 _ rfl; have u5 := BM2.cell 5 _ rfl; have u6 := BM2.cell 6 _ rfl; have u7 := BM2.cell 7 _ rfl
  go_wp2_with fail
  obtain ⟨V, hV⟩ : ∃ V, V = w2.alloc (.cells #[.slice B1 m1 d1, .slice B2 m2 d2] 30) := ⟨_, rfl⟩
  obtain ⟨q, hq⟩ : ∃ q, w2.heap.size = q := ⟨_, rfl⟩
  rw [← hV] at al4 BQ ⊢
  simp only [hq] at BQ l0 l1 l2 F3 hz12 ⊢
  have hgq2 : g + 2 < q := l2
  have R1V := R1.keep cstK al4; have R2V := R2.keep saiK al4
  have BXV := BX2.keep al4; have BMV := BM2.keep al4; have BOV := BO2.keep al4
  have hRV := hR2.keep cstK al4; have hSV := hS2.keep saiK al4; have mV := mW2.keep al4
  have hgV : Below g w V := hg2.trans (al4.mono (show g ≤ w2.heap.size by omega))
  have hgq := BQ.lt
  clear hV hq BX2 BM2 BO2 hR2 hS2 mW2 R1 R2 hg2 al4 u0 u1 u2 u3 u4 u5 u6 u7
  have hmo := cmdOk_spec m A3 n3 c3 V mV hmB
  unfold cmV at hmo
  refine hmo.mono ?_
  rintro e w3 ⟨rfl, hb3⟩
  clear hmo
  have R13 := R1V.keep cstK hb3; have R23 := R2V.keep saiK hb3
  have BX3 := BXV.keep hb3; have BM3 := BMV.keep hb3; have BO3 := BOV.keep hb3; have BQ3 := BQ.keep hb3
  have hR3 := hRV.keep cstK hb3; have hS3 := hSV.keep saiK hb3; have m3 := mV.keep hb3
  have hg3 : Below g w w3 := hgV.trans (hb3.mono (show g ≤ V.heap.size by omega))
  have hgz3 : q < w3.heap.size := BQ3.lt
  clear R1V R2V BXV BMV BOV BQ hRV hSV mV hgV hb3 hgq l0 l1 l2
  have o0 := BO3.cell 0 _ rfl; have o1 := BO3.cell 1 _ rfl; have of := BO3.fz 0 (by simp); have og := BO3.fz 1 (by simp)
  have q0 := BQ3.cell 0 _ rfl; have q1 := BQ3.cell 1 _ rfl; have qf := BQ3.fz 0 (by simp); have qg := BQ3.fz 1 (by simp)
  have x0 := BX3.cell 0 _ rfl; have x1 := BX3.cell 1 _ rfl
  have y0 := BM3.cell 0 _ rfl; have y1 := BM3.cell 1 _ rfl; have y2 := BM3.cell 2 _ rfl
  have l0 := BX3.lt; have l1 := BM3.lt; have l2 := BO3.lt
  have hWr := (BO3.setCells (vs := [.slice B1 m1 d1, .slice B2 m2 d2]) rfl).range
  have F4 : ∀ b ∈ f1 ++ f2, g ≤ b ∧ b ≠ g + 2 := fun b hb => by have := F3 b hb; omega
  obtain ⟨k, hk⟩ : ∃ k, cmOkB m = k := ⟨_, rfl⟩
  have HM := Lib.hid hk
  rw [hk]
  clear hk
  cases k
  · go_wp2
    refine bodyPost_ret (results_cell_tmp Tryz.results79 rfl hWr Tryz.underlying30 rfl sizeState0) rfl ?_
    have e1 : stDo x m = (x, ByteArray.empty) := by unfold stDo; rw [if_neg (by rw [HC.out]; simp), if_pos HM.out]
    rw [e1]
    exact sta_out (s := (x, ByteArray.empty)) (g := g) (p := g + 2) R13 R23 N F4 hg3 HG.out (by omega) l2
  have hmb := cmOk_bd HM.out
  by_cases k0 : m.kd = 0
  · have g0 : (m.kd == (0 : Int)) = true := beq_iff_eq.2 k0
    have K0 := Lib.hid k0; clear k0
    go_wp2
    refine bodyPost_ret (results_cell_tmp Tryz.results79 rfl hWr Tryz.underlying30 rfl sizeState0) rfl ?_
    have e1 : stDo x m = (x, ByteArray.empty) := by unfold stDo; rw [if_neg (by rw [HC.out]; simp), if_neg (by rw [HM.out]; simp), if_pos K0.out]
    rw [e1]
    exact sta_out (s := (x, ByteArray.empty)) (g := g) (p := g + 2) R13 R23 N F4 hg3 HG.out (by omega) l2
  have g0 : (m.kd == (0 : Int)) = false := beq_eq_false_iff_ne.2 k0
  have K0 := Lib.hid k0; clear k0
  have HD := Lib.hid (show stDo x m = stGo x m by unfold stDo; rw [if_neg (by rw [HC.out]; simp), if_neg (by rw [HM.out]; simp), if_neg K0.out])
  clear hWr
  go_wp2_with fail
  clear y0
  have HL := Lib.hid hS3.len
  have U3 : ∃ U, U = w3 := ⟨_, rfl⟩
  obtain ⟨w3, hw3⟩ := U3; subst hw3
  go_loopw [7] (fun i wr => ∃ (k : Nat), k ≤ n2 ∧ i = .int .i64 k ∧ repS x.said m = repS (x.said.drop k) m ∧ Below w3.heap.size w3 wr) (fun i _ => n2 - (intOf i).toNat)
  case atStart => exact ⟨0, Nat.zero_le _, rfl, rfl, Below.refl _ _⟩
  case round =>
    obtain ⟨k, hk, rfl, hrp, hbr⟩ := hrel
    have HRP := Lib.hid hrp; clear hrp
    have HBR := Lib.hid hbr
    have R1r := R13.keep cstK hbr; have R2r := R23.keep saiK hbr
    have BXr := BX3.keep hbr; have BMr := BM3.keep hbr; have BOr := BO3.keep hbr; have BQr := BQ3.keep hbr
    have hRr := hR3.keep cstK hbr; have hSr := hS3.keep saiK hbr; have mr := m3.keep hbr
    have hgr : Below g w wr := hg3.trans (hbr.mono (show g ≤ w3.heap.size by omega))
    have hgzr : q < wr.heap.size := BQr.lt
    clear R13 R23 BX3 BM3 BO3 BQ3 hR3 hS3 m3 hg3 hgz3 l0 l1 l2 hbr o0 o1 of og q0 q1 qf qg x0 x1 y1 y2
    have o0 := BOr.cell 0 _ rfl; have o1 := BOr.cell 1 _ rfl; have of := BOr.fz 0 (by simp); have og := BOr.fz 1 (by simp)
    have q0 := BQr.cell 0 _ rfl; have q1 := BQr.cell 1 _ rfl; have x0 := BXr.cell 0 _ rfl; have x1 := BXr.cell 1 _ rfl
    have qf := BQr.fz 0 (by simp); have qg := BQr.fz 1 (by simp)
    have y1 := BMr.cell 1 _ rfl; have y2 := BMr.cell 2 _ rfl
    have l0 : g < wr.heap.size := by omega
    have l1 : g + 1 < wr.heap.size := by omega
    have l2 : g + 2 < wr.heap.size := by omega
    by_cases hlt : k < n2
    · have hki : (k : Int) < (n2 : Int) := by omega
      have hSr' := hSr
      obtain ⟨sb, so, rfl⟩ := hSr.head (by omega)
      have hsg : sb ≠ g + 2 := by have h5 := (sai_el h2 hlt).1; have := HG.out; omega
      obtain ⟨bl, y, hy, hcr⟩ := sai_el hSr hlt
      have ff0 : wr.cell? ⟨sb, so + k * 3, none⟩ = some (.int .i64 y.cl) := hcr 0 _ rfl
      have ff1 : wr.cell? ⟨sb, so + k * 3 + 1, none⟩ = some (.int .i64 y.no) := hcr 1 _ rfl
      have ff2 : wr.cell? ⟨sb, so + k * 3 + 2, none⟩ = some (.string y.tx) := hcr 2 _ rfl
      have HRD := Lib.hid (repS_drop m hy)
      clear hy hcr hSr'
      by_cases hcl : y.cl = m.cl
      · have g1 : (y.cl == m.cl) = true := beq_iff_eq.2 hcl
        have g1n : (y.cl != m.cl) = false := by simp [hcl]
        by_cases hno : y.no = m.no
        · have g2 : (y.no == m.no) = true := beq_iff_eq.2 hno
          have HN := Lib.hid (show repS x.said m = some y.tx by rw [HRP.out, HRD.out, if_neg (by simpa using hcl), if_pos hno])
          clear hcl hno
          go_wp2_with fail
          refine wp_region_grow (by kernel_rfl) (by kernel_rfl) ?_
          repeat (first | go_big_quiet_step (fail))
          refine wpQuiet_nil ?_
          intro _ hw'
          obtain ⟨⟨w5, hb5⟩, hw''⟩ := hw'
          change _ = w5 at hw''
          subst hw''
          obtain ⟨w5, hV⟩ := Below.nam hb5; subst hV
          have fk0_ := keep_cell hb5 ff0; clear ff0; have ff0 := fk0_; clear fk0_
          have fk1_ := keep_cell hb5 ff1; clear ff1; have ff1 := fk1_; clear fk1_
          have fk2_ := keep_cell hb5 ff2; clear ff2; have ff2 := fk2_; clear fk2_
          clear bl; have bl := cell_lt ff0
          have R15 := R1r.keep cstK hb5; have R25 := R2r.keep saiK hb5
          have BX5 := BXr.keep hb5; have BM5 := BMr.keep hb5; have BO5 := BOr.keep hb5; have BQ5 := BQr.keep hb5
          have hR5 := hRr.keep cstK hb5; have hS5 := hSr.keep saiK hb5; have m5 := mr.keep hb5
          have hg5 : Below g w w5 := hgr.trans (hb5.mono (show g ≤ wr.heap.size by omega))
          have hgz5 : q < w5.heap.size := BQ5.lt
          clear R1r R2r BXr BMr BOr BQr hRr hSr mr hgr hgzr l0 l1 l2 hb5 o0 o1 of og q0 q1 qf qg x0 x1 y1 y2
          have o0 := BO5.cell 0 _ rfl; have o1 := BO5.cell 1 _ rfl; have of := BO5.fz 0 (by simp); have og := BO5.fz 1 (by simp)
          have q0 := BQ5.cell 0 _ rfl; have q1 := BQ5.cell 1 _ rfl; have x0 := BX5.cell 0 _ rfl; have x1 := BX5.cell 1 _ rfl
          have qf := BQ5.fz 0 (by simp); have qg := BQ5.fz 1 (by simp)
          have y1 := BM5.cell 1 _ rfl; have y2 := BM5.cell 2 _ rfl
          have l0 : g < w5.heap.size := by omega
          have l1 : g + 1 < w5.heap.size := by omega
          have l2 : g + 2 < w5.heap.size := by omega
          go_wp2_with fail
          refine wp_region_grow (by kernel_rfl) (by kernel_rfl) ?_
          repeat (first | go_big_quiet_step (fail))
          refine wpQuiet_nil ?_
          intro _ hw'
          obtain ⟨⟨w6, hb6⟩, hw''⟩ := hw'
          change _ = w6 at hw''
          subst hw''
          obtain ⟨w6, hV⟩ := Below.nam hb6; subst hV
          have fk0_ := keep_cell hb6 ff0; clear ff0; have ff0 := fk0_; clear fk0_
          have fk1_ := keep_cell hb6 ff1; clear ff1; have ff1 := fk1_; clear fk1_
          have fk2_ := keep_cell hb6 ff2; clear ff2; have ff2 := fk2_; clear fk2_
          clear bl; have bl := cell_lt ff0
          have R16 := R15.keep cstK hb6; have R26 := R25.keep saiK hb6
          have BX6 := BX5.keep hb6; have BM6 := BM5.keep hb6; have BO6 := BO5.keep hb6; have BQ6 := BQ5.keep hb6
          have hR6 := hR5.keep cstK hb6; have hS6 := hS5.keep saiK hb6; have m6 := m5.keep hb6
          have hg6 : Below g w w6 := hg5.trans (hb6.mono (show g ≤ w5.heap.size by omega))
          have hgz6 : q < w6.heap.size := BQ6.lt
          clear R15 R25 BX5 BM5 BO5 BQ5 hR5 hS5 m5 hg5 hgz5 l0 l1 l2 hb6 o0 o1 of og q0 q1 qf qg x0 x1 y1 y2
          have o0 := BO6.cell 0 _ rfl; have o1 := BO6.cell 1 _ rfl; have of := BO6.fz 0 (by simp); have og := BO6.fz 1 (by simp)
          have q0 := BQ6.cell 0 _ rfl; have q1 := BQ6.cell 1 _ rfl; have x0 := BX6.cell 0 _ rfl; have x1 := BX6.cell 1 _ rfl
          have qf := BQ6.fz 0 (by simp); have qg := BQ6.fz 1 (by simp)
          have y1 := BM6.cell 1 _ rfl; have y2 := BM6.cell 2 _ rfl
          have l0 : g < w6.heap.size := by omega
          have l1 : g + 1 < w6.heap.size := by omega
          have l2 : g + 2 < w6.heap.size := by omega
          go_wp2_with fail
          refine wp_region_dagb [50, 51, 52, 53, 54, 55, 56, 5] (by kernel_rfl) (by kernel_rfl) (fun D vs w' => ∃ v50 v51 v52 v53 v54 v55 v56 v5 : Value, vs = [v50, v51, v52, v53, v54, v55, v56, v5] ∧ Ch (fun b => b = g + 2) w6 w' ∧ (D 7 = false → BoxL w' (g + 2) [.slice none 0 0, .slice none 0 0]) ∧ (D 0 = true → v50 = .agg #[.slice B1 m1 d1, .slice B2 m2 d2]) ∧ (D 1 = true → v51 = .pointer (some ⟨g, 1, none⟩)) ∧ (D 2 = true → v52 = .slice (some ⟨sb, so, none⟩) n2 c2) ∧ (D 3 = true → v53 = .int .i64 (k : Int)) ∧ (D 4 = true → v54 = .pointer (some ⟨sb, so + k * 3, none⟩)) ∧ (D 5 = true → v55 = .pointer (some ⟨sb, so + k * 3 + 2, none⟩)) ∧ (D 6 = true → v56 = .string y.tx) ∧ (D 7 = true → BoxL w' (g + 2) [.slice B1 m1 d1, .slice B2 m2 d2]) ∧ (D 8 = true → v5 = .string y.tx))
            ⟨_, _, _, _, _, _, _, _, rfl, (Ch.of_below (Below.refl _ _).drew), (fun _ => BO6.keep (Below.refl _ _).drew), (fun h => by cases h), (fun h => by cases h), (fun h => by cases h), (fun h => by cases h), (fun h => by cases h), (fun h => by cases h), (fun h => by cases h), (fun h => by cases h), (fun h => by cases h)⟩ ?_ ?_
          · intro i D vs w' hi hD hdep hcl hI
            have hi' : i < 9 := hi
            obtain ⟨v50, v51, v52, v53, v54, v55, v56, v5, rfl, hC, hO, k0, k1, k2, k3, k4, k5, k6, k7, k8⟩ := hI
            simp only [putAll, List.setIfInBounds_toArray, List.set_cons_succ, List.set_cons_zero]
            rcases (show i = 0 ∨ i = 1 ∨ i = 2 ∨ i = 3 ∨ i = 4 ∨ i = 5 ∨ i = 6 ∨ i = 7 ∨ i = 8 by omega) with rfl | rfl | rfl | rfl | rfl | rfl | rfl | rfl | rfl
            · have q7 := hC.cell q0 (by omega)
              have q8 := hC.cell q1 (by omega)
              refine wpOp_step (by simp only [List.getElem?_toArray, List.getElem?_cons_zero]; rfl) (fun K hK => ?_)
              go_simp
              refine hK _ _ ⟨[.agg #[.slice B1 m1 d1, .slice B2 m2 d2], v51, v52, v53, v54, v55, v56, v5], ?_, _, _, _, _, _, _, _, _, rfl, hC, hO, (fun _ => rfl), k1, k2, k3, k4, k5, k6, k7, k8⟩
              simp only [putAll, List.setIfInBounds_toArray, List.set_cons_succ, List.set_cons_zero] <;> rfl
            · refine wpOp_step (by simp only [List.getElem?_toArray, List.getElem?_cons_succ, List.getElem?_cons_zero]; rfl) (fun K hK => ?_)
              go_simp
              refine hK _ _ ⟨[v50, .pointer (some ⟨g, 1, none⟩), v52, v53, v54, v55, v56, v5], ?_, _, _, _, _, _, _, _, _, rfl, hC, hO, k0, (fun _ => rfl), k2, k3, k4, k5, k6, k7, k8⟩
              simp only [putAll, List.setIfInBounds_toArray, List.set_cons_succ, List.set_cons_zero] <;> rfl
            · have e1 := k1 (hdep 1 (by kernel_rfl))
              subst e1
              have q7 := hC.cell x1 (by omega)
              refine wpOp_step (by simp only [List.getElem?_toArray, List.getElem?_cons_succ, List.getElem?_cons_zero]; rfl) (fun K hK => ?_)
              go_simp
              refine hK _ _ ⟨[v50, .pointer (some ⟨g, 1, none⟩), .slice (some ⟨sb, so, none⟩) n2 c2, v53, v54, v55, v56, v5], ?_, _, _, _, _, _, _, _, _, rfl, hC, hO, k0, (fun _ => rfl), (fun _ => rfl), k3, k4, k5, k6, k7, k8⟩
              simp only [putAll, List.setIfInBounds_toArray, List.set_cons_succ, List.set_cons_zero] <;> rfl
            · refine wpOp_step (by simp only [List.getElem?_toArray, List.getElem?_cons_succ, List.getElem?_cons_zero]; rfl) (fun K hK => ?_)
              go_simp
              refine hK _ _ ⟨[v50, v51, v52, .int .i64 (k : Int), v54, v55, v56, v5], ?_, _, _, _, _, _, _, _, _, rfl, hC, hO, k0, k1, k2, (fun _ => rfl), k4, k5, k6, k7, k8⟩
              simp only [putAll, List.setIfInBounds_toArray, List.set_cons_succ, List.set_cons_zero] <;> rfl
            · have e2 := k2 (hdep 2 (by kernel_rfl))
              subst e2
              have e3 := k3 (hdep 3 (by kernel_rfl))
              subst e3
              refine wpOp_step (by simp only [List.getElem?_toArray, List.getElem?_cons_succ, List.getElem?_cons_zero]; rfl) (fun K hK => ?_)
              go_simp
              refine hK _ _ ⟨[v50, v51, .slice (some ⟨sb, so, none⟩) n2 c2, .int .i64 (k : Int), .pointer (some ⟨sb, so + k * 3, none⟩), v55, v56, v5], ?_, _, _, _, _, _, _, _, _, rfl, hC, hO, k0, k1, (fun _ => rfl), (fun _ => rfl), (fun _ => rfl), k5, k6, k7, k8⟩
              simp only [putAll, List.setIfInBounds_toArray, List.set_cons_succ, List.set_cons_zero] <;> rfl
            · have e4 := k4 (hdep 4 (by kernel_rfl))
              subst e4
              refine wpOp_step (by simp only [List.getElem?_toArray, List.getElem?_cons_succ, List.getElem?_cons_zero]; rfl) (fun K hK => ?_)
              go_simp
              refine hK _ _ ⟨[v50, v51, v52, v53, .pointer (some ⟨sb, so + k * 3, none⟩), .pointer (some ⟨sb, so + k * 3 + 2, none⟩), v56, v5], ?_, _, _, _, _, _, _, _, _, rfl, hC, hO, k0, k1, k2, k3, (fun _ => rfl), (fun _ => rfl), k6, k7, k8⟩
              simp only [putAll, List.setIfInBounds_toArray, List.set_cons_succ, List.set_cons_zero] <;> rfl
            · have e5 := k5 (hdep 5 (by kernel_rfl))
              subst e5
              have q7 := hC.cell ff2 (by omega)
              refine wpOp_step (by simp only [List.getElem?_toArray, List.getElem?_cons_succ, List.getElem?_cons_zero]; rfl) (fun K hK => ?_)
              go_simp
              refine hK _ _ ⟨[v50, v51, v52, v53, v54, .pointer (some ⟨sb, so + k * 3 + 2, none⟩), .string y.tx, v5], ?_, _, _, _, _, _, _, _, _, rfl, hC, hO, k0, k1, k2, k3, k4, (fun _ => rfl), (fun _ => rfl), k7, k8⟩
              simp only [putAll, List.setIfInBounds_toArray, List.set_cons_succ, List.set_cons_zero] <;> rfl
            · have e0 := k0 (hdep 0 (by kernel_rfl))
              subst e0
              have o7 := (hO hD).cell 0 _ rfl
              have o8 := (hO hD).cell 1 _ rfl
              have y7 := (hO hD).fz 0 (by simp)
              have y8 := (hO hD).fz 1 (by simp)
              have hs7 := (hO hD).setCells (vs := [.slice B1 m1 d1, .slice B2 m2 d2]) rfl
              have one := ch_setCells (g := g + 2) [.slice B1 m1 d1, .slice B2 m2 d2] 0 w'
              refine wpOp_step (by simp only [List.getElem?_toArray, List.getElem?_cons_succ, List.getElem?_cons_zero]; rfl) (fun K hK => ?_)
              go_simp
              refine hK _ _ ⟨[.agg #[.slice B1 m1 d1, .slice B2 m2 d2], v51, v52, v53, v54, v55, v56, v5], ?_, _, _, _, _, _, _, _, _, rfl, (hC.trans one), (fun h => absurd h (by simp)), (fun _ => rfl), k1, k2, k3, k4, k5, k6, (fun _ => hs7), k8⟩
              simp only [putAll, List.setIfInBounds_toArray, List.set_cons_succ, List.set_cons_zero] <;> rfl
            · have e6 := k6 (hdep 6 (by kernel_rfl))
              subst e6
              refine wpOp_step (by simp only [List.getElem?_toArray, List.getElem?_cons_succ, List.getElem?_cons_zero]; rfl) (fun K hK => ?_)
              go_simp
              refine hK _ _ ⟨[v50, v51, v52, v53, v54, v55, .string y.tx, .string y.tx], ?_, _, _, _, _, _, _, _, _, rfl, hC, hO, k0, k1, k2, k3, k4, k5, (fun _ => rfl), k7, (fun _ => rfl)⟩
              simp only [putAll, List.setIfInBounds_toArray, List.set_cons_succ, List.set_cons_zero] <;> rfl
          · intro D vs w' hD hI
            obtain ⟨v50, v51, v52, v53, v54, v55, v56, v5, rfl, hC, hO, k0, k1, k2, k3, k4, k5, k6, k7, k8⟩ := hI
            simp only [putAll, List.setIfInBounds_toArray, List.set_cons_succ, List.set_cons_zero]
            have hBo := k7 (hD 7 (show 7 < 9 by decide))
            have h8 := k8 (hD 8 (show 8 < 9 by decide))
            subst h8
            clear hD hO
            have hWr := hBo.range
            go_wp2
            refine bodyPost_ret (results_cell_tmp Tryz.results79 rfl hWr Tryz.underlying30 rfl sizeState0) rfl ?_
            rw [HD.out, stGo_some HN.out]
            exact sta_out2 (s := (x, y.tx)) (g := g) (p := g + 2) R16 R26 N F4 hg6 HG.out (by omega) l2 hC
        have g2 : (y.no == m.no) = false := beq_eq_false_iff_ne.2 hno
        by_cases hlo : m.no < y.no
        · have g3 : decide (y.no > m.no) = true := decide_eq_true hlo
          have HN := Lib.hid (show repS x.said m = some oldT by rw [HRP.out, HRD.out, if_neg (by simpa using hcl), if_neg hno, if_pos hlo])
          clear hcl hno hlo
          go_wp2_with fail
          refine wp_region_grow (by kernel_rfl) (by kernel_rfl) ?_
          repeat (first | go_big_quiet_step (fail))
          refine wpQuiet_nil ?_
          intro _ hw'
          obtain ⟨⟨w5, hb5⟩, hw''⟩ := hw'
          change _ = w5 at hw''
          subst hw''
          obtain ⟨w5, hV⟩ := Below.nam hb5; subst hV
          have fk0_ := keep_cell hb5 ff0; clear ff0; have ff0 := fk0_; clear fk0_
          have fk1_ := keep_cell hb5 ff1; clear ff1; have ff1 := fk1_; clear fk1_
          have fk2_ := keep_cell hb5 ff2; clear ff2; have ff2 := fk2_; clear fk2_
          clear bl; have bl := cell_lt ff0
          have R15 := R1r.keep cstK hb5; have R25 := R2r.keep saiK hb5
          have BX5 := BXr.keep hb5; have BM5 := BMr.keep hb5; have BO5 := BOr.keep hb5; have BQ5 := BQr.keep hb5
          have hR5 := hRr.keep cstK hb5; have hS5 := hSr.keep saiK hb5; have m5 := mr.keep hb5
          have hg5 : Below g w w5 := hgr.trans (hb5.mono (show g ≤ wr.heap.size by omega))
          have hgz5 : q < w5.heap.size := BQ5.lt
          clear R1r R2r BXr BMr BOr BQr hRr hSr mr hgr hgzr l0 l1 l2 hb5 o0 o1 of og q0 q1 qf qg x0 x1 y1 y2
          have o0 := BO5.cell 0 _ rfl; have o1 := BO5.cell 1 _ rfl; have of := BO5.fz 0 (by simp); have og := BO5.fz 1 (by simp)
          have q0 := BQ5.cell 0 _ rfl; have q1 := BQ5.cell 1 _ rfl; have x0 := BX5.cell 0 _ rfl; have x1 := BX5.cell 1 _ rfl
          have qf := BQ5.fz 0 (by simp); have qg := BQ5.fz 1 (by simp)
          have y1 := BM5.cell 1 _ rfl; have y2 := BM5.cell 2 _ rfl
          have l0 : g < w5.heap.size := by omega
          have l1 : g + 1 < w5.heap.size := by omega
          have l2 : g + 2 < w5.heap.size := by omega
          go_wp2_with fail
          refine wp_region_grow (by kernel_rfl) (by kernel_rfl) ?_
          repeat (first | go_big_quiet_step (fail))
          refine wpQuiet_nil ?_
          intro _ hw'
          obtain ⟨⟨w6, hb6⟩, hw''⟩ := hw'
          change _ = w6 at hw''
          subst hw''
          obtain ⟨w6, hV⟩ := Below.nam hb6; subst hV
          have fk0_ := keep_cell hb6 ff0; clear ff0; have ff0 := fk0_; clear fk0_
          have fk1_ := keep_cell hb6 ff1; clear ff1; have ff1 := fk1_; clear fk1_
          have fk2_ := keep_cell hb6 ff2; clear ff2; have ff2 := fk2_; clear fk2_
          clear bl; have bl := cell_lt ff0
          have R16 := R15.keep cstK hb6; have R26 := R25.keep saiK hb6
          have BX6 := BX5.keep hb6; have BM6 := BM5.keep hb6; have BO6 := BO5.keep hb6; have BQ6 := BQ5.keep hb6
          have hR6 := hR5.keep cstK hb6; have hS6 := hS5.keep saiK hb6; have m6 := m5.keep hb6
          have hg6 : Below g w w6 := hg5.trans (hb6.mono (show g ≤ w5.heap.size by omega))
          have hgz6 : q < w6.heap.size := BQ6.lt
          clear R15 R25 BX5 BM5 BO5 BQ5 hR5 hS5 m5 hg5 hgz5 l0 l1 l2 hb6 o0 o1 of og q0 q1 qf qg x0 x1 y1 y2
          have o0 := BO6.cell 0 _ rfl; have o1 := BO6.cell 1 _ rfl; have of := BO6.fz 0 (by simp); have og := BO6.fz 1 (by simp)
          have q0 := BQ6.cell 0 _ rfl; have q1 := BQ6.cell 1 _ rfl; have x0 := BX6.cell 0 _ rfl; have x1 := BX6.cell 1 _ rfl
          have qf := BQ6.fz 0 (by simp); have qg := BQ6.fz 1 (by simp)
          have y1 := BM6.cell 1 _ rfl; have y2 := BM6.cell 2 _ rfl
          have l0 : g < w6.heap.size := by omega
          have l1 : g + 1 < w6.heap.size := by omega
          have l2 : g + 2 < w6.heap.size := by omega
          go_wp2_with fail
          refine wp_region_grow (by kernel_rfl) (by kernel_rfl) ?_
          repeat (first | go_big_quiet_step (fail))
          refine wpQuiet_nil ?_
          intro _ hw'
          obtain ⟨⟨w7, hb7⟩, hw''⟩ := hw'
          change _ = w7 at hw''
          subst hw''
          obtain ⟨w7, hV⟩ := Below.nam hb7; subst hV
          have fk0_ := keep_cell hb7 ff0; clear ff0; have ff0 := fk0_; clear fk0_
          have fk1_ := keep_cell hb7 ff1; clear ff1; have ff1 := fk1_; clear fk1_
          have fk2_ := keep_cell hb7 ff2; clear ff2; have ff2 := fk2_; clear fk2_
          clear bl; have bl := cell_lt ff0
          have R17 := R16.keep cstK hb7; have R27 := R26.keep saiK hb7
          have BX7 := BX6.keep hb7; have BM7 := BM6.keep hb7; have BO7 := BO6.keep hb7; have BQ7 := BQ6.keep hb7
          have hR7 := hR6.keep cstK hb7; have hS7 := hS6.keep saiK hb7; have m7 := m6.keep hb7
          have hg7 : Below g w w7 := hg6.trans (hb7.mono (show g ≤ w6.heap.size by omega))
          have hgz7 : q < w7.heap.size := BQ7.lt
          clear R16 R26 BX6 BM6 BO6 BQ6 hR6 hS6 m6 hg6 hgz6 l0 l1 l2 hb7 o0 o1 of og q0 q1 qf qg x0 x1 y1 y2
          have o0 := BO7.cell 0 _ rfl; have o1 := BO7.cell 1 _ rfl; have of := BO7.fz 0 (by simp); have og := BO7.fz 1 (by simp)
          have q0 := BQ7.cell 0 _ rfl; have q1 := BQ7.cell 1 _ rfl; have x0 := BX7.cell 0 _ rfl; have x1 := BX7.cell 1 _ rfl
          have qf := BQ7.fz 0 (by simp); have qg := BQ7.fz 1 (by simp)
          have y1 := BM7.cell 1 _ rfl; have y2 := BM7.cell 2 _ rfl
          have l0 : g < w7.heap.size := by omega
          have l1 : g + 1 < w7.heap.size := by omega
          have l2 : g + 2 < w7.heap.size := by omega
          have hWr := (BO7.setCells (vs := [.slice B1 m1 d1, .slice B2 m2 d2]) rfl).range
          go_wp2
          refine bodyPost_ret (results_cell_tmp Tryz.results79 rfl hWr Tryz.underlying30 rfl sizeState0) rfl ?_
          rw [HD.out, stGo_some HN.out]
          exact sta_out (s := (x, oldT)) (g := g) (p := g + 2) R17 R27 N F4 hg7 HG.out (by omega) l2
        have g3 : decide (y.no > m.no) = false := decide_eq_false hlo
        have HJ := Lib.hid (show repS x.said m = repS (x.said.drop (k + 1)) m by rw [HRP.out, HRD.out, if_neg (by simpa using hcl), if_neg hno, if_neg hlo])
        clear hcl hno hlo
        go_wp2_with fail
        refine wp_region_grow (by kernel_rfl) (by kernel_rfl) ?_
        repeat (first | go_big_quiet_step (fail))
        refine wpQuiet_nil ?_
        intro _ hw'
        obtain ⟨⟨w5, hb5⟩, hw''⟩ := hw'
        change _ = w5 at hw''
        subst hw''
        obtain ⟨w5, hV⟩ := Below.nam hb5; subst hV
        have HB5 := Lib.hid (bthen HBR.out hb5)
        have fk0_ := keep_cell hb5 ff0; clear ff0; have ff0 := fk0_; clear fk0_
        have fk1_ := keep_cell hb5 ff1; clear ff1; have ff1 := fk1_; clear fk1_
        have fk2_ := keep_cell hb5 ff2; clear ff2; have ff2 := fk2_; clear fk2_
        clear bl; have bl := cell_lt ff0
        have R15 := R1r.keep cstK hb5; have R25 := R2r.keep saiK hb5
        have BX5 := BXr.keep hb5; have BM5 := BMr.keep hb5; have BO5 := BOr.keep hb5; have BQ5 := BQr.keep hb5
        have hR5 := hRr.keep cstK hb5; have hS5 := hSr.keep saiK hb5; have m5 := mr.keep hb5
        have hg5 : Below g w w5 := hgr.trans (hb5.mono (show g ≤ wr.heap.size by omega))
        have hgz5 : q < w5.heap.size := BQ5.lt
        clear R1r R2r BXr BMr BOr BQr hRr hSr mr hgr hgzr l0 l1 l2 hb5 o0 o1 of og q0 q1 qf qg x0 x1 y1 y2
        have o0 := BO5.cell 0 _ rfl; have o1 := BO5.cell 1 _ rfl; have of := BO5.fz 0 (by simp); have og := BO5.fz 1 (by simp)
        have q0 := BQ5.cell 0 _ rfl; have q1 := BQ5.cell 1 _ rfl; have x0 := BX5.cell 0 _ rfl; have x1 := BX5.cell 1 _ rfl
        have qf := BQ5.fz 0 (by simp); have qg := BQ5.fz 1 (by simp)
        have y1 := BM5.cell 1 _ rfl; have y2 := BM5.cell 2 _ rfl
        have l0 : g < w5.heap.size := by omega
        have l1 : g + 1 < w5.heap.size := by omega
        have l2 : g + 2 < w5.heap.size := by omega
        go_wp2_with fail
        refine wp_region_grow (by kernel_rfl) (by kernel_rfl) ?_
        repeat (first | go_big_quiet_step (fail))
        refine wpQuiet_nil ?_
        intro _ hw'
        obtain ⟨⟨w6, hb6⟩, hw''⟩ := hw'
        change _ = w6 at hw''
        subst hw''
        obtain ⟨w6, hV⟩ := Below.nam hb6; subst hV
        have HB6 := Lib.hid (bthen HB5.out hb6)
        have fk0_ := keep_cell hb6 ff0; clear ff0; have ff0 := fk0_; clear fk0_
        have fk1_ := keep_cell hb6 ff1; clear ff1; have ff1 := fk1_; clear fk1_
        have fk2_ := keep_cell hb6 ff2; clear ff2; have ff2 := fk2_; clear fk2_
        clear bl; have bl := cell_lt ff0
        have R16 := R15.keep cstK hb6; have R26 := R25.keep saiK hb6
        have BX6 := BX5.keep hb6; have BM6 := BM5.keep hb6; have BO6 := BO5.keep hb6; have BQ6 := BQ5.keep hb6
        have hR6 := hR5.keep cstK hb6; have hS6 := hS5.keep saiK hb6; have m6 := m5.keep hb6
        have hg6 : Below g w w6 := hg5.trans (hb6.mono (show g ≤ w5.heap.size by omega))
        have hgz6 : q < w6.heap.size := BQ6.lt
        clear R15 R25 BX5 BM5 BO5 BQ5 hR5 hS5 m5 hg5 hgz5 l0 l1 l2 hb6 o0 o1 of og q0 q1 qf qg x0 x1 y1 y2
        have o0 := BO6.cell 0 _ rfl; have o1 := BO6.cell 1 _ rfl; have of := BO6.fz 0 (by simp); have og := BO6.fz 1 (by simp)
        have q0 := BQ6.cell 0 _ rfl; have q1 := BQ6.cell 1 _ rfl; have x0 := BX6.cell 0 _ rfl; have x1 := BX6.cell 1 _ rfl
        have qf := BQ6.fz 0 (by simp); have qg := BQ6.fz 1 (by simp)
        have y1 := BM6.cell 1 _ rfl; have y2 := BM6.cell 2 _ rfl
        have l0 : g < w6.heap.size := by omega
        have l1 : g + 1 < w6.heap.size := by omega
        have l2 : g + 2 < w6.heap.size := by omega
        go_wp2_with fail
        refine wp_region_grow (by kernel_rfl) (by kernel_rfl) ?_
        repeat (first | go_big_quiet_step (fail))
        refine wpQuiet_nil ?_
        intro _ hw'
        obtain ⟨⟨w7, hb7⟩, hw''⟩ := hw'
        change _ = w7 at hw''
        subst hw''
        have HB7 := Lib.hid (bthen HB6.out hb7)
        go_wp2
        exact ⟨⟨k + 1, by omega, by go_num, HJ.out, HB7.out⟩, by simp [intOf]; omega⟩
      · have g1 : (y.cl == m.cl) = false := beq_eq_false_iff_ne.2 hcl
        have g1n : (y.cl != m.cl) = true := by simp [hcl]
        have HJ := Lib.hid (show repS x.said m = repS (x.said.drop (k + 1)) m by rw [HRP.out, HRD.out, if_pos hcl])
        clear hcl
        go_wp2_with fail
        refine wp_region_grow (by kernel_rfl) (by kernel_rfl) ?_
        repeat (first | go_big_quiet_step (fail))
        refine wpQuiet_nil ?_
        intro _ hw'
        obtain ⟨⟨w5, hb5⟩, hw''⟩ := hw'
        change _ = w5 at hw''
        subst hw''
        have HB5 := Lib.hid (bthen HBR.out hb5)
        go_wp2
        exact ⟨⟨k + 1, by omega, by go_num, HJ.out, HB5.out⟩, by simp [intOf]; omega⟩
    · have HN := Lib.hid (show repS x.said m = none by rw [HRP.out, List.drop_eq_nil_of_le (by have := HL.out; omega), repS])
      have HP := Lib.hid (show putF x.said (saiNew x m) false = putS x.said (saiNew x m) from putF_put _ (saisOk_rise HS2.out))
      have y0 := BMr.cell 0 _ rfl; have y3 := BMr.cell 3 _ rfl; have y4 := BMr.cell 4 _ rfl; have y5 := BMr.cell 5 _ rfl; have y6 := BMr.cell 6 _ rfl; have y7 := BMr.cell 7 _ rfl
      go_wp2_with fail
      have hdo := catDo_spec x.cat m B1 m1 d1 A3 n3 c3 wr (R1r.at_ cstK (by omega)) hbd.1 mr hmB
      unfold ctlV cmV at hdo
      refine hdo.mono ?_
      intro e w8 hout
      obtain ⟨E1, j1, k1, fc, rfl, RC, NC, FC, hb8⟩ := hout.out
      clear hdo hout y0 y3 y4 y5 y6 y7
      have hqs := BQr.lt
      have FC8 : ∀ t ∈ fc, q < t := fun t ht => by have := FC t ht; omega
      have R18 := R1r.keep cstK hb8; have R28 := R2r.keep saiK hb8
      have BX8 := BXr.keep hb8; have BM8 := BMr.keep hb8; have BO8 := BOr.keep hb8; have BQ8 := BQr.keep hb8
      have hR8 := hRr.keep cstK hb8; have hS8 := hSr.keep saiK hb8; have m8 := mr.keep hb8
      have hg8 : Below g w w8 := hgr.trans (hb8.mono (show g ≤ wr.heap.size by omega))
      have hgz8 : q < w8.heap.size := BQ8.lt
      clear R1r R2r BXr BMr BOr BQr hRr hSr mr hgr hgzr l0 l1 l2 hb8 o0 o1 of og q0 q1 qf qg x0 x1 y1 y2
      have o0 := BO8.cell 0 _ rfl; have o1 := BO8.cell 1 _ rfl; have of := BO8.fz 0 (by simp); have og := BO8.fz 1 (by simp)
      have q0 := BQ8.cell 0 _ rfl; have q1 := BQ8.cell 1 _ rfl; have x0 := BX8.cell 0 _ rfl; have x1 := BX8.cell 1 _ rfl
      have qf := BQ8.fz 0 (by simp); have qg := BQ8.fz 1 (by simp)
      have y1 := BM8.cell 1 _ rfl; have y2 := BM8.cell 2 _ rfl
      have l0 : g < w8.heap.size := by omega
      have l1 : g + 1 < w8.heap.size := by omega
      have l2 : g + 2 < w8.heap.size := by omega
      clear FC hqs
      have cq := Ch.set (w := w8) (g := q) (o := 0) (v := .slice E1 j1 k1)
      have a5 := (Below.refl (w8.setCell ⟨q, 0, none⟩ (.slice E1 j1 k1)).heap.size (w8.setCell ⟨q, 0, none⟩ (.slice E1 j1 k1))).alloc (Nat.le_refl _) (.cells #[.slice E1 j1 k1] 27)
      have FD : ∀ t ∈ f2, g + 2 < t ∧ t < q := fun t ht => F3 t (List.mem_append_right _ ht)
      have RC9 := (RC.ch cstK cq (fun b hb e => by have h5 := FC8 b hb; have e : b = q := e; omega)).keep cstK a5
      have R29 := (R28.ch saiK cq (fun b hb e => by have h5 := FD b hb; have e : b = q := e; omega)).keep saiK a5
      have BO9 := (BO8.ch cq (ne_blk (by omega))).keep a5
      have BQ9 := (BQ8.set (j := 0) (v := .slice E1 j1 k1) (by simp)).keep a5
      simp only [List.set_cons_zero] at BQ9
      have hg9 := bthen (show Below w.heap.size w (w8.setCell ⟨q, 0, none⟩ (.slice E1 j1 k1)) by rw [HG.out]; exact cq.belowB hg8 (by omega) (fun k hk => by have hk : k = q := hk; omega)) a5
      have hSU := R29.at_ saiK (by omega)
      go_wp2_with fail
      have hps := put_spec x.said (saiNew x m) B2 m2 d2 _ hSU hm2
      unfold saiV saiNew at hps
      refine hps.mono ?_
      rintro e w9 ⟨P, pm, pc, rfl, RP, FP, hb9⟩
      clear hps
      have FCl := RC.lt cstK
      have hU9 : w8.heap.size ≤ (((w8.setCell ⟨q, 0, none⟩ (.slice E1 j1 k1)).alloc (.cells #[.slice E1 j1 k1] 27))).heap.size := Nat.le_trans cq.size a5.size
      have BQ10 := BQ9.keep hb9; have BO10 := BO9.keep hb9
      have RC10 := RC9.keep cstK hb9
      have hg10 := bthen hg9 hb9
      rw [HG.out] at hg10
      have hz9 := hb9.size
      have cr := Ch.set (w := w9) (g := q) (o := 1) (v := .slice P pm pc)
      have BO11 := BO10.ch cr (ne_blk (by omega))
      have RC11 := RC10.ch cstK cr (fun b hb e => by have h5 := FC8 b hb; have e : b = q := e; omega)
      have RP11 := RP.ch saiK cr (fun b hb e => by have h5 := FP b hb; have e : b = q := e; omega)
      have hg11 := cr.belowB hg10 (by omega) (fun k hk => by have hk : k = q := hk; omega)
      have hz11 := cr.size
      have hNN : (fc ++ blkL P).Nodup := List.nodup_append.2 ⟨NC, by cases P <;> simp [blkL], fun a ha b hb e => by have h5 := FCl a ha; have h6 := FP b hb; omega⟩
      have hFF : ∀ b ∈ fc ++ blkL P, g ≤ b ∧ b ≠ g + 2 := fun b hb => by rcases List.mem_append.1 hb with h5 | h5; (have h6 := FC8 b h5; omega); (have h6 := FP b h5; omega)
      have hWr := (BO11.setCells (vs := [.slice E1 j1 k1, .slice P pm pc]) rfl).range
      clear o0 o1 of og q0 q1 qf qg x0 x1 y1 y2 l0 l1 l2
      have o0 := BO10.cell 0 _ rfl; have o1 := BO10.cell 1 _ rfl; have of := BO10.fz 0 (by simp); have og := BO10.fz 1 (by simp)
      have q0 := BQ10.cell 0 _ rfl; have q1 := BQ10.cell 1 _ rfl; have qg := BQ10.fz 1 (by simp)
      have l2 := BO10.lt; have lq := BQ10.lt
      have hnq1 : ¬ (g + 2 = q) := by omega
      have hnq2 : ¬ (q = g + 2) := by omega
      have HWR := Lib.hid hWr; have HZ := Lib.hid (And.intro hz9 hz11); clear hWr hz9 hz11 BQ10 BO10 BO11 RC10 RP hg10
      go_wp2
      refine bodyPost_ret (results_cell_tmp Tryz.results79 rfl HWR.out Tryz.underlying30 rfl sizeState0) rfl ?_
      rw [HD.out, stGo_none HN.out, ← HP.out]
      exact sta_out (g := g) (p := g + 2) RC11 RP11 hNN hFF hg11 HG.out (by omega) (by have := HZ.out; omega)
end Go.Proofs.YtdphdnllhmnelaaGreat
