/- Contracts and lemmas: StateDoS. -/
import Derived.Test.YtdphdnllhmnelaaGreatJ29
import Derived.Test.YtdphdnllhmnelaaGreatJ32
import Derived.Test.YtdphdnllhmnelaaGreatJ33
/- The reference's StateDo. -/
namespace Go.Proofs.YtdphdnllhmnelaaGreat
open Go.RowKit
attribute [local go_sem] Grow.cell Grow.frozen
attribute [local irreducible] StrsAt StrR RowR RowO repS putF putS staOkB cmOkB StaOut CatOut catDo
set_option maxRecDepth 8000 in
set_option maxHeartbeats 16000000 in
theorem staDo_spec (x : Sta) (m : Cm) (A1 : Option Addr) (n1 c1 : Nat) (A2 : Option Addr) (n2 c2 : Nat) (A3 : Option Addr) (n3 c3 : Nat) (w : World) (h1 : RowR cstR 2 w A1 n1 c1 x.cat.sets) (h2 : RowR saiR 3 w A2 n2 c2 x.said) (hbd : StaBd x) (hm : StrR w A3 n3 c3 m.ch) (hmB : cmB m) :
    Calls Tryz.prog 79 #[staV x (.slice A1 n1 c1) (.slice A2 n2 c2), cmV m (.slice A3 n3 c3)] w (StaOut (stDo x m) w) := by
  have hn2 : n2 ≤ 1000 := by have := h2.len; have := hbd.2.1; omega
  have hW := catBd_W hbd.1
  have hB := catBd_B hbd.1
  have al1 := (Below.refl w.heap.size w).alloc (Nat.le_refl _) (.cells #[.slice A1 n1 c1, .slice A2 n2 c2] 30)
  have al2 := al1.alloc al1.size (.cells #[.int .i64 m.kd, .int .i64 m.cl, .int .i64 m.no, .string m.s, .string m.nm, .string m.tg, .int .i64 m.n, .slice A3 n3 c3] 48)
  have al3 := al2.alloc al2.size (.cells #[.slice none 0 0, .slice none 0 0] 30)
  have BX := ((BoxL.new w [.slice A1 n1 c1, .slice A2 n2 c2] 30).keep ((Below.refl _ _).alloc (Nat.le_refl _) (.cells #[.int .i64 m.kd, .int .i64 m.cl, .int .i64 m.no, .string m.s, .string m.nm, .string m.tg, .int .i64 m.n, .slice A3 n3 c3] 48))).keep ((Below.refl _ _).alloc (Nat.le_refl _) (.cells #[.slice none 0 0, .slice none 0 0] 30))
  have BM := (BoxL.new (w.alloc (.cells #[.slice A1 n1 c1, .slice A2 n2 c2] 30)) [.int .i64 m.kd, .int .i64 m.cl, .int .i64 m.no, .string m.s, .string m.nm, .string m.tg, .int .i64 m.n, .slice A3 n3 c3] 48).keep ((Below.refl _ _).alloc (Nat.le_refl _) (.cells #[.slice none 0 0, .slice none 0 0] 30))
  have BO := BoxL.new ((w.alloc (.cells #[.slice A1 n1 c1, .slice A2 n2 c2] 30)).alloc (.cells #[.int .i64 m.kd, .int .i64 m.cl, .int .i64 m.no, .string m.s, .string m.nm, .string m.tg, .int .i64 m.n, .slice A3 n3 c3] 48)) [.slice none 0 0, .slice none 0 0] 30
  have hz1 : (w.alloc (.cells #[.slice A1 n1 c1, .slice A2 n2 c2] 30)).heap.size = w.heap.size + 1 := Array.size_push _
  have hz2 : ((w.alloc (.cells #[.slice A1 n1 c1, .slice A2 n2 c2] 30)).alloc (.cells #[.int .i64 m.kd, .int .i64 m.cl, .int .i64 m.no, .string m.s, .string m.nm, .string m.tg, .int .i64 m.n, .slice A3 n3 c3] 48)).heap.size = w.heap.size + 2 := (Array.size_push _).trans (by rw [hz1])
  unfold staV cmV
  go_enter Tryz.func79, Tryz.ntmps79
  go_wp2_with fail
  obtain ⟨W, hWW⟩ : ∃ W, W = ((w.alloc (.cells #[.slice A1 n1 c1, .slice A2 n2 c2] 30)).alloc (.cells #[.int .i64 m.kd, .int .i64 m.cl, .int .i64 m.no, .string m.s, .string m.nm, .string m.tg, .int .i64 m.n, .slice A3 n3 c3] 48)).alloc (.cells #[.slice none 0 0, .slice none 0 0] 30) := ⟨_, rfl⟩
  obtain ⟨g, hg⟩ : ∃ g, w.heap.size = g := ⟨_, rfl⟩
  rw [hz1] at BM
  rw [hz2] at BO
  have HG := Lib.hid hg
  rw [← hWW] at al3 BX BM BO ⊢
  simp only [hg] at BX BM BO ⊢
  clear hWW hg al1 al2 hz1 hz2
  have hR := h1.keep cstK al3
  have hS := h2.keep saiK al3
  have mW := hm.keep al3
  have hgW := BO.lt
  have hco := staOk_spec x A1 n1 c1 A2 n2 c2 W hR hS hB hn2
  unfold staV at hco
  refine hco.mono ?_
  rintro e w1 ⟨rfl, hb1⟩
  clear hco
  have BX1 := BX.keep hb1; have BM1 := BM.keep hb1; have BO1 := BO.keep hb1
  have hR1 := hR.keep cstK hb1; have hS1 := hS.keep saiK hb1; have mW1 := mW.keep hb1
  have hg1 : Below g w w1 := by have h5 := bthen al3 hb1; rw [HG.out] at h5; exact h5
  clear BX BM BO hR hS mW al3 hb1
  have x0 := BX1.cell 0 _ rfl; have x1 := BX1.cell 1 _ rfl
  have o0 := BO1.cell 0 _ rfl; have o1 := BO1.cell 1 _ rfl; have of := BO1.fz 0 (by simp); have og := BO1.fz 1 (by simp)
  have l0 := BX1.lt; have l1 := BM1.lt; have l2 := BO1.lt
  obtain ⟨k, hk⟩ : ∃ k, staOkB x = k := ⟨_, rfl⟩
  have HC := Lib.hid hk
  rw [hk]
  clear hk
  cases k
  · have hWr := (BO1.setCells (vs := [.slice none 0 0, .slice none 0 0]) rfl).range
    go_wp2
    refine bodyPost_ret (results_cell_tmp Tryz.results79 rfl hWr Tryz.underlying30 rfl sizeState0) rfl ?_
    have e1 : stDo x m = (⟨⟨[]⟩, []⟩, ByteArray.empty) := by unfold stDo; rw [if_pos HC.out]
    rw [e1]
    exact sta_out (s := (⟨⟨[]⟩, []⟩, ByteArray.empty)) (g := g) (p := g + 2) (f1 := []) (f2 := []) RowO.nil RowO.nil List.nodup_nil (fun b hb => by cases hb) hg1 HG.out (by omega) l2
  have hos2 : saisOkB x.said = true := by have h5 := HC.out; unfold staOkB at h5; rw [Bool.and_eq_true] at h5; exact h5.1
  have HS2 := Lib.hid hos2; clear hos2
  go_wp2_with fail
  have ex := copySta_spec x A1 n1 c1 A2 n2 c2 w1 hR1 hS1 hW hn2
  unfold staV at ex
  refine ex.mono ?_
  rintro e w2 ⟨B1, m1, d1, B2, m2, d2, f1, f2, rfl, R1, R2, N, F, hb2⟩
  clear ex
  have hm2 : m2 ≤ 1000 := by have := R2.len; have := hbd.2.1; omega
  have BX2 := BX1.keep hb2; have BM2 := BM1.keep hb2; have BO2 := BO1.keep hb2
  have hR2 := hR1.keep cstK hb2; have hS2 := hS1.keep saiK hb2; have mW2 := mW1.keep hb2
  have hg2 : Below g w w2 := hg1.trans (hb2.mono (show g ≤ w1.heap.size by omega))
  have hz12 := hb2.size
  have F3 : ∀ t ∈ f1 ++ f2, g + 2 < t ∧ t < w2.heap.size := fun t ht => by have := F t ht; omega
  clear BX1 BM1 BO1 hR1 hS1 mW1 hg1 hb2 F x0 x1 o0 o1 of og l0 l1 l2
  have al4 := (Below.refl w2.heap.size w2).alloc (Nat.le_refl _) (.cells #[.slice B1 m1 d1, .slice B2 m2 d2] 30)
  have BQ := BoxL.new w2 [.slice B1 m1 d1, .slice B2 m2 d2] 30
  have l0 := BX2.lt; have l1 := BM2.lt; have l2 := BO2.lt
  have u0 := BM2.cell 0 _ rfl; have u1 := BM2.cell 1 _ rfl; have u2 := BM2.cell 2 _ rfl; have u3 := BM2.cell 3 _ rfl; have u4 := BM2.cell 4 _ rfl; have u5 := BM2.cell 5 _ rfl; have u6 := BM2.cell 6 _ rfl; have u7 := BM2.cell 7 _ rfl
  go_wp2_with fail
  obtain ⟨V, hV⟩ : ∃ V, V = w2.alloc (.cells #[.slice B1 m1 d1, .slice B2 m2 d2] 30) := ⟨_, rfl⟩
  obtain ⟨q, hq⟩ : ∃ q, w2.heap.size = q := ⟨_, rfl⟩
  rw [← hV] at al4 BQ ⊢
  simp only [hq] at BQ l0 l1 l2 F3 hz12 ⊢
  have hgq2 : g + 2 < q := l2
  have R1V := R1.keep cstK al4; have R2V := R2.keep saiK al4
  have BXV := BX2.keep al4; have BMV := BM2.keep al4; have BOV := BO2.keep al4
  have hRV := hR2.keep cstK al4; have hSV := hS2.keep saiK al4; have mV := mW2.keep al4
  have hgV : Below g w V := hg2.trans (al4.mono (show g ≤ w2.heap.size by omega))
  have hgq := BQ.lt
  clear hV hq BX2 BM2 BO2 hR2 hS2 mW2 R1 R2 hg2 al4 u0 u1 u2 u3 u4 u5 u6 u7
  have hmo := cmdOk_spec m A3 n3 c3 V mV hmB
  unfold cmV at hmo
  refine hmo.mono ?_
  rintro e w3 ⟨rfl, hb3⟩
  clear hmo
  have R13 := R1V.keep cstK hb3; have R23 := R2V.keep saiK hb3
  have BX3 := BXV.keep hb3; have BM3 := BMV.keep hb3; have BO3 := BOV.keep hb3; have BQ3 := BQ.keep hb3
  have hR3 := hRV.keep cstK hb3; have hS3 := hSV.keep saiK hb3; have m3 := mV.keep hb3
  have hg3 : Below g w w3 := hgV.trans (hb3.mono (show g ≤ V.heap.size by omega))
  have hgz3 : q < w3.heap.size := BQ3.lt
  clear R1V R2V BXV BMV BOV BQ hRV hSV mV hgV hb3 hgq l0 l1 l2
  have o0 := BO3.cell 0 _ rfl; have o1 := BO3.cell 1 _ rfl; have of := BO3.fz 0 (by simp); have og := BO3.fz 1 (by simp)
  have q0 := BQ3.cell 0 _ rfl; have q1 := BQ3.cell 1 _ rfl; have qf := BQ3.fz 0 (by simp); have qg := BQ3.fz 1 (by simp)
  have x0 := BX3.cell 0 _ rfl; have x1 := BX3.cell 1 _ rfl
  have y0 := BM3.cell 0 _ rfl; have y1 := BM3.cell 1 _ rfl; have y2 := BM3.cell 2 _ rfl
  have l0 := BX3.lt; have l1 := BM3.lt; have l2 := BO3.lt
  have hWr := (BO3.setCells (vs := [.slice B1 m1 d1, .slice B2 m2 d2]) rfl).range
  have F4 : ∀ b ∈ f1 ++ f2, g ≤ b ∧ b ≠ g + 2 := fun b hb => by have := F3 b hb; omega
  obtain ⟨k, hk⟩ : ∃ k, cmOkB m = k := ⟨_, rfl⟩
  have HM := Lib.hid hk
  rw [hk]
  clear hk
  cases k
  · go_wp2
    refine bodyPost_ret (results_cell_tmp Tryz.results79 rfl hWr Tryz.underlying30 rfl sizeState0) rfl ?_
    have e1 : stDo x m = (x, ByteArray.empty) := by unfold stDo; rw [if_neg (by rw [HC.out]; simp), if_pos HM.out]
    rw [e1]
    exact sta_out (s := (x, ByteArray.empty)) (g := g) (p := g + 2) R13 R23 N F4 hg3 HG.out (by omega) l2
  have hmb := cmOk_bd HM.out
  by_cases k0 : m.kd = 0
  · have g0 : (m.kd == (0 : Int)) = true := beq_iff_eq.2 k0
    have K0 := Lib.hid k0; clear k0
    go_wp2
    refine bodyPost_ret (results_cell_tmp Tryz.results79 rfl hWr Tryz.underlying30 rfl sizeState0) rfl ?_
    have e1 : stDo x m = (x, ByteArray.empty) := by unfold stDo; rw [if_neg (by rw [HC.out]; simp), if_neg (by rw [HM.out]; simp), if_pos K0.out]
    rw [e1]
    exact sta_out (s := (x, ByteArray.empty)) (g := g) (p := g + 2) R13 R23 N F4 hg3 HG.out (by omega) l2
  have g0 : (m.kd == (0 : Int)) = false := beq_eq_false_iff_ne.2 k0
  have K0 := Lib.hid k0; clear k0
  have HD := Lib.hid (show stDo x m = stGo x m by unfold stDo; rw [if_neg (by rw [HC.out]; simp), if_neg (by rw [HM.out]; simp), if_neg K0.out])
  clear hWr
  go_wp2_with fail
  clear y0
  have HL := Lib.hid hS3.len
  have U3 : ∃ U, U = w3 := ⟨_, rfl⟩
  obtain ⟨w3, hw3⟩ := U3; subst hw3
  go_loopw [7] (fun i wr => ∃ (k : Nat), k ≤ n2 ∧ i = .int .i64 k ∧ repS x.said m = repS (x.said.drop k) m ∧ Below w3.heap.size w3 wr) (fun i _ => n2 - (intOf i).toNat)
  case atStart => exact ⟨0, Nat.zero_le _, rfl, rfl, Below.refl _ _⟩
  case round =>
    obtain ⟨k, hk, rfl, hrp, hbr⟩ := hrel
    have HRP := Lib.hid hrp; clear hrp
    have HBR := Lib.hid hbr
    have R1r := R13.keep cstK hbr; have R2r := R23.keep saiK hbr
    have BXr := BX3.keep hbr; have BMr := BM3.keep hbr; have BOr := BO3.keep hbr; have BQr := BQ3.keep hbr
    have hRr := hR3.keep cstK hbr; have hSr := hS3.keep saiK hbr; have mr := m3.keep hbr
    have hgr : Below g w wr := hg3.trans (hbr.mono (show g ≤ w3.heap.size by omega))
    have hgzr : q < wr.heap.size := BQr.lt
    clear R13 R23 BX3 BM3 BO3 BQ3 hR3 hS3 m3 hg3 hgz3 l0 l1 l2 hbr o0 o1 of og q0 q1 qf qg x0 x1 y1 y2
    have o0 := BOr.cell 0 _ rfl; have o1 := BOr.cell 1 _ rfl; have of := BOr.fz 0 (by simp); have og := BOr.fz 1 (by simp)
    have q0 := BQr.cell 0 _ rfl; have q1 := BQr.cell 1 _ rfl; have x0 := BXr.cell 0 _ rfl; have x1 := BXr.cell 1 _ rfl
    have qf := BQr.fz 0 (by simp); have qg := BQr.fz 1 (by simp)
    have y1 := BMr.cell 1 _ rfl; have y2 := BMr.cell 2 _ rfl
    have l0 : g < wr.heap.size := by omega
    have l1 : g + 1 < wr.heap.size := by omega
    have l2 : g + 2 < wr.heap.size := by omega
    by_cases hlt : k < n2
    · have hki : (k : Int) < (n2 : Int) := by omega
      have hSr' := hSr
      obtain ⟨sb, so, rfl⟩ := hSr.head (by omega)
      have hsg : sb ≠ g + 2 := by have h5 := (sai_el h2 hlt).1; have := HG.out; omega
      obtain ⟨bl, y, hy, hcr⟩ := sai_el hSr hlt
      have ff0 : wr.cell? ⟨sb, so + k * 3, none⟩ = some (.int .i64 y.cl) := hcr 0 _ rfl
      have ff1 : wr.cell? ⟨sb, so + k * 3 + 1, none⟩ = some (.int .i64 y.no) := hcr 1 _ rfl
      have ff2 : wr.cell? ⟨sb, so + k * 3 + 2, none⟩ = some (.string y.tx) := hcr 2 _ rfl
      have HRD := Lib.hid (repS_drop m hy)
      clear hy hcr hSr'
      by_cases hcl : y.cl = m.cl
      · have g1 : (y.cl == m.cl) = true := beq_iff_eq.2 hcl
        have g1n : (y.cl != m.cl) = false := by simp [hcl]
        by_cases hno : y.no = m.no
        · have g2 : (y.no == m.no) = true := beq_iff_eq.2 hno
          have HN := Lib.hid (show repS x.said m = some y.tx by rw [HRP.out, HRD.out, if_neg (by simpa using hcl), if_pos hno])
          clear hcl hno
          go_wp2_with fail
          refine wp_region_grow (by kernel_rfl) (by kernel_rfl) ?_
          repeat (first | go_big_quiet_step (fail))
          refine wpQuiet_nil ?_
          intro _ hw'
          obtain ⟨⟨w5, hb5⟩, hw''⟩ := hw'
          change _ = w5 at hw''
          subst hw''
          obtain ⟨w5, hV⟩ := Below.nam hb5; subst hV
          have fk0_ := keep_cell hb5 ff0; clear ff0; have ff0 := fk0_; clear fk0_
          have fk1_ := keep_cell hb5 ff1; clear ff1; have ff1 := fk1_; clear fk1_
          have fk2_ := keep_cell hb5 ff2; clear ff2; have ff2 := fk2_; clear fk2_
          clear bl; have bl := cell_lt ff0
          have R15 := R1r.keep cstK hb5; have R25 := R2r.keep saiK hb5
          have BX5 := BXr.keep hb5; have BM5 := BMr.keep hb5; have BO5 := BOr.keep hb5; have BQ5 := BQr.keep hb5
          have hR5 := hRr.keep cstK hb5; have hS5 := hSr.keep saiK hb5; have m5 := mr.keep hb5
          have hg5 : Below g w w5 := hgr.trans (hb5.mono (show g ≤ wr.heap.size by omega))
          have hgz5 : q < w5.heap.size := BQ5.lt
          clear R1r R2r BXr BMr BOr BQr hRr hSr mr hgr hgzr l0 l1 l2 hb5 o0 o1 of og q0 q1 qf qg x0 x1 y1 y2
          have o0 := BO5.cell 0 _ rfl; have o1 := BO5.cell 1 _ rfl; have of := BO5.fz 0 (by simp); have og := BO5.fz 1 (by simp)
          have q0 := BQ5.cell 0 _ rfl; have q1 := BQ5.cell 1 _ rfl; have x0 := BX5.cell 0 _ rfl; have x1 := BX5.cell 1 _ rfl
          have qf := BQ5.fz 0 (by simp); have qg := BQ5.fz 1 (by simp)
          have y1 := BM5.cell 1 _ rfl; have y2 := BM5.cell 2 _ rfl
          have l0 : g < w5.heap.size := by omega
          have l1 : g + 1 < w5.heap.size := by omega
          have l2 : g + 2 < w5.heap.size := by omega
          go_wp2_with fail
          refine wp_region_grow (by kernel_rfl) (by kernel_rfl) ?_
          repeat (first | go_big_quiet_step (fail))
          refine wpQuiet_nil ?_
          intro _ hw'
          obtain ⟨⟨w6, hb6⟩, hw''⟩ := hw'
          change _ = w6 at hw''
          subst hw''
          obtain ⟨w6, hV⟩ := Below.nam hb6; subst hV
          have fk0_ := keep_cell hb6 ff0; clear ff0; have ff0 := fk0_; clear fk0_
          have fk1_ := keep_cell hb6 ff1; clear ff1; have ff1 := fk1_; clear fk1_
          have fk2_ := keep_cell hb6 ff2; clear ff2; have ff2 := fk2_; clear fk2_
          clear bl; have bl := cell_lt ff0
          have R16 := R15.keep cstK hb6; have R26 := R25.keep saiK hb6
          have BX6 := BX5.keep hb6; have BM6 := BM5.keep hb6; have BO6 := BO5.keep hb6; have BQ6 := BQ5.keep hb6
          have hR6 := hR5.keep cstK hb6; have hS6 := hS5.keep saiK hb6; have m6 := m5.keep hb6
          have hg6 : Below g w w6 := hg5.trans (hb6.mono (show g ≤ w5.heap.size by omega))
          have hgz6 : q < w6.heap.size := BQ6.lt
          clear R15 R25 BX5 BM5 BO5 BQ5 hR5 hS5 m5 hg5 hgz5 l0 l1 l2 hb6 o0 o1 of og q0 q1 qf qg x0 x1 y1 y2
          have o0 := BO6.cell 0 _ rfl; have o1 := BO6.cell 1 _ rfl; have of := BO6.fz 0 (by simp); have og := BO6.fz 1 (by simp)
          have q0 := BQ6.cell 0 _ rfl; have q1 := BQ6.cell 1 _ rfl; have x0 := BX6.cell 0 _ rfl; have x1 := BX6.cell 1 _ rfl
          have qf := BQ6.fz 0 (by simp); have qg := BQ6.fz 1 (by simp)
          have y1 := BM6.cell 1 _ rfl; have y2 := BM6.cell 2 _ rfl
          have l0 : g < w6.heap.size := by omega
          have l1 : g + 1 < w6.heap.size := by omega
          have l2 : g + 2 < w6.heap.size := by omega
          go_wp2_with fail
          refine wp_region_dagb [50, 51, 52, 53, 54, 55, 56, 5] (by kernel_rfl) (by kernel_rfl) (fun D vs w' => ∃ v50 v51 v52 v53 v54 v55 v56 v5 : Value, vs = [v50, v51, v52, v53, v54, v55, v56, v5] ∧ Ch (fun b => b = g + 2) w6 w' ∧ (D 7 = false → BoxL w' (g + 2) [.slice none 0 0, .slice none 0 0]) ∧ (D 0 = true → v50 = .agg #[.slice B1 m1 d1, .slice B2 m2 d2]) ∧ (D 1 = true → v51 = .pointer (some ⟨g, 1, none⟩)) ∧ (D 2 = true → v52 = .slice (some ⟨sb, so, none⟩) n2 c2) ∧ (D 3 = true → v53 = .int .i64 (k : Int)) ∧ (D 4 = true → v54 = .pointer (some ⟨sb, so + k * 3, none⟩)) ∧ (D 5 = true → v55 = .pointer (some ⟨sb, so + k * 3 + 2, none⟩)) ∧ (D 6 = true → v56 = .string y.tx) ∧ (D 7 = true → BoxL w' (g + 2) [.slice B1 m1 d1, .slice B2 m2 d2]) ∧ (D 8 = true → v5 = .string y.tx))
            ⟨_, _, _, _, _, _, _, _, rfl, (Ch.of_below (Below.refl _ _).drew), (fun _ => BO6.keep (Below.refl _ _).drew), (fun h => by cases h), (fun h => by cases h), (fun h => by cases h), (fun h => by cases h), (fun h => by cases h), (fun h => by cases h), (fun h => by cases h), (fun h => by cases h), (fun h => by cases h)⟩ ?_ ?_
          · intro i D vs w' hi hD hdep hcl hI
            have hi' : i < 9 := hi
            obtain ⟨v50, v51, v52, v53, v54, v55, v56, v5, rfl, hC, hO, k0, k1, k2, k3, k4, k5, k6, k7, k8⟩ := hI
            simp only [putAll, List.setIfInBounds_toArray, List.set_cons_succ, List.set_cons_zero]
            rcases (show i = 0 ∨ i = 1 ∨ i = 2 ∨ i = 3 ∨ i = 4 ∨ i = 5 ∨ i = 6 ∨ i = 7 ∨ i = 8 by omega) with rfl | rfl | rfl | rfl | rfl | rfl | rfl | rfl | rfl
            · have q7 := hC.cell q0 (by omega)
              have q8 := hC.cell q1 (by omega)
              refine wpOp_step (by simp only [List.getElem?_toArray, List.getElem?_cons_zero]; rfl) (fun K hK => ?_)
              go_simp
              refine hK _ _ ⟨[.agg #[.slice B1 m1 d1, .slice B2 m2 d2], v51, v52, v53, v54, v55, v56, v5], ?_, _, _, _, _, _, _, _, _, rfl, hC, hO, (fun _ => rfl), k1, k2, k3, k4, k5, k6, k7, k8⟩
              simp only [putAll, List.setIfInBounds_toArray, List.set_cons_succ, List.set_cons_zero] <;> rfl
            · refine wpOp_step (by simp only [List.getElem?_toArray, List.getElem?_cons_succ, List.getElem?_cons_zero]; rfl) (fun K hK => ?_)
              go_simp
              refine hK _ _ ⟨[v50, .pointer (some ⟨g, 1, none⟩), v52, v53, v54, v55, v56, v5], ?_, _, _, _, _, _, _, _, _, rfl, hC, hO, k0, (fun _ => rfl), k2, k3, k4, k5, k6, k7, k8⟩
              simp only [putAll, List.setIfInBounds_toArray, List.set_cons_succ, List.set_cons_zero] <;> rfl
            · have e1 := k1 (hdep 1 (by kernel_rfl))
              subst e1
              have q7 := hC.cell x1 (by omega)
              refine wpOp_step (by simp only [List.getElem?_toArray, List.getElem?_cons_succ, List.getElem?_cons_zero]; rfl) (fun K hK => ?_)
              go_simp
              refine hK _ _ ⟨[v50, .pointer (some ⟨g, 1, none⟩), .slice (some ⟨sb, so, none⟩) n2 c2, v53, v54, v55, v56, v5], ?_, _, _, _, _, _, _, _, _, rfl, hC, hO, k0, (fun _ => rfl), (fun _ => rfl), k3, k4, k5, k6, k7, k8⟩
              simp only [putAll, List.setIfInBounds_toArray, List.set_cons_succ, List.set_cons_zero] <;> rfl
            · refine wpOp_step (by simp only [List.getElem?_toArray, List.getElem?_cons_succ, List.getElem?_cons_zero]; rfl) (fun K hK => ?_)
              go_simp
              refine hK _ _ ⟨[v50, v51, v52, .int .i64 (k : Int), v54, v55, v56, v5], ?_, _, _, _, _, _, _, _, _, rfl, hC, hO, k0, k1, k2, (fun _ => rfl), k4, k5, k6, k7, k8⟩
              simp only [putAll, List.setIfInBounds_toArray, List.set_cons_succ, List.set_cons_zero] <;> rfl
            · have e2 := k2 (hdep 2 (by kernel_rfl))
              subst e2
              have e3 := k3 (hdep 3 (by kernel_rfl))
              subst e3
              refine wpOp_step (by simp only [List.getElem?_toArray, List.getElem?_cons_succ, List.getElem?_cons_zero]; rfl) (fun K hK => ?_)
              go_simp
              refine hK _ _ ⟨[v50, v51, .slice (some ⟨sb, so, none⟩) n2 c2, .int .i64 (k : Int), .pointer (some ⟨sb, so + k * 3, none⟩), v55, v56, v5], ?_, _, _, _, _, _, _, _, _, rfl, hC, hO, k0, k1, (fun _ => rfl), (fun _ => rfl), (fun _ => rfl), k5, k6, k7, k8⟩
              simp only [putAll, List.setIfInBounds_toArray, List.set_cons_succ, List.set_cons_zero] <;> rfl
            · have e4 := k4 (hdep 4 (by kernel_rfl))
              subst e4
              refine wpOp_step (by simp only [List.getElem?_toArray, List.getElem?_cons_succ, List.getElem?_cons_zero]; rfl) (fun K hK => ?_)
              go_simp
              refine hK _ _ ⟨[v50, v51, v52, v53, .pointer (some ⟨sb, so + k * 3, none⟩), .pointer (some ⟨sb, so + k * 3 + 2, none⟩), v56, v5], ?_, _, _, _, _, _, _, _, _, rfl, hC, hO, k0, k1, k2, k3, (fun _ => rfl), (fun _ => rfl), k6, k7, k8⟩
              simp only [putAll, List.setIfInBounds_toArray, List.set_cons_succ, List.set_cons_zero] <;> rfl
            · have e5 := k5 (hdep 5 (by kernel_rfl))
              subst e5
              have q7 := hC.cell ff2 (by omega)
              refine wpOp_step (by simp only [List.getElem?_toArray, List.getElem?_cons_succ, List.getElem?_cons_zero]; rfl) (fun K hK => ?_)
              go_simp
              refine hK _ _ ⟨[v50, v51, v52, v53, v54, .pointer (some ⟨sb, so + k * 3 + 2, none⟩), .string y.tx, v5], ?_, _, _, _, _, _, _, _, _, rfl, hC, hO, k0, k1, k2, k3, k4, (fun _ => rfl), (fun _ => rfl), k7, k8⟩
              simp only [putAll, List.setIfInBounds_toArray, List.set_cons_succ, List.set_cons_zero] <;> rfl
            · have e0 := k0 (hdep 0 (by kernel_rfl))
              subst e0
              have o7 := (hO hD).cell 0 _ rfl
              have o8 := (hO hD).cell 1 _ rfl
              have y7 := (hO hD).fz 0 (by simp)
              have y8 := (hO hD).fz 1 (by simp)
              have hs7 := (hO hD).setCells (vs := [.slice B1 m1 d1, .slice B2 m2 d2]) rfl
              have one := ch_setCells (g := g + 2) [.slice B1 m1 d1, .slice B2 m2 d2] 0 w'
              refine wpOp_step (by simp only [List.getElem?_toArray, List.getElem?_cons_succ, List.getElem?_cons_zero]; rfl) (fun K hK => ?_)
              go_simp
              refine hK _ _ ⟨[.agg #[.slice B1 m1 d1, .slice B2 m2 d2], v51, v52, v53, v54, v55, v56, v5], ?_, _, _, _, _, _, _, _, _, rfl, (hC.trans one), (fun h => absurd h (by simp)), (fun _ => rfl), k1, k2, k3, k4, k5, k6, (fun _ => hs7), k8⟩
              simp only [putAll, List.setIfInBounds_toArray, List.set_cons_succ, List.set_cons_zero] <;> rfl
            · have e6 := k6 (hdep 6 (by kernel_rfl))
              subst e6
              refine wpOp_step (by simp only [List.getElem?_toArray, List.getElem?_cons_succ, List.getElem?_cons_zero]; rfl) (fun K hK => ?_)
              go_simp
              refine hK _ _ ⟨[v50, v51, v52, v53, v54, v55, .string y.tx, .string y.tx], ?_, _, _, _, _, _, _, _, _, rfl, hC, hO, k0, k1, k2, k3, k4, k5, (fun _ => rfl), k7, (fun _ => rfl)⟩
              simp only [putAll, List.setIfInBounds_toArray, List.set_cons_succ, List.set_cons_zero] <;> rfl
          · intro D vs w' hD hI
            obtain ⟨v50, v51, v52, v53, v54, v55, v56, v5, rfl, hC, hO, k0, k1, k2, k3, k4, k5, k6, k7, k8⟩ := hI
            simp only [putAll, List.setIfInBounds_toArray, List.set_cons_succ, List.set_cons_zero]
            have hBo := k7 (hD 7 (show 7 < 9 by decide))
            have h8 := k8 (hD 8 (show 8 < 9 by decide))
            subst h8
            clear hD hO
            have hWr := hBo.range
            go_wp2
            refine bodyPost_ret (results_cell_tmp Tryz.results79 rfl hWr Tryz.underlying30 rfl sizeState0) rfl ?_
            rw [HD.out, stGo_some HN.out]
            exact sta_out2 (s := (x, y.tx)) (g := g) (p := g + 2) R16 R26 N F4 hg6 HG.out (by omega) l2 hC
        have g2 : (y.no == m.no) = false := beq_eq_false_iff_ne.2 hno
        by_cases hlo : m.no < y.no
        · have g3 : decide (y.no > m.no) = true := decide_eq_true hlo
          have HN := Lib.hid (show repS x.said m = some oldT by rw [HRP.out, HRD.out, if_neg (by simpa using hcl), if_neg hno, if_pos hlo])
          clear hcl hno hlo
          go_wp2_with fail
          refine wp_region_grow (by kernel_rfl) (by kernel_rfl) ?_
          repeat (first | go_big_quiet_step (fail))
          refine wpQuiet_nil ?_
          intro _ hw'
          obtain ⟨⟨w5, hb5⟩, hw''⟩ := hw'
          change _ = w5 at hw''
          subst hw''
          obtain ⟨w5, hV⟩ := Below.nam hb5; subst hV
          have fk0_ := keep_cell hb5 ff0; clear ff0; have ff0 := fk0_; clear fk0_
          have fk1_ := keep_cell hb5 ff1; clear ff1; have ff1 := fk1_; clear fk1_
          have fk2_ := keep_cell hb5 ff2; clear ff2; have ff2 := fk2_; clear fk2_
          clear bl; have bl := cell_lt ff0
          have R15 := R1r.keep cstK hb5; have R25 := R2r.keep saiK hb5
          have BX5 := BXr.keep hb5; have BM5 := BMr.keep hb5; have BO5 := BOr.keep hb5; have BQ5 := BQr.keep hb5
          have hR5 := hRr.keep cstK hb5; have hS5 := hSr.keep saiK hb5; have m5 := mr.keep hb5
          have hg5 : Below g w w5 := hgr.trans (hb5.mono (show g ≤ wr.heap.size by omega))
          have hgz5 : q < w5.heap.size := BQ5.lt
          clear R1r R2r BXr BMr BOr BQr hRr hSr mr hgr hgzr l0 l1 l2 hb5 o0 o1 of og q0 q1 qf qg x0 x1 y1 y2
          have o0 := BO5.cell 0 _ rfl; have o1 := BO5.cell 1 _ rfl; have of := BO5.fz 0 (by simp); have og := BO5.fz 1 (by simp)
          have q0 := BQ5.cell 0 _ rfl; have q1 := BQ5.cell 1 _ rfl; have x0 := BX5.cell 0 _ rfl; have x1 := BX5.cell 1 _ rfl
          have qf := BQ5.fz 0 (by simp); have qg := BQ5.fz 1 (by simp)
          have y1 := BM5.cell 1 _ rfl; have y2 := BM5.cell 2 _ rfl
          have l0 : g < w5.heap.size := by omega
          have l1 : g + 1 < w5.heap.size := by omega
          have l2 : g + 2 < w5.heap.size := by omega
          go_wp2_with fail
          refine wp_region_grow (by kernel_rfl) (by kernel_rfl) ?_
          repeat (first | go_big_quiet_step (fail))
          refine wpQuiet_nil ?_
          intro _ hw'
          obtain ⟨⟨w6, hb6⟩, hw''⟩ := hw'
          change _ = w6 at hw''
          subst hw''
          obtain ⟨w6, hV⟩ := Below.nam hb6; subst hV
          have fk0_ := keep_cell hb6 ff0; clear ff0; have ff0 := fk0_; clear fk0_
          have fk1_ := keep_cell hb6 ff1; clear ff1; have ff1 := fk1_; clear fk1_
          have fk2_ := keep_cell hb6 ff2; clear ff2; have ff2 := fk2_; clear fk2_
          clear bl; have bl := cell_lt ff0
          have R16 := R15.keep cstK hb6; have R26 := R25.keep saiK hb6
          have BX6 := BX5.keep hb6; have BM6 := BM5.keep hb6; have BO6 := BO5.keep hb6; have BQ6 := BQ5.keep hb6
          have hR6 := hR5.keep cstK hb6; have hS6 := hS5.keep saiK hb6; have m6 := m5.keep hb6
          have hg6 : Below g w w6 := hg5.trans (hb6.mono (show g ≤ w5.heap.size by omega))
          have hgz6 : q < w6.heap.size := BQ6.lt
          clear R15 R25 BX5 BM5 BO5 BQ5 hR5 hS5 m5 hg5 hgz5 l0 l1 l2 hb6 o0 o1 of og q0 q1 qf qg x0 x1 y1 y2
          have o0 := BO6.cell 0 _ rfl; have o1 := BO6.cell 1 _ rfl; have of := BO6.fz 0 (by simp); have og := BO6.fz 1 (by simp)
          have q0 := BQ6.cell 0 _ rfl; have q1 := BQ6.cell 1 _ rfl; have x0 := BX6.cell 0 _ rfl; have x1 := BX6.cell 1 _ rfl
          have qf := BQ6.fz 0 (by simp); have qg := BQ6.fz 1 (by simp)
          have y1 := BM6.cell 1 _ rfl; have y2 := BM6.cell 2 _ rfl
          have l0 : g < w6.heap.size := by omega
          have l1 : g + 1 < w6.heap.size := by omega
          have l2 : g + 2 < w6.heap.size := by omega
          go_wp2_with fail
          refine wp_region_grow (by kernel_rfl) (by kernel_rfl) ?_
          repeat (first | go_big_quiet_step (fail))
          refine wpQuiet_nil ?_
          intro _ hw'
          obtain ⟨⟨w7, hb7⟩, hw''⟩ := hw'
          change _ = w7 at hw''
          subst hw''
          obtain ⟨w7, hV⟩ := Below.nam hb7; subst hV
          have fk0_ := keep_cell hb7 ff0; clear ff0; have ff0 := fk0_; clear fk0_
          have fk1_ := keep_cell hb7 ff1; clear ff1; have ff1 := fk1_; clear fk1_
          have fk2_ := keep_cell hb7 ff2; clear ff2; have ff2 := fk2_; clear fk2_
          clear bl; have bl := cell_lt ff0
          have R17 := R16.keep cstK hb7; have R27 := R26.keep saiK hb7
          have BX7 := BX6.keep hb7; have BM7 := BM6.keep hb7; have BO7 := BO6.keep hb7; have BQ7 := BQ6.keep hb7
          have hR7 := hR6.keep cstK hb7; have hS7 := hS6.keep saiK hb7; have m7 := m6.keep hb7
          have hg7 : Below g w w7 := hg6.trans (hb7.mono (show g ≤ w6.heap.size by omega))
          have hgz7 : q < w7.heap.size := BQ7.lt
          clear R16 R26 BX6 BM6 BO6 BQ6 hR6 hS6 m6 hg6 hgz6 l0 l1 l2 hb7 o0 o1 of og q0 q1 qf qg x0 x1 y1 y2
          have o0 := BO7.cell 0 _ rfl; have o1 := BO7.cell 1 _ rfl; have of := BO7.fz 0 (by simp); have og := BO7.fz 1 (by simp)
          have q0 := BQ7.cell 0 _ rfl; have q1 := BQ7.cell 1 _ rfl; have x0 := BX7.cell 0 _ rfl; have x1 := BX7.cell 1 _ rfl
          have qf := BQ7.fz 0 (by simp); have qg := BQ7.fz 1 (by simp)
          have y1 := BM7.cell 1 _ rfl; have y2 := BM7.cell 2 _ rfl
          have l0 : g < w7.heap.size := by omega
          have l1 : g + 1 < w7.heap.size := by omega
          have l2 : g + 2 < w7.heap.size := by omega
          have hWr := (BO7.setCells (vs := [.slice B1 m1 d1, .slice B2 m2 d2]) rfl).range
          go_wp2
          refine bodyPost_ret (results_cell_tmp Tryz.results79 rfl hWr Tryz.underlying30 rfl sizeState0) rfl ?_
          rw [HD.out, stGo_some HN.out]
          exact sta_out (s := (x, oldT)) (g := g) (p := g + 2) R17 R27 N F4 hg7 HG.out (by omega) l2
        have g3 : decide (y.no > m.no) = false := decide_eq_false hlo
        have HJ := Lib.hid (show repS x.said m = repS (x.said.drop (k + 1)) m by rw [HRP.out, HRD.out, if_neg (by simpa using hcl), if_neg hno, if_neg hlo])
        clear hcl hno hlo
        go_wp2_with fail
        refine wp_region_grow (by kernel_rfl) (by kernel_rfl) ?_
        repeat (first | go_big_quiet_step (fail))
        refine wpQuiet_nil ?_
        intro _ hw'
        obtain ⟨⟨w5, hb5⟩, hw''⟩ := hw'
        change _ = w5 at hw''
        subst hw''
        obtain ⟨w5, hV⟩ := Below.nam hb5; subst hV
        have HB5 := Lib.hid (bthen HBR.out hb5)
        have fk0_ := keep_cell hb5 ff0; clear ff0; have ff0 := fk0_; clear fk0_
        have fk1_ := keep_cell hb5 ff1; clear ff1; have ff1 := fk1_; clear fk1_
        have fk2_ := keep_cell hb5 ff2; clear ff2; have ff2 := fk2_; clear fk2_
        clear bl; have bl := cell_lt ff0
        have R15 := R1r.keep cstK hb5; have R25 := R2r.keep saiK hb5
        have BX5 := BXr.keep hb5; have BM5 := BMr.keep hb5; have BO5 := BOr.keep hb5; have BQ5 := BQr.keep hb5
        have hR5 := hRr.keep cstK hb5; have hS5 := hSr.keep saiK hb5; have m5 := mr.keep hb5
        have hg5 : Below g w w5 := hgr.trans (hb5.mono (show g ≤ wr.heap.size by omega))
        have hgz5 : q < w5.heap.size := BQ5.lt
        clear R1r R2r BXr BMr BOr BQr hRr hSr mr hgr hgzr l0 l1 l2 hb5 o0 o1 of og q0 q1 qf qg x0 x1 y1 y2
        have o0 := BO5.cell 0 _ rfl; have o1 := BO5.cell 1 _ rfl; have of := BO5.fz 0 (by simp); have og := BO5.fz 1 (by simp)
        have q0 := BQ5.cell 0 _ rfl; have q1 := BQ5.cell 1 _ rfl; have x0 := BX5.cell 0 _ rfl; have x1 := BX5.cell 1 _ rfl
        have qf := BQ5.fz 0 (by simp); have qg := BQ5.fz 1 (by simp)
        have y1 := BM5.cell 1 _ rfl; have y2 := BM5.cell 2 _ rfl
        have l0 : g < w5.heap.size := by omega
        have l1 : g + 1 < w5.heap.size := by omega
        have l2 : g + 2 < w5.heap.size := by omega
        go_wp2_with fail
        refine wp_region_grow (by kernel_rfl) (by kernel_rfl) ?_
        repeat (first | go_big_quiet_step (fail))
        refine wpQuiet_nil ?_
        intro _ hw'
        obtain ⟨⟨w6, hb6⟩, hw''⟩ := hw'
        change _ = w6 at hw''
        subst hw''
        obtain ⟨w6, hV⟩ := Below.nam hb6; subst hV
        have HB6 := Lib.hid (bthen HB5.out hb6)
        have fk0_ := keep_cell hb6 ff0; clear ff0; have ff0 := fk0_; clear fk0_
        have fk1_ := keep_cell hb6 ff1; clear ff1; have ff1 := fk1_; clear fk1_
        have fk2_ := keep_cell hb6 ff2; clear ff2; have ff2 := fk2_; clear fk2_
        clear bl; have bl := cell_lt ff0
        have R16 := R15.keep cstK hb6; have R26 := R25.keep saiK hb6
        have BX6 := BX5.keep hb6; have BM6 := BM5.keep hb6; have BO6 := BO5.keep hb6; have BQ6 := BQ5.keep hb6
        have hR6 := hR5.keep cstK hb6; have hS6 := hS5.keep saiK hb6; have m6 := m5.keep hb6
        have hg6 : Below g w w6 := hg5.trans (hb6.mono (show g ≤ w5.heap.size by omega))
        have hgz6 : q < w6.heap.size := BQ6.lt
        clear R15 R25 BX5 BM5 BO5 BQ5 hR5 hS5 m5 hg5 hgz5 l0 l1 l2 hb6 o0 o1 of og q0 q1 qf qg x0 x1 y1 y2
        have o0 := BO6.cell 0 _ rfl; have o1 := BO6.cell 1 _ rfl; have of := BO6.fz 0 (by simp); have og := BO6.fz 1 (by simp)
        have q0 := BQ6.cell 0 _ rfl; have q1 := BQ6.cell 1 _ rfl; have x0 := BX6.cell 0 _ rfl; have x1 := BX6.cell 1 _ rfl
        have qf := BQ6.fz 0 (by simp); have qg := BQ6.fz 1 (by simp)
        have y1 := BM6.cell 1 _ rfl; have y2 := BM6.cell 2 _ rfl
        have l0 : g < w6.heap.size := by omega
        have l1 : g + 1 < w6.heap.size := by omega
        have l2 : g + 2 < w6.heap.size := by omega
        go_wp2_with fail
        refine wp_region_grow (by kernel_rfl) (by kernel_rfl) ?_
        repeat (first | go_big_quiet_step (fail))
        refine wpQuiet_nil ?_
        intro _ hw'
        obtain ⟨⟨w7, hb7⟩, hw''⟩ := hw'
        change _ = w7 at hw''
        subst hw''
        have HB7 := Lib.hid (bthen HB6.out hb7)
        go_wp2
        exact ⟨⟨k + 1, by omega, by go_num, HJ.out, HB7.out⟩, by simp [intOf]; omega⟩
      · have g1 : (y.cl == m.cl) = false := beq_eq_false_iff_ne.2 hcl
        have g1n : (y.cl != m.cl) = true := by simp [hcl]
        have HJ := Lib.hid (show repS x.said m = repS (x.said.drop (k + 1)) m by rw [HRP.out, HRD.out, if_pos hcl])
        clear hcl
        go_wp2_with fail
        refine wp_region_grow (by kernel_rfl) (by kernel_rfl) ?_
        repeat (first | go_big_quiet_step (fail))
        refine wpQuiet_nil ?_
        intro _ hw'
        obtain ⟨⟨w5, hb5⟩, hw''⟩ := hw'
        change _ = w5 at hw''
        subst hw''
        have HB5 := Lib.hid (bthen HBR.out hb5)
        go_wp2
        exact ⟨⟨k + 1, by omega, by go_num, HJ.out, HB5.out⟩, by simp [intOf]; omega⟩
    · have HN := Lib.hid (show repS x.said m = none by rw [HRP.out, List.drop_eq_nil_of_le (by have := HL.out; omega), repS])
      have HP := Lib.hid (show putF x.said (saiNew x m) false = putS x.said (saiNew x m) from putF_put _ (saisOk_rise HS2.out))
      have y0 := BMr.cell 0 _ rfl; have y3 := BMr.cell 3 _ rfl; have y4 := BMr.cell 4 _ rfl; have y5 := BMr.cell 5 _ rfl; have y6 := BMr.cell 6 _ rfl; have y7 := BMr.cell 7 _ rfl
      go_wp2_with fail
      have hdo := catDo_spec x.cat m B1 m1 d1 A3 n3 c3 wr (R1r.at_ cstK (by omega)) hbd.1 mr hmB
      unfold ctlV cmV at hdo
      refine hdo.mono ?_
      intro e w8 hout
      obtain ⟨E1, j1, k1, fc, rfl, RC, NC, FC, hb8⟩ := hout.out
      clear hdo hout y0 y3 y4 y5 y6 y7
      have hqs := BQr.lt
      have FC8 : ∀ t ∈ fc, q < t := fun t ht => by have := FC t ht; omega
      have R18 := R1r.keep cstK hb8; have R28 := R2r.keep saiK hb8
      have BX8 := BXr.keep hb8; have BM8 := BMr.keep hb8; have BO8 := BOr.keep hb8; have BQ8 := BQr.keep hb8
      have hR8 := hRr.keep cstK hb8; have hS8 := hSr.keep saiK hb8; have m8 := mr.keep hb8
      have hg8 : Below g w w8 := hgr.trans (hb8.mono (show g ≤ wr.heap.size by omega))
      have hgz8 : q < w8.heap.size := BQ8.lt
      clear R1r R2r BXr BMr BOr BQr hRr hSr mr hgr hgzr l0 l1 l2 hb8 o0 o1 of og q0 q1 qf qg x0 x1 y1 y2
      have o0 := BO8.cell 0 _ rfl; have o1 := BO8.cell 1 _ rfl; have of := BO8.fz 0 (by simp); have og := BO8.fz 1 (by simp)
      have q0 := BQ8.cell 0 _ rfl; have q1 := BQ8.cell 1 _ rfl; have x0 := BX8.cell 0 _ rfl; have x1 := BX8.cell 1 _ rfl
      have qf := BQ8.fz 0 (by simp); have qg := BQ8.fz 1 (by simp)
      have y1 := BM8.cell 1 _ rfl; have y2 := BM8.cell 2 _ rfl
      have l0 : g < w8.heap.size := by omega
      have l1 : g + 1 < w8.heap.size := by omega
      have l2 : g + 2 < w8.heap.size := by omega
      clear FC hqs
      have cq := Ch.set (w := w8) (g := q) (o := 0) (v := .slice E1 j1 k1)
      have a5 := (Below.refl (w8.setCell ⟨q, 0, none⟩ (.slice E1 j1 k1)).heap.size (w8.setCell ⟨q, 0, none⟩ (.slice E1 j1 k1))).alloc (Nat.le_refl _) (.cells #[.slice E1 j1 k1] 27)
      have FD : ∀ t ∈ f2, g + 2 < t ∧ t < q := fun t ht => F3 t (List.mem_append_right _ ht)
      have RC9 := (RC.ch cstK cq (fun b hb e => by have h5 := FC8 b hb; have e : b = q := e; omega)).keep cstK a5
      have R29 := (R28.ch saiK cq (fun b hb e => by have h5 := FD b hb; have e : b = q := e; omega)).keep saiK a5
      have BO9 := (BO8.ch cq (ne_blk (by omega))).keep a5
      have BQ9 := (BQ8.set (j := 0) (v := .slice E1 j1 k1) (by simp)).keep a5
      simp only [List.set_cons_zero] at BQ9
      have hg9 := bthen (show Below w.heap.size w (w8.setCell ⟨q, 0, none⟩ (.slice E1 j1 k1)) by rw [HG.out]; exact cq.belowB hg8 (by omega) (fun k hk => by have hk : k = q := hk; omega)) a5
      have hSU := R29.at_ saiK (by omega)
      go_wp2_with fail
      have hps := put_spec x.said (saiNew x m) B2 m2 d2 _ hSU hm2
      unfold saiV saiNew at hps
      refine hps.mono ?_
      rintro e w9 ⟨P, pm, pc, rfl, RP, FP, hb9⟩
      clear hps
      have FCl := RC.lt cstK
      have hU9 : w8.heap.size ≤ (((w8.setCell ⟨q, 0, none⟩ (.slice E1 j1 k1)).alloc (.cells #[.slice E1 j1 k1] 27))).heap.size := Nat.le_trans cq.size a5.size
      have BQ10 := BQ9.keep hb9; have BO10 := BO9.keep hb9
      have RC10 := RC9.keep cstK hb9
      have hg10 := bthen hg9 hb9
      rw [HG.out] at hg10
      have hz9 := hb9.size
      have cr := Ch.set (w := w9) (g := q) (o := 1) (v := .slice P pm pc)
      have BO11 := BO10.ch cr (ne_blk (by omega))
      have RC11 := RC10.ch cstK cr (fun b hb e => by have h5 := FC8 b hb; have e : b = q := e; omega)
      have RP11 := RP.ch saiK cr (fun b hb e => by have h5 := FP b hb; have e : b = q := e; omega)
      have hg11 := cr.belowB hg10 (by omega) (fun k hk => by have hk : k = q := hk; omega)
      have hz11 := cr.size
      have hNN : (fc ++ blkL P).Nodup := List.nodup_append.2 ⟨NC, by cases P <;> simp [blkL], fun a ha b hb e => by have h5 := FCl a ha; have h6 := FP b hb; omega⟩
      have hFF : ∀ b ∈ fc ++ blkL P, g ≤ b ∧ b ≠ g + 2 := fun b hb => by rcases List.mem_append.1 hb with h5 | h5; (have h6 := FC8 b h5; omega); (have h6 := FP b h5; omega)
      have hWr := (BO11.setCells (vs := [.slice E1 j1 k1, .slice P pm pc]) rfl).range
      clear o0 o1 of og q0 q1 qf qg x0 x1 y1 y2 l0 l1 l2
      have o0 := BO10.cell 0 _ rfl; have o1 := BO10.cell 1 _ rfl; have of := BO10.fz 0 (by simp); have og := BO10.fz 1 (by simp)
      have q0 := BQ10.cell 0 _ rfl; have q1 := BQ10.cell 1 _ rfl; have qg := BQ10.fz 1 (by simp)
      have l2 := BO10.lt; have lq := BQ10.lt
      have hnq1 : ¬ (g + 2 = q) := by omega
      have hnq2 : ¬ (q = g + 2) := by omega
      have HWR := Lib.hid hWr; have HZ := Lib.hid (And.intro hz9 hz11); clear hWr hz9 hz11 BQ10 BO10 BO11 RC10 RP hg10
      go_wp2
      refine bodyPost_ret (results_cell_tmp Tryz.results79 rfl HWR.out Tryz.underlying30 rfl sizeState0) rfl ?_
      rw [HD.out, stGo_none HN.out, ← HP.out]
      exact sta_out (g := g) (p := g + 2) RC11 RP11 hNN hFF hg11 HG.out (by omega) (by have := HZ.out; omega)
end Go.Proofs.YtdphdnllhmnelaaGreat
