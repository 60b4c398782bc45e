/- Contracts and lemmas: StateDo. -/
import Derived.Test.YtdphdnllhmnelaaJ34
import Derived.Test.YtdphdnllhmnelaaJ35
/- The program's StateDo. -/
namespace Go.Proofs.Ytdphdnllhmnelaa
open Go.RowKit
attribute [local go_sem] Grow.cell Grow.frozen
/-- what a step leaves -/
def StaOut (s : Sta × ByteArray) (w : World) (e : Ending) (w' : World) : Prop :=
  ∃ B1 m1 d1 B2 m2 d2 f1 f2, e = .returned (.tuple #[staV s.1 (.slice B1 m1 d1) (.slice B2 m2 d2), .string s.2]) ∧ RowO cstF 148 2 f1 w' B1 m1 d1 s.1.cat.sets ∧ RowO saiF 153 3 f2 w' B2 m2 d2 s.1.said ∧ (f1 ++ f2).Nodup ∧ (∀ b ∈ f1 ++ f2, w.heap.size ≤ b) ∧ Below w.heap.size w w'
theorem sta_out2 {s : Sta × ByteArray} {w w5 w' : World} {B1 B2 : Option Addr} {m1 d1 m2 d2 g p : Nat} {f1 f2 : List Nat} (R1 : RowO cstF 148 2 f1 w5 B1 m1 d1 s.1.cat.sets) (R2 : RowO saiF 153 3 f2 w5 B2 m2 d2 s.1.said) (hN : (f1 ++ f2).Nodup)
    (hF : ∀ b ∈ f1 ++ f2, g ≤ b ∧ b ≠ p) (hb : Below g w w5) (hg : w.heap.size = g) (hp : g ≤ p) (hp5 : p < w5.heap.size) (hch : Ch (fun b => b = p) w5 w') : StaOut s w (.returned (.tuple #[.agg #[.slice B1 m1 d1, .slice B2 m2 d2], .string s.2])) w' := by
  subst hg
  exact ⟨B1, m1, d1, B2, m2, d2, f1, f2, rfl, R1.ch cstK hch (fun b hb => (hF b (List.mem_append_left _ hb)).2), R2.ch saiK hch (fun b hb => (hF b (List.mem_append_right _ hb)).2), hN, fun b hb => (hF b hb).1, hch.belowB hb (by omega) (fun k hk => by have hk : k = p := hk; omega)⟩
theorem sta_out {s : Sta × ByteArray} {w w5 : World} {B1 B2 : Option Addr} {m1 d1 m2 d2 g p : Nat} {f1 f2 : List Nat} (R1 : RowO cstF 148 2 f1 w5 B1 m1 d1 s.1.cat.sets) (R2 : RowO saiF 153 3 f2 w5 B2 m2 d2 s.1.said) (hN : (f1 ++ f2).Nodup)
    (hF : ∀ b ∈ f1 ++ f2, g ≤ b ∧ b ≠ p) (hb : Below g w w5) (hg : w.heap.size = g) (hp : g ≤ p) (hp5 : p < w5.heap.size) : StaOut s w (.returned (.tuple #[.agg #[.slice B1 m1 d1, .slice B2 m2 d2], .string s.2])) (w5.setCells p 0 [.slice B1 m1 d1, .slice B2 m2 d2]) := by
  have hch := ch_setCells (g := p) [.slice B1 m1 d1, .slice B2 m2 d2] 0 w5
  subst hg
  exact ⟨B1, m1, d1, B2, m2, d2, f1, f2, rfl, R1.ch cstK hch (fun b hb => (hF b (List.mem_append_left _ hb)).2), R2.ch saiK hch (fun b hb => (hF b (List.mem_append_right _ hb)).2), hN, fun b hb => (hF b hb).1, hch.belowB hb (by omega) (fun k hk => by have hk : k = p := hk; omega)⟩
attribute [local irreducible] StrsAt StrR RowR RowO saiFnd staOkB cmOkB StaOut catDo
set_option maxRecDepth 8000 in
set_option maxHeartbeats 8000000 in
theorem staDo_impl (x : Sta) (m : Cm) (A1 : Option Addr) (n1 c1 : Nat) (A2 : Option Addr) (n2 c2 : Nat) (A3 : Option Addr) (n3 c3 : Nat) (w : World) (h1 : RowR cstR 2 w A1 n1 c1 x.cat.sets) (h2 : RowR saiR 3 w A2 n2 c2 x.said) (hbd : StaBd x) (hm : StrR w A3 n3 c3 m.ch) (hmB : cmB m) :
    Calls Try.prog 155 #[staV x (.slice A1 n1 c1) (.slice A2 n2 c2), cmV m (.slice A3 n3 c3)] w (StaOut (stDo x m) w) := by
  have hn2 : n2 ≤ 1000 := by have := h2.len; have := hbd.2.1; omega
  have hW := catBd_W hbd.1
  have hB := catBd_B hbd.1
  have al1 := (Below.refl w.heap.size w).alloc (Nat.le_refl _) (.cells #[.slice A1 n1 c1, .slice A2 n2 c2] 87)
  have al2 := al1.alloc al1.size (.cells #[.int .i64 m.kd, .int .i64 m.cl, .int .i64 m.no, .string m.s, .string m.nm, .string m.tg, .int .i64 m.n, .slice A3 n3 c3] 47)
  have al3 := al2.alloc al2.size (.cells #[.slice none 0 0, .slice none 0 0] 87)
  have BX := ((BoxL.new w [.slice A1 n1 c1, .slice A2 n2 c2] 87).keep ((Below.refl _ _).alloc (Nat.le_refl _) (.cells #[.int .i64 m.kd, .int .i64 m.cl, .int .i64 m.no, .string m.s, .string m.nm, .string m.tg, .int .i64 m.n, .slice A3 n3 c3] 47))).keep ((Below.refl _ _).alloc (Nat.le_refl _) (.cells #[.slice none 0 0, .slice none 0 0] 87))
  have BM := (BoxL.new (w.alloc (.cells #[.slice A1 n1 c1, .slice A2 n2 c2] 87)) [.int .i64 m.kd, .int .i64 m.cl, .int .i64 m.no, .string m.s, .string m.nm, .string m.tg, .int .i64 m.n, .slice A3 n3 c3] 47).keep ((Below.refl _ _).alloc (Nat.le_refl _) (.cells #[.slice none 0 0, .slice none 0 0] 87))
  have BO := BoxL.new ((w.alloc (.cells #[.slice A1 n1 c1, .slice A2 n2 c2] 87)).alloc (.cells #[.int .i64 m.kd, .int .i64 m.cl, .int .i64 m.no, .string m.s, .string m.nm, .string m.tg, .int .i64 m.n, .slice A3 n3 c3] 47)) [.slice none 0 0, .slice none 0 0] 87
  have hz1 : (w.alloc (.cells #[.slice A1 n1 c1, .slice A2 n2 c2] 87)).heap.size = w.heap.size + 1 := Array.size_push _
  have hz2 : ((w.alloc (.cells #[.slice A1 n1 c1, .slice A2 n2 c2] 87)).alloc (.cells #[.int .i64 m.kd, .int .i64 m.cl, .int .i64 m.no, .string m.s, .string m.nm, .string m.tg, .int .i64 m.n, .slice A3 n3 c3] 47)).heap.size = w.heap.size + 2 := (Array.size_push _).trans (by rw [hz1])
  unfold staV cmV
  go_enter Try.func155, Try.ntmps155
  go_wp2_with fail
  obtain ⟨W, hWW⟩ : ∃ W, W = ((w.alloc (.cells #[.slice A1 n1 c1, .slice A2 n2 c2] 87)).alloc (.cells #[.int .i64 m.kd, .int .i64 m.cl, .int .i64 m.no, .string m.s, .string m.nm, .string m.tg, .int .i64 m.n, .slice A3 n3 c3] 47)).alloc (.cells #[.slice none 0 0, .slice none 0 0] 87) := ⟨_, rfl⟩
  obtain ⟨g, hg⟩ : ∃ g, w.heap.size = g := ⟨_, rfl⟩
  rw [hz1] at BM
  rw [hz2] at BO
  have HG := Lib.hid hg
  rw [← hWW] at al3 BX BM BO ⊢
  simp only [hg] at BX BM BO ⊢
  clear hWW hg al1 al2 hz1 hz2
  have hR := h1.keep cstK al3
  have hS := h2.keep saiK al3
  have mW := hm.keep al3
  have hgW := BO.lt
  have ex := copySta_impl x A1 n1 c1 A2 n2 c2 W hR hS hW hn2
  unfold staV at ex
  refine ex.mono ?_
  rintro e w1 ⟨B1, m1, d1, B2, m2, d2, f1, f2, rfl, R1, R2, N, F, hb1⟩
  clear ex
  have hm2 : m2 ≤ 1000 := by have := R2.len; have := hbd.2.1; omega
  have BX1 := BX.keep hb1; have BM1 := BM.keep hb1; have BO1 := BO.keep hb1
  have hR1 := hR.keep cstK hb1; have hS1 := hS.keep saiK hb1; have mW1 := mW.keep hb1
  clear BX BM BO hR hS mW
  have hg0 : g < w1.heap.size := BX1.lt
  have hg1 : g + 1 < w1.heap.size := BM1.lt
  have hg2 : g + 2 < w1.heap.size := BO1.lt
  have x0 := BX1.cell 0 _ rfl
  have x1 := BX1.cell 1 _ rfl
  go_wp2_with fail
  have al4 := (Below.refl w1.heap.size w1).alloc (Nat.le_refl _) (.cells #[.slice B1 m1 d1, .slice B2 m2 d2] 87)
  have BQ := BoxL.new w1 [.slice B1 m1 d1, .slice B2 m2 d2] 87
  obtain ⟨V, hV⟩ : ∃ V, V = w1.alloc (.cells #[.slice B1 m1 d1, .slice B2 m2 d2] 87) := ⟨_, rfl⟩
  obtain ⟨q, hq⟩ : ∃ q, w1.heap.size = q := ⟨_, rfl⟩
  have HQ := Lib.hid hq
  rw [← hV] at al4 BQ ⊢
  simp only [hq] at BQ hg0 hg1 hg2 F ⊢
  have hbV := bthen hb1 al4
  have R1V := R1.keep cstK al4
  have R2V := R2.keep saiK al4
  have BXV := BX1.keep al4; have BMV := BM1.keep al4; have BOV := BO1.keep al4
  have hRV := hR1.keep cstK al4; have hSV := hS1.keep saiK al4; have mV := mW1.keep al4
  have F3 : ∀ t ∈ f1 ++ f2, g + 2 < t ∧ t < q := fun t ht => by have := F t ht; omega
  have hgV : Below g w V := by have := bthen al3 hbV; rw [HG.out] at this; exact this
  clear hV hq BX1 BM1 BO1 hR1 hS1 mW1 R1 R2 F al4 hb1 x0 x1 hbV
  have hco := staOk_impl x A1 n1 c1 A2 n2 c2 V hRV hSV hB hn2
  unfold staV at hco
  refine hco.mono ?_
  rintro e w2 ⟨rfl, hb2⟩
  clear hco
  have R1b := R1V.keep cstK hb2
  have R2b := R2V.keep saiK hb2
  have BX2 := BXV.keep hb2; have BM2 := BMV.keep hb2; have BO2 := BOV.keep hb2; have BQ2 := BQ.keep hb2
  have hR2 := hRV.keep cstK hb2; have hS2 := hSV.keep saiK hb2; have m2' := mV.keep hb2
  have hgq := BQ.lt
  have hg2 : Below g w w2 := by
    have := hb2.mono (show g ≤ V.heap.size by omega)
    exact hgV.trans this
  have hgz : q < w2.heap.size := BQ2.lt
  clear R1V R2V BXV BMV BOV BQ hRV hSV mV hgV hb2 hgq
  have o0 := BO2.cell 0 _ rfl
  have o1 := BO2.cell 1 _ rfl
  have of := BO2.fz 0 (by simp)
  have og := BO2.fz 1 (by simp)
  have q0 := BQ2.cell 0 _ rfl
  have q1 := BQ2.cell 1 _ rfl
  have x0 := BX2.cell 0 _ rfl
  have x1 := BX2.cell 1 _ rfl
  have y0 := BM2.cell 0 _ rfl
  have y1 := BM2.cell 1 _ rfl
  have y2 := BM2.cell 2 _ rfl
  have y3 := BM2.cell 3 _ rfl
  have y4 := BM2.cell 4 _ rfl
  have y5 := BM2.cell 5 _ rfl
  have y6 := BM2.cell 6 _ rfl
  have y7 := BM2.cell 7 _ rfl
  have l0 : g < w2.heap.size := by omega
  have l1 : g + 1 < w2.heap.size := by omega
  have l2 : g + 2 < w2.heap.size := by omega
  obtain ⟨k, hk⟩ : ∃ k, staOkB x = k := ⟨_, rfl⟩
  have HC := Lib.hid hk
  rw [hk]
  clear hk
  cases k
  · have hWr := (BO2.setCells (vs := [.slice none 0 0, .slice none 0 0]) rfl).range
    go_wp2
    refine bodyPost_ret (results_cell_tmp Try.results155 rfl hWr Try.underlying87 rfl sizeState0) rfl ?_
    have e1 : stDo x m = (⟨⟨[]⟩, []⟩, ByteArray.empty) := by unfold stDo; rw [if_pos HC.out]
    rw [e1]
    exact sta_out (s := (⟨⟨[]⟩, []⟩, ByteArray.empty)) (g := g) (p := g + 2) (f1 := []) (f2 := []) RowO.nil RowO.nil List.nodup_nil (fun b hb => by cases hb) hg2 HG.out (by omega) l2
  · have hos2 : saisOkB x.said = true := by have h5 := HC.out; unfold staOkB at h5; rw [Bool.and_eq_true] at h5; exact h5.1
    have HS2 := Lib.hid hos2; clear hos2
    go_wp2_with fail
    have hmo := cmdOk_impl m A3 n3 c3 w2 m2' hmB
    unfold cmV at hmo
    refine hmo.mono ?_
    rintro e w3 ⟨rfl, hb3⟩
    clear hmo
    have R1c := R1b.keep cstK hb3
    have R2c := R2b.keep saiK hb3
    have BX3 := BX2.keep hb3; have BM3 := BM2.keep hb3; have BO3 := BO2.keep hb3; have BQ3 := BQ2.keep hb3
    have hR3 := hR2.keep cstK hb3; have hS3 := hS2.keep saiK hb3; have m3 := m2'.keep hb3
    have hg3 : Below g w w3 := hg2.trans (hb3.mono (show g ≤ w2.heap.size by omega))
    have hgz3 : q < w3.heap.size := BQ3.lt
    clear R1b R2b BX2 BM2 BO2 BQ2 hR2 hS2 m2' hg2 hgz l0 l1 l2 hb3 o0 o1 of og q0 q1 x0 x1 y0 y1 y2 y3 y4 y5 y6 y7
    have o0 := BO3.cell 0 _ rfl
    have o1 := BO3.cell 1 _ rfl
    have of := BO3.fz 0 (by simp)
    have og := BO3.fz 1 (by simp)
    have q0 := BQ3.cell 0 _ rfl
    have q1 := BQ3.cell 1 _ rfl
    have x0 := BX3.cell 0 _ rfl
    have x1 := BX3.cell 1 _ rfl
    have y0 := BM3.cell 0 _ rfl
    have y1 := BM3.cell 1 _ rfl
    have l0 : g < w3.heap.size := by omega
    have l1 : g + 1 < w3.heap.size := by omega
    have l2 : g + 2 < w3.heap.size := by omega
    have hWr := (BO3.setCells (vs := [.slice B1 m1 d1, .slice B2 m2 d2]) rfl).range
    have F4 : ∀ b ∈ f1 ++ f2, g ≤ b ∧ b ≠ g + 2 := fun b hb => by have := F3 b hb; omega
    obtain ⟨k, hk⟩ : ∃ k, cmOkB m = k := ⟨_, rfl⟩
    have HM := Lib.hid hk
    rw [hk]
    clear hk
    cases k
    · go_wp2
      refine bodyPost_ret (results_cell_tmp Try.results155 rfl hWr Try.underlying87 rfl sizeState0) rfl ?_
      have e1 : stDo x m = (x, ByteArray.empty) := by unfold stDo; rw [if_neg (by rw [HC.out]; simp), if_pos HM.out]
      rw [e1]
      exact sta_out (s := (x, ByteArray.empty)) (g := g) (p := g + 2) R1c R2c N F4 hg3 HG.out (by omega) l2
    have hmb := cmOk_bd HM.out
    have hn3 : n3 ≤ 1000 := by have h5 := m3.at_r; unfold StrsAt at h5; have h6 := h5.1; have := hmb.ch; omega
    by_cases k0 : m.kd = 0
    · have g0 : (m.kd == (0 : Int)) = true := beq_iff_eq.2 k0
      have K0 := Lib.hid k0; clear k0
      go_wp2
      refine bodyPost_ret (results_cell_tmp Try.results155 rfl hWr Try.underlying87 rfl sizeState0) rfl ?_
      have e1 : stDo x m = (x, ByteArray.empty) := by unfold stDo; rw [if_neg (by rw [HC.out]; simp), if_neg (by rw [HM.out]; simp), if_pos K0.out]
      rw [e1]
      exact sta_out (s := (x, ByteArray.empty)) (g := g) (p := g + 2) R1c R2c N F4 hg3 HG.out (by omega) l2
    have g0 : (m.kd == (0 : Int)) = false := beq_eq_false_iff_ne.2 k0
    have K0 := Lib.hid k0; clear k0
    have HD := Lib.hid (show stDo x m = stGo x m by unfold stDo; rw [if_neg (by rw [HC.out]; simp), if_neg (by rw [HM.out]; simp), if_neg K0.out])
    clear hWr
    go_wp2_with fail
    refine (sai_idx A2 n2 c2 x.said m.cl (g + 1) w3 hS3 (by omega) y1).mono ?_
    rintro e w4 ⟨rfl, hb4⟩
    have R13 := R1c; have R23 := R2c; clear R1c R2c
    have y2 := BM3.cell 2 _ rfl; have qf := BQ3.fz 0 (by simp); have qg := BQ3.fz 1 (by simp)
    have R14 := R13.keep cstK hb4; have R24 := R23.keep saiK hb4
    have BX4 := BX3.keep hb4; have BM4 := BM3.keep hb4; have BO4 := BO3.keep hb4; have BQ4 := BQ3.keep hb4
    have hR4 := hR3.keep cstK hb4; have hS4 := hS3.keep saiK hb4; have m4 := m3.keep hb4
    have hg4 : Below g w w4 := hg3.trans (hb4.mono (show g ≤ w3.heap.size by omega))
    have hgz4 : q < w4.heap.size := BQ4.lt
    clear R13 R23 BX3 BM3 BO3 BQ3 hR3 hS3 m3 hg3 hgz3 l0 l1 l2 hb4 o0 o1 of og q0 q1 qf qg x0 x1 y1 y2
    have o0 := BO4.cell 0 _ rfl; have o1 := BO4.cell 1 _ rfl; have of := BO4.fz 0 (by simp); have og := BO4.fz 1 (by simp)
    have q0 := BQ4.cell 0 _ rfl; have q1 := BQ4.cell 1 _ rfl; have x0 := BX4.cell 0 _ rfl; have x1 := BX4.cell 1 _ rfl
    have qf := BQ4.fz 0 (by simp); have qg := BQ4.fz 1 (by simp)
    have y1 := BM4.cell 1 _ rfl; have y2 := BM4.cell 2 _ rfl
    have l0 : g < w4.heap.size := by omega
    have l1 : g + 1 < w4.heap.size := by omega
    have l2 : g + 2 < w4.heap.size := by omega
    clear y0
    obtain ⟨t, ht⟩ : ∃ t, saiFnd x.said 0 m.cl = t := ⟨_, rfl⟩
    have T := Lib.hid ht
    simp only [ht]
    clear ht
    have HF := saiFnd_in m.cl x.said 0
    rw [T.out] at HF
    rcases HF with ⟨ht1, hall⟩ | ⟨k, hk, htk, hck, hlo⟩
    · subst ht1
      have gd : decide ((-1 : Int) ≥ 0) = false := rfl
      have HN := Lib.hid (show repS x.said m = none from repS_none (fun y hy => by have := hall y hy; omega))
      have HP := Lib.hid (show putS x.said (saiNew x m) = x.said ++ [saiNew x m] from putS_end _ hall)
      clear hall
      go_wp2_with fail
      refine wp_region_grow (by kernel_rfl) (by kernel_rfl) ?_
      repeat (first | go_big_quiet_step (fail))
      refine wpQuiet_nil ?_
      intro _ hw'
      obtain ⟨⟨w5, hb5⟩, hw''⟩ := hw'
      change _ = w5 at hw''
      subst hw''
      obtain ⟨w5, hV⟩ := Below.nam hb5; subst hV
      have R15 := R14.keep cstK hb5; have R25 := R24.keep saiK hb5
      have BX5 := BX4.keep hb5; have BM5 := BM4.keep hb5; have BO5 := BO4.keep hb5; have BQ5 := BQ4.keep hb5
      have hR5 := hR4.keep cstK hb5; have hS5 := hS4.keep saiK hb5; have m5 := m4.keep hb5
      have hg5 : Below g w w5 := hg4.trans (hb5.mono (show g ≤ w4.heap.size by omega))
      have hgz5 : q < w5.heap.size := BQ5.lt
      clear R14 R24 BX4 BM4 BO4 BQ4 hR4 hS4 m4 hg4 hgz4 l0 l1 l2 hb5 o0 o1 of og q0 q1 qf qg x0 x1 y1 y2
      have o0 := BO5.cell 0 _ rfl; have o1 := BO5.cell 1 _ rfl; have of := BO5.fz 0 (by simp); have og := BO5.fz 1 (by simp)
      have q0 := BQ5.cell 0 _ rfl; have q1 := BQ5.cell 1 _ rfl; have x0 := BX5.cell 0 _ rfl; have x1 := BX5.cell 1 _ rfl
      have qf := BQ5.fz 0 (by simp); have qg := BQ5.fz 1 (by simp)
      have y1 := BM5.cell 1 _ rfl; have y2 := BM5.cell 2 _ rfl
      have l0 : g < w5.heap.size := by omega
      have l1 : g + 1 < w5.heap.size := by omega
      have l2 : g + 2 < w5.heap.size := by omega
      go_wp2_with fail
      refine wp_region_grow (by kernel_rfl) (by kernel_rfl) ?_
      repeat (first | go_big_quiet_step (fail))
      refine wpQuiet_nil ?_
      intro _ hw'
      obtain ⟨⟨w6, hb6⟩, hw''⟩ := hw'
      change _ = w6 at hw''
      subst hw''
      obtain ⟨w6, hV⟩ := Below.nam hb6; subst hV
      have R16 := R15.keep cstK hb6; have R26 := R25.keep saiK hb6
      have BX6 := BX5.keep hb6; have BM6 := BM5.keep hb6; have BO6 := BO5.keep hb6; have BQ6 := BQ5.keep hb6
      have hR6 := hR5.keep cstK hb6; have hS6 := hS5.keep saiK hb6; have m6 := m5.keep hb6
      have hg6 : Below g w w6 := hg5.trans (hb6.mono (show g ≤ w5.heap.size by omega))
      have hgz6 : q < w6.heap.size := BQ6.lt
      clear R15 R25 BX5 BM5 BO5 BQ5 hR5 hS5 m5 hg5 hgz5 l0 l1 l2 hb6 o0 o1 of og q0 q1 qf qg x0 x1 y1 y2
      have o0 := BO6.cell 0 _ rfl; have o1 := BO6.cell 1 _ rfl; have of := BO6.fz 0 (by simp); have og := BO6.fz 1 (by simp)
      have q0 := BQ6.cell 0 _ rfl; have q1 := BQ6.cell 1 _ rfl; have x0 := BX6.cell 0 _ rfl; have x1 := BX6.cell 1 _ rfl
      have qf := BQ6.fz 0 (by simp); have qg := BQ6.fz 1 (by simp)
      have y1 := BM6.cell 1 _ rfl; have y2 := BM6.cell 2 _ rfl
      have l0 : g < w6.heap.size := by omega
      have l1 : g + 1 < w6.heap.size := by omega
      have l2 : g + 2 < w6.heap.size := by omega
      go_wp2_with fail
      refine wp_region_grow (by kernel_rfl) (by kernel_rfl) ?_
      repeat (first | go_big_quiet_step (fail))
      refine wpQuiet_nil ?_
      intro _ hw'
      obtain ⟨⟨w7, hb7⟩, hw''⟩ := hw'
      change _ = w7 at hw''
      subst hw''
      obtain ⟨w7, hV⟩ := Below.nam hb7; subst hV
      have R17 := R16.keep cstK hb7; have R27 := R26.keep saiK hb7
      have BX7 := BX6.keep hb7; have BM7 := BM6.keep hb7; have BO7 := BO6.keep hb7; have BQ7 := BQ6.keep hb7
      have hR7 := hR6.keep cstK hb7; have hS7 := hS6.keep saiK hb7; have m7 := m6.keep hb7
      have hg7 : Below g w w7 := hg6.trans (hb7.mono (show g ≤ w6.heap.size by omega))
      have hgz7 : q < w7.heap.size := BQ7.lt
      clear R16 R26 BX6 BM6 BO6 BQ6 hR6 hS6 m6 hg6 hgz6 l0 l1 l2 hb7 o0 o1 of og q0 q1 qf qg x0 x1 y1 y2
      have o0 := BO7.cell 0 _ rfl; have o1 := BO7.cell 1 _ rfl; have of := BO7.fz 0 (by simp); have og := BO7.fz 1 (by simp)
      have q0 := BQ7.cell 0 _ rfl; have q1 := BQ7.cell 1 _ rfl; have x0 := BX7.cell 0 _ rfl; have x1 := BX7.cell 1 _ rfl
      have qf := BQ7.fz 0 (by simp); have qg := BQ7.fz 1 (by simp)
      have y1 := BM7.cell 1 _ rfl; have y2 := BM7.cell 2 _ rfl
      have l0 : g < w7.heap.size := by omega
      have l1 : g + 1 < w7.heap.size := by omega
      have l2 : g + 2 < w7.heap.size := by omega
      have y0 := BM7.cell 0 _ rfl
      have y3 := BM7.cell 3 _ rfl
      have y4 := BM7.cell 4 _ rfl
      have y5 := BM7.cell 5 _ rfl
      have y6 := BM7.cell 6 _ rfl
      have y7 := BM7.cell 7 _ rfl
      go_wp2_with fail
      have hdo := catDo_impl x.cat m A1 n1 c1 A3 n3 c3 w7 hR7 hW hB m7 hmB hn3
      unfold ctlV cmV at hdo
      refine hdo.mono ?_
      rintro e w8 ⟨E1, j1, k1, fc, rfl, RC, NC, FC, hb8⟩
      clear hdo y0 y3 y4 y5 y6 y7
      have hqs := BQ7.lt
      have FC8 : ∀ t ∈ fc, q < t := fun t ht => by have := FC t ht; omega
      have R18 := R17.keep cstK hb8; have R28 := R27.keep saiK hb8
      have BX8 := BX7.keep hb8; have BM8 := BM7.keep hb8; have BO8 := BO7.keep hb8; have BQ8 := BQ7.keep hb8
      have hR8 := hR7.keep cstK hb8; have hS8 := hS7.keep saiK hb8; have m8 := m7.keep hb8
      have hg8 : Below g w w8 := hg7.trans (hb8.mono (show g ≤ w7.heap.size by omega))
      have hgz8 : q < w8.heap.size := BQ8.lt
      clear R17 R27 BX7 BM7 BO7 BQ7 hR7 hS7 m7 hg7 hgz7 l0 l1 l2 hb8 o0 o1 of og q0 q1 qf qg x0 x1 y1 y2
      have o0 := BO8.cell 0 _ rfl; have o1 := BO8.cell 1 _ rfl; have of := BO8.fz 0 (by simp); have og := BO8.fz 1 (by simp)
      have q0 := BQ8.cell 0 _ rfl; have q1 := BQ8.cell 1 _ rfl; have x0 := BX8.cell 0 _ rfl; have x1 := BX8.cell 1 _ rfl
      have qf := BQ8.fz 0 (by simp); have qg := BQ8.fz 1 (by simp)
      have y1 := BM8.cell 1 _ rfl; have y2 := BM8.cell 2 _ rfl
      have l0 : g < w8.heap.size := by omega
      have l1 : g + 1 < w8.heap.size := by omega
      have l2 : g + 2 < w8.heap.size := by omega
      clear FC hqs
      have cq := Ch.set (w := w8) (g := q) (o := 0) (v := .slice E1 j1 k1)
      have a5 := (Below.refl (w8.setCell ⟨q, 0, none⟩ (.slice E1 j1 k1)).heap.size (w8.setCell ⟨q, 0, none⟩ (.slice E1 j1 k1))).alloc (Nat.le_refl _) (.cells #[.slice E1 j1 k1] 84)
      have a6 := (Below.refl ((w8.setCell ⟨q, 0, none⟩ (.slice E1 j1 k1)).alloc (.cells #[.slice E1 j1 k1] 84)).heap.size ((w8.setCell ⟨q, 0, none⟩ (.slice E1 j1 k1)).alloc (.cells #[.slice E1 j1 k1] 84))).alloc (Nat.le_refl _) (.cells #[.int .i64 m.cl, .int .i64 m.no, .string (catDo x.cat m).2] 153)
      have FD : ∀ t ∈ f2, g + 2 < t ∧ t < q := fun t ht => F3 t (List.mem_append_right _ ht)
      have N2 : f2.Nodup := (List.nodup_append.1 N).2.1
      have RC9 := ((RC.ch cstK cq (fun b hb e => by have h5 := FC8 b hb; have e : b = q := e; omega)).keep cstK a5).keep cstK a6
      have R29 := ((R28.ch saiK cq (fun b hb e => by have h5 := FD b hb; have e : b = q := e; omega)).keep saiK a5).keep saiK a6
      have BO9 := ((BO8.ch cq (ne_blk (by omega))).keep a5).keep a6
      have BQ9 := ((BQ8.set (j := 0) (v := .slice E1 j1 k1) (by simp)).keep a5).keep a6
      simp only [List.set_cons_zero] at BQ9
      have hg9 := bthen (bthen (show Below w.heap.size w (w8.setCell ⟨q, 0, none⟩ (.slice E1 j1 k1)) by rw [HG.out]; exact cq.belowB hg8 (by omega) (fun k hk => by have hk : k = q := hk; omega)) a5) a6
      obtain ⟨css, fps, hfp, own9, hl9, E9⟩ := R29.ex
      have HL9 := Lib.hid hl9; have HFP := Lib.hid hfp; clear hl9 hfp
      go_wp2_with (first | (at_builtin; refine wpList_app1g (P := Try.prog) _ rfl (.tmp 92) (.tmp 94) 85 rfl 0 153 _ 3 32 Try.underlying85 saidInfo rfl (by omega) (.slice B2 m2 d2) _ _ rfl own9 _ _ rfl (by simp) rfl (by simp [Value.oneCell']) (by unfold maxLen; omega) (by omega) (Nat.zero_le _) ?_; intro B3 e3 w9 own10 hg10 hb10 hob10; refine stop_of ?_) | fail)
      obtain ⟨fs, R210, N10, F10, C10⟩ := saiO_app (saiNew x m) HFP.out HL9.out E9 N2 own10 hg10 hob10 (Nat.le_succ _)
      unfold Stop
      have FCl := RC.lt cstK
      have hU9 : w8.heap.size ≤ (((w8.setCell ⟨q, 0, none⟩ (.slice E1 j1 k1)).alloc (.cells #[.slice E1 j1 k1] 84)).alloc (.cells #[.int .i64 m.cl, .int .i64 m.no, .string (catDo x.cat m).2] 153)).heap.size := Nat.le_trans cq.size (Nat.le_trans a5.size a6.size)
      have BQ10 := BQ9.ch C10 (fun h => by have h5 := FD q h; omega)
      have BO10 := BO9.ch C10 (fun h => by have h5 := FD (g + 2) h; omega)
      have RC10 := RC9.ch cstK C10 (fun b hb e => by have h5 := FC8 b hb; have h6 := FD b e; omega)
      have hg10 := C10.belowB hg9 hg9.size (fun k hk => by have h5 := FD k hk; have h6 := HG.out; omega)
      rw [HG.out] at hg10
      have hz10 := C10.size
      have cr := Ch.set (w := w9) (g := q) (o := 1) (v := .slice B3 (m2 + 1) e3)
      have FS : ∀ b ∈ fs, g + 2 < b ∧ b ≠ q := fun b hb => by rcases F10 b hb with h5 | h5; (have h6 := FD b h5; omega); (omega)
      have BO11 := BO10.ch cr (ne_blk (by omega))
      have RC11 := RC10.ch cstK cr (fun b hb e => by have h5 := FC8 b hb; have e : b = q := e; omega)
      have R211 := R210.ch saiK cr (fun b hb e => (FS b hb).2 e)
      have hg11 := cr.belowB hg10 (by omega) (fun k hk => by have hk : k = q := hk; omega)
      have hz11 := cr.size
      have hNN : (fc ++ fs).Nodup := List.nodup_append.2 ⟨NC, N10, fun a ha b hb e => by have h5 := FCl a ha; have h6 := FC8 a ha; rcases F10 b hb with h7 | h7; (have h8 := FD b h7; omega); (omega)⟩
      have hFF : ∀ b ∈ fc ++ fs, g ≤ b ∧ b ≠ g + 2 := fun b hb => by rcases List.mem_append.1 hb with h5 | h5; (have h6 := FC8 b h5; omega); (have h6 := FS b h5; omega)
      have hWr := (BO11.setCells (vs := [.slice E1 j1 k1, .slice B3 (m2 + 1) e3]) rfl).range
      clear o0 o1 of og q0 q1 qf qg x0 x1 y1 y2 l0 l1 l2
      have o0 := BO10.cell 0 _ rfl; have o1 := BO10.cell 1 _ rfl; have of := BO10.fz 0 (by simp); have og := BO10.fz 1 (by simp)
      have q0 := BQ10.cell 0 _ rfl; have q1 := BQ10.cell 1 _ rfl; have qg := BQ10.fz 1 (by simp)
      have l2 := BO10.lt; have lq := BQ10.lt
      have hnq1 : ¬ (g + 2 = q) := by omega
      have hnq2 : ¬ (q = g + 2) := by omega
      have HWR := Lib.hid hWr; have HZ := Lib.hid (And.intro hz10 hz11); clear hWr hz10 hz11 BQ10 BO10 BO11 RC10 R210 hg10
      go_wp2
      refine bodyPost_ret (results_cell_tmp Try.results155 rfl HWR.out Try.underlying87 rfl sizeState0) rfl ?_
      rw [HD.out, stGo_none HN.out, HP.out]
      exact sta_out (g := g) (p := g + 2) RC11 R211 hNN hFF hg11 HG.out (by omega) (by have := HZ.out; omega)
    · have htk2 : t = (k : Int) := by rw [htk]; congr 1; omega
      subst htk2
      have HL := Lib.hid hS4.len
      have hkn : k < n2 := by have := HL.out; omega
      have hki : (k : Int) < (n2 : Int) := by omega
      have hkm : k < m2 := by have h5 := R24.len; have := HL.out; omega
      have gd : decide ((k : Int) ≥ 0) = true := decide_eq_true (by omega)
      obtain ⟨sb, so, rfl⟩ := hS4.head (by omega)
      have hsg : sb ≠ g + 2 := by have h5 := (sai_el h2 hkn).1; have := HG.out; omega
      obtain ⟨bl, y, hy, hcr⟩ := sai_el hS4 hkn
      have ff0 : w4.cell? ⟨sb, so + k * 3, none⟩ = some (.int .i64 y.cl) := hcr 0 _ rfl
      have ff1 : w4.cell? ⟨sb, so + k * 3 + 1, none⟩ = some (.int .i64 y.no) := hcr 1 _ rfl
      have ff2 : w4.cell? ⟨sb, so + k * 3 + 2, none⟩ = some (.string y.tx) := hcr 2 _ rfl
      have hya := saiAt_of hy
      have HRA := Lib.hid (repS_at (m := m) (saisOk_rise HS2.out) hk hck hlo)
      have HPA := Lib.hid (putS_at (saiNew x m) hk (show (saiNew x m).cl ≤ (saiAt x.said k).cl from hck) hlo)
      have HYA := Lib.hid hya
      clear htk hck hlo hcr hy hya hk
      by_cases hcl : y.cl = m.cl
      · have g1 : (y.cl == m.cl) = true := beq_iff_eq.2 hcl
        by_cases hno : y.no = m.no
        · have g2 : (y.no == m.no) = true := beq_iff_eq.2 hno
          have HN := Lib.hid (show repS x.said m = some y.tx by rw [HRA.out, HYA.out, if_neg (by simpa using hcl), if_pos hno])
          clear hcl hno HRA HPA
          go_wp2_with fail
          refine wp_region_grow (by kernel_rfl) (by kernel_rfl) ?_
          repeat (first | go_big_quiet_step (fail))
          refine wpQuiet_nil ?_
          intro _ hw'
          obtain ⟨⟨w5, hb5⟩, hw''⟩ := hw'
          change _ = w5 at hw''
          subst hw''
          obtain ⟨w5, hV⟩ := Below.nam hb5; subst hV
          have fk0_ := keep_cell hb5 ff0; clear ff0; have ff0 := fk0_; clear fk0_
          have fk1_ := keep_cell hb5 ff1; clear ff1; have ff1 := fk1_; clear fk1_
          have fk2_ := keep_cell hb5 ff2; clear ff2; have ff2 := fk2_; clear fk2_
          clear bl; have bl := cell_lt ff0
          have R15 := R14.keep cstK hb5; have R25 := R24.keep saiK hb5
          have BX5 := BX4.keep hb5; have BM5 := BM4.keep hb5; have BO5 := BO4.keep hb5; have BQ5 := BQ4.keep hb5
          have hR5 := hR4.keep cstK hb5; have hS5 := hS4.keep saiK hb5; have m5 := m4.keep hb5
          have hg5 : Below g w w5 := hg4.trans (hb5.mono (show g ≤ w4.heap.size by omega))
          have hgz5 : q < w5.heap.size := BQ5.lt
          clear R14 R24 BX4 BM4 BO4 BQ4 hR4 hS4 m4 hg4 hgz4 l0 l1 l2 hb5 o0 o1 of og q0 q1 qf qg x0 x1 y1 y2
          have o0 := BO5.cell 0 _ rfl; have o1 := BO5.cell 1 _ rfl; have of := BO5.fz 0 (by simp); have og := BO5.fz 1 (by simp)
          have q0 := BQ5.cell 0 _ rfl; have q1 := BQ5.cell 1 _ rfl; have x0 := BX5.cell 0 _ rfl; have x1 := BX5.cell 1 _ rfl
          have qf := BQ5.fz 0 (by simp); have qg := BQ5.fz 1 (by simp)
          have y1 := BM5.cell 1 _ rfl; have y2 := BM5.cell 2 _ rfl
          have l0 : g < w5.heap.size := by omega
          have l1 : g + 1 < w5.heap.size := by omega
          have l2 : g + 2 < w5.heap.size := by omega
          go_wp2_with fail
          refine wp_region_grow (by kernel_rfl) (by kernel_rfl) ?_
          repeat (first | go_big_quiet_step (fail))
          refine wpQuiet_nil ?_
          intro _ hw'
          obtain ⟨⟨w6, hb6⟩, hw''⟩ := hw'
          change _ = w6 at hw''
          subst hw''
          obtain ⟨w6, hV⟩ := Below.nam hb6; subst hV
          have fk0_ := keep_cell hb6 ff0; clear ff0; have ff0 := fk0_; clear fk0_
          have fk1_ := keep_cell hb6 ff1; clear ff1; have ff1 := fk1_; clear fk1_
          have fk2_ := keep_cell hb6 ff2; clear ff2; have ff2 := fk2_; clear fk2_
          clear bl; have bl := cell_lt ff0
          have R16 := R15.keep cstK hb6; have R26 := R25.keep saiK hb6
          have BX6 := BX5.keep hb6; have BM6 := BM5.keep hb6; have BO6 := BO5.keep hb6; have BQ6 := BQ5.keep hb6
          have hR6 := hR5.keep cstK hb6; have hS6 := hS5.keep saiK hb6; have m6 := m5.keep hb6
          have hg6 : Below g w w6 := hg5.trans (hb6.mono (show g ≤ w5.heap.size by omega))
          have hgz6 : q < w6.heap.size := BQ6.lt
          clear R15 R25 BX5 BM5 BO5 BQ5 hR5 hS5 m5 hg5 hgz5 l0 l1 l2 hb6 o0 o1 of og q0 q1 qf qg x0 x1 y1 y2
          have o0 := BO6.cell 0 _ rfl; have o1 := BO6.cell 1 _ rfl; have of := BO6.fz 0 (by simp); have og := BO6.fz 1 (by simp)
          have q0 := BQ6.cell 0 _ rfl; have q1 := BQ6.cell 1 _ rfl; have x0 := BX6.cell 0 _ rfl; have x1 := BX6.cell 1 _ rfl
          have qf := BQ6.fz 0 (by simp); have qg := BQ6.fz 1 (by simp)
          have y1 := BM6.cell 1 _ rfl; have y2 := BM6.cell 2 _ rfl
          have l0 : g < w6.heap.size := by omega
          have l1 : g + 1 < w6.heap.size := by omega
          have l2 : g + 2 < w6.heap.size := by omega
          have hsb : sb ≠ g + 2 := hsg
          go_wp2_with fail
          refine wp_region_dagb [56, 57, 58, 59, 60, 61, 62, 5] (by kernel_rfl) (by kernel_rfl) (fun D vs w' => ∃ v56 v57 v58 v59 v60 v61 v62 v5 : Value, vs = [v56, v57, v58, v59, v60, v61, v62, v5] ∧ Ch (fun b => b = g + 2) w6 w' ∧ (D 7 = false → BoxL w' (g + 2) [.slice none 0 0, .slice none 0 0]) ∧ (D 0 = true → v56 = .agg #[.slice B1 m1 d1, .slice B2 m2 d2]) ∧ (D 1 = true → v57 = .pointer (some ⟨g, 1, none⟩)) ∧ (D 2 = true → v58 = .slice (some ⟨sb, so, none⟩) n2 c2) ∧ (D 3 = true → v59 = .int .i64 (k : Int)) ∧ (D 4 = true → v60 = .pointer (some ⟨sb, so + k * 3, none⟩)) ∧ (D 5 = true → v61 = .pointer (some ⟨sb, so + k * 3 + 2, none⟩)) ∧ (D 6 = true → v62 = .string y.tx) ∧ (D 7 = true → BoxL w' (g + 2) [.slice B1 m1 d1, .slice B2 m2 d2]) ∧ (D 8 = true → v5 = .string y.tx))
            ⟨_, _, _, _, _, _, _, _, rfl, (Ch.of_below (Below.refl _ _).drew), (fun _ => BO6.keep (Below.refl _ _).drew), (fun h => by cases h), (fun h => by cases h), (fun h => by cases h), (fun h => by cases h), (fun h => by cases h), (fun h => by cases h), (fun h => by cases h), (fun h => by cases h), (fun h => by cases h)⟩ ?_ ?_
          · intro i D vs w' hi hD hdep hcl hI
            have hi' : i < 9 := hi
            obtain ⟨v56, v57, v58, v59, v60, v61, v62, v5, rfl, hC, hO, k0, k1, k2, k3, k4, k5, k6, k7, k8⟩ := hI
            simp only [putAll, List.setIfInBounds_toArray, List.set_cons_succ, List.set_cons_zero]
            rcases (show i = 0 ∨ i = 1 ∨ i = 2 ∨ i = 3 ∨ i = 4 ∨ i = 5 ∨ i = 6 ∨ i = 7 ∨ i = 8 by omega) with rfl | rfl | rfl | rfl | rfl | rfl | rfl | rfl | rfl
            · have q7 := hC.cell q0 (by omega)
              have q8 := hC.cell q1 (by omega)
              refine wpOp_step (by simp only [List.getElem?_toArray, List.getElem?_cons_zero]; rfl) (fun K hK => ?_)
              go_simp
              refine hK _ _ ⟨[.agg #[.slice B1 m1 d1, .slice B2 m2 d2], v57, v58, v59, v60, v61, v62, v5], ?_, _, _, _, _, _, _, _, _, rfl, hC, hO, (fun _ => rfl), k1, k2, k3, k4, k5, k6, k7, k8⟩
              simp only [putAll, List.setIfInBounds_toArray, List.set_cons_succ, List.set_cons_zero] <;> rfl
            · refine wpOp_step (by simp only [List.getElem?_toArray, List.getElem?_cons_succ, List.getElem?_cons_zero]; rfl) (fun K hK => ?_)
              go_simp
              refine hK _ _ ⟨[v56, .pointer (some ⟨g, 1, none⟩), v58, v59, v60, v61, v62, v5], ?_, _, _, _, _, _, _, _, _, rfl, hC, hO, k0, (fun _ => rfl), k2, k3, k4, k5, k6, k7, k8⟩
              simp only [putAll, List.setIfInBounds_toArray, List.set_cons_succ, List.set_cons_zero] <;> rfl
            · have e1 := k1 (hdep 1 (by kernel_rfl))
              subst e1
              have q7 := hC.cell x1 (by omega)
              refine wpOp_step (by simp only [List.getElem?_toArray, List.getElem?_cons_succ, List.getElem?_cons_zero]; rfl) (fun K hK => ?_)
              go_simp
              refine hK _ _ ⟨[v56, .pointer (some ⟨g, 1, none⟩), .slice (some ⟨sb, so, none⟩) n2 c2, v59, v60, v61, v62, v5], ?_, _, _, _, _, _, _, _, _, rfl, hC, hO, k0, (fun _ => rfl), (fun _ => rfl), k3, k4, k5, k6, k7, k8⟩
              simp only [putAll, List.setIfInBounds_toArray, List.set_cons_succ, List.set_cons_zero] <;> rfl
            · refine wpOp_step (by simp only [List.getElem?_toArray, List.getElem?_cons_succ, List.getElem?_cons_zero]; rfl) (fun K hK => ?_)
              go_simp
              refine hK _ _ ⟨[v56, v57, v58, .int .i64 (k : Int), v60, v61, v62, v5], ?_, _, _, _, _, _, _, _, _, rfl, hC, hO, k0, k1, k2, (fun _ => rfl), k4, k5, k6, k7, k8⟩
              simp only [putAll, List.setIfInBounds_toArray, List.set_cons_succ, List.set_cons_zero] <;> rfl
            · have e2 := k2 (hdep 2 (by kernel_rfl))
              subst e2
              have e3 := k3 (hdep 3 (by kernel_rfl))
              subst e3
              refine wpOp_step (by simp only [List.getElem?_toArray, List.getElem?_cons_succ, List.getElem?_cons_zero]; rfl) (fun K hK => ?_)
              go_simp
              refine hK _ _ ⟨[v56, v57, .slice (some ⟨sb, so, none⟩) n2 c2, .int .i64 (k : Int), .pointer (some ⟨sb, so + k * 3, none⟩), v61, v62, v5], ?_, _, _, _, _, _, _, _, _, rfl, hC, hO, k0, k1, (fun _ => rfl), (fun _ => rfl), (fun _ => rfl), k5, k6, k7, k8⟩
              simp only [putAll, List.setIfInBounds_toArray, List.set_cons_succ, List.set_cons_zero] <;> rfl
            · have e4 := k4 (hdep 4 (by kernel_rfl))
              subst e4
              refine wpOp_step (by simp only [List.getElem?_toArray, List.getElem?_cons_succ, List.getElem?_cons_zero]; rfl) (fun K hK => ?_)
              go_simp
              refine hK _ _ ⟨[v56, v57, v58, v59, .pointer (some ⟨sb, so + k * 3, none⟩), .pointer (some ⟨sb, so + k * 3 + 2, none⟩), v62, v5], ?_, _, _, _, _, _, _, _, _, rfl, hC, hO, k0, k1, k2, k3, (fun _ => rfl), (fun _ => rfl), k6, k7, k8⟩
              simp only [putAll, List.setIfInBounds_toArray, List.set_cons_succ, List.set_cons_zero] <;> rfl
            · have e5 := k5 (hdep 5 (by kernel_rfl))
              subst e5
              have q7 := hC.cell ff2 (by omega)
              refine wpOp_step (by simp only [List.getElem?_toArray, List.getElem?_cons_succ, List.getElem?_cons_zero]; rfl) (fun K hK => ?_)
              go_simp
              refine hK _ _ ⟨[v56, v57, v58, v59, v60, .pointer (some ⟨sb, so + k * 3 + 2, none⟩), .string y.tx, v5], ?_, _, _, _, _, _, _, _, _, rfl, hC, hO, k0, k1, k2, k3, k4, (fun _ => rfl), (fun _ => rfl), k7, k8⟩
              simp only [putAll, List.setIfInBounds_toArray, List.set_cons_succ, List.set_cons_zero] <;> rfl
            · have e0 := k0 (hdep 0 (by kernel_rfl))
              subst e0
              have o7 := (hO hD).cell 0 _ rfl
              have o8 := (hO hD).cell 1 _ rfl
              have y7 := (hO hD).fz 0 (by simp)
              have y8 := (hO hD).fz 1 (by simp)
              have hs7 := (hO hD).setCells (vs := [.slice B1 m1 d1, .slice B2 m2 d2]) rfl
              have one := ch_setCells (g := g + 2) [.slice B1 m1 d1, .slice B2 m2 d2] 0 w'
              refine wpOp_step (by simp only [List.getElem?_toArray, List.getElem?_cons_succ, List.getElem?_cons_zero]; rfl) (fun K hK => ?_)
              go_simp
              refine hK _ _ ⟨[.agg #[.slice B1 m1 d1, .slice B2 m2 d2], v57, v58, v59, v60, v61, v62, v5], ?_, _, _, _, _, _, _, _, _, rfl, (hC.trans one), (fun h => absurd h (by simp)), (fun _ => rfl), k1, k2, k3, k4, k5, k6, (fun _ => hs7), k8⟩
              simp only [putAll, List.setIfInBounds_toArray, List.set_cons_succ, List.set_cons_zero] <;> rfl
            · have e6 := k6 (hdep 6 (by kernel_rfl))
              subst e6
              refine wpOp_step (by simp only [List.getElem?_toArray, List.getElem?_cons_succ, List.getElem?_cons_zero]; rfl) (fun K hK => ?_)
              go_simp
              refine hK _ _ ⟨[v56, v57, v58, v59, v60, v61, .string y.tx, .string y.tx], ?_, _, _, _, _, _, _, _, _, rfl, hC, hO, k0, k1, k2, k3, k4, k5, (fun _ => rfl), k7, (fun _ => rfl)⟩
              simp only [putAll, List.setIfInBounds_toArray, List.set_cons_succ, List.set_cons_zero] <;> rfl
          · intro D vs w' hD hI
            obtain ⟨v56, v57, v58, v59, v60, v61, v62, v5, rfl, hC, hO, k0, k1, k2, k3, k4, k5, k6, k7, k8⟩ := hI
            simp only [putAll, List.setIfInBounds_toArray, List.set_cons_succ, List.set_cons_zero]
            have hBo := k7 (hD 7 (show 7 < 9 by decide))
            have h8 := k8 (hD 8 (show 8 < 9 by decide))
            subst h8
            clear hD hO
            have hWr := hBo.range
            go_wp2
            refine bodyPost_ret (results_cell_tmp Try.results155 rfl hWr Try.underlying87 rfl sizeState0) rfl ?_
            rw [HD.out, stGo_some HN.out]
            exact sta_out2 (s := (x, y.tx)) (g := g) (p := g + 2) R16 R26 N F4 hg6 HG.out (by omega) l2 hC
        have g2 : (y.no == m.no) = false := beq_eq_false_iff_ne.2 hno
        by_cases hlo : m.no < y.no
        · have g3 : decide (y.no > m.no) = true := decide_eq_true hlo
          have HN := Lib.hid (show repS x.said m = some oldT by rw [HRA.out, HYA.out, if_neg (by simpa using hcl), if_neg hno, if_pos hlo])
          clear hcl hno hlo HRA HPA
          go_wp2_with fail
          refine wp_region_grow (by kernel_rfl) (by kernel_rfl) ?_
          repeat (first | go_big_quiet_step (fail))
          refine wpQuiet_nil ?_
          intro _ hw'
          obtain ⟨⟨w5, hb5⟩, hw''⟩ := hw'
          change _ = w5 at hw''
          subst hw''
          obtain ⟨w5, hV⟩ := Below.nam hb5; subst hV
          have fk0_ := keep_cell hb5 ff0; clear ff0; have ff0 := fk0_; clear fk0_
          have fk1_ := keep_cell hb5 ff1; clear ff1; have ff1 := fk1_; clear fk1_
          have fk2_ := keep_cell hb5 ff2; clear ff2; have ff2 := fk2_; clear fk2_
          clear bl; have bl := cell_lt ff0
          have R15 := R14.keep cstK hb5; have R25 := R24.keep saiK hb5
          have BX5 := BX4.keep hb5; have BM5 := BM4.keep hb5; have BO5 := BO4.keep hb5; have BQ5 := BQ4.keep hb5
          have hR5 := hR4.keep cstK hb5; have hS5 := hS4.keep saiK hb5; have m5 := m4.keep hb5
          have hg5 : Below g w w5 := hg4.trans (hb5.mono (show g ≤ w4.heap.size by omega))
          have hgz5 : q < w5.heap.size := BQ5.lt
          clear R14 R24 BX4 BM4 BO4 BQ4 hR4 hS4 m4 hg4 hgz4 l0 l1 l2 hb5 o0 o1 of og q0 q1 qf qg x0 x1 y1 y2
          have o0 := BO5.cell 0 _ rfl; have o1 := BO5.cell 1 _ rfl; have of := BO5.fz 0 (by simp); have og := BO5.fz 1 (by simp)
          have q0 := BQ5.cell 0 _ rfl; have q1 := BQ5.cell 1 _ rfl; have x0 := BX5.cell 0 _ rfl; have x1 := BX5.cell 1 _ rfl
          have qf := BQ5.fz 0 (by simp); have qg := BQ5.fz 1 (by simp)
          have y1 := BM5.cell 1 _ rfl; have y2 := BM5.cell 2 _ rfl
          have l0 : g < w5.heap.size := by omega
          have l1 : g + 1 < w5.heap.size := by omega
          have l2 : g + 2 < w5.heap.size := by omega
          go_wp2_with fail
          refine wp_region_grow (by kernel_rfl) (by kernel_rfl) ?_
          repeat (first | go_big_quiet_step (fail))
          refine wpQuiet_nil ?_
          intro _ hw'
          obtain ⟨⟨w6, hb6⟩, hw''⟩ := hw'
          change _ = w6 at hw''
          subst hw''
          obtain ⟨w6, hV⟩ := Below.nam hb6; subst hV
          have fk0_ := keep_cell hb6 ff0; clear ff0; have ff0 := fk0_; clear fk0_
          have fk1_ := keep_cell hb6 ff1; clear ff1; have ff1 := fk1_; clear fk1_
          have fk2_ := keep_cell hb6 ff2; clear ff2; have ff2 := fk2_; clear fk2_
          clear bl; have bl := cell_lt ff0
          have R16 := R15.keep cstK hb6; have R26 := R25.keep saiK hb6
          have BX6 := BX5.keep hb6; have BM6 := BM5.keep hb6; have BO6 := BO5.keep hb6; have BQ6 := BQ5.keep hb6
          have hR6 := hR5.keep cstK hb6; have hS6 := hS5.keep saiK hb6; have m6 := m5.keep hb6
          have hg6 : Below g w w6 := hg5.trans (hb6.mono (show g ≤ w5.heap.size by omega))
          have hgz6 : q < w6.heap.size := BQ6.lt
          clear R15 R25 BX5 BM5 BO5 BQ5 hR5 hS5 m5 hg5 hgz5 l0 l1 l2 hb6 o0 o1 of og q0 q1 qf qg x0 x1 y1 y2
          have o0 := BO6.cell 0 _ rfl; have o1 := BO6.cell 1 _ rfl; have of := BO6.fz 0 (by simp); have og := BO6.fz 1 (by simp)
          have q0 := BQ6.cell 0 _ rfl; have q1 := BQ6.cell 1 _ rfl; have x0 := BX6.cell 0 _ rfl; have x1 := BX6.cell 1 _ rfl
          have qf := BQ6.fz 0 (by simp); have qg := BQ6.fz 1 (by simp)
          have y1 := BM6.cell 1 _ rfl; have y2 := BM6.cell 2 _ rfl
          have l0 : g < w6.heap.size := by omega
          have l1 : g + 1 < w6.heap.size := by omega
          have l2 : g + 2 < w6.heap.size := by omega
          go_wp2_with fail
          refine wp_region_grow (by kernel_rfl) (by kernel_rfl) ?_
          repeat (first | go_big_quiet_step (fail))
          refine wpQuiet_nil ?_
          intro _ hw'
          obtain ⟨⟨w7, hb7⟩, hw''⟩ := hw'
          change _ = w7 at hw''
          subst hw''
          obtain ⟨w7, hV⟩ := Below.nam hb7; subst hV
          have fk0_ := keep_cell hb7 ff0; clear ff0; have ff0 := fk0_; clear fk0_
          have fk1_ := keep_cell hb7 ff1; clear ff1; have ff1 := fk1_; clear fk1_
          have fk2_ := keep_cell hb7 ff2; clear ff2; have ff2 := fk2_; clear fk2_
          clear bl; have bl := cell_lt ff0
          have R17 := R16.keep cstK hb7; have R27 := R26.keep saiK hb7
          have BX7 := BX6.keep hb7; have BM7 := BM6.keep hb7; have BO7 := BO6.keep hb7; have BQ7 := BQ6.keep hb7
          have hR7 := hR6.keep cstK hb7; have hS7 := hS6.keep saiK hb7; have m7 := m6.keep hb7
          have hg7 : Below g w w7 := hg6.trans (hb7.mono (show g ≤ w6.heap.size by omega))
          have hgz7 : q < w7.heap.size := BQ7.lt
          clear R16 R26 BX6 BM6 BO6 BQ6 hR6 hS6 m6 hg6 hgz6 l0 l1 l2 hb7 o0 o1 of og q0 q1 qf qg x0 x1 y1 y2
          have o0 := BO7.cell 0 _ rfl; have o1 := BO7.cell 1 _ rfl; have of := BO7.fz 0 (by simp); have og := BO7.fz 1 (by simp)
          have q0 := BQ7.cell 0 _ rfl; have q1 := BQ7.cell 1 _ rfl; have x0 := BX7.cell 0 _ rfl; have x1 := BX7.cell 1 _ rfl
          have qf := BQ7.fz 0 (by simp); have qg := BQ7.fz 1 (by simp)
          have y1 := BM7.cell 1 _ rfl; have y2 := BM7.cell 2 _ rfl
          have l0 : g < w7.heap.size := by omega
          have l1 : g + 1 < w7.heap.size := by omega
          have l2 : g + 2 < w7.heap.size := by omega
          have hWr := (BO7.setCells (vs := [.slice B1 m1 d1, .slice B2 m2 d2]) rfl).range
          go_wp2
          refine bodyPost_ret (results_cell_tmp Try.results155 rfl hWr Try.underlying87 rfl sizeState0) rfl ?_
          rw [HD.out, stGo_some HN.out]
          exact sta_out (s := (x, oldT)) (g := g) (p := g + 2) R17 R27 N F4 hg7 HG.out (by omega) l2
        have g3 : decide (y.no > m.no) = false := decide_eq_false hlo
        have HN := Lib.hid (show repS x.said m = none by rw [HRA.out, HYA.out, if_neg (by simpa using hcl), if_neg hno, if_neg hlo])
        have HP := Lib.hid (show putS x.said (saiNew x m) = x.said.set k (saiNew x m) by rw [HPA.out, HYA.out]; exact if_pos hcl)
        clear hcl hno hlo HRA HPA
        go_wp2_with fail
        refine wp_region_grow (by kernel_rfl) (by kernel_rfl) ?_
        repeat (first | go_big_quiet_step (fail))
        refine wpQuiet_nil ?_
        intro _ hw'
        obtain ⟨⟨w5, hb5⟩, hw''⟩ := hw'
        change _ = w5 at hw''
        subst hw''
        obtain ⟨w5, hV⟩ := Below.nam hb5; subst hV
        have fk0_ := keep_cell hb5 ff0; clear ff0; have ff0 := fk0_; clear fk0_
        have fk1_ := keep_cell hb5 ff1; clear ff1; have ff1 := fk1_; clear fk1_
        have fk2_ := keep_cell hb5 ff2; clear ff2; have ff2 := fk2_; clear fk2_
        clear bl; have bl := cell_lt ff0
        have R15 := R14.keep cstK hb5; have R25 := R24.keep saiK hb5
        have BX5 := BX4.keep hb5; have BM5 := BM4.keep hb5; have BO5 := BO4.keep hb5; have BQ5 := BQ4.keep hb5
        have hR5 := hR4.keep cstK hb5; have hS5 := hS4.keep saiK hb5; have m5 := m4.keep hb5
        have hg5 : Below g w w5 := hg4.trans (hb5.mono (show g ≤ w4.heap.size by omega))
        have hgz5 : q < w5.heap.size := BQ5.lt
        clear R14 R24 BX4 BM4 BO4 BQ4 hR4 hS4 m4 hg4 hgz4 l0 l1 l2 hb5 o0 o1 of og q0 q1 qf qg x0 x1 y1 y2
        have o0 := BO5.cell 0 _ rfl; have o1 := BO5.cell 1 _ rfl; have of := BO5.fz 0 (by simp); have og := BO5.fz 1 (by simp)
        have q0 := BQ5.cell 0 _ rfl; have q1 := BQ5.cell 1 _ rfl; have x0 := BX5.cell 0 _ rfl; have x1 := BX5.cell 1 _ rfl
        have qf := BQ5.fz 0 (by simp); have qg := BQ5.fz 1 (by simp)
        have y1 := BM5.cell 1 _ rfl; have y2 := BM5.cell 2 _ rfl
        have l0 : g < w5.heap.size := by omega
        have l1 : g + 1 < w5.heap.size := by omega
        have l2 : g + 2 < w5.heap.size := by omega
        go_wp2_with fail
        refine wp_region_grow (by kernel_rfl) (by kernel_rfl) ?_
        repeat (first | go_big_quiet_step (fail))
        refine wpQuiet_nil ?_
        intro _ hw'
        obtain ⟨⟨w6, hb6⟩, hw''⟩ := hw'
        change _ = w6 at hw''
        subst hw''
        obtain ⟨w6, hV⟩ := Below.nam hb6; subst hV
        have fk0_ := keep_cell hb6 ff0; clear ff0; have ff0 := fk0_; clear fk0_
        have fk1_ := keep_cell hb6 ff1; clear ff1; have ff1 := fk1_; clear fk1_
        have fk2_ := keep_cell hb6 ff2; clear ff2; have ff2 := fk2_; clear fk2_
        clear bl; have bl := cell_lt ff0
        have R16 := R15.keep cstK hb6; have R26 := R25.keep saiK hb6
        have BX6 := BX5.keep hb6; have BM6 := BM5.keep hb6; have BO6 := BO5.keep hb6; have BQ6 := BQ5.keep hb6
        have hR6 := hR5.keep cstK hb6; have hS6 := hS5.keep saiK hb6; have m6 := m5.keep hb6
        have hg6 : Below g w w6 := hg5.trans (hb6.mono (show g ≤ w5.heap.size by omega))
        have hgz6 : q < w6.heap.size := BQ6.lt
        clear R15 R25 BX5 BM5 BO5 BQ5 hR5 hS5 m5 hg5 hgz5 l0 l1 l2 hb6 o0 o1 of og q0 q1 qf qg x0 x1 y1 y2
        have o0 := BO6.cell 0 _ rfl; have o1 := BO6.cell 1 _ rfl; have of := BO6.fz 0 (by simp); have og := BO6.fz 1 (by simp)
        have q0 := BQ6.cell 0 _ rfl; have q1 := BQ6.cell 1 _ rfl; have x0 := BX6.cell 0 _ rfl; have x1 := BX6.cell 1 _ rfl
        have qf := BQ6.fz 0 (by simp); have qg := BQ6.fz 1 (by simp)
        have y1 := BM6.cell 1 _ rfl; have y2 := BM6.cell 2 _ rfl
        have l0 : g < w6.heap.size := by omega
        have l1 : g + 1 < w6.heap.size := by omega
        have l2 : g + 2 < w6.heap.size := by omega
        go_wp2_with fail
        refine wp_region_grow (by kernel_rfl) (by kernel_rfl) ?_
        repeat (first | go_big_quiet_step (fail))
        refine wpQuiet_nil ?_
        intro _ hw'
        obtain ⟨⟨w7, hb7⟩, hw''⟩ := hw'
        change _ = w7 at hw''
        subst hw''
        obtain ⟨w7, hV⟩ := Below.nam hb7; subst hV
        have fk0_ := keep_cell hb7 ff0; clear ff0; have ff0 := fk0_; clear fk0_
        have fk1_ := keep_cell hb7 ff1; clear ff1; have ff1 := fk1_; clear fk1_
        have fk2_ := keep_cell hb7 ff2; clear ff2; have ff2 := fk2_; clear fk2_
        clear bl; have bl := cell_lt ff0
        have R17 := R16.keep cstK hb7; have R27 := R26.keep saiK hb7
        have BX7 := BX6.keep hb7; have BM7 := BM6.keep hb7; have BO7 := BO6.keep hb7; have BQ7 := BQ6.keep hb7
        have hR7 := hR6.keep cstK hb7; have hS7 := hS6.keep saiK hb7; have m7 := m6.keep hb7
        have hg7 : Below g w w7 := hg6.trans (hb7.mono (show g ≤ w6.heap.size by omega))
        have hgz7 : q < w7.heap.size := BQ7.lt
        clear R16 R26 BX6 BM6 BO6 BQ6 hR6 hS6 m6 hg6 hgz6 l0 l1 l2 hb7 o0 o1 of og q0 q1 qf qg x0 x1 y1 y2
        have o0 := BO7.cell 0 _ rfl; have o1 := BO7.cell 1 _ rfl; have of := BO7.fz 0 (by simp); have og := BO7.fz 1 (by simp)
        have q0 := BQ7.cell 0 _ rfl; have q1 := BQ7.cell 1 _ rfl; have x0 := BX7.cell 0 _ rfl; have x1 := BX7.cell 1 _ rfl
        have qf := BQ7.fz 0 (by simp); have qg := BQ7.fz 1 (by simp)
        have y1 := BM7.cell 1 _ rfl; have y2 := BM7.cell 2 _ rfl
        have l0 : g < w7.heap.size := by omega
        have l1 : g + 1 < w7.heap.size := by omega
        have l2 : g + 2 < w7.heap.size := by omega
        have y0 := BM7.cell 0 _ rfl
        have y3 := BM7.cell 3 _ rfl
        have y4 := BM7.cell 4 _ rfl
        have y5 := BM7.cell 5 _ rfl
        have y6 := BM7.cell 6 _ rfl
        have y7 := BM7.cell 7 _ rfl
        go_wp2_with fail
        have hdo := catDo_impl x.cat m A1 n1 c1 A3 n3 c3 w7 hR7 hW hB m7 hmB hn3
        unfold ctlV cmV at hdo
        refine hdo.mono ?_
        rintro e w8 ⟨E1, j1, k1, fc, rfl, RC, NC, FC, hb8⟩
        clear hdo y0 y3 y4 y5 y6 y7
        have hqs := BQ7.lt
        have FC8 : ∀ t ∈ fc, q < t := fun t ht => by have := FC t ht; omega
        have R18 := R17.keep cstK hb8; have R28 := R27.keep saiK hb8
        have BX8 := BX7.keep hb8; have BM8 := BM7.keep hb8; have BO8 := BO7.keep hb8; have BQ8 := BQ7.keep hb8
        have hR8 := hR7.keep cstK hb8; have hS8 := hS7.keep saiK hb8; have m8 := m7.keep hb8
        have hg8 : Below g w w8 := hg7.trans (hb8.mono (show g ≤ w7.heap.size by omega))
        have hgz8 : q < w8.heap.size := BQ8.lt
        clear R17 R27 BX7 BM7 BO7 BQ7 hR7 hS7 m7 hg7 hgz7 l0 l1 l2 hb8 o0 o1 of og q0 q1 qf qg x0 x1 y1 y2
        have o0 := BO8.cell 0 _ rfl; have o1 := BO8.cell 1 _ rfl; have of := BO8.fz 0 (by simp); have og := BO8.fz 1 (by simp)
        have q0 := BQ8.cell 0 _ rfl; have q1 := BQ8.cell 1 _ rfl; have x0 := BX8.cell 0 _ rfl; have x1 := BX8.cell 1 _ rfl
        have qf := BQ8.fz 0 (by simp); have qg := BQ8.fz 1 (by simp)
        have y1 := BM8.cell 1 _ rfl; have y2 := BM8.cell 2 _ rfl
        have l0 : g < w8.heap.size := by omega
        have l1 : g + 1 < w8.heap.size := by omega
        have l2 : g + 2 < w8.heap.size := by omega
        clear FC hqs
        obtain ⟨qb, rfl⟩ := row_head R28 (by omega)
        have hkm2 : (k : Int) < (m2 : Int) := by omega
        have cq := Ch.set (w := w8) (g := q) (o := 0) (v := .slice E1 j1 k1)
        have a5 := (Below.refl (w8.setCell ⟨q, 0, none⟩ (.slice E1 j1 k1)).heap.size (w8.setCell ⟨q, 0, none⟩ (.slice E1 j1 k1))).alloc (Nat.le_refl _) (.cells #[.slice E1 j1 k1] 84)
        have a6 := (Below.refl ((w8.setCell ⟨q, 0, none⟩ (.slice E1 j1 k1)).alloc (.cells #[.slice E1 j1 k1] 84)).heap.size ((w8.setCell ⟨q, 0, none⟩ (.slice E1 j1 k1)).alloc (.cells #[.slice E1 j1 k1] 84))).alloc (Nat.le_refl _) (.cells #[.int .i64 m.cl, .int .i64 m.no, .string (catDo x.cat m).2] 153)
        have FD : ∀ t ∈ f2, g + 2 < t ∧ t < q := fun t ht => F3 t (List.mem_append_right _ ht)
        have N2 : f2.Nodup := (List.nodup_append.1 N).2.1
        have RC9 := ((RC.ch cstK cq (fun b hb e => by have h5 := FC8 b hb; have e : b = q := e; omega)).keep cstK a5).keep cstK a6
        have R29 := ((R28.ch saiK cq (fun b hb e => by have h5 := FD b hb; have e : b = q := e; omega)).keep saiK a5).keep saiK a6
        have BO9 := ((BO8.ch cq (ne_blk (by omega))).keep a5).keep a6
        have BQ9 := ((BQ8.set (j := 0) (v := .slice E1 j1 k1) (by simp)).keep a5).keep a6
        simp only [List.set_cons_zero] at BQ9
        have hg9 := bthen (bthen (show Below w.heap.size w (w8.setCell ⟨q, 0, none⟩ (.slice E1 j1 k1)) by rw [HG.out]; exact cq.belowB hg8 (by omega) (fun k hk => by have hk : k = q := hk; omega)) a5) a6
        obtain ⟨fs, R210, N10, F10, C10, hqb, hth⟩ := saiO_set (saiNew x m) R29 N2 hkm
        have hqq := FD qb hqb
        repeat (first | ((with_reducible refine wpList_store_mid ?_ 153 (.tmp 103) (.tmp 102) ?_ qb (k * 3) #[.int .i64 m.cl, .int .i64 m.no, .string (catDo x.cat m).2] ?_ ?_ ?_ ?_ ?_ ?_); (rfl); (rfl); (rfl); (rfl); (exact hth); (exact sizeSaid0); (simp [Value.oneCell']); (refine stop_of ?_)) | go_values | go_skip | go_guarded | go_step | go_upon | (simp only []; go_at_K))
        obtain ⟨w9, hw9⟩ : ∃ w9, w9 = ((((w8.setCell ⟨q, 0, none⟩ (.slice E1 j1 k1)).alloc (.cells #[.slice E1 j1 k1] 84)).alloc (.cells #[.int .i64 m.cl, .int .i64 m.no, .string (catDo x.cat m).2] 153)).setCells qb (k * 3) [.int .i64 m.cl, .int .i64 m.no, .string (catDo x.cat m).2]) := ⟨_, rfl⟩
        have R29' : RowO saiF 153 3 fs w9 (some ⟨qb, 0, none⟩) m2 d2 (x.said.set k (saiNew x m)) := by rw [hw9]; exact R210
        have C9 : Ch (fun b => b ∈ f2) (((w8.setCell ⟨q, 0, none⟩ (.slice E1 j1 k1)).alloc (.cells #[.slice E1 j1 k1] 84)).alloc (.cells #[.int .i64 m.cl, .int .i64 m.no, .string (catDo x.cat m).2] 153)) w9 := by rw [hw9]; exact C10.mono (fun b hb => by have hb : b = qb := hb; rw [hb]; exact hqb)
        change Stop (wpList _ _ _ _ _ ((((w8.setCell ⟨q, 0, none⟩ (.slice E1 j1 k1)).alloc (.cells #[.slice E1 j1 k1] 84)).alloc (.cells #[.int .i64 m.cl, .int .i64 m.no, .string (catDo x.cat m).2] 153)).setCells qb (k * 3) [.int .i64 m.cl, .int .i64 m.no, .string (catDo x.cat m).2]))
        rw [← hw9]
        unfold Stop
        clear hw9 R210 C10 hth R29
        have FCl := RC.lt cstK
        have hU9 : w8.heap.size ≤ (((w8.setCell ⟨q, 0, none⟩ (.slice E1 j1 k1)).alloc (.cells #[.slice E1 j1 k1] 84)).alloc (.cells #[.int .i64 m.cl, .int .i64 m.no, .string (catDo x.cat m).2] 153)).heap.size := Nat.le_trans cq.size (Nat.le_trans a5.size a6.size)
        have BQ10 := BQ9.ch C9 (fun h => by have h5 := FD q h; omega)
        have BO10 := BO9.ch C9 (fun h => by have h5 := FD (g + 2) h; omega)
        have RC10 := RC9.ch cstK C9 (fun b hb e => by have h5 := FC8 b hb; have h6 := FD b e; omega)
        have hg10 := C9.belowB hg9 hg9.size (fun k hk => by have h5 := FD k hk; have h6 := HG.out; omega)
        rw [HG.out] at hg10
        have hNN : (fc ++ fs).Nodup := List.nodup_append.2 ⟨NC, N10, fun a ha b hb e => by have h6 := FC8 a ha; have h8 := FD b (F10 b hb); omega⟩
        have hFF : ∀ b ∈ fc ++ fs, g ≤ b ∧ b ≠ g + 2 := fun b hb => by rcases List.mem_append.1 hb with h5 | h5; (have h6 := FC8 b h5; omega); (have h6 := FD b (F10 b h5); omega)
        have hWr := (BO10.setCells (vs := [.slice E1 j1 k1, .slice (some ⟨qb, 0, none⟩) m2 d2]) rfl).range
        clear o0 o1 of og q0 q1 qf qg x0 x1 y1 y2 l0 l1 l2
        have o0 := BO10.cell 0 _ rfl; have o1 := BO10.cell 1 _ rfl; have of := BO10.fz 0 (by simp); have og := BO10.fz 1 (by simp)
        have q0 := BQ10.cell 0 _ rfl; have q1 := BQ10.cell 1 _ rfl
        have l2 := BO10.lt; have lq := BQ10.lt
        have HWR := Lib.hid hWr; clear hWr BQ10 BO10 C9
        go_wp2
        refine bodyPost_ret (results_cell_tmp Try.results155 rfl HWR.out Try.underlying87 rfl sizeState0) rfl ?_
        rw [HD.out, stGo_none HN.out, HP.out]
        exact sta_out (g := g) (p := g + 2) RC10 R29' hNN hFF hg10 HG.out (by omega) l2
      · have g1 : (y.cl == m.cl) = false := beq_eq_false_iff_ne.2 hcl
        have HN := Lib.hid (show repS x.said m = none by rw [HRA.out, HYA.out, if_pos hcl])
        have HP := Lib.hid (show putS x.said (saiNew x m) = x.said.take k ++ saiNew x m :: x.said.drop k by rw [HPA.out, HYA.out]; exact if_neg hcl)
        clear hcl HRA HPA
        go_wp2_with fail
        refine wp_region_grow (by kernel_rfl) (by kernel_rfl) ?_
        repeat (first | go_big_quiet_step (fail))
        refine wpQuiet_nil ?_
        intro _ hw'
        obtain ⟨⟨w5, hb5⟩, hw''⟩ := hw'
        change _ = w5 at hw''
        subst hw''
        obtain ⟨w5, hV⟩ := Below.nam hb5; subst hV
        have R15 := R14.keep cstK hb5; have R25 := R24.keep saiK hb5
        have BX5 := BX4.keep hb5; have BM5 := BM4.keep hb5; have BO5 := BO4.keep hb5; have BQ5 := BQ4.keep hb5
        have hR5 := hR4.keep cstK hb5; have hS5 := hS4.keep saiK hb5; have m5 := m4.keep hb5
        have hg5 : Below g w w5 := hg4.trans (hb5.mono (show g ≤ w4.heap.size by omega))
        have hgz5 : q < w5.heap.size := BQ5.lt
        clear R14 R24 BX4 BM4 BO4 BQ4 hR4 hS4 m4 hg4 hgz4 l0 l1 l2 hb5 o0 o1 of og q0 q1 qf qg x0 x1 y1 y2
        have o0 := BO5.cell 0 _ rfl; have o1 := BO5.cell 1 _ rfl; have of := BO5.fz 0 (by simp); have og := BO5.fz 1 (by simp)
        have q0 := BQ5.cell 0 _ rfl; have q1 := BQ5.cell 1 _ rfl; have x0 := BX5.cell 0 _ rfl; have x1 := BX5.cell 1 _ rfl
        have qf := BQ5.fz 0 (by simp); have qg := BQ5.fz 1 (by simp)
        have y1 := BM5.cell 1 _ rfl; have y2 := BM5.cell 2 _ rfl
        have l0 : g < w5.heap.size := by omega
        have l1 : g + 1 < w5.heap.size := by omega
        have l2 : g + 2 < w5.heap.size := by omega
        go_wp2_with fail
        refine wp_region_grow (by kernel_rfl) (by kernel_rfl) ?_
        repeat (first | go_big_quiet_step (fail))
        refine wpQuiet_nil ?_
        intro _ hw'
        obtain ⟨⟨w6, hb6⟩, hw''⟩ := hw'
        change _ = w6 at hw''
        subst hw''
        obtain ⟨w6, hV⟩ := Below.nam hb6; subst hV
        have R16 := R15.keep cstK hb6; have R26 := R25.keep saiK hb6
        have BX6 := BX5.keep hb6; have BM6 := BM5.keep hb6; have BO6 := BO5.keep hb6; have BQ6 := BQ5.keep hb6
        have hR6 := hR5.keep cstK hb6; have hS6 := hS5.keep saiK hb6; have m6 := m5.keep hb6
        have hg6 : Below g w w6 := hg5.trans (hb6.mono (show g ≤ w5.heap.size by omega))
        have hgz6 : q < w6.heap.size := BQ6.lt
        clear R15 R25 BX5 BM5 BO5 BQ5 hR5 hS5 m5 hg5 hgz5 l0 l1 l2 hb6 o0 o1 of og q0 q1 qf qg x0 x1 y1 y2
        have o0 := BO6.cell 0 _ rfl; have o1 := BO6.cell 1 _ rfl; have of := BO6.fz 0 (by simp); have og := BO6.fz 1 (by simp)
        have q0 := BQ6.cell 0 _ rfl; have q1 := BQ6.cell 1 _ rfl; have x0 := BX6.cell 0 _ rfl; have x1 := BX6.cell 1 _ rfl
        have qf := BQ6.fz 0 (by simp); have qg := BQ6.fz 1 (by simp)
        have y1 := BM6.cell 1 _ rfl; have y2 := BM6.cell 2 _ rfl
        have l0 : g < w6.heap.size := by omega
        have l1 : g + 1 < w6.heap.size := by omega
        have l2 : g + 2 < w6.heap.size := by omega
        go_wp2_with fail
        refine wp_region_grow (by kernel_rfl) (by kernel_rfl) ?_
        repeat (first | go_big_quiet_step (fail))
        refine wpQuiet_nil ?_
        intro _ hw'
        obtain ⟨⟨w7, hb7⟩, hw''⟩ := hw'
        change _ = w7 at hw''
        subst hw''
        obtain ⟨w7, hV⟩ := Below.nam hb7; subst hV
        have R17 := R16.keep cstK hb7; have R27 := R26.keep saiK hb7
        have BX7 := BX6.keep hb7; have BM7 := BM6.keep hb7; have BO7 := BO6.keep hb7; have BQ7 := BQ6.keep hb7
        have hR7 := hR6.keep cstK hb7; have hS7 := hS6.keep saiK hb7; have m7 := m6.keep hb7
        have hg7 : Below g w w7 := hg6.trans (hb7.mono (show g ≤ w6.heap.size by omega))
        have hgz7 : q < w7.heap.size := BQ7.lt
        clear R16 R26 BX6 BM6 BO6 BQ6 hR6 hS6 m6 hg6 hgz6 l0 l1 l2 hb7 o0 o1 of og q0 q1 qf qg x0 x1 y1 y2
        have o0 := BO7.cell 0 _ rfl; have o1 := BO7.cell 1 _ rfl; have of := BO7.fz 0 (by simp); have og := BO7.fz 1 (by simp)
        have q0 := BQ7.cell 0 _ rfl; have q1 := BQ7.cell 1 _ rfl; have x0 := BX7.cell 0 _ rfl; have x1 := BX7.cell 1 _ rfl
        have qf := BQ7.fz 0 (by simp); have qg := BQ7.fz 1 (by simp)
        have y1 := BM7.cell 1 _ rfl; have y2 := BM7.cell 2 _ rfl
        have l0 : g < w7.heap.size := by omega
        have l1 : g + 1 < w7.heap.size := by omega
        have l2 : g + 2 < w7.heap.size := by omega
        have y0 := BM7.cell 0 _ rfl
        have y3 := BM7.cell 3 _ rfl
        have y4 := BM7.cell 4 _ rfl
        have y5 := BM7.cell 5 _ rfl
        have y6 := BM7.cell 6 _ rfl
        have y7 := BM7.cell 7 _ rfl
        go_wp2_with fail
        have hdo := catDo_impl x.cat m A1 n1 c1 A3 n3 c3 w7 hR7 hW hB m7 hmB hn3
        unfold ctlV cmV at hdo
        refine hdo.mono ?_
        rintro e w8 ⟨E1, j1, k1, fc, rfl, RC, NC, FC, hb8⟩
        clear hdo y0 y3 y4 y5 y6 y7
        have hqs := BQ7.lt
        have FC8 : ∀ t ∈ fc, q < t := fun t ht => by have := FC t ht; omega
        have R18 := R17.keep cstK hb8; have R28 := R27.keep saiK hb8
        have BX8 := BX7.keep hb8; have BM8 := BM7.keep hb8; have BO8 := BO7.keep hb8; have BQ8 := BQ7.keep hb8
        have hR8 := hR7.keep cstK hb8; have hS8 := hS7.keep saiK hb8; have m8 := m7.keep hb8
        have hg8 : Below g w w8 := hg7.trans (hb8.mono (show g ≤ w7.heap.size by omega))
        have hgz8 : q < w8.heap.size := BQ8.lt
        clear R17 R27 BX7 BM7 BO7 BQ7 hR7 hS7 m7 hg7 hgz7 l0 l1 l2 hb8 o0 o1 of og q0 q1 qf qg x0 x1 y1 y2
        have o0 := BO8.cell 0 _ rfl; have o1 := BO8.cell 1 _ rfl; have of := BO8.fz 0 (by simp); have og := BO8.fz 1 (by simp)
        have q0 := BQ8.cell 0 _ rfl; have q1 := BQ8.cell 1 _ rfl; have x0 := BX8.cell 0 _ rfl; have x1 := BX8.cell 1 _ rfl
        have qf := BQ8.fz 0 (by simp); have qg := BQ8.fz 1 (by simp)
        have y1 := BM8.cell 1 _ rfl; have y2 := BM8.cell 2 _ rfl
        have l0 : g < w8.heap.size := by omega
        have l1 : g + 1 < w8.heap.size := by omega
        have l2 : g + 2 < w8.heap.size := by omega
        clear FC hqs
        have cq := Ch.set (w := w8) (g := q) (o := 0) (v := .slice E1 j1 k1)
        have a5 := (Below.refl (w8.setCell ⟨q, 0, none⟩ (.slice E1 j1 k1)).heap.size (w8.setCell ⟨q, 0, none⟩ (.slice E1 j1 k1))).alloc (Nat.le_refl _) (.cells #[.slice E1 j1 k1] 84)
        have a6 := (Below.refl ((w8.setCell ⟨q, 0, none⟩ (.slice E1 j1 k1)).alloc (.cells #[.slice E1 j1 k1] 84)).heap.size ((w8.setCell ⟨q, 0, none⟩ (.slice E1 j1 k1)).alloc (.cells #[.slice E1 j1 k1] 84))).alloc (Nat.le_refl _) (.cells #[.int .i64 m.cl, .int .i64 m.no, .string (catDo x.cat m).2] 153)
        have FD : ∀ t ∈ f2, g + 2 < t ∧ t < q := fun t ht => F3 t (List.mem_append_right _ ht)
        have N2 : f2.Nodup := (List.nodup_append.1 N).2.1
        have RC9 := ((RC.ch cstK cq (fun b hb e => by have h5 := FC8 b hb; have e : b = q := e; omega)).keep cstK a5).keep cstK a6
        have R29 := ((R28.ch saiK cq (fun b hb e => by have h5 := FD b hb; have e : b = q := e; omega)).keep saiK a5).keep saiK a6
        have BO9 := ((BO8.ch cq (ne_blk (by omega))).keep a5).keep a6
        have BQ9 := ((BQ8.set (j := 0) (v := .slice E1 j1 k1) (by simp)).keep a5).keep a6
        simp only [List.set_cons_zero] at BQ9
        have hg9 := bthen (bthen (show Below w.heap.size w (w8.setCell ⟨q, 0, none⟩ (.slice E1 j1 k1)) by rw [HG.out]; exact cq.belowB hg8 (by omega) (fun k hk => by have hk : k = q := hk; omega)) a5) a6
        go_wp2_with fail
        have a7 := (Below.refl (((w8.setCell ⟨q, 0, none⟩ (.slice E1 j1 k1)).alloc (.cells #[.slice E1 j1 k1] 84)).alloc (.cells #[.int .i64 m.cl, .int .i64 m.no, .string (catDo x.cat m).2] 153)).heap.size (((w8.setCell ⟨q, 0, none⟩ (.slice E1 j1 k1)).alloc (.cells #[.slice E1 j1 k1] 84)).alloc (.cells #[.int .i64 m.cl, .int .i64 m.no, .string (catDo x.cat m).2] 153))).alloc (Nat.le_refl _) (.cells #[.int .i64 m.cl, .int .i64 m.no, .string (catDo x.cat m).2] 153)
        have hUz : (((w8.setCell ⟨q, 0, none⟩ (.slice E1 j1 k1)).alloc (.cells #[.slice E1 j1 k1] 84)).alloc (.cells #[.int .i64 m.cl, .int .i64 m.no, .string (catDo x.cat m).2] 153)).heap.size = w8.heap.size + 1 + 1 := by simp [go_sem]
        have BV : BoxL ((((w8.setCell ⟨q, 0, none⟩ (.slice E1 j1 k1)).alloc (.cells #[.slice E1 j1 k1] 84)).alloc (.cells #[.int .i64 m.cl, .int .i64 m.no, .string (catDo x.cat m).2] 153)).alloc (.cells #[.int .i64 m.cl, .int .i64 m.no, .string (catDo x.cat m).2] 153)) (w8.heap.size + 1 + 1) [.int .i64 m.cl, .int .i64 m.no, .string (catDo x.cat m).2] := by have h5 := BoxL.new (((w8.setCell ⟨q, 0, none⟩ (.slice E1 j1 k1)).alloc (.cells #[.slice E1 j1 k1] 84)).alloc (.cells #[.int .i64 m.cl, .int .i64 m.no, .string (catDo x.cat m).2] 153)) [.int .i64 m.cl, .int .i64 m.no, .string (catDo x.cat m).2] 153; rwa [hUz] at h5
        have hfv : ∀ j, ((((w8.setCell ⟨q, 0, none⟩ (.slice E1 j1 k1)).alloc (.cells #[.slice E1 j1 k1] 84)).alloc (.cells #[.int .i64 m.cl, .int .i64 m.no, .string (catDo x.cat m).2] 153)).alloc (.cells #[.int .i64 m.cl, .int .i64 m.no, .string (catDo x.cat m).2] 153)).frozen? ⟨w8.heap.size + 1 + 1, j, none⟩ = false := fun j => World.frozen?_alloc_at (w := (((w8.setCell ⟨q, 0, none⟩ (.slice E1 j1 k1)).alloc (.cells #[.slice E1 j1 k1] 84)).alloc (.cells #[.int .i64 m.cl, .int .i64 m.no, .string (catDo x.cat m).2] 153))) _ _ (w8.heap.size + 1 + 1) j hUz.symm
        refine (saiO_ins (saiNew x m) (w8.heap.size + 1 + 1) x.said B2 m2 d2 k f2 _ (R29.keep saiK a7) N2 hm2 (by omega) (fun h => by have h5 := FD _ h; omega) BV hfv).mono ?_
        rintro e w9 ⟨B3, e3, fs, rfl, R210, N10, F10a, C10a⟩
        have C10 := (Ch.of_below (S := fun t => t ∈ f2) a7).trans C10a
        have F10 : ∀ t ∈ fs, t ∈ f2 ∨ (((w8.setCell ⟨q, 0, none⟩ (.slice E1 j1 k1)).alloc (.cells #[.slice E1 j1 k1] 84)).alloc (.cells #[.int .i64 m.cl, .int .i64 m.no, .string (catDo x.cat m).2] 153)).heap.size ≤ t := fun t ht => by rcases F10a t ht with h5 | h5; (exact .inl h5); (exact .inr (Nat.le_trans a7.size h5))
        clear a7 BV hfv F10a C10a
        have FCl := RC.lt cstK
        have hU9 : w8.heap.size ≤ (((w8.setCell ⟨q, 0, none⟩ (.slice E1 j1 k1)).alloc (.cells #[.slice E1 j1 k1] 84)).alloc (.cells #[.int .i64 m.cl, .int .i64 m.no, .string (catDo x.cat m).2] 153)).heap.size := Nat.le_trans cq.size (Nat.le_trans a5.size a6.size)
        have BQ10 := BQ9.ch C10 (fun h => by have h5 := FD q h; omega)
        have BO10 := BO9.ch C10 (fun h => by have h5 := FD (g + 2) h; omega)
        have RC10 := RC9.ch cstK C10 (fun b hb e => by have h5 := FC8 b hb; have h6 := FD b e; omega)
        have hg10 := C10.belowB hg9 hg9.size (fun k hk => by have h5 := FD k hk; have h6 := HG.out; omega)
        rw [HG.out] at hg10
        have hz10 := C10.size
        have cr := Ch.set (w := w9) (g := q) (o := 1) (v := .slice B3 (m2 + 1) e3)
        have FS : ∀ b ∈ fs, g + 2 < b ∧ b ≠ q := fun b hb => by rcases F10 b hb with h5 | h5; (have h6 := FD b h5; omega); (omega)
        have BO11 := BO10.ch cr (ne_blk (by omega))
        have RC11 := RC10.ch cstK cr (fun b hb e => by have h5 := FC8 b hb; have e : b = q := e; omega)
        have R211 := R210.ch saiK cr (fun b hb e => (FS b hb).2 e)
        have hg11 := cr.belowB hg10 (by omega) (fun k hk => by have hk : k = q := hk; omega)
        have hz11 := cr.size
        have hNN : (fc ++ fs).Nodup := List.nodup_append.2 ⟨NC, N10, fun a ha b hb e => by have h5 := FCl a ha; have h6 := FC8 a ha; rcases F10 b hb with h7 | h7; (have h8 := FD b h7; omega); (omega)⟩
        have hFF : ∀ b ∈ fc ++ fs, g ≤ b ∧ b ≠ g + 2 := fun b hb => by rcases List.mem_append.1 hb with h5 | h5; (have h6 := FC8 b h5; omega); (have h6 := FS b h5; omega)
        have hWr := (BO11.setCells (vs := [.slice E1 j1 k1, .slice B3 (m2 + 1) e3]) rfl).range
        clear o0 o1 of og q0 q1 qf qg x0 x1 y1 y2 l0 l1 l2
        have o0 := BO10.cell 0 _ rfl; have o1 := BO10.cell 1 _ rfl; have of := BO10.fz 0 (by simp); have og := BO10.fz 1 (by simp)
        have q0 := BQ10.cell 0 _ rfl; have q1 := BQ10.cell 1 _ rfl; have qg := BQ10.fz 1 (by simp)
        have l2 := BO10.lt; have lq := BQ10.lt
        have hnq1 : ¬ (g + 2 = q) := by omega
        have hnq2 : ¬ (q = g + 2) := by omega
        have HWR := Lib.hid hWr; have HZ := Lib.hid (And.intro hz10 hz11); clear hWr hz10 hz11 BQ10 BO10 BO11 RC10 R210 hg10
        go_wp2
        refine bodyPost_ret (results_cell_tmp Try.results155 rfl HWR.out Try.underlying87 rfl sizeState0) rfl ?_
        rw [HD.out, stGo_none HN.out, HP.out]
        exact sta_out (g := g) (p := g + 2) RC11 R211 hNN hFF hg11 HG.out (by omega) (by have := HZ.out; omega)
end Go.Proofs.Ytdphdnllhmnelaa
