/- Contracts and lemmas: CatDo. -/
import Derived.Test.YtdphdnllhmnelaaJ32
import Derived.Test.YtdphdnllhmnelaaJ19
import Derived.Test.YtdphdnllhmnelaaJ33
/- The program's CatDo. -/
namespace Go.Proofs.Ytdphdnllhmnelaa
open Go.RowKit
attribute [local go_sem] Grow.cell Grow.frozen
attribute [local irreducible] StrsAt StrR StrO RowR RowO cstFnd snpFnd sLt atS catOkB cmOkB
theorem out_set {fp : List Nat} {A' : Option Addr} {n' c' B p : Nat} {l : List Cst} {w w5 : World} (R : RowO cstF 148 2 fp w5 A' n' c' l) (hb : Below B w w5) (hB : B ≤ p) (hBw : B ≤ w5.heap.size) (hp : p ∉ fp) (v : Value) :
    RowO cstF 148 2 fp (w5.setCell ⟨p, 0, none⟩ v) A' n' c' l ∧ Below B w (w5.setCell ⟨p, 0, none⟩ v) :=
  ⟨R.ch cstK Ch.set (fun b hb e => hp (e ▸ hb)), Ch.set.belowB hb hBw (fun k hk => by subst hk; exact hB)⟩
theorem SetRow.far {l : List Cst} {m : Cm} {k qb n c : Nat} {fp : List Nat} {w0 w w' : World} {e : Ending} (hb : Below w0.heap.size w0 w) (h : SetRow l m k qb n c fp w e w') : SetRow l m k qb n c fp w0 e w' := by
  obtain ⟨fp', h1, h2, h3, h4, h5⟩ := h
  exact ⟨fp', h1, h2, h3, fun t ht => by rcases h4 t ht with h | h; (exact .inl h); (exact .inr (Nat.le_trans hb.size h)), (Ch.of_below hb).trans h5⟩
theorem row_head {α : Type} {F : List Nat → World → List Value → α → Prop} {e sz n c : Nat} {fp : List Nat} {w : World} {A : Option Addr} {l : List α} (h : RowO F e sz fp w A n c l) (hn : 0 < n) : ∃ qb, A = some ⟨qb, 0, none⟩ := by
  obtain ⟨css, fps, _, own, _, _⟩ := h.ex
  rcases own_form own with ⟨_, h0, _⟩ | ⟨g, rfl, _⟩
  · omega
  · exact ⟨g, rfl⟩
set_option maxRecDepth 8000 in
set_option maxHeartbeats 8000000 in
theorem catDo_impl (x : Ctl) (m : Cm) (A : Option Addr) (n c : Nat) (A1 : Option Addr) (n1 c1 : Nat) (w : World) (h : RowR cstR 2 w A n c x.sets) (hW : ctlW x) (hB : ctlB x) (hm : StrR w A1 n1 c1 m.ch) (hmB : cmB m) (hn1 : n1 ≤ 1000) :
    Calls Try.prog 175 #[ctlV x (.slice A n c), cmV m (.slice A1 n1 c1)] w fun e w' => ∃ A' n' c' fp, e = .returned (.tuple #[ctlV x (.slice A' n' c'), .string (catDo x m).2]) ∧ RowO cstF 148 2 fp w' A' n' c' (catDo x m).1.sets ∧ fp.Nodup ∧ (∀ t ∈ fp, w.heap.size ≤ t) ∧ Below w.heap.size w w' := by
  have hn : n ≤ 1000 := by have := hW.1; have := h.len; omega
  have al1 := (Below.refl w.heap.size w).alloc (Nat.le_refl _) (.cells #[.slice A n c] 84)
  have al2 := al1.alloc al1.size (.cells #[.int .i64 m.kd, .int .i64 m.cl, .int .i64 m.no, .string m.s, .string m.nm, .string m.tg, .int .i64 m.n, .slice A1 n1 c1] 47)
  have al3 := al2.alloc al2.size (.cells #[.slice none 0 0] 84)
  have BX := ((BoxL.new w [.slice A n c] 84).keep ((Below.refl _ _).alloc (Nat.le_refl _) (.cells #[.int .i64 m.kd, .int .i64 m.cl, .int .i64 m.no, .string m.s, .string m.nm, .string m.tg, .int .i64 m.n, .slice A1 n1 c1] 47))).keep ((Below.refl _ _).alloc (Nat.le_refl _) (.cells #[.slice none 0 0] 84))
  have BM := (BoxL.new (w.alloc (.cells #[.slice A n c] 84)) [.int .i64 m.kd, .int .i64 m.cl, .int .i64 m.no, .string m.s, .string m.nm, .string m.tg, .int .i64 m.n, .slice A1 n1 c1] 47).keep ((Below.refl _ _).alloc (Nat.le_refl _) (.cells #[.slice none 0 0] 84))
  have BO := BoxL.new ((w.alloc (.cells #[.slice A n c] 84)).alloc (.cells #[.int .i64 m.kd, .int .i64 m.cl, .int .i64 m.no, .string m.s, .string m.nm, .string m.tg, .int .i64 m.n, .slice A1 n1 c1] 47)) [.slice none 0 0] 84
  have hz1 : (w.alloc (.cells #[.slice A n c] 84)).heap.size = w.heap.size + 1 := Array.size_push _
  have hz2 : ((w.alloc (.cells #[.slice A n c] 84)).alloc (.cells #[.int .i64 m.kd, .int .i64 m.cl, .int .i64 m.no, .string m.s, .string m.nm, .string m.tg, .int .i64 m.n, .slice A1 n1 c1] 47)).heap.size = w.heap.size + 2 := (Array.size_push _).trans (by rw [hz1])
  unfold ctlV cmV
  go_enter Try.func175, Try.ntmps175
  go_wp2_with fail
  obtain ⟨W, hWW⟩ : ∃ W, W = ((w.alloc (.cells #[.slice A n c] 84)).alloc (.cells #[.int .i64 m.kd, .int .i64 m.cl, .int .i64 m.no, .string m.s, .string m.nm, .string m.tg, .int .i64 m.n, .slice A1 n1 c1] 47)).alloc (.cells #[.slice none 0 0] 84) := ⟨_, rfl⟩
  obtain ⟨g, hg⟩ : ∃ g, w.heap.size = g := ⟨_, rfl⟩
  rw [hz1] at BM
  rw [hz2] at BO
  have HG := Lib.hid hg
  rw [← hWW] at al3 BX BM BO ⊢
  simp only [hg] at BX BM BO ⊢
  clear hWW hg al1 al2 hz1 hz2
  have hR := h.keep cstK al3
  have mW := hm.keep al3
  have hgW := BO.lt
  have ex := copyCat_impl x A n c W hR hW
  unfold ctlV at ex
  refine ex.mono ?_
  rintro e w1 ⟨⟨A2, n2, c2, fp, rfl, RO, N2, F2⟩, hb1⟩
  clear ex
  have BX1 := BX.keep hb1; have BM1 := BM.keep hb1; have BO1 := BO.keep hb1
  have hR1 := hR.keep cstK hb1; have mW1 := mW.keep hb1
  clear BX BM BO hR mW
  have hg0 : g < w1.heap.size := BX1.lt
  have hg1 : g + 1 < w1.heap.size := BM1.lt
  have hg2 : g + 2 < w1.heap.size := BO1.lt
  have x0 := BX1.cell 0 _ rfl
  go_wp2_with fail
  have al4 := (Below.refl w1.heap.size w1).alloc (Nat.le_refl _) (.cells #[.slice A2 n2 c2] 84)
  have BQ := BoxL.new w1 [.slice A2 n2 c2] 84
  obtain ⟨V, hV⟩ : ∃ V, V = w1.alloc (.cells #[.slice A2 n2 c2] 84) := ⟨_, rfl⟩
  obtain ⟨q, hq⟩ : ∃ q, w1.heap.size = q := ⟨_, rfl⟩
  have HQ := Lib.hid hq
  rw [← hV] at al4 BQ ⊢
  simp only [hq] at BQ hg0 hg1 hg2 ⊢
  have hbV := bthen hb1 al4
  have RV := RO.keep cstK al4
  have BXV := BX1.keep al4; have BMV := BM1.keep al4; have BOV := BO1.keep al4
  have hRV := hR1.keep cstK al4; have mV := mW1.keep al4
  have F3 : ∀ t ∈ fp, g + 2 < t ∧ t < q := fun t ht => by have := F2 t ht; omega
  have hgV : Below g w V := by have := bthen al3 hbV; rw [HG.out] at this; exact this
  clear hV hq BX1 BM1 BO1 hR1 mW1 RO F2 al4 hb1 x0 hbV
  have hco := catOk_impl x A n c V hRV hB
  unfold ctlV at hco
  refine hco.mono ?_
  rintro e w2 ⟨rfl, hb2⟩
  clear hco
  have R2 := RV.keep cstK hb2
  have BX2 := BXV.keep hb2; have BM2 := BMV.keep hb2; have BO2 := BOV.keep hb2; have BQ2 := BQ.keep hb2
  have hR2 := hRV.keep cstK hb2; have m2 := mV.keep hb2
  have hgq := BQ.lt
  have hg2 : Below g w w2 := by
    have := hb2.mono (show g ≤ V.heap.size by omega)
    exact hgV.trans this
  have hgz : q < w2.heap.size := BQ2.lt
  clear RV BXV BMV BOV BQ hRV mV hgV hb2 hgq
  have o0 := BO2.cell 0 _ rfl
  have of := BO2.fz 0 (by simp)
  have q0 := BQ2.cell 0 _ rfl
  have x0 := BX2.cell 0 _ rfl
  have y0 := BM2.cell 0 _ rfl
  have y1 := BM2.cell 1 _ rfl
  have y2 := BM2.cell 2 _ rfl
  have y3 := BM2.cell 3 _ rfl
  have y4 := BM2.cell 4 _ rfl
  have y5 := BM2.cell 5 _ rfl
  have y6 := BM2.cell 6 _ rfl
  have y7 := BM2.cell 7 _ rfl
  have l0 : g < w2.heap.size := by omega
  have l1 : g + 1 < w2.heap.size := by omega
  have l2 : g + 2 < w2.heap.size := by omega
  have hpf : g + 2 ∉ fp := fun h => by have := F3 _ h; omega
  obtain ⟨k, hk⟩ : ∃ k, catOkB x = k := ⟨_, rfl⟩
  have HC := Lib.hid hk
  rw [hk]
  clear hk
  cases k
  · have hWr := (BO2.set (v := .slice none 0 0) (j := 0) (by simp)).range
    simp only [List.set_cons_zero] at hWr
    go_wp2
    refine bodyPost_ret (results_cell_tmp Try.results175 rfl hWr Try.underlying84 rfl sizeCat0) rfl ?_
    have e1 : catDo x m = (⟨[]⟩, ByteArray.empty) := by unfold catDo; rw [if_pos HC.out]
    rw [e1]
    have hos := out_set (p := g + 2) (RowO.nil (w := w2) (F := cstF) (e := 148) (sz := 2)) hg2 (by omega) (by omega) (by simp) (.slice none 0 0)
    exact ⟨none, 0, 0, [], rfl, hos.1, List.nodup_nil, fun t ht => (by cases ht), by rw [HG.out]; exact hos.2⟩
  · have hcb := catOk_bd HC.out
    go_wp2_with fail
    have hmo := cmdOk_impl m A1 n1 c1 w2 m2 hmB
    unfold cmV at hmo
    refine hmo.mono ?_
    rintro e w3 ⟨rfl, hb3⟩
    clear hmo
    have R3 := R2.keep cstK hb3
    have BX3 := BX2.keep hb3; have BM3 := BM2.keep hb3; have BO3 := BO2.keep hb3; have BQ3 := BQ2.keep hb3
    have hR3 := hR2.keep cstK hb3; have m3 := m2.keep hb3
    have hg3 : Below g w w3 := hg2.trans (hb3.mono (show g ≤ w2.heap.size by omega))
    have hgz3 : q < w3.heap.size := BQ3.lt
    clear R2 BX2 BM2 BO2 BQ2 hR2 m2 hg2 hgz l0 l1 l2 hb3 o0 of q0 x0 y0 y1 y2 y3 y4 y5 y6 y7
    have o0 := BO3.cell 0 _ rfl
    have of := BO3.fz 0 (by simp)
    have q0 := BQ3.cell 0 _ rfl
    have x0 := BX3.cell 0 _ rfl
    have y0 := BM3.cell 0 _ rfl
    have y3 := BM3.cell 3 _ rfl
    have l0 : g < w3.heap.size := by omega
    have l1 : g + 1 < w3.heap.size := by omega
    have l2 : g + 2 < w3.heap.size := by omega
    have hWr := (BO3.set (v := .slice A2 n2 c2) (j := 0) (by simp)).range
    simp only [List.set_cons_zero] at hWr
    have FG : ∀ t ∈ fp, w.heap.size ≤ t := fun t ht => by have := F3 t ht; have := HG.out; omega
    obtain ⟨k, hk⟩ : ∃ k, cmOkB m = k := ⟨_, rfl⟩
    have HM := Lib.hid hk
    rw [hk]
    clear hk
    cases k
    · go_wp2
      refine bodyPost_ret (results_cell_tmp Try.results175 rfl hWr Try.underlying84 rfl sizeCat0) rfl ?_
      have e1 : catDo x m = (x, ByteArray.empty) := by unfold catDo; rw [if_neg (by rw [HC.out]; simp), if_pos HM.out]
      rw [e1]
      have hos := out_set (p := g + 2) R3 hg3 (by omega) (by omega) hpf (.slice A2 n2 c2)
      exact ⟨A2, n2, c2, fp, rfl, hos.1, N2, FG, by rw [HG.out]; exact hos.2⟩
    have hmb := cmOk_bd HM.out
    by_cases k0 : m.kd = 0
    · have g0 : (m.kd == (0 : Int)) = true := beq_iff_eq.2 k0
      have K0 := Lib.hid k0; clear k0
      go_wp2
      refine bodyPost_ret (results_cell_tmp Try.results175 rfl hWr Try.underlying84 rfl sizeCat0) rfl ?_
      have e1 : catDo x m = (x, ByteArray.empty) := by unfold catDo; rw [if_neg (by rw [HC.out]; simp), if_neg (by rw [HM.out]; simp), if_pos K0.out]
      rw [e1]
      have hos := out_set (p := g + 2) R3 hg3 (by omega) (by omega) hpf (.slice A2 n2 c2)
      exact ⟨A2, n2, c2, fp, rfl, hos.1, N2, FG, by rw [HG.out]; exact hos.2⟩
    have g0 : (m.kd == (0 : Int)) = false := beq_eq_false_iff_ne.2 k0
    have K0 := Lib.hid k0; clear k0
    by_cases k1 : m.kd = 1
    · have g1 : (m.kd == (1 : Int)) = true := beq_iff_eq.2 k1
      have K1 := Lib.hid k1; clear k1
      have e1 : catDo x m = if 0 ≤ cstFnd x.sets 0 m.s then (x, exT) else if x.sets.length = 5 then (x, fuT) else (⟨insS x.sets m.s⟩, okT) := by
        unfold catDo; rw [if_neg (by rw [HC.out]; simp), if_neg (by rw [HM.out]; simp), if_neg K0.out, if_pos K1.out]
      have HE := Lib.hid e1; clear e1
      go_wp2_with fail
      refine (create_impl x.sets m.s q A2 n2 c2 fp w3 q0 (BQ3.fz 0 (by simp)) R3 N2 (fun h => by have := F3 _ h; omega) (by have := R3.len; have := hcb.1; omega)).mono ?_
      rintro e w4 (⟨rfl, hf, hb4⟩ | ⟨rfl, hf, h5, hb4⟩ | ⟨rfl, hf, h5, w5, A4, c4, fp4, rfl, hC5, R5, N5, F5⟩)
      · have HE2 := Lib.hid (show catDo x m = (x, exT) by rw [HE.out, if_pos hf])
        clear HE; have HE := HE2; clear HE2
        have BO4 := BO3.keep hb4; have BQ4 := BQ3.keep hb4; have R4 := R3.keep cstK hb4
        have hg4 : Below g w w4 := hg3.trans (hb4.mono (show g ≤ w3.heap.size by omega))
        have hpf4 := hpf
        clear o0 of q0 x0 y0 y3 l0 l1 l2 hWr R3 BO3 BQ3 BX3 BM3 hR3 m3
        have o0 := BO4.cell 0 _ rfl
        have of := BO4.fz 0 (by simp)
        have q0 := BQ4.cell 0 _ rfl
        have l2 := BO4.lt
        have hWr := (BO4.set (v := .slice A2 n2 c2) (j := 0) (by simp)).range
        simp only [List.set_cons_zero] at hWr
        go_wp2
        refine bodyPost_ret (results_cell_tmp Try.results175 rfl hWr Try.underlying84 rfl sizeCat0) rfl ?_
        rw [HE.out]
        have hos := out_set (p := g + 2) R4 hg4 (by omega) (by omega) hpf4 (.slice A2 n2 c2)
        exact ⟨A2, n2, c2, fp, rfl, hos.1, N2, FG, by rw [HG.out]; exact hos.2⟩
      · have HE2 := Lib.hid (show catDo x m = (x, fuT) by rw [HE.out, if_neg (by omega), if_pos (by have := R3.len; omega)])
        clear h5
        clear HE; have HE := HE2; clear HE2
        have BO4 := BO3.keep hb4; have BQ4 := BQ3.keep hb4; have R4 := R3.keep cstK hb4
        have hg4 : Below g w w4 := hg3.trans (hb4.mono (show g ≤ w3.heap.size by omega))
        have hpf4 := hpf
        clear o0 of q0 x0 y0 y3 l0 l1 l2 hWr R3 BO3 BQ3 BX3 BM3 hR3 m3
        have o0 := BO4.cell 0 _ rfl
        have of := BO4.fz 0 (by simp)
        have q0 := BQ4.cell 0 _ rfl
        have l2 := BO4.lt
        have hWr := (BO4.set (v := .slice A2 n2 c2) (j := 0) (by simp)).range
        simp only [List.set_cons_zero] at hWr
        go_wp2
        refine bodyPost_ret (results_cell_tmp Try.results175 rfl hWr Try.underlying84 rfl sizeCat0) rfl ?_
        rw [HE.out]
        have hos := out_set (p := g + 2) R4 hg4 (by omega) (by omega) hpf4 (.slice A2 n2 c2)
        exact ⟨A2, n2, c2, fp, rfl, hos.1, N2, FG, by rw [HG.out]; exact hos.2⟩
      · have HE2 := Lib.hid (show catDo x m = (⟨insS x.sets m.s⟩, okT) by rw [HE.out, if_neg (by omega), if_neg (by have := R3.len; omega)])
        clear HE; have HE := HE2; clear HE2
        have hqf : q ∉ fp := fun h => by have := F3 _ h; omega
        have BO5 := (BO3.ch hC5 hpf).ch (Ch.set (v := .slice A4 (n2 + 1) c4) (g := q) (o := 0)) (ne_blk (by omega))
        have BQ5 := (BQ3.ch hC5 hqf).set (j := 0) (v := .slice A4 (n2 + 1) c4) (by simp)
        simp only [List.set_cons_zero] at BQ5
        have hz5 := hC5.size
        have FG5 : ∀ t ∈ fp4, g + 2 < t ∧ t ≠ q := fun t ht => by rcases F5 t ht with h | h; (have := F3 t h; exact ⟨by omega, by omega⟩); (exact ⟨by omega, by omega⟩)
        have R6 := R5.ch cstK (Ch.set (v := .slice A4 (n2 + 1) c4) (g := q) (o := 0)) (fun b hb e => (FG5 b hb).2 e)
        have hg5 : Below g w w5 := hC5.belowB hg3 (by omega) (fun t ht => by have := F3 t ht; omega)
        have hg6 : Below g w (w5.setCell ⟨q, 0, none⟩ (.slice A4 (n2 + 1) c4)) := Ch.set.belowB hg5 (by omega) (fun k hk => by subst hk; omega)
        have hpf4 : g + 2 ∉ fp4 := fun h => by have := (FG5 _ h).1; omega
        have FG6 : ∀ t ∈ fp4, w.heap.size ≤ t := fun t ht => by have := (FG5 t ht).1; have := HG.out; omega
        obtain ⟨W6, hW6⟩ : ∃ W6, W6 = w5.setCell ⟨q, 0, none⟩ (.slice A4 (n2 + 1) c4) := ⟨_, rfl⟩
        rw [← hW6] at BO5 BQ5 R6 hg6 ⊢
        clear hW6 hg5 R5 hC5 o0 of q0 x0 y0 y3 l0 l1 l2 hWr R3 BO3 BQ3 BX3 BM3 hR3 m3
        have o0 := BO5.cell 0 _ rfl
        have of := BO5.fz 0 (by simp)
        have q0 := BQ5.cell 0 _ rfl
        have l2 := BO5.lt
        have hWr := (BO5.set (v := .slice A4 (n2 + 1) c4) (j := 0) (by simp)).range
        simp only [List.set_cons_zero] at hWr
        go_wp2
        refine bodyPost_ret (results_cell_tmp Try.results175 rfl hWr Try.underlying84 rfl sizeCat0) rfl ?_
        rw [HE.out]
        have hos := out_set (p := g + 2) R6 hg6 (by omega) (by omega) hpf4 (.slice A4 (n2 + 1) c4)
        exact ⟨A4, n2 + 1, c4, fp4, rfl, hos.1, N5, FG6, by rw [HG.out]; exact hos.2⟩
    have g1 : (m.kd == (1 : Int)) = false := beq_eq_false_iff_ne.2 k1
    have K1 := Lib.hid k1; clear k1
    by_cases k7 : m.kd = 7
    · have g7 : (m.kd == (7 : Int)) = true := beq_iff_eq.2 k7
      have K7 := Lib.hid k7; clear k7
      have HE := Lib.hid (show catDo x m = (x, spTo (x.sets.map Cst.nm) x.sets.length) by
        unfold catDo; rw [if_neg (by rw [HC.out]; simp), if_neg (by rw [HM.out]; simp), if_neg K0.out, if_neg K1.out, if_pos K7.out])
      go_wp2_with fail
      have hn2 : n2 ≤ 1000 := by have := R3.len; have := hcb.1; omega
      have hsz : ∀ p ∈ x.sets, p.nm.size ≤ 100 := fun p hp => by have := (hcb.2 p hp).1; omega
      clear o0 of q0 x0 y0 y3 l0 l1 l2 hWr
      refine wp_region_dagb [40, 41, 5] (by kernel_rfl) (by kernel_rfl) (fun D vs w' => ∃ v40 v41 v5 : Value, vs = [v40, v41, v5] ∧ Below g w w' ∧ w3.heap.size ≤ w'.heap.size ∧ BoxL w' q [.slice A2 n2 c2] ∧ RowO cstF 148 2 fp w' A2 n2 c2 x.sets ∧ (D 2 = false → BoxL w' (g + 2) [.slice none 0 0]) ∧ (D 0 = true → v40 = .agg #[.slice A2 n2 c2]) ∧ (D 1 = true → v41 = .string (spTo (x.sets.map Cst.nm) x.sets.length)) ∧ (D 2 = true → BoxL w' (g + 2) [.slice A2 n2 c2]) ∧ (D 3 = true → v5 = .string (spTo (x.sets.map Cst.nm) x.sets.length)))
        ⟨_, _, _, rfl, (hg3.trans (((Below.refl _ _).drew).mono (show g ≤ w3.heap.size by omega))), (by simp), (BQ3.keep (Below.refl _ _).drew), (R3.keep cstK (Below.refl _ _).drew), (fun _ => BO3.keep (Below.refl _ _).drew), (fun h => by cases h), (fun h => by cases h), (fun h => by cases h), (fun h => by cases h)⟩ ?_ ?_
      · intro i D vs w' hi hD hdep hcl hI
        have hi' : i < 4 := hi
        obtain ⟨v40, v41, v5, rfl, hb, hz, hQ, hR, hO, k0, k1, k2, k3⟩ := hI
        simp only [putAll, List.setIfInBounds_toArray, List.set_cons_succ, List.set_cons_zero]
        rcases (show i = 0 ∨ i = 1 ∨ i = 2 ∨ i = 3 by omega) with rfl | rfl | rfl | rfl
        · have q7 := hQ.cell 0 _ rfl
          refine wpOp_step (by simp only [List.getElem?_toArray, List.getElem?_cons_zero]; rfl) (fun K hK => ?_)
          go_simp
          refine hK _ _ ⟨[.agg #[.slice A2 n2 c2], v41, v5], ?_, _, _, _, rfl, hb, hz, hQ, hR, hO, (fun _ => rfl), k1, k2, k3⟩
          simp only [putAll, List.setIfInBounds_toArray, List.set_cons_succ, List.set_cons_zero] <;> rfl
        · refine wpOp_step (by simp only [List.getElem?_toArray, List.getElem?_cons_succ, List.getElem?_cons_zero]; rfl) (fun K hK => ?_)
          go_simp
          refine (list_impl x A2 n2 c2 q _ (hR.at_ cstK (by omega)) (hQ.cell 0 _ rfl) hn2 hsz).mono ?_
          rintro e w4_ ⟨rfl, hb4⟩
          refine hK _ _ ⟨[v40, .string (spTo (x.sets.map Cst.nm) x.sets.length), v5], ?_, _, _, _, rfl, (hb.trans (hb4.mono (show g ≤ _ by omega))), (Nat.le_trans hz hb4.size), (hQ.keep hb4), (hR.keep cstK hb4), (fun h' => (hO h').keep hb4), k0, (fun _ => rfl), (fun h' => (k2 h').keep hb4), k3⟩
          simp only [putAll, List.setIfInBounds_toArray, List.set_cons_succ, List.set_cons_zero] <;> rfl
        · have e0 := k0 (hdep 0 (by kernel_rfl))
          subst e0
          have o7 := (hO hD).cell 0 _ rfl
          have y7 := (hO hD).fz 0 (by simp)
          have hs7 := (hO hD).set (j := 0) (v := .slice A2 n2 c2) (by simp)
          simp only [List.set_cons_zero] at hs7
          have one : Ch (fun k => k = g + 2) w' (w'.setCell ⟨g + 2, 0, none⟩ (.slice A2 n2 c2)) := Ch.set
          refine wpOp_step (by simp only [List.getElem?_toArray, List.getElem?_cons_succ, List.getElem?_cons_zero]; rfl) (fun K hK => ?_)
          go_simp
          refine hK _ _ ⟨[.agg #[.slice A2 n2 c2], v41, v5], ?_, _, _, _, rfl, (one.belowB hb (by omega) (fun k hk => by have hk : k = _ := hk; omega)), (Nat.le_trans hz one.size), (hQ.ch one (by omega)), (hR.ch cstK one (fun b hb e => hpf (by have e : b = _ := e; exact e ▸ hb))), (fun h => absurd h (by simp)), (fun _ => rfl), k1, (fun _ => hs7), k3⟩
          simp only [putAll, List.setIfInBounds_toArray, List.set_cons_succ, List.set_cons_zero] <;> rfl
        · have e1 := k1 (hdep 1 (by kernel_rfl))
          subst e1
          refine wpOp_step (by simp only [List.getElem?_toArray, List.getElem?_cons_succ, List.getElem?_cons_zero]; rfl) (fun K hK => ?_)
          go_simp
          refine hK _ _ ⟨[v40, .string (spTo (x.sets.map Cst.nm) x.sets.length), .string (spTo (x.sets.map Cst.nm) x.sets.length)], ?_, _, _, _, rfl, hb, hz, hQ, hR, hO, k0, (fun _ => rfl), k2, (fun _ => rfl)⟩
          simp only [putAll, List.setIfInBounds_toArray, List.set_cons_succ, List.set_cons_zero] <;> rfl
      · intro D vs w' hD hI
        obtain ⟨v40, v41, v5, rfl, hb, hz, hQ, hR, hO, k0, k1, k2, k3⟩ := hI
        simp only [putAll, List.setIfInBounds_toArray, List.set_cons_succ, List.set_cons_zero]
        have h2 := k2 (hD 2 (show 2 < 4 by decide))
        have h3 := k3 (hD 3 (show 3 < 4 by decide))
        subst h3
        have hWr := h2.range
        go_wp2
        refine bodyPost_ret (results_cell_tmp Try.results175 rfl hWr Try.underlying84 rfl sizeCat0) rfl ?_
        rw [HE.out]
        exact ⟨A2, n2, c2, rfl, fp, hR, N2, FG, by rw [HG.out]; exact hb⟩
    have g7 : (m.kd == (7 : Int)) = false := beq_eq_false_iff_ne.2 k7
    have K7 := Lib.hid k7; clear k7
    have hfo := cstFnd_impl x m.s A n c w3 hR3 (by omega)
    unfold ctlV at hfo
    go_wp2_with fail
    refine hfo.mono ?_
    rintro e w4 ⟨rfl, hb4⟩
    clear hfo
    have R4 := R3.keep cstK hb4
    have BM4 := BM3.keep hb4; have BO4 := BO3.keep hb4; have BQ4 := BQ3.keep hb4
    have m4 := m3.keep hb4
    have hg4 : Below g w w4 := hg3.trans (hb4.mono (show g ≤ w3.heap.size by omega))
    clear o0 of q0 x0 y0 y3 l0 l1 l2 hWr R3 BO3 BQ3 BX3 BM3 hR3 m3 hgz3 hg3 hb4
    obtain ⟨t, ht⟩ : ∃ t, cstFnd x.sets 0 m.s = t := ⟨_, rfl⟩
    have T := Lib.hid ht
    simp only [ht]
    clear ht
    have o0 := BO4.cell 0 _ rfl
    have of := BO4.fz 0 (by simp)
    have q0 := BQ4.cell 0 _ rfl
    have qf := BQ4.fz 0 (by simp)
    have y0 := BM4.cell 0 _ rfl
    have l0 := BQ4.lt
    have l1 := BM4.lt
    have l2 := BO4.lt
    by_cases ht0 : t < 0
    · have gd : decide (t < 0) = true := decide_eq_true ht0
      have HE := Lib.hid (show catDo x m = (x, noT) by
        unfold catDo; rw [if_neg (by rw [HC.out]; simp), if_neg (by rw [HM.out]; simp), if_neg K0.out, if_neg K1.out, if_neg K7.out, if_pos (by rw [T.out]; exact ht0)])
      have hWr := (BO4.set (v := .slice A2 n2 c2) (j := 0) (by simp)).range
      simp only [List.set_cons_zero] at hWr
      go_wp2
      refine bodyPost_ret (results_cell_tmp Try.results175 rfl hWr Try.underlying84 rfl sizeCat0) rfl ?_
      rw [HE.out]
      have hos := out_set (p := g + 2) R4 hg4 (by omega) (by omega) hpf (.slice A2 n2 c2)
      exact ⟨A2, n2, c2, fp, rfl, hos.1, N2, FG, by rw [HG.out]; exact hos.2⟩
    have gd : decide (t < 0) = false := decide_eq_false ht0
    obtain ⟨k, rfl⟩ : ∃ k : Nat, t = (k : Int) := ⟨t.toNat, by omega⟩
    have HK : k < n2 ∧ k < x.sets.length := by
      have h2 := R4.len
      rcases cstFnd_in m.s x.sets 0 with ⟨h1, _⟩ | ⟨j, hj, h1, _⟩
      · rw [T.out] at h1; omega
      · rw [T.out] at h1; omega
    by_cases k2 : m.kd = 2
    · have g2 : (m.kd == (2 : Int)) = true := beq_iff_eq.2 k2
      have K2 := Lib.hid k2; clear k2
      have HE := Lib.hid (show catDo x m = (⟨x.sets.take k ++ x.sets.drop (k + 1)⟩, okT) by
        unfold catDo; rw [if_neg (by rw [HC.out]; simp), if_neg (by rw [HM.out]; simp), if_neg K0.out, if_neg K1.out, if_neg K7.out, if_neg (by rw [T.out]; exact ht0), if_pos K2.out, T.out, Int.toNat_natCast])
      have HKK := Lib.hid HK; clear HK
      have hw1 : IntKind.i64.wrap ((k : Int) + 1) = (k : Int) + 1 := by have := HKK.out.1; have := R4.len; have := hcb.1; rw [IntKind.wrap_i64]; omega
      go_wp2_with fail
      refine (del_row x.sets A2 n2 c2 k fp w4 R4 N2 HKK.out.1).mono ?_
      rintro e w5 ⟨fp4, rfl, R5, N5, F5, hC5⟩
      have hqf : q ∉ fp := fun h => by have := F3 _ h; omega
      have q5 := hC5.cell q0 hqf
      have qf5 : w5.frozen? ⟨q, 0, none⟩ = false := (World.frozen?_of_block (hC5.block q l0 hqf)).trans qf
      have BO5 := (BO4.ch hC5 hpf).ch (Ch.set (v := .slice A2 (n2 - 1) c2) (g := q) (o := 0)) (ne_blk (by omega))
      have BQ5 := (BQ4.ch hC5 hqf).set (j := 0) (v := .slice A2 (n2 - 1) c2) (by simp)
      simp only [List.set_cons_zero] at BQ5
      have hz5 := hC5.size
      have FG5 : ∀ t ∈ fp4, g + 2 < t ∧ t ≠ q := fun t ht => by have := F3 t (F5 t ht); exact ⟨by omega, by omega⟩
      have R6 := R5.ch cstK (Ch.set (v := .slice A2 (n2 - 1) c2) (g := q) (o := 0)) (fun b hb e => (FG5 b hb).2 e)
      have hg5 : Below g w w5 := hC5.belowB hg4 (by omega) (fun t ht => by have := F3 t ht; omega)
      have hg6 : Below g w (w5.setCell ⟨q, 0, none⟩ (.slice A2 (n2 - 1) c2)) := Ch.set.belowB hg5 (by omega) (fun k hk => by subst hk; omega)
      have hpf4 : g + 2 ∉ fp4 := fun h => by have := (FG5 _ h).1; omega
      have FG6 : ∀ t ∈ fp4, w.heap.size ≤ t := fun t ht => by have := (FG5 t ht).1; have := HG.out; omega
      have o5 := (BO4.ch hC5 hpf).cell 0 _ rfl
      have of5 := (BO4.ch hC5 hpf).fz 0 (by simp)
      have l5 : q < w5.heap.size := by omega
      have l6 : g + 2 < w5.heap.size := by omega
      have hnq1 : ¬ (g + 2 = q) := by omega
      have hnq2 : ¬ (q = g + 2) := by omega
      have hWr := (BO5.set (v := .slice A2 (n2 - 1) c2) (j := 0) (by simp)).range
      simp only [List.set_cons_zero] at hWr
      have HW := Lib.hid hWr
      clear o0 of q0 y0 hWr BO5 BQ5
      go_wp2
      refine bodyPost_ret (results_cell_tmp Try.results175 rfl HW.out Try.underlying84 rfl sizeCat0) rfl ?_
      rw [HE.out]
      have hos := out_set (p := g + 2) R6 hg6 (by omega) (by have := hg6.size; have := HG.out; omega) hpf4 (.slice A2 (n2 - 1) c2)
      exact ⟨A2, n2 - 1, c2, fp4, rfl, hos.1, N5, FG6, by rw [HG.out]; exact hos.2⟩
    have g2 : (m.kd == (2 : Int)) = false := beq_eq_false_iff_ne.2 k2
    have K2 := Lib.hid k2; clear k2
    by_cases k3 : m.kd = 3
    · have g3 : (m.kd == (3 : Int)) = true := beq_iff_eq.2 k3
      have K3 := Lib.hid k3; clear k3
      obtain ⟨qb, rfl⟩ := row_head R4 (by omega)
      have HE := Lib.hid (show catDo x m = (⟨x.sets.set k (setDo (cstAt x.sets k) m).1⟩, (setDo (cstAt x.sets k) m).2) by
        unfold catDo; rw [if_neg (by rw [HC.out]; simp), if_neg (by rw [HM.out]; simp), if_neg K0.out, if_neg K1.out, if_neg K7.out, if_neg (by rw [T.out]; exact ht0), if_neg K2.out, T.out, Int.toNat_natCast])
      have HB9 := Lib.hid (show ∀ s ∈ x.sets, s.snaps.length ≤ 9 from fun s hs => by have := (hcb.2 s hs).2.1; omega)
      have hki : (k : Int) < (n2 : Int) := by have := HK.1; omega
      have HKK := Lib.hid HK; clear HK
      go_wp2_with fail
      refine wp_region_dagb [67, 68, 69, 70, 71, 72, 9] (by kernel_rfl) (by kernel_rfl) (fun D vs w' => ∃ v67 v68 v69 v70 v71 v72 v9 : Value, vs = [v67, v68, v69, v70, v71, v72, v9] ∧ (D 5 = false → Below w4.heap.size w4 w') ∧ (D 0 = true → v67 = .pointer (some ⟨q, 0, none⟩)) ∧ (D 1 = true → v68 = .slice (some ⟨qb, 0, none⟩) n2 c2) ∧ (D 2 = true → v69 = .int .i64 (k : Int)) ∧ (D 3 = true → v70 = .pointer (some ⟨qb, k * 2, none⟩)) ∧ (D 4 = true → v71 = .agg #[.int .i64 m.kd, .int .i64 m.cl, .int .i64 m.no, .string m.s, .string m.nm, .string m.tg, .int .i64 m.n, .slice A1 n1 c1]) ∧ (D 5 = true → v72 = .string (setDo (cstAt x.sets k) m).2 ∧ SetRow x.sets m k qb n2 c2 fp w4 (.returned (.string (setDo (cstAt x.sets k) m).2)) w') ∧ (D 6 = true → v9 = .string (setDo (cstAt x.sets k) m).2))
        ⟨_, _, _, _, _, _, _, rfl, (fun _ => (Below.refl _ _).drew), (fun h => by cases h), (fun h => by cases h), (fun h => by cases h), (fun h => by cases h), (fun h => by cases h), (fun h => by cases h), (fun h => by cases h)⟩ ?_ ?_
      · intro i D vs w' hi hD hdep hcl hI
        have hi' : i < 7 := hi
        obtain ⟨v67, v68, v69, v70, v71, v72, v9, rfl, hb, k0, k1, k2, k3, k4, k5, k6⟩ := hI
        simp only [putAll, List.setIfInBounds_toArray, List.set_cons_succ, List.set_cons_zero]
        rcases (show i = 0 ∨ i = 1 ∨ i = 2 ∨ i = 3 ∨ i = 4 ∨ i = 5 ∨ i = 6 by omega) with rfl | rfl | rfl | rfl | rfl | rfl | rfl
        · refine wpOp_step (by simp only [List.getElem?_toArray, List.getElem?_cons_zero]; rfl) (fun K hK => ?_)
          go_simp
          refine hK _ _ ⟨[.pointer (some ⟨q, 0, none⟩), v68, v69, v70, v71, v72, v9], ?_, _, _, _, _, _, _, _, rfl, hb, (fun _ => rfl), k1, k2, k3, k4, k5, k6⟩
          simp only [putAll, List.setIfInBounds_toArray, List.set_cons_succ, List.set_cons_zero] <;> rfl
        · have e0 := k0 (hdep 0 (by kernel_rfl))
          subst e0
          have n5 : D 5 = false := Bool.eq_false_iff.2 (fun h => absurd (hcl 3 1 (hcl 5 3 h (by kernel_rfl)) (by kernel_rfl)) (by rw [hD]; simp))
          have q7 := keep_cell (hb n5) q0
          refine wpOp_step (by simp only [List.getElem?_toArray, List.getElem?_cons_succ, List.getElem?_cons_zero]; rfl) (fun K hK => ?_)
          go_simp
          refine hK _ _ ⟨[.pointer (some ⟨q, 0, none⟩), .slice (some ⟨qb, 0, none⟩) n2 c2, v69, v70, v71, v72, v9], ?_, _, _, _, _, _, _, _, rfl, hb, (fun _ => rfl), (fun _ => rfl), k2, k3, k4, k5, k6⟩
          simp only [putAll, List.setIfInBounds_toArray, List.set_cons_succ, List.set_cons_zero] <;> rfl
        · refine wpOp_step (by simp only [List.getElem?_toArray, List.getElem?_cons_succ, List.getElem?_cons_zero]; rfl) (fun K hK => ?_)
          go_simp
          refine hK _ _ ⟨[v67, v68, .int .i64 (k : Int), v70, v71, v72, v9], ?_, _, _, _, _, _, _, _, rfl, hb, k0, k1, (fun _ => rfl), k3, k4, k5, k6⟩
          simp only [putAll, List.setIfInBounds_toArray, List.set_cons_succ, List.set_cons_zero] <;> rfl
        · have e1 := k1 (hdep 1 (by kernel_rfl))
          subst e1
          have e2 := k2 (hdep 2 (by kernel_rfl))
          subst e2
          refine wpOp_step (by simp only [List.getElem?_toArray, List.getElem?_cons_succ, List.getElem?_cons_zero]; rfl) (fun K hK => ?_)
          go_simp
          refine hK _ _ ⟨[v67, .slice (some ⟨qb, 0, none⟩) n2 c2, .int .i64 (k : Int), .pointer (some ⟨qb, k * 2, none⟩), v71, v72, v9], ?_, _, _, _, _, _, _, _, rfl, hb, k0, (fun _ => rfl), (fun _ => rfl), (fun _ => rfl), k4, k5, k6⟩
          simp only [putAll, List.setIfInBounds_toArray, List.set_cons_succ, List.set_cons_zero] <;> rfl
        · have n5 : D 5 = false := Bool.eq_false_iff.2 (fun h => absurd (hcl 5 4 h (by kernel_rfl)) (by rw [hD]; simp))
          have z0 := keep_cell (hb n5) (BM4.cell 0 _ rfl)
          have z1 := keep_cell (hb n5) (BM4.cell 1 _ rfl)
          have z2 := keep_cell (hb n5) (BM4.cell 2 _ rfl)
          have z3 := keep_cell (hb n5) (BM4.cell 3 _ rfl)
          have z4 := keep_cell (hb n5) (BM4.cell 4 _ rfl)
          have z5 := keep_cell (hb n5) (BM4.cell 5 _ rfl)
          have z6 := keep_cell (hb n5) (BM4.cell 6 _ rfl)
          have z7 := keep_cell (hb n5) (BM4.cell 7 _ rfl)
          refine wpOp_step (by simp only [List.getElem?_toArray, List.getElem?_cons_succ, List.getElem?_cons_zero]; rfl) (fun K hK => ?_)
          go_simp
          refine hK _ _ ⟨[v67, v68, v69, v70, .agg #[.int .i64 m.kd, .int .i64 m.cl, .int .i64 m.no, .string m.s, .string m.nm, .string m.tg, .int .i64 m.n, .slice A1 n1 c1], v72, v9], ?_, _, _, _, _, _, _, _, rfl, hb, k0, k1, k2, k3, (fun _ => rfl), k5, k6⟩
          simp only [putAll, List.setIfInBounds_toArray, List.set_cons_succ, List.set_cons_zero] <;> rfl
        · have e3 := k3 (hdep 3 (by kernel_rfl))
          subst e3
          have e4 := k4 (hdep 4 (by kernel_rfl))
          subst e4
          have hbb := hb hD
          have cr := (commit_row x.sets m K3.out k qb n2 c2 fp A1 n1 c1 w' (R4.keep cstK hbb) N2 HKK.out.1 (m4.keep hbb) hn1 HB9.out)
          unfold cmV at cr
          refine wpOp_step (by simp only [List.getElem?_toArray, List.getElem?_cons_succ, List.getElem?_cons_zero]; rfl) (fun K hK => ?_)
          go_simp
          refine cr.mono ?_
          rintro e w5_ hS5
          obtain ⟨fp5, rfl, hS6⟩ := hS5
          refine hK _ _ ⟨[v67, v68, v69, .pointer (some ⟨qb, k * 2, none⟩), .agg #[.int .i64 m.kd, .int .i64 m.cl, .int .i64 m.no, .string m.s, .string m.nm, .string m.tg, .int .i64 m.n, .slice A1 n1 c1], .string (setDo (cstAt x.sets k) m).2, v9], ?_, _, _, _, _, _, _, _, rfl, (fun h => absurd h (by simp)), k0, k1, k2, (fun _ => rfl), (fun _ => rfl), (fun _ => ⟨rfl, SetRow.far hbb ⟨fp5, rfl, hS6⟩⟩), k6⟩
          simp only [putAll, List.setIfInBounds_toArray, List.set_cons_succ, List.set_cons_zero] <;> rfl
        · obtain ⟨rfl, hS⟩ := k5 (hdep 5 (by kernel_rfl))
          refine wpOp_step (by simp only [List.getElem?_toArray, List.getElem?_cons_succ, List.getElem?_cons_zero]; rfl) (fun K hK => ?_)
          go_simp
          refine hK _ _ ⟨[v67, v68, v69, v70, v71, .string (setDo (cstAt x.sets k) m).2, .string (setDo (cstAt x.sets k) m).2], ?_, _, _, _, _, _, _, _, rfl, hb, k0, k1, k2, k3, k4, (fun _ => ⟨rfl, hS⟩), (fun _ => rfl)⟩
          simp only [putAll, List.setIfInBounds_toArray, List.set_cons_succ, List.set_cons_zero] <;> rfl
      · intro D vs w' hD hI
        obtain ⟨v67, v68, v69, v70, v71, v72, v9, rfl, hb, k0, k1, k2, k3, k4, k5, k6⟩ := hI
        simp only [putAll, List.setIfInBounds_toArray, List.set_cons_succ, List.set_cons_zero]
        have h1 := k6 (hD 6 (show 6 < 7 by decide))
        subst h1
        obtain ⟨_, fp5, he5, R5, N5, F5, hC5⟩ := k5 (hD 5 (show 5 < 7 by decide))
        clear hD hb he5
        have hqf : q ∉ fp := fun h => by have := F3 _ h; omega
        have hz5 := hC5.size
        have BO5 := BO4.ch hC5 hpf
        have BQ5 := BQ4.ch hC5 hqf
        have hg5 : Below g w w' := hC5.belowB hg4 (by omega) (fun t ht => by have := F3 t ht; omega)
        have FG5 : ∀ t ∈ fp5, g + 2 < t := fun t ht => by rcases F5 t ht with h | h; (have := F3 t h; omega); (omega)
        clear o0 of q0 qf y0 l0 l1 l2
        have o0 := BO5.cell 0 _ rfl
        have of := BO5.fz 0 (by simp)
        have q0 := BQ5.cell 0 _ rfl
        have l5 := BO5.lt
        have l6 := BQ5.lt
        have hWr := (BO5.set (v := .slice (some ⟨qb, 0, none⟩) n2 c2) (j := 0) (by simp)).range
        simp only [List.set_cons_zero] at hWr
        go_wp2
        refine bodyPost_ret (results_cell_tmp Try.results175 rfl hWr Try.underlying84 rfl sizeCat0) rfl ?_
        rw [HE.out]
        have hos := out_set (p := g + 2) R5 hg5 (by omega) (by omega) (fun h => by have := FG5 _ h; omega) (.slice (some ⟨qb, 0, none⟩) n2 c2)
        exact ⟨_, n2, c2, rfl, fp5, hos.1, N5, fun t ht => by have := FG5 t ht; have := HG.out; omega, by rw [HG.out]; exact hos.2⟩
    have g3 : (m.kd == (3 : Int)) = false := beq_eq_false_iff_ne.2 k3
    have K3 := Lib.hid k3; clear k3
    by_cases k4 : m.kd = 4
    · have g4 : (m.kd == (4 : Int)) = true := beq_iff_eq.2 k4
      have K4 := Lib.hid k4; clear k4
      obtain ⟨qb, rfl⟩ := row_head R4 (by omega)
      have HE := Lib.hid (show catDo x m = (⟨x.sets.set k (setDo (cstAt x.sets k) m).1⟩, (setDo (cstAt x.sets k) m).2) by
        unfold catDo; rw [if_neg (by rw [HC.out]; simp), if_neg (by rw [HM.out]; simp), if_neg K0.out, if_neg K1.out, if_neg K7.out, if_neg (by rw [T.out]; exact ht0), if_neg K2.out, T.out, Int.toNat_natCast])
      have HB9 := Lib.hid (show ∀ s ∈ x.sets, s.snaps.length ≤ 9 from fun s hs => by have := (hcb.2 s hs).2.1; omega)
      have hki : (k : Int) < (n2 : Int) := by have := HK.1; omega
      have HKK := Lib.hid HK; clear HK
      go_wp2_with fail
      refine wp_region_dagb [75, 76, 77, 78, 79, 80, 9] (by kernel_rfl) (by kernel_rfl) (fun D vs w' => ∃ v75 v76 v77 v78 v79 v80 v9 : Value, vs = [v75, v76, v77, v78, v79, v80, v9] ∧ (D 5 = false → Below w4.heap.size w4 w') ∧ (D 0 = true → v75 = .pointer (some ⟨q, 0, none⟩)) ∧ (D 1 = true → v76 = .slice (some ⟨qb, 0, none⟩) n2 c2) ∧ (D 2 = true → v77 = .int .i64 (k : Int)) ∧ (D 3 = true → v78 = .pointer (some ⟨qb, k * 2, none⟩)) ∧ (D 4 = true → v79 = .agg #[.int .i64 m.kd, .int .i64 m.cl, .int .i64 m.no, .string m.s, .string m.nm, .string m.tg, .int .i64 m.n, .slice A1 n1 c1]) ∧ (D 5 = true → v80 = .string (setDo (cstAt x.sets k) m).2 ∧ SetRow x.sets m k qb n2 c2 fp w4 (.returned (.string (setDo (cstAt x.sets k) m).2)) w') ∧ (D 6 = true → v9 = .string (setDo (cstAt x.sets k) m).2))
        ⟨_, _, _, _, _, _, _, rfl, (fun _ => (Below.refl _ _).drew), (fun h => by cases h), (fun h => by cases h), (fun h => by cases h), (fun h => by cases h), (fun h => by cases h), (fun h => by cases h), (fun h => by cases h)⟩ ?_ ?_
      · intro i D vs w' hi hD hdep hcl hI
        have hi' : i < 7 := hi
        obtain ⟨v75, v76, v77, v78, v79, v80, v9, rfl, hb, k0, k1, k2, k3, k4, k5, k6⟩ := hI
        simp only [putAll, List.setIfInBounds_toArray, List.set_cons_succ, List.set_cons_zero]
        rcases (show i = 0 ∨ i = 1 ∨ i = 2 ∨ i = 3 ∨ i = 4 ∨ i = 5 ∨ i = 6 by omega) with rfl | rfl | rfl | rfl | rfl | rfl | rfl
        · refine wpOp_step (by simp only [List.getElem?_toArray, List.getElem?_cons_zero]; rfl) (fun K hK => ?_)
          go_simp
          refine hK _ _ ⟨[.pointer (some ⟨q, 0, none⟩), v76, v77, v78, v79, v80, v9], ?_, _, _, _, _, _, _, _, rfl, hb, (fun _ => rfl), k1, k2, k3, k4, k5, k6⟩
          simp only [putAll, List.setIfInBounds_toArray, List.set_cons_succ, List.set_cons_zero] <;> rfl
        · have e0 := k0 (hdep 0 (by kernel_rfl))
          subst e0
          have n5 : D 5 = false := Bool.eq_false_iff.2 (fun h => absurd (hcl 3 1 (hcl 5 3 h (by kernel_rfl)) (by kernel_rfl)) (by rw [hD]; simp))
          have q7 := keep_cell (hb n5) q0
          refine wpOp_step (by simp only [List.getElem?_toArray, List.getElem?_cons_succ, List.getElem?_cons_zero]; rfl) (fun K hK => ?_)
          go_simp
          refine hK _ _ ⟨[.pointer (some ⟨q, 0, none⟩), .slice (some ⟨qb, 0, none⟩) n2 c2, v77, v78, v79, v80, v9], ?_, _, _, _, _, _, _, _, rfl, hb, (fun _ => rfl), (fun _ => rfl), k2, k3, k4, k5, k6⟩
          simp only [putAll, List.setIfInBounds_toArray, List.set_cons_succ, List.set_cons_zero] <;> rfl
        · refine wpOp_step (by simp only [List.getElem?_toArray, List.getElem?_cons_succ, List.getElem?_cons_zero]; rfl) (fun K hK => ?_)
          go_simp
          refine hK _ _ ⟨[v75, v76, .int .i64 (k : Int), v78, v79, v80, v9], ?_, _, _, _, _, _, _, _, rfl, hb, k0, k1, (fun _ => rfl), k3, k4, k5, k6⟩
          simp only [putAll, List.setIfInBounds_toArray, List.set_cons_succ, List.set_cons_zero] <;> rfl
        · have e1 := k1 (hdep 1 (by kernel_rfl))
          subst e1
          have e2 := k2 (hdep 2 (by kernel_rfl))
          subst e2
          refine wpOp_step (by simp only [List.getElem?_toArray, List.getElem?_cons_succ, List.getElem?_cons_zero]; rfl) (fun K hK => ?_)
          go_simp
          refine hK _ _ ⟨[v75, .slice (some ⟨qb, 0, none⟩) n2 c2, .int .i64 (k : Int), .pointer (some ⟨qb, k * 2, none⟩), v79, v80, v9], ?_, _, _, _, _, _, _, _, rfl, hb, k0, (fun _ => rfl), (fun _ => rfl), (fun _ => rfl), k4, k5, k6⟩
          simp only [putAll, List.setIfInBounds_toArray, List.set_cons_succ, List.set_cons_zero] <;> rfl
        · have n5 : D 5 = false := Bool.eq_false_iff.2 (fun h => absurd (hcl 5 4 h (by kernel_rfl)) (by rw [hD]; simp))
          have z0 := keep_cell (hb n5) (BM4.cell 0 _ rfl)
          have z1 := keep_cell (hb n5) (BM4.cell 1 _ rfl)
          have z2 := keep_cell (hb n5) (BM4.cell 2 _ rfl)
          have z3 := keep_cell (hb n5) (BM4.cell 3 _ rfl)
          have z4 := keep_cell (hb n5) (BM4.cell 4 _ rfl)
          have z5 := keep_cell (hb n5) (BM4.cell 5 _ rfl)
          have z6 := keep_cell (hb n5) (BM4.cell 6 _ rfl)
          have z7 := keep_cell (hb n5) (BM4.cell 7 _ rfl)
          refine wpOp_step (by simp only [List.getElem?_toArray, List.getElem?_cons_succ, List.getElem?_cons_zero]; rfl) (fun K hK => ?_)
          go_simp
          refine hK _ _ ⟨[v75, v76, v77, v78, .agg #[.int .i64 m.kd, .int .i64 m.cl, .int .i64 m.no, .string m.s, .string m.nm, .string m.tg, .int .i64 m.n, .slice A1 n1 c1], v80, v9], ?_, _, _, _, _, _, _, _, rfl, hb, k0, k1, k2, k3, (fun _ => rfl), k5, k6⟩
          simp only [putAll, List.setIfInBounds_toArray, List.set_cons_succ, List.set_cons_zero] <;> rfl
        · have e3 := k3 (hdep 3 (by kernel_rfl))
          subst e3
          have e4 := k4 (hdep 4 (by kernel_rfl))
          subst e4
          have hbb := hb hD
          have cr := (tag_row x.sets m K4.out k qb n2 c2 fp A1 n1 c1 w' (R4.keep cstK hbb) N2 HKK.out.1 HB9.out)
          unfold cmV at cr
          refine wpOp_step (by simp only [List.getElem?_toArray, List.getElem?_cons_succ, List.getElem?_cons_zero]; rfl) (fun K hK => ?_)
          go_simp
          refine cr.mono ?_
          rintro e w5_ hS5
          obtain ⟨fp5, rfl, hS6⟩ := hS5
          refine hK _ _ ⟨[v75, v76, v77, .pointer (some ⟨qb, k * 2, none⟩), .agg #[.int .i64 m.kd, .int .i64 m.cl, .int .i64 m.no, .string m.s, .string m.nm, .string m.tg, .int .i64 m.n, .slice A1 n1 c1], .string (setDo (cstAt x.sets k) m).2, v9], ?_, _, _, _, _, _, _, _, rfl, (fun h => absurd h (by simp)), k0, k1, k2, (fun _ => rfl), (fun _ => rfl), (fun _ => ⟨rfl, SetRow.far hbb ⟨fp5, rfl, hS6⟩⟩), k6⟩
          simp only [putAll, List.setIfInBounds_toArray, List.set_cons_succ, List.set_cons_zero] <;> rfl
        · obtain ⟨rfl, hS⟩ := k5 (hdep 5 (by kernel_rfl))
          refine wpOp_step (by simp only [List.getElem?_toArray, List.getElem?_cons_succ, List.getElem?_cons_zero]; rfl) (fun K hK => ?_)
          go_simp
          refine hK _ _ ⟨[v75, v76, v77, v78, v79, .string (setDo (cstAt x.sets k) m).2, .string (setDo (cstAt x.sets k) m).2], ?_, _, _, _, _, _, _, _, rfl, hb, k0, k1, k2, k3, k4, (fun _ => ⟨rfl, hS⟩), (fun _ => rfl)⟩
          simp only [putAll, List.setIfInBounds_toArray, List.set_cons_succ, List.set_cons_zero] <;> rfl
      · intro D vs w' hD hI
        obtain ⟨v75, v76, v77, v78, v79, v80, v9, rfl, hb, k0, k1, k2, k3, k4, k5, k6⟩ := hI
        simp only [putAll, List.setIfInBounds_toArray, List.set_cons_succ, List.set_cons_zero]
        have h1 := k6 (hD 6 (show 6 < 7 by decide))
        subst h1
        obtain ⟨_, fp5, he5, R5, N5, F5, hC5⟩ := k5 (hD 5 (show 5 < 7 by decide))
        clear hD hb he5
        have hqf : q ∉ fp := fun h => by have := F3 _ h; omega
        have hz5 := hC5.size
        have BO5 := BO4.ch hC5 hpf
        have BQ5 := BQ4.ch hC5 hqf
        have hg5 : Below g w w' := hC5.belowB hg4 (by omega) (fun t ht => by have := F3 t ht; omega)
        have FG5 : ∀ t ∈ fp5, g + 2 < t := fun t ht => by rcases F5 t ht with h | h; (have := F3 t h; omega); (omega)
        clear o0 of q0 qf y0 l0 l1 l2
        have o0 := BO5.cell 0 _ rfl
        have of := BO5.fz 0 (by simp)
        have q0 := BQ5.cell 0 _ rfl
        have l5 := BO5.lt
        have l6 := BQ5.lt
        have hWr := (BO5.set (v := .slice (some ⟨qb, 0, none⟩) n2 c2) (j := 0) (by simp)).range
        simp only [List.set_cons_zero] at hWr
        go_wp2
        refine bodyPost_ret (results_cell_tmp Try.results175 rfl hWr Try.underlying84 rfl sizeCat0) rfl ?_
        rw [HE.out]
        have hos := out_set (p := g + 2) R5 hg5 (by omega) (by omega) (fun h => by have := FG5 _ h; omega) (.slice (some ⟨qb, 0, none⟩) n2 c2)
        exact ⟨_, n2, c2, rfl, fp5, hos.1, N5, fun t ht => by have := FG5 t ht; have := HG.out; omega, by rw [HG.out]; exact hos.2⟩
    have g4 : (m.kd == (4 : Int)) = false := beq_eq_false_iff_ne.2 k4
    have K4 := Lib.hid k4; clear k4
    by_cases k5 : m.kd = 5
    · have g5 : (m.kd == (5 : Int)) = true := beq_iff_eq.2 k5
      have K5 := Lib.hid k5; clear k5
      obtain ⟨qb, rfl⟩ := row_head R4 (by omega)
      have HE := Lib.hid (show catDo x m = (⟨x.sets.set k (setDo (cstAt x.sets k) m).1⟩, (setDo (cstAt x.sets k) m).2) by
        unfold catDo; rw [if_neg (by rw [HC.out]; simp), if_neg (by rw [HM.out]; simp), if_neg K0.out, if_neg K1.out, if_neg K7.out, if_neg (by rw [T.out]; exact ht0), if_neg K2.out, T.out, Int.toNat_natCast])
      have HB9 := Lib.hid (show ∀ s ∈ x.sets, s.snaps.length ≤ 9 from fun s hs => by have := (hcb.2 s hs).2.1; omega)
      have hki : (k : Int) < (n2 : Int) := by have := HK.1; omega
      have HKK := Lib.hid HK; clear HK
      go_wp2_with fail
      refine wp_region_dagb [83, 84, 85, 86, 87, 88, 89, 9] (by kernel_rfl) (by kernel_rfl) (fun D vs w' => ∃ v83 v84 v85 v86 v87 v88 v89 v9 : Value, vs = [v83, v84, v85, v86, v87, v88, v89, v9] ∧ (D 6 = false → Below w4.heap.size w4 w') ∧ (D 0 = true → v83 = .pointer (some ⟨q, 0, none⟩)) ∧ (D 1 = true → v84 = .slice (some ⟨qb, 0, none⟩) n2 c2) ∧ (D 2 = true → v85 = .int .i64 (k : Int)) ∧ (D 3 = true → v86 = .pointer (some ⟨qb, k * 2, none⟩)) ∧ (D 4 = true → v87 = .pointer (some ⟨g + 1, 6, none⟩)) ∧ (D 5 = true → v88 = .int .i64 m.n) ∧ (D 6 = true → v89 = .string (setDo (cstAt x.sets k) m).2 ∧ SetRow x.sets m k qb n2 c2 fp w4 (.returned (.string (setDo (cstAt x.sets k) m).2)) w') ∧ (D 7 = true → v9 = .string (setDo (cstAt x.sets k) m).2))
        ⟨_, _, _, _, _, _, _, _, rfl, (fun _ => (Below.refl _ _).drew), (fun h => by cases h), (fun h => by cases h), (fun h => by cases h), (fun h => by cases h), (fun h => by cases h), (fun h => by cases h), (fun h => by cases h), (fun h => by cases h)⟩ ?_ ?_
      · intro i D vs w' hi hD hdep hcl hI
        have hi' : i < 8 := hi
        obtain ⟨v83, v84, v85, v86, v87, v88, v89, v9, rfl, hb, k0, k1, k2, k3, k4, k5, k6, k7⟩ := hI
        simp only [putAll, List.setIfInBounds_toArray, List.set_cons_succ, List.set_cons_zero]
        rcases (show i = 0 ∨ i = 1 ∨ i = 2 ∨ i = 3 ∨ i = 4 ∨ i = 5 ∨ i = 6 ∨ i = 7 by omega) with rfl | rfl | rfl | rfl | rfl | rfl | rfl | rfl
        · refine wpOp_step (by simp only [List.getElem?_toArray, List.getElem?_cons_zero]; rfl) (fun K hK => ?_)
          go_simp
          refine hK _ _ ⟨[.pointer (some ⟨q, 0, none⟩), v84, v85, v86, v87, v88, v89, v9], ?_, _, _, _, _, _, _, _, _, rfl, hb, (fun _ => rfl), k1, k2, k3, k4, k5, k6, k7⟩
          simp only [putAll, List.setIfInBounds_toArray, List.set_cons_succ, List.set_cons_zero] <;> rfl
        · have e0 := k0 (hdep 0 (by kernel_rfl))
          subst e0
          have n6 : D 6 = false := Bool.eq_false_iff.2 (fun h => absurd (hcl 3 1 (hcl 6 3 h (by kernel_rfl)) (by kernel_rfl)) (by rw [hD]; simp))
          have q7 := keep_cell (hb n6) q0
          refine wpOp_step (by simp only [List.getElem?_toArray, List.getElem?_cons_succ, List.getElem?_cons_zero]; rfl) (fun K hK => ?_)
          go_simp
          refine hK _ _ ⟨[.pointer (some ⟨q, 0, none⟩), .slice (some ⟨qb, 0, none⟩) n2 c2, v85, v86, v87, v88, v89, v9], ?_, _, _, _, _, _, _, _, _, rfl, hb, (fun _ => rfl), (fun _ => rfl), k2, k3, k4, k5, k6, k7⟩
          simp only [putAll, List.setIfInBounds_toArray, List.set_cons_succ, List.set_cons_zero] <;> rfl
        · refine wpOp_step (by simp only [List.getElem?_toArray, List.getElem?_cons_succ, List.getElem?_cons_zero]; rfl) (fun K hK => ?_)
          go_simp
          refine hK _ _ ⟨[v83, v84, .int .i64 (k : Int), v86, v87, v88, v89, v9], ?_, _, _, _, _, _, _, _, _, rfl, hb, k0, k1, (fun _ => rfl), k3, k4, k5, k6, k7⟩
          simp only [putAll, List.setIfInBounds_toArray, List.set_cons_succ, List.set_cons_zero] <;> rfl
        · have e1 := k1 (hdep 1 (by kernel_rfl))
          subst e1
          have e2 := k2 (hdep 2 (by kernel_rfl))
          subst e2
          refine wpOp_step (by simp only [List.getElem?_toArray, List.getElem?_cons_succ, List.getElem?_cons_zero]; rfl) (fun K hK => ?_)
          go_simp
          refine hK _ _ ⟨[v83, .slice (some ⟨qb, 0, none⟩) n2 c2, .int .i64 (k : Int), .pointer (some ⟨qb, k * 2, none⟩), v87, v88, v89, v9], ?_, _, _, _, _, _, _, _, _, rfl, hb, k0, (fun _ => rfl), (fun _ => rfl), (fun _ => rfl), k4, k5, k6, k7⟩
          simp only [putAll, List.setIfInBounds_toArray, List.set_cons_succ, List.set_cons_zero] <;> rfl
        · refine wpOp_step (by simp only [List.getElem?_toArray, List.getElem?_cons_succ, List.getElem?_cons_zero]; rfl) (fun K hK => ?_)
          go_simp
          refine hK _ _ ⟨[v83, v84, v85, v86, .pointer (some ⟨g + 1, 6, none⟩), v88, v89, v9], ?_, _, _, _, _, _, _, _, _, rfl, hb, k0, k1, k2, k3, (fun _ => rfl), k5, k6, k7⟩
          simp only [putAll, List.setIfInBounds_toArray, List.set_cons_succ, List.set_cons_zero] <;> rfl
        · have e4 := k4 (hdep 4 (by kernel_rfl))
          subst e4
          have n6 : D 6 = false := Bool.eq_false_iff.2 (fun h => absurd (hcl 6 5 h (by kernel_rfl)) (by rw [hD]; simp))
          have z6 := keep_cell (hb n6) (BM4.cell 6 _ rfl)
          refine wpOp_step (by simp only [List.getElem?_toArray, List.getElem?_cons_succ, List.getElem?_cons_zero]; rfl) (fun K hK => ?_)
          go_simp
          refine hK _ _ ⟨[v83, v84, v85, v86, .pointer (some ⟨g + 1, 6, none⟩), .int .i64 m.n, v89, v9], ?_, _, _, _, _, _, _, _, _, rfl, hb, k0, k1, k2, k3, (fun _ => rfl), (fun _ => rfl), k6, k7⟩
          simp only [putAll, List.setIfInBounds_toArray, List.set_cons_succ, List.set_cons_zero] <;> rfl
        · have e3 := k3 (hdep 3 (by kernel_rfl))
          subst e3
          have e5 := k5 (hdep 5 (by kernel_rfl))
          subst e5
          have hbb := hb hD
          have cr := (prune_row x.sets m K5.out hmb.n.1 hmb.n.2 k qb n2 c2 fp w' (R4.keep cstK hbb) N2 HKK.out.1 HB9.out)
          refine wpOp_step (by simp only [List.getElem?_toArray, List.getElem?_cons_succ, List.getElem?_cons_zero]; rfl) (fun K hK => ?_)
          go_simp
          refine cr.mono ?_
          rintro e w5_ hS5
          obtain ⟨fp5, rfl, hS6⟩ := hS5
          refine hK _ _ ⟨[v83, v84, v85, .pointer (some ⟨qb, k * 2, none⟩), v87, .int .i64 m.n, .string (setDo (cstAt x.sets k) m).2, v9], ?_, _, _, _, _, _, _, _, _, rfl, (fun h => absurd h (by simp)), k0, k1, k2, (fun _ => rfl), k4, (fun _ => rfl), (fun _ => ⟨rfl, SetRow.far hbb ⟨fp5, rfl, hS6⟩⟩), k7⟩
          simp only [putAll, List.setIfInBounds_toArray, List.set_cons_succ, List.set_cons_zero] <;> rfl
        · obtain ⟨rfl, hS⟩ := k6 (hdep 6 (by kernel_rfl))
          refine wpOp_step (by simp only [List.getElem?_toArray, List.getElem?_cons_succ, List.getElem?_cons_zero]; rfl) (fun K hK => ?_)
          go_simp
          refine hK _ _ ⟨[v83, v84, v85, v86, v87, v88, .string (setDo (cstAt x.sets k) m).2, .string (setDo (cstAt x.sets k) m).2], ?_, _, _, _, _, _, _, _, _, rfl, hb, k0, k1, k2, k3, k4, k5, (fun _ => ⟨rfl, hS⟩), (fun _ => rfl)⟩
          simp only [putAll, List.setIfInBounds_toArray, List.set_cons_succ, List.set_cons_zero] <;> rfl
      · intro D vs w' hD hI
        obtain ⟨v83, v84, v85, v86, v87, v88, v89, v9, rfl, hb, k0, k1, k2, k3, k4, k5, k6, k7⟩ := hI
        simp only [putAll, List.setIfInBounds_toArray, List.set_cons_succ, List.set_cons_zero]
        have h1 := k7 (hD 7 (show 7 < 8 by decide))
        subst h1
        obtain ⟨_, fp5, he5, R5, N5, F5, hC5⟩ := k6 (hD 6 (show 6 < 8 by decide))
        clear hD hb he5
        have hqf : q ∉ fp := fun h => by have := F3 _ h; omega
        have hz5 := hC5.size
        have BO5 := BO4.ch hC5 hpf
        have BQ5 := BQ4.ch hC5 hqf
        have hg5 : Below g w w' := hC5.belowB hg4 (by omega) (fun t ht => by have := F3 t ht; omega)
        have FG5 : ∀ t ∈ fp5, g + 2 < t := fun t ht => by rcases F5 t ht with h | h; (have := F3 t h; omega); (omega)
        clear o0 of q0 qf y0 l0 l1 l2
        have o0 := BO5.cell 0 _ rfl
        have of := BO5.fz 0 (by simp)
        have q0 := BQ5.cell 0 _ rfl
        have l5 := BO5.lt
        have l6 := BQ5.lt
        have hWr := (BO5.set (v := .slice (some ⟨qb, 0, none⟩) n2 c2) (j := 0) (by simp)).range
        simp only [List.set_cons_zero] at hWr
        go_wp2
        refine bodyPost_ret (results_cell_tmp Try.results175 rfl hWr Try.underlying84 rfl sizeCat0) rfl ?_
        rw [HE.out]
        have hos := out_set (p := g + 2) R5 hg5 (by omega) (by omega) (fun h => by have := FG5 _ h; omega) (.slice (some ⟨qb, 0, none⟩) n2 c2)
        exact ⟨_, n2, c2, rfl, fp5, hos.1, N5, fun t ht => by have := FG5 t ht; have := HG.out; omega, by rw [HG.out]; exact hos.2⟩
    have g5 : (m.kd == (5 : Int)) = false := beq_eq_false_iff_ne.2 k5
    have K5 := Lib.hid k5; clear k5
    have RR := R4.at_ cstK (by omega)
    obtain ⟨qb, qo, rfl⟩ := RR.head (by omega)
    obtain ⟨bl, y, cs, hy, ⟨B1, m1, d1, rfl, y1⟩, hcell⟩ := RR.elem_at HK.1
    have f1 : w4.cell? ⟨qb, qo + k * 2 + 1, none⟩ = some (.slice B1 m1 d1) := hcell 1 _ rfl
    have hym := List.mem_of_getElem? hy
    have hyb := hcb.2 y hym
    have hyl := y1.len
    have hse := cstAt_of hy
    have hset : x.sets.set k y = x.sets := by rw [set_split hy]; obtain ⟨hk2, e2⟩ := List.getElem?_eq_some_iff.1 hy; rw [← e2, ← List.drop_eq_getElem_cons hk2, List.take_append_drop]
    have HE := Lib.hid (show catDo x m = (x, spTo (y.snaps.map tdT) y.snaps.length) by
      unfold catDo; rw [if_neg (by rw [HC.out]; simp), if_neg (by rw [HM.out]; simp), if_neg K0.out, if_neg K1.out, if_neg K7.out, if_neg (by rw [T.out]; exact ht0), if_neg K2.out, T.out, Int.toNat_natCast, hse]
      unfold setDo; rw [if_neg K3.out, if_neg K4.out, if_neg K5.out]; simp only [hset])
    have hto := told_impl y B1 m1 d1 qb (qo + k * 2) w4 y1 f1 (by omega) (fun p hp => by have := hyb.2.2 p hp; exact ⟨by omega, by omega⟩)
    have HKK := Lib.hid HK; have hk1 := HK.1; clear HK hcell hy hym hyb hyl hse hset y1
    go_wp2_with fail
    refine hto.mono ?_
    rintro e w5 ⟨rfl, hb5⟩
    have R5 := R4.keep cstK hb5; have BO5 := BO4.keep hb5; have BQ5 := BQ4.keep hb5
    have hg5 : Below g w w5 := hg4.trans (hb5.mono (show g ≤ w4.heap.size by omega))
    clear o0 of q0 y0 hto
    have o0 := BO5.cell 0 _ rfl
    have of := BO5.fz 0 (by simp)
    have q0 := BQ5.cell 0 _ rfl
    have l5 := BO5.lt
    have hWr := (BO5.set (v := .slice (some ⟨qb, qo, none⟩) n2 c2) (j := 0) (by simp)).range
    simp only [List.set_cons_zero] at hWr
    go_wp2
    refine bodyPost_ret (results_cell_tmp Try.results175 rfl hWr Try.underlying84 rfl sizeCat0) rfl ?_
    rw [HE.out]
    have hos := out_set (p := g + 2) R5 hg5 (by omega) (by omega) hpf (.slice (some ⟨qb, qo, none⟩) n2 c2)
    exact ⟨_, n2, c2, fp, rfl, hos.1, N2, FG, by rw [HG.out]; exact hos.2⟩
end Go.Proofs.Ytdphdnllhmnelaa
