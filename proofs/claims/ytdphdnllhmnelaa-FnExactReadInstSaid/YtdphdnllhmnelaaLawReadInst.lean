/- The law FnExactReadInst holds: for every text the program's ReadInst answers what the reference's answers, and what it hands back is its own. Conditions: none. -/
import Derived.Test.YtdphdnllhmnelaaJ4
import Derived.Test.YtdphdnllhmnelaaJ10
import Derived.Test.YtdphdnllhmnelaaJ12
import Derived.Test.YtdphdnllhmnelaaJ0
import Derived.Test.YtdphdnllhmnelaaJ11
import Derived.Test.YtdphdnllhmnelaaJ8
namespace Go.Proofs.Ytdphdnllhmnelaa
open Go.RowKit Go.ChangeShapes Go.WideShapes Go.ChangeAt Go.Deep Go.Joins
theorem strsSz8 {l : List ByteArray} (h : ∀ j, j < l.length → (sAt l j).size = 8) : strsSz l ≤ 9 * l.length := by
  have h1 := chL_size l
  have h2 := sum8 h
  unfold strsSz
  omega
theorem insOk_sz {x : Ins} (h : insOkB x = true) : insSz x ≤ 1000 := by
  have hb := insOk_bd h
  have hc := cmOk_bd hb.cmd
  have h1 := strsSz8 hc.c8
  have a := hc.s; have b := hc.nm; have c := hc.tg; have d := hc.ch; have e := hb.len
  unfold insSz cmSz iddsSz
  omega
theorem rdIn_sz (s : ByteArray) : insSz (rdIn s) ≤ 16777216 := by
  by_cases h : ∃ c, insOkB c = true ∧ insText c = s
  · obtain ⟨c, h1, h2⟩ := h
    rw [(rdIn_yes h1 h2).1]
    have := insOk_sz h1
    omega
  · rw [(rdIn_no (fun c h1 h2 => h ⟨c, h1, h2⟩)).1]
    unfold insNil insSz cmSz cmNil iddsSz strsSz
    simp
section
attribute [local irreducible] StrR IntR StrO IntO RowR RowO StrsAt IntsAt rdIn rdInB
theorem sizeInst_impl2 : (Try.prog.info? 50).map (·.size) = some 16 := by kernel_rfl
set_option maxRecDepth 8000 in
set_option maxHeartbeats 8000000 in
theorem fnExactReadInst_any (s : ByteArray) (w : World) (hs0 : s.size ≤ 9223372036854775807) :
    Calls Try.prog 6 #[.string s] w fun e w' => e = .returned (.bool true) ∧ Below w.heap.size w w' := by
  by_cases hsz : (s.size : Int) ≤ 1048576
  · have hge : ¬ ((1048576 : Int) < (s.size : Int)) := by omega
    obtain ⟨X, hX⟩ : ∃ X, rdIn s = X := ⟨_, rfl⟩
    obtain ⟨q, hq⟩ : ∃ q, rdInB s = q := ⟨_, rfl⟩
    have hXs : insSz X ≤ 16777216 := by rw [← hX]; exact rdIn_sz s
    have htop := ins_top X
    have HX := Lib.hid hX; have HQ := Lib.hid hq; clear hX hq
    go_enter Try.func6, Try.ntmps6
    go_wp2_with fail
    refine (readInst_spec s _ (by omega)).mono ?_
    rintro e w1 ⟨⟨AS1, nS1, cS1, AS2, nS2, cS2, fS1, fS2, rfl, S1, S2, hNS, hFS⟩, hb1⟩
    have hz1 := hb1.size
    have hB1 := hb1
    rw [HX.out] at S1 S2 ⊢
    rw [HQ.out]
    have lS1 := S1.lt
    have lS2 := S2.lt iddK
    unfold insV
    obtain ⟨bS, hbS⟩ : ∃ b, w1.heap.size = b := ⟨_, rfl⟩
    have al := (Below.refl w1.heap.size w1).alloc (Nat.le_refl _) (.cells #[.int .i64 X.id.r, .int .i64 X.id.s, .int .i64 X.bal, .int .i64 X.vb, .int .i64 X.st, .int .i64 X.cmd.kd, .int .i64 X.cmd.cl, .int .i64 X.cmd.no, .string X.cmd.s, .string X.cmd.nm, .string X.cmd.tg, .int .i64 X.cmd.n, .slice AS1 nS1 cS1, .int .i64 X.seq, .slice AS2 nS2 cS2, .bool X.same] 50)
    have ES := BoxL.new w1 [.int .i64 X.id.r, .int .i64 X.id.s, .int .i64 X.bal, .int .i64 X.vb, .int .i64 X.st, .int .i64 X.cmd.kd, .int .i64 X.cmd.cl, .int .i64 X.cmd.no, .string X.cmd.s, .string X.cmd.nm, .string X.cmd.tg, .int .i64 X.cmd.n, .slice AS1 nS1 cS1, .int .i64 X.seq, .slice AS2 nS2 cS2, .bool X.same] 50
    obtain ⟨W1, hW1⟩ : ∃ W, W = w1.alloc (.cells #[.int .i64 X.id.r, .int .i64 X.id.s, .int .i64 X.bal, .int .i64 X.vb, .int .i64 X.st, .int .i64 X.cmd.kd, .int .i64 X.cmd.cl, .int .i64 X.cmd.no, .string X.cmd.s, .string X.cmd.nm, .string X.cmd.tg, .int .i64 X.cmd.n, .slice AS1 nS1 cS1, .int .i64 X.seq, .slice AS2 nS2 cS2, .bool X.same] 50) := ⟨_, rfl⟩
    rw [← hW1] at al ES
    simp only [hbS] at ES
    go_wp2_with fail
    rw [← hW1]
    try simp only [hbS]
    have S1' := S1.keep al; clear S1; have S1 := S1'; clear S1'
    have S2' := S2.keep iddK al; clear S2; have S2 := S2'; clear S2'
    have hB1a := bthen hB1 al
    have hz1a := al.size
    have hlbS := ES.lt
    refine (readInst_impl s _ (by omega)).mono ?_
    rintro e w2 ⟨⟨AG1, nG1, cG1, AG2, nG2, cG2, fG1, fG2, rfl, G1, G2, hNG, hFG⟩, hb2⟩
    have ES' := ES.keep hb2; clear ES; have ES := ES'; clear ES'
    have S1' := S1.keep hb2; clear S1; have S1 := S1'; clear S1'
    have S2' := S2.keep iddK hb2; clear S2; have S2 := S2'; clear S2'
    have hz2 := hb2.size
    have hB2 := bthen hB1a hb2
    rw [HX.out] at G1 G2 ⊢
    rw [HQ.out]
    have lG1 := G1.lt
    have lG2 := G2.lt iddK
    unfold insV
    obtain ⟨bG, hbG⟩ : ∃ b, w2.heap.size = b := ⟨_, rfl⟩
    have al := (Below.refl w2.heap.size w2).alloc (Nat.le_refl _) (.cells #[.int .i64 X.id.r, .int .i64 X.id.s, .int .i64 X.bal, .int .i64 X.vb, .int .i64 X.st, .int .i64 X.cmd.kd, .int .i64 X.cmd.cl, .int .i64 X.cmd.no, .string X.cmd.s, .string X.cmd.nm, .string X.cmd.tg, .int .i64 X.cmd.n, .slice AG1 nG1 cG1, .int .i64 X.seq, .slice AG2 nG2 cG2, .bool X.same] 50)
    have EG := BoxL.new w2 [.int .i64 X.id.r, .int .i64 X.id.s, .int .i64 X.bal, .int .i64 X.vb, .int .i64 X.st, .int .i64 X.cmd.kd, .int .i64 X.cmd.cl, .int .i64 X.cmd.no, .string X.cmd.s, .string X.cmd.nm, .string X.cmd.tg, .int .i64 X.cmd.n, .slice AG1 nG1 cG1, .int .i64 X.seq, .slice AG2 nG2 cG2, .bool X.same] 50
    obtain ⟨W2, hW2⟩ : ∃ W, W = w2.alloc (.cells #[.int .i64 X.id.r, .int .i64 X.id.s, .int .i64 X.bal, .int .i64 X.vb, .int .i64 X.st, .int .i64 X.cmd.kd, .int .i64 X.cmd.cl, .int .i64 X.cmd.no, .string X.cmd.s, .string X.cmd.nm, .string X.cmd.tg, .int .i64 X.cmd.n, .slice AG1 nG1 cG1, .int .i64 X.seq, .slice AG2 nG2 cG2, .bool X.same] 50) := ⟨_, rfl⟩
    rw [← hW2] at al EG
    simp only [hbG] at EG
    have hWr : (w2.alloc (.cells #[.int .i64 X.id.r, .int .i64 X.id.s, .int .i64 X.bal, .int .i64 X.vb, .int .i64 X.st, .int .i64 X.cmd.kd, .int .i64 X.cmd.cl, .int .i64 X.cmd.no, .string X.cmd.s, .string X.cmd.nm, .string X.cmd.tg, .int .i64 X.cmd.n, .slice AG1 nG1 cG1, .int .i64 X.seq, .slice AG2 nG2 cG2, .bool X.same] 50)).rangeAt bG 0 [.int .i64 X.id.r, .int .i64 X.id.s, .int .i64 X.bal, .int .i64 X.vb, .int .i64 X.st, .int .i64 X.cmd.kd, .int .i64 X.cmd.cl, .int .i64 X.cmd.no, .string X.cmd.s, .string X.cmd.nm, .string X.cmd.tg, .int .i64 X.cmd.n, .slice AG1 nG1 cG1, .int .i64 X.seq, .slice AG2 nG2 cG2, .bool X.same] := by rw [← hW2]; exact EG.range
    have hWs : (w2.alloc (.cells #[.int .i64 X.id.r, .int .i64 X.id.s, .int .i64 X.bal, .int .i64 X.vb, .int .i64 X.st, .int .i64 X.cmd.kd, .int .i64 X.cmd.cl, .int .i64 X.cmd.no, .string X.cmd.s, .string X.cmd.nm, .string X.cmd.tg, .int .i64 X.cmd.n, .slice AG1 nG1 cG1, .int .i64 X.seq, .slice AG2 nG2 cG2, .bool X.same] 50)).rangeAt bS 0 [.int .i64 X.id.r, .int .i64 X.id.s, .int .i64 X.bal, .int .i64 X.vb, .int .i64 X.st, .int .i64 X.cmd.kd, .int .i64 X.cmd.cl, .int .i64 X.cmd.no, .string X.cmd.s, .string X.cmd.nm, .string X.cmd.tg, .int .i64 X.cmd.n, .slice AS1 nS1 cS1, .int .i64 X.seq, .slice AS2 nS2 cS2, .bool X.same] := by rw [← hW2]; exact (ES.keep al).range
    repeat (first | ((with_reducible refine wpList_load_o 50 (.tmp 5) _ 0 [.int .i64 X.id.r, .int .i64 X.id.s, .int .i64 X.bal, .int .i64 X.vb, .int .i64 X.st, .int .i64 X.cmd.kd, .int .i64 X.cmd.cl, .int .i64 X.cmd.no, .string X.cmd.s, .string X.cmd.nm, .string X.cmd.tg, .int .i64 X.cmd.n, .slice AG1 nG1 cG1, .int .i64 X.seq, .slice AG2 nG2 cG2, .bool X.same] _ (by rw [hbG]; exact hWr) Try.underlying50 sizeInst_impl2 ?_ ?_ ?_ ?_ ?_ ?_); (rfl); (rfl); (rfl); (rfl); (rfl)) | ((with_reducible refine wpList_load_o 50 (.tmp 3) bS 0 [.int .i64 X.id.r, .int .i64 X.id.s, .int .i64 X.bal, .int .i64 X.vb, .int .i64 X.st, .int .i64 X.cmd.kd, .int .i64 X.cmd.cl, .int .i64 X.cmd.no, .string X.cmd.s, .string X.cmd.nm, .string X.cmd.tg, .int .i64 X.cmd.n, .slice AS1 nS1 cS1, .int .i64 X.seq, .slice AS2 nS2 cS2, .bool X.same] _ hWs Try.underlying50 sizeInst_impl2 ?_ ?_ ?_ ?_ ?_ ?_); (rfl); (rfl); (rfl); (rfl); (rfl)) | go_values | go_skip | go_guarded | go_step | go_upon | (simp only []; go_at_K))
    clear hWr hWs
    rw [← hW2]
    try simp only [hbG]
    have ES' := ES.keep al; clear ES; have ES := ES'; clear ES'
    have S1' := S1.keep al; clear S1; have S1 := S1'; clear S1'
    have S2' := S2.keep iddK al; clear S2; have S2 := S2'; clear S2'
    have G1' := G1.keep al; clear G1; have G1 := G1'; clear G1'
    have G2' := G2.keep iddK al; clear G2; have G2 := G2'; clear G2'
    have hB2a := bthen hB2 al
    have hz2a := al.size
    have hlbG := EG.lt
    refine (ins_eq X _ _ _ _ _ _ _ _ _ _ _ _ _ (G1.at_) (G2.at_ iddK (by omega)) (S1.at_) (S2.at_ iddK (by omega)) hXs).mono ?_
    rintro e w3 ⟨rfl, hb3⟩
    have ES' := ES.keep hb3; clear ES; have ES := ES'; clear ES'
    have EG' := EG.keep hb3; clear EG; have EG := EG'; clear EG'
    have S1' := S1.keep hb3; clear S1; have S1 := S1'; clear S1'
    have S2' := S2.keep iddK hb3; clear S2; have S2 := S2'; clear S2'
    have G1' := G1.keep hb3; clear G1; have G1 := G1'; clear G1'
    have G2' := G2.keep iddK hb3; clear G2; have G2 := G2'; clear G2'
    have hz3 := hb3.size
    have hB3 := bthen hB2a hb3
    repeat (first | ((with_reducible refine wpList_load_o 50 (.tmp 3) (bS) 0 [.int .i64 X.id.r, .int .i64 X.id.s, .int .i64 X.bal, .int .i64 X.vb, .int .i64 X.st, .int .i64 X.cmd.kd, .int .i64 X.cmd.cl, .int .i64 X.cmd.no, .string X.cmd.s, .string X.cmd.nm, .string X.cmd.tg, .int .i64 X.cmd.n, .slice AS1 nS1 cS1, .int .i64 X.seq, .slice AS2 nS2 cS2, .bool X.same] _ ES.range Try.underlying50 sizeInst_impl2 ?_ ?_ ?_ ?_ ?_ ?_); (rfl); (rfl); (rfl); (rfl); (rfl)) | ((with_reducible refine wpList_load_o 50 (.tmp 5) (bG) 0 [.int .i64 X.id.r, .int .i64 X.id.s, .int .i64 X.bal, .int .i64 X.vb, .int .i64 X.st, .int .i64 X.cmd.kd, .int .i64 X.cmd.cl, .int .i64 X.cmd.no, .string X.cmd.s, .string X.cmd.nm, .string X.cmd.tg, .int .i64 X.cmd.n, .slice AG1 nG1 cG1, .int .i64 X.seq, .slice AG2 nG2 cG2, .bool X.same] _ EG.range Try.underlying50 sizeInst_impl2 ?_ ?_ ?_ ?_ ?_ ?_); (rfl); (rfl); (rfl); (rfl); (rfl)) | go_values | go_skip | go_guarded | go_step | go_upon | (simp only []; go_at_K))
    refine (ins_mark X _ _ _ _ _ _ _ _ 1 _ G1 G2 hNG hXs (by omega) (by omega)).mono ?_
    rintro e w4 ⟨rfl, M1, M2, hc⟩
    have hS : ∀ b, b ∈ fG1 ++ fG2 → bS + 1 ≤ b ∧ b < bG := fun b hb => by have := hFG b hb; omega
    have ES' := ES.ch hc (fun hb => by have := hS _ hb; omega); have EG' := EG.ch hc (fun hb => by have := hS _ hb; omega)
    clear ES EG; have ES := ES'; have EG := EG'; clear ES' EG'
    have S1' := S1.ch hc (fun b hb h2 => by have h1 := lS1 b hb; have := hS _ h2; omega); clear S1; have S1 := S1'; clear S1'
    have S2' := S2.ch iddK hc (fun b hb h2 => by have h1 := lS2 b hb; have := hS _ h2; omega); clear S2; have S2 := S2'; clear S2'
    clear G1 G2
    have hz4 := hc.size
    have hB4 := hc.belowB hB3 (by have := (hB3).size; omega) (fun k hk => by have := hS _ hk; omega)
    repeat (first | ((with_reducible refine wpList_load_o 50 (.tmp 3) (bS) 0 [.int .i64 X.id.r, .int .i64 X.id.s, .int .i64 X.bal, .int .i64 X.vb, .int .i64 X.st, .int .i64 X.cmd.kd, .int .i64 X.cmd.cl, .int .i64 X.cmd.no, .string X.cmd.s, .string X.cmd.nm, .string X.cmd.tg, .int .i64 X.cmd.n, .slice AS1 nS1 cS1, .int .i64 X.seq, .slice AS2 nS2 cS2, .bool X.same] _ ES.range Try.underlying50 sizeInst_impl2 ?_ ?_ ?_ ?_ ?_ ?_); (rfl); (rfl); (rfl); (rfl); (rfl)) | ((with_reducible refine wpList_load_o 50 (.tmp 5) (bG) 0 [.int .i64 X.id.r, .int .i64 X.id.s, .int .i64 X.bal, .int .i64 X.vb, .int .i64 X.st, .int .i64 X.cmd.kd, .int .i64 X.cmd.cl, .int .i64 X.cmd.no, .string X.cmd.s, .string X.cmd.nm, .string X.cmd.tg, .int .i64 X.cmd.n, .slice AG1 nG1 cG1, .int .i64 X.seq, .slice AG2 nG2 cG2, .bool X.same] _ EG.range Try.underlying50 sizeInst_impl2 ?_ ?_ ?_ ?_ ?_ ?_); (rfl); (rfl); (rfl); (rfl); (rfl)) | go_values | go_skip | go_guarded | go_step | go_upon | (simp only []; go_at_K))
    refine (ins_held X X _ _ _ _ _ _ 1 _ (M1.at_) (M2.at_ iddK (by omega)) hXs (by omega) (by omega)).mono ?_
    rintro e w5 ⟨rfl, hb5⟩
    have ES' := ES.keep hb5; clear ES; have ES := ES'; clear ES'
    have EG' := EG.keep hb5; clear EG; have EG := EG'; clear EG'
    have S1' := S1.keep hb5; clear S1; have S1 := S1'; clear S1'
    have S2' := S2.keep iddK hb5; clear S2; have S2 := S2'; clear S2'
    have M1' := M1.keep hb5; clear M1; have M1 := M1'; clear M1'
    have M2' := M2.keep iddK hb5; clear M2; have M2 := M2'; clear M2'
    have hz5 := hb5.size
    have hB5 := bthen hB4 hb5
    have g1 : ¬ (1 + ((insTop X : Nat) : Int) < 0) := by omega
    repeat (first | ((with_reducible refine wpList_load_o 50 (.tmp 3) (bS) 0 [.int .i64 X.id.r, .int .i64 X.id.s, .int .i64 X.bal, .int .i64 X.vb, .int .i64 X.st, .int .i64 X.cmd.kd, .int .i64 X.cmd.cl, .int .i64 X.cmd.no, .string X.cmd.s, .string X.cmd.nm, .string X.cmd.tg, .int .i64 X.cmd.n, .slice AS1 nS1 cS1, .int .i64 X.seq, .slice AS2 nS2 cS2, .bool X.same] _ ES.range Try.underlying50 sizeInst_impl2 ?_ ?_ ?_ ?_ ?_ ?_); (rfl); (rfl); (rfl); (rfl); (rfl)) | ((with_reducible refine wpList_load_o 50 (.tmp 5) (bG) 0 [.int .i64 X.id.r, .int .i64 X.id.s, .int .i64 X.bal, .int .i64 X.vb, .int .i64 X.st, .int .i64 X.cmd.kd, .int .i64 X.cmd.cl, .int .i64 X.cmd.no, .string X.cmd.s, .string X.cmd.nm, .string X.cmd.tg, .int .i64 X.cmd.n, .slice AG1 nG1 cG1, .int .i64 X.seq, .slice AG2 nG2 cG2, .bool X.same] _ EG.range Try.underlying50 sizeInst_impl2 ?_ ?_ ?_ ?_ ?_ ?_); (rfl); (rfl); (rfl); (rfl); (rfl)) | go_values | go_skip | go_guarded | go_step | go_upon | (simp only []; go_at_K))
    refine (readInst_impl s _ (by omega)).mono ?_
    rintro e w6 ⟨⟨AH1, nH1, cH1, AH2, nH2, cH2, fH1, fH2, rfl, H1, H2, hNH, hFH⟩, hb6⟩
    have ES' := ES.keep hb6; clear ES; have ES := ES'; clear ES'
    have EG' := EG.keep hb6; clear EG; have EG := EG'; clear EG'
    have S1' := S1.keep hb6; clear S1; have S1 := S1'; clear S1'
    have S2' := S2.keep iddK hb6; clear S2; have S2 := S2'; clear S2'
    have M1' := M1.keep hb6; clear M1; have M1 := M1'; clear M1'
    have M2' := M2.keep iddK hb6; clear M2; have M2 := M2'; clear M2'
    have hz6 := hb6.size
    have hB6 := bthen hB5 hb6
    rw [HX.out] at H1 H2 ⊢
    rw [HQ.out]
    have lH1 := H1.lt
    have lH2 := H2.lt iddK
    unfold insV
    obtain ⟨bH, hbH⟩ : ∃ b, w6.heap.size = b := ⟨_, rfl⟩
    have al := (Below.refl w6.heap.size w6).alloc (Nat.le_refl _) (.cells #[.int .i64 X.id.r, .int .i64 X.id.s, .int .i64 X.bal, .int .i64 X.vb, .int .i64 X.st, .int .i64 X.cmd.kd, .int .i64 X.cmd.cl, .int .i64 X.cmd.no, .string X.cmd.s, .string X.cmd.nm, .string X.cmd.tg, .int .i64 X.cmd.n, .slice AH1 nH1 cH1, .int .i64 X.seq, .slice AH2 nH2 cH2, .bool X.same] 50)
    have EH := BoxL.new w6 [.int .i64 X.id.r, .int .i64 X.id.s, .int .i64 X.bal, .int .i64 X.vb, .int .i64 X.st, .int .i64 X.cmd.kd, .int .i64 X.cmd.cl, .int .i64 X.cmd.no, .string X.cmd.s, .string X.cmd.nm, .string X.cmd.tg, .int .i64 X.cmd.n, .slice AH1 nH1 cH1, .int .i64 X.seq, .slice AH2 nH2 cH2, .bool X.same] 50
    obtain ⟨W6, hW6⟩ : ∃ W, W = w6.alloc (.cells #[.int .i64 X.id.r, .int .i64 X.id.s, .int .i64 X.bal, .int .i64 X.vb, .int .i64 X.st, .int .i64 X.cmd.kd, .int .i64 X.cmd.cl, .int .i64 X.cmd.no, .string X.cmd.s, .string X.cmd.nm, .string X.cmd.tg, .int .i64 X.cmd.n, .slice AH1 nH1 cH1, .int .i64 X.seq, .slice AH2 nH2 cH2, .bool X.same] 50) := ⟨_, rfl⟩
    rw [← hW6] at al EH
    simp only [hbH] at EH
    have hWr : (w6.alloc (.cells #[.int .i64 X.id.r, .int .i64 X.id.s, .int .i64 X.bal, .int .i64 X.vb, .int .i64 X.st, .int .i64 X.cmd.kd, .int .i64 X.cmd.cl, .int .i64 X.cmd.no, .string X.cmd.s, .string X.cmd.nm, .string X.cmd.tg, .int .i64 X.cmd.n, .slice AH1 nH1 cH1, .int .i64 X.seq, .slice AH2 nH2 cH2, .bool X.same] 50)).rangeAt bH 0 [.int .i64 X.id.r, .int .i64 X.id.s, .int .i64 X.bal, .int .i64 X.vb, .int .i64 X.st, .int .i64 X.cmd.kd, .int .i64 X.cmd.cl, .int .i64 X.cmd.no, .string X.cmd.s, .string X.cmd.nm, .string X.cmd.tg, .int .i64 X.cmd.n, .slice AH1 nH1 cH1, .int .i64 X.seq, .slice AH2 nH2 cH2, .bool X.same] := by rw [← hW6]; exact EH.range
    have hWs : (w6.alloc (.cells #[.int .i64 X.id.r, .int .i64 X.id.s, .int .i64 X.bal, .int .i64 X.vb, .int .i64 X.st, .int .i64 X.cmd.kd, .int .i64 X.cmd.cl, .int .i64 X.cmd.no, .string X.cmd.s, .string X.cmd.nm, .string X.cmd.tg, .int .i64 X.cmd.n, .slice AH1 nH1 cH1, .int .i64 X.seq, .slice AH2 nH2 cH2, .bool X.same] 50)).rangeAt bS 0 [.int .i64 X.id.r, .int .i64 X.id.s, .int .i64 X.bal, .int .i64 X.vb, .int .i64 X.st, .int .i64 X.cmd.kd, .int .i64 X.cmd.cl, .int .i64 X.cmd.no, .string X.cmd.s, .string X.cmd.nm, .string X.cmd.tg, .int .i64 X.cmd.n, .slice AS1 nS1 cS1, .int .i64 X.seq, .slice AS2 nS2 cS2, .bool X.same] := by rw [← hW6]; exact (ES.keep al).range
    repeat (first | ((with_reducible refine wpList_load_o 50 (.tmp 9) _ 0 [.int .i64 X.id.r, .int .i64 X.id.s, .int .i64 X.bal, .int .i64 X.vb, .int .i64 X.st, .int .i64 X.cmd.kd, .int .i64 X.cmd.cl, .int .i64 X.cmd.no, .string X.cmd.s, .string X.cmd.nm, .string X.cmd.tg, .int .i64 X.cmd.n, .slice AH1 nH1 cH1, .int .i64 X.seq, .slice AH2 nH2 cH2, .bool X.same] _ (by rw [hbH]; exact hWr) Try.underlying50 sizeInst_impl2 ?_ ?_ ?_ ?_ ?_ ?_); (rfl); (rfl); (rfl); (rfl); (rfl)) | ((with_reducible refine wpList_load_o 50 (.tmp 3) bS 0 [.int .i64 X.id.r, .int .i64 X.id.s, .int .i64 X.bal, .int .i64 X.vb, .int .i64 X.st, .int .i64 X.cmd.kd, .int .i64 X.cmd.cl, .int .i64 X.cmd.no, .string X.cmd.s, .string X.cmd.nm, .string X.cmd.tg, .int .i64 X.cmd.n, .slice AS1 nS1 cS1, .int .i64 X.seq, .slice AS2 nS2 cS2, .bool X.same] _ hWs Try.underlying50 sizeInst_impl2 ?_ ?_ ?_ ?_ ?_ ?_); (rfl); (rfl); (rfl); (rfl); (rfl)) | go_values | go_skip | go_guarded | go_step | go_upon | (simp only []; go_at_K))
    clear hWr hWs
    rw [← hW6]
    try simp only [hbH]
    have ES' := ES.keep al; clear ES; have ES := ES'; clear ES'
    have EG' := EG.keep al; clear EG; have EG := EG'; clear EG'
    have S1' := S1.keep al; clear S1; have S1 := S1'; clear S1'
    have S2' := S2.keep iddK al; clear S2; have S2 := S2'; clear S2'
    have M1' := M1.keep al; clear M1; have M1 := M1'; clear M1'
    have M2' := M2.keep iddK al; clear M2; have M2 := M2'; clear M2'
    have H1' := H1.keep al; clear H1; have H1 := H1'; clear H1'
    have H2' := H2.keep iddK al; clear H2; have H2 := H2'; clear H2'
    have hB6a := bthen hB6 al
    have hz6a := al.size
    have hlbH := EH.lt
    refine (ins_eq X _ _ _ _ _ _ _ _ _ _ _ _ _ (H1.at_) (H2.at_ iddK (by omega)) (S1.at_) (S2.at_ iddK (by omega)) hXs).mono ?_
    rintro e w7 ⟨rfl, hb7⟩
    have ES' := ES.keep hb7; clear ES; have ES := ES'; clear ES'
    have EG' := EG.keep hb7; clear EG; have EG := EG'; clear EG'
    have EH' := EH.keep hb7; clear EH; have EH := EH'; clear EH'
    have S1' := S1.keep hb7; clear S1; have S1 := S1'; clear S1'
    have S2' := S2.keep iddK hb7; clear S2; have S2 := S2'; clear S2'
    have M1' := M1.keep hb7; clear M1; have M1 := M1'; clear M1'
    have M2' := M2.keep iddK hb7; clear M2; have M2 := M2'; clear M2'
    have H1' := H1.keep hb7; clear H1; have H1 := H1'; clear H1'
    have H2' := H2.keep iddK hb7; clear H2; have H2 := H2'; clear H2'
    have hz7 := hb7.size
    have hB7 := bthen hB6a hb7
    repeat (first | ((with_reducible refine wpList_load_o 50 (.tmp 3) (bS) 0 [.int .i64 X.id.r, .int .i64 X.id.s, .int .i64 X.bal, .int .i64 X.vb, .int .i64 X.st, .int .i64 X.cmd.kd, .int .i64 X.cmd.cl, .int .i64 X.cmd.no, .string X.cmd.s, .string X.cmd.nm, .string X.cmd.tg, .int .i64 X.cmd.n, .slice AS1 nS1 cS1, .int .i64 X.seq, .slice AS2 nS2 cS2, .bool X.same] _ ES.range Try.underlying50 sizeInst_impl2 ?_ ?_ ?_ ?_ ?_ ?_); (rfl); (rfl); (rfl); (rfl); (rfl)) | ((with_reducible refine wpList_load_o 50 (.tmp 5) (bG) 0 [.int .i64 X.id.r, .int .i64 X.id.s, .int .i64 X.bal, .int .i64 X.vb, .int .i64 X.st, .int .i64 X.cmd.kd, .int .i64 X.cmd.cl, .int .i64 X.cmd.no, .string X.cmd.s, .string X.cmd.nm, .string X.cmd.tg, .int .i64 X.cmd.n, .slice AG1 nG1 cG1, .int .i64 X.seq, .slice AG2 nG2 cG2, .bool X.same] _ EG.range Try.underlying50 sizeInst_impl2 ?_ ?_ ?_ ?_ ?_ ?_); (rfl); (rfl); (rfl); (rfl); (rfl)) | ((with_reducible refine wpList_load_o 50 (.tmp 9) (bH) 0 [.int .i64 X.id.r, .int .i64 X.id.s, .int .i64 X.bal, .int .i64 X.vb, .int .i64 X.st, .int .i64 X.cmd.kd, .int .i64 X.cmd.cl, .int .i64 X.cmd.no, .string X.cmd.s, .string X.cmd.nm, .string X.cmd.tg, .int .i64 X.cmd.n, .slice AH1 nH1 cH1, .int .i64 X.seq, .slice AH2 nH2 cH2, .bool X.same] _ EH.range Try.underlying50 sizeInst_impl2 ?_ ?_ ?_ ?_ ?_ ?_); (rfl); (rfl); (rfl); (rfl); (rfl)) | go_values | go_skip | go_guarded | go_step | go_upon | (simp only []; go_at_K))
    refine (ins_held X X _ _ _ _ _ _ 1 _ (M1.at_) (M2.at_ iddK (by omega)) hXs (by omega) (by omega)).mono ?_
    rintro e w8 ⟨rfl, hb8⟩
    have ES' := ES.keep hb8; clear ES; have ES := ES'; clear ES'
    have EG' := EG.keep hb8; clear EG; have EG := EG'; clear EG'
    have EH' := EH.keep hb8; clear EH; have EH := EH'; clear EH'
    have S1' := S1.keep hb8; clear S1; have S1 := S1'; clear S1'
    have S2' := S2.keep iddK hb8; clear S2; have S2 := S2'; clear S2'
    have M1' := M1.keep hb8; clear M1; have M1 := M1'; clear M1'
    have M2' := M2.keep iddK hb8; clear M2; have M2 := M2'; clear M2'
    have H1' := H1.keep hb8; clear H1; have H1 := H1'; clear H1'
    have H2' := H2.keep iddK hb8; clear H2; have H2 := H2'; clear H2'
    have hz8 := hb8.size
    have hB8 := bthen hB7 hb8
    go_wp2
    go_returns
    exact ⟨rfl, hB8⟩
  · have hge : (1048576 : Int) < (s.size : Int) := by omega
    go_enter Try.func6, Try.ntmps6
    go_wp2
    go_returns
    exact ⟨rfl, Below.refl _ _⟩
end
theorem fnExactReadInst_shape {H : Type} {enc : TypeId × Value → H} {W : World} {args : Array Value} {ds : List (DataW H)} {p : List MemPlace}
    (hA : DataW.TrodAll enc Try.prog W 0 (fun _ => true) true Try.f6.params.toList args.toList ds p) : ∃ x0, ds = [x0] := by
  obtain ⟨v0, d0, rfl, rfl, h0⟩ := trodAll_one hA
  exact ⟨_, rfl⟩

set_option maxRecDepth 100000 in
theorem fnExactReadInst_contract {H : Type} {enc : TypeId × Value → H} (W : World) (base : Nat) (args : Array Value) (ds : List (DataW H)) (p : List MemPlace)
    (hval : ∀ (j : Nat) t v, Try.f6.params[j]? = some t → args[j]? = some v → Value.okWide Try.prog W .any base t v)
    (hA : DataW.TrodAll enc Try.prog W 0 (fun _ => true) true Try.f6.params.toList args.toList ds p) :
    Calls Try.prog 6 args W fun e W' => e = .returned (.bool true) ∧ Below W.heap.size W W' := by
  obtain ⟨v0, d0, rfl, rfl, h0⟩ := trodAll_one hA
  obtain ⟨s0, rfl, _, _, hs0⟩ := Go.ChangeMaps.open_string Try.underlying9 (hval 0 9 v0 rfl rfl) h0
  exact fnExactReadInst_any s0 W hs0

set_option maxRecDepth 100000 in
theorem fnExactReadInst_lifted (os : Os) (started : os.Started) (H : Type) (enc : TypeId × Value → H) :
    ReturnsInHanded {} Try.checked os 6 .any (Rows.fnExactReadInstSpec.pre6 enc Try.prog Try.f6 Rows.fnExactReadInstRow.domain false) (Rows.fnExactReadInstSpec.post enc Try.prog Try.f6 false true false false) := by
  refine returnsInHanded_of_change (C := Try.checked) Try.own started (by kernel_rfl) Try.func6
    (ChangeSpec.witness6 (enc := enc) (C := Try.checked) false ⟨#[], #[.string .empty], []⟩ 8 (by kernel_rfl) (by kernel_rfl) (by kernel_rfl) (by kernel_rfl)) ?_
  intro W base args ds gs before hval0 hW _ _
  have hval : ∀ (j : Nat) t v, Try.f6.params[j]? = some t → args[j]? = some v → Value.okWide Try.prog W .any base t v := hval0
  have hW' := hW
  obtain ⟨p, q, hA0, hV, rfl, hfz, hnd⟩ := hW
  have hA : DataW.TrodAll enc Try.prog W 0 (fun _ => true) true Try.f6.params.toList args.toList ds p := hA0
  refine (fnExactReadInst_contract W base args ds p hval hA).mono fun e W' ⟨he, hb⟩ => ?_
  subst he
  have hds := fnExactReadInst_shape hA
  obtain ⟨hgs, _⟩ := trodVars_none hV
  subst hgs
  refine ⟨_, rfl, law_post (P := Try.prog) Try.laidOut (of_decide_eq_true (by kernel_rfl)) (by kernel_rfl) Try.underlying4 hW' rfl ?_ ?_ ?_ hb⟩
  all_goals (obtain ⟨x0, rfl⟩ := hds; rfl)

theorem fnExactReadInst_holds : Rows.FnExactReadInstSaid :=
  OpenClaim.holds_of_wide 6 Try.f6 rfl rfl rfl rfl rfl rfl rfl ⟨rfl, rfl, rfl, rfl, rfl⟩ rfl rfl rfl rfl rfl (by kernel_rfl) Try.func6 (by kernel_rfl)
    (of_decide_eq_true (by kernel_rfl)) (by unfold Func.isWrapper; first | (rw [if_pos (by decide +kernel)]; kernel_rfl) | (rw [if_neg (by decide +kernel)]; exact ⟨rfl, rfl⟩))
    (fun os started H enc _ => fnExactReadInst_lifted os started H enc)
end Go.Proofs.Ytdphdnllhmnelaa
