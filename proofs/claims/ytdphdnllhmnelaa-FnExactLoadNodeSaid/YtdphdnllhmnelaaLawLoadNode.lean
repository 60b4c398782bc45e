/- The law FnExactLoadNode holds: for every text the program's LoadNode answers what the reference's answers, and what it hands back is its own. Conditions: none. -/
import Derived.Test.YtdphdnllhmnelaaJ5
import Derived.Test.YtdphdnllhmnelaaJ14
import Derived.Test.YtdphdnllhmnelaaJ17
import Derived.Test.YtdphdnllhmnelaaJ8
import Derived.Test.YtdphdnllhmnelaaJ0
namespace Go.Proofs.Ytdphdnllhmnelaa
open Go.RowKit Go.ChangeShapes Go.WideShapes Go.ChangeAt Go.Deep Go.Joins
theorem strsSz8 {l : List ByteArray} (h : ∀ j, j < l.length → (sAt l j).size = 8) : strsSz l ≤ 9 * l.length := by
  have h1 := chL_size l
  have h2 := sum8 h
  unfold strsSz
  omega
theorem insOk_sz {x : Ins} (h : insOkB x = true) : insSz x ≤ 1000 := by
  have hb := insOk_bd h
  have hc := cmOk_bd hb.cmd
  have h1 := strsSz8 hc.c8
  have a := hc.s; have b := hc.nm; have c := hc.tg; have d := hc.ch; have e := hb.len
  unfold insSz cmSz iddsSz
  omega
theorem sum_le' {α : Type} (f : α → Nat) (c : Nat) : ∀ {l : List α}, (∀ y ∈ l, f y ≤ c) → (l.map f).sum ≤ c * l.length
  | [], _ => by simp
  | y :: l, h => by
    have h1 := sum_le' f c (l := l) (fun z hz => h z (List.mem_cons_of_mem _ hz))
    have h2 := h y (List.mem_cons_self ..)
    simp only [List.map_cons, List.sum_cons, List.length_cons, Nat.mul_add, Nat.mul_one]
    omega
theorem ldN_sz (s : ByteArray) : nodSz (ldN s) ≤ 16777216 := by
  by_cases h : ∃ x, ldOk x s
  · obtain ⟨x, hx⟩ := h
    rw [(ld_yes hx).1]
    obtain ⟨_, _, k5⟩ := nodOk_bd hx.2.1
    have h1 := inssOk_len k5
    have h2 := sum_le' insSz 1000 (l := x.insts) (fun y hy => insOk_sz (inssOk_mem k5 y hy))
    have h3 : leasSz x.leads = 0 := by rw [hx.1]; rfl
    unfold nodSz inssSz
    omega
  · rw [(ld_no (fun x hx => h ⟨x, hx⟩)).1]
    show 0 ≤ _
    omega
section
attribute [local irreducible] StrR IntR StrO IntO RowR RowO StrsAt IntsAt ldN ldNB
theorem sizeENode_impl2 : (Try.prog.info? 67).map (·.size) = some 4 := by kernel_rfl
set_option maxRecDepth 8000 in
set_option maxHeartbeats 8000000 in
theorem fnExactLoadNode_any (s : ByteArray) (w : World) (hs0 : s.size ≤ 9223372036854775807) :
    Calls Try.prog 8 #[.string s] w fun e w' => e = .returned (.bool true) ∧ Below w.heap.size w w' := by
  by_cases hsz : (s.size : Int) ≤ 1048576
  · have hge : ¬ ((1048576 : Int) < (s.size : Int)) := by omega
    obtain ⟨X, hX⟩ : ∃ X, ldN s = X := ⟨_, rfl⟩
    obtain ⟨q, hq⟩ : ∃ q, ldNB s = q := ⟨_, rfl⟩
    have hXs : nodSz X ≤ 16777216 := by rw [← hX]; exact ldN_sz s
    have htop := nod_top X
    have HX := Lib.hid hX; have HQ := Lib.hid hq; clear hX hq
    go_enter Try.func8, Try.ntmps8
    go_wp2_with fail
    refine (loadNode_spec s _ (by omega)).mono ?_
    rintro e w1 ⟨⟨AS1, nS1, cS1, AS2, nS2, cS2, fS1, fS2, rfl, S1, S2, hNS, hFS⟩, hb1⟩
    have hz1 := hb1.size
    have hB1 := hb1
    rw [HX.out] at S1 S2 ⊢
    rw [HQ.out]
    have lS1 := S1.lt insK
    have lS2 := S2.lt leaK
    unfold nodV
    obtain ⟨bS, hbS⟩ : ∃ b, w1.heap.size = b := ⟨_, rfl⟩
    have al := (Below.refl w1.heap.size w1).alloc (Nat.le_refl _) (.cells #[.int .i64 X.me, .int .i64 X.next, .slice AS1 nS1 cS1, .slice AS2 nS2 cS2] 67)
    have ES := BoxL.new w1 [.int .i64 X.me, .int .i64 X.next, .slice AS1 nS1 cS1, .slice AS2 nS2 cS2] 67
    obtain ⟨W1, hW1⟩ : ∃ W, W = w1.alloc (.cells #[.int .i64 X.me, .int .i64 X.next, .slice AS1 nS1 cS1, .slice AS2 nS2 cS2] 67) := ⟨_, rfl⟩
    rw [← hW1] at al ES
    simp only [hbS] at ES
    go_wp2_with fail
    rw [← hW1]
    try simp only [hbS]
    have S1' := S1.keep insK al; clear S1; have S1 := S1'; clear S1'
    have S2' := S2.keep leaK al; clear S2; have S2 := S2'; clear S2'
    have hB1a := bthen hB1 al
    have hz1a := al.size
    have hlbS := ES.lt
    refine (loadNode_impl s _ (by omega)).mono ?_
    rintro e w2 ⟨⟨AG1, nG1, cG1, AG2, nG2, cG2, fG1, fG2, rfl, G1, G2, hNG, hFG⟩, hb2⟩
    have ES' := ES.keep hb2; clear ES; have ES := ES'; clear ES'
    have S1' := S1.keep insK hb2; clear S1; have S1 := S1'; clear S1'
    have S2' := S2.keep leaK hb2; clear S2; have S2 := S2'; clear S2'
    have hz2 := hb2.size
    have hB2 := bthen hB1a hb2
    rw [HX.out] at G1 G2 ⊢
    rw [HQ.out]
    have lG1 := G1.lt insK
    have lG2 := G2.lt leaK
    unfold nodV
    obtain ⟨bG, hbG⟩ : ∃ b, w2.heap.size = b := ⟨_, rfl⟩
    have al := (Below.refl w2.heap.size w2).alloc (Nat.le_refl _) (.cells #[.int .i64 X.me, .int .i64 X.next, .slice AG1 nG1 cG1, .slice AG2 nG2 cG2] 67)
    have EG := BoxL.new w2 [.int .i64 X.me, .int .i64 X.next, .slice AG1 nG1 cG1, .slice AG2 nG2 cG2] 67
    obtain ⟨W2, hW2⟩ : ∃ W, W = w2.alloc (.cells #[.int .i64 X.me, .int .i64 X.next, .slice AG1 nG1 cG1, .slice AG2 nG2 cG2] 67) := ⟨_, rfl⟩
    rw [← hW2] at al EG
    simp only [hbG] at EG
    have hWr : (w2.alloc (.cells #[.int .i64 X.me, .int .i64 X.next, .slice AG1 nG1 cG1, .slice AG2 nG2 cG2] 67)).rangeAt bG 0 [.int .i64 X.me, .int .i64 X.next, .slice AG1 nG1 cG1, .slice AG2 nG2 cG2] := by rw [← hW2]; exact EG.range
    have hWs : (w2.alloc (.cells #[.int .i64 X.me, .int .i64 X.next, .slice AG1 nG1 cG1, .slice AG2 nG2 cG2] 67)).rangeAt bS 0 [.int .i64 X.me, .int .i64 X.next, .slice AS1 nS1 cS1, .slice AS2 nS2 cS2] := by rw [← hW2]; exact (ES.keep al).range
    repeat (first | ((with_reducible refine wpList_load_o 67 (.tmp 5) _ 0 [.int .i64 X.me, .int .i64 X.next, .slice AG1 nG1 cG1, .slice AG2 nG2 cG2] _ (by rw [hbG]; exact hWr) Try.underlying67 sizeENode_impl2 ?_ ?_ ?_ ?_ ?_ ?_); (rfl); (rfl); (rfl); (rfl); (rfl)) | ((with_reducible refine wpList_load_o 67 (.tmp 3) bS 0 [.int .i64 X.me, .int .i64 X.next, .slice AS1 nS1 cS1, .slice AS2 nS2 cS2] _ hWs Try.underlying67 sizeENode_impl2 ?_ ?_ ?_ ?_ ?_ ?_); (rfl); (rfl); (rfl); (rfl); (rfl)) | go_values | go_skip | go_guarded | go_step | go_upon | (simp only []; go_at_K))
    clear hWr hWs
    rw [← hW2]
    try simp only [hbG]
    have ES' := ES.keep al; clear ES; have ES := ES'; clear ES'
    have S1' := S1.keep insK al; clear S1; have S1 := S1'; clear S1'
    have S2' := S2.keep leaK al; clear S2; have S2 := S2'; clear S2'
    have G1' := G1.keep insK al; clear G1; have G1 := G1'; clear G1'
    have G2' := G2.keep leaK al; clear G2; have G2 := G2'; clear G2'
    have hB2a := bthen hB2 al
    have hz2a := al.size
    have hlbG := EG.lt
    refine (nod_eq X _ _ _ _ _ _ _ _ _ _ _ _ _ (G1.at_ insK (by omega)) (G2.at_ leaK (by omega)) (S1.at_ insK (by omega)) (S2.at_ leaK (by omega)) hXs).mono ?_
    rintro e w3 ⟨rfl, hb3⟩
    have ES' := ES.keep hb3; clear ES; have ES := ES'; clear ES'
    have EG' := EG.keep hb3; clear EG; have EG := EG'; clear EG'
    have S1' := S1.keep insK hb3; clear S1; have S1 := S1'; clear S1'
    have S2' := S2.keep leaK hb3; clear S2; have S2 := S2'; clear S2'
    have G1' := G1.keep insK hb3; clear G1; have G1 := G1'; clear G1'
    have G2' := G2.keep leaK hb3; clear G2; have G2 := G2'; clear G2'
    have hz3 := hb3.size
    have hB3 := bthen hB2a hb3
    repeat (first | ((with_reducible refine wpList_load_o 67 (.tmp 3) (bS) 0 [.int .i64 X.me, .int .i64 X.next, .slice AS1 nS1 cS1, .slice AS2 nS2 cS2] _ ES.range Try.underlying67 sizeENode_impl2 ?_ ?_ ?_ ?_ ?_ ?_); (rfl); (rfl); (rfl); (rfl); (rfl)) | ((with_reducible refine wpList_load_o 67 (.tmp 5) (bG) 0 [.int .i64 X.me, .int .i64 X.next, .slice AG1 nG1 cG1, .slice AG2 nG2 cG2] _ EG.range Try.underlying67 sizeENode_impl2 ?_ ?_ ?_ ?_ ?_ ?_); (rfl); (rfl); (rfl); (rfl); (rfl)) | go_values | go_skip | go_guarded | go_step | go_upon | (simp only []; go_at_K))
    refine (nod_mark X _ _ _ _ _ _ _ _ 1 _ G1 G2 hNG hXs (by omega) (by omega)).mono ?_
    rintro e w4 ⟨rfl, M1, M2, hc⟩
    have hS : ∀ b, b ∈ fG1 ++ fG2 → bS + 1 ≤ b ∧ b < bG := fun b hb => by have := hFG b hb; omega
    have ES' := ES.ch hc (fun hb => by have := hS _ hb; omega); have EG' := EG.ch hc (fun hb => by have := hS _ hb; omega)
    clear ES EG; have ES := ES'; have EG := EG'; clear ES' EG'
    have S1' := S1.ch insK hc (fun b hb h2 => by have h1 := lS1 b hb; have := hS _ h2; omega); clear S1; have S1 := S1'; clear S1'
    have S2' := S2.ch leaK hc (fun b hb h2 => by have h1 := lS2 b hb; have := hS _ h2; omega); clear S2; have S2 := S2'; clear S2'
    clear G1 G2
    have hz4 := hc.size
    have hB4 := hc.belowB hB3 (by have := (hB3).size; omega) (fun k hk => by have := hS _ hk; omega)
    repeat (first | ((with_reducible refine wpList_load_o 67 (.tmp 3) (bS) 0 [.int .i64 X.me, .int .i64 X.next, .slice AS1 nS1 cS1, .slice AS2 nS2 cS2] _ ES.range Try.underlying67 sizeENode_impl2 ?_ ?_ ?_ ?_ ?_ ?_); (rfl); (rfl); (rfl); (rfl); (rfl)) | ((with_reducible refine wpList_load_o 67 (.tmp 5) (bG) 0 [.int .i64 X.me, .int .i64 X.next, .slice AG1 nG1 cG1, .slice AG2 nG2 cG2] _ EG.range Try.underlying67 sizeENode_impl2 ?_ ?_ ?_ ?_ ?_ ?_); (rfl); (rfl); (rfl); (rfl); (rfl)) | go_values | go_skip | go_guarded | go_step | go_upon | (simp only []; go_at_K))
    refine (nod_held X X _ _ _ _ _ _ 1 _ (M1.at_ insK (by omega)) (M2.at_ leaK (by omega)) hXs (by omega) (by omega)).mono ?_
    rintro e w5 ⟨rfl, hb5⟩
    have ES' := ES.keep hb5; clear ES; have ES := ES'; clear ES'
    have EG' := EG.keep hb5; clear EG; have EG := EG'; clear EG'
    have S1' := S1.keep insK hb5; clear S1; have S1 := S1'; clear S1'
    have S2' := S2.keep leaK hb5; clear S2; have S2 := S2'; clear S2'
    have M1' := M1.keep insK hb5; clear M1; have M1 := M1'; clear M1'
    have M2' := M2.keep leaK hb5; clear M2; have M2 := M2'; clear M2'
    have hz5 := hb5.size
    have hB5 := bthen hB4 hb5
    have g1 : ¬ (1 + ((nodTop X : Nat) : Int) < 0) := by omega
    repeat (first | ((with_reducible refine wpList_load_o 67 (.tmp 3) (bS) 0 [.int .i64 X.me, .int .i64 X.next, .slice AS1 nS1 cS1, .slice AS2 nS2 cS2] _ ES.range Try.underlying67 sizeENode_impl2 ?_ ?_ ?_ ?_ ?_ ?_); (rfl); (rfl); (rfl); (rfl); (rfl)) | ((with_reducible refine wpList_load_o 67 (.tmp 5) (bG) 0 [.int .i64 X.me, .int .i64 X.next, .slice AG1 nG1 cG1, .slice AG2 nG2 cG2] _ EG.range Try.underlying67 sizeENode_impl2 ?_ ?_ ?_ ?_ ?_ ?_); (rfl); (rfl); (rfl); (rfl); (rfl)) | go_values | go_skip | go_guarded | go_step | go_upon | (simp only []; go_at_K))
    refine (loadNode_impl s _ (by omega)).mono ?_
    rintro e w6 ⟨⟨AH1, nH1, cH1, AH2, nH2, cH2, fH1, fH2, rfl, H1, H2, hNH, hFH⟩, hb6⟩
    have ES' := ES.keep hb6; clear ES; have ES := ES'; clear ES'
    have EG' := EG.keep hb6; clear EG; have EG := EG'; clear EG'
    have S1' := S1.keep insK hb6; clear S1; have S1 := S1'; clear S1'
    have S2' := S2.keep leaK hb6; clear S2; have S2 := S2'; clear S2'
    have M1' := M1.keep insK hb6; clear M1; have M1 := M1'; clear M1'
    have M2' := M2.keep leaK hb6; clear M2; have M2 := M2'; clear M2'
    have hz6 := hb6.size
    have hB6 := bthen hB5 hb6
    rw [HX.out] at H1 H2 ⊢
    rw [HQ.out]
    have lH1 := H1.lt insK
    have lH2 := H2.lt leaK
    unfold nodV
    obtain ⟨bH, hbH⟩ : ∃ b, w6.heap.size = b := ⟨_, rfl⟩
    have al := (Below.refl w6.heap.size w6).alloc (Nat.le_refl _) (.cells #[.int .i64 X.me, .int .i64 X.next, .slice AH1 nH1 cH1, .slice AH2 nH2 cH2] 67)
    have EH := BoxL.new w6 [.int .i64 X.me, .int .i64 X.next, .slice AH1 nH1 cH1, .slice AH2 nH2 cH2] 67
    obtain ⟨W6, hW6⟩ : ∃ W, W = w6.alloc (.cells #[.int .i64 X.me, .int .i64 X.next, .slice AH1 nH1 cH1, .slice AH2 nH2 cH2] 67) := ⟨_, rfl⟩
    rw [← hW6] at al EH
    simp only [hbH] at EH
    have hWr : (w6.alloc (.cells #[.int .i64 X.me, .int .i64 X.next, .slice AH1 nH1 cH1, .slice AH2 nH2 cH2] 67)).rangeAt bH 0 [.int .i64 X.me, .int .i64 X.next, .slice AH1 nH1 cH1, .slice AH2 nH2 cH2] := by rw [← hW6]; exact EH.range
    have hWs : (w6.alloc (.cells #[.int .i64 X.me, .int .i64 X.next, .slice AH1 nH1 cH1, .slice AH2 nH2 cH2] 67)).rangeAt bS 0 [.int .i64 X.me, .int .i64 X.next, .slice AS1 nS1 cS1, .slice AS2 nS2 cS2] := by rw [← hW6]; exact (ES.keep al).range
    repeat (first | ((with_reducible refine wpList_load_o 67 (.tmp 9) _ 0 [.int .i64 X.me, .int .i64 X.next, .slice AH1 nH1 cH1, .slice AH2 nH2 cH2] _ (by rw [hbH]; exact hWr) Try.underlying67 sizeENode_impl2 ?_ ?_ ?_ ?_ ?_ ?_); (rfl); (rfl); (rfl); (rfl); (rfl)) | ((with_reducible refine wpList_load_o 67 (.tmp 3) bS 0 [.int .i64 X.me, .int .i64 X.next, .slice AS1 nS1 cS1, .slice AS2 nS2 cS2] _ hWs Try.underlying67 sizeENode_impl2 ?_ ?_ ?_ ?_ ?_ ?_); (rfl); (rfl); (rfl); (rfl); (rfl)) | go_values | go_skip | go_guarded | go_step | go_upon | (simp only []; go_at_K))
    clear hWr hWs
    rw [← hW6]
    try simp only [hbH]
    have ES' := ES.keep al; clear ES; have ES := ES'; clear ES'
    have EG' := EG.keep al; clear EG; have EG := EG'; clear EG'
    have S1' := S1.keep insK al; clear S1; have S1 := S1'; clear S1'
    have S2' := S2.keep leaK al; clear S2; have S2 := S2'; clear S2'
    have M1' := M1.keep insK al; clear M1; have M1 := M1'; clear M1'
    have M2' := M2.keep leaK al; clear M2; have M2 := M2'; clear M2'
    have H1' := H1.keep insK al; clear H1; have H1 := H1'; clear H1'
    have H2' := H2.keep leaK al; clear H2; have H2 := H2'; clear H2'
    have hB6a := bthen hB6 al
    have hz6a := al.size
    have hlbH := EH.lt
    refine (nod_eq X _ _ _ _ _ _ _ _ _ _ _ _ _ (H1.at_ insK (by omega)) (H2.at_ leaK (by omega)) (S1.at_ insK (by omega)) (S2.at_ leaK (by omega)) hXs).mono ?_
    rintro e w7 ⟨rfl, hb7⟩
    have ES' := ES.keep hb7; clear ES; have ES := ES'; clear ES'
    have EG' := EG.keep hb7; clear EG; have EG := EG'; clear EG'
    have EH' := EH.keep hb7; clear EH; have EH := EH'; clear EH'
    have S1' := S1.keep insK hb7; clear S1; have S1 := S1'; clear S1'
    have S2' := S2.keep leaK hb7; clear S2; have S2 := S2'; clear S2'
    have M1' := M1.keep insK hb7; clear M1; have M1 := M1'; clear M1'
    have M2' := M2.keep leaK hb7; clear M2; have M2 := M2'; clear M2'
    have H1' := H1.keep insK hb7; clear H1; have H1 := H1'; clear H1'
    have H2' := H2.keep leaK hb7; clear H2; have H2 := H2'; clear H2'
    have hz7 := hb7.size
    have hB7 := bthen hB6a hb7
    repeat (first | ((with_reducible refine wpList_load_o 67 (.tmp 3) (bS) 0 [.int .i64 X.me, .int .i64 X.next, .slice AS1 nS1 cS1, .slice AS2 nS2 cS2] _ ES.range Try.underlying67 sizeENode_impl2 ?_ ?_ ?_ ?_ ?_ ?_); (rfl); (rfl); (rfl); (rfl); (rfl)) | ((with_reducible refine wpList_load_o 67 (.tmp 5) (bG) 0 [.int .i64 X.me, .int .i64 X.next, .slice AG1 nG1 cG1, .slice AG2 nG2 cG2] _ EG.range Try.underlying67 sizeENode_impl2 ?_ ?_ ?_ ?_ ?_ ?_); (rfl); (rfl); (rfl); (rfl); (rfl)) | ((with_reducible refine wpList_load_o 67 (.tmp 9) (bH) 0 [.int .i64 X.me, .int .i64 X.next, .slice AH1 nH1 cH1, .slice AH2 nH2 cH2] _ EH.range Try.underlying67 sizeENode_impl2 ?_ ?_ ?_ ?_ ?_ ?_); (rfl); (rfl); (rfl); (rfl); (rfl)) | go_values | go_skip | go_guarded | go_step | go_upon | (simp only []; go_at_K))
    refine (nod_held X X _ _ _ _ _ _ 1 _ (M1.at_ insK (by omega)) (M2.at_ leaK (by omega)) hXs (by omega) (by omega)).mono ?_
    rintro e w8 ⟨rfl, hb8⟩
    have ES' := ES.keep hb8; clear ES; have ES := ES'; clear ES'
    have EG' := EG.keep hb8; clear EG; have EG := EG'; clear EG'
    have EH' := EH.keep hb8; clear EH; have EH := EH'; clear EH'
    have S1' := S1.keep insK hb8; clear S1; have S1 := S1'; clear S1'
    have S2' := S2.keep leaK hb8; clear S2; have S2 := S2'; clear S2'
    have M1' := M1.keep insK hb8; clear M1; have M1 := M1'; clear M1'
    have M2' := M2.keep leaK hb8; clear M2; have M2 := M2'; clear M2'
    have H1' := H1.keep insK hb8; clear H1; have H1 := H1'; clear H1'
    have H2' := H2.keep leaK hb8; clear H2; have H2 := H2'; clear H2'
    have hz8 := hb8.size
    have hB8 := bthen hB7 hb8
    go_wp2
    go_returns
    exact ⟨rfl, hB8⟩
  · have hge : (1048576 : Int) < (s.size : Int) := by omega
    go_enter Try.func8, Try.ntmps8
    go_wp2
    go_returns
    exact ⟨rfl, Below.refl _ _⟩
end
theorem fnExactLoadNode_shape {H : Type} {enc : TypeId × Value → H} {W : World} {args : Array Value} {ds : List (DataW H)} {p : List MemPlace}
    (hA : DataW.TrodAll enc Try.prog W 0 (fun _ => true) true Try.f8.params.toList args.toList ds p) : ∃ x0, ds = [x0] := by
  obtain ⟨v0, d0, rfl, rfl, h0⟩ := trodAll_one hA
  exact ⟨_, rfl⟩

set_option maxRecDepth 100000 in
theorem fnExactLoadNode_contract {H : Type} {enc : TypeId × Value → H} (W : World) (base : Nat) (args : Array Value) (ds : List (DataW H)) (p : List MemPlace)
    (hval : ∀ (j : Nat) t v, Try.f8.params[j]? = some t → args[j]? = some v → Value.okWide Try.prog W .any base t v)
    (hA : DataW.TrodAll enc Try.prog W 0 (fun _ => true) true Try.f8.params.toList args.toList ds p) :
    Calls Try.prog 8 args W fun e W' => e = .returned (.bool true) ∧ Below W.heap.size W W' := by
  obtain ⟨v0, d0, rfl, rfl, h0⟩ := trodAll_one hA
  obtain ⟨s0, rfl, _, _, hs0⟩ := Go.ChangeMaps.open_string Try.underlying9 (hval 0 9 v0 rfl rfl) h0
  exact fnExactLoadNode_any s0 W hs0

set_option maxRecDepth 100000 in
theorem fnExactLoadNode_lifted (os : Os) (started : os.Started) (H : Type) (enc : TypeId × Value → H) :
    ReturnsInHanded {} Try.checked os 8 .any (Rows.fnExactLoadNodeSpec.pre6 enc Try.prog Try.f8 Rows.fnExactLoadNodeRow.domain false) (Rows.fnExactLoadNodeSpec.post enc Try.prog Try.f8 false true false false) := by
  refine returnsInHanded_of_change (C := Try.checked) Try.own started (by kernel_rfl) Try.func8
    (ChangeSpec.witness6 (enc := enc) (C := Try.checked) false ⟨#[], #[.string .empty], []⟩ 8 (by kernel_rfl) (by kernel_rfl) (by kernel_rfl) (by kernel_rfl)) ?_
  intro W base args ds gs before hval0 hW _ _
  have hval : ∀ (j : Nat) t v, Try.f8.params[j]? = some t → args[j]? = some v → Value.okWide Try.prog W .any base t v := hval0
  have hW' := hW
  obtain ⟨p, q, hA0, hV, rfl, hfz, hnd⟩ := hW
  have hA : DataW.TrodAll enc Try.prog W 0 (fun _ => true) true Try.f8.params.toList args.toList ds p := hA0
  refine (fnExactLoadNode_contract W base args ds p hval hA).mono fun e W' ⟨he, hb⟩ => ?_
  subst he
  have hds := fnExactLoadNode_shape hA
  obtain ⟨hgs, _⟩ := trodVars_none hV
  subst hgs
  refine ⟨_, rfl, law_post (P := Try.prog) Try.laidOut (of_decide_eq_true (by kernel_rfl)) (by kernel_rfl) Try.underlying4 hW' rfl ?_ ?_ ?_ hb⟩
  all_goals (obtain ⟨x0, rfl⟩ := hds; rfl)

theorem fnExactLoadNode_holds : Rows.FnExactLoadNodeSaid :=
  OpenClaim.holds_of_wide 8 Try.f8 rfl rfl rfl rfl rfl rfl rfl ⟨rfl, rfl, rfl, rfl, rfl⟩ rfl rfl rfl rfl rfl (by kernel_rfl) Try.func8 (by kernel_rfl)
    (of_decide_eq_true (by kernel_rfl)) (by unfold Func.isWrapper; first | (rw [if_pos (by decide +kernel)]; kernel_rfl) | (rw [if_neg (by decide +kernel)]; exact ⟨rfl, rfl⟩))
    (fun os started H enc _ => fnExactLoadNode_lifted os started H enc)
end Go.Proofs.Ytdphdnllhmnelaa
