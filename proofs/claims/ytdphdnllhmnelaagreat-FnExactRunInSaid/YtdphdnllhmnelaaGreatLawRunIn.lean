/- The law FnExactRunIn holds: for all commands and all orders the program's RunIn answers what the reference's answers, changes none of its arguments, and what it hands back is its own. Conditions: none. -/
import Derived.Test.YtdphdnllhmnelaaGreatJ36
import Derived.Test.YtdphdnllhmnelaaGreatJ25
import Derived.Test.YtdphdnllhmnelaaGreatJ2
import Derived.Test.YtdphdnllhmnelaaGreatJ8
namespace Go.Proofs.YtdphdnllhmnelaaGreat
open Go.RowKit Go.ChangeShapes Go.WideShapes Go.ChangeAt Go.Deep Go.Joins
theorem RunOut.out {s : Sta} {w w' : World} {e : Ending} (h : RunOut s w e w') : ∃ B1 m1 d1 B2 m2 d2 f1 f2, e = .returned (staV s (.slice B1 m1 d1) (.slice B2 m2 d2)) ∧ RowO cstF 165 2 f1 w' B1 m1 d1 s.cat.sets ∧ RowO saiF 114 3 f2 w' B2 m2 d2 s.said ∧ (f1 ++ f2).Nodup ∧ (∀ b ∈ f1 ++ f2, w.heap.size ≤ b) ∧ Below w.heap.size w w' := h
theorem runL_sz (l : List Cm) (o : List Int) : staSz (runL l o) ≤ 100000 := staBd_sz (stPlay_bd _ staBd_nil)
theorem cms_bd {l : List Cm} (h : cmsB l) : ∀ m ∈ l, cmB m := h.2
section
attribute [local irreducible] StrR IntR StrO IntO RowR RowO StrsAt IntsAt runL RunOut
set_option maxRecDepth 8000 in
set_option maxHeartbeats 16000000 in
theorem fnExactRunIn_any (A0 : Option Addr) (n0 c0 : Nat) (l0 : List Cm) (A1 : Option Addr) (n1 c1 : Nat) (l1 : List Int) (w : World) (h0 : CmsOk w A0 n0 c0 l0) (h1 : IntsOk w A1 n1 l1) :
    Calls Tryz.prog 3 #[.slice A0 n0 c0, .slice A1 n1 c1] w fun e w' => e = .returned (.bool true) ∧ Below w.heap.size w w' := by
  by_cases hlen : (n1 : Int) > 1048576
  · go_enter Tryz.func3, Tryz.ntmps3
    go_wp2
    go_returns
    exact ⟨rfl, Below.refl _ _⟩
  by_cases hsz : ((cmsSz l0 : Nat) : Int) ≤ 1048576
  rotate_left
  · have HR := Lib.hid (szR_no (left := 1048576) (Int.not_le.1 hsz))
    go_enter Tryz.func3, Tryz.ntmps3
    go_wp2_with fail
    refine (cmsW_sz l0 A0 n0 c0 _ w h0 (by omega) (by omega)).mono ?_
    rintro e w1 ⟨rfl, hb1⟩; rw [HR.out]
    go_wp2
    go_returns
    exact ⟨rfl, hb1⟩
  have HR := Lib.hid (szR_yes (left := 1048576) hsz)
  have hge : ¬ ((1048576 : Int) - ((cmsSz l0 : Nat) : Int) < 0) := by omega
  have hsn : cmsSz l0 ≤ 1048576 := by omega
  have hin1 : intsSz l1 ≤ 1048576 := by have h5 := h1.at_; unfold IntsAt at h5; have := h5.1; unfold intsSz; omega
  have hn1 : n1 ≤ 1048576 := by omega
  have hn0 : n0 ≤ 1048576 := by have h5 := h0.at_.len; unfold cmsSz at hsn; omega
  have hbd := cms_bd h0.bd
  obtain ⟨X, hX⟩ : ∃ X, runL l0 l1 = X := ⟨_, rfl⟩
  have hXs : staSz X ≤ 100000 := by rw [← hX]; exact runL_sz l0 l1
  have htop := sta_top X
  have hc0 := cmsW_cnt l0
  have hc1 := ints_cnt l1
  have HX := Lib.hid hX; clear hX
  have HB := Below.refl w.heap.size w
  go_enter Tryz.func3, Tryz.ntmps3
  go_wp2_with fail
  refine (cmsW_sz l0 A0 n0 c0 _ w h0 (by omega) (by omega)).mono ?_
  rintro e w1 ⟨rfl, hb1⟩
  have HB_ := bthen HB hb1; clear HB; have HB := HB_; clear HB_
  have hz1 := hb1.size
  clear hb1
  rw [HR.out]
  go_wp2_with fail
  refine (cmsW_to l0 _ _ _ _ (h0.at_.keep HB) hsn).mono ?_
  rintro e w2 ⟨AP, nP, cP, rfl, P, hb2⟩
  have HB_ := bthen HB hb2; clear HB; have HB := HB_; clear HB_
  have hz2 := hb2.size
  clear hb2
  go_wp2_with fail
  refine (ints_to _ _ _ l1 _ (h1.at_.keep HB) hin1).mono ?_
  rintro e w3 ⟨AQ, nQ, cQ, rfl, Q, hb3⟩
  have P_ := P.keep hb3; clear P; have P := P_; clear P_
  have HB_ := bthen HB hb3; clear HB; have HB := HB_; clear HB_
  have hz3 := hb3.size
  clear hb3
  go_wp2_with fail
  refine (runIn_spec l0 l1 _ _ _ _ _ _ _ P.at_ Q.at_ (by have h5 := P.at_.len; have h6 := h0.at_.len; omega) (by have h5 := Q.at_; unfold IntsAt at h5; have h6 := h1.at_; unfold IntsAt at h6; have := h5.1; have := h6.1; omega) hbd).mono ?_
  intro e w4 hout
  obtain ⟨AS1, nS1, cS1, AS2, nS2, cS2, fS1, fS2, rfl, S1, S2, hNS, hFS, hb4⟩ := hout.out
  clear hout
  rw [HX.out] at S1 S2 ⊢
  have P_ := P.keep hb4; clear P; have P := P_; clear P_
  have Q_ := Q.keep hb4; clear Q; have Q := Q_; clear Q_
  have HB_ := bthen HB hb4; clear HB; have HB := HB_; clear HB_
  have hz4 := hb4.size
  clear hb4
  unfold staV
  obtain ⟨bS, hbS⟩ : ∃ b, w4.heap.size = b := ⟨_, rfl⟩
  have ltS1 := S1.lt cstK; have ltS2 := S2.lt saiK
  have FLS : ∀ b ∈ fS1 ++ fS2, b < w4.heap.size := fun b hb => by rcases List.mem_append.1 hb with h5 | h5; (exact ltS1 b h5); (exact ltS2 b h5)
  have al := (Below.refl w4.heap.size w4).alloc (Nat.le_refl _) (.cells #[.slice AS1 nS1 cS1, .slice AS2 nS2 cS2] 30)
  have ES := BoxL.new w4 [.slice AS1 nS1 cS1, .slice AS2 nS2 cS2] 30
  have eES0 := ES.cell 0 _ rfl; have eES1 := ES.cell 1 _ rfl
  go_wp2_with fail
  clear eES0 eES1
  obtain ⟨W4, hW4⟩ : ∃ W, W = w4.alloc (.cells #[.slice AS1 nS1 cS1, .slice AS2 nS2 cS2] 30) := ⟨_, rfl⟩
  rw [← hW4] at al ES ⊢
  simp only [hbS] at ES FLS ⊢
  have P_ := P.keep al; clear P; have P := P_; clear P_
  have Q_ := Q.keep al; clear Q; have Q := Q_; clear Q_
  have S1_ := S1.keep cstK al; clear S1; have S1 := S1_; clear S1_
  have S2_ := S2.keep saiK al; clear S2; have S2 := S2_; clear S2_
  have HB_ := bthen HB al; clear HB; have HB := HB_; clear HB_
  have hz4a := al.size
  rw [hbS] at hz4 hz4a
  clear al hW4 hbS ltS1 ltS2
  have hlES := ES.lt
  have SR := staO_read S1 S2
  clear S1 S2
  obtain ⟨wS, hwS⟩ : ∃ wS, wS = W4 := ⟨_, rfl⟩
  rw [← hwS] at SR
  have HS : Below wS.heap.size wS W4 := by rw [hwS]; exact Below.refl _ _
  have hzS : wS.heap.size = W4.heap.size := by rw [hwS]
  have hSb : bS < wS.heap.size := by rw [hwS]; exact hlES
  clear hwS
  refine (cmsW_to l0 _ _ _ _ (h0.at_.keep HB) hsn).mono ?_
  rintro e w5 ⟨AU, nU, cU, rfl, U, hb5⟩
  have ES_ := ES.keep hb5; clear ES; have ES := ES_; clear ES_
  have HB_ := bthen HB hb5; clear HB; have HB := HB_; clear HB_
  have HS_ := bthen HS hb5; clear HS; have HS := HS_; clear HS_
  have hz5 := hb5.size
  clear hb5
  go_wp2_with fail
  refine (ints_to _ _ _ l1 _ (h1.at_.keep HB) hin1).mono ?_
  rintro e w6 ⟨AV, nV, cV, rfl, V, hb6⟩
  have ES_ := ES.keep hb6; clear ES; have ES := ES_; clear ES_
  have U_ := U.keep hb6; clear U; have U := U_; clear U_
  have HB_ := bthen HB hb6; clear HB; have HB := HB_; clear HB_
  have HS_ := bthen HS hb6; clear HS; have HS := HS_; clear HS_
  have hz6 := hb6.size
  clear hb6
  go_wp2_with fail
  refine (runIn_impl l0 l1 _ _ _ _ _ _ _ U.at_ V.at_ (by have h5 := U.at_.len; have h6 := h0.at_.len; omega) (by have h5 := V.at_; unfold IntsAt at h5; have h6 := h1.at_; unfold IntsAt at h6; have := h5.1; have := h6.1; omega) hbd).mono ?_
  intro e w7 hout
  obtain ⟨AG1, nG1, cG1, AG2, nG2, cG2, fG1, fG2, rfl, G1, G2, hNG, hFG, hb7⟩ := hout.out
  clear hout
  rw [HX.out] at G1 G2 ⊢
  have ES_ := ES.keep hb7; clear ES; have ES := ES_; clear ES_
  have U_ := U.keep hb7; clear U; have U := U_; clear U_
  have V_ := V.keep hb7; clear V; have V := V_; clear V_
  have HB_ := bthen HB hb7; clear HB; have HB := HB_; clear HB_
  have HS_ := bthen HS hb7; clear HS; have HS := HS_; clear HS_
  have hz7 := hb7.size
  clear hb7
  unfold staV
  obtain ⟨bG, hbG⟩ : ∃ b, w7.heap.size = b := ⟨_, rfl⟩
  have ltG1 := G1.lt cstK; have ltG2 := G2.lt saiK
  have FLG : ∀ b ∈ fG1 ++ fG2, b < w7.heap.size := fun b hb => by rcases List.mem_append.1 hb with h5 | h5; (exact ltG1 b h5); (exact ltG2 b h5)
  have al := (Below.refl w7.heap.size w7).alloc (Nat.le_refl _) (.cells #[.slice AG1 nG1 cG1, .slice AG2 nG2 cG2] 30)
  have EG := BoxL.new w7 [.slice AG1 nG1 cG1, .slice AG2 nG2 cG2] 30
  have cES0 := ES.cell 0 _ rfl; have cES1 := ES.cell 1 _ rfl; have cESl := ES.lt
  have dES0 := keep_cell al cES0; have dES1 := keep_cell al cES1
  have eEG0 := EG.cell 0 _ rfl; have eEG1 := EG.cell 1 _ rfl
  go_wp2_with fail
  clear eEG0 eEG1 dES0 dES1
  clear cES0 cES1 cESl
  obtain ⟨W7, hW7⟩ : ∃ W, W = w7.alloc (.cells #[.slice AG1 nG1 cG1, .slice AG2 nG2 cG2] 30) := ⟨_, rfl⟩
  rw [← hW7] at al EG ⊢
  simp only [hbG] at EG FLG ⊢
  have ES_ := ES.keep al; clear ES; have ES := ES_; clear ES_
  have U_ := U.keep al; clear U; have U := U_; clear U_
  have V_ := V.keep al; clear V; have V := V_; clear V_
  have G1_ := G1.keep cstK al; clear G1; have G1 := G1_; clear G1_
  have G2_ := G2.keep saiK al; clear G2; have G2 := G2_; clear G2_
  have HB_ := bthen HB al; clear HB; have HB := HB_; clear HB_
  have HS_ := bthen HS al; clear HS; have HS := HS_; clear HS_
  have hz7a := al.size
  rw [hbG] at hz7 hz7a
  clear al hW7 hbG ltG1 ltG2
  have hlEG := EG.lt
  refine (sta_eq X _ _ _ _ _ _ _ _ _ _ _ _ _ (G1.at_ cstK (by omega)) (G2.at_ saiK (by omega)) (SR.1.keep cstK HS) (SR.2.keep saiK HS) (by omega)).mono ?_
  rintro e w8 ⟨rfl, hb8⟩
  have ES_ := ES.keep hb8; clear ES; have ES := ES_; clear ES_
  have U_ := U.keep hb8; clear U; have U := U_; clear U_
  have V_ := V.keep hb8; clear V; have V := V_; clear V_
  have G1_ := G1.keep cstK hb8; clear G1; have G1 := G1_; clear G1_
  have G2_ := G2.keep saiK hb8; clear G2; have G2 := G2_; clear G2_
  have EG_ := EG.keep hb8; clear EG; have EG := EG_; clear EG_
  have HB_ := bthen HB hb8; clear HB; have HB := HB_; clear HB_
  have HS_ := bthen HS hb8; clear HS; have HS := HS_; clear HS_
  have hz8 := hb8.size
  clear hb8
  go_wp2_with fail
  refine (cmsW_to l0 _ _ _ _ (h0.at_.keep HB) hsn).mono ?_
  rintro e w9 ⟨AY, nY, cY, rfl, Y, hb9⟩
  have ES_ := ES.keep hb9; clear ES; have ES := ES_; clear ES_
  have U_ := U.keep hb9; clear U; have U := U_; clear U_
  have V_ := V.keep hb9; clear V; have V := V_; clear V_
  have G1_ := G1.keep cstK hb9; clear G1; have G1 := G1_; clear G1_
  have G2_ := G2.keep saiK hb9; clear G2; have G2 := G2_; clear G2_
  have EG_ := EG.keep hb9; clear EG; have EG := EG_; clear EG_
  have HB_ := bthen HB hb9; clear HB; have HB := HB_; clear HB_
  have HS_ := bthen HS hb9; clear HS; have HS := HS_; clear HS_
  have hz9 := hb9.size
  clear hb9
  go_wp2_with fail
  refine (cmsW_eq l0 _ _ _ _ _ _ _ U.at_ Y.at_ (by omega)).mono ?_
  rintro e w10 ⟨rfl, hb10⟩
  have ES_ := ES.keep hb10; clear ES; have ES := ES_; clear ES_
  have U_ := U.keep hb10; clear U; have U := U_; clear U_
  have V_ := V.keep hb10; clear V; have V := V_; clear V_
  have G1_ := G1.keep cstK hb10; clear G1; have G1 := G1_; clear G1_
  have G2_ := G2.keep saiK hb10; clear G2; have G2 := G2_; clear G2_
  have EG_ := EG.keep hb10; clear EG; have EG := EG_; clear EG_
  have Y_ := Y.keep hb10; clear Y; have Y := Y_; clear Y_
  have HB_ := bthen HB hb10; clear HB; have HB := HB_; clear HB_
  have HS_ := bthen HS hb10; clear HS; have HS := HS_; clear HS_
  have hz10 := hb10.size
  clear hb10
  clear Y
  go_wp2_with fail
  refine (ints_to _ _ _ l1 _ (h1.at_.keep HB) hin1).mono ?_
  rintro e w11 ⟨AZ, nZ, cZ, rfl, Z, hb11⟩
  have ES_ := ES.keep hb11; clear ES; have ES := ES_; clear ES_
  have U_ := U.keep hb11; clear U; have U := U_; clear U_
  have V_ := V.keep hb11; clear V; have V := V_; clear V_
  have G1_ := G1.keep cstK hb11; clear G1; have G1 := G1_; clear G1_
  have G2_ := G2.keep saiK hb11; clear G2; have G2 := G2_; clear G2_
  have EG_ := EG.keep hb11; clear EG; have EG := EG_; clear EG_
  have HB_ := bthen HB hb11; clear HB; have HB := HB_; clear HB_
  have HS_ := bthen HS hb11; clear HS; have HS := HS_; clear HS_
  have hz11 := hb11.size
  clear hb11
  go_wp2_with fail
  refine (ints_eq _ _ _ _ _ _ l1 _ V.at_ Z.at_ (by omega)).mono ?_
  rintro e w12 ⟨rfl, hb12⟩
  have ES_ := ES.keep hb12; clear ES; have ES := ES_; clear ES_
  have U_ := U.keep hb12; clear U; have U := U_; clear U_
  have V_ := V.keep hb12; clear V; have V := V_; clear V_
  have G1_ := G1.keep cstK hb12; clear G1; have G1 := G1_; clear G1_
  have G2_ := G2.keep saiK hb12; clear G2; have G2 := G2_; clear G2_
  have EG_ := EG.keep hb12; clear EG; have EG := EG_; clear EG_
  have Z_ := Z.keep hb12; clear Z; have Z := Z_; clear Z_
  have HB_ := bthen HB hb12; clear HB; have HB := HB_; clear HB_
  have HS_ := bthen HS hb12; clear HS; have HS := HS_; clear HS_
  have hz12 := hb12.size
  clear hb12
  clear Z
  go_wp2_with fail
  refine (cmsW_mark _ _ l0 _ _ _ 1 _ U (by omega) (by omega) (by omega)).mono ?_
  rintro e w13 ⟨rfl, _, hc⟩
  clear U
  have ES_ := ES.ch hc (fun hk => by have h5 := hk.1; have h6 := hk.2; omega); clear ES; have ES := ES_; clear ES_
  have V_ := V.ch hc (fun k h5 h6 => by have := h5.1; have := h6.2; omega); clear V; have V := V_; clear V_
  have G1_ := G1.ch cstK hc (fun b hb hk => by have h5 := hFG b (List.mem_append_left _ hb); have h6 := hk.2; omega); clear G1; have G1 := G1_; clear G1_
  have G2_ := G2.ch saiK hc (fun b hb hk => by have h5 := hFG b (List.mem_append_right _ hb); have h6 := hk.2; omega); clear G2; have G2 := G2_; clear G2_
  have EG_ := EG.ch hc (fun hk => by have h5 := hk.1; have h6 := hk.2; omega); clear EG; have EG := EG_; clear EG_
  have HB_ := hc.belowB HB HB.size (fun k hk => by have hk := hk.1; have := HB.size; omega); clear HB; have HB := HB_; clear HB_
  have HS_ := hc.belowB HS HS.size (fun k hk => by have hk := hk.1; omega); clear HS; have HS := HS_; clear HS_
  have hz13 := hc.size; clear hc
  have g1 : ¬ ((1 : Int) + ((cmsCnt l0 : Nat) : Int) < 0) := by omega
  go_wp2_with fail
  refine (ints_mark _ _ _ l1 _ _ _ _ V (by omega) (by omega) (by omega)).mono ?_
  rintro e w14 ⟨rfl, _, hc⟩
  clear V
  have ES_ := ES.ch hc (fun hk => by have h5 := hk.1; have h6 := hk.2; omega); clear ES; have ES := ES_; clear ES_
  have G1_ := G1.ch cstK hc (fun b hb hk => by have h5 := hFG b (List.mem_append_left _ hb); have h6 := hk.2; omega); clear G1; have G1 := G1_; clear G1_
  have G2_ := G2.ch saiK hc (fun b hb hk => by have h5 := hFG b (List.mem_append_right _ hb); have h6 := hk.2; omega); clear G2; have G2 := G2_; clear G2_
  have EG_ := EG.ch hc (fun hk => by have h5 := hk.1; have h6 := hk.2; omega); clear EG; have EG := EG_; clear EG_
  have HB_ := hc.belowB HB HB.size (fun k hk => by have hk := hk.1; have := HB.size; omega); clear HB; have HB := HB_; clear HB_
  have HS_ := hc.belowB HS HS.size (fun k hk => by have hk := hk.1; omega); clear HS; have HS := HS_; clear HS_
  have hz14 := hc.size; clear hc
  have g2 : ¬ ((1 : Int) + ((cmsCnt l0 : Nat) : Int) + ((intsCnt l1 : Nat) : Int) < 0) := by omega
  have g3 : decide ((1 : Int) + ((cmsCnt l0 : Nat) : Int) + ((intsCnt l1 : Nat) : Int) < 0) = false := decide_eq_false g2
  have cES0 := ES.cell 0 _ rfl; have cES1 := ES.cell 1 _ rfl; have cESl := ES.lt
  have cEG0 := EG.cell 0 _ rfl; have cEG1 := EG.cell 1 _ rfl; have cEGl := EG.lt
  go_wp2_with fail
  refine (sta_eq X _ _ _ _ _ _ _ _ _ _ _ _ _ (G1.at_ cstK (by omega)) (G2.at_ saiK (by omega)) (SR.1.keep cstK HS) (SR.2.keep saiK HS) (by omega)).mono ?_
  rintro e w15 ⟨rfl, hb15⟩
  clear cES0 cES1 cESl cEG0 cEG1 cEGl
  have ES_ := ES.keep hb15; clear ES; have ES := ES_; clear ES_
  have G1_ := G1.keep cstK hb15; clear G1; have G1 := G1_; clear G1_
  have G2_ := G2.keep saiK hb15; clear G2; have G2 := G2_; clear G2_
  have EG_ := EG.keep hb15; clear EG; have EG := EG_; clear EG_
  have HB_ := bthen HB hb15; clear HB; have HB := HB_; clear HB_
  have HS_ := bthen HS hb15; clear HS; have HS := HS_; clear HS_
  have hz15 := hb15.size
  clear hb15
  have cES0 := ES.cell 0 _ rfl; have cES1 := ES.cell 1 _ rfl; have cESl := ES.lt
  have cEG0 := EG.cell 0 _ rfl; have cEG1 := EG.cell 1 _ rfl; have cEGl := EG.lt
  go_wp2_with fail
  refine (sta_mark X fG1 fG2 _ _ _ _ _ _ 1 _ G1 G2 hNG (by omega) (by omega) (by omega)).mono ?_
  rintro e w16 ⟨rfl, M1, M2, hc⟩
  clear cES0 cES1 cESl cEG0 cEG1 cEGl
  clear G1 G2
  have ES_ := ES.ch hc (fun hk => by have h5 := hFG _ hk; omega); clear ES; have ES := ES_; clear ES_
  have EG_ := EG.ch hc (fun hk => by have h5 := FLG _ hk; omega); clear EG; have EG := EG_; clear EG_
  have HB_ := hc.belowB HB HB.size (fun k hk => by have h5 := hFG k hk; have := HB.size; omega); clear HB; have HB := HB_; clear HB_
  have HS_ := hc.belowB HS HS.size (fun k hk => by have h5 := hFG k hk; omega); clear HS; have HS := HS_; clear HS_
  have hz16 := hc.size; clear hc
  have cES0 := ES.cell 0 _ rfl; have cES1 := ES.cell 1 _ rfl; have cESl := ES.lt
  have cEG0 := EG.cell 0 _ rfl; have cEG1 := EG.cell 1 _ rfl; have cEGl := EG.lt
  go_wp2_with fail
  refine (sta_held X X _ _ _ _ _ _ 1 _ (M1.at_ cstK (by omega)) (M2.at_ saiK (by omega)) (by omega) (by omega) (by omega)).mono ?_
  rintro e w17 ⟨rfl, hb17⟩
  clear cES0 cES1 cESl cEG0 cEG1 cEGl
  have ES_ := ES.keep hb17; clear ES; have ES := ES_; clear ES_
  have EG_ := EG.keep hb17; clear EG; have EG := EG_; clear EG_
  have M1_ := M1.keep cstK hb17; clear M1; have M1 := M1_; clear M1_
  have M2_ := M2.keep saiK hb17; clear M2; have M2 := M2_; clear M2_
  have HB_ := bthen HB hb17; clear HB; have HB := HB_; clear HB_
  have HS_ := bthen HS hb17; clear HS; have HS := HS_; clear HS_
  have hz17 := hb17.size
  clear hb17
  have g4 : ¬ ((1 : Int) + ((staTop X : Nat) : Int) < 0) := by omega
  go_wp2_with fail
  refine (cmsW_to l0 _ _ _ _ (h0.at_.keep HB) hsn).mono ?_
  rintro e w18 ⟨AU, nU, cU, rfl, U, hb18⟩
  have ES_ := ES.keep hb18; clear ES; have ES := ES_; clear ES_
  have EG_ := EG.keep hb18; clear EG; have EG := EG_; clear EG_
  have M1_ := M1.keep cstK hb18; clear M1; have M1 := M1_; clear M1_
  have M2_ := M2.keep saiK hb18; clear M2; have M2 := M2_; clear M2_
  have HB_ := bthen HB hb18; clear HB; have HB := HB_; clear HB_
  have HS_ := bthen HS hb18; clear HS; have HS := HS_; clear HS_
  have hz18 := hb18.size
  clear hb18
  go_wp2_with fail
  refine (ints_to _ _ _ l1 _ (h1.at_.keep HB) hin1).mono ?_
  rintro e w19 ⟨AV, nV, cV, rfl, V, hb19⟩
  have ES_ := ES.keep hb19; clear ES; have ES := ES_; clear ES_
  have EG_ := EG.keep hb19; clear EG; have EG := EG_; clear EG_
  have M1_ := M1.keep cstK hb19; clear M1; have M1 := M1_; clear M1_
  have M2_ := M2.keep saiK hb19; clear M2; have M2 := M2_; clear M2_
  have U_ := U.keep hb19; clear U; have U := U_; clear U_
  have HB_ := bthen HB hb19; clear HB; have HB := HB_; clear HB_
  have HS_ := bthen HS hb19; clear HS; have HS := HS_; clear HS_
  have hz19 := hb19.size
  clear hb19
  go_wp2_with fail
  refine (runIn_impl l0 l1 _ _ _ _ _ _ _ U.at_ V.at_ (by have h5 := U.at_.len; have h6 := h0.at_.len; omega) (by have h5 := V.at_; unfold IntsAt at h5; have h6 := h1.at_; unfold IntsAt at h6; have := h5.1; have := h6.1; omega) hbd).mono ?_
  intro e w20 hout
  obtain ⟨AH1, nH1, cH1, AH2, nH2, cH2, fH1, fH2, rfl, H1, H2, hNH, hFH, hb20⟩ := hout.out
  clear hout
  rw [HX.out] at H1 H2 ⊢
  have ES_ := ES.keep hb20; clear ES; have ES := ES_; clear ES_
  have EG_ := EG.keep hb20; clear EG; have EG := EG_; clear EG_
  have M1_ := M1.keep cstK hb20; clear M1; have M1 := M1_; clear M1_
  have M2_ := M2.keep saiK hb20; clear M2; have M2 := M2_; clear M2_
  have U_ := U.keep hb20; clear U; have U := U_; clear U_
  have V_ := V.keep hb20; clear V; have V := V_; clear V_
  have HB_ := bthen HB hb20; clear HB; have HB := HB_; clear HB_
  have HS_ := bthen HS hb20; clear HS; have HS := HS_; clear HS_
  have hz20 := hb20.size
  clear hb20
  unfold staV
  obtain ⟨bH, hbH⟩ : ∃ b, w20.heap.size = b := ⟨_, rfl⟩
  have ltH1 := H1.lt cstK; have ltH2 := H2.lt saiK
  have FLH : ∀ b ∈ fH1 ++ fH2, b < w20.heap.size := fun b hb => by rcases List.mem_append.1 hb with h5 | h5; (exact ltH1 b h5); (exact ltH2 b h5)
  have al := (Below.refl w20.heap.size w20).alloc (Nat.le_refl _) (.cells #[.slice AH1 nH1 cH1, .slice AH2 nH2 cH2] 30)
  have EH := BoxL.new w20 [.slice AH1 nH1 cH1, .slice AH2 nH2 cH2] 30
  have cES0 := ES.cell 0 _ rfl; have cES1 := ES.cell 1 _ rfl; have cESl := ES.lt
  have cEG0 := EG.cell 0 _ rfl; have cEG1 := EG.cell 1 _ rfl; have cEGl := EG.lt
  have dES0 := keep_cell al cES0; have dES1 := keep_cell al cES1
  have dEG0 := keep_cell al cEG0; have dEG1 := keep_cell al cEG1
  have eEH0 := EH.cell 0 _ rfl; have eEH1 := EH.cell 1 _ rfl
  go_wp2_with fail
  clear eEH0 eEH1 dES0 dES1 dEG0 dEG1
  clear cES0 cES1 cESl cEG0 cEG1 cEGl
  obtain ⟨W20, hW20⟩ : ∃ W, W = w20.alloc (.cells #[.slice AH1 nH1 cH1, .slice AH2 nH2 cH2] 30) := ⟨_, rfl⟩
  rw [← hW20] at al EH ⊢
  simp only [hbH] at EH FLH ⊢
  have ES_ := ES.keep al; clear ES; have ES := ES_; clear ES_
  have EG_ := EG.keep al; clear EG; have EG := EG_; clear EG_
  have M1_ := M1.keep cstK al; clear M1; have M1 := M1_; clear M1_
  have M2_ := M2.keep saiK al; clear M2; have M2 := M2_; clear M2_
  have U_ := U.keep al; clear U; have U := U_; clear U_
  have V_ := V.keep al; clear V; have V := V_; clear V_
  have H1_ := H1.keep cstK al; clear H1; have H1 := H1_; clear H1_
  have H2_ := H2.keep saiK al; clear H2; have H2 := H2_; clear H2_
  have HB_ := bthen HB al; clear HB; have HB := HB_; clear HB_
  have HS_ := bthen HS al; clear HS; have HS := HS_; clear HS_
  have hz20a := al.size
  rw [hbH] at hz20 hz20a
  clear al hW20 hbH ltH1 ltH2
  have hlEH := EH.lt
  refine (sta_eq X _ _ _ _ _ _ _ _ _ _ _ _ _ (H1.at_ cstK (by omega)) (H2.at_ saiK (by omega)) (SR.1.keep cstK HS) (SR.2.keep saiK HS) (by omega)).mono ?_
  rintro e w21 ⟨rfl, hb21⟩
  have ES_ := ES.keep hb21; clear ES; have ES := ES_; clear ES_
  have EG_ := EG.keep hb21; clear EG; have EG := EG_; clear EG_
  have M1_ := M1.keep cstK hb21; clear M1; have M1 := M1_; clear M1_
  have M2_ := M2.keep saiK hb21; clear M2; have M2 := M2_; clear M2_
  have U_ := U.keep hb21; clear U; have U := U_; clear U_
  have V_ := V.keep hb21; clear V; have V := V_; clear V_
  have H1_ := H1.keep cstK hb21; clear H1; have H1 := H1_; clear H1_
  have H2_ := H2.keep saiK hb21; clear H2; have H2 := H2_; clear H2_
  have EH_ := EH.keep hb21; clear EH; have EH := EH_; clear EH_
  have HB_ := bthen HB hb21; clear HB; have HB := HB_; clear HB_
  have HS_ := bthen HS hb21; clear HS; have HS := HS_; clear HS_
  have hz21 := hb21.size
  clear hb21
  have cES0 := ES.cell 0 _ rfl; have cES1 := ES.cell 1 _ rfl; have cESl := ES.lt
  have cEG0 := EG.cell 0 _ rfl; have cEG1 := EG.cell 1 _ rfl; have cEGl := EG.lt
  have cEH0 := EH.cell 0 _ rfl; have cEH1 := EH.cell 1 _ rfl; have cEHl := EH.lt
  go_wp2_with fail
  refine (sta_held X X _ _ _ _ _ _ 1 _ (M1.at_ cstK (by omega)) (M2.at_ saiK (by omega)) (by omega) (by omega) (by omega)).mono ?_
  rintro e w22 ⟨rfl, hb22⟩
  clear cES0 cES1 cESl cEG0 cEG1 cEGl cEH0 cEH1 cEHl
  have ES_ := ES.keep hb22; clear ES; have ES := ES_; clear ES_
  have EG_ := EG.keep hb22; clear EG; have EG := EG_; clear EG_
  have M1_ := M1.keep cstK hb22; clear M1; have M1 := M1_; clear M1_
  have M2_ := M2.keep saiK hb22; clear M2; have M2 := M2_; clear M2_
  have U_ := U.keep hb22; clear U; have U := U_; clear U_
  have V_ := V.keep hb22; clear V; have V := V_; clear V_
  have H1_ := H1.keep cstK hb22; clear H1; have H1 := H1_; clear H1_
  have H2_ := H2.keep saiK hb22; clear H2; have H2 := H2_; clear H2_
  have EH_ := EH.keep hb22; clear EH; have EH := EH_; clear EH_
  have HB_ := bthen HB hb22; clear HB; have HB := HB_; clear HB_
  have HS_ := bthen HS hb22; clear HS; have HS := HS_; clear HS_
  have hz22 := hb22.size
  clear hb22
  go_wp2
  go_returns
  exact ⟨rfl, HB⟩
end
section
variable {H : Type} {enc : TypeId × Value → H} {w : World} {base : Nat} {spare : Nat → Bool} {held : Bool}
set_option maxRecDepth 8000 in
theorem open_intL {r : Reach} {b0 : Nat} {v : Value} {d : DataW H} {p : List MemPlace}
    (hv : Value.okWide Tryz.prog w r b0 23 v) (h : DataW.Trod enc Tryz.prog w base spare held 23 v d p) :
    ∃ (A : Option Addr) (n c : Nat) (l : List Int), v = .slice A n c ∧ IntsOk w A n l := by
  obtain ⟨A, n, c, rfl⟩ := okWide_slice Tryz.underlying23 hv
  obtain ⟨fuel, hf⟩ := h
  obtain ⟨A', n', c', l, hcs, hr, hn, _, hc⟩ := open_rows_cs (C := fun _ cs (x : Int) => cs = [.int .i64 x]) Tryz.underlying23 cellsIntL (by omega) (fun fu cs y h => by obtain ⟨m, hm, _⟩ := trod_int1 Tryz.underlying3 h; exact ⟨m, hm⟩) hf
  simp [Value.cells] at hcs
  obtain ⟨rfl, rfl, rfl⟩ := hcs
  refine ⟨_, _, _, l, rfl, ⟨?_, hn⟩⟩
  unfold IntsAt
  refine ⟨hr.1, fun h0 => ?_⟩
  obtain ⟨b, off, rfl, hlt, hcell⟩ := hr.2 h0
  refine ⟨b, off, rfl, hlt, fun i hi => ?_⟩
  have hl := hr.1
  obtain ⟨cs', hx, _, hc'⟩ := hcell i (iAt l i) (by rw [iAt_get (by omega)]; exact List.getElem?_eq_getElem (by omega))
  subst hx
  simpa [intV] using hc' 0 _ rfl
end
theorem fnExactRunIn_shape {H : Type} {enc : TypeId × Value → H} {W : World} {args : Array Value} {ds : List (DataW H)} {p : List MemPlace}
    (hA : DataW.TrodAll enc Tryz.prog W 0 (fun _ => true) true Tryz.f3.params.toList args.toList ds p) : ∃ x0 x1, ds = [x0, x1] := by
  obtain ⟨v0, v1, d0, d1, p0, p1, rfl, rfl, rfl, h0, h1⟩ := trodAll_two hA
  exact ⟨_, _, rfl⟩

set_option maxRecDepth 100000 in
theorem fnExactRunIn_contract {H : Type} {enc : TypeId × Value → H} (W : World) (base : Nat) (args : Array Value) (ds : List (DataW H)) (p : List MemPlace)
    (hval : ∀ (j : Nat) t v, Tryz.f3.params[j]? = some t → args[j]? = some v → Value.okWide Tryz.prog W .any base t v)
    (hA : DataW.TrodAll enc Tryz.prog W 0 (fun _ => true) true Tryz.f3.params.toList args.toList ds p) :
    Calls Tryz.prog 3 args W fun e W' => e = .returned (.bool true) ∧ Below W.heap.size W W' := by
  obtain ⟨v0, v1, d0, d1, p0, p1, rfl, rfl, rfl, h0, h1⟩ := trodAll_two hA
  obtain ⟨A0, n0, c0, l0, rfl, ok0⟩ := open_cms (hval 0 22 v0 rfl rfl) h0
  obtain ⟨A1, n1, c1, l1, rfl, ok1⟩ := open_intL (hval 1 23 v1 rfl rfl) h1
  exact fnExactRunIn_any _ _ _ _ _ _ _ _ W ok0 ok1

set_option maxRecDepth 100000 in
theorem fnExactRunIn_lifted (os : Os) (started : os.Started) (H : Type) (enc : TypeId × Value → H) :
    ReturnsInHanded {} Tryz.checked os 3 .any (Rows.fnExactRunInSpec.pre6 enc Tryz.prog Tryz.f3 Rows.fnExactRunInRow.domain false) (Rows.fnExactRunInSpec.post enc Tryz.prog Tryz.f3 false true false false) := by
  refine returnsInHanded_of_change (C := Tryz.checked) Tryz.own started (by kernel_rfl) Tryz.func3
    (ChangeSpec.witness6 (enc := enc) (C := Tryz.checked) false ⟨#[], #[.slice none 0 0, .slice none 0 0], []⟩ 8 (by kernel_rfl) (by kernel_rfl) (by kernel_rfl) (by kernel_rfl)) ?_
  intro W base args ds gs before hval0 hW _ _
  have hval : ∀ (j : Nat) t v, Tryz.f3.params[j]? = some t → args[j]? = some v → Value.okWide Tryz.prog W .any base t v := hval0
  have hW' := hW
  obtain ⟨p, q, hA0, hV, rfl, hfz, hnd⟩ := hW
  have hA : DataW.TrodAll enc Tryz.prog W 0 (fun _ => true) true Tryz.f3.params.toList args.toList ds p := hA0
  refine (fnExactRunIn_contract W base args ds p hval hA).mono fun e W' ⟨he, hb⟩ => ?_
  subst he
  have hds := fnExactRunIn_shape hA
  obtain ⟨hgs, _⟩ := trodVars_none hV
  subst hgs
  refine ⟨_, rfl, law_post (P := Tryz.prog) Tryz.laidOut (of_decide_eq_true (by kernel_rfl)) (by kernel_rfl) Tryz.underlying4 hW' rfl ?_ ?_ ?_ hb⟩
  all_goals (obtain ⟨x0, x1, rfl⟩ := hds; rfl)

theorem fnExactRunIn_holds : Rows.FnExactRunInSaid :=
  OpenClaim.holds_of_wide 3 Tryz.f3 rfl rfl rfl rfl rfl rfl rfl ⟨rfl, rfl, rfl, rfl, rfl⟩ rfl rfl rfl rfl rfl (by kernel_rfl) Tryz.func3 (by kernel_rfl)
    (of_decide_eq_true (by kernel_rfl)) (by unfold Func.isWrapper; first | (rw [if_pos (by decide +kernel)]; kernel_rfl) | (rw [if_neg (by decide +kernel)]; exact ⟨rfl, rfl⟩))
    (fun os started H enc _ => fnExactRunIn_lifted os started H enc)
end Go.Proofs.YtdphdnllhmnelaaGreat
