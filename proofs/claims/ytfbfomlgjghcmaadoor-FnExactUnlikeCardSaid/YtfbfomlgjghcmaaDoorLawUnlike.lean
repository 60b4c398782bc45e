/- The law FnExactUnlike holds: for every two lists of texts the program's Unlike answers what the reference's answers, in memory of its own; the table of SHA-256's keys is tied to the program's text. Conditions: none. -/
import Derived.Test.YtfbfomlgjghcmaaDoorUnlike
import Derived.Test.YtfbfomlgjghcmaaDoorFrameL
import Derived.Test.YtfbfomlgjghcmaaDoorCards
import Derived.Test.YtfbfomlgjghcmaaDoorTie
import Derived.SevenTiedAt
namespace Go.Proofs.YtfbfomlgjghcmaaDoor
open Go.ChangeShapes Go.WideShapes Go.ChangeAt Go.RowKit Go.Joins
attribute [local irreducible] StrsAt IntsAt

theorem unlike_i (A0 : Option Addr) (n0 c0 : Nat) (l0 : List ByteArray) (A1 : Option Addr) (n1 c1 : Nat) (l1 : List ByteArray) (w : World) (h0 : StrsAt w A0 n0 l0) (h1 : StrsAt w A1 n1 l1) (s0 : strsSz l0 ≤ 1048576) (s1 : strsSz l1 ≤ 1048576) (hk : KeysAt w) :
    Calls Tryd.prog 15 #[.slice A0 n0 c0, .slice A1 n1 c1] w (IntsR (unlL l0 l1) w) := unlike_impl _ _ _ _ _ _ _ _ _ h0 h1 s0 s1 hk
theorem unlike_s (A0 : Option Addr) (n0 c0 : Nat) (l0 : List ByteArray) (A1 : Option Addr) (n1 c1 : Nat) (l1 : List ByteArray) (w : World) (h0 : StrsAt w A0 n0 l0) (h1 : StrsAt w A1 n1 l1) (s0 : strsSz l0 ≤ 1048576) (s1 : strsSz l1 ≤ 1048576) :
    Calls Tryd.prog 14 #[.slice A0 n0 c0, .slice A1 n1 c1] w (IntsR (unlL l0 l1) w) := unlike_spec _ _ _ _ _ _ _ _ _ h0 h1 s0 s1

theorem fnExactUnlike_any (A0 : Option Addr) (n0 c0 : Nat) (l0 : List ByteArray) (A1 : Option Addr) (n1 c1 : Nat) (l1 : List ByteArray) (w : World) (hkeys : KeysAt w) (h0 : StrsOk w A0 n0 l0) (h1 : StrsOk w A1 n1 l1)  :
    Calls Tryd.prog 4 #[.slice A0 n0 c0, .slice A1 n1 c1] w fun e w' => e = .returned (.bool true) ∧ Below w.heap.size w w' := by
  by_cases hsz0 : ((strsSz l0 : Nat) : Int) ≤ (1048576 : Int)
  · have HR0 := Lib.hid (szR_yes hsz0)
    have hge0 : ¬ ((1048576 : Int) - ((strsSz l0 : Nat) : Int) < 0) := by omega
    by_cases hsz1 : ((strsSz l1 : Nat) : Int) ≤ ((1048576 : Int) - (strsSz l0 : Nat))
    · have HR1 := Lib.hid (szR_yes hsz1)
      have hge1 : ¬ (((1048576 : Int) - (strsSz l0 : Nat)) - ((strsSz l1 : Nat) : Int) < 0) := by omega
      have hsn0 : strsSz l0 ≤ 1048576 := by omega
      have hsn1 : strsSz l1 ≤ 1048576 := by omega
      obtain ⟨r0, hr0⟩ : ∃ r, unlL l0 l1 = r := ⟨_, rfl⟩
      have hrs0 : intsSz r0 ≤ 1048576 := by rw [← hr0]; exact unlL_sz _ _
      have HV0 := Lib.hid hr0; clear hr0
      go_enter Tryd.func4, Tryd.ntmps4
      go_wp2_with fail
      refine (strs_sz _ _ _ _ _ _ (h0.keep (Below.refl _ _)) (by omega) (by omega)).mono ?_
      rintro e v0 ⟨rfl, hbz0⟩; rw [HR0.out]
      have hBz0 := bthen (Below.refl _ _) hbz0
      go_wp2_with fail
      refine (strs_sz _ _ _ _ _ _ (h1.keep hBz0) (by omega) (by omega)).mono ?_
      rintro e v1 ⟨rfl, hbz1⟩; rw [HR1.out]
      have hBz1 := bthen hBz0 hbz1
      have hz0 := hBz1.size
      go_wp2_with fail
      refine (strs_to _ _ _ _ _ (h0.at_.keep hBz1) hsn0).mono ?_
      rintro e w1 ⟨AP0, nP0, cP0, rfl, P0_1, hb1⟩
      have hB1 := bthen hBz1 hb1
      have hz1 := hb1.size
      go_wp2_with fail
      refine (strs_to _ _ _ _ _ (h1.at_.keep hB1) hsn1).mono ?_
      rintro e w2 ⟨AP1, nP1, cP1, rfl, P1_2, hb2⟩
      have P0_2 := P0_1.keep hb2; clear P0_1
      have hB2 := bthen hB1 hb2
      have hz2 := hb2.size
      go_wp2_with fail
      refine (unlike_s _ _ _ _ _ _ _ _ _ P0_2.at_ P1_2.at_ hsn0 hsn1 ).mono ?_
      rintro e w3 ⟨AS0, nS0, cS0, rfl, S0_3, hb3⟩
      have P0_3 := P0_2.keep hb3; clear P0_2
      have P1_3 := P1_2.keep hb3; clear P1_2
      have hB3 := bthen hB2 hb3
      have hz3 := hb3.size
      try rw [HV0.out]
      rw [HV0.out] at S0_3
      clear P0_3
      clear P1_3
      go_wp2_with fail
      refine (strs_to _ _ _ _ _ (h0.at_.keep hB3) hsn0).mono ?_
      rintro e w4 ⟨AX0, nX0, cX0, rfl, X0_4, hb4⟩
      have S0_4 := S0_3.keep hb4; clear S0_3
      have hB4 := bthen hB3 hb4
      have hz4 := hb4.size
      go_wp2_with fail
      refine (strs_to _ _ _ _ _ (h1.at_.keep hB4) hsn1).mono ?_
      rintro e w5 ⟨AX1, nX1, cX1, rfl, X1_5, hb5⟩
      have S0_5 := S0_4.keep hb5; clear S0_4
      have X0_5 := X0_4.keep hb5; clear X0_4
      have hB5 := bthen hB4 hb5
      have hz5 := hb5.size
      go_wp2_with fail
      refine (unlike_i _ _ _ _ _ _ _ _ _ X0_5.at_ X1_5.at_ hsn0 hsn1  (hkeys.keep hB5)).mono ?_
      rintro e w6 ⟨AG0, nG0, cG0, rfl, G0_6, hb6⟩
      have S0_6 := S0_5.keep hb6; clear S0_5
      have X0_6 := X0_5.keep hb6; clear X0_5
      have X1_6 := X1_5.keep hb6; clear X1_5
      have hB6 := bthen hB5 hb6
      have hz6 := hb6.size
      try rw [HV0.out]
      rw [HV0.out] at G0_6
      go_wp2_with fail
      refine (ints_eq _ _ _ _ _ _ _ _ G0_6.at_ S0_6.at_ (by omega)).mono ?_
      rintro e w7 ⟨rfl, hb7⟩
      have S0_7 := S0_6.keep hb7; clear S0_6
      have X0_7 := X0_6.keep hb7; clear X0_6
      have X1_7 := X1_6.keep hb7; clear X1_6
      have G0_7 := G0_6.keep hb7; clear G0_6
      have hB7 := bthen hB6 hb7
      have hz7 := hb7.size
      go_wp2_with fail
      refine (strs_to _ _ _ _ _ (h0.at_.keep hB7) hsn0).mono ?_
      rintro e w8 ⟨AT0, nT0, cT0, rfl, T0_8, hb8⟩
      have S0_8 := S0_7.keep hb8; clear S0_7
      have X0_8 := X0_7.keep hb8; clear X0_7
      have X1_8 := X1_7.keep hb8; clear X1_7
      have G0_8 := G0_7.keep hb8; clear G0_7
      have hB8 := bthen hB7 hb8
      have hz8 := hb8.size
      go_wp2_with fail
      refine (strs_eq _ _ _ _ _ _ _ _ X0_8.at_ T0_8.at_ (by omega)).mono ?_
      rintro e w9 ⟨rfl, hb9⟩
      have S0_9 := S0_8.keep hb9; clear S0_8
      have X0_9 := X0_8.keep hb9; clear X0_8
      have X1_9 := X1_8.keep hb9; clear X1_8
      have G0_9 := G0_8.keep hb9; clear G0_8
      have T0_9 := T0_8.keep hb9; clear T0_8
      have hB9 := bthen hB8 hb9
      have hz9 := hb9.size
      clear T0_9
      go_wp2_with fail
      refine (strs_to _ _ _ _ _ (h1.at_.keep hB9) hsn1).mono ?_
      rintro e w10 ⟨AT1, nT1, cT1, rfl, T1_10, hb10⟩
      have S0_10 := S0_9.keep hb10; clear S0_9
      have X0_10 := X0_9.keep hb10; clear X0_9
      have X1_10 := X1_9.keep hb10; clear X1_9
      have G0_10 := G0_9.keep hb10; clear G0_9
      have hB10 := bthen hB9 hb10
      have hz10 := hb10.size
      go_wp2_with fail
      refine (strs_eq _ _ _ _ _ _ _ _ X1_10.at_ T1_10.at_ (by omega)).mono ?_
      rintro e w11 ⟨rfl, hb11⟩
      have S0_11 := S0_10.keep hb11; clear S0_10
      have X0_11 := X0_10.keep hb11; clear X0_10
      have X1_11 := X1_10.keep hb11; clear X1_10
      have G0_11 := G0_10.keep hb11; clear G0_10
      have T1_11 := T1_10.keep hb11; clear T1_10
      have hB11 := bthen hB10 hb11
      have hz11 := hb11.size
      clear T1_11
      have hcn0 := strs_cnt l0
      have hcn1 := strs_cnt l1
      have hcr0 := ints_cnt r0
      go_wp2_with fail
      refine (strs_mark _ _ _ _ _ _ _ _ X0_11 (by omega) (by omega) (by omega)).mono ?_
      rintro e w12 ⟨rfl, X0_12, hc12⟩
      have S0_12 := S0_11.ch hc12 (iv_off (by omega)); clear S0_11
      have X1_12 := X1_11.ch hc12 (iv_off (by omega)); clear X1_11
      have G0_12 := G0_11.ch hc12 (iv_off (by omega)); clear G0_11
      clear X0_11
      have hB12 := hc12.ivb hB11 (by omega) (Nat.le_refl _)
      have hz12 := hc12.size
      go_wp2_with fail
      refine (strs_mark _ _ _ _ _ _ _ _ X1_12 (by omega) (by omega) (by omega)).mono ?_
      rintro e w13 ⟨rfl, X1_13, hc13⟩
      have S0_13 := S0_12.ch hc13 (iv_off (by omega)); clear S0_12
      have X0_13 := X0_12.ch hc13 (iv_off (by omega)); clear X0_12
      have G0_13 := G0_12.ch hc13 (iv_off (by omega)); clear G0_12
      clear X1_12
      have hB13 := hc13.ivb hB12 (by omega) (Nat.le_refl _)
      have hz13 := hc13.size
      clear X0_13
      clear X1_13
      go_wp2_with fail
      refine (ints_eq _ _ _ _ _ _ _ _ G0_13.at_ S0_13.at_ (by omega)).mono ?_
      rintro e w14 ⟨rfl, hb14⟩
      have S0_14 := S0_13.keep hb14; clear S0_13
      have G0_14 := G0_13.keep hb14; clear G0_13
      have hB14 := bthen hB13 hb14
      have hz14 := hb14.size
      go_wp2_with fail
      refine (ints_mark _ _ _ _ _ _ _ _ G0_14 (by omega) (by omega) (by omega)).mono ?_
      rintro e w15 ⟨rfl, G0_15, hc15⟩
      have S0_15 := S0_14.ch hc15 (iv_off (by omega)); clear S0_14
      clear G0_14
      have hB15 := hc15.ivb hB14 (by omega) (Nat.le_refl _)
      have hz15 := hc15.size
      go_wp2_with fail
      refine (ints_held _ _ _ _ _ _ G0_15.at_ (by omega) (by omega) (by omega)).mono ?_
      rintro e w16 ⟨rfl, hb16⟩
      have S0_16 := S0_15.keep hb16; clear S0_15
      have G0_16 := G0_15.keep hb16; clear G0_15
      have hB16 := bthen hB15 hb16
      have hz16 := hb16.size
      go_wp2_with fail
      refine (strs_to _ _ _ _ _ (h0.at_.keep hB16) hsn0).mono ?_
      rintro e w17 ⟨AY0, nY0, cY0, rfl, Y0_17, hb17⟩
      have S0_17 := S0_16.keep hb17; clear S0_16
      have G0_17 := G0_16.keep hb17; clear G0_16
      have hB17 := bthen hB16 hb17
      have hz17 := hb17.size
      go_wp2_with fail
      refine (strs_to _ _ _ _ _ (h1.at_.keep hB17) hsn1).mono ?_
      rintro e w18 ⟨AY1, nY1, cY1, rfl, Y1_18, hb18⟩
      have S0_18 := S0_17.keep hb18; clear S0_17
      have G0_18 := G0_17.keep hb18; clear G0_17
      have Y0_18 := Y0_17.keep hb18; clear Y0_17
      have hB18 := bthen hB17 hb18
      have hz18 := hb18.size
      go_wp2_with fail
      refine (unlike_i _ _ _ _ _ _ _ _ _ Y0_18.at_ Y1_18.at_ hsn0 hsn1  (hkeys.keep hB18)).mono ?_
      rintro e w19 ⟨AH0, nH0, cH0, rfl, H0_19, hb19⟩
      have S0_19 := S0_18.keep hb19; clear S0_18
      have G0_19 := G0_18.keep hb19; clear G0_18
      have Y0_19 := Y0_18.keep hb19; clear Y0_18
      have Y1_19 := Y1_18.keep hb19; clear Y1_18
      have hB19 := bthen hB18 hb19
      have hz19 := hb19.size
      try rw [HV0.out]
      rw [HV0.out] at H0_19
      clear Y0_19
      clear Y1_19
      go_wp2_with fail
      refine (ints_eq _ _ _ _ _ _ _ _ H0_19.at_ S0_19.at_ (by omega)).mono ?_
      rintro e w20 ⟨rfl, hb20⟩
      have S0_20 := S0_19.keep hb20; clear S0_19
      have G0_20 := G0_19.keep hb20; clear G0_19
      have H0_20 := H0_19.keep hb20; clear H0_19
      have hB20 := bthen hB19 hb20
      have hz20 := hb20.size
      clear H0_20
      clear S0_20
      go_wp2_with fail
      refine (ints_held _ _ _ _ _ _ G0_20.at_ (by omega) (by omega) (by omega)).mono ?_
      rintro e w21 ⟨rfl, hb21⟩
      have G0_21 := G0_20.keep hb21; clear G0_20
      have hB21 := bthen hB20 hb21
      have hz21 := hb21.size
      go_wp2
      go_returns
      exact ⟨rfl, hB21⟩
    · have HR1 := Lib.hid (szR_no (Int.not_le.1 hsz1))
      go_enter Tryd.func4, Tryd.ntmps4
      go_wp2_with fail
      refine (strs_sz _ _ _ _ _ _ (h0.keep (Below.refl _ _)) (by omega) (by omega)).mono ?_
      rintro e v0 ⟨rfl, hbz0⟩; rw [HR0.out]
      have hBz0 := bthen (Below.refl _ _) hbz0
      go_wp2_with fail
      refine (strs_sz _ _ _ _ _ _ (h1.keep hBz0) (by omega) (by omega)).mono ?_
      rintro e v1 ⟨rfl, hbz1⟩; rw [HR1.out]
      have hBz1 := bthen hBz0 hbz1
      go_wp2
      go_returns
      exact ⟨rfl, hBz1⟩
  · have HR0 := Lib.hid (szR_no (Int.not_le.1 hsz0))
    go_enter Tryd.func4, Tryd.ntmps4
    go_wp2_with fail
    refine (strs_sz _ _ _ _ _ _ (h0.keep (Below.refl _ _)) (by omega) (by omega)).mono ?_
    rintro e v0 ⟨rfl, hbz0⟩; rw [HR0.out]
    have hBz0 := bthen (Below.refl _ _) hbz0
    go_wp2
    go_returns
    exact ⟨rfl, hBz0⟩

theorem fnExactUnlike_shape {H : Type} {enc : TypeId × Value → H} {W : World} {args : Array Value} {ds : List (DataW H)} {p : List MemPlace}
    (hA : DataW.TrodAll enc Tryd.prog W 0 (fun _ => true) true Tryd.f4.params.toList args.toList ds p) : ∃ x0 x1, ds = [x0, x1] := by
  obtain ⟨v0, v1, d0, d1, p0, p1, rfl, rfl, rfl, h0, h1⟩ := trodAll_two hA
  exact ⟨_, _, rfl⟩

set_option maxRecDepth 100000 in
theorem fnExactUnlike_contract {H : Type} {enc : TypeId × Value → H} (W : World) (base : Nat) (args : Array Value) (ds : List (DataW H)) (p : List MemPlace)
    (hval : ∀ (j : Nat) t v, Tryd.f4.params[j]? = some t → args[j]? = some v → Value.okWide Tryd.prog W .any base t v)
    (hA : DataW.TrodAll enc Tryd.prog W 0 (fun _ => true) true Tryd.f4.params.toList args.toList ds p) (hk : KeysAt W) :
    Calls Tryd.prog 4 args W fun e W' => e = .returned (.bool true) ∧ Below W.heap.size W W' := by
  obtain ⟨v0, v1, d0, d1, p0, p1, rfl, rfl, rfl, h0, h1⟩ := trodAll_two hA
  obtain ⟨A0, n0, c0, l0, rfl, hr0, hn0, hs0⟩ := open_strs Tryd.underlying22 Tryd.underlying9 (by kernel_rfl) (hval 0 22 v0 rfl rfl) h0
  obtain ⟨A1, n1, c1, l1, rfl, hr1, hn1, hs1⟩ := open_strs Tryd.underlying22 Tryd.underlying9 (by kernel_rfl) (hval 1 22 v1 rfl rfl) h1
  exact fnExactUnlike_any _ _ _ _ _ _ _ _ W hk ⟨hr0, hn0, hs0⟩ ⟨hr1, hn1, hs1⟩

set_option maxRecDepth 100000 in
theorem fnExactUnlike_lifted (os : Os) (started : os.Started) (H : Type) (enc : TypeId × Value → H) :
    ReturnsInHanded {} Tryd.checked os 4 .any (fun w args => (Rows.fnExactUnlikeSpec.pre enc Tryd.prog Tryd.f4 [] false w args ∧ laidMetH Tryd.prog laidS w) ∧ sizedMet enc Tryd.prog Tryd.f4 (OpenSpec.ofChange Rows.fnExactUnlikeSpec) false w args)
      (Rows.fnExactUnlikeSpec.post enc Tryd.prog Tryd.f4 false true false false) := by
  refine returnsInHanded_of_change_and (C := Tryd.checked) (X := fun w _ => laidMetH Tryd.prog laidS w) (fun _ _ _ hh h => h.of_heap hh) Tryd.own started (by kernel_rfl) Tryd.func4
    (ChangeSpec.witness_shaped (enc := enc) (C := Tryd.checked) (os := os) (X := fun w _ => laidMetH Tryd.prog laidS w) false (World.doorLaid Tryd.prog 400 os) #[.slice none 0 0, .slice none 0 0] 8 rfl (World.shaped_of_RefB (by kernel_rfl) (by kernel_rfl)) (by kernel_rfl) (by kernel_rfl) (by kernel_rfl) (door_met os _)) ?_
  intro W base args ds gs before hval0 hW _ _ hL _
  have hval : ∀ (j : Nat) t v, Tryd.f4.params[j]? = some t → args[j]? = some v → Value.okWide Tryd.prog W .any base t v := hval0
  have hW' := hW
  obtain ⟨p, q, hA0, hV, rfl, hfz, hnd⟩ := hW
  have hA : DataW.TrodAll enc Tryd.prog W 0 (fun _ => true) true Tryd.f4.params.toList args.toList ds p := hA0
  refine (fnExactUnlike_contract W base args ds p hval hA (keys_of_laid hL)).mono fun e W' ⟨he, hb⟩ => ?_
  subst he
  have hds := fnExactUnlike_shape hA
  obtain ⟨gg, gt, gcs, gfu, gd, gp, rfl, _, _, _, _, _⟩ := trodVars_one (n := "loop.example/g00954/impl.shaWords") hV
  refine ⟨_, rfl, law_post_vars (P := Tryd.prog) Tryd.laidOut (of_decide_eq_true (by kernel_rfl)) (by kernel_rfl) Tryd.underlying4 hW' ?_ ?_ ?_ ?_ hb⟩
  · intro n hn g t h1 h2
    have hn' : n ∈ ["loop.example/g00954/impl.shaWords"] := hn
    simp only [List.mem_singleton] at hn'
    subst hn'
    obtain rfl := Option.some.inj (gWords.symm.trans h1)
    obtain rfl := Option.some.inj (tWords.symm.trans h2)
    exact of_decide_eq_true (by kernel_rfl)
  all_goals (obtain ⟨x0, x1, rfl⟩ := hds; rfl)

theorem fnExactUnlike_holds : Rows.FnExactUnlikeSaid :=
  OpenClaim.holds_of_wide 4 Tryd.f4 rfl rfl rfl rfl rfl rfl rfl ⟨rfl, rfl, rfl, rfl, rfl⟩ rfl rfl rfl rfl rfl (by kernel_rfl) Tryd.func4 (by kernel_rfl)
    (of_decide_eq_true (by kernel_rfl)) (by unfold Func.isWrapper; first | (rw [if_pos (by decide +kernel)]; kernel_rfl) | (rw [if_neg (by decide +kernel)]; exact ⟨rfl, rfl⟩))
    (fun os started H enc _ => fnExactUnlike_lifted os started H enc)

theorem fnExactUnlike_card_holds : Rows.FnExactUnlikeCardSaid :=
  Claim7.holds_tied_plain_at .later [] [.data] true (true, "6390478afabca9f827fdb370f858e1db9fa19eb9d670c146331534b7908023c9") false
    fnExactUnlike_holds (fun _ h => by cases h) (by kernel_rfl) (fun _ h => by cases h) fnExactUnlike_row_tie rfl ⟨rfl, rfl⟩ (by kernel_rfl) rfl
    (fun f fn hf hfn => by
      obtain rfl : f = 4 := Option.some.inj ((show Tryd.prog.funcNamed "loop.example/g00954/laws.FnExactUnlike" = some 4 by kernel_rfl).symm.trans hf) |>.symm
      obtain rfl : fn = Tryd.f4 := (Option.some.inj (Tryd.func4.symm.trans hfn)).symm
      exact ⟨by kernel_rfl, fun j t ht => by
        rw [Tryd.params4] at ht
        have hm : t ∈ [22, 22] := by simpa using Array.mem_of_getElem? ht
        have hall : ([22, 22].all fun u => !Tryd.prog.wantsStandIn u) = true := by kernel_rfl
        exact (show Tryd.prog.wantsStandIn t = false by simpa using List.all_eq_true.1 hall t hm)⟩)
    (by kernel_rfl)
end Go.Proofs.YtfbfomlgjghcmaaDoor
