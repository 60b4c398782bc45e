/- The law FnExactBatches. -/
import Derived.Test.YtdphdnllhmnelaaJ2
import Derived.Test.YtdphdnllhmnelaaJ6
import Derived.Test.YtdphdnllhmnelaaJ7
import Derived.Test.YtdphdnllhmnelaaJ0
namespace Go.Proofs.Ytdphdnllhmnelaa
open Go.RowKit Go.ChangeShapes Go.WideShapes Go.ChangeAt Go.Deep
section
attribute [local irreducible] StrR IntR StrO IntO RowR RowO StrsAt IntsAt clashB cmsOkB lv lvTo mxL rowsOf rowOf lvI batchL

theorem batchesW_spec (A : Option Addr) (n c : Nat) (l : List Cm) (w : World) (h : CmsAt w A n c l) (_hs : cmsSz l ≤ 1048576) (hb : cmsB l) :
    Calls Try.prog 11 #[.slice A n c] w fun e w' => ∃ A' n' c', e = .returned (.slice A' n' c') ∧ IntzsIn w.heap.size w'.heap.size w' A' n' c' (batchL l) ∧ Below w.heap.size w w' := by
  refine (batches_spec l A n c w h hb).mono ?_
  rintro e w' ⟨A', n', c', rfl, h1, h2⟩
  exact ⟨A', n', c', rfl, ⟨h1⟩, h2⟩
theorem batchesW_impl (A : Option Addr) (n c : Nat) (l : List Cm) (w : World) (lo hi : Nat) (h : CmsIn lo hi w A n c l) (_hs : cmsSz l ≤ 1048576) (hb : cmsB l) :
    Calls Try.prog 13 #[.slice A n c] w fun e w' => ∃ A' n' c', e = .returned (.slice A' n' c') ∧ IntzsIn w.heap.size w'.heap.size w' A' n' c' (batchL l) ∧ Below w.heap.size w w' := by
  refine (batches_impl l A n c w h.at_ hb h.cap).mono ?_
  rintro e w' ⟨A', n', c', rfl, h1, h2⟩
  exact ⟨A', n', c', rfl, ⟨h1⟩, h2⟩

set_option maxRecDepth 8000 in
set_option maxHeartbeats 4000000 in
theorem fnExactBatches_any (A0 : Option Addr) (n0 c0 : Nat) (l0 : List Cm) (w : World) (h0 : CmsOk w A0 n0 c0 l0)  :
    Calls Try.prog 3 #[.slice A0 n0 c0] w fun e w' => e = .returned (.bool true) ∧ Below w.heap.size w w' := by
  by_cases hsz0 : ((cmsSz l0 : Nat) : Int) ≤ (1048576 : Int)
  · have HR0 := Lib.hid (szR_yes hsz0)
    have hge0 : ¬ ((1048576 : Int) - ((cmsSz l0 : Nat) : Int) < 0) := by omega
    have hsn0 : cmsSz l0 ≤ 1048576 := by omega
    obtain ⟨r0, hr0⟩ : ∃ r, batchL l0 = r := ⟨_, rfl⟩
    have hrs0 : intssSz r0 ≤ 1048576 := by rw [← hr0]; exact (by have := batch_sz l0; omega)
    have HV0 := Lib.hid hr0; clear hr0
    go_enter Try.func3, Try.ntmps3
    go_wp2_with fail
    refine (cmsW_sz _ _ _ _ _ _ (h0.keep (Below.refl _ _)) (by omega) (by omega)).mono ?_
    rintro e v0 ⟨rfl, hbz0⟩; rw [HR0.out]
    have hBz0 := bthen (Below.refl _ _) hbz0
    have hz0 := hBz0.size
    go_wp2_with fail
    refine (cmsW_to _ _ _ _ _ (h0.at_.keep hBz0) hsn0).mono ?_
    rintro e w1 ⟨AP0, nP0, cP0, rfl, P0_1, hb1⟩
    have hB1 := bthen hBz0 hb1
    have hz1 := hb1.size
    go_wp2_with fail
    refine (batchesW_spec _ _ _ _ _ P0_1.at_ hsn0  h0.bd).mono ?_
    rintro e w2 ⟨AS0, nS0, cS0, rfl, S0_2, hb2⟩
    have P0_2 := P0_1.keep hb2; clear P0_1
    have hB2 := bthen hB1 hb2
    have hz2 := hb2.size
    try rw [HV0.out]
    rw [HV0.out] at S0_2
    clear P0_2
    go_wp2_with fail
    refine (cmsW_to _ _ _ _ _ (h0.at_.keep hB2) hsn0).mono ?_
    rintro e w3 ⟨AX0, nX0, cX0, rfl, X0_3, hb3⟩
    have S0_3 := S0_2.keep hb3; clear S0_2
    have hB3 := bthen hB2 hb3
    have hz3 := hb3.size
    go_wp2_with fail
    refine (batchesW_impl _ _ _ _ _ _ _ X0_3 hsn0  h0.bd).mono ?_
    rintro e w4 ⟨AG0, nG0, cG0, rfl, G0_4, hb4⟩
    have S0_4 := S0_3.keep hb4; clear S0_3
    have X0_4 := X0_3.keep hb4; clear X0_3
    have hB4 := bthen hB3 hb4
    have hz4 := hb4.size
    try rw [HV0.out]
    rw [HV0.out] at G0_4
    go_wp2_with fail
    refine (intzs_eq _ _ _ _ _ _ _ _ G0_4.at_ S0_4.at_ (by omega)).mono ?_
    rintro e w5 ⟨rfl, hb5⟩
    have S0_5 := S0_4.keep hb5; clear S0_4
    have X0_5 := X0_4.keep hb5; clear X0_4
    have G0_5 := G0_4.keep hb5; clear G0_4
    have hB5 := bthen hB4 hb5
    have hz5 := hb5.size
    go_wp2_with fail
    refine (cmsW_to _ _ _ _ _ (h0.at_.keep hB5) hsn0).mono ?_
    rintro e w6 ⟨AT0, nT0, cT0, rfl, T0_6, hb6⟩
    have S0_6 := S0_5.keep hb6; clear S0_5
    have X0_6 := X0_5.keep hb6; clear X0_5
    have G0_6 := G0_5.keep hb6; clear G0_5
    have hB6 := bthen hB5 hb6
    have hz6 := hb6.size
    go_wp2_with fail
    refine (cmsW_eq _ _ _ _ _ _ _ _ X0_6.at_ T0_6.at_ (by omega)).mono ?_
    rintro e w7 ⟨rfl, hb7⟩
    have S0_7 := S0_6.keep hb7; clear S0_6
    have X0_7 := X0_6.keep hb7; clear X0_6
    have G0_7 := G0_6.keep hb7; clear G0_6
    have T0_7 := T0_6.keep hb7; clear T0_6
    have hB7 := bthen hB6 hb7
    have hz7 := hb7.size
    clear T0_7
    have hcn0 := cmsW_cnt l0
    have hcr0 := intzs_cnt r0
    go_wp2_with fail
    refine (cmsW_mark _ _ _ _ _ _ _ _ X0_7 (by omega) (by omega) (by omega)).mono ?_
    rintro e w8 ⟨rfl, X0_8, hc8⟩
    have S0_8 := S0_7.ch hc8 (iv_off (by omega)); clear S0_7
    have G0_8 := G0_7.ch hc8 (iv_off (by omega)); clear G0_7
    clear X0_7
    have hB8 := hc8.ivb hB7 (by omega) (Nat.le_refl _)
    have hz8 := hc8.size
    clear X0_8
    go_wp2_with fail
    refine (intzs_eq _ _ _ _ _ _ _ _ G0_8.at_ S0_8.at_ (by omega)).mono ?_
    rintro e w9 ⟨rfl, hb9⟩
    have S0_9 := S0_8.keep hb9; clear S0_8
    have G0_9 := G0_8.keep hb9; clear G0_8
    have hB9 := bthen hB8 hb9
    have hz9 := hb9.size
    go_wp2_with fail
    refine (intzs_mark _ _ _ _ _ _ _ _ G0_9 (by omega) (by omega) (by omega)).mono ?_
    rintro e w10 ⟨rfl, G0_10, hc10⟩
    have S0_10 := S0_9.ch hc10 (iv_off (by omega)); clear S0_9
    clear G0_9
    have hB10 := hc10.ivb hB9 (by omega) (Nat.le_refl _)
    have hz10 := hc10.size
    go_wp2_with fail
    refine (intzs_held _ _ _ _ _ _ G0_10.at_ (by omega) (by omega) (by omega)).mono ?_
    rintro e w11 ⟨rfl, hb11⟩
    have S0_11 := S0_10.keep hb11; clear S0_10
    have G0_11 := G0_10.keep hb11; clear G0_10
    have hB11 := bthen hB10 hb11
    have hz11 := hb11.size
    go_wp2_with fail
    refine (cmsW_to _ _ _ _ _ (h0.at_.keep hB11) hsn0).mono ?_
    rintro e w12 ⟨AY0, nY0, cY0, rfl, Y0_12, hb12⟩
    have S0_12 := S0_11.keep hb12; clear S0_11
    have G0_12 := G0_11.keep hb12; clear G0_11
    have hB12 := bthen hB11 hb12
    have hz12 := hb12.size
    go_wp2_with fail
    refine (batchesW_impl _ _ _ _ _ _ _ Y0_12 hsn0  h0.bd).mono ?_
    rintro e w13 ⟨AH0, nH0, cH0, rfl, H0_13, hb13⟩
    have S0_13 := S0_12.keep hb13; clear S0_12
    have G0_13 := G0_12.keep hb13; clear G0_12
    have Y0_13 := Y0_12.keep hb13; clear Y0_12
    have hB13 := bthen hB12 hb13
    have hz13 := hb13.size
    try rw [HV0.out]
    rw [HV0.out] at H0_13
    clear Y0_13
    go_wp2_with fail
    refine (intzs_eq _ _ _ _ _ _ _ _ H0_13.at_ S0_13.at_ (by omega)).mono ?_
    rintro e w14 ⟨rfl, hb14⟩
    have S0_14 := S0_13.keep hb14; clear S0_13
    have G0_14 := G0_13.keep hb14; clear G0_13
    have H0_14 := H0_13.keep hb14; clear H0_13
    have hB14 := bthen hB13 hb14
    have hz14 := hb14.size
    clear H0_14
    clear S0_14
    go_wp2_with fail
    refine (intzs_held _ _ _ _ _ _ G0_14.at_ (by omega) (by omega) (by omega)).mono ?_
    rintro e w15 ⟨rfl, hb15⟩
    have G0_15 := G0_14.keep hb15; clear G0_14
    have hB15 := bthen hB14 hb15
    have hz15 := hb15.size
    go_wp2
    go_returns
    exact ⟨rfl, hB15⟩
  · have HR0 := Lib.hid (szR_no (Int.not_le.1 hsz0))
    go_enter Try.func3, Try.ntmps3
    go_wp2_with fail
    refine (cmsW_sz _ _ _ _ _ _ (h0.keep (Below.refl _ _)) (by omega) (by omega)).mono ?_
    rintro e v0 ⟨rfl, hbz0⟩; rw [HR0.out]
    have hBz0 := bthen (Below.refl _ _) hbz0
    go_wp2
    go_returns
    exact ⟨rfl, hBz0⟩
end
theorem fnExactBatches_shape {H : Type} {enc : TypeId × Value → H} {W : World} {args : Array Value} {ds : List (DataW H)} {p : List MemPlace}
    (hA : DataW.TrodAll enc Try.prog W 0 (fun _ => true) true Try.f3.params.toList args.toList ds p) : ∃ x0, ds = [x0] := by
  obtain ⟨v0, d0, rfl, rfl, h0⟩ := trodAll_one hA
  exact ⟨_, rfl⟩

set_option maxRecDepth 100000 in
theorem fnExactBatches_contract {H : Type} {enc : TypeId × Value → H} (W : World) (base : Nat) (args : Array Value) (ds : List (DataW H)) (p : List MemPlace)
    (hval : ∀ (j : Nat) t v, Try.f3.params[j]? = some t → args[j]? = some v → Value.okWide Try.prog W .any base t v)
    (hA : DataW.TrodAll enc Try.prog W 0 (fun _ => true) true Try.f3.params.toList args.toList ds p) :
    Calls Try.prog 3 args W fun e W' => e = .returned (.bool true) ∧ Below W.heap.size W W' := by
  obtain ⟨v0, d0, rfl, rfl, h0⟩ := trodAll_one hA
  obtain ⟨A0, n0, c0, l0, rfl, ok0⟩ := open_cms (hval 0 22 v0 rfl rfl) h0
  exact fnExactBatches_any _ _ _ _ W ok0

set_option maxRecDepth 100000 in
theorem fnExactBatches_lifted (os : Os) (started : os.Started) (H : Type) (enc : TypeId × Value → H) :
    ReturnsInHanded {} Try.checked os 3 .any (Rows.fnExactBatchesSpec.pre6 enc Try.prog Try.f3 Rows.fnExactBatchesRow.domain false) (Rows.fnExactBatchesSpec.post enc Try.prog Try.f3 false true false false) := by
  refine returnsInHanded_of_change (C := Try.checked) Try.own started (by kernel_rfl) Try.func3
    (ChangeSpec.witness6 (enc := enc) (C := Try.checked) false ⟨#[], #[.slice none 0 0], []⟩ 8 (by kernel_rfl) (by kernel_rfl) (by kernel_rfl) (by kernel_rfl)) ?_
  intro W base args ds gs before hval0 hW _ _
  have hval : ∀ (j : Nat) t v, Try.f3.params[j]? = some t → args[j]? = some v → Value.okWide Try.prog W .any base t v := hval0
  have hW' := hW
  obtain ⟨p, q, hA0, hV, rfl, hfz, hnd⟩ := hW
  have hA : DataW.TrodAll enc Try.prog W 0 (fun _ => true) true Try.f3.params.toList args.toList ds p := hA0
  refine (fnExactBatches_contract W base args ds p hval hA).mono fun e W' ⟨he, hb⟩ => ?_
  subst he
  have hds := fnExactBatches_shape hA
  obtain ⟨hgs, _⟩ := trodVars_none hV
  subst hgs
  refine ⟨_, rfl, law_post (P := Try.prog) Try.laidOut (of_decide_eq_true (by kernel_rfl)) (by kernel_rfl) Try.underlying4 hW' rfl ?_ ?_ ?_ hb⟩
  all_goals (obtain ⟨x0, rfl⟩ := hds; rfl)

theorem fnExactBatches_holds : Rows.FnExactBatchesSaid :=
  OpenClaim.holds_of_wide 3 Try.f3 rfl rfl rfl rfl rfl rfl rfl ⟨rfl, rfl, rfl, rfl, rfl⟩ rfl rfl rfl rfl rfl (by kernel_rfl) Try.func3 (by kernel_rfl)
    (of_decide_eq_true (by kernel_rfl)) (by unfold Func.isWrapper; first | (rw [if_pos (by decide +kernel)]; kernel_rfl) | (rw [if_neg (by decide +kernel)]; exact ⟨rfl, rfl⟩))
    (fun os started H enc _ => fnExactBatches_lifted os started H enc)
end Go.Proofs.Ytdphdnllhmnelaa
