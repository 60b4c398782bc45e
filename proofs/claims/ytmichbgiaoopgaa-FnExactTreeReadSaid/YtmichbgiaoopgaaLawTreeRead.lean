/- The law FnExactTreeRead holds: for every text the program's TreeRead answers what the reference's answers, in memory of its own. Conditions: none. -/
import Derived.Test.YtmichbgiaoopgaaTreeReadS
import Derived.Test.YtmichbgiaoopgaaEntRow
namespace Go.Proofs.Ytmichbgiaoopgaa
open Go.ChangeShapes Go.WideShapes Go.ChangeAt Go.RowKit Go.Joins
attribute [local irreducible] EntsAt trL trB

theorem fnExactTreeRead_any (s0 : ByteArray) (w : World)  (h0 : s0.size ≤ 9223372036854775807) :
    Calls Try.prog 5 #[.string s0] w fun e w' => e = .returned (.bool true) ∧ Below w.heap.size w w' := by
  by_cases hsz0 : (s0.size : Int) ≤ 1048576
  · have hge0 : ¬ ((1048576 : Int) < (s0.size : Int)) := by omega
    obtain ⟨r0, hr0⟩ : ∃ r, trL s0 = r := ⟨_, rfl⟩
    have hrs0 : entsSz r0 ≤ 1048624 := by rw [← hr0]; exact trL_sz (by omega)
    have HV0 := Lib.hid hr0; clear hr0
    obtain ⟨q1, hr1⟩ : ∃ q, trB s0 = q := ⟨_, rfl⟩
    have HV1 := Lib.hid hr1; clear hr1
    go_enter Try.func5, Try.ntmps5
    have hBz := Below.refl w.heap.size w
    have hz0 := hBz.size
    go_wp2_with fail
    refine (treeRead_spec1 _ _   (by omega)).mono ?_
    rintro e w1 ⟨AS0, nS0, cS0, rfl, S0_1, hb1⟩
    have hB1 := bthen hBz hb1
    have hz1 := hb1.size
    try rw [HV0.out]
    rw [HV0.out] at S0_1
    try rw [HV1.out]
    go_wp2_with fail
    refine (treeRead_impl1 _ _   (by omega)).mono ?_
    rintro e w2 ⟨AG0, nG0, cG0, rfl, G0_2, hb2⟩
    have S0_2 := S0_1.keep hb2; clear S0_1
    have hB2 := bthen hB1 hb2
    have hz2 := hb2.size
    try rw [HV0.out]
    rw [HV0.out] at G0_2
    try rw [HV1.out]
    go_wp2_with fail
    refine (ents_eq _ _ _ _ _ _ _ _ G0_2.at_ S0_2.at_ (by omega)).mono ?_
    rintro e w3 ⟨rfl, hb3⟩
    have S0_3 := S0_2.keep hb3; clear S0_2
    have G0_3 := G0_2.keep hb3; clear G0_2
    have hB3 := bthen hB2 hb3
    have hz3 := hb3.size
    have hcr0 := ents_cnt r0
    go_wp2_with fail
    refine (ents_mark _ _ _ _ _ _ _ _ G0_3 (by omega) (by omega) (by omega)).mono ?_
    rintro e w4 ⟨rfl, G0_4, hc4⟩
    have S0_4 := S0_3.ch hc4 (iv_off (by omega)); clear S0_3
    clear G0_3
    have hB4 := hc4.ivb hB3 (by omega) (Nat.le_refl _)
    have hz4 := hc4.size
    go_wp2_with fail
    refine (ents_held _ _ _ _ _ _ G0_4.at_ (by omega) (by omega) (by omega)).mono ?_
    rintro e w5 ⟨rfl, hb5⟩
    have S0_5 := S0_4.keep hb5; clear S0_4
    have G0_5 := G0_4.keep hb5; clear G0_4
    have hB5 := bthen hB4 hb5
    have hz5 := hb5.size
    go_wp2_with fail
    refine (treeRead_impl1 _ _   (by omega)).mono ?_
    rintro e w6 ⟨AH0, nH0, cH0, rfl, H0_6, hb6⟩
    have S0_6 := S0_5.keep hb6; clear S0_5
    have G0_6 := G0_5.keep hb6; clear G0_5
    have hB6 := bthen hB5 hb6
    have hz6 := hb6.size
    try rw [HV0.out]
    rw [HV0.out] at H0_6
    try rw [HV1.out]
    go_wp2_with fail
    refine (ents_eq _ _ _ _ _ _ _ _ H0_6.at_ S0_6.at_ (by omega)).mono ?_
    rintro e w7 ⟨rfl, hb7⟩
    have S0_7 := S0_6.keep hb7; clear S0_6
    have G0_7 := G0_6.keep hb7; clear G0_6
    have H0_7 := H0_6.keep hb7; clear H0_6
    have hB7 := bthen hB6 hb7
    have hz7 := hb7.size
    clear H0_7
    clear S0_7
    go_wp2_with fail
    refine (ents_held _ _ _ _ _ _ G0_7.at_ (by omega) (by omega) (by omega)).mono ?_
    rintro e w8 ⟨rfl, hb8⟩
    have G0_8 := G0_7.keep hb8; clear G0_7
    have hB8 := bthen hB7 hb8
    have hz8 := hb8.size
    go_wp2
    go_returns
    exact ⟨rfl, hB8⟩
  · have hge0 : (1048576 : Int) < (s0.size : Int) := by omega
    go_enter Try.func5, Try.ntmps5
    go_wp2
    go_returns
    exact ⟨rfl, Below.refl _ _⟩

theorem fnExactTreeRead_shape {H : Type} {enc : TypeId × Value → H} {W : World} {args : Array Value} {ds : List (DataW H)} {p : List MemPlace}
    (hA : DataW.TrodAll enc Try.prog W 0 (fun _ => true) true Try.f5.params.toList args.toList ds p) : ∃ x0, ds = [x0] := by
  obtain ⟨v0, d0, rfl, rfl, h0⟩ := trodAll_one hA
  exact ⟨_, rfl⟩

set_option maxRecDepth 100000 in
theorem fnExactTreeRead_contract {H : Type} {enc : TypeId × Value → H} (W : World) (base : Nat) (args : Array Value) (ds : List (DataW H)) (p : List MemPlace)
    (hval : ∀ (j : Nat) t v, Try.f5.params[j]? = some t → args[j]? = some v → Value.okWide Try.prog W .any base t v)
    (hA : DataW.TrodAll enc Try.prog W 0 (fun _ => true) true Try.f5.params.toList args.toList ds p) :
    Calls Try.prog 5 args W fun e W' => e = .returned (.bool true) ∧ Below W.heap.size W W' := by
  obtain ⟨v0, d0, rfl, rfl, h0⟩ := trodAll_one hA
  obtain ⟨s0, rfl, _, _, hs0⟩ := Go.ChangeMaps.open_string Try.underlying9 (hval 0 9 v0 rfl rfl) h0
  exact fnExactTreeRead_any s0 W hs0

set_option maxRecDepth 100000 in
theorem fnExactTreeRead_lifted (os : Os) (started : os.Started) (H : Type) (enc : TypeId × Value → H) :
    ReturnsInHanded {} Try.checked os 5 .any (Rows.fnExactTreeReadSpec.pre6 enc Try.prog Try.f5 Rows.fnExactTreeReadRow.domain false) (Rows.fnExactTreeReadSpec.post enc Try.prog Try.f5 false true false false) := by
  refine returnsInHanded_of_change (C := Try.checked) Try.own started (by kernel_rfl) Try.func5
    (ChangeSpec.witness6 (enc := enc) (C := Try.checked) false ⟨#[], #[.string .empty], []⟩ 8 (by kernel_rfl) (by kernel_rfl) (by kernel_rfl) (by kernel_rfl)) ?_
  intro W base args ds gs before hval0 hW _ _
  have hval : ∀ (j : Nat) t v, Try.f5.params[j]? = some t → args[j]? = some v → Value.okWide Try.prog W .any base t v := hval0
  have hW' := hW
  obtain ⟨p, q, hA0, hV, rfl, hfz, hnd⟩ := hW
  have hA : DataW.TrodAll enc Try.prog W 0 (fun _ => true) true Try.f5.params.toList args.toList ds p := hA0
  refine (fnExactTreeRead_contract W base args ds p hval hA).mono fun e W' ⟨he, hb⟩ => ?_
  subst he
  have hds := fnExactTreeRead_shape hA
  obtain ⟨hgs, _⟩ := trodVars_none hV
  subst hgs
  refine ⟨_, rfl, law_post (P := Try.prog) Try.laidOut (of_decide_eq_true (by kernel_rfl)) (by kernel_rfl) Try.underlying4 hW' rfl ?_ ?_ ?_ hb⟩
  all_goals (obtain ⟨x0, rfl⟩ := hds; rfl)

theorem fnExactTreeRead_holds : Rows.FnExactTreeReadSaid :=
  OpenClaim.holds_of_wide 5 Try.f5 rfl rfl rfl rfl rfl rfl rfl ⟨rfl, rfl, rfl, rfl, rfl⟩ rfl rfl rfl rfl rfl (by kernel_rfl) Try.func5 (by kernel_rfl)
    (of_decide_eq_true (by kernel_rfl)) (by unfold Func.isWrapper; first | (rw [if_pos (by decide +kernel)]; kernel_rfl) | (rw [if_neg (by decide +kernel)]; exact ⟨rfl, rfl⟩))
    (fun os started H enc _ => fnExactTreeRead_lifted os started H enc)
end Go.Proofs.Ytmichbgiaoopgaa
