/- The law FnExactTreeText holds: for every list of entries the program's TreeText answers what the reference's answers, and the list reads as before. Conditions: none. -/
import Derived.Test.YtmichbgiaoopgaaTreeText
namespace Go.Proofs.Ytmichbgiaoopgaa
open Go.ChangeShapes Go.WideShapes Go.ChangeAt Go.RowKit Go.Joins
attribute [local irreducible] EntsAt

theorem fnExactTreeText_any (A0 : Option Addr) (n0 c0 : Nat) (l0 : List Ent) (w : World) (h0 : EntsOk w A0 n0 l0)  :
    Calls Try.prog 3 #[.slice A0 n0 c0] w fun e w' => e = .returned (.bool true) ∧ Below w.heap.size w w' := by
  by_cases hsz0 : ((entsSz l0 : Nat) : Int) ≤ (1048576 : Int)
  · have HR0 := Lib.hid (szR_yes hsz0)
    have hge0 : ¬ ((1048576 : Int) - ((entsSz l0 : Nat) : Int) < 0) := by omega
    have hsn0 : entsSz l0 ≤ 1048576 := by omega
    obtain ⟨q0, hr0⟩ : ∃ q, treeText l0 = q := ⟨_, rfl⟩
    have HV0 := Lib.hid hr0; clear hr0
    go_enter Try.func3, Try.ntmps3
    go_wp2_with fail
    refine (ents_sz _ _ _ _ _ _ (h0.keep (Below.refl _ _)) (by omega) (by omega)).mono ?_
    rintro e v0 ⟨rfl, hbz0⟩; rw [HR0.out]
    have hBz0 := bthen (Below.refl _ _) hbz0
    have hz0 := hBz0.size
    go_wp2_with fail
    refine (ents_to _ _ _ _ _ (h0.at_.keep hBz0) hsn0).mono ?_
    rintro e w1 ⟨AP0, nP0, cP0, rfl, P0_1, hb1⟩
    have hB1 := bthen hBz0 hb1
    have hz1 := hb1.size
    go_wp2_with fail
    refine (treeText_spec _ _ _ _ _ P0_1.at_ hsn0 ).mono ?_
    rintro e w2 ⟨rfl, hb2⟩
    have P0_2 := P0_1.keep hb2; clear P0_1
    have hB2 := bthen hB1 hb2
    have hz2 := hb2.size
    try rw [HV0.out]
    clear P0_2
    go_wp2_with fail
    refine (ents_to _ _ _ _ _ (h0.at_.keep hB2) hsn0).mono ?_
    rintro e w3 ⟨AX0, nX0, cX0, rfl, X0_3, hb3⟩
    have hB3 := bthen hB2 hb3
    have hz3 := hb3.size
    go_wp2_with fail
    refine (treeText_impl _ _ _ _ _ X0_3.at_ hsn0 ).mono ?_
    rintro e w4 ⟨rfl, hb4⟩
    have X0_4 := X0_3.keep hb4; clear X0_3
    have hB4 := bthen hB3 hb4
    have hz4 := hb4.size
    try rw [HV0.out]
    go_wp2_with fail
    refine (ents_to _ _ _ _ _ (h0.at_.keep hB4) hsn0).mono ?_
    rintro e w5 ⟨AT0, nT0, cT0, rfl, T0_5, hb5⟩
    have X0_5 := X0_4.keep hb5; clear X0_4
    have hB5 := bthen hB4 hb5
    have hz5 := hb5.size
    go_wp2_with fail
    refine (ents_eq _ _ _ _ _ _ _ _ X0_5.at_ T0_5.at_ (by omega)).mono ?_
    rintro e w6 ⟨rfl, hb6⟩
    have X0_6 := X0_5.keep hb6; clear X0_5
    have T0_6 := T0_5.keep hb6; clear T0_5
    have hB6 := bthen hB5 hb6
    have hz6 := hb6.size
    clear T0_6
    go_wp2
    go_returns
    exact ⟨rfl, hB6⟩
  · have HR0 := Lib.hid (szR_no (Int.not_le.1 hsz0))
    go_enter Try.func3, Try.ntmps3
    go_wp2_with fail
    refine (ents_sz _ _ _ _ _ _ (h0.keep (Below.refl _ _)) (by omega) (by omega)).mono ?_
    rintro e v0 ⟨rfl, hbz0⟩; rw [HR0.out]
    have hBz0 := bthen (Below.refl _ _) hbz0
    go_wp2
    go_returns
    exact ⟨rfl, hBz0⟩

theorem fnExactTreeText_shape {H : Type} {enc : TypeId × Value → H} {W : World} {args : Array Value} {ds : List (DataW H)} {p : List MemPlace}
    (hA : DataW.TrodAll enc Try.prog W 0 (fun _ => true) true Try.f3.params.toList args.toList ds p) : ∃ x0, ds = [x0] := by
  obtain ⟨v0, d0, rfl, rfl, h0⟩ := trodAll_one hA
  exact ⟨_, rfl⟩

set_option maxRecDepth 100000 in
theorem fnExactTreeText_contract {H : Type} {enc : TypeId × Value → H} (W : World) (base : Nat) (args : Array Value) (ds : List (DataW H)) (p : List MemPlace)
    (hval : ∀ (j : Nat) t v, Try.f3.params[j]? = some t → args[j]? = some v → Value.okWide Try.prog W .any base t v)
    (hA : DataW.TrodAll enc Try.prog W 0 (fun _ => true) true Try.f3.params.toList args.toList ds p) :
    Calls Try.prog 3 args W fun e W' => e = .returned (.bool true) ∧ Below W.heap.size W W' := by
  obtain ⟨v0, d0, rfl, rfl, h0⟩ := trodAll_one hA
  obtain ⟨A0, n0, c0, l0, rfl, hr0, hn0⟩ := open_entries (hval 0 22 v0 rfl rfl) h0
  exact fnExactTreeText_any _ _ _ _ W (EntsOk.of_row hr0 hn0)

set_option maxRecDepth 100000 in
theorem fnExactTreeText_lifted (os : Os) (started : os.Started) (H : Type) (enc : TypeId × Value → H) :
    ReturnsInHanded {} Try.checked os 3 .any (Rows.fnExactTreeTextSpec.pre6 enc Try.prog Try.f3 Rows.fnExactTreeTextRow.domain false) (Rows.fnExactTreeTextSpec.post enc Try.prog Try.f3 false true false false) := by
  refine returnsInHanded_of_change (C := Try.checked) Try.own started (by kernel_rfl) Try.func3
    (ChangeSpec.witness6 (enc := enc) (C := Try.checked) false ⟨#[], #[.slice none 0 0], []⟩ 8 (by kernel_rfl) (by kernel_rfl) (by kernel_rfl) (by kernel_rfl)) ?_
  intro W base args ds gs before hval0 hW _ _
  have hval : ∀ (j : Nat) t v, Try.f3.params[j]? = some t → args[j]? = some v → Value.okWide Try.prog W .any base t v := hval0
  have hW' := hW
  obtain ⟨p, q, hA0, hV, rfl, hfz, hnd⟩ := hW
  have hA : DataW.TrodAll enc Try.prog W 0 (fun _ => true) true Try.f3.params.toList args.toList ds p := hA0
  refine (fnExactTreeText_contract W base args ds p hval hA).mono fun e W' ⟨he, hb⟩ => ?_
  subst he
  have hds := fnExactTreeText_shape hA
  obtain ⟨hgs, _⟩ := trodVars_none hV
  subst hgs
  refine ⟨_, rfl, law_post (P := Try.prog) Try.laidOut (of_decide_eq_true (by kernel_rfl)) (by kernel_rfl) Try.underlying4 hW' rfl ?_ ?_ ?_ hb⟩
  all_goals (obtain ⟨x0, rfl⟩ := hds; rfl)

theorem fnExactTreeText_holds : Rows.FnExactTreeTextSaid :=
  OpenClaim.holds_of_wide 3 Try.f3 rfl rfl rfl rfl rfl rfl rfl ⟨rfl, rfl, rfl, rfl, rfl⟩ rfl rfl rfl rfl rfl (by kernel_rfl) Try.func3 (by kernel_rfl)
    (of_decide_eq_true (by kernel_rfl)) (by unfold Func.isWrapper; first | (rw [if_pos (by decide +kernel)]; kernel_rfl) | (rw [if_neg (by decide +kernel)]; exact ⟨rfl, rfl⟩))
    (fun os started H enc _ => fnExactTreeText_lifted os started H enc)
end Go.Proofs.Ytmichbgiaoopgaa
