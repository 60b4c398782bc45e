/- The law FnExactSetOk holds: for every list of strings the program's SetOk answers what the reference's answers, and the list reads as before. Conditions: none. -/
import Derived.Test.YtapacjcaaipfdaaFrame
import Derived.Test.YtapacjcaaipfdaaLawStrs
import Derived.Test.YtapacjcaaipfdaaSets
namespace Go.Proofs.Ytapacjcaaipfdaa
open Go.ChangeShapes Go.WideShapes Go.ChangeAt Go.RowKit Go.Joins

theorem fnExactSetOk_any (A : Option Addr) (n c : Nat) (l : List ByteArray) (w : World) (h : StrsAt w A n l) (hn : n ≤ 9223372036854775807) (hs : ∀ i, i < n → (sAt l i).size ≤ 9223372036854775807) :
    Calls Try.prog 6 #[.slice A n c] w fun e w' => e = .returned (.bool true) ∧ Below w.heap.size w w' := by
  have H := Lib.hid h
  by_cases hsz : (strsSz l : Int) ≤ 1048576
  · have hr := szR_yes hsz
    have HR := Lib.hid hr; clear hr
    have hnn : n ≤ 1048576 := by have := h.1; unfold strsSz at hsz; omega
    go_enter Try.func6, Try.ntmps6
    go_wp2_with fail
    refine (szStrs_any A n c l _ _ h hn (by omega) (by omega) hs).mono ?_
    rintro e w1 ⟨rfl, rfl⟩
    rw [HR.out]
    have hge : ¬ ((1048576 : Int) - (strsSz l : Nat) < 0) := by omega
    go_wp2_with fail
    refine (toStrs_any A n c l _ h (by omega)).mono ?_
    rintro e w1 ⟨g1, rfl, ho1, hb1⟩
    have hs1 := StrsAt.of_own ho1
    clear ho1
    go_wp2_with fail
    refine (setOk_spec _ n n l _ hs1 hn).mono ?_
    rintro e w2' ⟨rfl, hb2'⟩
    have hbx := hb1.trans (hb2'.mono hb1.size)
    clear hb1 hb2' hs1
    go_wp2_with fail
    refine (toStrs_any A n c l _ (h.keep hbx) (by omega)).mono ?_
    rintro e w2 ⟨g2, rfl, ho2, hb2⟩
    have hs2 := StrsAt.of_own ho2
    clear ho2
    go_wp2_with fail
    refine (setOk_impl _ n n l _ hs2 hn).mono ?_
    rintro e w3 ⟨rfl, rfl⟩
    have hbb := hbx.trans (hb2.mono hbx.size)
    go_wp2_with fail
    refine (toStrs_any A n c l _ (h.keep hbb) (by omega)).mono ?_
    rintro e w3 ⟨g3, rfl, ho3, hb3⟩
    have hs3 := StrsAt.of_own ho3
    clear ho3
    go_wp2_with fail
    refine (eqStrs_any _ _ n n n n l l _ (hs2.keep hb3) hs3 hn hn).mono ?_
    rintro e w4 ⟨rfl, hb4⟩
    have hbc := hbb.trans (hb3.mono hbb.size)
    have hbd := hbc.trans (hb4.mono hbc.size)
    go_wp2
    all_goals go_returns
    exact ⟨rfl, hbd⟩
  · have hr := szR_no (Int.not_le.1 hsz)
    have HR := Lib.hid hr; clear hr
    go_enter Try.func6, Try.ntmps6
    go_wp2_with fail
    refine (szStrs_any A n c l _ _ h hn (by omega) (by omega) hs).mono ?_
    rintro e w1 ⟨rfl, rfl⟩
    rw [HR.out]
    go_wp2
    go_returns
    exact ⟨rfl, Below.refl _ _⟩

theorem fnExactSetOk_shape {H : Type} {enc : TypeId × Value → H} {W : World} {args : Array Value} {ds : List (DataW H)} {p : List MemPlace}
    (hA : DataW.TrodAll enc Try.prog W 0 (fun _ => true) true Try.f6.params.toList args.toList ds p) : ∃ x0, ds = [x0] := by
  obtain ⟨v0, d0, rfl, rfl, h0⟩ := trodAll_one hA
  exact ⟨_, rfl⟩

theorem fnExactSetOk_contract {H : Type} {enc : TypeId × Value → H} (W : World) (base : Nat) (args : Array Value) (ds : List (DataW H)) (p : List MemPlace)
    (hval : ∀ (j : Nat) t v, Try.f6.params[j]? = some t → args[j]? = some v → Value.okWide Try.prog W .any base t v)
    (hA : DataW.TrodAll enc Try.prog W 0 (fun _ => true) true Try.f6.params.toList args.toList ds p) :
    Calls Try.prog 6 args W fun e W' => e = .returned (.bool true) ∧ Below W.heap.size W W' := by
  obtain ⟨v0, d0, rfl, rfl, h0⟩ := trodAll_one hA
  obtain ⟨A0, n0, c0, l0, rfl, hr0, hn0, hs0⟩ := open_strs Try.underlying32 Try.underlying9 (by kernel_rfl) (hval 0 32 v0 rfl rfl) h0
  exact fnExactSetOk_any A0 n0 c0 l0 W hr0 hn0 hs0

set_option maxRecDepth 100000 in
theorem fnExactSetOk_lifted (os : Os) (started : os.Started) (H : Type) (enc : TypeId × Value → H) :
    ReturnsInHanded {} Try.checked os 6 .any (Rows.fnExactSetOkSpec.pre6 enc Try.prog Try.f6 Rows.fnExactSetOkRow.domain false) (Rows.fnExactSetOkSpec.post enc Try.prog Try.f6 false true false false) := by
  refine returnsInHanded_of_change (C := Try.checked) Try.own started (by kernel_rfl) Try.func6
    (ChangeSpec.witness6 (enc := enc) (C := Try.checked) false ⟨#[], #[.slice none 0 0], []⟩ 8 (by kernel_rfl) (by kernel_rfl) (by kernel_rfl) (by kernel_rfl)) ?_
  intro W base args ds gs before hval0 hW _ _
  have hval : ∀ (j : Nat) t v, Try.f6.params[j]? = some t → args[j]? = some v → Value.okWide Try.prog W .any base t v := hval0
  have hW' := hW
  obtain ⟨p, q, hA0, hV, rfl, hfz, hnd⟩ := hW
  have hA : DataW.TrodAll enc Try.prog W 0 (fun _ => true) true Try.f6.params.toList args.toList ds p := hA0
  refine (fnExactSetOk_contract W base args ds p hval hA).mono fun e W' ⟨he, hb⟩ => ?_
  subst he
  have hds := fnExactSetOk_shape hA
  obtain ⟨hgs, _⟩ := trodVars_none hV
  subst hgs
  refine ⟨_, rfl, law_post (P := Try.prog) Try.laidOut (of_decide_eq_true (by kernel_rfl)) (by kernel_rfl) Try.underlying4 hW' rfl ?_ ?_ ?_ hb⟩
  all_goals (obtain ⟨x0, rfl⟩ := hds; rfl)

theorem fnExactSetOk_holds : Rows.FnExactSetOkSaid :=
  OpenClaim.holds_of_wide 6 Try.f6 rfl rfl rfl rfl rfl rfl rfl ⟨rfl, rfl, rfl, rfl, rfl⟩ rfl rfl rfl rfl rfl (by kernel_rfl) Try.func6 (by kernel_rfl)
    (of_decide_eq_true (by kernel_rfl)) (by unfold Func.isWrapper; first | (rw [if_pos (by decide +kernel)]; kernel_rfl) | (rw [if_neg (by decide +kernel)]; exact ⟨rfl, rfl⟩))
    (fun os started H enc _ => fnExactSetOk_lifted os started H enc)
end Go.Proofs.Ytapacjcaaipfdaa
