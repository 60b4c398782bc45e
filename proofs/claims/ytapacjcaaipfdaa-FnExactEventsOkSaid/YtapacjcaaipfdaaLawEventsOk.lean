/- The law FnExactEventsOk holds: for every list of events the program's EventsOk answers what the reference's answers, and the list reads as before. Conditions: none. -/
import Derived.Test.YtapacjcaaipfdaaLawEvents
namespace Go.Proofs.Ytapacjcaaipfdaa
open Go.ChangeShapes Go.WideShapes Go.ChangeAt Go.RowKit Go.Joins

theorem fnExactEventsOk_any (A : Option Addr) (n c : Nat) (l : List Ev) (w : World) (h : EvsAt w A n l) (hn : n ≤ 9223372036854775807) (hs : ∀ i, i < n → (eAt l i).x.size ≤ 9223372036854775807) :
    Calls Try.prog 11 #[.slice A n c] w fun e w' => e = .returned (.bool true) ∧ Below w.heap.size w w' := by
  by_cases hsz : (evsSz l : Int) ≤ 1048576
  · have HR := Lib.hid (szR_yes hsz)
    have hnn : n ≤ 1048576 := by have := h.1; unfold evsSz at hsz; omega
    have hge : ¬ ((1048576 : Int) - (evsSz l : Nat) < 0) := by omega
    go_enter Try.func11, Try.ntmps11
    go_wp2_with fail
    refine (szEvents_any A n c l _ _ h hn (by omega) (by omega) hs).mono ?_
    rintro e w1 ⟨rfl, hb1⟩
    rw [HR.out]
    go_wp2_with fail
    refine (toEvents_any A n c l _ (h.keep hb1) (by omega)).mono ?_
    rintro e w2 ⟨g2, x2, rfl, ho2, hx2, hb2⟩
    have hB2 := bthen hb1 hb2
    have hs2 := EvsAt.of_own ho2 h.1 hx2
    clear ho2
    go_wp2_with fail
    refine (eventsOk_spec _ n n l _ hs2 (by omega)).mono ?_
    rintro e w3 ⟨rfl, hb3⟩
    have hB3 := bthen hB2 hb3
    go_wp2_with fail
    refine (toEvents_any A n c l _ (h.keep hB3) (by omega)).mono ?_
    rintro e w4 ⟨g4, x4, rfl, ho4, hx4, hb4⟩
    have hB4 := bthen hB3 hb4
    have hs4 := EvsAt.of_own ho4 h.1 hx4
    clear ho4 hs2
    go_wp2_with fail
    refine (eventsOk_impl _ n n l _ hs4 (by omega)).mono ?_
    rintro e w5 ⟨rfl, hb5⟩
    have hB5 := bthen hB4 hb5
    go_wp2_with fail
    refine (toEvents_any A n c l _ (h.keep hB5) (by omega)).mono ?_
    rintro e w6 ⟨g6, x6, rfl, ho6, hx6, hb6⟩
    have hB6 := bthen hB5 hb6
    have hs6 := EvsAt.of_own ho6 h.1 hx6
    clear ho6
    go_wp2_with fail
    refine (eqEvents_same _ _ n n n l _ ((hs4.keep hb5).keep hb6) hs6 (by omega)).mono ?_
    rintro e w7 ⟨rfl, hb7⟩
    go_wp2
    all_goals go_returns
    exact ⟨rfl, bthen hB6 hb7⟩
  · have HR := Lib.hid (szR_no (Int.not_le.1 hsz))
    go_enter Try.func11, Try.ntmps11
    go_wp2_with fail
    refine (szEvents_any A n c l _ _ h hn (by omega) (by omega) hs).mono ?_
    rintro e w1 ⟨rfl, hb1⟩
    rw [HR.out]
    go_wp2
    go_returns
    exact ⟨rfl, hb1⟩

theorem fnExactEventsOk_shape {H : Type} {enc : TypeId × Value → H} {W : World} {args : Array Value} {ds : List (DataW H)} {p : List MemPlace}
    (hA : DataW.TrodAll enc Try.prog W 0 (fun _ => true) true Try.f11.params.toList args.toList ds p) : ∃ x0, ds = [x0] := by
  obtain ⟨v0, d0, rfl, rfl, h0⟩ := trodAll_one hA
  exact ⟨_, rfl⟩

theorem fnExactEventsOk_contract {H : Type} {enc : TypeId × Value → H} (W : World) (base : Nat) (args : Array Value) (ds : List (DataW H)) (p : List MemPlace)
    (hval : ∀ (j : Nat) t v, Try.f11.params[j]? = some t → args[j]? = some v → Value.okWide Try.prog W .any base t v)
    (hA : DataW.TrodAll enc Try.prog W 0 (fun _ => true) true Try.f11.params.toList args.toList ds p) :
    Calls Try.prog 11 args W fun e W' => e = .returned (.bool true) ∧ Below W.heap.size W W' := by
  obtain ⟨v0, d0, rfl, rfl, h0⟩ := trodAll_one hA
  obtain ⟨A0, n0, c0, l0, rfl, hr0, hn0⟩ := open_events (hval 0 42 v0 rfl rfl) h0
  exact fnExactEventsOk_any A0 n0 c0 l0 W (EvsAt.of_row hr0) hn0 (evs_bound hr0)

set_option maxRecDepth 100000 in
theorem fnExactEventsOk_lifted (os : Os) (started : os.Started) (H : Type) (enc : TypeId × Value → H) :
    ReturnsInHanded {} Try.checked os 11 .any (Rows.fnExactEventsOkSpec.pre6 enc Try.prog Try.f11 Rows.fnExactEventsOkRow.domain false) (Rows.fnExactEventsOkSpec.post enc Try.prog Try.f11 false true false false) := by
  refine returnsInHanded_of_change (C := Try.checked) Try.own started (by kernel_rfl) Try.func11
    (ChangeSpec.witness6 (enc := enc) (C := Try.checked) false ⟨#[], #[.slice none 0 0], []⟩ 8 (by kernel_rfl) (by kernel_rfl) (by kernel_rfl) (by kernel_rfl)) ?_
  intro W base args ds gs before hval0 hW _ _
  have hval : ∀ (j : Nat) t v, Try.f11.params[j]? = some t → args[j]? = some v → Value.okWide Try.prog W .any base t v := hval0
  have hW' := hW
  obtain ⟨p, q, hA0, hV, rfl, hfz, hnd⟩ := hW
  have hA : DataW.TrodAll enc Try.prog W 0 (fun _ => true) true Try.f11.params.toList args.toList ds p := hA0
  refine (fnExactEventsOk_contract W base args ds p hval hA).mono fun e W' ⟨he, hb⟩ => ?_
  subst he
  have hds := fnExactEventsOk_shape hA
  obtain ⟨hgs, _⟩ := trodVars_none hV
  subst hgs
  refine ⟨_, rfl, law_post (P := Try.prog) Try.laidOut (of_decide_eq_true (by kernel_rfl)) (by kernel_rfl) Try.underlying4 hW' rfl ?_ ?_ ?_ hb⟩
  all_goals (obtain ⟨x0, rfl⟩ := hds; rfl)

theorem fnExactEventsOk_holds : Rows.FnExactEventsOkSaid :=
  OpenClaim.holds_of_wide 11 Try.f11 rfl rfl rfl rfl rfl rfl rfl ⟨rfl, rfl, rfl, rfl, rfl⟩ rfl rfl rfl rfl rfl (by kernel_rfl) Try.func11 (by kernel_rfl)
    (of_decide_eq_true (by kernel_rfl)) (by unfold Func.isWrapper; first | (rw [if_pos (by decide +kernel)]; kernel_rfl) | (rw [if_neg (by decide +kernel)]; exact ⟨rfl, rfl⟩))
    (fun os started H enc _ => fnExactEventsOk_lifted os started H enc)
end Go.Proofs.Ytapacjcaaipfdaa
