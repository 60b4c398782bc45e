/- The law FnExactLastOf holds: for every list of events and every client the program's LastOf answers what the reference's answers, and the list reads as before. Conditions: none. -/
import Derived.Test.YtapacjcaaipfdaaLawEvents
import Derived.Test.YtapacjcaaipfdaaLastOfS
namespace Go.Proofs.Ytapacjcaaipfdaa
open Go.ChangeShapes Go.WideShapes Go.ChangeAt Go.RowKit Go.Joins

theorem fnExactLastOf_any (A : Option Addr) (n c : Nat) (l : List Ev) (cl : Int) (w : World) (h : EvsAt w A n l) (hn : n ≤ 9223372036854775807) (hs : ∀ i, i < n → (eAt l i).x.size ≤ 9223372036854775807) :
    Calls Try.prog 13 #[.slice A n c, .int .i64 cl] w fun e w' => e = .returned (.bool true) ∧ Below w.heap.size w w' := by
  by_cases hsz : (evsSz l : Int) ≤ 1048576
  · have HR := Lib.hid (szR_yes hsz)
    have hnn : n ≤ 1048576 := by have := h.1; unfold evsSz at hsz; omega
    have hge : ¬ ((1048576 : Int) - (evsSz l : Nat) < 0) := by omega
    obtain ⟨E, hE⟩ : ∃ E, bestOf l (lastOf l cl) = E := ⟨_, rfl⟩
    obtain ⟨ok, hok⟩ : ∃ ok, (lastOf l cl).isSome = ok := ⟨_, rfl⟩
    have hI := fun A n c w h hn => lastOf_impl A n c l cl w h hn
    have hS := fun A n c w h hn => lastOf_spec A n c l cl w h hn
    rw [hE, hok] at hI hS
    simp only [evV] at hI hS
    have HI := Lib.hid hI; have HS := Lib.hid hS; clear hI hS hE hok
    go_enter Try.func13, Try.ntmps13
    go_wp2_with fail
    refine (szEvents_any A n c l _ _ h hn (by omega) (by omega) hs).mono ?_
    rintro e w1 ⟨rfl, hb1⟩
    rw [HR.out]
    go_wp2_with fail
    refine (toEvents_any A n c l _ (h.keep hb1) (by omega)).mono ?_
    rintro e w2 ⟨g2, x2, rfl, ho2, hx2, hb2⟩
    have hB2 := bthen hb1 hb2
    have hs2 := EvsAt.of_own ho2 h.1 hx2
    clear ho2
    go_wp2_with fail
    refine (HS.out _ n n _ hs2 (by omega)).mono ?_
    rintro e w3 ⟨rfl, hb3⟩
    have hB3 := bthen hB2 hb3
    go_wp2_with fail
    refine (toEvents_any A n c l _ (h.keep (hB3.alloc hB3.size _)) (by omega)).mono ?_
    rintro e w4 ⟨g4, x4, rfl, ho4, hx4, hb4⟩
    have hW4 := (EvBox.new w3 52 E).keep hb4
    have hB4 := bthen (hB3.alloc hB3.size _) hb4
    have hs4 := EvsAt.of_own ho4 h.1 hx4
    clear ho4 hs2
    go_wp2_with fail
    refine (HI.out _ n n _ hs4 (by omega)).mono ?_
    rintro e w5 ⟨rfl, hb5⟩
    have hB5 := bthen hB4 hb5
    have hW5 := (hW4.keep hb5).alloc (.cells #[.int .i64 E.t, .int .i64 E.c, .int .i64 E.n, .string E.x] 52)
    have hs5 := (hs4.keep hb5).keep ((Below.refl _ _).alloc (Nat.le_refl _) (.cells #[.int .i64 E.t, .int .i64 E.c, .int .i64 E.n, .string E.x] 52))
    have hB5a := hB5.alloc hB5.size (.cells #[.int .i64 E.t, .int .i64 E.c, .int .i64 E.n, .string E.x] 52)
    obtain ⟨⟨z0, z1, z2, z3⟩, _⟩ := id hW5
    clear hW4
    go_wp2_with fail
    refine (eqEvent_same _ _ _ _ _).mono ?_
    rintro e w6 ⟨rfl, hb6⟩
    have hB6 := bthen hB5a hb6
    have hs6 := hs5.keep hb6
    clear z0 z1 z2 z3 hW5
    go_wp2_with fail
    refine (toEvents_any A n c l _ (h.keep hB6) (by omega)).mono ?_
    rintro e w7 ⟨g7, x7, rfl, ho7, hx7, hb7⟩
    have hB7 := bthen hB6 hb7
    have hs7 := EvsAt.of_own ho7 h.1 hx7
    clear ho7
    go_wp2_with fail
    refine (eqEvents_same _ _ n n n l _ (hs6.keep hb7) hs7 (by omega)).mono ?_
    rintro e w8 ⟨rfl, hb8⟩
    go_wp2
    all_goals go_returns
    exact ⟨rfl, bthen hB7 hb8⟩
  · have HR := Lib.hid (szR_no (Int.not_le.1 hsz))
    go_enter Try.func13, Try.ntmps13
    go_wp2_with fail
    refine (szEvents_any A n c l _ _ h hn (by omega) (by omega) hs).mono ?_
    rintro e w1 ⟨rfl, hb1⟩
    rw [HR.out]
    go_wp2
    go_returns
    exact ⟨rfl, hb1⟩

theorem fnExactLastOf_shape {H : Type} {enc : TypeId × Value → H} {W : World} {args : Array Value} {ds : List (DataW H)} {p : List MemPlace}
    (hA : DataW.TrodAll enc Try.prog W 0 (fun _ => true) true Try.f13.params.toList args.toList ds p) : ∃ x0 x1, ds = [x0, x1] := by
  obtain ⟨v0, v1, d0, d1, p0, p1, rfl, rfl, rfl, h0, h1⟩ := trodAll_two hA
  exact ⟨_, _, rfl⟩

theorem fnExactLastOf_contract {H : Type} {enc : TypeId × Value → H} (W : World) (base : Nat) (args : Array Value) (ds : List (DataW H)) (p : List MemPlace)
    (hval : ∀ (j : Nat) t v, Try.f13.params[j]? = some t → args[j]? = some v → Value.okWide Try.prog W .any base t v)
    (hA : DataW.TrodAll enc Try.prog W 0 (fun _ => true) true Try.f13.params.toList args.toList ds p) :
    Calls Try.prog 13 args W fun e W' => e = .returned (.bool true) ∧ Below W.heap.size W W' := by
  obtain ⟨v0, v1, d0, d1, p0, p1, rfl, rfl, rfl, h0, h1⟩ := trodAll_two hA
  obtain ⟨A0, n0, c0, l0, rfl, hr0, hn0⟩ := open_events (hval 0 42 v0 rfl rfl) h0
  obtain ⟨x1, rfl, _, _, wx1⟩ := open_int Try.underlying3 (hval 1 3 v1 rfl rfl) h1
  exact fnExactLastOf_any A0 n0 c0 l0 x1 W (EvsAt.of_row hr0) hn0 (evs_bound hr0)

set_option maxRecDepth 100000 in
theorem fnExactLastOf_lifted (os : Os) (started : os.Started) (H : Type) (enc : TypeId × Value → H) :
    ReturnsInHanded {} Try.checked os 13 .any (Rows.fnExactLastOfSpec.pre6 enc Try.prog Try.f13 Rows.fnExactLastOfRow.domain false) (Rows.fnExactLastOfSpec.post enc Try.prog Try.f13 false true false false) := by
  refine returnsInHanded_of_change (C := Try.checked) Try.own started (by kernel_rfl) Try.func13
    (ChangeSpec.witness6 (enc := enc) (C := Try.checked) false ⟨#[], #[.slice none 0 0, .int .i64 0], []⟩ 8 (by kernel_rfl) (by kernel_rfl) (by kernel_rfl) (by kernel_rfl)) ?_
  intro W base args ds gs before hval0 hW _ _
  have hval : ∀ (j : Nat) t v, Try.f13.params[j]? = some t → args[j]? = some v → Value.okWide Try.prog W .any base t v := hval0
  have hW' := hW
  obtain ⟨p, q, hA0, hV, rfl, hfz, hnd⟩ := hW
  have hA : DataW.TrodAll enc Try.prog W 0 (fun _ => true) true Try.f13.params.toList args.toList ds p := hA0
  refine (fnExactLastOf_contract W base args ds p hval hA).mono fun e W' ⟨he, hb⟩ => ?_
  subst he
  have hds := fnExactLastOf_shape hA
  obtain ⟨hgs, _⟩ := trodVars_none hV
  subst hgs
  refine ⟨_, rfl, law_post (P := Try.prog) Try.laidOut (of_decide_eq_true (by kernel_rfl)) (by kernel_rfl) Try.underlying4 hW' rfl ?_ ?_ ?_ hb⟩
  all_goals (obtain ⟨x0, x1, rfl⟩ := hds; rfl)

theorem fnExactLastOf_holds : Rows.FnExactLastOfSaid :=
  OpenClaim.holds_of_wide 13 Try.f13 rfl rfl rfl rfl rfl rfl rfl ⟨rfl, rfl, rfl, rfl, rfl⟩ rfl rfl rfl rfl rfl (by kernel_rfl) Try.func13 (by kernel_rfl)
    (of_decide_eq_true (by kernel_rfl)) (by unfold Func.isWrapper; first | (rw [if_pos (by decide +kernel)]; kernel_rfl) | (rw [if_neg (by decide +kernel)]; exact ⟨rfl, rfl⟩))
    (fun os started H enc _ => fnExactLastOf_lifted os started H enc)
end Go.Proofs.Ytapacjcaaipfdaa
