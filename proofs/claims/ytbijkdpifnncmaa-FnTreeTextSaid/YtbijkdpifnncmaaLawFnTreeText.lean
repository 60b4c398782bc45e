/- The law FnTreeText holds: a tree is read from its text, and a text that is read is the text of what was read. Conditions: none. -/
import Derived.Test.YtbijkdpifnncmaaTreeTextLaw
import Derived.Test.YtbijkdpifnncmaaTreeReadS
namespace Go.Proofs.Ytbijkdpifnncmaa
open Go.ChangeShapes Go.WideShapes Go.ChangeAt Go.RowKit Go.Joins
attribute [local irreducible] EntsAt treeText trL trB treeOkB

set_option maxRecDepth 20000 in
set_option maxHeartbeats 4000000 in
theorem fnTreeText_any (A : Option Addr) (n c : Nat) (f : Nat → Int) (w : World) (h : CodeAt w A n f) (hn : n ≤ 9223372036854775807) :
    Calls Try.prog 3 #[.slice A n c] w fun e w' => e = .returned (.bool true) ∧ Below w.heap.size w w' := by
  by_cases hbig : (n : Int) > 1048576
  · have hd : decide ((n : Int) > 1048576) = true := by simpa using hbig
    go_enter Try.func3, Try.ntmps3
    go_wp2_with fail
    refine (big_any _ _ _ _).mono ?_
    rintro e w1 ⟨rfl, rfl⟩
    rw [hd]
    go_wp2
    go_returns
    exact ⟨rfl, Below.refl _ _⟩
  · have hd : decide ((n : Int) > 1048576) = false := by simpa using hbig
    have hn2 : n ≤ 1048576 := by omega
    go_enter Try.func3, Try.ntmps3
    go_wp2_with fail
    refine (big_any _ _ _ _).mono ?_
    rintro e w1 ⟨rfl, rfl⟩
    rw [hd]
    go_wp2_with fail
    refine (drawTreeText_any _ _ _ _ _ h hn2).mono ?_
    rintro e w1 ⟨A1, n1, c1, l, rfl, hl1, hlen, hsm, hb1⟩
    have hs1 : entsSz l ≤ 1048576 := by have := smallE_sz hsm; omega
    have hts := treeText_small hsm hlen
    have H1 := h.keep hb1
    have L1 := hl1.at_
    have hl1n := Lib.hid hl1.len
    clear hl1
    go_wp2_with fail
    refine (treeText_impl _ _ _ l _ L1 hs1).mono ?_
    rintro e w2 ⟨rfl, hb2⟩
    have hb2w := bthen hb1 hb2
    have L2 := L1.keep hb2
    have H2 := H1.keep hb2
    have T1 := trB_tree l
    have T2 := (trL_text T1).2
    have T3 : treeOkB l = true → trL (treeText l) = l := fun ht => trL_same ht (by omega)
    obtain ⟨s, hs⟩ : ∃ s, treeText l = s := ⟨_, rfl⟩
    have HT := Lib.hid hs
    rw [hs] at hts T1 T2 T3 ⊢
    have HT1 := Lib.hid T1
    have HT2 := Lib.hid T2
    have HT3 := Lib.hid T3
    clear hs T1 T2 T3 L1 H1
    go_wp2_with fail
    refine (treeRead_impl1 s _ (by omega)).mono ?_
    rintro e w3 ⟨A3, n3, c3, rfl, hr3, hb3⟩
    rw [HT1.out]
    have hb3w := bthen hb2w hb3
    have L3 := L2.keep hb3
    have H3 := H2.keep hb3
    have R3 := hr3.at_
    have R3l := Lib.hid hr3.len
    have R3z := trL_sz (s := s) (by omega)
    clear L2 H2 hr3
    go_wp2_with fail
    refine (drawTreeRead_any _ _ _ _ _ H3 hn2).mono ?_
    rintro e w4 ⟨t, rfl, htz, hb4⟩
    have hb4w := bthen hb3w hb4
    have L4 := L3.keep hb4
    have R4 := R3.keep hb4
    clear L3 H3 R3
    go_wp2_with fail
    refine (treeRead_impl1 t _ (by omega)).mono ?_
    rintro e w5 ⟨A5, n5, c5, rfl, hr5, hb5⟩
    have hb5w := bthen hb4w hb5
    have L5 := L4.keep hb5
    have R5 := R4.keep hb5
    have S5 := hr5.at_
    have S5z := trL_sz (s := t) (by omega)
    clear L4 R4 hr5
    go_wp2_with fail
    refine (treeRead_spec1 t _ (by omega)).mono ?_
    rintro e w6 ⟨A6, n6, c6, rfl, hr6, hb6⟩
    have hb6w := bthen hb5w hb6
    have L6 := L5.keep hb6
    have R6 := R5.keep hb6
    have S6 := S5.keep hb6
    clear L5 R5 S5 hr6
    go_wp2_with fail
    refine (treeText_spec _ _ _ l _ L6 hs1).mono ?_
    rintro e w7 ⟨rfl, hb7⟩
    rw [HT.out]
    have hb7w := bthen hb6w hb7
    have L7 := L6.keep hb7
    have R7 := R6.keep hb7
    have S7 := S6.keep hb7
    clear L6 R6 S6
    go_wp2_with fail
    refine (treeText_impl2 _ _ _ _ _ R7 (by omega)).mono ?_
    rintro e w8 ⟨rfl, hb8⟩
    rw [HT2.out]
    have hb8w := bthen hb7w hb8
    have L8 := L7.keep hb8
    have S8 := S7.keep hb8
    clear L7 R7 S7
    go_wp2_with fail
    refine (treeOk_spec _ _ _ l _ L8 hs1).mono ?_
    rintro e w9 ⟨rfl, hb9⟩
    have hb9w := bthen hb8w hb9
    have S9 := S8.keep hb9
    have L9 := L8.keep hb9
    clear S8 L8
    obtain ⟨ok, hok⟩ : ∃ b, treeOkB l = b := ⟨_, rfl⟩
    rw [hok]
    have HLn := Lib.hid (show ok = true → n3 = n1 from fun h1 => by
      have e1 := R3l.out
      rw [HT3.out (by rw [hok]; exact h1)] at e1
      exact e1.trans hl1n.out.symm)
    clear hok L9 hl1n
    obtain ⟨fine, hfine⟩ : ∃ b, trB t = b := ⟨_, rfl⟩
    have HF := Lib.hid (show fine = true → treeText (trL t) = t from fun h1 => (trL_text (by rw [hfine]; exact h1)).2)
    rw [hfine]
    clear hfine
    cases ok
    · clear HLn
      cases fine
      · go_wp2
        go_returns
        exact ⟨by simp, hb9w⟩
      · have HF2 := Lib.hid (HF.out rfl)
        go_wp2_with fail
        refine (treeText_impl2 _ _ _ _ _ S9 (by omega)).mono ?_
        rintro e w10 ⟨rfl, hb10⟩
        rw [HF2.out]
        go_wp2
        go_returns
        exact ⟨by simp, bthen hb9w hb10⟩
    · obtain rfl : n3 = n1 := HLn.out rfl
      clear HLn
      cases fine
      · go_wp2
        go_returns
        exact ⟨by simp, hb9w⟩
      · have HF2 := Lib.hid (HF.out rfl)
        go_wp2_with fail
        refine (treeText_impl2 _ _ _ _ _ S9 (by omega)).mono ?_
        rintro e w10 ⟨rfl, hb10⟩
        rw [HF2.out]
        go_wp2
        go_returns
        exact ⟨by simp, bthen hb9w hb10⟩

theorem fnTreeText_shape {H : Type} {enc : TypeId × Value → H} {W : World} {args : Array Value} {ds : List (DataW H)} {p : List MemPlace}
    (hA : DataW.TrodAll enc Try.prog W 0 (fun _ => true) true Try.f3.params.toList args.toList ds p) : ∃ x0, ds = [x0] := by
  obtain ⟨v0, d0, rfl, rfl, h0⟩ := trodAll_one hA
  exact ⟨_, rfl⟩

set_option maxRecDepth 100000 in
theorem fnTreeText_contract {H : Type} {enc : TypeId × Value → H} (W : World) (base : Nat) (args : Array Value) (ds : List (DataW H)) (p : List MemPlace)
    (hval : ∀ (j : Nat) t v, Try.f3.params[j]? = some t → args[j]? = some v → Value.okWide Try.prog W .any base t v)
    (hA : DataW.TrodAll enc Try.prog W 0 (fun _ => true) true Try.f3.params.toList args.toList ds p) :
    Calls Try.prog 3 args W fun e W' => e = .returned (.bool true) ∧ Below W.heap.size W W' := by
  obtain ⟨v0, d0, rfl, rfl, h0⟩ := trodAll_one hA
  obtain ⟨A0, n0, c0, f0, rfl, hr0, hn0⟩ := open_code (hval 0 22 v0 rfl rfl) h0
  exact fnTreeText_any _ _ _ _ W hr0 hn0

set_option maxRecDepth 100000 in
theorem fnTreeText_lifted (os : Os) (started : os.Started) (H : Type) (enc : TypeId × Value → H) :
    ReturnsInHanded {} Try.checked os 3 .any (Rows.fnTreeTextSpec.pre6 enc Try.prog Try.f3 Rows.fnTreeTextRow.domain false) (Rows.fnTreeTextSpec.post enc Try.prog Try.f3 false true false false) := by
  refine returnsInHanded_of_change (C := Try.checked) Try.own started (by kernel_rfl) Try.func3
    (ChangeSpec.witness6 (enc := enc) (C := Try.checked) false ⟨#[], #[.slice none 0 0], []⟩ 8 (by kernel_rfl) (by kernel_rfl) (by kernel_rfl) (by kernel_rfl)) ?_
  intro W base args ds gs before hval0 hW _ _
  have hval : ∀ (j : Nat) t v, Try.f3.params[j]? = some t → args[j]? = some v → Value.okWide Try.prog W .any base t v := hval0
  have hW' := hW
  obtain ⟨p, q, hA0, hV, rfl, hfz, hnd⟩ := hW
  have hA : DataW.TrodAll enc Try.prog W 0 (fun _ => true) true Try.f3.params.toList args.toList ds p := hA0
  refine (fnTreeText_contract W base args ds p hval hA).mono fun e W' ⟨he, hb⟩ => ?_
  subst he
  have hds := fnTreeText_shape hA
  obtain ⟨hgs, _⟩ := trodVars_none hV
  subst hgs
  refine ⟨_, rfl, law_post (P := Try.prog) Try.laidOut (of_decide_eq_true (by kernel_rfl)) (by kernel_rfl) Try.underlying4 hW' rfl ?_ ?_ ?_ hb⟩
  all_goals (obtain ⟨x0, rfl⟩ := hds; rfl)

theorem fnTreeText_holds : Rows.FnTreeTextSaid :=
  OpenClaim.holds_of_wide 3 Try.f3 rfl rfl rfl rfl rfl rfl rfl ⟨rfl, rfl, rfl, rfl, rfl⟩ rfl rfl rfl rfl rfl (by kernel_rfl) Try.func3 (by kernel_rfl)
    (of_decide_eq_true (by kernel_rfl)) (by unfold Func.isWrapper; first | (rw [if_pos (by decide +kernel)]; kernel_rfl) | (rw [if_neg (by decide +kernel)]; exact ⟨rfl, rfl⟩))
    (fun os started H enc _ => fnTreeText_lifted os started H enc)
end Go.Proofs.Ytbijkdpifnncmaa
