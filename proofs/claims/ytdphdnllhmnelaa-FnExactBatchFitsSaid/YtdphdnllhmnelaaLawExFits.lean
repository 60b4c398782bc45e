/- The law FnExactBatchFits. -/
import Derived.Test.YtdphdnllhmnelaaJ2
import Derived.Test.YtdphdnllhmnelaaJ7
import Derived.Test.YtdphdnllhmnelaaJ0
namespace Go.Proofs.Ytdphdnllhmnelaa
open Go.RowKit Go.ChangeShapes Go.WideShapes Go.ChangeAt Go.Deep Go.Joins
theorem IntzsIn.caps {lo hi : Nat} {w : World} {A : Option Addr} {n c : Nat} {l : List (List Int)} (h : IntzsIn lo hi w A n c l) : RowR intRc 1 w A n c l := h.row.at_ intKc (by omega)
theorem batchFitsW_impl (A0 : Option Addr) (n0 c0 : Nat) (l0 : List Cm) (A1 : Option Addr) (n1 c1 : Nat) (l1 : List (List Int)) (w : World) (lo0 hi0 lo1 hi1 : Nat) (h0 : CmsIn lo0 hi0 w A0 n0 c0 l0) (h1 : IntzsIn lo1 hi1 w A1 n1 c1 l1) (s0 : cmsSz l0 ≤ 1048576) (s1 : intssSz l1 ≤ 1048576) (hb : cmsB l0) :
    Calls Try.prog 22 #[.slice A0 n0 c0, .slice A1 n1 c1] w fun e w' => e = .returned (.bool (fitsB l0 l1)) ∧ Below w.heap.size w w' :=
  batchFits_impl A0 n0 c0 l0 A1 n1 c1 l1 w h0.at_ h1.caps s0 s1 hb h0.cap
theorem batchFitsW_spec (A0 : Option Addr) (n0 c0 : Nat) (l0 : List Cm) (A1 : Option Addr) (n1 c1 : Nat) (l1 : List (List Int)) (w : World) (lo0 hi0 lo1 hi1 : Nat) (h0 : CmsIn lo0 hi0 w A0 n0 c0 l0) (h1 : IntzsIn lo1 hi1 w A1 n1 c1 l1) (s0 : cmsSz l0 ≤ 1048576) (s1 : intssSz l1 ≤ 1048576) (hb : cmsB l0) :
    Calls Try.prog 20 #[.slice A0 n0 c0, .slice A1 n1 c1] w fun e w' => e = .returned (.bool (fitsB l0 l1)) ∧ Below w.heap.size w w' :=
  batchFits_spec A0 n0 c0 l0 A1 n1 c1 l1 w h0.at_ h1.caps s0 s1 hb
section
attribute [local irreducible] StrR IntR StrO IntO RowR RowO StrsAt IntsAt fitsB
set_option maxRecDepth 8000 in
set_option maxHeartbeats 4000000 in
theorem fnExactBatchFits_any (A0 : Option Addr) (n0 c0 : Nat) (l0 : List Cm) (A1 : Option Addr) (n1 c1 : Nat) (l1 : List (List Int)) (w : World) (h0 : CmsOk w A0 n0 c0 l0) (h1 : IntzsOk w A1 n1 c1 l1)  :
    Calls Try.prog 4 #[.slice A0 n0 c0, .slice A1 n1 c1] w fun e w' => e = .returned (.bool true) ∧ Below w.heap.size w w' := by
  by_cases hsz0 : ((cmsSz l0 : Nat) : Int) ≤ (1048576 : Int)
  · have HR0 := Lib.hid (szR_yes hsz0)
    have hge0 : ¬ ((1048576 : Int) - ((cmsSz l0 : Nat) : Int) < 0) := by omega
    by_cases hsz1 : ((intssSz l1 : Nat) : Int) ≤ ((1048576 : Int) - (cmsSz l0 : Nat))
    · have HR1 := Lib.hid (szR_yes hsz1)
      have hge1 : ¬ (((1048576 : Int) - (cmsSz l0 : Nat)) - ((intssSz l1 : Nat) : Int) < 0) := by omega
      have hsn0 : cmsSz l0 ≤ 1048576 := by omega
      have hsn1 : intssSz l1 ≤ 1048576 := by omega
      obtain ⟨q0, hr0⟩ : ∃ q, fitsB l0 l1 = q := ⟨_, rfl⟩
      have HV0 := Lib.hid hr0; clear hr0
      go_enter Try.func4, Try.ntmps4
      go_wp2_with fail
      refine (cmsW_sz _ _ _ _ _ _ (h0.keep (Below.refl _ _)) (by omega) (by omega)).mono ?_
      rintro e v0 ⟨rfl, hbz0⟩; rw [HR0.out]
      have hBz0 := bthen (Below.refl _ _) hbz0
      go_wp2_with fail
      refine (intzs_sz _ _ _ _ _ _ (h1.keep hBz0) (by omega) (by omega)).mono ?_
      rintro e v1 ⟨rfl, hbz1⟩; rw [HR1.out]
      have hBz1 := bthen hBz0 hbz1
      have hz0 := hBz1.size
      go_wp2_with fail
      refine (cmsW_to _ _ _ _ _ (h0.at_.keep hBz1) hsn0).mono ?_
      rintro e w1 ⟨AP0, nP0, cP0, rfl, P0_1, hb1⟩
      have hB1 := bthen hBz1 hb1
      have hz1 := hb1.size
      go_wp2_with fail
      refine (intzs_to _ _ _ _ _ (h1.at_.keep hB1) hsn1).mono ?_
      rintro e w2 ⟨AP1, nP1, cP1, rfl, P1_2, hb2⟩
      have P0_2 := P0_1.keep hb2; clear P0_1
      have hB2 := bthen hB1 hb2
      have hz2 := hb2.size
      go_wp2_with fail
      refine (batchFitsW_spec _ _ _ _ _ _ _ _ _ _ _ _ _ P0_2 P1_2 hsn0 hsn1  h0.bd).mono ?_
      rintro e w3 ⟨rfl, hb3⟩
      have P0_3 := P0_2.keep hb3; clear P0_2
      have P1_3 := P1_2.keep hb3; clear P1_2
      have hB3 := bthen hB2 hb3
      have hz3 := hb3.size
      try rw [HV0.out]
      clear P0_3
      clear P1_3
      go_wp2_with fail
      refine (cmsW_to _ _ _ _ _ (h0.at_.keep hB3) hsn0).mono ?_
      rintro e w4 ⟨AX0, nX0, cX0, rfl, X0_4, hb4⟩
      have hB4 := bthen hB3 hb4
      have hz4 := hb4.size
      go_wp2_with fail
      refine (intzs_to _ _ _ _ _ (h1.at_.keep hB4) hsn1).mono ?_
      rintro e w5 ⟨AX1, nX1, cX1, rfl, X1_5, hb5⟩
      have X0_5 := X0_4.keep hb5; clear X0_4
      have hB5 := bthen hB4 hb5
      have hz5 := hb5.size
      go_wp2_with fail
      refine (batchFitsW_impl _ _ _ _ _ _ _ _ _ _ _ _ _ X0_5 X1_5 hsn0 hsn1  h0.bd).mono ?_
      rintro e w6 ⟨rfl, hb6⟩
      have X0_6 := X0_5.keep hb6; clear X0_5
      have X1_6 := X1_5.keep hb6; clear X1_5
      have hB6 := bthen hB5 hb6
      have hz6 := hb6.size
      try rw [HV0.out]
      go_wp2_with fail
      refine (cmsW_to _ _ _ _ _ (h0.at_.keep hB6) hsn0).mono ?_
      rintro e w7 ⟨AT0, nT0, cT0, rfl, T0_7, hb7⟩
      have X0_7 := X0_6.keep hb7; clear X0_6
      have X1_7 := X1_6.keep hb7; clear X1_6
      have hB7 := bthen hB6 hb7
      have hz7 := hb7.size
      go_wp2_with fail
      refine (cmsW_eq _ _ _ _ _ _ _ _ X0_7.at_ T0_7.at_ (by omega)).mono ?_
      rintro e w8 ⟨rfl, hb8⟩
      have X0_8 := X0_7.keep hb8; clear X0_7
      have X1_8 := X1_7.keep hb8; clear X1_7
      have T0_8 := T0_7.keep hb8; clear T0_7
      have hB8 := bthen hB7 hb8
      have hz8 := hb8.size
      clear T0_8
      go_wp2_with fail
      refine (intzs_to _ _ _ _ _ (h1.at_.keep hB8) hsn1).mono ?_
      rintro e w9 ⟨AT1, nT1, cT1, rfl, T1_9, hb9⟩
      have X0_9 := X0_8.keep hb9; clear X0_8
      have X1_9 := X1_8.keep hb9; clear X1_8
      have hB9 := bthen hB8 hb9
      have hz9 := hb9.size
      go_wp2_with fail
      refine (intzs_eq _ _ _ _ _ _ _ _ X1_9.at_ T1_9.at_ (by omega)).mono ?_
      rintro e w10 ⟨rfl, hb10⟩
      have X0_10 := X0_9.keep hb10; clear X0_9
      have X1_10 := X1_9.keep hb10; clear X1_9
      have T1_10 := T1_9.keep hb10; clear T1_9
      have hB10 := bthen hB9 hb10
      have hz10 := hb10.size
      clear T1_10
      go_wp2
      go_returns
      exact ⟨rfl, hB10⟩
    · have HR1 := Lib.hid (szR_no (Int.not_le.1 hsz1))
      go_enter Try.func4, Try.ntmps4
      go_wp2_with fail
      refine (cmsW_sz _ _ _ _ _ _ (h0.keep (Below.refl _ _)) (by omega) (by omega)).mono ?_
      rintro e v0 ⟨rfl, hbz0⟩; rw [HR0.out]
      have hBz0 := bthen (Below.refl _ _) hbz0
      go_wp2_with fail
      refine (intzs_sz _ _ _ _ _ _ (h1.keep hBz0) (by omega) (by omega)).mono ?_
      rintro e v1 ⟨rfl, hbz1⟩; rw [HR1.out]
      have hBz1 := bthen hBz0 hbz1
      go_wp2
      go_returns
      exact ⟨rfl, hBz1⟩
  · have HR0 := Lib.hid (szR_no (Int.not_le.1 hsz0))
    go_enter Try.func4, Try.ntmps4
    go_wp2_with fail
    refine (cmsW_sz _ _ _ _ _ _ (h0.keep (Below.refl _ _)) (by omega) (by omega)).mono ?_
    rintro e v0 ⟨rfl, hbz0⟩; rw [HR0.out]
    have hBz0 := bthen (Below.refl _ _) hbz0
    go_wp2
    go_returns
    exact ⟨rfl, hBz0⟩
end
section
variable {H : Type} {enc : TypeId × Value → H} {w : World} {base : Nat} {spare : Nat → Bool} {held : Bool}
theorem cellsIntsL : Try.prog.cellsOf 78 = 1 := by kernel_rfl
set_option maxRecDepth 8000 in
theorem trod_intR {fuel : Nat} {cs : List Value} {x : DataW H × List MemPlace} (h : DataW.trod enc Try.prog w base spare held fuel 78 cs = some x) : ∃ l, intR w cs l ∧ intB l := by
  obtain ⟨A, n, c, l, hcs, hr, hn, _, hc⟩ := open_rows_cs (C := fun _ cs (x : Int) => cs = [.int .i64 x]) Try.underlying78 cellsIntL (by omega) (fun fu cs y h => by obtain ⟨m, hm, _⟩ := trod_int1 Try.underlying3 h; exact ⟨m, hm⟩) h
  refine ⟨l, ⟨A, n, c, hcs, ?_, hc⟩, by unfold intB; have := hr.1; omega⟩
  unfold IntsAt
  refine ⟨hr.1, fun h0 => ?_⟩
  obtain ⟨b, off, rfl, hlt, hcell⟩ := hr.2 h0
  refine ⟨b, off, rfl, hlt, fun i hi => ?_⟩
  have hl := hr.1
  obtain ⟨cs', hx, _, hc'⟩ := hcell i (iAt l i) (by rw [iAt_get (by omega)]; exact List.getElem?_eq_getElem (by omega))
  subst hx
  simpa [intV] using hc' 0 _ rfl
set_option maxRecDepth 8000 in
theorem open_intzs {r : Reach} {b0 : Nat} {v : Value} {d : DataW H} {p : List MemPlace}
    (hv : Value.okWide Try.prog w r b0 24 v) (h : DataW.Trod enc Try.prog w base spare held 24 v d p) :
    ∃ (A : Option Addr) (n c : Nat) (l : List (List Int)), v = .slice A n c ∧ IntzsOk w A n c l := by
  obtain ⟨A, n, c, rfl⟩ := okWide_slice Try.underlying24 hv
  obtain ⟨fuel, hf⟩ := h
  obtain ⟨A', n', c', l, hcs, hr, hn, _, hc⟩ := open_rows_cs (C := fun w cs x => intR w cs x ∧ intB x) Try.underlying24 cellsIntsL (by omega) (fun _ _ _ h => trod_intR h) hf
  simp [Value.cells] at hcs
  obtain ⟨rfl, rfl, rfl⟩ := hcs
  obtain ⟨h1, h2⟩ := rowAt_and hr
  exact ⟨_, _, _, l, rfl, ⟨h1, hc⟩, by have := h1.1; omega, h2⟩
end
theorem fnExactBatchFits_shape {H : Type} {enc : TypeId × Value → H} {W : World} {args : Array Value} {ds : List (DataW H)} {p : List MemPlace}
    (hA : DataW.TrodAll enc Try.prog W 0 (fun _ => true) true Try.f4.params.toList args.toList ds p) : ∃ x0 x1, ds = [x0, x1] := by
  obtain ⟨v0, v1, d0, d1, p0, p1, rfl, rfl, rfl, h0, h1⟩ := trodAll_two hA
  exact ⟨_, _, rfl⟩

set_option maxRecDepth 100000 in
theorem fnExactBatchFits_contract {H : Type} {enc : TypeId × Value → H} (W : World) (base : Nat) (args : Array Value) (ds : List (DataW H)) (p : List MemPlace)
    (hval : ∀ (j : Nat) t v, Try.f4.params[j]? = some t → args[j]? = some v → Value.okWide Try.prog W .any base t v)
    (hA : DataW.TrodAll enc Try.prog W 0 (fun _ => true) true Try.f4.params.toList args.toList ds p) :
    Calls Try.prog 4 args W fun e W' => e = .returned (.bool true) ∧ Below W.heap.size W W' := by
  obtain ⟨v0, v1, d0, d1, p0, p1, rfl, rfl, rfl, h0, h1⟩ := trodAll_two hA
  obtain ⟨A0, n0, c0, l0, rfl, ok0⟩ := open_cms (hval 0 22 v0 rfl rfl) h0
  obtain ⟨A1, n1, c1, l1, rfl, ok1⟩ := open_intzs (hval 1 24 v1 rfl rfl) h1
  exact fnExactBatchFits_any _ _ _ _ _ _ _ _ W ok0 ok1

set_option maxRecDepth 100000 in
theorem fnExactBatchFits_lifted (os : Os) (started : os.Started) (H : Type) (enc : TypeId × Value → H) :
    ReturnsInHanded {} Try.checked os 4 .any (Rows.fnExactBatchFitsSpec.pre6 enc Try.prog Try.f4 Rows.fnExactBatchFitsRow.domain false) (Rows.fnExactBatchFitsSpec.post enc Try.prog Try.f4 false true false false) := by
  refine returnsInHanded_of_change (C := Try.checked) Try.own started (by kernel_rfl) Try.func4
    (ChangeSpec.witness6 (enc := enc) (C := Try.checked) false ⟨#[], #[.slice none 0 0, .slice none 0 0], []⟩ 8 (by kernel_rfl) (by kernel_rfl) (by kernel_rfl) (by kernel_rfl)) ?_
  intro W base args ds gs before hval0 hW _ _
  have hval : ∀ (j : Nat) t v, Try.f4.params[j]? = some t → args[j]? = some v → Value.okWide Try.prog W .any base t v := hval0
  have hW' := hW
  obtain ⟨p, q, hA0, hV, rfl, hfz, hnd⟩ := hW
  have hA : DataW.TrodAll enc Try.prog W 0 (fun _ => true) true Try.f4.params.toList args.toList ds p := hA0
  refine (fnExactBatchFits_contract W base args ds p hval hA).mono fun e W' ⟨he, hb⟩ => ?_
  subst he
  have hds := fnExactBatchFits_shape hA
  obtain ⟨hgs, _⟩ := trodVars_none hV
  subst hgs
  refine ⟨_, rfl, law_post (P := Try.prog) Try.laidOut (of_decide_eq_true (by kernel_rfl)) (by kernel_rfl) Try.underlying4 hW' rfl ?_ ?_ ?_ hb⟩
  all_goals (obtain ⟨x0, x1, rfl⟩ := hds; rfl)

theorem fnExactBatchFits_holds : Rows.FnExactBatchFitsSaid :=
  OpenClaim.holds_of_wide 4 Try.f4 rfl rfl rfl rfl rfl rfl rfl ⟨rfl, rfl, rfl, rfl, rfl⟩ rfl rfl rfl rfl rfl (by kernel_rfl) Try.func4 (by kernel_rfl)
    (of_decide_eq_true (by kernel_rfl)) (by unfold Func.isWrapper; first | (rw [if_pos (by decide +kernel)]; kernel_rfl) | (rw [if_neg (by decide +kernel)]; exact ⟨rfl, rfl⟩))
    (fun os started H enc _ => fnExactBatchFits_lifted os started H enc)
end Go.Proofs.Ytdphdnllhmnelaa
