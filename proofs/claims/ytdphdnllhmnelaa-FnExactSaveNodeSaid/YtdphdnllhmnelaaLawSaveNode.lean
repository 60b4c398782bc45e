/- The law FnExactSaveNode holds: for every argument the program's SaveNode answers what the reference's answers, and the argument reads as before. Conditions: none. -/
import Derived.Test.YtdphdnllhmnelaaJ5
import Derived.Test.YtdphdnllhmnelaaJ12
import Derived.Test.YtdphdnllhmnelaaJ0
import Derived.Test.YtdphdnllhmnelaaJ7
import Derived.Test.YtdphdnllhmnelaaJ8
namespace Go.Proofs.Ytdphdnllhmnelaa
open Go.RowKit Go.ChangeShapes Go.WideShapes Go.ChangeAt Go.Deep Go.Joins
section
attribute [local irreducible] StrR IntR StrO IntO RowR RowO StrsAt IntsAt savT
theorem sizeENode_laws : (Try.prog.info? 61).map (·.size) = some 4 := by kernel_rfl
theorem sizeENode_impl : (Try.prog.info? 67).map (·.size) = some 4 := by kernel_rfl
set_option maxRecDepth 8000 in
set_option maxHeartbeats 4000000 in
theorem fnExactSaveNode_any (x : Nod) (A1 : Option Addr) (n1 c1 : Nat) (A2 : Option Addr) (n2 c2 : Nat) (w : World) (h1 : RowR insR 16 w A1 n1 c1 x.insts) (h2 : RowR leaR 8 w A2 n2 c2 x.leads) (hb : nodB x) :
    Calls Try.prog 7 #[nodV x (.slice A1 n1 c1) (.slice A2 n2 c2)] w fun e w' => e = .returned (.bool true) ∧ Below w.heap.size w w' := by
  have al := (Below.refl w.heap.size w).alloc (Nat.le_refl _) (.cells #[.int .i64 x.me, .int .i64 x.next, .slice A1 n1 c1, .slice A2 n2 c2] 61)
  obtain ⟨tx, htx⟩ : ∃ t, savT x = t := ⟨_, rfl⟩
  have HT := Lib.hid htx; clear htx
  by_cases hsz : ((nodSz x : Nat) : Int) ≤ 1048576
  · have HR := Lib.hid (szR_yes hsz)
    have hge : ¬ ((1048576 : Int) - ((nodSz x : Nat) : Int) < 0) := by omega
    have hsn : nodSz x ≤ 1048576 := by omega
    unfold nodV
    go_enter Try.func7, Try.ntmps7
    go_wp2_with fail
    refine (nod_sz x _ _ _ _ _ _ _ _ (h1.keep insK al) (h2.keep leaK al) hb (by omega) (by omega)).mono ?_
    rintro e w1 ⟨rfl, hb1⟩; rw [HR.out]
    have hB1 := bthen al hb1
    try generalize (Value.agg #[.int .i64 x.me, .int .i64 x.next, .slice A1 n1 c1, .slice A2 n2 c2]) = uu1
    have E : BoxL w1 w.heap.size [.int .i64 x.me, .int .i64 x.next, .slice A1 n1 c1, .slice A2 n2 c2] := (BoxL.new w [.int .i64 x.me, .int .i64 x.next, .slice A1 n1 c1, .slice A2 n2 c2] 61).keep hb1
    have hz1 := hb1.size
    simp only [World.size_alloc] at hz1
    go_wp2_with (first | (refine wpList_load_g rfl 61 (.tmp 1) rfl (w.heap.size) 0 rfl [.int .i64 x.me, .int .i64 x.next, .slice A1 n1 c1, .slice A2 n2 c2] _ E.range Try.underlying61 rfl sizeENode_laws ?_) | fail)
    refine (nod_to x _ _ _ _ _ _ _ (h1.keep insK hB1) (h2.keep leaK hB1) hsn).mono ?_
    rintro e w2 ⟨As1, ns1, cs1, As2, ns2, cs2, fs1, fs2, rfl, hNs, hFs, s1, s2, hb2⟩
    try generalize (Value.agg #[.int .i64 x.me, .int .i64 x.next, .slice A1 n1 c1, .slice A2 n2 c2]) = uu2
    have E' := E.keep hb2; clear E; have E := E'; clear E'
    have hB2 := bthen hB1 hb2
    have hz2 := hb2.size
    go_wp2_with (first | (refine wpList_load_g rfl 61 (.tmp 1) rfl (w.heap.size) 0 rfl [.int .i64 x.me, .int .i64 x.next, .slice A1 n1 c1, .slice A2 n2 c2] _ E.range Try.underlying61 rfl sizeENode_laws ?_) | fail)
    refine (saveNode_spec x _ _ _ _ _ _ _ (s1.at_ insK (by omega)) (s2.at_ leaK (by omega)) hb).mono ?_
    rintro e w3 ⟨rfl, hb3⟩
    try generalize (Value.agg #[.int .i64 x.me, .int .i64 x.next, .slice A1 n1 c1, .slice A2 n2 c2]) = uu3
    have E' := E.keep hb3; clear E; have E := E'; clear E'
    have s1' := s1.keep insK hb3; clear s1; have s1 := s1'; clear s1'
    have s2' := s2.keep leaK hb3; clear s2; have s2 := s2'; clear s2'
    have hB3 := bthen hB2 hb3
    have hz3 := hb3.size
    rw [HT.out]
    go_wp2_with (first | (refine wpList_load_g rfl 61 (.tmp 1) rfl (w.heap.size) 0 rfl [.int .i64 x.me, .int .i64 x.next, .slice A1 n1 c1, .slice A2 n2 c2] _ E.range Try.underlying61 rfl sizeENode_laws ?_) | fail)
    refine (nod_to x _ _ _ _ _ _ _ (h1.keep insK hB3) (h2.keep leaK hB3) hsn).mono ?_
    rintro e w4 ⟨Ap1, np1, cp1, Ap2, np2, cp2, fp1, fp2, rfl, hNp, hFp, p1, p2, hb4⟩
    try generalize (Value.agg #[.int .i64 x.me, .int .i64 x.next, .slice A1 n1 c1, .slice A2 n2 c2]) = uu4
    have E' := E.keep hb4; clear E; have E := E'; clear E'
    have hB4 := bthen hB3 hb4
    have hz4 := hb4.size
    unfold nodV
    obtain ⟨g, hg⟩ : ∃ g, w4.heap.size = g := ⟨_, rfl⟩
    have GG : BoxL (w4.alloc (.cells #[.int .i64 x.me, .int .i64 x.next, .slice Ap1 np1 cp1, .slice Ap2 np2 cp2] 67)) g [.int .i64 x.me, .int .i64 x.next, .slice Ap1 np1 cp1, .slice Ap2 np2 cp2] := by rw [← hg]; exact BoxL.new w4 _ _
    have HG := Lib.hid hg; clear hg
    go_wp2_with (first | (rw [HG.out]; refine wpList_load_g rfl 67 (.tmp 5) rfl g 0 rfl [.int .i64 x.me, .int .i64 x.next, .slice Ap1 np1 cp1, .slice Ap2 np2 cp2] _ GG.range Try.underlying67 rfl sizeENode_impl ?_) | fail)
    have hg := HG.out
    have alp := (Below.refl w4.heap.size w4).alloc (Nat.le_refl _) (.cells #[.int .i64 x.me, .int .i64 x.next, .slice Ap1 np1 cp1, .slice Ap2 np2 cp2] 67)
    obtain ⟨W, hW⟩ : ∃ W, W = w4.alloc (.cells #[.int .i64 x.me, .int .i64 x.next, .slice Ap1 np1 cp1, .slice Ap2 np2 cp2] 67) := ⟨_, rfl⟩
    rw [← hW] at GG
    rw [← hW] at alp ⊢
    try simp only [hg]
    have E' := E.keep alp; clear E; have E := E'; clear E'
    have p1' := p1.keep insK alp; clear p1; have p1 := p1'; clear p1'
    have p2' := p2.keep leaK alp; clear p2; have p2 := p2'; clear p2'
    have hBW := bthen hB4 alp
    clear hW hg alp HG
    refine (saveNode_impl x _ _ _ _ _ _ _ (p1.at_ insK (by omega)) (p2.at_ leaK (by omega)) hb).mono ?_
    rintro e w5 ⟨rfl, hb5⟩
    rw [HT.out]
    try generalize (Value.agg #[.int .i64 x.me, .int .i64 x.next, .slice A1 n1 c1, .slice A2 n2 c2]) = uu5
    try generalize (Value.agg #[.int .i64 x.me, .int .i64 x.next, .slice Ap1 np1 cp1, .slice Ap2 np2 cp2]) = uu6
    have E' := E.keep hb5; clear E; have E := E'; clear E'
    have GG' := GG.keep hb5; clear GG; have GG := GG'; clear GG'
    have p1' := p1.keep insK hb5; clear p1; have p1 := p1'; clear p1'
    have p2' := p2.keep leaK hb5; clear p2; have p2 := p2'; clear p2'
    have hB5 := bthen hBW hb5
    have hz5 := hb5.size
    go_wp2
    refine wp_region_dagb [22, 23, 24, 25, 26] (by kernel_rfl) (by kernel_rfl) (fun D vs w' => ∃ v22 v23 v24 v25 v26 : Value, vs = [v22, v23, v24, v25, v26] ∧ Below w5.heap.size w5 w' ∧ (D 0 = true → v22 = .agg #[.int .i64 x.me, .int .i64 x.next, .slice Ap1 np1 cp1, .slice Ap2 np2 cp2]) ∧ (D 1 = true → v23 = .agg #[.int .i64 x.me, .int .i64 x.next, .slice A1 n1 c1, .slice A2 n2 c2]) ∧ (D 2 = true → ∃ (B1 : Option Addr) (m1 d1 : Nat) (B2 : Option Addr) (m2 d2 : Nat), v24 = .agg #[.int .i64 x.me, .int .i64 x.next, .slice B1 m1 d1, .slice B2 m2 d2] ∧ RowR insR 16 w' B1 m1 d1 x.insts ∧ RowR leaR 8 w' B2 m2 d2 x.leads) ∧ (D 3 = true → v25 = .bool true) ∧ (D 4 = true → v26 = .bool false))
      ⟨_, _, _, _, _, rfl, ((Below.refl _ _).drew), (fun h => by cases h), (fun h => by cases h), (fun h => by cases h), (fun h => by cases h), (fun h => by cases h)⟩ ?_ ?_
    · intro i D vs w' hi hD hdep hcl hI
      have hi' : i < 5 := hi
      obtain ⟨v22, v23, v24, v25, v26, rfl, hb, k0, k1, k2, k3, k4⟩ := hI
      simp only [putAll, List.setIfInBounds_toArray, List.set_cons_succ, List.set_cons_zero]
      rcases (show i = 0 ∨ i = 1 ∨ i = 2 ∨ i = 3 ∨ i = 4 by omega) with rfl | rfl | rfl | rfl | rfl
      · refine wpOp_step (by simp only [List.getElem?_toArray, List.getElem?_cons_zero]; rfl) (fun K hK => ?_)
        refine wp_load_mid 67 (.tmp 5) rfl (g) 0 rfl [.int .i64 x.me, .int .i64 x.next, .slice Ap1 np1 cp1, .slice Ap2 np2 cp2] _ (GG.keep hb).range Try.underlying67 rfl sizeENode_impl ?_
        refine hK _ _ ⟨[.agg #[.int .i64 x.me, .int .i64 x.next, .slice Ap1 np1 cp1, .slice Ap2 np2 cp2], v23, v24, v25, v26], ?_, _, _, _, _, _, rfl, hb, (fun _ => rfl), k1, k2, k3, k4⟩
        simp only [Act.put, putAll, List.setIfInBounds_toArray, List.set_cons_succ, List.set_cons_zero]
      · refine wpOp_step (by simp only [List.getElem?_toArray, List.getElem?_cons_succ, List.getElem?_cons_zero]; rfl) (fun K hK => ?_)
        refine wp_load_mid 61 (.tmp 1) rfl (w.heap.size) 0 rfl [.int .i64 x.me, .int .i64 x.next, .slice A1 n1 c1, .slice A2 n2 c2] _ (E.keep hb).range Try.underlying61 rfl sizeENode_laws ?_
        refine hK _ _ ⟨[v22, .agg #[.int .i64 x.me, .int .i64 x.next, .slice A1 n1 c1, .slice A2 n2 c2], v24, v25, v26], ?_, _, _, _, _, _, rfl, hb, k0, (fun _ => rfl), k2, k3, k4⟩
        simp only [Act.put, putAll, List.setIfInBounds_toArray, List.set_cons_succ, List.set_cons_zero]
      · have e1 := k1 (hdep 1 (by kernel_rfl))
        subst e1
        refine wpOp_step (by simp only [List.getElem?_toArray, List.getElem?_cons_succ, List.getElem?_cons_zero]; rfl) (fun K hK => ?_)
        go_simp
        refine (nod_to x _ _ _ _ _ _ _ ((h1.keep insK hB5).keep insK hb) ((h2.keep leaK hB5).keep leaK hb) hsn).mono ?_
        rintro e w4_ ⟨B1, m1, d1, B2, m2, d2, _, _, rfl, _, _, u1, u2, hb4⟩
        refine hK _ _ ⟨[v22, .agg #[.int .i64 x.me, .int .i64 x.next, .slice A1 n1 c1, .slice A2 n2 c2], .agg #[.int .i64 x.me, .int .i64 x.next, .slice B1 m1 d1, .slice B2 m2 d2], v25, v26], ?_, _, _, _, _, _, rfl, (bthen hb hb4), k0, (fun _ => rfl), (fun _ => ⟨B1, m1, d1, B2, m2, d2, rfl, u1.at_ insK (by omega), u2.at_ leaK (by omega)⟩), k3, k4⟩
        simp only [putAll, List.setIfInBounds_toArray, List.set_cons_succ, List.set_cons_zero] <;> rfl
      · have e0 := k0 (hdep 0 (by kernel_rfl))
        subst e0
        obtain ⟨B1, m1, d1, B2, m2, d2, rfl, t1, t2⟩ := k2 (hdep 2 (by kernel_rfl))
        refine wpOp_step (by simp only [List.getElem?_toArray, List.getElem?_cons_succ, List.getElem?_cons_zero]; rfl) (fun K hK => ?_)
        go_simp
        refine (nod_eq x _ _ _ _ _ _ _ _ _ _ _ _ _ ((p1.at_ insK (by omega)).keep insK hb) ((p2.at_ leaK (by omega)).keep leaK hb) t1 t2 (by omega)).mono ?_
        rintro e w4_ ⟨rfl, hb4⟩
        refine hK _ _ ⟨[.agg #[.int .i64 x.me, .int .i64 x.next, .slice Ap1 np1 cp1, .slice Ap2 np2 cp2], v23, .agg #[.int .i64 x.me, .int .i64 x.next, .slice B1 m1 d1, .slice B2 m2 d2], .bool true, v26], ?_, _, _, _, _, _, rfl, (bthen hb hb4), (fun _ => rfl), k1, (fun _ => ⟨B1, m1, d1, B2, m2, d2, rfl, t1.keep insK hb4, t2.keep leaK hb4⟩), (fun _ => rfl), k4⟩
        simp only [putAll, List.setIfInBounds_toArray, List.set_cons_succ, List.set_cons_zero]
      · have e3 := k3 (hdep 3 (by kernel_rfl))
        subst e3
        refine wpOp_step (by simp only [List.getElem?_toArray, List.getElem?_cons_succ, List.getElem?_cons_zero]; rfl) (fun K hK => ?_)
        go_simp
        refine hK _ _ ⟨[v22, v23, v24, .bool true, .bool false], ?_, _, _, _, _, _, rfl, hb, k0, k1, k2, (fun _ => rfl), (fun _ => rfl)⟩
        simp only [putAll, List.setIfInBounds_toArray, List.set_cons_succ, List.set_cons_zero]
    · intro D vs w' hD hI
      obtain ⟨v22, v23, v24, v25, v26, rfl, hb, k0, k1, k2, k3, k4⟩ := hI
      simp only [putAll, List.setIfInBounds_toArray, List.set_cons_succ, List.set_cons_zero]
      have e26 := k4 (hD 4 (show 4 < 5 by decide))
      subst e26
      go_wp2
      go_returns
      exact ⟨rfl, bthen hB5 hb⟩
  · have HR := Lib.hid (szR_no (Int.not_le.1 hsz))
    unfold nodV
    go_enter Try.func7, Try.ntmps7
    go_wp2_with fail
    refine (nod_sz x _ _ _ _ _ _ _ _ (h1.keep insK al) (h2.keep leaK al) hb (by omega) (by omega)).mono ?_
    rintro e w1 ⟨rfl, hb1⟩; rw [HR.out]
    have hB1 := bthen al hb1
    go_wp2
    go_returns
    exact ⟨rfl, hB1⟩
end
theorem fnExactSaveNode_shape {H : Type} {enc : TypeId × Value → H} {W : World} {args : Array Value} {ds : List (DataW H)} {p : List MemPlace}
    (hA : DataW.TrodAll enc Try.prog W 0 (fun _ => true) true Try.f7.params.toList args.toList ds p) : ∃ x0, ds = [x0] := by
  obtain ⟨v0, d0, rfl, rfl, h0⟩ := trodAll_one hA
  exact ⟨_, rfl⟩

set_option maxRecDepth 100000 in
theorem fnExactSaveNode_contract {H : Type} {enc : TypeId × Value → H} (W : World) (base : Nat) (args : Array Value) (ds : List (DataW H)) (p : List MemPlace)
    (hval : ∀ (j : Nat) t v, Try.f7.params[j]? = some t → args[j]? = some v → Value.okWide Try.prog W .any base t v)
    (hA : DataW.TrodAll enc Try.prog W 0 (fun _ => true) true Try.f7.params.toList args.toList ds p) :
    Calls Try.prog 7 args W fun e W' => e = .returned (.bool true) ∧ Below W.heap.size W W' := by
  obtain ⟨v0, d0, rfl, rfl, h0⟩ := trodAll_one hA
  obtain ⟨x0, A0_1, n0_1, c0_1, A0_2, n0_2, c0_2, rfl, g0_1, g0_2, b0⟩ := opn_nod (hval 0 61 v0 rfl rfl) h0
  exact fnExactSaveNode_any _ _ _ _ _ _ _ W g0_1 g0_2 b0

set_option maxRecDepth 100000 in
theorem fnExactSaveNode_lifted (os : Os) (started : os.Started) (H : Type) (enc : TypeId × Value → H) :
    ReturnsInHanded {} Try.checked os 7 .any (Rows.fnExactSaveNodeSpec.pre6 enc Try.prog Try.f7 Rows.fnExactSaveNodeRow.domain false) (Rows.fnExactSaveNodeSpec.post enc Try.prog Try.f7 false true false false) := by
  refine returnsInHanded_of_change (C := Try.checked) Try.own started (by kernel_rfl) Try.func7
    (ChangeSpec.witness6 (enc := enc) (C := Try.checked) false ⟨#[], #[.agg #[.int .i64 0, .int .i64 0, .slice none 0 0, .slice none 0 0]], []⟩ 8 (by kernel_rfl) (by kernel_rfl) (by kernel_rfl) (by kernel_rfl)) ?_
  intro W base args ds gs before hval0 hW _ _
  have hval : ∀ (j : Nat) t v, Try.f7.params[j]? = some t → args[j]? = some v → Value.okWide Try.prog W .any base t v := hval0
  have hW' := hW
  obtain ⟨p, q, hA0, hV, rfl, hfz, hnd⟩ := hW
  have hA : DataW.TrodAll enc Try.prog W 0 (fun _ => true) true Try.f7.params.toList args.toList ds p := hA0
  refine (fnExactSaveNode_contract W base args ds p hval hA).mono fun e W' ⟨he, hb⟩ => ?_
  subst he
  have hds := fnExactSaveNode_shape hA
  obtain ⟨hgs, _⟩ := trodVars_none hV
  subst hgs
  refine ⟨_, rfl, law_post (P := Try.prog) Try.laidOut (of_decide_eq_true (by kernel_rfl)) (by kernel_rfl) Try.underlying4 hW' rfl ?_ ?_ ?_ hb⟩
  all_goals (obtain ⟨x0, rfl⟩ := hds; rfl)

theorem fnExactSaveNode_holds : Rows.FnExactSaveNodeSaid :=
  OpenClaim.holds_of_wide 7 Try.f7 rfl rfl rfl rfl rfl rfl rfl ⟨rfl, rfl, rfl, rfl, rfl⟩ rfl rfl rfl rfl rfl (by kernel_rfl) Try.func7 (by kernel_rfl)
    (of_decide_eq_true (by kernel_rfl)) (by unfold Func.isWrapper; first | (rw [if_pos (by decide +kernel)]; kernel_rfl) | (rw [if_neg (by decide +kernel)]; exact ⟨rfl, rfl⟩))
    (fun os started H enc _ => fnExactSaveNode_lifted os started H enc)
end Go.Proofs.Ytdphdnllhmnelaa
