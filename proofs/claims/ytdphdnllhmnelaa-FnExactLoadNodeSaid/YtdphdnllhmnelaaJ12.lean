/- Contracts and lemmas: NodeOk, ShowInst, ShowInstS, SaveNode. -/
import Derived.Test.YtdphdnllhmnelaaJ4
import Derived.Test.YtdphdnllhmnelaaJ11
import Derived.Test.YtdphdnllhmnelaaJ9
import Derived.Test.YtdphdnllhmnelaaJ8
import Derived.Test.YtdphdnllhmnelaaJ10
import Derived.Test.YtdphdnllhmnelaaJ5
/- Is a node right (ENodeOk), both sides. -/
namespace Go.Proofs.Ytdphdnllhmnelaa
open Go.RowKit
attribute [local go_sem] Grow.cell Grow.frozen
/-- of the node's own with a number that is not given yet -/
def unkB (me next : Int) (id : Idd) : Bool := id.r == me && decide (next ≤ id.s)
def knB (x : Nod) : Bool := (List.range x.insts.length).all (fun j => !unkB x.me x.next (insAt x.insts j).id)
def ldsB (l : List Lea) : Bool := (List.range l.length).all (fun j => leaOkB (leaAt l j) && (ledI l 0 (leaAt l j).id == (j : Int)))
/-- a right node -/
def nodOkB (x : Nod) : Bool := inB x.me 0 2 && inB x.next 1 7 && inssOkB x.insts && decide (x.leads.length ≤ 8) && knB x && ldsB x.leads
theorem knB_yes {x : Nod} (h : ∀ j, j < x.insts.length → unkB x.me x.next (insAt x.insts j).id = false) : knB x = true := by
  unfold knB; rw [List.all_eq_true]
  intro j hj
  rw [h j (List.mem_range.1 hj)]; rfl
theorem knB_no {x : Nod} {j : Nat} (hj : j < x.insts.length) (h : unkB x.me x.next (insAt x.insts j).id = true) : knB x = false := by
  unfold knB; rw [List.all_eq_false]
  exact ⟨j, List.mem_range.2 hj, by rw [h]; simp⟩
theorem ldsB_yes {l : List Lea} (h : ∀ j, j < l.length → leaOkB (leaAt l j) = true ∧ ledI l 0 (leaAt l j).id = (j : Int)) : ldsB l = true := by
  unfold ldsB; rw [List.all_eq_true]
  intro j hj
  obtain ⟨h1, h2⟩ := h j (List.mem_range.1 hj)
  rw [h1, h2]; simp
theorem ldsB_no {l : List Lea} {j : Nat} (hj : j < l.length) (h : leaOkB (leaAt l j) = false ∨ ledI l 0 (leaAt l j).id ≠ (j : Int)) : ldsB l = false := by
  unfold ldsB; rw [List.all_eq_false]
  refine ⟨j, List.mem_range.2 hj, ?_⟩
  rcases h with h | h
  · rw [h]; simp
  · have : (ledI l 0 (leaAt l j).id == (j : Int)) = false := by simpa using h
    rw [this]; simp
theorem sizeInst1 : (Try.prog.info? 50).map (·.size) = some 16 := by kernel_rfl
attribute [local irreducible] RowR StrR IntR inB inssOkB insOkB leaOkB ledI knB ldsB
set_option maxRecDepth 8000 in
theorem unknown_impl (id : Idd) (me next : Int) (B : Nat) (w : World) (h0 : w.cell? ⟨B, 0, none⟩ = some (.int .i64 me)) (h1 : w.cell? ⟨B, 1, none⟩ = some (.int .i64 next)) :
    Calls Try.prog 144 #[.pointer (some ⟨B, 0, none⟩), iddV id] w fun e w' => e = .returned (.bool (unkB me next id)) ∧ Below w.heap.size w w' := by
  have al := (Below.refl w.heap.size w).alloc (Nat.le_refl _) (.cells #[.int .i64 id.r, .int .i64 id.s] 46)
  have BX := BoxL.new w [.int .i64 id.r, .int .i64 id.s] 46
  have c0 := keep_cell al h0
  have c1 := keep_cell al h1
  have hBl := cell_lt h0
  obtain ⟨r, s⟩ := id
  unfold iddV
  go_enter Try.func144, Try.ntmps144
  go_wp2_with fail
  obtain ⟨W, hW⟩ : ∃ W, W = w.alloc (.cells #[.int .i64 r, .int .i64 s] 46) := ⟨_, rfl⟩
  try dsimp only at al BX c0 c1
  rw [← hW] at al BX c0 c1 ⊢
  obtain ⟨g, hg⟩ : ∃ g, w.heap.size = g := ⟨_, rfl⟩
  simp only [hg] at BX ⊢
  have HG := Lib.hid hg
  clear hW hg h0 h1
  have b0 := BX.cell 0 _ rfl
  have b1 := BX.cell 1 _ rfl
  have hgl := BX.lt
  have hBl2 := cell_lt c0
  by_cases h1 : r = me
  · have g1 : (r == me) = true := by simpa using h1
    by_cases h2 : next ≤ s
    · have HV := Lib.hid (show unkB me next ⟨r, s⟩ = true by simp [unkB, h1, h2])
      have gd : decide (s ≥ next) = true := by simpa using h2
      clear h1
      refine wp_region_grow (by kernel_rfl) (by kernel_rfl) ?_
      repeat (first | go_big_quiet_step (fail))
      refine wpQuiet_nil ?_
      intro _ hw'
      obtain ⟨⟨w4, hb4⟩, hw''⟩ := hw'
      change _ = w4 at hw''
      subst hw''
      go_wp2
      go_returns
      exact ⟨ret_bool (by rw [HV.out]), bthen al hb4⟩
    · have HV := Lib.hid (show unkB me next ⟨r, s⟩ = false by simp [unkB, h2])
      have gd : decide (s ≥ next) = false := by simpa using h2
      clear h1
      refine wp_region_grow (by kernel_rfl) (by kernel_rfl) ?_
      repeat (first | go_big_quiet_step (fail))
      refine wpQuiet_nil ?_
      intro _ hw'
      obtain ⟨⟨w4, hb4⟩, hw''⟩ := hw'
      change _ = w4 at hw''
      subst hw''
      go_wp2
      go_returns
      exact ⟨ret_bool (by rw [HV.out]), bthen al hb4⟩
  · have g1 : (r == me) = false := by simpa using h1
    have HV := Lib.hid (show unkB me next ⟨r, s⟩ = false by simp [unkB, h1])
    refine wp_region_grow (by kernel_rfl) (by kernel_rfl) ?_
    repeat (first | go_big_quiet_step (fail))
    refine wpQuiet_nil ?_
    intro _ hw'
    obtain ⟨⟨w4, hb4⟩, hw''⟩ := hw'
    change _ = w4 at hw''
    subst hw''
    go_wp2
    go_returns
    exact ⟨ret_bool (by rw [HV.out]), bthen al hb4⟩
set_option maxRecDepth 8000 in
set_option maxHeartbeats 8000000 in
theorem nodeOk_impl (x : Nod) (A1 : Option Addr) (n1 c1 : Nat) (A2 : Option Addr) (n2 c2 : Nat) (w : World) (h1 : RowR insR 16 w A1 n1 c1 x.insts) (h2 : RowR leaR 8 w A2 n2 c2 x.leads) (hb : nodB x) :
    Calls Try.prog 99 #[nodV x (.slice A1 n1 c1) (.slice A2 n2 c2)] w fun e w' => e = .returned (.bool (nodOkB x)) ∧ Below w.heap.size w w' := by
  have HL1 := Lib.hid h1.len
  have HL2 := Lib.hid h2.len
  have hn1 : n1 ≤ 9223372036854775807 := by have := h1.len; have := hb.1.1; omega
  have hn2 : n2 ≤ 9223372036854775807 := by have := h2.len; have := hb.2.1; omega
  obtain ⟨q0, hq0⟩ : ∃ q, inB x.me 0 2 = q := ⟨_, rfl⟩
  obtain ⟨q1, hq1⟩ : ∃ q, inB x.next 1 7 = q := ⟨_, rfl⟩
  obtain ⟨q2, hq2⟩ : ∃ q, inssOkB x.insts = q := ⟨_, rfl⟩
  obtain ⟨q3, hq3⟩ : ∃ q, decide (x.leads.length ≤ 8) = q := ⟨_, rfl⟩
  obtain ⟨q4, hq4⟩ : ∃ q, knB x = q := ⟨_, rfl⟩
  obtain ⟨q5, hq5⟩ : ∃ q, ldsB x.leads = q := ⟨_, rfl⟩
  have HV := Lib.hid (show nodOkB x = (q0 && q1 && q2 && q3 && q4 && q5) by unfold nodOkB; rw [hq0, hq1, hq2, hq3, hq4, hq5])
  have Q0 := Lib.hid hq0; clear hq0
  have Q1 := Lib.hid hq1; clear hq1
  have Q2 := Lib.hid hq2; clear hq2
  have Q3 := Lib.hid hq3; clear hq3
  have Q4 := Lib.hid hq4; clear hq4
  have Q5 := Lib.hid hq5; clear hq5
  have al := (Below.refl w.heap.size w).alloc (Nat.le_refl _) (.cells #[.int .i64 x.me, .int .i64 x.next, .slice A1 n1 c1, .slice A2 n2 c2] 67)
  have BX := BoxL.new w [.int .i64 x.me, .int .i64 x.next, .slice A1 n1 c1, .slice A2 n2 c2] 67
  unfold nodV
  go_enter Try.func99, Try.ntmps99
  go_wp2_with fail
  refine (isRep_any _ _).mono ?_
  rintro e w' ⟨rfl, rfl⟩
  obtain ⟨W, hW⟩ : ∃ W, W = w.alloc (.cells #[.int .i64 x.me, .int .i64 x.next, .slice A1 n1 c1, .slice A2 n2 c2] 67) := ⟨_, rfl⟩
  obtain ⟨g, hg⟩ : ∃ g, w.heap.size = g := ⟨_, rfl⟩
  have HG := Lib.hid hg
  have hB := al
  rw [← hW] at BX hB ⊢
  simp only [hg] at BX ⊢
  clear hW al hg
  have k1 := h1.keep insK hB; have k2 := h2.keep leaK hB; clear h1 h2
  have hgl := BX.lt
  have e0 := BX.cell 0 _ rfl
  have e1 := BX.cell 1 _ rfl
  have e2 := BX.cell 2 _ rfl
  have e3 := BX.cell 3 _ rfl
  rw [Q0.out]
  cases q0
  · skip
    go_wp2
    go_returns
    exact ⟨ret_bool (by rw [HV.out]; simp), hB⟩
  · skip
    go_wp2_with fail
    refine (within_any _ _ _ _).mono ?_
    rintro e w' ⟨rfl, rfl⟩
    rw [Q1.out]
    cases q1
    · skip
      go_wp2
      go_returns
      exact ⟨ret_bool (by rw [HV.out]; simp), hB⟩
    · skip
      go_wp2_with fail
      refine (instsOk_impl x.insts _ _ _ _ k1 hb.1).mono ?_
      rintro e w1 ⟨rfl, hb1⟩
      have BX' := BX.keep hb1; have hB' := bthen hB hb1; have k1' := k1.keep insK hb1; have k2' := k2.keep leaK hb1
      clear hgl e0 e1 e2 e3
      clear BX hB k1 k2; have BX := BX'; have hB := hB'; have k1 := k1'; have k2 := k2'; clear BX' hB' k1' k2'
      have hgl := BX.lt
      have e0 := BX.cell 0 _ rfl
      have e1 := BX.cell 1 _ rfl
      have e2 := BX.cell 2 _ rfl
      have e3 := BX.cell 3 _ rfl
      rw [Q2.out]
      cases q2
      · skip
        go_wp2
        go_returns
        exact ⟨ret_bool (by rw [HV.out]; simp), hB⟩
      · skip
        by_cases h8 : 8 < n2
        · have HB := Lib.hid (show q3 = false by rw [← Q3.out]; have := HL2.out; simp only [decide_eq_false_iff_not]; omega)
          have gd : (8 : Int) < (n2 : Int) := by omega
          go_wp2
          go_returns
          exact ⟨ret_bool (by rw [HV.out, HB.out]; simp), hB⟩
        · have HB3 := Lib.hid (show q3 = true by rw [← Q3.out]; have := HL2.out; simp only [decide_eq_true_eq]; omega)
          have gd : ¬ (8 : Int) < (n2 : Int) := by omega
          go_wp2
          have hgd8 : n2 ≤ 8 := by omega
          clear gd h8
          obtain ⟨V, hV⟩ : ∃ V, V = w1 := ⟨_, rfl⟩
          subst hV
          go_loopw [32] (fun i wr => ∃ (k : Nat), k ≤ n1 ∧ i = .int .i64 k ∧ (∀ j : Nat, j < k → unkB x.me x.next (insAt x.insts j).id = false) ∧ Below V.heap.size V wr) (fun i _ => n1 - (intOf i).toNat)
          case atStart => exact ⟨0, Nat.zero_le _, rfl, fun j h => absurd h (by omega), Below.refl _ _⟩
          case round =>
            obtain ⟨k, hk, rfl, hcl, hbr⟩ := hrel
            have HCL := Lib.hid hcl; clear hcl
            have k1o := k1
            have BX' := BX.keep hbr; have hB' := bthen hB hbr; have k1' := k1.keep insK hbr; have k2' := k2.keep leaK hbr
            clear hgl e0 e1 e2 e3
            clear BX hB k1 k2; have BX := BX'; have hB := hB'; have k1 := k1'; have k2 := k2'; clear BX' hB' k1' k2'
            have hgl := BX.lt
            have e0 := BX.cell 0 _ rfl
            have e1 := BX.cell 1 _ rfl
            have e2 := BX.cell 2 _ rfl
            have e3 := BX.cell 3 _ rfl
            by_cases hlt : k < n1
            · skip
              obtain ⟨b, off, rfl⟩ := k1.head (by omega)
              obtain ⟨bl, y, cs, hy, ⟨I1, m1, d1, I2, m2, d2, rfl, _, _⟩, hcell⟩ := k1.elem_at hlt
              have HAX := Lib.hid (insAt_of hy)
              obtain ⟨p, hp⟩ : ∃ p, unkB x.me x.next y.id = p := ⟨_, rfl⟩
              have hcr : wr.rangeAt b (off + k * 16) [.int .i64 y.id.r, .int .i64 y.id.s, .int .i64 y.bal, .int .i64 y.vb, .int .i64 y.st, .int .i64 y.cmd.kd, .int .i64 y.cmd.cl, .int .i64 y.cmd.no, .string y.cmd.s, .string y.cmd.nm, .string y.cmd.tg, .int .i64 y.cmd.n, .slice I1 m1 d1, .int .i64 y.seq, .slice I2 m2 d2, .bool y.same] := fun j v hv => hcell j v hv
              clear hcell hy k1o
              have P := Lib.hid hp; clear hp
              have al := (Below.refl wr.heap.size wr).alloc (Nat.le_refl _) (.cells #[.int .i64 y.id.r, .int .i64 y.id.s, .int .i64 y.bal, .int .i64 y.vb, .int .i64 y.st, .int .i64 y.cmd.kd, .int .i64 y.cmd.cl, .int .i64 y.cmd.no, .string y.cmd.s, .string y.cmd.nm, .string y.cmd.tg, .int .i64 y.cmd.n, .slice I1 m1 d1, .int .i64 y.seq, .slice I2 m2 d2, .bool y.same] 50)
              have BY := BoxL.new wr [.int .i64 y.id.r, .int .i64 y.id.s, .int .i64 y.bal, .int .i64 y.vb, .int .i64 y.st, .int .i64 y.cmd.kd, .int .i64 y.cmd.cl, .int .i64 y.cmd.no, .string y.cmd.s, .string y.cmd.nm, .string y.cmd.tg, .int .i64 y.cmd.n, .slice I1 m1 d1, .int .i64 y.seq, .slice I2 m2 d2, .bool y.same] 50
              repeat (first | ((with_reducible refine wpList_load_o 50 (.tmp 34) (b) (off + k * 16) [.int .i64 y.id.r, .int .i64 y.id.s, .int .i64 y.bal, .int .i64 y.vb, .int .i64 y.st, .int .i64 y.cmd.kd, .int .i64 y.cmd.cl, .int .i64 y.cmd.no, .string y.cmd.s, .string y.cmd.nm, .string y.cmd.tg, .int .i64 y.cmd.n, .slice I1 m1 d1, .int .i64 y.seq, .slice I2 m2 d2, .bool y.same] _ hcr Try.underlying50 sizeInst1 ?_ ?_ ?_ ?_ ?_ ?_); (rfl); (rfl); (rfl); (rfl); (rfl)) | go_values | go_skip | go_guarded | go_step | go_upon | (simp only []; go_at_K))
              obtain ⟨W, hW⟩ : ∃ W, W = wr.alloc (.cells #[.int .i64 y.id.r, .int .i64 y.id.s, .int .i64 y.bal, .int .i64 y.vb, .int .i64 y.st, .int .i64 y.cmd.kd, .int .i64 y.cmd.cl, .int .i64 y.cmd.no, .string y.cmd.s, .string y.cmd.nm, .string y.cmd.tg, .int .i64 y.cmd.n, .slice I1 m1 d1, .int .i64 y.seq, .slice I2 m2 d2, .bool y.same] 50) := ⟨_, rfl⟩
              obtain ⟨h, hh⟩ : ∃ h, wr.heap.size = h := ⟨_, rfl⟩
              rw [← hW] at BY al ⊢
              simp only [hh] at BY ⊢
              clear hW hh hcr
              have BX' := BX.keep al; have hB' := bthen hB al; have k1' := k1.keep insK al; have k2' := k2.keep leaK al
              clear hgl e0 e1 e2 e3
              clear BX hB k1 k2; have BX := BX'; have hB := hB'; have k1 := k1'; have k2 := k2'; clear BX' hB' k1' k2'
              have hgl := BX.lt
              have e0 := BX.cell 0 _ rfl
              have e1 := BX.cell 1 _ rfl
              have e2 := BX.cell 2 _ rfl
              have e3 := BX.cell 3 _ rfl
              have hlW := BY.lt; have f0 := BY.cell 0 _ rfl; have f1 := BY.cell 1 _ rfl
              have hbr2 := bthen hbr al
              go_wp2_with fail
              refine (unknown_impl y.id x.me x.next g _ e0 e1).mono ?_
              rintro e w4 ⟨rfl, hb4⟩
              rw [P.out]
              have BX' := BX.keep hb4; have hB' := bthen hB hb4; have k1' := k1.keep insK hb4; have k2' := k2.keep leaK hb4
              clear hgl e0 e1 e2 e3
              clear BX hB k1 k2; have BX := BX'; have hB := hB'; have k1 := k1'; have k2 := k2'; clear BX' hB' k1' k2'
              have hgl := BX.lt
              have e0 := BX.cell 0 _ rfl
              have e1 := BX.cell 1 _ rfl
              have e2 := BX.cell 2 _ rfl
              have e3 := BX.cell 3 _ rfl
              cases p
              · go_wp2
                refine ⟨⟨k + 1, by omega, by go_num, fun j hj => ?_, bthen hbr2 hb4⟩, by simp [intOf]; omega⟩
                by_cases e : j = k
                · subst e; rw [HAX.out]; exact P.out
                · exact HCL.out j (by omega)
              · have HB := Lib.hid (show q4 = false by rw [← Q4.out]; exact knB_no (x := x) (j := k) (by have := HL1.out; omega) (by rw [HAX.out]; exact P.out))
                go_wp2
                go_returns
                exact ⟨ret_bool (by rw [HV.out, HB.out]; simp), hB⟩
            · have HB4 := Lib.hid (show q4 = true by rw [← Q4.out]; exact knB_yes (x := x) (fun j hj => HCL.out j (by have := HL1.out; omega)))
              clear HCL k1o hbr
              go_wp2
              obtain ⟨V2, hV⟩ : ∃ V, V = wr := ⟨_, rfl⟩
              subst hV
              go_loopw [43] (fun i wr => ∃ (k : Nat), k ≤ n2 ∧ i = .int .i64 k ∧ (∀ j : Nat, j < k → leaOkB (leaAt x.leads j) = true ∧ ledI x.leads 0 (leaAt x.leads j).id = (j : Int)) ∧ Below V2.heap.size V2 wr) (fun i _ => n2 - (intOf i).toNat)
              case atStart => exact ⟨0, Nat.zero_le _, rfl, fun j h => absurd h (by omega), Below.refl _ _⟩
              case round =>
                obtain ⟨k, hk, rfl, hcl, hbr⟩ := hrel
                have HCL := Lib.hid hcl; clear hcl
                have BX' := BX.keep hbr; have hB' := bthen hB hbr; have k1' := k1.keep insK hbr; have k2' := k2.keep leaK hbr
                clear hgl e0 e1 e2 e3
                clear BX hB k1 k2; have BX := BX'; have hB := hB'; have k1 := k1'; have k2 := k2'; clear BX' hB' k1' k2'
                have hgl := BX.lt
                have e0 := BX.cell 0 _ rfl
                have e1 := BX.cell 1 _ rfl
                have e2 := BX.cell 2 _ rfl
                have e3 := BX.cell 3 _ rfl
                by_cases hlt : k < n2
                · skip
                  have hAk := k2
                  obtain ⟨b, off, rfl⟩ := k2.head (by omega)
                  obtain ⟨bl, y, cs, hy, ⟨I1, m1, d1, I2, m2, d2, rfl, y1, y2⟩, hcell⟩ := k2.elem_at hlt
                  have HAX := Lib.hid (leaAt_of hy)
                  have hby := bounds_el hb.2.2 hy
                  have hcr : wr.rangeAt b (off + k * 8) [.int .i64 y.id.r, .int .i64 y.id.s, .int .i64 y.bal, .int .i64 y.ph, .int .i64 y.seq, .slice I1 m1 d1, .slice I2 m2 d2, .bool y.same] := fun j v hv => hcell j v hv
                  clear hcell hy hAk
                  obtain ⟨p, hp⟩ : ∃ p, leaOkB y = p := ⟨_, rfl⟩
                  have P := Lib.hid hp; clear hp
                  obtain ⟨t, ht⟩ : ∃ t, ledI x.leads 0 y.id = t := ⟨_, rfl⟩
                  have T := Lib.hid ht; clear ht
                  have al := (Below.refl wr.heap.size wr).alloc (Nat.le_refl _) (.cells #[.int .i64 y.id.r, .int .i64 y.id.s, .int .i64 y.bal, .int .i64 y.ph, .int .i64 y.seq, .slice I1 m1 d1, .slice I2 m2 d2, .bool y.same] 170)
                  have BY := BoxL.new wr [.int .i64 y.id.r, .int .i64 y.id.s, .int .i64 y.bal, .int .i64 y.ph, .int .i64 y.seq, .slice I1 m1 d1, .slice I2 m2 d2, .bool y.same] 170
                  repeat (first | ((with_reducible refine wpList_load_o 170 (.tmp 46) (b) (off + k * 8) [.int .i64 y.id.r, .int .i64 y.id.s, .int .i64 y.bal, .int .i64 y.ph, .int .i64 y.seq, .slice I1 m1 d1, .slice I2 m2 d2, .bool y.same] _ hcr Try.underlying170 sizeLead0 ?_ ?_ ?_ ?_ ?_ ?_); (rfl); (rfl); (rfl); (rfl); (rfl)) | go_values | go_skip | go_guarded | go_step | go_upon | (simp only []; go_at_K))
                  obtain ⟨W, hW⟩ : ∃ W, W = wr.alloc (.cells #[.int .i64 y.id.r, .int .i64 y.id.s, .int .i64 y.bal, .int .i64 y.ph, .int .i64 y.seq, .slice I1 m1 d1, .slice I2 m2 d2, .bool y.same] 170) := ⟨_, rfl⟩
                  obtain ⟨h, hh⟩ : ∃ h, wr.heap.size = h := ⟨_, rfl⟩
                  rw [← hW] at BY al ⊢
                  simp only [hh] at BY ⊢
                  clear hW hh hcr
                  have BX' := BX.keep al; have hB' := bthen hB al; have k1' := k1.keep insK al; have k2' := k2.keep leaK al
                  clear hgl e0 e1 e2 e3
                  clear BX hB k1 k2; have BX := BX'; have hB := hB'; have k1 := k1'; have k2 := k2'; clear BX' hB' k1' k2'
                  have hgl := BX.lt
                  have e0 := BX.cell 0 _ rfl
                  have e1 := BX.cell 1 _ rfl
                  have e2 := BX.cell 2 _ rfl
                  have e3 := BX.cell 3 _ rfl
                  have y1' := y1.keep iddK al; have y2' := y2.keep al; clear y1 y2
                  have hbr2 := bthen hbr al
                  have hYr := BY.range; have hlW := BY.lt
                  repeat (first | ((with_reducible refine wpList_load_o 170 (.tmp 6) (h) (0) [.int .i64 y.id.r, .int .i64 y.id.s, .int .i64 y.bal, .int .i64 y.ph, .int .i64 y.seq, .slice I1 m1 d1, .slice I2 m2 d2, .bool y.same] _ hYr Try.underlying170 sizeLead0 ?_ ?_ ?_ ?_ ?_ ?_); (rfl); (rfl); (rfl); (rfl); (rfl)) | go_values | go_skip | go_guarded | go_step | go_upon | (simp only []; go_at_K))
                  refine (leadOk_impl y _ _ _ _ _ _ _ y1' y2' hby).mono ?_
                  rintro e w4 ⟨rfl, hb4⟩
                  rw [P.out]
                  have BY' := BY.keep hb4; clear BY hYr hlW; have BY := BY'; clear BY'
                  have BX' := BX.keep hb4; have hB' := bthen hB hb4; have k1' := k1.keep insK hb4; have k2' := k2.keep leaK hb4
                  clear hgl e0 e1 e2 e3
                  clear BX hB k1 k2; have BX := BX'; have hB := hB'; have k1 := k1'; have k2 := k2'; clear BX' hB' k1' k2'
                  have hgl := BX.lt
                  have e0 := BX.cell 0 _ rfl
                  have e1 := BX.cell 1 _ rfl
                  have e2 := BX.cell 2 _ rfl
                  have e3 := BX.cell 3 _ rfl
                  have hbr3 := bthen hbr2 hb4
                  cases p
                  · have HB := Lib.hid (show q5 = false by rw [← Q5.out]; exact ldsB_no (l := x.leads) (j := k) (by have := HL2.out; omega) (.inl (by rw [HAX.out]; exact P.out)))
                    go_wp2
                    go_returns
                    exact ⟨ret_bool (by rw [HV.out, HB.out]; simp), hB⟩
                  · skip
                    have hlW := BY.lt; have f0 := BY.cell 0 _ rfl; have f1 := BY.cell 1 _ rfl
                    go_wp2_with fail
                    refine (lead_impl x.leads y.id g _ _ _ _ k2 hb.2 e3).mono ?_
                    rintro e w5 ⟨rfl, hb5⟩
                    rw [T.out]
                    have BX' := BX.keep hb5; have hB' := bthen hB hb5; have k1' := k1.keep insK hb5; have k2' := k2.keep leaK hb5
                    clear hgl e0 e1 e2 e3
                    clear BX hB k1 k2; have BX := BX'; have hB := hB'; have k1 := k1'; have k2 := k2'; clear BX' hB' k1' k2'
                    have hgl := BX.lt
                    have e0 := BX.cell 0 _ rfl
                    have e1 := BX.cell 1 _ rfl
                    have e2 := BX.cell 2 _ rfl
                    have e3 := BX.cell 3 _ rfl
                    by_cases htk : t = (k : Int)
                    · have gd : (t != (k : Int)) = false := by simp [htk]
                      have HT := Lib.hid htk; clear htk
                      go_wp2
                      refine ⟨⟨k + 1, by omega, by go_num, fun j hj => ?_, bthen hbr3 hb5⟩, by simp [intOf]; omega⟩
                      by_cases e : j = k
                      · subst e; exact ⟨by rw [HAX.out]; exact P.out, by rw [HAX.out, T.out]; exact HT.out⟩
                      · exact HCL.out j (by omega)
                    · have HB := Lib.hid (show q5 = false by rw [← Q5.out]; exact ldsB_no (l := x.leads) (j := k) (by have := HL2.out; omega) (.inr (by rw [HAX.out, T.out]; exact htk)))
                      have gd : (t != (k : Int)) = true := by simpa using htk
                      go_wp2
                      go_returns
                      exact ⟨ret_bool (by rw [HV.out, HB.out]; simp), hB⟩
                · have HB5 := Lib.hid (show q5 = true by rw [← Q5.out]; exact ldsB_yes (l := x.leads) (fun j hj => HCL.out j (by have := HL2.out; omega)))
                  clear HCL
                  go_wp2
                  go_returns
                  exact ⟨ret_bool (by rw [HV.out, HB3.out, HB4.out, HB5.out]; rfl), hB⟩
theorem toldI {P : Program} {f : FuncId} {args : Array Value} {w : World} {T : World → Prop} {x y : Int} (hx : x = y) (h : Calls P f args w fun e w' => e = .returned (.int .i64 x) ∧ T w') : Calls P f args w fun e w' => e = .returned (.int .i64 y) ∧ T w' := by
  subst hx; exact h
set_option maxRecDepth 8000 in
set_option maxHeartbeats 8000000 in
theorem nodeOk_spec (x : Nod) (A1 : Option Addr) (n1 c1 : Nat) (A2 : Option Addr) (n2 c2 : Nat) (w : World) (h1 : RowR insR 16 w A1 n1 c1 x.insts) (h2 : RowR leaR 8 w A2 n2 c2 x.leads) (hb : nodB x) :
    Calls Try.prog 95 #[nodV x (.slice A1 n1 c1) (.slice A2 n2 c2)] w fun e w' => e = .returned (.bool (nodOkB x)) ∧ Below w.heap.size w w' := by
  have HL1 := Lib.hid h1.len
  have HL2 := Lib.hid h2.len
  have hn1 : n1 ≤ 9223372036854775807 := by have := h1.len; have := hb.1.1; omega
  have hn2 : n2 ≤ 9223372036854775807 := by have := h2.len; have := hb.2.1; omega
  obtain ⟨q0, hq0⟩ : ∃ q, inB x.me 0 2 = q := ⟨_, rfl⟩
  obtain ⟨q1, hq1⟩ : ∃ q, inB x.next 1 7 = q := ⟨_, rfl⟩
  obtain ⟨q2, hq2⟩ : ∃ q, inssOkB x.insts = q := ⟨_, rfl⟩
  obtain ⟨q3, hq3⟩ : ∃ q, decide (x.leads.length ≤ 8) = q := ⟨_, rfl⟩
  obtain ⟨q4, hq4⟩ : ∃ q, knB x = q := ⟨_, rfl⟩
  obtain ⟨q5, hq5⟩ : ∃ q, ldsB x.leads = q := ⟨_, rfl⟩
  have HV := Lib.hid (show nodOkB x = (q0 && q1 && q2 && q3 && q4 && q5) by unfold nodOkB; rw [hq0, hq1, hq2, hq3, hq4, hq5])
  have Q0 := Lib.hid hq0; clear hq0
  have Q1 := Lib.hid hq1; clear hq1
  have Q2 := Lib.hid hq2; clear hq2
  have Q3 := Lib.hid hq3; clear hq3
  have Q4 := Lib.hid hq4; clear hq4
  have Q5 := Lib.hid hq5; clear hq5
  have al := (Below.refl w.heap.size w).alloc (Nat.le_refl _) (.cells #[.int .i64 x.me, .int .i64 x.next, .slice A1 n1 c1, .slice A2 n2 c2] 67)
  have BX := BoxL.new w [.int .i64 x.me, .int .i64 x.next, .slice A1 n1 c1, .slice A2 n2 c2] 67
  unfold nodV
  go_enter Try.func95, Try.ntmps95
  go_wp2_with fail
  refine (l9Node_any _ _).mono ?_
  rintro e w' ⟨rfl, rfl⟩
  obtain ⟨W, hW⟩ : ∃ W, W = w.alloc (.cells #[.int .i64 x.me, .int .i64 x.next, .slice A1 n1 c1, .slice A2 n2 c2] 67) := ⟨_, rfl⟩
  obtain ⟨g, hg⟩ : ∃ g, w.heap.size = g := ⟨_, rfl⟩
  have HG := Lib.hid hg
  have hB := al
  rw [← hW] at BX hB ⊢
  simp only [hg] at BX ⊢
  clear hW al hg
  have k1 := h1.keep insK hB; have k2 := h2.keep leaK hB; clear h1 h2
  have hgl := BX.lt
  have e0 := BX.cell 0 _ rfl
  have e1 := BX.cell 1 _ rfl
  have e2 := BX.cell 2 _ rfl
  have e3 := BX.cell 3 _ rfl
  rw [Q0.out]
  cases q0
  · skip
    go_wp2
    go_returns
    exact ⟨ret_bool (by rw [HV.out]; simp), hB⟩
  · skip
    go_wp2_with fail
    refine (l1In_any _ _ _ _).mono ?_
    rintro e w' ⟨rfl, rfl⟩
    rw [Q1.out]
    cases q1
    · skip
      go_wp2
      go_returns
      exact ⟨ret_bool (by rw [HV.out]; simp), hB⟩
    · skip
      go_wp2_with fail
      refine (instsOk_spec x.insts _ _ _ _ k1 hb.1).mono ?_
      rintro e w1 ⟨rfl, hb1⟩
      have BX' := BX.keep hb1; have hB' := bthen hB hb1; have k1' := k1.keep insK hb1; have k2' := k2.keep leaK hb1
      clear hgl e0 e1 e2 e3
      clear BX hB k1 k2; have BX := BX'; have hB := hB'; have k1 := k1'; have k2 := k2'; clear BX' hB' k1' k2'
      have hgl := BX.lt
      have e0 := BX.cell 0 _ rfl
      have e1 := BX.cell 1 _ rfl
      have e2 := BX.cell 2 _ rfl
      have e3 := BX.cell 3 _ rfl
      rw [Q2.out]
      cases q2
      · skip
        go_wp2
        go_returns
        exact ⟨ret_bool (by rw [HV.out]; simp), hB⟩
      · skip
        by_cases h8 : 8 < n2
        · have HB := Lib.hid (show q3 = false by rw [← Q3.out]; have := HL2.out; simp only [decide_eq_false_iff_not]; omega)
          have gd : (8 : Int) < (n2 : Int) := by omega
          go_wp2
          go_returns
          exact ⟨ret_bool (by rw [HV.out, HB.out]; simp), hB⟩
        · have HB3 := Lib.hid (show q3 = true by rw [← Q3.out]; have := HL2.out; simp only [decide_eq_true_eq]; omega)
          have gd : ¬ (8 : Int) < (n2 : Int) := by omega
          go_wp2
          have hgd8 : n2 ≤ 8 := by omega
          clear gd h8
          obtain ⟨V, hV⟩ : ∃ V, V = w1 := ⟨_, rfl⟩
          subst hV
          go_loopw [3] (fun i wr => ∃ (k : Nat), k ≤ n1 ∧ i = .int .i64 k ∧ (∀ j : Nat, j < k → unkB x.me x.next (insAt x.insts j).id = false) ∧ Below V.heap.size V wr) (fun i _ => n1 - (intOf i).toNat)
          case atStart => exact ⟨0, Nat.zero_le _, rfl, fun j h => absurd h (by omega), Below.refl _ _⟩
          case round =>
            obtain ⟨k, hk, rfl, hcl, hbr⟩ := hrel
            have HCL := Lib.hid hcl; clear hcl
            have k1o := k1
            have BX' := BX.keep hbr; have hB' := bthen hB hbr; have k1' := k1.keep insK hbr; have k2' := k2.keep leaK hbr
            clear hgl e0 e1 e2 e3
            clear BX hB k1 k2; have BX := BX'; have hB := hB'; have k1 := k1'; have k2 := k2'; clear BX' hB' k1' k2'
            have hgl := BX.lt
            have e0 := BX.cell 0 _ rfl
            have e1 := BX.cell 1 _ rfl
            have e2 := BX.cell 2 _ rfl
            have e3 := BX.cell 3 _ rfl
            by_cases hlt : k < n1
            · skip
              obtain ⟨b, off, rfl⟩ := k1.head (by omega)
              obtain ⟨bl, y, cs, hy, ⟨I1, m1, d1, I2, m2, d2, rfl, _, _⟩, hcell⟩ := k1.elem_at hlt
              have HAX := Lib.hid (insAt_of hy)
              obtain ⟨p, hp⟩ : ∃ p, unkB x.me x.next y.id = p := ⟨_, rfl⟩
              have f0 : wr.cell? ⟨b, off + k * 16, none⟩ = some (.int .i64 y.id.r) := hcell 0 _ rfl
              have f1 : wr.cell? ⟨b, off + k * 16 + 1, none⟩ = some (.int .i64 y.id.s) := hcell 1 _ rfl
              clear hcell hy k1o
              obtain ⟨⟨r, s⟩, y1, y2, y3, y4, y5, y6, y7⟩ := y
              simp only at f0 f1 hp HAX
              by_cases h1 : r = x.me
              · have g1 : (r == x.me) = true := by simpa using h1
                by_cases h2 : x.next ≤ s
                · have P := Lib.hid (show unkB x.me x.next ⟨r, s⟩ = true by simp [unkB, h1, h2])
                  have gd : decide (s ≥ x.next) = true := by simpa using h2
                  clear h1 hp
                  have HB := Lib.hid (show q4 = false by rw [← Q4.out]; exact knB_no (x := x) (j := k) (by have := HL1.out; omega) (by rw [HAX.out]; exact P.out))
                  go_wp2
                  refine wp_region_grow (by kernel_rfl) (by kernel_rfl) ?_
                  repeat (first | go_big_quiet_step (fail))
                  refine wpQuiet_nil ?_
                  intro _ hw'
                  obtain ⟨⟨w4, hb4⟩, hw''⟩ := hw'
                  change _ = w4 at hw''
                  subst hw''
                  go_wp2
                  go_returns
                  exact ⟨ret_bool (by rw [HV.out, HB.out]; simp), bthen hB hb4⟩
                · have P := Lib.hid (show unkB x.me x.next ⟨r, s⟩ = false by simp [unkB, h2])
                  have gd : decide (s ≥ x.next) = false := by simpa using h2
                  clear h1 hp
                  go_wp2
                  refine wp_region_grow (by kernel_rfl) (by kernel_rfl) ?_
                  repeat (first | go_big_quiet_step (fail))
                  refine wpQuiet_nil ?_
                  intro _ hw'
                  obtain ⟨⟨w4, hb4⟩, hw''⟩ := hw'
                  change _ = w4 at hw''
                  subst hw''
                  go_wp2
                  refine ⟨⟨k + 1, by omega, by go_num, fun j hj => ?_, bthen hbr hb4⟩, by simp [intOf]; omega⟩
                  by_cases e : j = k
                  · subst e; rw [HAX.out]; exact P.out
                  · exact HCL.out j (by omega)
              · have g1 : (r == x.me) = false := by simpa using h1
                have P := Lib.hid (show unkB x.me x.next ⟨r, s⟩ = false by simp [unkB, h1])
                clear hp
                go_wp2
                refine wp_region_grow (by kernel_rfl) (by kernel_rfl) ?_
                repeat (first | go_big_quiet_step (fail))
                refine wpQuiet_nil ?_
                intro _ hw'
                obtain ⟨⟨w4, hb4⟩, hw''⟩ := hw'
                change _ = w4 at hw''
                subst hw''
                go_wp2
                refine ⟨⟨k + 1, by omega, by go_num, fun j hj => ?_, bthen hbr hb4⟩, by simp [intOf]; omega⟩
                by_cases e : j = k
                · subst e; rw [HAX.out]; exact P.out
                · exact HCL.out j (by omega)
            · have HB4 := Lib.hid (show q4 = true by rw [← Q4.out]; exact knB_yes (x := x) (fun j hj => HCL.out j (by have := HL1.out; omega)))
              clear HCL k1o hbr
              go_wp2
              obtain ⟨V2, hV⟩ : ∃ V, V = wr := ⟨_, rfl⟩
              subst hV
              go_loopw [4] (fun i wr => ∃ (k : Nat), k ≤ n2 ∧ i = .int .i64 k ∧ (∀ j : Nat, j < k → leaOkB (leaAt x.leads j) = true ∧ ledI x.leads 0 (leaAt x.leads j).id = (j : Int)) ∧ Below V2.heap.size V2 wr) (fun i _ => n2 - (intOf i).toNat)
              case atStart => exact ⟨0, Nat.zero_le _, rfl, fun j h => absurd h (by omega), Below.refl _ _⟩
              case round =>
                obtain ⟨k, hk, rfl, hcl, hbr⟩ := hrel
                have HCL := Lib.hid hcl; clear hcl
                have BX' := BX.keep hbr; have hB' := bthen hB hbr; have k1' := k1.keep insK hbr; have k2' := k2.keep leaK hbr
                clear hgl e0 e1 e2 e3
                clear BX hB k1 k2; have BX := BX'; have hB := hB'; have k1 := k1'; have k2 := k2'; clear BX' hB' k1' k2'
                have hgl := BX.lt
                have e0 := BX.cell 0 _ rfl
                have e1 := BX.cell 1 _ rfl
                have e2 := BX.cell 2 _ rfl
                have e3 := BX.cell 3 _ rfl
                by_cases hlt : k < n2
                · skip
                  have hAk := k2
                  obtain ⟨b, off, rfl⟩ := k2.head (by omega)
                  obtain ⟨bl, y, cs, hy, ⟨I1, m1, d1, I2, m2, d2, rfl, y1, y2⟩, hcell⟩ := k2.elem_at hlt
                  have HAX := Lib.hid (leaAt_of hy)
                  have hby := bounds_el hb.2.2 hy
                  have hcr : wr.rangeAt b (off + k * 8) [.int .i64 y.id.r, .int .i64 y.id.s, .int .i64 y.bal, .int .i64 y.ph, .int .i64 y.seq, .slice I1 m1 d1, .slice I2 m2 d2, .bool y.same] := fun j v hv => hcell j v hv
                  clear hcell hy hAk
                  obtain ⟨p, hp⟩ : ∃ p, leaOkB y = p := ⟨_, rfl⟩
                  have P := Lib.hid hp; clear hp
                  obtain ⟨t, ht⟩ : ∃ t, ledI x.leads 0 y.id = t := ⟨_, rfl⟩
                  have T := Lib.hid ht; clear ht
                  have f0 : wr.cell? ⟨b, off + k * 8, none⟩ = some (.int .i64 y.id.r) := hcr 0 _ rfl
                  have f1 : wr.cell? ⟨b, off + k * 8 + 1, none⟩ = some (.int .i64 y.id.s) := hcr 1 _ rfl
                  cases p
                  · have HB := Lib.hid (show q5 = false by rw [← Q5.out]; exact ldsB_no (l := x.leads) (j := k) (by have := HL2.out; omega) (.inl (by rw [HAX.out]; exact P.out)))
                    go_wp2
                    refine wp_region_grow (by kernel_rfl) (by kernel_rfl) ?_
                    repeat (first | ((with_reducible refine wpQuiet_load 170 (.tmp 66) (b) (off + k * 8) [.int .i64 y.id.r, .int .i64 y.id.s, .int .i64 y.bal, .int .i64 y.ph, .int .i64 y.seq, .slice I1 m1 d1, .slice I2 m2 d2, .bool y.same] _ bl hcr Try.underlying170 sizeLead0 ?_ ?_ ?_ ?_ ?_ ?_); (rfl); (rfl); (rfl); (rfl); (rfl); (simp only [Act.put, List.setIfInBounds_toArray, List.set_cons_succ, List.set_cons_zero])) | go_big_quiet_step (first | (go_at_call 137; exact grow_of (known P.out (leadOk_spec y _ _ _ _ _ _ _ (y1.keep iddK (Grow.below _)) (y2.keep (Grow.below _)) hby))) | (go_at_call 138; exact grow_of (toldI T.out (l9At_spec x.leads y.id x.me x.next _ _ _ _ _ _ _ (k2.keep leaK (Grow.below _)) hb.2)))))
                    refine wpQuiet_nil ?_
                    intro _ hw'
                    obtain ⟨⟨w4, hb4⟩, hw''⟩ := hw'
                    change _ = w4 at hw''
                    subst hw''
                    go_wp2
                    go_returns
                    exact ⟨ret_bool (by rw [HV.out, HB.out]; simp), bthen hB hb4⟩
                  · by_cases htk : t = (k : Int)
                    · have gd : (t != (k : Int)) = false := by simp [htk]
                      have HT := Lib.hid htk; clear htk
                      go_wp2
                      refine wp_region_grow (by kernel_rfl) (by kernel_rfl) ?_
                      repeat (first | ((with_reducible refine wpQuiet_load 170 (.tmp 66) (b) (off + k * 8) [.int .i64 y.id.r, .int .i64 y.id.s, .int .i64 y.bal, .int .i64 y.ph, .int .i64 y.seq, .slice I1 m1 d1, .slice I2 m2 d2, .bool y.same] _ bl hcr Try.underlying170 sizeLead0 ?_ ?_ ?_ ?_ ?_ ?_); (rfl); (rfl); (rfl); (rfl); (rfl); (simp only [Act.put, List.setIfInBounds_toArray, List.set_cons_succ, List.set_cons_zero])) | go_big_quiet_step (first | (go_at_call 137; exact grow_of (known P.out (leadOk_spec y _ _ _ _ _ _ _ (y1.keep iddK (Grow.below _)) (y2.keep (Grow.below _)) hby))) | (go_at_call 138; exact grow_of (toldI T.out (l9At_spec x.leads y.id x.me x.next _ _ _ _ _ _ _ (k2.keep leaK (Grow.below _)) hb.2)))))
                      refine wpQuiet_nil ?_
                      intro _ hw'
                      obtain ⟨⟨w4, hb4⟩, hw''⟩ := hw'
                      change _ = w4 at hw''
                      subst hw''
                      go_wp2
                      refine ⟨⟨k + 1, by omega, by go_num, fun j hj => ?_, bthen hbr hb4⟩, by simp [intOf]; omega⟩
                      by_cases e : j = k
                      · subst e; exact ⟨by rw [HAX.out]; exact P.out, by rw [HAX.out, T.out]; exact HT.out⟩
                      · exact HCL.out j (by omega)
                    · have HB := Lib.hid (show q5 = false by rw [← Q5.out]; exact ldsB_no (l := x.leads) (j := k) (by have := HL2.out; omega) (.inr (by rw [HAX.out, T.out]; exact htk)))
                      have gd : (t != (k : Int)) = true := by simpa using htk
                      go_wp2
                      refine wp_region_grow (by kernel_rfl) (by kernel_rfl) ?_
                      repeat (first | ((with_reducible refine wpQuiet_load 170 (.tmp 66) (b) (off + k * 8) [.int .i64 y.id.r, .int .i64 y.id.s, .int .i64 y.bal, .int .i64 y.ph, .int .i64 y.seq, .slice I1 m1 d1, .slice I2 m2 d2, .bool y.same] _ bl hcr Try.underlying170 sizeLead0 ?_ ?_ ?_ ?_ ?_ ?_); (rfl); (rfl); (rfl); (rfl); (rfl); (simp only [Act.put, List.setIfInBounds_toArray, List.set_cons_succ, List.set_cons_zero])) | go_big_quiet_step (first | (go_at_call 137; exact grow_of (known P.out (leadOk_spec y _ _ _ _ _ _ _ (y1.keep iddK (Grow.below _)) (y2.keep (Grow.below _)) hby))) | (go_at_call 138; exact grow_of (toldI T.out (l9At_spec x.leads y.id x.me x.next _ _ _ _ _ _ _ (k2.keep leaK (Grow.below _)) hb.2)))))
                      refine wpQuiet_nil ?_
                      intro _ hw'
                      obtain ⟨⟨w4, hb4⟩, hw''⟩ := hw'
                      change _ = w4 at hw''
                      subst hw''
                      go_wp2
                      go_returns
                      exact ⟨ret_bool (by rw [HV.out, HB.out]; simp), bthen hB hb4⟩
                · have HB5 := Lib.hid (show q5 = true by rw [← Q5.out]; exact ldsB_yes (l := x.leads) (fun j hj => HCL.out j (by have := HL2.out; omega)))
                  clear HCL
                  go_wp2
                  go_returns
                  exact ⟨ret_bool (by rw [HV.out, HB3.out, HB4.out, HB5.out]; rfl), hB⟩
end Go.Proofs.Ytdphdnllhmnelaa
/- Contracts of ShowInst (both sides): the text of an instance. -/
namespace Go.Proofs.Ytdphdnllhmnelaa
open Go.RowKit
attribute [local go_sem] Grow.cell Grow.frozen
def hdTo (L : List Int) : Nat → ByteArray
  | 0 => ByteArray.empty
  | k + 1 => hdTo L k ++ varS (L.getD k 0).toNat
theorem hdTo_size {L : List Int} (h : ∀ j, 0 ≤ L.getD j 0 ∧ L.getD j 0 ≤ 601) : ∀ k, (hdTo L k).size ≤ k * 602
  | 0 => by simp [hdTo]
  | k + 1 => by
    have h1 := hdTo_size h k
    have h2 := h k
    have h3 := varS_size (L.getD k 0).toNat
    unfold hdTo
    rw [ByteArray.size_append]; omega
theorem insHd_hd (x : Ins) : insTo x 0 = hdTo [x.id.r, x.id.s, x.bal + 1, x.vb + 1, x.st, x.seq] 6 ++ sameT x.same ++ (varS (cmText x.cmd).size ++ cmText x.cmd) ++ varS x.deps.length := by
  unfold insTo insHd
  simp [hdTo]
attribute [local irreducible] StrsAt StrR RowR varS insOkB cmText
set_option maxRecDepth 8000 in
set_option maxHeartbeats 4000000 in
theorem showInst_impl (x : Ins) (A1 : Option Addr) (n1 c1 : Nat) (A2 : Option Addr) (n2 c2 : Nat) (w : World) (h1 : StrR w A1 n1 c1 x.cmd.ch) (h2 : RowR iddR 2 w A2 n2 c2 x.deps) (hb1 : cmB x.cmd) (hb2 : iddsB x.deps) :
    Calls Try.prog 26 #[insV x (.slice A1 n1 c1) (.slice A2 n2 c2)] w fun e w' => e = .returned (.string (insText x)) ∧ Below w.heap.size w w' := by
  have HN := Lib.hid h2.len
  have al := (Below.refl w.heap.size w).alloc (Nat.le_refl _) (.cells #[.int .i64 x.id.r, .int .i64 x.id.s, .int .i64 x.bal, .int .i64 x.vb, .int .i64 x.st, .int .i64 x.cmd.kd, .int .i64 x.cmd.cl, .int .i64 x.cmd.no, .string x.cmd.s, .string x.cmd.nm, .string x.cmd.tg, .int .i64 x.cmd.n, .slice A1 n1 c1, .int .i64 x.seq, .slice A2 n2 c2, .bool x.same] 50)
  obtain ⟨q, hq⟩ : ∃ q, insOkB x = q := ⟨_, rfl⟩
  have HQ := Lib.hid hq
  cases q
  · have HT := Lib.hid (insText_no hq)
    clear hq
    rw [HT.out]
    unfold insV
    go_enter Try.func26, Try.ntmps26
    go_wp2_with fail
    refine (instOk_impl x _ _ _ _ _ _ _ (h1.keep al) (h2.keep iddK al) hb1 hb2).mono ?_
    rintro e w1 ⟨rfl, hc1⟩
    rw [HQ.out]
    go_wp2
    go_returns
    exact ⟨rfl, bthen al hc1⟩
  · have HT := Lib.hid (insText_yes hq)
    have hd := insOk_bd hq
    have HTS := Lib.hid (insTo_size hd)
    have hcs := cmText_size x.cmd
    obtain ⟨a1, a2, a3, a4, a5, a6, a7, a8, a9⟩ := hd
    have A9 := Lib.hid a9; clear a9 hq a6
    rw [HT.out]
    unfold insV
    go_enter Try.func26, Try.ntmps26
    go_wp2_with fail
    refine (instOk_impl x _ _ _ _ _ _ _ (h1.keep al) (h2.keep iddK al) hb1 hb2).mono ?_
    rintro e w1 ⟨rfl, hc1⟩
    rw [HQ.out]
    have hB1 := bthen al hc1
    have hz1 := hc1.size
    simp at hz1
    have hz1' : w.heap.size < w1.heap.size := by omega
    have e0 : w1.cell? ⟨w.heap.size, 0, none⟩ = some (.int .i64 x.id.r) := keep_cell hc1 (by simp [go_sem])
    have e1 : w1.cell? ⟨w.heap.size, 1, none⟩ = some (.int .i64 x.id.s) := keep_cell hc1 (by simp [go_sem])
    have e2 : w1.cell? ⟨w.heap.size, 2, none⟩ = some (.int .i64 x.bal) := keep_cell hc1 (by simp [go_sem])
    have e3 : w1.cell? ⟨w.heap.size, 3, none⟩ = some (.int .i64 x.vb) := keep_cell hc1 (by simp [go_sem])
    have e4 : w1.cell? ⟨w.heap.size, 4, none⟩ = some (.int .i64 x.st) := keep_cell hc1 (by simp [go_sem])
    have e5 : w1.cell? ⟨w.heap.size, 5, none⟩ = some (.int .i64 x.cmd.kd) := keep_cell hc1 (by simp [go_sem])
    have e6 : w1.cell? ⟨w.heap.size, 6, none⟩ = some (.int .i64 x.cmd.cl) := keep_cell hc1 (by simp [go_sem])
    have e7 : w1.cell? ⟨w.heap.size, 7, none⟩ = some (.int .i64 x.cmd.no) := keep_cell hc1 (by simp [go_sem])
    have e8 : w1.cell? ⟨w.heap.size, 8, none⟩ = some (.string x.cmd.s) := keep_cell hc1 (by simp [go_sem])
    have e9 : w1.cell? ⟨w.heap.size, 9, none⟩ = some (.string x.cmd.nm) := keep_cell hc1 (by simp [go_sem])
    have e10 : w1.cell? ⟨w.heap.size, 10, none⟩ = some (.string x.cmd.tg) := keep_cell hc1 (by simp [go_sem])
    have e11 : w1.cell? ⟨w.heap.size, 11, none⟩ = some (.int .i64 x.cmd.n) := keep_cell hc1 (by simp [go_sem])
    have e12 : w1.cell? ⟨w.heap.size, 12, none⟩ = some (.slice A1 n1 c1) := keep_cell hc1 (by simp [go_sem])
    have e13 : w1.cell? ⟨w.heap.size, 13, none⟩ = some (.int .i64 x.seq) := keep_cell hc1 (by simp [go_sem])
    have e14 : w1.cell? ⟨w.heap.size, 14, none⟩ = some (.slice A2 n2 c2) := keep_cell hc1 (by simp [go_sem])
    have e15 : w1.cell? ⟨w.heap.size, 15, none⟩ = some (.bool x.same) := keep_cell hc1 (by simp [go_sem])
    have v0 := varS_size (x.id.r.toNat)
    have v1 := varS_size (x.id.s.toNat)
    have v2 := varS_size ((x.bal + 1).toNat)
    have v3 := varS_size ((x.vb + 1).toNat)
    have v4 := varS_size (x.st.toNat)
    have v5 := varS_size (x.seq.toNat)
    have v6 := varS_size ((cmText x.cmd).size)
    have v7 := varS_size (n2)
    have hn2 : n2 ≤ 18 := by have := HN.out; omega
    go_wp2_with fail
    have al1 := (Below.refl w1.heap.size w1).alloc (Nat.le_refl _) (.cells #[.int .i64 x.id.r, .int .i64 x.id.s, .int .i64 (x.bal + 1), .int .i64 (x.vb + 1), .int .i64 x.st, .int .i64 x.seq] 3)
    obtain ⟨W, hW⟩ : ∃ W, W = w1.alloc (.cells #[.int .i64 x.id.r, .int .i64 x.id.s, .int .i64 (x.bal + 1), .int .i64 (x.vb + 1), .int .i64 x.st, .int .i64 x.seq] 3) := ⟨_, rfl⟩
    obtain ⟨L, hL⟩ : ∃ L, L = [x.id.r, x.id.s, x.bal + 1, x.vb + 1, x.st, x.seq] := ⟨_, rfl⟩
    have HC := Lib.hid (show ∀ k, k < 6 → W.cell? ⟨w1.heap.size, k, none⟩ = some (.int .i64 (L.getD k 0)) from fun k hk => by
      rw [hW, hL]
      rcases (show k = 0 ∨ k = 1 ∨ k = 2 ∨ k = 3 ∨ k = 4 ∨ k = 5 by omega) with rfl | rfl | rfl | rfl | rfl | rfl <;> simp [go_sem])
    have HL := Lib.hid (show ∀ k, 0 ≤ L.getD k 0 ∧ L.getD k 0 ≤ 601 from fun k => by
      rw [hL]
      rcases (show k = 0 ∨ k = 1 ∨ k = 2 ∨ k = 3 ∨ k = 4 ∨ k = 5 ∨ 6 ≤ k by omega) with rfl | rfl | rfl | rfl | rfl | rfl | h6 <;> first | (simp; omega) | (rw [List.getD_eq_getElem?_getD, List.getElem?_eq_none (by simpa using h6)]; simp))
    have HH := Lib.hid (insHd_hd x)
    rw [← hL] at HH
    have hBW := bthen hB1 al1
    rw [← hW] at hBW al1 ⊢
    have e0' := keep_cell al1 e0; clear e0; have e0 := e0'; clear e0'
    have e1' := keep_cell al1 e1; clear e1; have e1 := e1'; clear e1'
    have e2' := keep_cell al1 e2; clear e2; have e2 := e2'; clear e2'
    have e3' := keep_cell al1 e3; clear e3; have e3 := e3'; clear e3'
    have e4' := keep_cell al1 e4; clear e4; have e4 := e4'; clear e4'
    have e5' := keep_cell al1 e5; clear e5; have e5 := e5'; clear e5'
    have e6' := keep_cell al1 e6; clear e6; have e6 := e6'; clear e6'
    have e7' := keep_cell al1 e7; clear e7; have e7 := e7'; clear e7'
    have e8' := keep_cell al1 e8; clear e8; have e8 := e8'; clear e8'
    have e9' := keep_cell al1 e9; clear e9; have e9 := e9'; clear e9'
    have e10' := keep_cell al1 e10; clear e10; have e10 := e10'; clear e10'
    have e11' := keep_cell al1 e11; clear e11; have e11 := e11'; clear e11'
    have e12' := keep_cell al1 e12; clear e12; have e12 := e12'; clear e12'
    have e13' := keep_cell al1 e13; clear e13; have e13 := e13'; clear e13'
    have e14' := keep_cell al1 e14; clear e14; have e14 := e14'; clear e14'
    have e15' := keep_cell al1 e15; clear e15; have e15 := e15'; clear e15'
    have hWs : w1.heap.size < W.heap.size := by rw [hW]; simp [go_sem]
    clear hW hL al1
    go_loopw [3, 30] (fun o i wr => ∃ k : Nat, k ≤ 6 ∧ i = .int .i64 k ∧ o = .string (hdTo L k) ∧ Below W.heap.size W wr) (fun _ i _ => 6 - (intOf i).toNat)
    case atStart => exact ⟨0, Nat.zero_le _, rfl, rfl, Below.refl _ _⟩
    case round =>
      obtain ⟨k, hk, rfl, rfl, hbr⟩ := hrel
      have hts := hdTo_size HL.out k
      by_cases hlt : k < 6
      · have HS := Lib.hid (show hdTo L (k + 1) = hdTo L k ++ varS (L.getD k 0).toNat from rfl)
        obtain ⟨z, hz⟩ : ∃ z, L.getD k 0 = z := ⟨_, rfl⟩
        have hzb := HL.out k
        have ck := keep_cell hbr (HC.out k hlt)
        rw [hz] at hzb ck HS
        clear hz
        have hvz := varS_size z.toNat
        go_wp2_with fail
        refine (var_implZ z _ (by omega) (by omega)).mono ?_
        rintro e w9 ⟨rfl, hb9⟩
        go_wp2
        exact ⟨⟨k + 1, by omega, by go_num, by rw [HS.out], bthen hbr hb9⟩, by simp [intOf]; omega⟩
      · obtain rfl : k = 6 := by omega
        have f4 := keep_cell hbr e4
        have f5 := keep_cell hbr e5
        have f6 := keep_cell hbr e6
        have f7 := keep_cell hbr e7
        have f8 := keep_cell hbr e8
        have f9 := keep_cell hbr e9
        have f10 := keep_cell hbr e10
        have f11 := keep_cell hbr e11
        have f12 := keep_cell hbr e12
        have f13 := keep_cell hbr e13
        have f14 := keep_cell hbr e14
        have f15 := keep_cell hbr e15
        have hBr := bthen hBW hbr
        have hzr := hbr.size
        have hgr : w.heap.size < wr.heap.size := by omega
        obtain ⟨b, hsm⟩ : ∃ b, x.same = b := ⟨_, rfl⟩
        rw [hsm] at f15 HH
        obtain ⟨t6, ht6⟩ : ∃ t, hdTo L 6 = t := ⟨_, rfl⟩
        rw [ht6] at hts HH ⊢
        clear ht6 hsm
        have u3 := sameT_size b
        obtain ⟨wd, hwd⟩ : ∃ W, W = wr := ⟨_, rfl⟩
        rw [← hwd] at hBr hgr f5 f6 f7 f8 f9 f10 f11 f12 f14 f15 ⊢
        clear hbr hwd hzr f4 f13 e0 e1 e2 e3 e4 e5 e6 e7 e8 e9 e10 e11 e12 e13 e14 e15
        cases b
        · rw [show sameT false = ⟨#[0]⟩ from rfl] at u3 HH
          go_wp2
          refine wp_region_grow (by kernel_rfl) (by kernel_rfl) ?_
          repeat (first | go_big_quiet_step (first | (go_at_call 78; exact grow_of (showCmd_impl x.cmd _ _ _ _ ((h1.keep hBr).keep (Grow.below _)) hb1)) | (go_at_call 77; exact grow_of (sized_impl _ _ (by omega))) | (go_at_call 76; exact grow_of (var_impl _ _ (by omega)))))
          refine wpQuiet_nil ?_
          intro _ hw'
          obtain ⟨⟨w4, hb4⟩, hw''⟩ := hw'
          change _ = w4 at hw''
          subst hw''
          rename_i w4
          have hB4 := bthen hBr hb4
          have e14 := keep_cell hb4 f14
          have hz4 := hb4.size
          have HH0 := Lib.hid HH.out
          rw [← HN.out] at HH0
          have hg4 : w.heap.size < w4.heap.size := by omega
          go_wp2
          have hBw := hB4.size
          have hgw : w.heap.size < w4.heap.size := by omega
          go_loopw [3, 57] (fun o i wr => ∃ k : Nat, k ≤ n2 ∧ i = .int .i64 k ∧ o = .string (insTo x k) ∧ Below w4.heap.size w4 wr) (fun _ i _ => n2 - (intOf i).toNat)
          case atStart => exact ⟨0, Nat.zero_le _, rfl, by rw [HH0.out], by first | exact Below.refl _ _ | exact (Below.refl _ _).drew⟩
          case round =>
            obtain ⟨k, hk, rfl, rfl, hbr⟩ := hrel
            have HS := Lib.hid (show insTo x (k + 1) = insTo x k ++ varS (iddAt x.deps k).r.toNat ++ varS (iddAt x.deps k).s.toNat from rfl)
            have ht := HTS.out k (by have := HN.out; omega)
            have hz9 := hbr.size
            by_cases hlt : k < n2
            · obtain ⟨d1, d2, d3⟩ := A9.out k (by have := HN.out; omega)
              have h2r := (h2.keep iddK hB4).keep iddK hbr
              obtain ⟨b, off, rfl⟩ := h2r.head (by omega)
              obtain ⟨bl, y, cs, hy, hR, hcell⟩ := h2r.elem_at hlt
              obtain ⟨y0, y1⟩ := iddR_cells hR hcell
              have hax : iddAt x.deps k = y := iddAt_of hy
              rw [hax] at HS d1 d2 d3
              clear hcell hR hy h2r hax
              have u1 := varS_size y.r.toNat
              have u2 := varS_size y.s.toNat
              have al := (Below.refl wr.heap.size wr).alloc (Nat.le_refl _) (.cells #[.int .i64 y.r, .int .i64 y.s] 46)
              go_wp2_with fail
              obtain ⟨W, hW⟩ : ∃ W, W = wr.alloc (.cells #[.int .i64 y.r, .int .i64 y.s] 46) := ⟨_, rfl⟩
              obtain ⟨g, hg⟩ : ∃ g, wr.heap.size = g := ⟨_, rfl⟩
              have z0 : W.cell? ⟨g, 0, none⟩ = some (.int .i64 y.r) := by rw [hW, ← hg]; simp [go_sem]
              have z1 : W.cell? ⟨g, 1, none⟩ = some (.int .i64 y.s) := by rw [hW, ← hg]; simp [go_sem]
              have hbW := bthen hbr al
              rw [← hW] at hbW ⊢
              have hgW := cell_lt z0
              rw [hg] at ⊢
              clear hW al y0 y1
              refine wp_region_grow (by kernel_rfl) (by kernel_rfl) ?_
              repeat (first | go_big_quiet_step ((go_at_call 76; exact grow_of (var_implZ _ _ (by omega) (by omega)))))
              refine wpQuiet_nil ?_
              intro _ hw'
              obtain ⟨⟨w5, hb5⟩, hw''⟩ := hw'
              change _ = w5 at hw''
              subst hw''
              go_wp2
              exact ⟨⟨k + 1, by omega, by go_num, by rw [HS.out], bthen hbW hb5⟩, by simp [intOf]; omega⟩
            · go_wp2
              go_returns
              have hkn : k = x.deps.length := by have := HN.out; omega
              exact ⟨by rw [hkn]; rfl, bthen hB4 hbr⟩
        · rw [show sameT true = ⟨#[1]⟩ from rfl] at u3 HH
          go_wp2
          refine wp_region_grow (by kernel_rfl) (by kernel_rfl) ?_
          repeat (first | go_big_quiet_step (first | (go_at_call 78; exact grow_of (showCmd_impl x.cmd _ _ _ _ ((h1.keep hBr).keep (Grow.below _)) hb1)) | (go_at_call 77; exact grow_of (sized_impl _ _ (by omega))) | (go_at_call 76; exact grow_of (var_impl _ _ (by omega)))))
          refine wpQuiet_nil ?_
          intro _ hw'
          obtain ⟨⟨w4, hb4⟩, hw''⟩ := hw'
          change _ = w4 at hw''
          subst hw''
          rename_i w4
          have hB4 := bthen hBr hb4
          have e14 := keep_cell hb4 f14
          have hz4 := hb4.size
          have HH0 := Lib.hid HH.out
          rw [← HN.out] at HH0
          have hg4 : w.heap.size < w4.heap.size := by omega
          go_wp2
          have hBw := hB4.size
          have hgw : w.heap.size < w4.heap.size := by omega
          go_loopw [3, 57] (fun o i wr => ∃ k : Nat, k ≤ n2 ∧ i = .int .i64 k ∧ o = .string (insTo x k) ∧ Below w4.heap.size w4 wr) (fun _ i _ => n2 - (intOf i).toNat)
          case atStart => exact ⟨0, Nat.zero_le _, rfl, by rw [HH0.out], by first | exact Below.refl _ _ | exact (Below.refl _ _).drew⟩
          case round =>
            obtain ⟨k, hk, rfl, rfl, hbr⟩ := hrel
            have HS := Lib.hid (show insTo x (k + 1) = insTo x k ++ varS (iddAt x.deps k).r.toNat ++ varS (iddAt x.deps k).s.toNat from rfl)
            have ht := HTS.out k (by have := HN.out; omega)
            have hz9 := hbr.size
            by_cases hlt : k < n2
            · obtain ⟨d1, d2, d3⟩ := A9.out k (by have := HN.out; omega)
              have h2r := (h2.keep iddK hB4).keep iddK hbr
              obtain ⟨b, off, rfl⟩ := h2r.head (by omega)
              obtain ⟨bl, y, cs, hy, hR, hcell⟩ := h2r.elem_at hlt
              obtain ⟨y0, y1⟩ := iddR_cells hR hcell
              have hax : iddAt x.deps k = y := iddAt_of hy
              rw [hax] at HS d1 d2 d3
              clear hcell hR hy h2r hax
              have u1 := varS_size y.r.toNat
              have u2 := varS_size y.s.toNat
              have al := (Below.refl wr.heap.size wr).alloc (Nat.le_refl _) (.cells #[.int .i64 y.r, .int .i64 y.s] 46)
              go_wp2_with fail
              obtain ⟨W, hW⟩ : ∃ W, W = wr.alloc (.cells #[.int .i64 y.r, .int .i64 y.s] 46) := ⟨_, rfl⟩
              obtain ⟨g, hg⟩ : ∃ g, wr.heap.size = g := ⟨_, rfl⟩
              have z0 : W.cell? ⟨g, 0, none⟩ = some (.int .i64 y.r) := by rw [hW, ← hg]; simp [go_sem]
              have z1 : W.cell? ⟨g, 1, none⟩ = some (.int .i64 y.s) := by rw [hW, ← hg]; simp [go_sem]
              have hbW := bthen hbr al
              rw [← hW] at hbW ⊢
              have hgW := cell_lt z0
              rw [hg] at ⊢
              clear hW al y0 y1
              refine wp_region_grow (by kernel_rfl) (by kernel_rfl) ?_
              repeat (first | go_big_quiet_step ((go_at_call 76; exact grow_of (var_implZ _ _ (by omega) (by omega)))))
              refine wpQuiet_nil ?_
              intro _ hw'
              obtain ⟨⟨w5, hb5⟩, hw''⟩ := hw'
              change _ = w5 at hw''
              subst hw''
              go_wp2
              exact ⟨⟨k + 1, by omega, by go_num, by rw [HS.out], bthen hbW hb5⟩, by simp [intOf]; omega⟩
            · go_wp2
              go_returns
              have hkn : k = x.deps.length := by have := HN.out; omega
              exact ⟨by rw [hkn]; rfl, bthen hB4 hbr⟩
end Go.Proofs.Ytdphdnllhmnelaa
/- Contract of the reference's ShowInst. -/
namespace Go.Proofs.Ytdphdnllhmnelaa
open Go.RowKit
attribute [local go_sem] Grow.cell Grow.frozen
attribute [local irreducible] StrsAt StrR RowR varS insOkB cmText
set_option maxRecDepth 8000 in
set_option maxHeartbeats 4000000 in
theorem showInst_spec (x : Ins) (A1 : Option Addr) (n1 c1 : Nat) (A2 : Option Addr) (n2 c2 : Nat) (w : World) (h1 : StrR w A1 n1 c1 x.cmd.ch) (h2 : RowR iddR 2 w A2 n2 c2 x.deps) (hb1 : cmB x.cmd) (hb2 : iddsB x.deps) :
    Calls Try.prog 24 #[insV x (.slice A1 n1 c1) (.slice A2 n2 c2)] w fun e w' => e = .returned (.string (insText x)) ∧ Below w.heap.size w w' := by
  have HN := Lib.hid h2.len
  have al := (Below.refl w.heap.size w).alloc (Nat.le_refl _) (.cells #[.int .i64 x.id.r, .int .i64 x.id.s, .int .i64 x.bal, .int .i64 x.vb, .int .i64 x.st, .int .i64 x.cmd.kd, .int .i64 x.cmd.cl, .int .i64 x.cmd.no, .string x.cmd.s, .string x.cmd.nm, .string x.cmd.tg, .int .i64 x.cmd.n, .slice A1 n1 c1, .int .i64 x.seq, .slice A2 n2 c2, .bool x.same] 50)
  obtain ⟨q, hq⟩ : ∃ q, insOkB x = q := ⟨_, rfl⟩
  have HQ := Lib.hid hq
  cases q
  · have HT := Lib.hid (insText_no hq)
    clear hq
    rw [HT.out]
    unfold insV
    go_enter Try.func24, Try.ntmps24
    go_wp2_with fail
    refine (instOk_spec x _ _ _ _ _ _ _ (h1.keep al) (h2.keep iddK al) hb1 hb2).mono ?_
    rintro e w1 ⟨rfl, hc1⟩
    rw [HQ.out]
    go_wp2
    go_returns
    exact ⟨rfl, bthen al hc1⟩
  · have HT := Lib.hid (insText_yes hq)
    have hd := insOk_bd hq
    have HTS := Lib.hid (insTo_size hd)
    have hcs := cmText_size x.cmd
    obtain ⟨a1, a2, a3, a4, a5, a6, a7, a8, a9⟩ := hd
    have A9 := Lib.hid a9; clear a9 hq a6
    rw [HT.out]
    unfold insV
    go_enter Try.func24, Try.ntmps24
    go_wp2_with fail
    refine (instOk_spec x _ _ _ _ _ _ _ (h1.keep al) (h2.keep iddK al) hb1 hb2).mono ?_
    rintro e w1 ⟨rfl, hc1⟩
    rw [HQ.out]
    have hB1 := bthen al hc1
    have hz1 := hc1.size
    simp at hz1
    have hz1' : w.heap.size < w1.heap.size := by omega
    have e0 : w1.cell? ⟨w.heap.size, 0, none⟩ = some (.int .i64 x.id.r) := keep_cell hc1 (by simp [go_sem])
    have e1 : w1.cell? ⟨w.heap.size, 1, none⟩ = some (.int .i64 x.id.s) := keep_cell hc1 (by simp [go_sem])
    have e2 : w1.cell? ⟨w.heap.size, 2, none⟩ = some (.int .i64 x.bal) := keep_cell hc1 (by simp [go_sem])
    have e3 : w1.cell? ⟨w.heap.size, 3, none⟩ = some (.int .i64 x.vb) := keep_cell hc1 (by simp [go_sem])
    have e4 : w1.cell? ⟨w.heap.size, 4, none⟩ = some (.int .i64 x.st) := keep_cell hc1 (by simp [go_sem])
    have e5 : w1.cell? ⟨w.heap.size, 5, none⟩ = some (.int .i64 x.cmd.kd) := keep_cell hc1 (by simp [go_sem])
    have e6 : w1.cell? ⟨w.heap.size, 6, none⟩ = some (.int .i64 x.cmd.cl) := keep_cell hc1 (by simp [go_sem])
    have e7 : w1.cell? ⟨w.heap.size, 7, none⟩ = some (.int .i64 x.cmd.no) := keep_cell hc1 (by simp [go_sem])
    have e8 : w1.cell? ⟨w.heap.size, 8, none⟩ = some (.string x.cmd.s) := keep_cell hc1 (by simp [go_sem])
    have e9 : w1.cell? ⟨w.heap.size, 9, none⟩ = some (.string x.cmd.nm) := keep_cell hc1 (by simp [go_sem])
    have e10 : w1.cell? ⟨w.heap.size, 10, none⟩ = some (.string x.cmd.tg) := keep_cell hc1 (by simp [go_sem])
    have e11 : w1.cell? ⟨w.heap.size, 11, none⟩ = some (.int .i64 x.cmd.n) := keep_cell hc1 (by simp [go_sem])
    have e12 : w1.cell? ⟨w.heap.size, 12, none⟩ = some (.slice A1 n1 c1) := keep_cell hc1 (by simp [go_sem])
    have e13 : w1.cell? ⟨w.heap.size, 13, none⟩ = some (.int .i64 x.seq) := keep_cell hc1 (by simp [go_sem])
    have e14 : w1.cell? ⟨w.heap.size, 14, none⟩ = some (.slice A2 n2 c2) := keep_cell hc1 (by simp [go_sem])
    have e15 : w1.cell? ⟨w.heap.size, 15, none⟩ = some (.bool x.same) := keep_cell hc1 (by simp [go_sem])
    have v0 := varS_size (x.id.r.toNat)
    have v1 := varS_size (x.id.s.toNat)
    have v2 := varS_size ((x.bal + 1).toNat)
    have v3 := varS_size ((x.vb + 1).toNat)
    have v4 := varS_size (x.st.toNat)
    have v5 := varS_size (x.seq.toNat)
    have v6 := varS_size ((cmText x.cmd).size)
    have v7 := varS_size (n2)
    have hn2 : n2 ≤ 18 := by have := HN.out; omega
    have HH := Lib.hid (insHd_hd x)
    have HX := Lib.hid (show hdTo [x.id.r, x.id.s, x.bal + 1, x.vb + 1, x.st, x.seq] 6 = varS x.id.r.toNat ++ varS x.id.s.toNat ++ varS (x.bal + 1).toNat ++ varS (x.vb + 1).toNat ++ varS x.st.toNat ++ varS x.seq.toNat by simp [hdTo])
    rw [HX.out] at HH
    obtain ⟨b, hsm⟩ : ∃ b, x.same = b := ⟨_, rfl⟩
    rw [hsm] at e15 HH
    clear hsm
    have u3 := sameT_size b
    cases b
    · rw [show sameT false = ⟨#[0]⟩ from rfl] at u3 HH
      go_wp2
      refine wp_region_grow (by kernel_rfl) (by kernel_rfl) ?_
      repeat (first | go_big_quiet_step (first | (go_at_call 72; exact grow_of (showCmd_spec x.cmd _ _ _ _ ((h1.keep hB1).keep (Grow.below _)) hb1)) | (go_at_call 71; exact grow_of (l4Piece_spec _ _ (by omega))) | (go_at_call 70; exact grow_of (var_specZ _ _ (by omega) (by omega)))))
      refine wpQuiet_nil ?_
      intro _ hw'
      obtain ⟨⟨w4, hb4⟩, hw''⟩ := hw'
      change _ = w4 at hw''
      subst hw''
      rename_i w4
      have hB4 := bthen hB1 hb4
      have e14' := keep_cell hb4 e14; clear e14; have e14 := e14'; clear e14'
      have hz4 := hb4.size
      have HH0 := Lib.hid HH.out
      rw [← HN.out] at HH0
      clear e0 e1 e2 e3 e4 e5 e6 e7 e8 e9 e10 e11 e12 e13 e15
      go_wp2
      have hBw := hB4.size
      have hgw : w.heap.size < w4.heap.size := by omega
      go_loopw [4, 5] (fun o i wr => ∃ k : Nat, k ≤ n2 ∧ i = .int .i64 k ∧ o = .string (insTo x k) ∧ Below w4.heap.size w4 wr) (fun _ i _ => n2 - (intOf i).toNat)
      case atStart => exact ⟨0, Nat.zero_le _, rfl, by rw [HH0.out], by first | exact Below.refl _ _ | exact (Below.refl _ _).drew⟩
      case round =>
        obtain ⟨k, hk, rfl, rfl, hbr⟩ := hrel
        have HS := Lib.hid (show insTo x (k + 1) = insTo x k ++ varS (iddAt x.deps k).r.toNat ++ varS (iddAt x.deps k).s.toNat from rfl)
        have ht := HTS.out k (by have := HN.out; omega)
        have hz9 := hbr.size
        have c14 := keep_cell hbr e14
        by_cases hlt : k < n2
        · obtain ⟨d1, d2, d3⟩ := A9.out k (by have := HN.out; omega)
          have h2r := (h2.keep iddK hB4).keep iddK hbr
          obtain ⟨b, off, rfl⟩ := h2r.head (by omega)
          obtain ⟨bl, y, cs, hy, hR, hcell⟩ := h2r.elem_at hlt
          obtain ⟨y0, y1⟩ := iddR_cells hR hcell
          have hax : iddAt x.deps k = y := iddAt_of hy
          rw [hax] at HS d1 d2 d3
          clear hcell hR hy h2r hax
          have u1 := varS_size y.r.toNat
          have u2 := varS_size y.s.toNat
          have hbW := hbr
          have hgb : w.heap.size < wr.heap.size := by omega
          go_wp2_with fail
          refine wp_region_grow (by kernel_rfl) (by kernel_rfl) ?_
          repeat (first | go_big_quiet_step ((go_at_call 70; exact grow_of (var_specZ _ _ (by omega) (by omega)))))
          refine wpQuiet_nil ?_
          intro _ hw'
          obtain ⟨⟨w5, hb5⟩, hw''⟩ := hw'
          change _ = w5 at hw''
          subst hw''
          go_wp2
          exact ⟨⟨k + 1, by omega, by go_num, by rw [HS.out], bthen hbW hb5⟩, by simp [intOf]; omega⟩
        · go_wp2
          go_returns
          have hkn : k = x.deps.length := by have := HN.out; omega
          exact ⟨by rw [hkn]; rfl, bthen hB4 hbr⟩
    · rw [show sameT true = ⟨#[1]⟩ from rfl] at u3 HH
      go_wp2
      refine wp_region_grow (by kernel_rfl) (by kernel_rfl) ?_
      repeat (first | go_big_quiet_step (first | (go_at_call 72; exact grow_of (showCmd_spec x.cmd _ _ _ _ ((h1.keep hB1).keep (Grow.below _)) hb1)) | (go_at_call 71; exact grow_of (l4Piece_spec _ _ (by omega))) | (go_at_call 70; exact grow_of (var_specZ _ _ (by omega) (by omega)))))
      refine wpQuiet_nil ?_
      intro _ hw'
      obtain ⟨⟨w4, hb4⟩, hw''⟩ := hw'
      change _ = w4 at hw''
      subst hw''
      rename_i w4
      have hB4 := bthen hB1 hb4
      have e14' := keep_cell hb4 e14; clear e14; have e14 := e14'; clear e14'
      have hz4 := hb4.size
      have HH0 := Lib.hid HH.out
      rw [← HN.out] at HH0
      clear e0 e1 e2 e3 e4 e5 e6 e7 e8 e9 e10 e11 e12 e13 e15
      go_wp2
      have hBw := hB4.size
      have hgw : w.heap.size < w4.heap.size := by omega
      go_loopw [4, 5] (fun o i wr => ∃ k : Nat, k ≤ n2 ∧ i = .int .i64 k ∧ o = .string (insTo x k) ∧ Below w4.heap.size w4 wr) (fun _ i _ => n2 - (intOf i).toNat)
      case atStart => exact ⟨0, Nat.zero_le _, rfl, by rw [HH0.out], by first | exact Below.refl _ _ | exact (Below.refl _ _).drew⟩
      case round =>
        obtain ⟨k, hk, rfl, rfl, hbr⟩ := hrel
        have HS := Lib.hid (show insTo x (k + 1) = insTo x k ++ varS (iddAt x.deps k).r.toNat ++ varS (iddAt x.deps k).s.toNat from rfl)
        have ht := HTS.out k (by have := HN.out; omega)
        have hz9 := hbr.size
        have c14 := keep_cell hbr e14
        by_cases hlt : k < n2
        · obtain ⟨d1, d2, d3⟩ := A9.out k (by have := HN.out; omega)
          have h2r := (h2.keep iddK hB4).keep iddK hbr
          obtain ⟨b, off, rfl⟩ := h2r.head (by omega)
          obtain ⟨bl, y, cs, hy, hR, hcell⟩ := h2r.elem_at hlt
          obtain ⟨y0, y1⟩ := iddR_cells hR hcell
          have hax : iddAt x.deps k = y := iddAt_of hy
          rw [hax] at HS d1 d2 d3
          clear hcell hR hy h2r hax
          have u1 := varS_size y.r.toNat
          have u2 := varS_size y.s.toNat
          have hbW := hbr
          have hgb : w.heap.size < wr.heap.size := by omega
          go_wp2_with fail
          refine wp_region_grow (by kernel_rfl) (by kernel_rfl) ?_
          repeat (first | go_big_quiet_step ((go_at_call 70; exact grow_of (var_specZ _ _ (by omega) (by omega)))))
          refine wpQuiet_nil ?_
          intro _ hw'
          obtain ⟨⟨w5, hb5⟩, hw''⟩ := hw'
          change _ = w5 at hw''
          subst hw''
          go_wp2
          exact ⟨⟨k + 1, by omega, by go_num, by rw [HS.out], bthen hbW hb5⟩, by simp [intOf]; omega⟩
        · go_wp2
          go_returns
          have hkn : k = x.deps.length := by have := HN.out; omega
          exact ⟨by rw [hkn]; rfl, bthen hB4 hbr⟩
end Go.Proofs.Ytdphdnllhmnelaa
/- Contracts of SaveNode (both sides): the text of a node. -/
namespace Go.Proofs.Ytdphdnllhmnelaa
open Go.RowKit
attribute [local go_sem] Grow.cell Grow.frozen
theorem inssOk_key {l : List Ins} (h : inssOkB l = true) : ∀ j, j < l.length → (j : Int) ≤ 6 * (insAt l j).id.r + (insAt l j).id.s - 1
  | 0, hj => by have h0 := insOk_bd (inssOk_at h hj).1; have := h0.r; have := h0.s; omega
  | j + 1, hj => by
    have ih := inssOk_key h j (by omega)
    have h1 := insOk_bd (inssOk_at h hj).1
    have h2 := insOk_bd (inssOk_at h (j := j) (by omega)).1
    have a := h1.r; have b := h1.s; have c := h2.r; have d := h2.s
    rcases (inssOk_at h hj).2 with h3 | h3
    · omega
    · unfold iddLess at h3
      simp only [Nat.add_sub_cancel, Bool.or_eq_true, Bool.and_eq_true, decide_eq_true_eq, beq_iff_eq] at h3
      omega
theorem inssOk_len {l : List Ins} (h : inssOkB l = true) : l.length ≤ 18 := by
  rcases Nat.lt_or_ge 18 l.length with h1 | h1
  · have h2 := inssOk_key h 18 h1
    have h3 := insOk_bd (inssOk_at h h1).1
    have a := h3.r; have b := h3.s
    omega
  · exact h1
theorem Below.name {B : Nat} {w w' : World} (_ : Below B w w') : ∃ V, V = w' := ⟨_, rfl⟩
def hdT (x : Nod) : ByteArray := varS x.me.toNat ++ varS x.next.toNat
def savTo (x : Nod) : Nat → ByteArray
  | 0 => frameT (hdT x)
  | k + 1 => savTo x k ++ frameT (insText (insAt x.insts k))
/-- does every instance go into a frame? -/
def fitB (x : Nod) : Bool := (List.range x.insts.length).all (fun k => decide ((insText (insAt x.insts k)).size ≤ 200))
/-- a node as text -/
def savT (x : Nod) : ByteArray := if nodOkB x = true ∧ fitB x = true then savTo x x.insts.length else ByteArray.empty
theorem savTo_size (x : Nod) : ∀ k, (savTo x k).size ≤ 405 * (k + 1)
  | 0 => by unfold savTo; have := frameT_le (hdT x); omega
  | k + 1 => by
    have h := savTo_size x k
    have := frameT_le (insText (insAt x.insts k))
    unfold savTo
    rw [ByteArray.size_append]; omega
theorem savTo_succ (x : Nod) (k : Nat) : savTo x (k + 1) = savTo x k ++ frameT (insText (insAt x.insts k)) := rfl
theorem fitB_yes {x : Nod} (h : ∀ j, j < x.insts.length → (insText (insAt x.insts j)).size ≤ 200) : fitB x = true := by
  unfold fitB; rw [List.all_eq_true]
  intro j hj
  simpa using h j (List.mem_range.1 hj)
theorem fitB_no {x : Nod} {j : Nat} (hj : j < x.insts.length) (h : 200 < (insText (insAt x.insts j)).size) : fitB x = false := by
  unfold fitB; rw [List.all_eq_false]
  exact ⟨j, List.mem_range.2 hj, by simp; omega⟩
theorem savT_no {x : Nod} (h : nodOkB x = false ∨ fitB x = false) : savT x = ByteArray.empty := by
  unfold savT; rw [if_neg]
  rintro ⟨h1, h2⟩
  rcases h with h | h
  · rw [h] at h1; cases h1
  · rw [h] at h2; cases h2
theorem savT_yes {x : Nod} (h : nodOkB x = true) (h2 : fitB x = true) : savT x = savTo x x.insts.length := by unfold savT; rw [if_pos ⟨h, h2⟩]
theorem nodOk_bd {x : Nod} (h : nodOkB x = true) : (0 ≤ x.me ∧ x.me ≤ 2) ∧ (1 ≤ x.next ∧ x.next ≤ 7) ∧ inssOkB x.insts = true := by
  unfold nodOkB at h
  simp only [Bool.and_eq_true] at h
  exact ⟨inB_le h.1.1.1.1.1, inB_le h.1.1.1.1.2, h.1.1.1.2⟩
attribute [local irreducible] StrsAt StrR RowR varS insOkB insText frameT nodOkB savTo fitB
set_option maxRecDepth 8000 in
set_option maxHeartbeats 4000000 in
theorem saveNode_impl (x : Nod) (A1 : Option Addr) (n1 c1 : Nat) (A2 : Option Addr) (n2 c2 : Nat) (w : World) (h1 : RowR insR 16 w A1 n1 c1 x.insts) (h2 : RowR leaR 8 w A2 n2 c2 x.leads) (hb : nodB x) :
    Calls Try.prog 35 #[nodV x (.slice A1 n1 c1) (.slice A2 n2 c2)] w fun e w' => e = .returned (.string (savT x)) ∧ Below w.heap.size w w' := by
  have HL1 := Lib.hid h1.len
  have hn1 : n1 ≤ 9223372036854775807 := by have := h1.len; have := hb.1.1; omega
  have al := (Below.refl w.heap.size w).alloc (Nat.le_refl _) (.cells #[.int .i64 x.me, .int .i64 x.next, .slice A1 n1 c1, .slice A2 n2 c2] 67)
  have BX := BoxL.new w [.int .i64 x.me, .int .i64 x.next, .slice A1 n1 c1, .slice A2 n2 c2] 67
  unfold nodV
  go_enter Try.func35, Try.ntmps35
  go_wp2_with fail
  refine (nodeOk_impl x _ _ _ _ _ _ _ (h1.keep insK al) (h2.keep leaK al) hb).mono ?_
  rintro e w1 ⟨rfl, hb1⟩
  have hB := bthen al hb1
  have BX' := BX.keep hb1; clear BX; have BX := BX'; clear BX'
  obtain ⟨g, hg⟩ : ∃ g, w.heap.size = g := ⟨_, rfl⟩
  simp only [hg] at BX ⊢
  have HG := Lib.hid hg
  clear al hb1 hg
  have k1 := h1.keep insK hB; clear h1 h2
  obtain ⟨q, hq⟩ : ∃ q, nodOkB x = q := ⟨_, rfl⟩
  rw [hq]
  cases q
  · have HV := Lib.hid (savT_no (.inl hq))
    clear hq
    go_wp2
    go_returns
    exact ⟨by rw [HV.out]; rfl, hB⟩
  · obtain ⟨⟨u1, u2⟩, ⟨u3, u4⟩, u5⟩ := nodOk_bd hq
    have hn18 := inssOk_len u5
    have hn : n1 ≤ 18 := by have := HL1.out; omega
    have HQ := Lib.hid hq
    clear hq u5 hn18
    have v1 := varS_size x.me.toNat; have v2 := varS_size x.next.toNat
    have hadd : (varS x.me.toNat).size + (varS x.next.toNat).size ≤ 100 := by omega
    have hsz : (varS x.me.toNat ++ varS x.next.toNat).size ≤ 16777216 := by rw [ByteArray.size_append]; omega
    have hgl := BX.lt
    have e0 := BX.cell 0 _ rfl
    have e1 := BX.cell 1 _ rfl
    have e2 := BX.cell 2 _ rfl
    go_wp2
    refine wp_region_grow (by kernel_rfl) (by kernel_rfl) ?_
    repeat (first | go_big_quiet_step (first | (go_at_call 76; with_reducible exact grow_of (var_implZ x.me _ u1 (by omega))) | (go_at_call 76; with_reducible exact grow_of (var_implZ x.next _ (by omega) (by omega))) | (go_at_call 100; exact grow_of (frame_impl _ _ hsz))))
    refine wpQuiet_nil ?_
    intro _ hw'
    obtain ⟨⟨w2, hb2⟩, hw''⟩ := hw'
    change _ = w2 at hw''
    subst hw''
    have BX' := BX.keep hb2; have hB' := bthen hB hb2; have k1' := k1.keep insK hb2
    clear hgl e0 e1 e2
    clear BX hB k1; have BX := BX'; have hB := hB'; have k1 := k1'; clear BX' hB' k1'
    have hgl := BX.lt
    have e0 := BX.cell 0 _ rfl
    have e1 := BX.cell 1 _ rfl
    have e2 := BX.cell 2 _ rfl
    go_wp2
    obtain ⟨V, hV⟩ := Below.name hb2
    subst hV
    go_loopw [3, 21] (fun s i wr => ∃ (k : Nat), k ≤ n1 ∧ i = .int .i64 k ∧ s = .string (savTo x k) ∧ (∀ j : Nat, j < k → (insText (insAt x.insts j)).size ≤ 200) ∧ Below V.heap.size V wr) (fun _ i _ => n1 - (intOf i).toNat)
    case atStart => exact ⟨0, Nat.zero_le _, rfl, by unfold savTo hdT; rfl, fun j h => absurd h (by omega), Below.refl _ _⟩
    case round =>
      obtain ⟨k, hk, rfl, rfl, hcl, hbr⟩ := hrel
      have HCL := Lib.hid hcl; clear hcl
      have BX' := BX.keep hbr; have hB' := bthen hB hbr; have k1' := k1.keep insK hbr
      clear hgl e0 e1 e2
      clear BX hB k1; have BX := BX'; have hB := hB'; have k1 := k1'; clear BX' hB' k1'
      have hgl := BX.lt
      have e0 := BX.cell 0 _ rfl
      have e1 := BX.cell 1 _ rfl
      have e2 := BX.cell 2 _ rfl
      by_cases hlt : k < n1
      · skip
        obtain ⟨b, off, rfl⟩ := k1.head (by omega)
        obtain ⟨bl, y, cs, hy, ⟨I1, m1, d1, I2, m2, d2, rfl, y1, y2⟩, hcell⟩ := k1.elem_at hlt
        have hby := bounds_el hb.1.2 hy
        have HS := Lib.hid (savTo_succ x k)
        have hSz := savTo_size x k
        have hax := insAt_of hy
        rw [hax] at HS
        have HAX := Lib.hid hax; clear hax
        have hts := insText_size y
        have hcr : wr.rangeAt b (off + k * 16) [.int .i64 y.id.r, .int .i64 y.id.s, .int .i64 y.bal, .int .i64 y.vb, .int .i64 y.st, .int .i64 y.cmd.kd, .int .i64 y.cmd.cl, .int .i64 y.cmd.no, .string y.cmd.s, .string y.cmd.nm, .string y.cmd.tg, .int .i64 y.cmd.n, .slice I1 m1 d1, .int .i64 y.seq, .slice I2 m2 d2, .bool y.same] := fun j v hv => hcell j v hv
        clear hcell hy
        have al := (Below.refl wr.heap.size wr).alloc (Nat.le_refl _) (.cells #[.int .i64 y.id.r, .int .i64 y.id.s, .int .i64 y.bal, .int .i64 y.vb, .int .i64 y.st, .int .i64 y.cmd.kd, .int .i64 y.cmd.cl, .int .i64 y.cmd.no, .string y.cmd.s, .string y.cmd.nm, .string y.cmd.tg, .int .i64 y.cmd.n, .slice I1 m1 d1, .int .i64 y.seq, .slice I2 m2 d2, .bool y.same] 50)
        have BY := BoxL.new wr [.int .i64 y.id.r, .int .i64 y.id.s, .int .i64 y.bal, .int .i64 y.vb, .int .i64 y.st, .int .i64 y.cmd.kd, .int .i64 y.cmd.cl, .int .i64 y.cmd.no, .string y.cmd.s, .string y.cmd.nm, .string y.cmd.tg, .int .i64 y.cmd.n, .slice I1 m1 d1, .int .i64 y.seq, .slice I2 m2 d2, .bool y.same] 50
        repeat (first | ((with_reducible refine wpList_load_o 50 (.tmp 23) (b) (off + k * 16) [.int .i64 y.id.r, .int .i64 y.id.s, .int .i64 y.bal, .int .i64 y.vb, .int .i64 y.st, .int .i64 y.cmd.kd, .int .i64 y.cmd.cl, .int .i64 y.cmd.no, .string y.cmd.s, .string y.cmd.nm, .string y.cmd.tg, .int .i64 y.cmd.n, .slice I1 m1 d1, .int .i64 y.seq, .slice I2 m2 d2, .bool y.same] _ hcr Try.underlying50 sizeInst1 ?_ ?_ ?_ ?_ ?_ ?_); (rfl); (rfl); (rfl); (rfl); (rfl)) | go_values | go_skip | go_guarded | go_step | go_upon | (simp only []; go_at_K))
        obtain ⟨W, hW⟩ : ∃ W, W = wr.alloc (.cells #[.int .i64 y.id.r, .int .i64 y.id.s, .int .i64 y.bal, .int .i64 y.vb, .int .i64 y.st, .int .i64 y.cmd.kd, .int .i64 y.cmd.cl, .int .i64 y.cmd.no, .string y.cmd.s, .string y.cmd.nm, .string y.cmd.tg, .int .i64 y.cmd.n, .slice I1 m1 d1, .int .i64 y.seq, .slice I2 m2 d2, .bool y.same] 50) := ⟨_, rfl⟩
        obtain ⟨h, hh⟩ : ∃ h, wr.heap.size = h := ⟨_, rfl⟩
        rw [← hW] at BY al ⊢
        simp only [hh] at BY ⊢
        clear hW hh hcr
        have BX' := BX.keep al; have hB' := bthen hB al; have k1' := k1.keep insK al
        clear hgl e0 e1 e2
        clear BX hB k1; have BX := BX'; have hB := hB'; have k1 := k1'; clear BX' hB' k1'
        have hgl := BX.lt
        have e0 := BX.cell 0 _ rfl
        have e1 := BX.cell 1 _ rfl
        have e2 := BX.cell 2 _ rfl
        have y1' := y1.keep al; have y2' := y2.keep iddK al; clear y1 y2
        have hbr2 := bthen hbr al
        have hYr := BY.range; have hlW := BY.lt
        repeat (first | ((with_reducible refine wpList_load_o 50 (.tmp 5) (h) (0) [.int .i64 y.id.r, .int .i64 y.id.s, .int .i64 y.bal, .int .i64 y.vb, .int .i64 y.st, .int .i64 y.cmd.kd, .int .i64 y.cmd.cl, .int .i64 y.cmd.no, .string y.cmd.s, .string y.cmd.nm, .string y.cmd.tg, .int .i64 y.cmd.n, .slice I1 m1 d1, .int .i64 y.seq, .slice I2 m2 d2, .bool y.same] _ hYr Try.underlying50 sizeInst1 ?_ ?_ ?_ ?_ ?_ ?_); (rfl); (rfl); (rfl); (rfl); (rfl)) | go_values | go_skip | go_guarded | go_step | go_upon | (simp only []; go_at_K))
        refine (showInst_impl y _ _ _ _ _ _ _ y1' y2' hby.1 hby.2).mono ?_
        rintro e w4 ⟨rfl, hb4⟩
        have BX' := BX.keep hb4; have hB' := bthen hB hb4; have k1' := k1.keep insK hb4
        clear hgl e0 e1 e2
        clear BX hB k1; have BX := BX'; have hB := hB'; have k1 := k1'; clear BX' hB' k1'
        have hgl := BX.lt
        have e0 := BX.cell 0 _ rfl
        have e1 := BX.cell 1 _ rfl
        have e2 := BX.cell 2 _ rfl
        go_wp2_with fail
        refine (frame_impl _ _ (by omega)).mono ?_
        rintro e w5 ⟨rfl, hb5⟩
        have BX' := BX.keep hb5; have hB' := bthen hB hb5; have k1' := k1.keep insK hb5
        clear hgl e0 e1 e2
        clear BX hB k1; have BX := BX'; have hB := hB'; have k1 := k1'; clear BX' hB' k1'
        have hgl := BX.lt
        have e0 := BX.cell 0 _ rfl
        have e1 := BX.cell 1 _ rfl
        have e2 := BX.cell 2 _ rfl
        have hfl := frameT_le (insText y)
        have hte := isEmpty_str (frameT (insText y))
        by_cases h200 : (insText y).size ≤ 200
        · have hne := frameT_ne h200
          rw [decide_eq_false hne] at hte
          have H2 := Lib.hid h200
          obtain ⟨f, hf⟩ : ∃ f, frameT (insText y) = f := ⟨_, rfl⟩
          rw [hf] at hte hfl HS ⊢
          clear hne hf h200
          go_wp2
          refine ⟨⟨k + 1, by omega, by go_num, by rw [HS.out], fun j hj => ?_, bthen (bthen hbr2 hb4) hb5⟩, by simp [intOf]; omega⟩
          by_cases e : j = k
          · subst e; rw [HAX.out]; exact H2.out
          · exact HCL.out j (by omega)
        · have HV := Lib.hid (savT_no (.inr (fitB_no (x := x) (j := k) (by have := HL1.out; omega) (by rw [HAX.out]; omega))))
          have hne := frameT_no (s := insText y) (by omega)
          rw [decide_eq_true hne] at hte
          obtain ⟨f, hf⟩ : ∃ f, frameT (insText y) = f := ⟨_, rfl⟩
          rw [hf] at hte ⊢
          clear hne hf h200 hfl
          go_wp2
          go_returns
          exact ⟨by rw [HV.out]; rfl, hB⟩
      · have HV := Lib.hid (savT_yes HQ.out (fitB_yes (x := x) (fun j hj => HCL.out j (by have := HL1.out; omega))))
        have hkn : k = x.insts.length := by have := HL1.out; omega
        have HK := Lib.hid hkn; clear hkn HCL
        go_wp2
        go_returns
        exact ⟨by rw [HV.out, ← HK.out]; rfl, hB⟩
set_option maxRecDepth 8000 in
set_option maxHeartbeats 4000000 in
theorem saveNode_spec (x : Nod) (A1 : Option Addr) (n1 c1 : Nat) (A2 : Option Addr) (n2 c2 : Nat) (w : World) (h1 : RowR insR 16 w A1 n1 c1 x.insts) (h2 : RowR leaR 8 w A2 n2 c2 x.leads) (hb : nodB x) :
    Calls Try.prog 33 #[nodV x (.slice A1 n1 c1) (.slice A2 n2 c2)] w fun e w' => e = .returned (.string (savT x)) ∧ Below w.heap.size w w' := by
  have HL1 := Lib.hid h1.len
  have hn1 : n1 ≤ 9223372036854775807 := by have := h1.len; have := hb.1.1; omega
  have al := (Below.refl w.heap.size w).alloc (Nat.le_refl _) (.cells #[.int .i64 x.me, .int .i64 x.next, .slice A1 n1 c1, .slice A2 n2 c2] 67)
  have BX := BoxL.new w [.int .i64 x.me, .int .i64 x.next, .slice A1 n1 c1, .slice A2 n2 c2] 67
  unfold nodV
  go_enter Try.func33, Try.ntmps33
  go_wp2_with fail
  refine (nodeOk_spec x _ _ _ _ _ _ _ (h1.keep insK al) (h2.keep leaK al) hb).mono ?_
  rintro e w1 ⟨rfl, hb1⟩
  have hB := bthen al hb1
  have BX' := BX.keep hb1; clear BX; have BX := BX'; clear BX'
  obtain ⟨g, hg⟩ : ∃ g, w.heap.size = g := ⟨_, rfl⟩
  simp only [hg] at BX ⊢
  have HG := Lib.hid hg
  clear al hb1 hg
  have k1 := h1.keep insK hB; clear h1 h2
  obtain ⟨q, hq⟩ : ∃ q, nodOkB x = q := ⟨_, rfl⟩
  rw [hq]
  cases q
  · have HV := Lib.hid (savT_no (.inl hq))
    clear hq
    go_wp2
    go_returns
    exact ⟨by rw [HV.out]; rfl, hB⟩
  · obtain ⟨⟨u1, u2⟩, ⟨u3, u4⟩, u5⟩ := nodOk_bd hq
    have hn18 := inssOk_len u5
    have hn : n1 ≤ 18 := by have := HL1.out; omega
    have HQ := Lib.hid hq
    clear hq u5 hn18
    have v1 := varS_size x.me.toNat; have v2 := varS_size x.next.toNat
    have hadd : (varS x.me.toNat).size + (varS x.next.toNat).size ≤ 100 := by omega
    have hsz : (varS x.me.toNat ++ varS x.next.toNat).size ≤ 16777216 := by rw [ByteArray.size_append]; omega
    have hgl := BX.lt
    have e0 := BX.cell 0 _ rfl
    have e1 := BX.cell 1 _ rfl
    have e2 := BX.cell 2 _ rfl
    go_wp2
    refine wp_region_grow (by kernel_rfl) (by kernel_rfl) ?_
    repeat (first | go_big_quiet_step (first | (go_at_call 70; with_reducible exact grow_of (var_specZ x.me _ u1 (by omega))) | (go_at_call 70; with_reducible exact grow_of (var_specZ x.next _ (by omega) (by omega))) | (go_at_call 96; exact grow_of (frame_spec _ _ hsz))))
    refine wpQuiet_nil ?_
    intro _ hw'
    obtain ⟨⟨w2, hb2⟩, hw''⟩ := hw'
    change _ = w2 at hw''
    subst hw''
    have BX' := BX.keep hb2; have hB' := bthen hB hb2; have k1' := k1.keep insK hb2
    clear hgl e0 e1 e2
    clear BX hB k1; have BX := BX'; have hB := hB'; have k1 := k1'; clear BX' hB' k1'
    have hgl := BX.lt
    have e0 := BX.cell 0 _ rfl
    have e1 := BX.cell 1 _ rfl
    have e2 := BX.cell 2 _ rfl
    go_wp2
    obtain ⟨V, hV⟩ := Below.name hb2
    subst hV
    go_loopw [3, 4] (fun s i wr => ∃ (k : Nat), k ≤ n1 ∧ i = .int .i64 k ∧ s = .string (savTo x k) ∧ (∀ j : Nat, j < k → (insText (insAt x.insts j)).size ≤ 200) ∧ Below V.heap.size V wr) (fun _ i _ => n1 - (intOf i).toNat)
    case atStart => exact ⟨0, Nat.zero_le _, rfl, by unfold savTo hdT; rfl, fun j h => absurd h (by omega), Below.refl _ _⟩
    case round =>
      obtain ⟨k, hk, rfl, rfl, hcl, hbr⟩ := hrel
      have HCL := Lib.hid hcl; clear hcl
      have BX' := BX.keep hbr; have hB' := bthen hB hbr; have k1' := k1.keep insK hbr
      clear hgl e0 e1 e2
      clear BX hB k1; have BX := BX'; have hB := hB'; have k1 := k1'; clear BX' hB' k1'
      have hgl := BX.lt
      have e0 := BX.cell 0 _ rfl
      have e1 := BX.cell 1 _ rfl
      have e2 := BX.cell 2 _ rfl
      by_cases hlt : k < n1
      · skip
        obtain ⟨b, off, rfl⟩ := k1.head (by omega)
        obtain ⟨bl, y, cs, hy, ⟨I1, m1, d1, I2, m2, d2, rfl, y1, y2⟩, hcell⟩ := k1.elem_at hlt
        have hby := bounds_el hb.1.2 hy
        have HS := Lib.hid (savTo_succ x k)
        have hSz := savTo_size x k
        have hax := insAt_of hy
        rw [hax] at HS
        have HAX := Lib.hid hax; clear hax
        have hts := insText_size y
        have hcr : wr.rangeAt b (off + k * 16) [.int .i64 y.id.r, .int .i64 y.id.s, .int .i64 y.bal, .int .i64 y.vb, .int .i64 y.st, .int .i64 y.cmd.kd, .int .i64 y.cmd.cl, .int .i64 y.cmd.no, .string y.cmd.s, .string y.cmd.nm, .string y.cmd.tg, .int .i64 y.cmd.n, .slice I1 m1 d1, .int .i64 y.seq, .slice I2 m2 d2, .bool y.same] := fun j v hv => hcell j v hv
        clear hcell hy
        have hbr2 := hbr
        repeat (first | ((with_reducible refine wpList_load_o 50 (.tmp 27) (b) (off + k * 16) [.int .i64 y.id.r, .int .i64 y.id.s, .int .i64 y.bal, .int .i64 y.vb, .int .i64 y.st, .int .i64 y.cmd.kd, .int .i64 y.cmd.cl, .int .i64 y.cmd.no, .string y.cmd.s, .string y.cmd.nm, .string y.cmd.tg, .int .i64 y.cmd.n, .slice I1 m1 d1, .int .i64 y.seq, .slice I2 m2 d2, .bool y.same] _ hcr Try.underlying50 sizeInst1 ?_ ?_ ?_ ?_ ?_ ?_); (rfl); (rfl); (rfl); (rfl); (rfl)) | go_values | go_skip | go_guarded | go_step | go_upon | (simp only []; go_at_K))
        refine (showInst_spec y _ _ _ _ _ _ _ y1 y2 hby.1 hby.2).mono ?_
        rintro e w4 ⟨rfl, hb4⟩
        have BX' := BX.keep hb4; have hB' := bthen hB hb4; have k1' := k1.keep insK hb4
        clear hgl e0 e1 e2
        clear BX hB k1; have BX := BX'; have hB := hB'; have k1 := k1'; clear BX' hB' k1'
        have hgl := BX.lt
        have e0 := BX.cell 0 _ rfl
        have e1 := BX.cell 1 _ rfl
        have e2 := BX.cell 2 _ rfl
        go_wp2_with fail
        refine (frame_spec _ _ (by omega)).mono ?_
        rintro e w5 ⟨rfl, hb5⟩
        have BX' := BX.keep hb5; have hB' := bthen hB hb5; have k1' := k1.keep insK hb5
        clear hgl e0 e1 e2
        clear BX hB k1; have BX := BX'; have hB := hB'; have k1 := k1'; clear BX' hB' k1'
        have hgl := BX.lt
        have e0 := BX.cell 0 _ rfl
        have e1 := BX.cell 1 _ rfl
        have e2 := BX.cell 2 _ rfl
        have hfl := frameT_le (insText y)
        have hte := isEmpty_str (frameT (insText y))
        by_cases h200 : (insText y).size ≤ 200
        · have hne := frameT_ne h200
          rw [decide_eq_false hne] at hte
          have H2 := Lib.hid h200
          obtain ⟨f, hf⟩ : ∃ f, frameT (insText y) = f := ⟨_, rfl⟩
          rw [hf] at hte hfl HS ⊢
          clear hne hf h200
          go_wp2
          refine ⟨⟨k + 1, by omega, by go_num, by rw [HS.out], fun j hj => ?_, bthen (bthen hbr2 hb4) hb5⟩, by simp [intOf]; omega⟩
          by_cases e : j = k
          · subst e; rw [HAX.out]; exact H2.out
          · exact HCL.out j (by omega)
        · have HV := Lib.hid (savT_no (.inr (fitB_no (x := x) (j := k) (by have := HL1.out; omega) (by rw [HAX.out]; omega))))
          have hne := frameT_no (s := insText y) (by omega)
          rw [decide_eq_true hne] at hte
          obtain ⟨f, hf⟩ : ∃ f, frameT (insText y) = f := ⟨_, rfl⟩
          rw [hf] at hte ⊢
          clear hne hf h200 hfl
          go_wp2
          go_returns
          exact ⟨by rw [HV.out]; rfl, hB⟩
      · have HV := Lib.hid (savT_yes HQ.out (fitB_yes (x := x) (fun j hj => HCL.out j (by have := HL1.out; omega))))
        have hkn : k = x.insts.length := by have := HL1.out; omega
        have HK := Lib.hid hkn; clear hkn HCL
        go_wp2
        go_returns
        exact ⟨by rw [HV.out, ← HK.out]; rfl, hB⟩
end Go.Proofs.Ytdphdnllhmnelaa
