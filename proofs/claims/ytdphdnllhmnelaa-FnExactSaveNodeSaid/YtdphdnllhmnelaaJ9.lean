/- Contracts and lemmas: Leads, LeadAt, NodeOk, ShaN. -/
import Derived.Test.YtdphdnllhmnelaaJ4
import Derived.Test.YtdphdnllhmnelaaJ8
import Derived.Test.YtdphdnllhmnelaaJ0
/- Leads: is one right, where one with an id stands; both sides. -/
namespace Go.Proofs.Ytdphdnllhmnelaa
open Go.RowKit
attribute [local go_sem] Grow.cell Grow.frozen
/-- nodes that rise -/
def frsOkB (l : List Int) : Bool := (List.range l.length).all (fun j => inB (iAt l j) 0 2 && (j == 0 || decide (iAt l (j - 1) < iAt l j)))
theorem frsOk_yes {l : List Int} (h : ∀ j, j < l.length → inB (iAt l j) 0 2 = true ∧ (j = 0 ∨ iAt l (j - 1) < iAt l j)) : frsOkB l = true := by
  unfold frsOkB; rw [List.all_eq_true]
  intro j hj
  obtain ⟨h1, h2⟩ := h j (List.mem_range.1 hj)
  rw [h1]
  rcases h2 with h2 | h2 <;> simp [h2]
theorem frsOk_no {l : List Int} {j : Nat} (hj : j < l.length) (h : inB (iAt l j) 0 2 = false ∨ (0 < j ∧ iAt l j ≤ iAt l (j - 1))) : frsOkB l = false := by
  unfold frsOkB; rw [List.all_eq_false]
  refine ⟨j, List.mem_range.2 hj, ?_⟩
  rcases h with h | ⟨h1, h⟩
  · simp [h]
  · have : ¬ j = 0 := by omega
    have h3 : ¬ iAt l (j - 1) < iAt l j := by omega
    simp [this, h3]
theorem frsOk_at {l : List Int} (h : frsOkB l = true) {j : Nat} (hj : j < l.length) : inB (iAt l j) 0 2 = true ∧ (j = 0 ∨ iAt l (j - 1) < iAt l j) := by
  unfold frsOkB at h
  rw [List.all_eq_true] at h
  have := h j (List.mem_range.2 hj)
  simpa [Bool.and_eq_true, Bool.or_eq_true] using this
theorem frsOk_key {l : List Int} (h : frsOkB l = true) : ∀ j, j < l.length → (j : Int) ≤ iAt l j
  | 0, hj => by have := (frsOk_at h hj).1; simp [inB] at this; omega
  | j + 1, hj => by
    have ih := frsOk_key h j (by omega)
    rcases (frsOk_at h hj).2 with h3 | h3
    · omega
    · simp only [Nat.add_sub_cancel] at h3; omega
theorem frsOk_len {l : List Int} (h : frsOkB l = true) : l.length ≤ 3 := by
  rcases Nat.lt_or_ge 3 l.length with h1 | h1
  · have h2 := frsOk_key h 3 h1
    have h3 := (frsOk_at h h1).1
    simp [inB] at h3; omega
  · exact h1
def leaOkB (x : Lea) : Bool := iddOkB x.id && inB x.bal 0 600 && inB x.ph 1 3 && inB x.seq 0 60 && idsOkB x.deps && !hasId x.deps x.id && frsOkB x.fr
/-- where the first lead of an id stands, from k on; -1: nowhere -/
def ledI : List Lea → Nat → Idd → Int
  | [], _, _ => -1
  | x :: l, k, id => if iddEq x.id id = true then (k : Int) else ledI l (k + 1) id
theorem ledI_drop {l : List Lea} {k : Nat} (id : Idd) (hk : k < l.length) : ledI (l.drop k) k id = if iddEq (leaAt l k).id id = true then (k : Int) else ledI (l.drop (k + 1)) (k + 1) id := by
  rw [List.drop_eq_getElem_cons hk, ledI, leaAt_get hk]
theorem IntR.vals {w : World} {A : Option Addr} {n c : Nat} {l : List Int} (h : IntR w A n c l) (hn : 0 < n) : ∃ b off, A = some ⟨b, off, none⟩ ∧ b < w.heap.size ∧ ∀ j, j < n → w.cell? ⟨b, off + j, none⟩ = some (.int .i64 (iAt l j)) := by
  obtain ⟨b, off, rfl, hb, hc⟩ := h.1.2 hn
  exact ⟨b, off, rfl, hb, hc⟩
attribute [local irreducible] RowR IntR RowO IntO inB iddOkB idsOkB hasId frsOkB
theorem areDeps_any (l : List Idd) (x : Idd) (A : Option Addr) (n c : Nat) (w : World) (h : RowR iddR 2 w A n c l) (hb : iddsB l) :
    Calls Try.prog 165 #[.slice A n c, iddV x] w fun e w' => e = .returned (.bool (idsOkB l && !hasId l x)) ∧ Below w.heap.size w w' := by
  have al := (Below.refl w.heap.size w).alloc (Nat.le_refl _) (.cells #[.int .i64 x.r, .int .i64 x.s] 46)
  obtain ⟨q1, hq1⟩ : ∃ q, idsOkB l = q := ⟨_, rfl⟩
  obtain ⟨q2, hq2⟩ : ∃ q, hasId l x = q := ⟨_, rfl⟩
  have HV := Lib.hid (show (idsOkB l && !hasId l x) = (q1 && !q2) by rw [hq1, hq2])
  have Q1 := Lib.hid hq1; clear hq1
  have Q2 := Lib.hid hq2; clear hq2
  unfold iddV
  go_enter Try.func165, Try.ntmps165
  go_wp2_with fail
  refine (idsOk_impl l _ _ _ _ (h.keep iddK al) hb).mono ?_
  rintro e w1 ⟨rfl, hb1⟩
  rw [Q1.out]
  have hB1 := bthen al hb1
  have BX := (BoxL.new w [.int .i64 x.r, .int .i64 x.s] 46).keep hb1
  have e0 := BX.cell 0 _ rfl
  have e1 := BX.cell 1 _ rfl
  have hlt := BX.lt
  cases q1
  · go_wp2
    go_returns
    exact ⟨ret_bool (by rw [HV.out]; rfl), hB1⟩
  · go_wp2_with fail
    refine (containsId_any l x _ _ _ _ (h.keep iddK hB1) hb).mono ?_
    rintro e w2 ⟨rfl, hb2⟩
    rw [Q2.out]
    go_wp2
    go_returns
    exact ⟨ret_bool (by rw [HV.out]; simp), bthen hB1 hb2⟩
set_option maxRecDepth 8000 in
set_option maxHeartbeats 4000000 in
theorem leadOk_impl (x : Lea) (A1 : Option Addr) (n1 c1 : Nat) (A2 : Option Addr) (n2 c2 : Nat) (w : World) (h1 : RowR iddR 2 w A1 n1 c1 x.deps) (h2 : IntR w A2 n2 c2 x.fr) (hb : leaB x) :
    Calls Try.prog 145 #[leaV x (.slice A1 n1 c1) (.slice A2 n2 c2)] w fun e w' => e = .returned (.bool (leaOkB x)) ∧ Below w.heap.size w w' := by
  have HL := Lib.hid h2.len
  have hn : n2 ≤ 9223372036854775807 := by have := h2.len; have := hb.2; unfold intB at this; omega
  obtain ⟨q0, hq0⟩ : ∃ q, iddOkB x.id = q := ⟨_, rfl⟩
  obtain ⟨q1, hq1⟩ : ∃ q, inB x.bal 0 600 = q := ⟨_, rfl⟩
  obtain ⟨q2, hq2⟩ : ∃ q, inB x.ph 1 3 = q := ⟨_, rfl⟩
  obtain ⟨q3, hq3⟩ : ∃ q, inB x.seq 0 60 = q := ⟨_, rfl⟩
  obtain ⟨q4, hq4⟩ : ∃ q, idsOkB x.deps = q := ⟨_, rfl⟩
  obtain ⟨q5, hq5⟩ : ∃ q, hasId x.deps x.id = q := ⟨_, rfl⟩
  obtain ⟨q6, hq6⟩ : ∃ q, frsOkB x.fr = q := ⟨_, rfl⟩
  have HV := Lib.hid (show leaOkB x = (q0 && q1 && q2 && q3 && q4 && !q5 && q6) by unfold leaOkB; rw [hq0, hq1, hq2, hq3, hq4, hq5, hq6])
  have Q0 := Lib.hid hq0; clear hq0
  have Q1 := Lib.hid hq1; clear hq1
  have Q2 := Lib.hid hq2; clear hq2
  have Q3 := Lib.hid hq3; clear hq3
  have Q4 := Lib.hid hq4; clear hq4
  have Q5 := Lib.hid hq5; clear hq5
  have Q6 := Lib.hid hq6; clear hq6
  have al := (Below.refl w.heap.size w).alloc (Nat.le_refl _) (.cells #[.int .i64 x.id.r, .int .i64 x.id.s, .int .i64 x.bal, .int .i64 x.ph, .int .i64 x.seq, .slice A1 n1 c1, .slice A2 n2 c2, .bool x.same] 170)
  have BX := BoxL.new w [.int .i64 x.id.r, .int .i64 x.id.s, .int .i64 x.bal, .int .i64 x.ph, .int .i64 x.seq, .slice A1 n1 c1, .slice A2 n2 c2, .bool x.same] 170
  unfold leaV
  go_enter Try.func145, Try.ntmps145
  go_wp2_with fail
  obtain ⟨W, hW⟩ : ∃ W, W = w.alloc (.cells #[.int .i64 x.id.r, .int .i64 x.id.s, .int .i64 x.bal, .int .i64 x.ph, .int .i64 x.seq, .slice A1 n1 c1, .slice A2 n2 c2, .bool x.same] 170) := ⟨_, rfl⟩
  obtain ⟨g, hg⟩ : ∃ g, w.heap.size = g := ⟨_, rfl⟩
  have HG := Lib.hid hg
  have hB := al
  rw [← hW] at BX hB ⊢
  simp only [hg] at BX ⊢
  clear hW al hg
  have k1 := h1.keep iddK hB; have k2 := h2.keep hB; clear h1 h2
  have hgl := BX.lt
  have e0 := BX.cell 0 _ rfl
  have e1 := BX.cell 1 _ rfl
  have e2 := BX.cell 2 _ rfl
  have e3 := BX.cell 3 _ rfl
  have e4 := BX.cell 4 _ rfl
  have e5 := BX.cell 5 _ rfl
  have e6 := BX.cell 6 _ rfl
  have e7 := BX.cell 7 _ rfl
  obtain ⟨V, hV⟩ : ∃ V, V = W := ⟨_, rfl⟩
  subst hV
  have HQ6 := Q6
  go_loopw [8] (fun i wr => ∃ (k : Nat), k ≤ n2 ∧ i = .int .i64 k ∧ (∀ j : Nat, j < k → inB (iAt x.fr j) 0 2 = true ∧ (j = 0 ∨ iAt x.fr (j - 1) < iAt x.fr j)) ∧ Below V.heap.size V wr) (fun i _ => n2 - (intOf i).toNat)
  case atStart => exact ⟨0, Nat.zero_le _, rfl, fun j h => absurd h (by omega), Below.refl _ _⟩
  case round =>
    obtain ⟨k, hk, rfl, hcl, hbr⟩ := hrel
    have HCL := Lib.hid hcl; clear hcl
    have BX' := BX.keep hbr; have hB' := bthen hB hbr; have k1' := k1.keep iddK hbr; have k2' := k2.keep hbr
    clear hgl e0 e1 e2 e3 e4 e5 e6 e7
    clear BX hB k1 k2; have BX := BX'; have hB := hB'; have k1 := k1'; have k2 := k2'; clear BX' hB' k1' k2'
    have hgl := BX.lt
    have e0 := BX.cell 0 _ rfl
    have e1 := BX.cell 1 _ rfl
    have e2 := BX.cell 2 _ rfl
    have e3 := BX.cell 3 _ rfl
    have e4 := BX.cell 4 _ rfl
    have e5 := BX.cell 5 _ rfl
    have e6 := BX.cell 6 _ rfl
    have e7 := BX.cell 7 _ rfl
    by_cases hlt : k < n2
    · skip
      obtain ⟨b, off, rfl, hbl, hv⟩ := k2.vals (by omega)
      have v0 := hv k hlt
      obtain ⟨p, hp⟩ : ∃ p, inB (iAt x.fr k) 0 2 = p := ⟨_, rfl⟩
      have P := Lib.hid hp; clear hp
      cases p
      · have HB := Lib.hid (show q6 = false by rw [← Q6.out]; exact frsOk_no (l := x.fr) (j := k) (by have := HL.out; omega) (.inl P.out))
        clear hv
        go_wp2_with fail
        refine (isRep_any _ _).mono ?_
        rintro e w' ⟨rfl, rfl⟩
        rw [P.out]
        have hb4 := Below.refl wr.heap.size wr
        go_wp2
        go_returns
        exact ⟨ret_bool (by rw [HV.out, HB.out]; simp), bthen hB hb4⟩
      · by_cases hk0 : k = 0
        · have HK := Lib.hid (show ∀ j : Nat, j < k + 1 → inB (iAt x.fr j) 0 2 = true ∧ (j = 0 ∨ iAt x.fr (j - 1) < iAt x.fr j) from fun j hj => by
            have hjk : j = k := by omega
            rw [hjk]
            exact ⟨P.out, .inl hk0⟩)
          have gd0 : decide ((k : Int) > 0) = false := by rw [decide_eq_false_iff_not]; omega
          have gd00 : decide (0 < k) = false := by rw [decide_eq_false_iff_not]; omega
          have gd000 : ¬ 0 < k := by omega
          clear hk0 hv
          go_wp2_with fail
          refine (isRep_any _ _).mono ?_
          rintro e w' ⟨rfl, rfl⟩
          rw [P.out]
          have hb4 := Below.refl wr.heap.size wr
          go_wp2
          exact ⟨⟨k + 1, by omega, by go_num, HK.out, bthen hbr hb4⟩, by simp [intOf]; omega⟩
        · obtain ⟨k', rfl⟩ : ∃ k', k = k' + 1 := ⟨k - 1, by omega⟩
          clear hk0
          have u0 := hv k' (by omega)
          have gd0 : decide (((k' + 1 : Nat) : Int) > 0) = true := by rw [decide_eq_true_eq]; omega
          have gd1 : (((k' + 1 : Nat) : Int)) - 1 = (k' : Int) := by omega
          obtain ⟨a0, ha0⟩ : ∃ a, iAt x.fr k' = a := ⟨_, rfl⟩
          obtain ⟨a1, ha1⟩ : ∃ a, iAt x.fr (k' + 1) = a := ⟨_, rfl⟩
          have A0 := Lib.hid ha0; have A1_ := Lib.hid ha1
          rw [ha0] at u0; rw [ha1] at v0; rw [ha1] at P
          clear ha0 ha1 hv
          by_cases hge : a1 ≤ a0
          · have HB := Lib.hid (show q6 = false by rw [← Q6.out]; exact frsOk_no (l := x.fr) (j := k' + 1) (by have := HL.out; omega) (.inr ⟨by omega, by rw [Nat.add_sub_cancel, A1_.out, A0.out]; exact hge⟩))
            go_wp2_with fail
            refine (isRep_any _ _).mono ?_
            rintro e w' ⟨rfl, rfl⟩
            rw [P.out]
            have hb4 := Below.refl wr.heap.size wr
            go_wp2
            go_returns
            exact ⟨ret_bool (by rw [HV.out, HB.out]; simp), bthen hB hb4⟩
          · skip
            go_wp2_with fail
            refine (isRep_any _ _).mono ?_
            rintro e w' ⟨rfl, rfl⟩
            rw [P.out]
            have hb4 := Below.refl wr.heap.size wr
            go_wp2
            refine ⟨⟨k' + 1 + 1, by omega, by go_num, fun j hj => ?_, bthen hbr hb4⟩, by simp [intOf]; omega⟩
            by_cases e : j = k' + 1
            · subst e; exact ⟨by rw [A1_.out]; exact P.out, .inr (by rw [Nat.add_sub_cancel, A1_.out, A0.out]; omega)⟩
            · exact HCL.out j (by omega)
    · have HB := Lib.hid (show q6 = true by rw [← Q6.out]; exact frsOk_yes (l := x.fr) (fun j hj => HCL.out j (by have := HL.out; omega)))
      clear HCL
      go_wp2_with fail
      refine (idOk_any x.id _).mono ?_
      rintro e w1 ⟨rfl, hb1⟩
      have BX' := BX.keep hb1; have hB' := bthen hB hb1; have k1' := k1.keep iddK hb1; have k2' := k2.keep hb1
      clear hgl e0 e1 e2 e3 e4 e5 e6 e7
      clear BX hB k1 k2; have BX := BX'; have hB := hB'; have k1 := k1'; have k2 := k2'; clear BX' hB' k1' k2'
      have hgl := BX.lt
      have e0 := BX.cell 0 _ rfl
      have e1 := BX.cell 1 _ rfl
      have e2 := BX.cell 2 _ rfl
      have e3 := BX.cell 3 _ rfl
      have e4 := BX.cell 4 _ rfl
      have e5 := BX.cell 5 _ rfl
      have e6 := BX.cell 6 _ rfl
      have e7 := BX.cell 7 _ rfl
      rw [Q0.out]
      cases q0
      · skip
        go_wp2
        go_returns
        exact ⟨ret_bool (by rw [HV.out]; simp), hB⟩
      · skip
        go_wp2_with fail
        refine (within_any _ _ _ _).mono ?_
        rintro e w' ⟨rfl, rfl⟩
        rw [Q1.out]
        cases q1
        · skip
          go_wp2
          go_returns
          exact ⟨ret_bool (by rw [HV.out]; simp), hB⟩
        · skip
          go_wp2_with fail
          refine (within_any _ _ _ _).mono ?_
          rintro e w' ⟨rfl, rfl⟩
          rw [Q2.out]
          cases q2
          · skip
            go_wp2
            go_returns
            exact ⟨ret_bool (by rw [HV.out]; simp), hB⟩
          · skip
            go_wp2_with fail
            refine (within_any _ _ _ _).mono ?_
            rintro e w' ⟨rfl, rfl⟩
            rw [Q3.out]
            cases q3
            · skip
              go_wp2
              go_returns
              exact ⟨ret_bool (by rw [HV.out]; simp), hB⟩
            · skip
              go_wp2_with fail
              refine (areDeps_any x.deps x.id _ _ _ _ k1 hb.1).mono ?_
              rintro e w2 ⟨rfl, hb2⟩
              have BX' := BX.keep hb2; have hB' := bthen hB hb2; have k1' := k1.keep iddK hb2; have k2' := k2.keep hb2
              clear hgl e0 e1 e2 e3 e4 e5 e6 e7
              clear BX hB k1 k2; have BX := BX'; have hB := hB'; have k1 := k1'; have k2 := k2'; clear BX' hB' k1' k2'
              have hgl := BX.lt
              have e0 := BX.cell 0 _ rfl
              have e1 := BX.cell 1 _ rfl
              have e2 := BX.cell 2 _ rfl
              have e3 := BX.cell 3 _ rfl
              have e4 := BX.cell 4 _ rfl
              have e5 := BX.cell 5 _ rfl
              have e6 := BX.cell 6 _ rfl
              have e7 := BX.cell 7 _ rfl
              rw [Q4.out, Q5.out]
              go_wp2
              go_returns
              exact ⟨ret_bool (by rw [HV.out, HB.out]; simp), hB⟩
set_option maxRecDepth 8000 in
set_option maxHeartbeats 4000000 in
theorem leadOk_spec (x : Lea) (A1 : Option Addr) (n1 c1 : Nat) (A2 : Option Addr) (n2 c2 : Nat) (w : World) (h1 : RowR iddR 2 w A1 n1 c1 x.deps) (h2 : IntR w A2 n2 c2 x.fr) (hb : leaB x) :
    Calls Try.prog 137 #[leaV x (.slice A1 n1 c1) (.slice A2 n2 c2)] w fun e w' => e = .returned (.bool (leaOkB x)) ∧ Below w.heap.size w w' := by
  have HL := Lib.hid h2.len
  have hn : n2 ≤ 9223372036854775807 := by have := h2.len; have := hb.2; unfold intB at this; omega
  obtain ⟨q0, hq0⟩ : ∃ q, iddOkB x.id = q := ⟨_, rfl⟩
  obtain ⟨q1, hq1⟩ : ∃ q, inB x.bal 0 600 = q := ⟨_, rfl⟩
  obtain ⟨q2, hq2⟩ : ∃ q, inB x.ph 1 3 = q := ⟨_, rfl⟩
  obtain ⟨q3, hq3⟩ : ∃ q, inB x.seq 0 60 = q := ⟨_, rfl⟩
  obtain ⟨q4, hq4⟩ : ∃ q, idsOkB x.deps = q := ⟨_, rfl⟩
  obtain ⟨q5, hq5⟩ : ∃ q, hasId x.deps x.id = q := ⟨_, rfl⟩
  obtain ⟨q6, hq6⟩ : ∃ q, frsOkB x.fr = q := ⟨_, rfl⟩
  have HV := Lib.hid (show leaOkB x = (q0 && q1 && q2 && q3 && q4 && !q5 && q6) by unfold leaOkB; rw [hq0, hq1, hq2, hq3, hq4, hq5, hq6])
  have Q0 := Lib.hid hq0; clear hq0
  have Q1 := Lib.hid hq1; clear hq1
  have Q2 := Lib.hid hq2; clear hq2
  have Q3 := Lib.hid hq3; clear hq3
  have Q4 := Lib.hid hq4; clear hq4
  have Q5 := Lib.hid hq5; clear hq5
  have Q6 := Lib.hid hq6; clear hq6
  have al := (Below.refl w.heap.size w).alloc (Nat.le_refl _) (.cells #[.int .i64 x.id.r, .int .i64 x.id.s, .int .i64 x.bal, .int .i64 x.ph, .int .i64 x.seq, .slice A1 n1 c1, .slice A2 n2 c2, .bool x.same] 170)
  have BX := BoxL.new w [.int .i64 x.id.r, .int .i64 x.id.s, .int .i64 x.bal, .int .i64 x.ph, .int .i64 x.seq, .slice A1 n1 c1, .slice A2 n2 c2, .bool x.same] 170
  unfold leaV
  go_enter Try.func137, Try.ntmps137
  go_wp2_with fail
  refine (l8Id_any x.id _).mono ?_
  rintro e w1 ⟨rfl, hb1⟩
  have hB := bthen al hb1
  have BX' := BX.keep hb1; clear BX; have BX := BX'; clear BX'
  obtain ⟨g, hg⟩ : ∃ g, w.heap.size = g := ⟨_, rfl⟩
  simp only [hg] at BX ⊢
  have HG := Lib.hid hg
  clear al hb1 hg
  have k1 := h1.keep iddK hB; have k2 := h2.keep hB; clear h1 h2
  have hgl := BX.lt
  have e0 := BX.cell 0 _ rfl
  have e1 := BX.cell 1 _ rfl
  have e2 := BX.cell 2 _ rfl
  have e3 := BX.cell 3 _ rfl
  have e4 := BX.cell 4 _ rfl
  have e5 := BX.cell 5 _ rfl
  have e6 := BX.cell 6 _ rfl
  have e7 := BX.cell 7 _ rfl
  rw [Q0.out]
  cases q0
  · skip
    go_wp2
    go_returns
    exact ⟨ret_bool (by rw [HV.out]; simp), hB⟩
  · skip
    go_wp2_with fail
    refine (l1In_any _ _ _ _).mono ?_
    rintro e w' ⟨rfl, rfl⟩
    rw [Q1.out]
    cases q1
    · skip
      go_wp2
      go_returns
      exact ⟨ret_bool (by rw [HV.out]; simp), hB⟩
    · skip
      go_wp2_with fail
      refine (l1In_any _ _ _ _).mono ?_
      rintro e w' ⟨rfl, rfl⟩
      rw [Q2.out]
      cases q2
      · skip
        go_wp2
        go_returns
        exact ⟨ret_bool (by rw [HV.out]; simp), hB⟩
      · skip
        go_wp2_with fail
        refine (l1In_any _ _ _ _).mono ?_
        rintro e w' ⟨rfl, rfl⟩
        rw [Q3.out]
        cases q3
        · skip
          go_wp2
          go_returns
          exact ⟨ret_bool (by rw [HV.out]; simp), hB⟩
        · skip
          go_wp2_with fail
          refine (idsOk_spec x.deps _ _ _ _ k1 hb.1).mono ?_
          rintro e w2 ⟨rfl, hb2⟩
          have BX' := BX.keep hb2; have hB' := bthen hB hb2; have k1' := k1.keep iddK hb2; have k2' := k2.keep hb2
          clear hgl e0 e1 e2 e3 e4 e5 e6 e7
          clear BX hB k1 k2; have BX := BX'; have hB := hB'; have k1 := k1'; have k2 := k2'; clear BX' hB' k1' k2'
          have hgl := BX.lt
          have e0 := BX.cell 0 _ rfl
          have e1 := BX.cell 1 _ rfl
          have e2 := BX.cell 2 _ rfl
          have e3 := BX.cell 3 _ rfl
          have e4 := BX.cell 4 _ rfl
          have e5 := BX.cell 5 _ rfl
          have e6 := BX.cell 6 _ rfl
          have e7 := BX.cell 7 _ rfl
          rw [Q4.out]
          cases q4
          · skip
            go_wp2
            go_returns
            exact ⟨ret_bool (by rw [HV.out]; simp), hB⟩
          · skip
            go_wp2_with fail
            refine (l8Has_any x.deps x.id _ _ _ _ k1 hb.1).mono ?_
            rintro e w3 ⟨rfl, hb3⟩
            have BX' := BX.keep hb3; have hB' := bthen hB hb3; have k1' := k1.keep iddK hb3; have k2' := k2.keep hb3
            clear hgl e0 e1 e2 e3 e4 e5 e6 e7
            clear BX hB k1 k2; have BX := BX'; have hB := hB'; have k1 := k1'; have k2 := k2'; clear BX' hB' k1' k2'
            have hgl := BX.lt
            have e0 := BX.cell 0 _ rfl
            have e1 := BX.cell 1 _ rfl
            have e2 := BX.cell 2 _ rfl
            have e3 := BX.cell 3 _ rfl
            have e4 := BX.cell 4 _ rfl
            have e5 := BX.cell 5 _ rfl
            have e6 := BX.cell 6 _ rfl
            have e7 := BX.cell 7 _ rfl
            rw [Q5.out]
            cases q5
            rotate_left
            · skip
              go_wp2
              go_returns
              exact ⟨ret_bool (by rw [HV.out]; simp), hB⟩
            by_cases h3 : 3 < n2
            · have HB := Lib.hid (show q6 = false by
                rcases Bool.eq_false_or_eq_true q6 with h | h
                · have := frsOk_len (Q6.out.trans h); have := HL.out; omega
                · exact h)
              have gd : (3 : Int) < (n2 : Int) := by omega
              go_wp2
              go_returns
              exact ⟨ret_bool (by rw [HV.out, HB.out]; simp), hB⟩
            · have gd : ¬ (3 : Int) < (n2 : Int) := by omega
              go_wp2
              obtain ⟨V, hV⟩ : ∃ V, V = w3 := ⟨_, rfl⟩
              subst hV
              have HQ6 := Q6
              go_loopw [3] (fun i wr => ∃ (k : Nat), k ≤ n2 ∧ i = .int .i64 k ∧ (∀ j : Nat, j < k → inB (iAt x.fr j) 0 2 = true ∧ (j = 0 ∨ iAt x.fr (j - 1) < iAt x.fr j)) ∧ Below V.heap.size V wr) (fun i _ => n2 - (intOf i).toNat)
              case atStart => exact ⟨0, Nat.zero_le _, rfl, fun j h => absurd h (by omega), Below.refl _ _⟩
              case round =>
                obtain ⟨k, hk, rfl, hcl, hbr⟩ := hrel
                have HCL := Lib.hid hcl; clear hcl
                have BX' := BX.keep hbr; have hB' := bthen hB hbr; have k1' := k1.keep iddK hbr; have k2' := k2.keep hbr
                clear hgl e0 e1 e2 e3 e4 e5 e6 e7
                clear BX hB k1 k2; have BX := BX'; have hB := hB'; have k1 := k1'; have k2 := k2'; clear BX' hB' k1' k2'
                have hgl := BX.lt
                have e0 := BX.cell 0 _ rfl
                have e1 := BX.cell 1 _ rfl
                have e2 := BX.cell 2 _ rfl
                have e3 := BX.cell 3 _ rfl
                have e4 := BX.cell 4 _ rfl
                have e5 := BX.cell 5 _ rfl
                have e6 := BX.cell 6 _ rfl
                have e7 := BX.cell 7 _ rfl
                by_cases hlt : k < n2
                · skip
                  obtain ⟨b, off, rfl, hbl, hv⟩ := k2.vals (by omega)
                  have v0 := hv k hlt
                  obtain ⟨p, hp⟩ : ∃ p, inB (iAt x.fr k) 0 2 = p := ⟨_, rfl⟩
                  have P := Lib.hid hp; clear hp
                  cases p
                  · have HB := Lib.hid (show q6 = false by rw [← Q6.out]; exact frsOk_no (l := x.fr) (j := k) (by have := HL.out; omega) (.inl P.out))
                    clear hv
                    go_wp2
                    refine wp_region_grow (by kernel_rfl) (by kernel_rfl) ?_
                    repeat (first | go_big_quiet_step ((go_at_call 135; exact grow_same (known P.out (l9Node_any _ _)))))
                    refine wpQuiet_nil ?_
                    intro _ hw'
                    obtain ⟨⟨w4, hb4⟩, hw''⟩ := hw'
                    change _ = w4 at hw''
                    subst hw''
                    go_wp2
                    go_returns
                    exact ⟨ret_bool (by rw [HV.out, HB.out]; simp), bthen hB hb4⟩
                  · by_cases hk0 : k = 0
                    · have HK := Lib.hid (show ∀ j : Nat, j < k + 1 → inB (iAt x.fr j) 0 2 = true ∧ (j = 0 ∨ iAt x.fr (j - 1) < iAt x.fr j) from fun j hj => by
                        have hjk : j = k := by omega
                        rw [hjk]
                        exact ⟨P.out, .inl hk0⟩)
                      have gd0 : decide ((k : Int) > 0) = false := by rw [decide_eq_false_iff_not]; omega
                      have gd00 : decide (0 < k) = false := by rw [decide_eq_false_iff_not]; omega
                      have gd000 : ¬ 0 < k := by omega
                      clear hk0 hv
                      go_wp2
                      refine wp_region_grow (by kernel_rfl) (by kernel_rfl) ?_
                      repeat (first | go_big_quiet_step ((go_at_call 135; exact grow_same (known P.out (l9Node_any _ _)))))
                      refine wpQuiet_nil ?_
                      intro _ hw'
                      obtain ⟨⟨w4, hb4⟩, hw''⟩ := hw'
                      change _ = w4 at hw''
                      subst hw''
                      go_wp2
                      exact ⟨⟨k + 1, by omega, by go_num, HK.out, bthen hbr hb4⟩, by simp [intOf]; omega⟩
                    · obtain ⟨k', rfl⟩ : ∃ k', k = k' + 1 := ⟨k - 1, by omega⟩
                      clear hk0
                      have u0 := hv k' (by omega)
                      have gd0 : decide (((k' + 1 : Nat) : Int) > 0) = true := by rw [decide_eq_true_eq]; omega
                      have gd1 : (((k' + 1 : Nat) : Int)) - 1 = (k' : Int) := by omega
                      obtain ⟨a0, ha0⟩ : ∃ a, iAt x.fr k' = a := ⟨_, rfl⟩
                      obtain ⟨a1, ha1⟩ : ∃ a, iAt x.fr (k' + 1) = a := ⟨_, rfl⟩
                      have A0 := Lib.hid ha0; have A1_ := Lib.hid ha1
                      rw [ha0] at u0; rw [ha1] at v0; rw [ha1] at P
                      clear ha0 ha1 hv
                      by_cases hge : a1 ≤ a0
                      · have HB := Lib.hid (show q6 = false by rw [← Q6.out]; exact frsOk_no (l := x.fr) (j := k' + 1) (by have := HL.out; omega) (.inr ⟨by omega, by rw [Nat.add_sub_cancel, A1_.out, A0.out]; exact hge⟩))
                        go_wp2
                        refine wp_region_grow (by kernel_rfl) (by kernel_rfl) ?_
                        repeat (first | go_big_quiet_step ((go_at_call 135; exact grow_same (known P.out (l9Node_any _ _)))))
                        refine wpQuiet_nil ?_
                        intro _ hw'
                        obtain ⟨⟨w4, hb4⟩, hw''⟩ := hw'
                        change _ = w4 at hw''
                        subst hw''
                        go_wp2
                        go_returns
                        exact ⟨ret_bool (by rw [HV.out, HB.out]; simp), bthen hB hb4⟩
                      · skip
                        go_wp2
                        refine wp_region_grow (by kernel_rfl) (by kernel_rfl) ?_
                        repeat (first | go_big_quiet_step ((go_at_call 135; exact grow_same (known P.out (l9Node_any _ _)))))
                        refine wpQuiet_nil ?_
                        intro _ hw'
                        obtain ⟨⟨w4, hb4⟩, hw''⟩ := hw'
                        change _ = w4 at hw''
                        subst hw''
                        go_wp2
                        refine ⟨⟨k' + 1 + 1, by omega, by go_num, fun j hj => ?_, bthen hbr hb4⟩, by simp [intOf]; omega⟩
                        by_cases e : j = k' + 1
                        · subst e; exact ⟨by rw [A1_.out]; exact P.out, .inr (by rw [Nat.add_sub_cancel, A1_.out, A0.out]; omega)⟩
                        · exact HCL.out j (by omega)
                · have HB := Lib.hid (show q6 = true by rw [← Q6.out]; exact frsOk_yes (l := x.fr) (fun j hj => HCL.out j (by have := HL.out; omega)))
                  clear HCL
                  go_wp2
                  go_returns
                  exact ⟨ret_bool (by rw [HV.out, HB.out]; simp), hB⟩
end Go.Proofs.Ytdphdnllhmnelaa
/- Where the first lead with an id stands: slices.IndexFunc with the program's test, the reference's l9At. -/
namespace Go.Proofs.Ytdphdnllhmnelaa
open Go.RowKit
attribute [local go_sem] Grow.cell Grow.frozen
theorem sizeLead0 : (Try.prog.info? 170).map (·.size) = some 8 := by kernel_rfl
attribute [local irreducible] RowR IntR
set_option maxRecDepth 8000 in
theorem lead_fn (x : Lea) (id : Idd) (s1 s2 : Value) (B : Nat) (w : World) (h0 : w.cell? ⟨B, 0, none⟩ = some (.int .i64 id.r)) (h1 : w.cell? ⟨B, 1, none⟩ = some (.int .i64 id.s)) :
    Calls Try.prog 167 #[leaV x s1 s2, .pointer (some ⟨B, 0, none⟩)] w fun r w' => r = .returned (.bool (iddEq x.id id)) ∧ Below w.heap.size w w' := by
  have hlt := cell_lt h0
  obtain ⟨⟨r, s⟩, b1, b2, b3, d1, d2, b4⟩ := x
  obtain ⟨r', s'⟩ := id
  unfold leaV
  simp only at h0 h1 ⊢
  by_cases h1 : r = r'
  · subst h1
    by_cases h2 : s = s'
    · subst h2
      have HV := Lib.hid (show iddEq ⟨r, s⟩ ⟨r, s⟩ = true by simp [iddEq])
      go_enter Try.func167, Try.ntmps167
      go_wp2
      go_returns
      exact ⟨ret_bool (by rw [HV.out]), by go_grown⟩
    · have g2 : (s == s') = false := by simpa using h2
      have HV := Lib.hid (show iddEq ⟨r, s⟩ ⟨r, s'⟩ = false by simp [iddEq, h2])
      go_enter Try.func167, Try.ntmps167
      go_wp2
      go_returns
      exact ⟨ret_bool (by rw [HV.out]), by go_grown⟩
  · have g1 : (r == r') = false := by simpa using h1
    have HV := Lib.hid (show iddEq ⟨r, s⟩ ⟨r', s'⟩ = false by simp [iddEq, h1])
    go_enter Try.func167, Try.ntmps167
    go_wp2
    go_returns
    exact ⟨ret_bool (by rw [HV.out]), by go_grown⟩
set_option maxRecDepth 8000 in
theorem lead_idx (A : Option Addr) (n c : Nat) (l : List Lea) (id : Idd) (B : Nat) (w : World) (h : RowR leaR 8 w A n c l) (hb : leasB l) (h0 : w.cell? ⟨B, 0, none⟩ = some (.int .i64 id.r)) (h1 : w.cell? ⟨B, 1, none⟩ = some (.int .i64 id.s)) :
    Calls Try.prog 166 #[.slice A n c, .func (.func 167) #[] #[.pointer (some ⟨B, 0, none⟩)]] w fun r w' => r = .returned (.int .i64 (ledI l 0 id)) ∧ Below w.heap.size w w' := by
  have HL := Lib.hid h.len.symm
  have hn : n ≤ 9223372036854775807 := by have := h.len; have := hb.1; omega
  go_enter Try.func166, Try.ntmps166
  go_wp2
  go_loopw [8] (fun i wr => ∃ k : Nat, k ≤ n ∧ i = .int .i64 k ∧ ledI l 0 id = ledI (l.drop k) k id ∧ Below w.heap.size w wr) (fun i _ => n - (intOf i).toNat)
  case atStart => exact ⟨0, Nat.zero_le _, rfl, rfl, Below.refl _ _⟩
  case round =>
    obtain ⟨k, hk, rfl, hx, hbr⟩ := hrel
    have HX := Lib.hid hx; clear hx
    by_cases hlt : k < n
    · obtain ⟨b, off, rfl⟩ := h.head (by omega)
      obtain ⟨bl, x, cs, hx, ⟨A1, n1, c1, A2, n2, c2, rfl, _, _⟩, hcell⟩ := h.elem_at hlt
      have hcr : wr.rangeAt b (off + k * 8) (leaL x (.slice A1 n1 c1) (.slice A2 n2 c2)) := fun j v hv => (hbr.cell (p := ⟨b, off + k * 8 + j, none⟩) bl).trans (hcell j v hv)
      have HP := Lib.hid (ledI_drop id (show k < l.length by have := HL.out; omega))
      have HA := Lib.hid (leaAt_of hx)
      have g0 := keep_cell hbr h0
      have g1 := keep_cell hbr h1
      clear hx hcell
      unfold leaL at hcr
      repeat (first | ((with_reducible refine wpList_load_o 170 (.tmp 14) b (off + k * 8) _ _ hcr Try.underlying170 sizeLead0 ?_ ?_ ?_ ?_ ?_ ?_); (rfl); (rfl); (rfl); (rfl); (rfl)) | go_values | go_skip | go_guarded | go_step | go_upon | (simp only []; go_at_K))
      refine (lead_fn x id _ _ B _ g0 g1).mono ?_
      rintro r w1 ⟨rfl, hb1⟩
      obtain ⟨q, hq⟩ : ∃ q, iddEq x.id id = q := ⟨_, rfl⟩
      have HQ := Lib.hid hq
      rw [hq]
      clear hq
      cases q
      · go_wp2
        exact ⟨⟨k + 1, by omega, by go_num, by rw [HX.out, HP.out, HA.out, HQ.out]; rfl, bthen hbr hb1⟩, by simp [intOf]; omega⟩
      · go_wp2
        go_returns
        exact ⟨by rw [HX.out, HP.out, HA.out, HQ.out]; rfl, bthen hbr hb1⟩
    · go_wp2
      go_returns
      obtain rfl : k = n := by omega
      exact ⟨by rw [HX.out, List.drop_eq_nil_of_le (by have := HL.out; omega)]; rfl, hbr⟩
set_option maxRecDepth 8000 in
theorem lead_impl (l : List Lea) (id : Idd) (B : Nat) (A : Option Addr) (n c : Nat) (w : World) (h : RowR leaR 8 w A n c l) (hb : leasB l) (hB : w.cell? ⟨B, 3, none⟩ = some (.slice A n c)) :
    Calls Try.prog 146 #[.pointer (some ⟨B, 0, none⟩), iddV id] w fun r w' => r = .returned (.int .i64 (ledI l 0 id)) ∧ Below w.heap.size w w' := by
  have hlt := cell_lt hB
  have al := (Below.refl w.heap.size w).alloc (Nat.le_refl _) (.cells #[.int .i64 id.r, .int .i64 id.s] 46)
  have BX := BoxL.new w [.int .i64 id.r, .int .i64 id.s] 46
  unfold iddV
  go_enter Try.func146, Try.ntmps146
  go_wp2_with fail
  refine (lead_idx A n c l id w.heap.size _ (h.keep leaK al) hb (BX.cell 0 _ rfl) (BX.cell 1 _ rfl)).mono ?_
  rintro r w1 ⟨rfl, hb1⟩
  go_wp2
  go_returns
  exact ⟨rfl, bthen al hb1⟩
set_option maxRecDepth 8000 in
theorem l9At_spec (l : List Lea) (id : Idd) (me nx : Int) (A1 : Option Addr) (n1 c1 : Nat) (A : Option Addr) (n c : Nat) (w : World) (h : RowR leaR 8 w A n c l) (hb : leasB l) :
    Calls Try.prog 138 #[.agg #[.int .i64 me, .int .i64 nx, .slice A1 n1 c1, .slice A n c], iddV id] w fun r w' => r = .returned (.int .i64 (ledI l 0 id)) ∧ Below w.heap.size w w' := by
  have HL := Lib.hid h.len.symm
  have hn : n ≤ 9223372036854775807 := by have := h.len; have := hb.1; omega
  have al := (Below.refl w.heap.size w).alloc (Nat.le_refl _) (.cells #[.int .i64 me, .int .i64 nx, .slice A1 n1 c1, .slice A n c] 67)
  have N0 := BoxL.new w [.int .i64 me, .int .i64 nx, .slice A1 n1 c1, .slice A n c] 67
  obtain ⟨W1, hW1⟩ : ∃ W, W = w.alloc (.cells #[.int .i64 me, .int .i64 nx, .slice A1 n1 c1, .slice A n c] 67) := ⟨_, rfl⟩
  have z1 : W1.heap.size = w.heap.size + 1 := by rw [hW1]; simp
  have HW1 := Lib.hid hW1
  rw [← hW1] at al N0
  clear hW1
  have al2 := (Below.refl W1.heap.size W1).alloc (Nat.le_refl _) (.cells #[.int .i64 id.r, .int .i64 id.s] 46)
  have J0 := BoxL.new W1 [.int .i64 id.r, .int .i64 id.s] 46
  have N1 := N0.keep al2
  have hB := bthen al al2
  rw [HW1.out] at N1 hB J0
  have hz : (w.alloc (.cells #[.int .i64 me, .int .i64 nx, .slice A1 n1 c1, .slice A n c] 67)).heap.size = w.heap.size + 1 := by simp
  rw [hz] at J0
  clear al al2 N0 hz z1 HW1
  unfold iddV
  go_enter Try.func138, Try.ntmps138
  go_wp2_with fail
  obtain ⟨W, hW⟩ : ∃ W, W = (w.alloc (.cells #[.int .i64 me, .int .i64 nx, .slice A1 n1 c1, .slice A n c] 67)).alloc (.cells #[.int .i64 id.r, .int .i64 id.s] 46) := ⟨_, rfl⟩
  rw [← hW] at N1 hB J0 ⊢
  clear hW
  obtain ⟨g, hg⟩ : ∃ g, w.heap.size = g := ⟨_, rfl⟩
  have HG := Lib.hid hg
  simp only [hg] at N1 J0 ⊢
  clear hg
  go_loopw [5] (fun i wr => ∃ k : Nat, k ≤ n ∧ i = .int .i64 k ∧ ledI l 0 id = ledI (l.drop k) k id ∧ Below W.heap.size W wr) (fun i _ => n - (intOf i).toNat)
  case atStart => exact ⟨0, Nat.zero_le _, rfl, rfl, Below.refl _ _⟩
  case round =>
    obtain ⟨k, hk, rfl, hx, hbr⟩ := hrel
    have HX := Lib.hid hx; clear hx
    have N2 := N1.keep hbr
    have J2 := J0.keep hbr
    have e3 := N2.cell 3 _ rfl
    have j0 := J2.cell 0 _ rfl
    have j1 := J2.cell 1 _ rfl
    have hgl := N2.lt
    have hjl := J2.lt
    have hbw := bthen hB hbr
    by_cases hlt : k < n
    · obtain ⟨b, off, rfl⟩ := h.head (by omega)
      obtain ⟨bl, x, cs, hx, ⟨B1, m1, d1, B2, m2, d2, rfl, _, _⟩, hcell⟩ := h.elem_at hlt
      have e0 := (hbw.cell (p := ⟨b, off + k * 8, none⟩) bl).trans (show w.cell? ⟨b, off + k * 8, none⟩ = some (.int .i64 x.id.r) from hcell 0 _ rfl)
      have e1 := (hbw.cell (p := ⟨b, off + k * 8 + 1, none⟩) bl).trans (show w.cell? ⟨b, off + k * 8 + 1, none⟩ = some (.int .i64 x.id.s) from hcell 1 _ rfl)
      have hbs := cell_lt e0
      have HP := Lib.hid (ledI_drop id (show k < l.length by have := HL.out; omega))
      have HA := Lib.hid (leaAt_of hx)
      clear hx hcell
      obtain ⟨⟨r, s⟩, y1, y2, y3, y4, y5, y6⟩ := x
      obtain ⟨r', s'⟩ := id
      simp only at e0 e1 j0 j1
      by_cases h1 : r = r' ∧ s = s'
      · obtain ⟨rfl, rfl⟩ := h1
        have HQ := Lib.hid (show iddEq ⟨r, s⟩ ⟨r, s⟩ = true by simp [iddEq])
        go_wp2
        refine wp_region_grow (by kernel_rfl) (by kernel_rfl) ?_
        repeat (first | go_big_quiet_step (fail))
        refine wpQuiet_nil ?_
        intro _ hw'
        obtain ⟨⟨w4, hb4⟩, hw''⟩ := hw'
        change _ = w4 at hw''
        subst hw''
        go_wp2
        go_returns
        exact ⟨by rw [HX.out, HP.out, HA.out]; simp only [HQ.out]; rfl, bthen hbw hb4⟩
      · by_cases h2 : r = r'
        · have h3 : ¬ s = s' := fun e => h1 ⟨h2, e⟩
          have g3 : (s == s') = false := by simpa using h3
          clear h1
          subst h2
          have HQ := Lib.hid (show iddEq ⟨r, s⟩ ⟨r, s'⟩ = false by simp [iddEq, h3])
          go_wp2
          refine wp_region_grow (by kernel_rfl) (by kernel_rfl) ?_
          repeat (first | go_big_quiet_step (fail))
          refine wpQuiet_nil ?_
          intro _ hw'
          obtain ⟨⟨w4, hb4⟩, hw''⟩ := hw'
          change _ = w4 at hw''
          subst hw''
          go_wp2
          exact ⟨⟨k + 1, by omega, by go_num, by rw [HX.out, HP.out, HA.out]; simp only [HQ.out]; rfl, bthen hbr hb4⟩, by simp [intOf]; omega⟩
        · have g2 : (r == r') = false := by simpa using h2
          clear h1
          have HQ := Lib.hid (show iddEq ⟨r, s⟩ ⟨r', s'⟩ = false by simp [iddEq, h2])
          go_wp2
          refine wp_region_grow (by kernel_rfl) (by kernel_rfl) ?_
          repeat (first | go_big_quiet_step (fail))
          refine wpQuiet_nil ?_
          intro _ hw'
          obtain ⟨⟨w4, hb4⟩, hw''⟩ := hw'
          change _ = w4 at hw''
          subst hw''
          go_wp2
          exact ⟨⟨k + 1, by omega, by go_num, by rw [HX.out, HP.out, HA.out]; simp only [HQ.out]; rfl, bthen hbr hb4⟩, by simp [intOf]; omega⟩
    · go_wp2
      go_returns
      obtain rfl : k = n := by omega
      exact ⟨by rw [HX.out, List.drop_eq_nil_of_le (by have := HL.out; omega)]; rfl, hbw⟩
end Go.Proofs.Ytdphdnllhmnelaa
/- Is a node right (ENodeOk), both sides. -/
namespace Go.Proofs.Ytdphdnllhmnelaa
open Go.RowKit
attribute [local go_sem] Grow.cell Grow.frozen
/-- of the node's own with a number that is not given yet -/
def unkB (me next : Int) (id : Idd) : Bool := id.r == me && decide (next ≤ id.s)
def knB (x : Nod) : Bool := (List.range x.insts.length).all (fun j => !unkB x.me x.next (insAt x.insts j).id)
def ldsB (l : List Lea) : Bool := (List.range l.length).all (fun j => leaOkB (leaAt l j) && (ledI l 0 (leaAt l j).id == (j : Int)))
/-- a right node -/
def nodOkB (x : Nod) : Bool := inB x.me 0 2 && inB x.next 1 7 && inssOkB x.insts && decide (x.leads.length ≤ 8) && knB x && ldsB x.leads
theorem knB_yes {x : Nod} (h : ∀ j, j < x.insts.length → unkB x.me x.next (insAt x.insts j).id = false) : knB x = true := by
  unfold knB; rw [List.all_eq_true]
  intro j hj
  rw [h j (List.mem_range.1 hj)]; rfl
theorem knB_no {x : Nod} {j : Nat} (hj : j < x.insts.length) (h : unkB x.me x.next (insAt x.insts j).id = true) : knB x = false := by
  unfold knB; rw [List.all_eq_false]
  exact ⟨j, List.mem_range.2 hj, by rw [h]; simp⟩
theorem ldsB_yes {l : List Lea} (h : ∀ j, j < l.length → leaOkB (leaAt l j) = true ∧ ledI l 0 (leaAt l j).id = (j : Int)) : ldsB l = true := by
  unfold ldsB; rw [List.all_eq_true]
  intro j hj
  obtain ⟨h1, h2⟩ := h j (List.mem_range.1 hj)
  rw [h1, h2]; simp
theorem ldsB_no {l : List Lea} {j : Nat} (hj : j < l.length) (h : leaOkB (leaAt l j) = false ∨ ledI l 0 (leaAt l j).id ≠ (j : Int)) : ldsB l = false := by
  unfold ldsB; rw [List.all_eq_false]
  refine ⟨j, List.mem_range.2 hj, ?_⟩
  rcases h with h | h
  · rw [h]; simp
  · have : (ledI l 0 (leaAt l j).id == (j : Int)) = false := by simpa using h
    rw [this]; simp
theorem sizeInst1 : (Try.prog.info? 50).map (·.size) = some 16 := by kernel_rfl
attribute [local irreducible] RowR StrR IntR inB inssOkB insOkB leaOkB ledI knB ldsB
set_option maxRecDepth 8000 in
theorem unknown_impl (id : Idd) (me next : Int) (B : Nat) (w : World) (h0 : w.cell? ⟨B, 0, none⟩ = some (.int .i64 me)) (h1 : w.cell? ⟨B, 1, none⟩ = some (.int .i64 next)) :
    Calls Try.prog 144 #[.pointer (some ⟨B, 0, none⟩), iddV id] w fun e w' => e = .returned (.bool (unkB me next id)) ∧ Below w.heap.size w w' := by
  have al := (Below.refl w.heap.size w).alloc (Nat.le_refl _) (.cells #[.int .i64 id.r, .int .i64 id.s] 46)
  have BX := BoxL.new w [.int .i64 id.r, .int .i64 id.s] 46
  have c0 := keep_cell al h0
  have c1 := keep_cell al h1
  have hBl := cell_lt h0
  obtain ⟨r, s⟩ := id
  unfold iddV
  go_enter Try.func144, Try.ntmps144
  go_wp2_with fail
  obtain ⟨W, hW⟩ : ∃ W, W = w.alloc (.cells #[.int .i64 r, .int .i64 s] 46) := ⟨_, rfl⟩
  try dsimp only at al BX c0 c1
  rw [← hW] at al BX c0 c1 ⊢
  obtain ⟨g, hg⟩ : ∃ g, w.heap.size = g := ⟨_, rfl⟩
  simp only [hg] at BX ⊢
  have HG := Lib.hid hg
  clear hW hg h0 h1
  have b0 := BX.cell 0 _ rfl
  have b1 := BX.cell 1 _ rfl
  have hgl := BX.lt
  have hBl2 := cell_lt c0
  by_cases h1 : r = me
  · have g1 : (r == me) = true := by simpa using h1
    by_cases h2 : next ≤ s
    · have HV := Lib.hid (show unkB me next ⟨r, s⟩ = true by simp [unkB, h1, h2])
      have gd : decide (s ≥ next) = true := by simpa using h2
      clear h1
      refine wp_region_grow (by kernel_rfl) (by kernel_rfl) ?_
      repeat (first | go_big_quiet_step (fail))
      refine wpQuiet_nil ?_
      intro _ hw'
      obtain ⟨⟨w4, hb4⟩, hw''⟩ := hw'
      change _ = w4 at hw''
      subst hw''
      go_wp2
      go_returns
      exact ⟨ret_bool (by rw [HV.out]), bthen al hb4⟩
    · have HV := Lib.hid (show unkB me next ⟨r, s⟩ = false by simp [unkB, h2])
      have gd : decide (s ≥ next) = false := by simpa using h2
      clear h1
      refine wp_region_grow (by kernel_rfl) (by kernel_rfl) ?_
      repeat (first | go_big_quiet_step (fail))
      refine wpQuiet_nil ?_
      intro _ hw'
      obtain ⟨⟨w4, hb4⟩, hw''⟩ := hw'
      change _ = w4 at hw''
      subst hw''
      go_wp2
      go_returns
      exact ⟨ret_bool (by rw [HV.out]), bthen al hb4⟩
  · have g1 : (r == me) = false := by simpa using h1
    have HV := Lib.hid (show unkB me next ⟨r, s⟩ = false by simp [unkB, h1])
    refine wp_region_grow (by kernel_rfl) (by kernel_rfl) ?_
    repeat (first | go_big_quiet_step (fail))
    refine wpQuiet_nil ?_
    intro _ hw'
    obtain ⟨⟨w4, hb4⟩, hw''⟩ := hw'
    change _ = w4 at hw''
    subst hw''
    go_wp2
    go_returns
    exact ⟨ret_bool (by rw [HV.out]), bthen al hb4⟩
set_option maxRecDepth 8000 in
set_option maxHeartbeats 8000000 in
theorem nodeOk_impl (x : Nod) (A1 : Option Addr) (n1 c1 : Nat) (A2 : Option Addr) (n2 c2 : Nat) (w : World) (h1 : RowR insR 16 w A1 n1 c1 x.insts) (h2 : RowR leaR 8 w A2 n2 c2 x.leads) (hb : nodB x) :
    Calls Try.prog 99 #[nodV x (.slice A1 n1 c1) (.slice A2 n2 c2)] w fun e w' => e = .returned (.bool (nodOkB x)) ∧ Below w.heap.size w w' := by
  have HL1 := Lib.hid h1.len
  have HL2 := Lib.hid h2.len
  have hn1 : n1 ≤ 9223372036854775807 := by have := h1.len; have := hb.1.1; omega
  have hn2 : n2 ≤ 9223372036854775807 := by have := h2.len; have := hb.2.1; omega
  obtain ⟨q0, hq0⟩ : ∃ q, inB x.me 0 2 = q := ⟨_, rfl⟩
  obtain ⟨q1, hq1⟩ : ∃ q, inB x.next 1 7 = q := ⟨_, rfl⟩
  obtain ⟨q2, hq2⟩ : ∃ q, inssOkB x.insts = q := ⟨_, rfl⟩
  obtain ⟨q3, hq3⟩ : ∃ q, decide (x.leads.length ≤ 8) = q := ⟨_, rfl⟩
  obtain ⟨q4, hq4⟩ : ∃ q, knB x = q := ⟨_, rfl⟩
  obtain ⟨q5, hq5⟩ : ∃ q, ldsB x.leads = q := ⟨_, rfl⟩
  have HV := Lib.hid (show nodOkB x = (q0 && q1 && q2 && q3 && q4 && q5) by unfold nodOkB; rw [hq0, hq1, hq2, hq3, hq4, hq5])
  have Q0 := Lib.hid hq0; clear hq0
  have Q1 := Lib.hid hq1; clear hq1
  have Q2 := Lib.hid hq2; clear hq2
  have Q3 := Lib.hid hq3; clear hq3
  have Q4 := Lib.hid hq4; clear hq4
  have Q5 := Lib.hid hq5; clear hq5
  have al := (Below.refl w.heap.size w).alloc (Nat.le_refl _) (.cells #[.int .i64 x.me, .int .i64 x.next, .slice A1 n1 c1, .slice A2 n2 c2] 67)
  have BX := BoxL.new w [.int .i64 x.me, .int .i64 x.next, .slice A1 n1 c1, .slice A2 n2 c2] 67
  unfold nodV
  go_enter Try.func99, Try.ntmps99
  go_wp2_with fail
  refine (isRep_any _ _).mono ?_
  rintro e w' ⟨rfl, rfl⟩
  obtain ⟨W, hW⟩ : ∃ W, W = w.alloc (.cells #[.int .i64 x.me, .int .i64 x.next, .slice A1 n1 c1, .slice A2 n2 c2] 67) := ⟨_, rfl⟩
  obtain ⟨g, hg⟩ : ∃ g, w.heap.size = g := ⟨_, rfl⟩
  have HG := Lib.hid hg
  have hB := al
  rw [← hW] at BX hB ⊢
  simp only [hg] at BX ⊢
  clear hW al hg
  have k1 := h1.keep insK hB; have k2 := h2.keep leaK hB; clear h1 h2
  have hgl := BX.lt
  have e0 := BX.cell 0 _ rfl
  have e1 := BX.cell 1 _ rfl
  have e2 := BX.cell 2 _ rfl
  have e3 := BX.cell 3 _ rfl
  rw [Q0.out]
  cases q0
  · skip
    go_wp2
    go_returns
    exact ⟨ret_bool (by rw [HV.out]; simp), hB⟩
  · skip
    go_wp2_with fail
    refine (within_any _ _ _ _).mono ?_
    rintro e w' ⟨rfl, rfl⟩
    rw [Q1.out]
    cases q1
    · skip
      go_wp2
      go_returns
      exact ⟨ret_bool (by rw [HV.out]; simp), hB⟩
    · skip
      go_wp2_with fail
      refine (instsOk_impl x.insts _ _ _ _ k1 hb.1).mono ?_
      rintro e w1 ⟨rfl, hb1⟩
      have BX' := BX.keep hb1; have hB' := bthen hB hb1; have k1' := k1.keep insK hb1; have k2' := k2.keep leaK hb1
      clear hgl e0 e1 e2 e3
      clear BX hB k1 k2; have BX := BX'; have hB := hB'; have k1 := k1'; have k2 := k2'; clear BX' hB' k1' k2'
      have hgl := BX.lt
      have e0 := BX.cell 0 _ rfl
      have e1 := BX.cell 1 _ rfl
      have e2 := BX.cell 2 _ rfl
      have e3 := BX.cell 3 _ rfl
      rw [Q2.out]
      cases q2
      · skip
        go_wp2
        go_returns
        exact ⟨ret_bool (by rw [HV.out]; simp), hB⟩
      · skip
        by_cases h8 : 8 < n2
        · have HB := Lib.hid (show q3 = false by rw [← Q3.out]; have := HL2.out; simp only [decide_eq_false_iff_not]; omega)
          have gd : (8 : Int) < (n2 : Int) := by omega
          go_wp2
          go_returns
          exact ⟨ret_bool (by rw [HV.out, HB.out]; simp), hB⟩
        · have HB3 := Lib.hid (show q3 = true by rw [← Q3.out]; have := HL2.out; simp only [decide_eq_true_eq]; omega)
          have gd : ¬ (8 : Int) < (n2 : Int) := by omega
          go_wp2
          have hgd8 : n2 ≤ 8 := by omega
          clear gd h8
          obtain ⟨V, hV⟩ : ∃ V, V = w1 := ⟨_, rfl⟩
          subst hV
          go_loopw [32] (fun i wr => ∃ (k : Nat), k ≤ n1 ∧ i = .int .i64 k ∧ (∀ j : Nat, j < k → unkB x.me x.next (insAt x.insts j).id = false) ∧ Below V.heap.size V wr) (fun i _ => n1 - (intOf i).toNat)
          case atStart => exact ⟨0, Nat.zero_le _, rfl, fun j h => absurd h (by omega), Below.refl _ _⟩
          case round =>
            obtain ⟨k, hk, rfl, hcl, hbr⟩ := hrel
            have HCL := Lib.hid hcl; clear hcl
            have k1o := k1
            have BX' := BX.keep hbr; have hB' := bthen hB hbr; have k1' := k1.keep insK hbr; have k2' := k2.keep leaK hbr
            clear hgl e0 e1 e2 e3
            clear BX hB k1 k2; have BX := BX'; have hB := hB'; have k1 := k1'; have k2 := k2'; clear BX' hB' k1' k2'
            have hgl := BX.lt
            have e0 := BX.cell 0 _ rfl
            have e1 := BX.cell 1 _ rfl
            have e2 := BX.cell 2 _ rfl
            have e3 := BX.cell 3 _ rfl
            by_cases hlt : k < n1
            · skip
              obtain ⟨b, off, rfl⟩ := k1.head (by omega)
              obtain ⟨bl, y, cs, hy, ⟨I1, m1, d1, I2, m2, d2, rfl, _, _⟩, hcell⟩ := k1.elem_at hlt
              have HAX := Lib.hid (insAt_of hy)
              obtain ⟨p, hp⟩ : ∃ p, unkB x.me x.next y.id = p := ⟨_, rfl⟩
              have hcr : wr.rangeAt b (off + k * 16) [.int .i64 y.id.r, .int .i64 y.id.s, .int .i64 y.bal, .int .i64 y.vb, .int .i64 y.st, .int .i64 y.cmd.kd, .int .i64 y.cmd.cl, .int .i64 y.cmd.no, .string y.cmd.s, .string y.cmd.nm, .string y.cmd.tg, .int .i64 y.cmd.n, .slice I1 m1 d1, .int .i64 y.seq, .slice I2 m2 d2, .bool y.same] := fun j v hv => hcell j v hv
              clear hcell hy k1o
              have P := Lib.hid hp; clear hp
              have al := (Below.refl wr.heap.size wr).alloc (Nat.le_refl _) (.cells #[.int .i64 y.id.r, .int .i64 y.id.s, .int .i64 y.bal, .int .i64 y.vb, .int .i64 y.st, .int .i64 y.cmd.kd, .int .i64 y.cmd.cl, .int .i64 y.cmd.no, .string y.cmd.s, .string y.cmd.nm, .string y.cmd.tg, .int .i64 y.cmd.n, .slice I1 m1 d1, .int .i64 y.seq, .slice I2 m2 d2, .bool y.same] 50)
              have BY := BoxL.new wr [.int .i64 y.id.r, .int .i64 y.id.s, .int .i64 y.bal, .int .i64 y.vb, .int .i64 y.st, .int .i64 y.cmd.kd, .int .i64 y.cmd.cl, .int .i64 y.cmd.no, .string y.cmd.s, .string y.cmd.nm, .string y.cmd.tg, .int .i64 y.cmd.n, .slice I1 m1 d1, .int .i64 y.seq, .slice I2 m2 d2, .bool y.same] 50
              repeat (first | ((with_reducible refine wpList_load_o 50 (.tmp 34) (b) (off + k * 16) [.int .i64 y.id.r, .int .i64 y.id.s, .int .i64 y.bal, .int .i64 y.vb, .int .i64 y.st, .int .i64 y.cmd.kd, .int .i64 y.cmd.cl, .int .i64 y.cmd.no, .string y.cmd.s, .string y.cmd.nm, .string y.cmd.tg, .int .i64 y.cmd.n, .slice I1 m1 d1, .int .i64 y.seq, .slice I2 m2 d2, .bool y.same] _ hcr Try.underlying50 sizeInst1 ?_ ?_ ?_ ?_ ?_ ?_); (rfl); (rfl); (rfl); (rfl); (rfl)) | go_values | go_skip | go_guarded | go_step | go_upon | (simp only []; go_at_K))
              obtain ⟨W, hW⟩ : ∃ W, W = wr.alloc (.cells #[.int .i64 y.id.r, .int .i64 y.id.s, .int .i64 y.bal, .int .i64 y.vb, .int .i64 y.st, .int .i64 y.cmd.kd, .int .i64 y.cmd.cl, .int .i64 y.cmd.no, .string y.cmd.s, .string y.cmd.nm, .string y.cmd.tg, .int .i64 y.cmd.n, .slice I1 m1 d1, .int .i64 y.seq, .slice I2 m2 d2, .bool y.same] 50) := ⟨_, rfl⟩
              obtain ⟨h, hh⟩ : ∃ h, wr.heap.size = h := ⟨_, rfl⟩
              rw [← hW] at BY al ⊢
              simp only [hh] at BY ⊢
              clear hW hh hcr
              have BX' := BX.keep al; have hB' := bthen hB al; have k1' := k1.keep insK al; have k2' := k2.keep leaK al
              clear hgl e0 e1 e2 e3
              clear BX hB k1 k2; have BX := BX'; have hB := hB'; have k1 := k1'; have k2 := k2'; clear BX' hB' k1' k2'
              have hgl := BX.lt
              have e0 := BX.cell 0 _ rfl
              have e1 := BX.cell 1 _ rfl
              have e2 := BX.cell 2 _ rfl
              have e3 := BX.cell 3 _ rfl
              have hlW := BY.lt; have f0 := BY.cell 0 _ rfl; have f1 := BY.cell 1 _ rfl
              have hbr2 := bthen hbr al
              go_wp2_with fail
              refine (unknown_impl y.id x.me x.next g _ e0 e1).mono ?_
              rintro e w4 ⟨rfl, hb4⟩
              rw [P.out]
              have BX' := BX.keep hb4; have hB' := bthen hB hb4; have k1' := k1.keep insK hb4; have k2' := k2.keep leaK hb4
              clear hgl e0 e1 e2 e3
              clear BX hB k1 k2; have BX := BX'; have hB := hB'; have k1 := k1'; have k2 := k2'; clear BX' hB' k1' k2'
              have hgl := BX.lt
              have e0 := BX.cell 0 _ rfl
              have e1 := BX.cell 1 _ rfl
              have e2 := BX.cell 2 _ rfl
              have e3 := BX.cell 3 _ rfl
              cases p
              · go_wp2
                refine ⟨⟨k + 1, by omega, by go_num, fun j hj => ?_, bthen hbr2 hb4⟩, by simp [intOf]; omega⟩
                by_cases e : j = k
                · subst e; rw [HAX.out]; exact P.out
                · exact HCL.out j (by omega)
              · have HB := Lib.hid (show q4 = false by rw [← Q4.out]; exact knB_no (x := x) (j := k) (by have := HL1.out; omega) (by rw [HAX.out]; exact P.out))
                go_wp2
                go_returns
                exact ⟨ret_bool (by rw [HV.out, HB.out]; simp), hB⟩
            · have HB4 := Lib.hid (show q4 = true by rw [← Q4.out]; exact knB_yes (x := x) (fun j hj => HCL.out j (by have := HL1.out; omega)))
              clear HCL k1o hbr
              go_wp2
              obtain ⟨V2, hV⟩ : ∃ V, V = wr := ⟨_, rfl⟩
              subst hV
              go_loopw [43] (fun i wr => ∃ (k : Nat), k ≤ n2 ∧ i = .int .i64 k ∧ (∀ j : Nat, j < k → leaOkB (leaAt x.leads j) = true ∧ ledI x.leads 0 (leaAt x.leads j).id = (j : Int)) ∧ Below V2.heap.size V2 wr) (fun i _ => n2 - (intOf i).toNat)
              case atStart => exact ⟨0, Nat.zero_le _, rfl, fun j h => absurd h (by omega), Below.refl _ _⟩
              case round =>
                obtain ⟨k, hk, rfl, hcl, hbr⟩ := hrel
                have HCL := Lib.hid hcl; clear hcl
                have BX' := BX.keep hbr; have hB' := bthen hB hbr; have k1' := k1.keep insK hbr; have k2' := k2.keep leaK hbr
                clear hgl e0 e1 e2 e3
                clear BX hB k1 k2; have BX := BX'; have hB := hB'; have k1 := k1'; have k2 := k2'; clear BX' hB' k1' k2'
                have hgl := BX.lt
                have e0 := BX.cell 0 _ rfl
                have e1 := BX.cell 1 _ rfl
                have e2 := BX.cell 2 _ rfl
                have e3 := BX.cell 3 _ rfl
                by_cases hlt : k < n2
                · skip
                  have hAk := k2
                  obtain ⟨b, off, rfl⟩ := k2.head (by omega)
                  obtain ⟨bl, y, cs, hy, ⟨I1, m1, d1, I2, m2, d2, rfl, y1, y2⟩, hcell⟩ := k2.elem_at hlt
                  have HAX := Lib.hid (leaAt_of hy)
                  have hby := bounds_el hb.2.2 hy
                  have hcr : wr.rangeAt b (off + k * 8) [.int .i64 y.id.r, .int .i64 y.id.s, .int .i64 y.bal, .int .i64 y.ph, .int .i64 y.seq, .slice I1 m1 d1, .slice I2 m2 d2, .bool y.same] := fun j v hv => hcell j v hv
                  clear hcell hy hAk
                  obtain ⟨p, hp⟩ : ∃ p, leaOkB y = p := ⟨_, rfl⟩
                  have P := Lib.hid hp; clear hp
                  obtain ⟨t, ht⟩ : ∃ t, ledI x.leads 0 y.id = t := ⟨_, rfl⟩
                  have T := Lib.hid ht; clear ht
                  have al := (Below.refl wr.heap.size wr).alloc (Nat.le_refl _) (.cells #[.int .i64 y.id.r, .int .i64 y.id.s, .int .i64 y.bal, .int .i64 y.ph, .int .i64 y.seq, .slice I1 m1 d1, .slice I2 m2 d2, .bool y.same] 170)
                  have BY := BoxL.new wr [.int .i64 y.id.r, .int .i64 y.id.s, .int .i64 y.bal, .int .i64 y.ph, .int .i64 y.seq, .slice I1 m1 d1, .slice I2 m2 d2, .bool y.same] 170
                  repeat (first | ((with_reducible refine wpList_load_o 170 (.tmp 46) (b) (off + k * 8) [.int .i64 y.id.r, .int .i64 y.id.s, .int .i64 y.bal, .int .i64 y.ph, .int .i64 y.seq, .slice I1 m1 d1, .slice I2 m2 d2, .bool y.same] _ hcr Try.underlying170 sizeLead0 ?_ ?_ ?_ ?_ ?_ ?_); (rfl); (rfl); (rfl); (rfl); (rfl)) | go_values | go_skip | go_guarded | go_step | go_upon | (simp only []; go_at_K))
                  obtain ⟨W, hW⟩ : ∃ W, W = wr.alloc (.cells #[.int .i64 y.id.r, .int .i64 y.id.s, .int .i64 y.bal, .int .i64 y.ph, .int .i64 y.seq, .slice I1 m1 d1, .slice I2 m2 d2, .bool y.same] 170) := ⟨_, rfl⟩
                  obtain ⟨h, hh⟩ : ∃ h, wr.heap.size = h := ⟨_, rfl⟩
                  rw [← hW] at BY al ⊢
                  simp only [hh] at BY ⊢
                  clear hW hh hcr
                  have BX' := BX.keep al; have hB' := bthen hB al; have k1' := k1.keep insK al; have k2' := k2.keep leaK al
                  clear hgl e0 e1 e2 e3
                  clear BX hB k1 k2; have BX := BX'; have hB := hB'; have k1 := k1'; have k2 := k2'; clear BX' hB' k1' k2'
                  have hgl := BX.lt
                  have e0 := BX.cell 0 _ rfl
                  have e1 := BX.cell 1 _ rfl
                  have e2 := BX.cell 2 _ rfl
                  have e3 := BX.cell 3 _ rfl
                  have y1' := y1.keep iddK al; have y2' := y2.keep al; clear y1 y2
                  have hbr2 := bthen hbr al
                  have hYr := BY.range; have hlW := BY.lt
                  repeat (first | ((with_reducible refine wpList_load_o 170 (.tmp 6) (h) (0) [.int .i64 y.id.r, .int .i64 y.id.s, .int .i64 y.bal, .int .i64 y.ph, .int .i64 y.seq, .slice I1 m1 d1, .slice I2 m2 d2, .bool y.same] _ hYr Try.underlying170 sizeLead0 ?_ ?_ ?_ ?_ ?_ ?_); (rfl); (rfl); (rfl); (rfl); (rfl)) | go_values | go_skip | go_guarded | go_step | go_upon | (simp only []; go_at_K))
                  refine (leadOk_impl y _ _ _ _ _ _ _ y1' y2' hby).mono ?_
                  rintro e w4 ⟨rfl, hb4⟩
                  rw [P.out]
                  have BY' := BY.keep hb4; clear BY hYr hlW; have BY := BY'; clear BY'
                  have BX' := BX.keep hb4; have hB' := bthen hB hb4; have k1' := k1.keep insK hb4; have k2' := k2.keep leaK hb4
                  clear hgl e0 e1 e2 e3
                  clear BX hB k1 k2; have BX := BX'; have hB := hB'; have k1 := k1'; have k2 := k2'; clear BX' hB' k1' k2'
                  have hgl := BX.lt
                  have e0 := BX.cell 0 _ rfl
                  have e1 := BX.cell 1 _ rfl
                  have e2 := BX.cell 2 _ rfl
                  have e3 := BX.cell 3 _ rfl
                  have hbr3 := bthen hbr2 hb4
                  cases p
                  · have HB := Lib.hid (show q5 = false by rw [← Q5.out]; exact ldsB_no (l := x.leads) (j := k) (by have := HL2.out; omega) (.inl (by rw [HAX.out]; exact P.out)))
                    go_wp2
                    go_returns
                    exact ⟨ret_bool (by rw [HV.out, HB.out]; simp), hB⟩
                  · skip
                    have hlW := BY.lt; have f0 := BY.cell 0 _ rfl; have f1 := BY.cell 1 _ rfl
                    go_wp2_with fail
                    refine (lead_impl x.leads y.id g _ _ _ _ k2 hb.2 e3).mono ?_
                    rintro e w5 ⟨rfl, hb5⟩
                    rw [T.out]
                    have BX' := BX.keep hb5; have hB' := bthen hB hb5; have k1' := k1.keep insK hb5; have k2' := k2.keep leaK hb5
                    clear hgl e0 e1 e2 e3
                    clear BX hB k1 k2; have BX := BX'; have hB := hB'; have k1 := k1'; have k2 := k2'; clear BX' hB' k1' k2'
                    have hgl := BX.lt
                    have e0 := BX.cell 0 _ rfl
                    have e1 := BX.cell 1 _ rfl
                    have e2 := BX.cell 2 _ rfl
                    have e3 := BX.cell 3 _ rfl
                    by_cases htk : t = (k : Int)
                    · have gd : (t != (k : Int)) = false := by simp [htk]
                      have HT := Lib.hid htk; clear htk
                      go_wp2
                      refine ⟨⟨k + 1, by omega, by go_num, fun j hj => ?_, bthen hbr3 hb5⟩, by simp [intOf]; omega⟩
                      by_cases e : j = k
                      · subst e; exact ⟨by rw [HAX.out]; exact P.out, by rw [HAX.out, T.out]; exact HT.out⟩
                      · exact HCL.out j (by omega)
                    · have HB := Lib.hid (show q5 = false by rw [← Q5.out]; exact ldsB_no (l := x.leads) (j := k) (by have := HL2.out; omega) (.inr (by rw [HAX.out, T.out]; exact htk)))
                      have gd : (t != (k : Int)) = true := by simpa using htk
                      go_wp2
                      go_returns
                      exact ⟨ret_bool (by rw [HV.out, HB.out]; simp), hB⟩
                · have HB5 := Lib.hid (show q5 = true by rw [← Q5.out]; exact ldsB_yes (l := x.leads) (fun j hj => HCL.out j (by have := HL2.out; omega)))
                  clear HCL
                  go_wp2
                  go_returns
                  exact ⟨ret_bool (by rw [HV.out, HB3.out, HB4.out, HB5.out]; rfl), hB⟩
theorem toldI {P : Program} {f : FuncId} {args : Array Value} {w : World} {T : World → Prop} {x y : Int} (hx : x = y) (h : Calls P f args w fun e w' => e = .returned (.int .i64 x) ∧ T w') : Calls P f args w fun e w' => e = .returned (.int .i64 y) ∧ T w' := by
  subst hx; exact h
set_option maxRecDepth 8000 in
set_option maxHeartbeats 8000000 in
theorem nodeOk_spec (x : Nod) (A1 : Option Addr) (n1 c1 : Nat) (A2 : Option Addr) (n2 c2 : Nat) (w : World) (h1 : RowR insR 16 w A1 n1 c1 x.insts) (h2 : RowR leaR 8 w A2 n2 c2 x.leads) (hb : nodB x) :
    Calls Try.prog 95 #[nodV x (.slice A1 n1 c1) (.slice A2 n2 c2)] w fun e w' => e = .returned (.bool (nodOkB x)) ∧ Below w.heap.size w w' := by
  have HL1 := Lib.hid h1.len
  have HL2 := Lib.hid h2.len
  have hn1 : n1 ≤ 9223372036854775807 := by have := h1.len; have := hb.1.1; omega
  have hn2 : n2 ≤ 9223372036854775807 := by have := h2.len; have := hb.2.1; omega
  obtain ⟨q0, hq0⟩ : ∃ q, inB x.me 0 2 = q := ⟨_, rfl⟩
  obtain ⟨q1, hq1⟩ : ∃ q, inB x.next 1 7 = q := ⟨_, rfl⟩
  obtain ⟨q2, hq2⟩ : ∃ q, inssOkB x.insts = q := ⟨_, rfl⟩
  obtain ⟨q3, hq3⟩ : ∃ q, decide (x.leads.length ≤ 8) = q := ⟨_, rfl⟩
  obtain ⟨q4, hq4⟩ : ∃ q, knB x = q := ⟨_, rfl⟩
  obtain ⟨q5, hq5⟩ : ∃ q, ldsB x.leads = q := ⟨_, rfl⟩
  have HV := Lib.hid (show nodOkB x = (q0 && q1 && q2 && q3 && q4 && q5) by unfold nodOkB; rw [hq0, hq1, hq2, hq3, hq4, hq5])
  have Q0 := Lib.hid hq0; clear hq0
  have Q1 := Lib.hid hq1; clear hq1
  have Q2 := Lib.hid hq2; clear hq2
  have Q3 := Lib.hid hq3; clear hq3
  have Q4 := Lib.hid hq4; clear hq4
  have Q5 := Lib.hid hq5; clear hq5
  have al := (Below.refl w.heap.size w).alloc (Nat.le_refl _) (.cells #[.int .i64 x.me, .int .i64 x.next, .slice A1 n1 c1, .slice A2 n2 c2] 67)
  have BX := BoxL.new w [.int .i64 x.me, .int .i64 x.next, .slice A1 n1 c1, .slice A2 n2 c2] 67
  unfold nodV
  go_enter Try.func95, Try.ntmps95
  go_wp2_with fail
  refine (l9Node_any _ _).mono ?_
  rintro e w' ⟨rfl, rfl⟩
  obtain ⟨W, hW⟩ : ∃ W, W = w.alloc (.cells #[.int .i64 x.me, .int .i64 x.next, .slice A1 n1 c1, .slice A2 n2 c2] 67) := ⟨_, rfl⟩
  obtain ⟨g, hg⟩ : ∃ g, w.heap.size = g := ⟨_, rfl⟩
  have HG := Lib.hid hg
  have hB := al
  rw [← hW] at BX hB ⊢
  simp only [hg] at BX ⊢
  clear hW al hg
  have k1 := h1.keep insK hB; have k2 := h2.keep leaK hB; clear h1 h2
  have hgl := BX.lt
  have e0 := BX.cell 0 _ rfl
  have e1 := BX.cell 1 _ rfl
  have e2 := BX.cell 2 _ rfl
  have e3 := BX.cell 3 _ rfl
  rw [Q0.out]
  cases q0
  · skip
    go_wp2
    go_returns
    exact ⟨ret_bool (by rw [HV.out]; simp), hB⟩
  · skip
    go_wp2_with fail
    refine (l1In_any _ _ _ _).mono ?_
    rintro e w' ⟨rfl, rfl⟩
    rw [Q1.out]
    cases q1
    · skip
      go_wp2
      go_returns
      exact ⟨ret_bool (by rw [HV.out]; simp), hB⟩
    · skip
      go_wp2_with fail
      refine (instsOk_spec x.insts _ _ _ _ k1 hb.1).mono ?_
      rintro e w1 ⟨rfl, hb1⟩
      have BX' := BX.keep hb1; have hB' := bthen hB hb1; have k1' := k1.keep insK hb1; have k2' := k2.keep leaK hb1
      clear hgl e0 e1 e2 e3
      clear BX hB k1 k2; have BX := BX'; have hB := hB'; have k1 := k1'; have k2 := k2'; clear BX' hB' k1' k2'
      have hgl := BX.lt
      have e0 := BX.cell 0 _ rfl
      have e1 := BX.cell 1 _ rfl
      have e2 := BX.cell 2 _ rfl
      have e3 := BX.cell 3 _ rfl
      rw [Q2.out]
      cases q2
      · skip
        go_wp2
        go_returns
        exact ⟨ret_bool (by rw [HV.out]; simp), hB⟩
      · skip
        by_cases h8 : 8 < n2
        · have HB := Lib.hid (show q3 = false by rw [← Q3.out]; have := HL2.out; simp only [decide_eq_false_iff_not]; omega)
          have gd : (8 : Int) < (n2 : Int) := by omega
          go_wp2
          go_returns
          exact ⟨ret_bool (by rw [HV.out, HB.out]; simp), hB⟩
        · have HB3 := Lib.hid (show q3 = true by rw [← Q3.out]; have := HL2.out; simp only [decide_eq_true_eq]; omega)
          have gd : ¬ (8 : Int) < (n2 : Int) := by omega
          go_wp2
          have hgd8 : n2 ≤ 8 := by omega
          clear gd h8
          obtain ⟨V, hV⟩ : ∃ V, V = w1 := ⟨_, rfl⟩
          subst hV
          go_loopw [3] (fun i wr => ∃ (k : Nat), k ≤ n1 ∧ i = .int .i64 k ∧ (∀ j : Nat, j < k → unkB x.me x.next (insAt x.insts j).id = false) ∧ Below V.heap.size V wr) (fun i _ => n1 - (intOf i).toNat)
          case atStart => exact ⟨0, Nat.zero_le _, rfl, fun j h => absurd h (by omega), Below.refl _ _⟩
          case round =>
            obtain ⟨k, hk, rfl, hcl, hbr⟩ := hrel
            have HCL := Lib.hid hcl; clear hcl
            have k1o := k1
            have BX' := BX.keep hbr; have hB' := bthen hB hbr; have k1' := k1.keep insK hbr; have k2' := k2.keep leaK hbr
            clear hgl e0 e1 e2 e3
            clear BX hB k1 k2; have BX := BX'; have hB := hB'; have k1 := k1'; have k2 := k2'; clear BX' hB' k1' k2'
            have hgl := BX.lt
            have e0 := BX.cell 0 _ rfl
            have e1 := BX.cell 1 _ rfl
            have e2 := BX.cell 2 _ rfl
            have e3 := BX.cell 3 _ rfl
            by_cases hlt : k < n1
            · skip
              obtain ⟨b, off, rfl⟩ := k1.head (by omega)
              obtain ⟨bl, y, cs, hy, ⟨I1, m1, d1, I2, m2, d2, rfl, _, _⟩, hcell⟩ := k1.elem_at hlt
              have HAX := Lib.hid (insAt_of hy)
              obtain ⟨p, hp⟩ : ∃ p, unkB x.me x.next y.id = p := ⟨_, rfl⟩
              have f0 : wr.cell? ⟨b, off + k * 16, none⟩ = some (.int .i64 y.id.r) := hcell 0 _ rfl
              have f1 : wr.cell? ⟨b, off + k * 16 + 1, none⟩ = some (.int .i64 y.id.s) := hcell 1 _ rfl
              clear hcell hy k1o
              obtain ⟨⟨r, s⟩, y1, y2, y3, y4, y5, y6, y7⟩ := y
              simp only at f0 f1 hp HAX
              by_cases h1 : r = x.me
              · have g1 : (r == x.me) = true := by simpa using h1
                by_cases h2 : x.next ≤ s
                · have P := Lib.hid (show unkB x.me x.next ⟨r, s⟩ = true by simp [unkB, h1, h2])
                  have gd : decide (s ≥ x.next) = true := by simpa using h2
                  clear h1 hp
                  have HB := Lib.hid (show q4 = false by rw [← Q4.out]; exact knB_no (x := x) (j := k) (by have := HL1.out; omega) (by rw [HAX.out]; exact P.out))
                  go_wp2
                  refine wp_region_grow (by kernel_rfl) (by kernel_rfl) ?_
                  repeat (first | go_big_quiet_step (fail))
                  refine wpQuiet_nil ?_
                  intro _ hw'
                  obtain ⟨⟨w4, hb4⟩, hw''⟩ := hw'
                  change _ = w4 at hw''
                  subst hw''
                  go_wp2
                  go_returns
                  exact ⟨ret_bool (by rw [HV.out, HB.out]; simp), bthen hB hb4⟩
                · have P := Lib.hid (show unkB x.me x.next ⟨r, s⟩ = false by simp [unkB, h2])
                  have gd : decide (s ≥ x.next) = false := by simpa using h2
                  clear h1 hp
                  go_wp2
                  refine wp_region_grow (by kernel_rfl) (by kernel_rfl) ?_
                  repeat (first | go_big_quiet_step (fail))
                  refine wpQuiet_nil ?_
                  intro _ hw'
                  obtain ⟨⟨w4, hb4⟩, hw''⟩ := hw'
                  change _ = w4 at hw''
                  subst hw''
                  go_wp2
                  refine ⟨⟨k + 1, by omega, by go_num, fun j hj => ?_, bthen hbr hb4⟩, by simp [intOf]; omega⟩
                  by_cases e : j = k
                  · subst e; rw [HAX.out]; exact P.out
                  · exact HCL.out j (by omega)
              · have g1 : (r == x.me) = false := by simpa using h1
                have P := Lib.hid (show unkB x.me x.next ⟨r, s⟩ = false by simp [unkB, h1])
                clear hp
                go_wp2
                refine wp_region_grow (by kernel_rfl) (by kernel_rfl) ?_
                repeat (first | go_big_quiet_step (fail))
                refine wpQuiet_nil ?_
                intro _ hw'
                obtain ⟨⟨w4, hb4⟩, hw''⟩ := hw'
                change _ = w4 at hw''
                subst hw''
                go_wp2
                refine ⟨⟨k + 1, by omega, by go_num, fun j hj => ?_, bthen hbr hb4⟩, by simp [intOf]; omega⟩
                by_cases e : j = k
                · subst e; rw [HAX.out]; exact P.out
                · exact HCL.out j (by omega)
            · have HB4 := Lib.hid (show q4 = true by rw [← Q4.out]; exact knB_yes (x := x) (fun j hj => HCL.out j (by have := HL1.out; omega)))
              clear HCL k1o hbr
              go_wp2
              obtain ⟨V2, hV⟩ : ∃ V, V = wr := ⟨_, rfl⟩
              subst hV
              go_loopw [4] (fun i wr => ∃ (k : Nat), k ≤ n2 ∧ i = .int .i64 k ∧ (∀ j : Nat, j < k → leaOkB (leaAt x.leads j) = true ∧ ledI x.leads 0 (leaAt x.leads j).id = (j : Int)) ∧ Below V2.heap.size V2 wr) (fun i _ => n2 - (intOf i).toNat)
              case atStart => exact ⟨0, Nat.zero_le _, rfl, fun j h => absurd h (by omega), Below.refl _ _⟩
              case round =>
                obtain ⟨k, hk, rfl, hcl, hbr⟩ := hrel
                have HCL := Lib.hid hcl; clear hcl
                have BX' := BX.keep hbr; have hB' := bthen hB hbr; have k1' := k1.keep insK hbr; have k2' := k2.keep leaK hbr
                clear hgl e0 e1 e2 e3
                clear BX hB k1 k2; have BX := BX'; have hB := hB'; have k1 := k1'; have k2 := k2'; clear BX' hB' k1' k2'
                have hgl := BX.lt
                have e0 := BX.cell 0 _ rfl
                have e1 := BX.cell 1 _ rfl
                have e2 := BX.cell 2 _ rfl
                have e3 := BX.cell 3 _ rfl
                by_cases hlt : k < n2
                · skip
                  have hAk := k2
                  obtain ⟨b, off, rfl⟩ := k2.head (by omega)
                  obtain ⟨bl, y, cs, hy, ⟨I1, m1, d1, I2, m2, d2, rfl, y1, y2⟩, hcell⟩ := k2.elem_at hlt
                  have HAX := Lib.hid (leaAt_of hy)
                  have hby := bounds_el hb.2.2 hy
                  have hcr : wr.rangeAt b (off + k * 8) [.int .i64 y.id.r, .int .i64 y.id.s, .int .i64 y.bal, .int .i64 y.ph, .int .i64 y.seq, .slice I1 m1 d1, .slice I2 m2 d2, .bool y.same] := fun j v hv => hcell j v hv
                  clear hcell hy hAk
                  obtain ⟨p, hp⟩ : ∃ p, leaOkB y = p := ⟨_, rfl⟩
                  have P := Lib.hid hp; clear hp
                  obtain ⟨t, ht⟩ : ∃ t, ledI x.leads 0 y.id = t := ⟨_, rfl⟩
                  have T := Lib.hid ht; clear ht
                  have f0 : wr.cell? ⟨b, off + k * 8, none⟩ = some (.int .i64 y.id.r) := hcr 0 _ rfl
                  have f1 : wr.cell? ⟨b, off + k * 8 + 1, none⟩ = some (.int .i64 y.id.s) := hcr 1 _ rfl
                  cases p
                  · have HB := Lib.hid (show q5 = false by rw [← Q5.out]; exact ldsB_no (l := x.leads) (j := k) (by have := HL2.out; omega) (.inl (by rw [HAX.out]; exact P.out)))
                    go_wp2
                    refine wp_region_grow (by kernel_rfl) (by kernel_rfl) ?_
                    repeat (first | ((with_reducible refine wpQuiet_load 170 (.tmp 66) (b) (off + k * 8) [.int .i64 y.id.r, .int .i64 y.id.s, .int .i64 y.bal, .int .i64 y.ph, .int .i64 y.seq, .slice I1 m1 d1, .slice I2 m2 d2, .bool y.same] _ bl hcr Try.underlying170 sizeLead0 ?_ ?_ ?_ ?_ ?_ ?_); (rfl); (rfl); (rfl); (rfl); (rfl); (simp only [Act.put, List.setIfInBounds_toArray, List.set_cons_succ, List.set_cons_zero])) | go_big_quiet_step (first | (go_at_call 137; exact grow_of (known P.out (leadOk_spec y _ _ _ _ _ _ _ (y1.keep iddK (Grow.below _)) (y2.keep (Grow.below _)) hby))) | (go_at_call 138; exact grow_of (toldI T.out (l9At_spec x.leads y.id x.me x.next _ _ _ _ _ _ _ (k2.keep leaK (Grow.below _)) hb.2)))))
                    refine wpQuiet_nil ?_
                    intro _ hw'
                    obtain ⟨⟨w4, hb4⟩, hw''⟩ := hw'
                    change _ = w4 at hw''
                    subst hw''
                    go_wp2
                    go_returns
                    exact ⟨ret_bool (by rw [HV.out, HB.out]; simp), bthen hB hb4⟩
                  · by_cases htk : t = (k : Int)
                    · have gd : (t != (k : Int)) = false := by simp [htk]
                      have HT := Lib.hid htk; clear htk
                      go_wp2
                      refine wp_region_grow (by kernel_rfl) (by kernel_rfl) ?_
                      repeat (first | ((with_reducible refine wpQuiet_load 170 (.tmp 66) (b) (off + k * 8) [.int .i64 y.id.r, .int .i64 y.id.s, .int .i64 y.bal, .int .i64 y.ph, .int .i64 y.seq, .slice I1 m1 d1, .slice I2 m2 d2, .bool y.same] _ bl hcr Try.underlying170 sizeLead0 ?_ ?_ ?_ ?_ ?_ ?_); (rfl); (rfl); (rfl); (rfl); (rfl); (simp only [Act.put, List.setIfInBounds_toArray, List.set_cons_succ, List.set_cons_zero])) | go_big_quiet_step (first | (go_at_call 137; exact grow_of (known P.out (leadOk_spec y _ _ _ _ _ _ _ (y1.keep iddK (Grow.below _)) (y2.keep (Grow.below _)) hby))) | (go_at_call 138; exact grow_of (toldI T.out (l9At_spec x.leads y.id x.me x.next _ _ _ _ _ _ _ (k2.keep leaK (Grow.below _)) hb.2)))))
                      refine wpQuiet_nil ?_
                      intro _ hw'
                      obtain ⟨⟨w4, hb4⟩, hw''⟩ := hw'
                      change _ = w4 at hw''
                      subst hw''
                      go_wp2
                      refine ⟨⟨k + 1, by omega, by go_num, fun j hj => ?_, bthen hbr hb4⟩, by simp [intOf]; omega⟩
                      by_cases e : j = k
                      · subst e; exact ⟨by rw [HAX.out]; exact P.out, by rw [HAX.out, T.out]; exact HT.out⟩
                      · exact HCL.out j (by omega)
                    · have HB := Lib.hid (show q5 = false by rw [← Q5.out]; exact ldsB_no (l := x.leads) (j := k) (by have := HL2.out; omega) (.inr (by rw [HAX.out, T.out]; exact htk)))
                      have gd : (t != (k : Int)) = true := by simpa using htk
                      go_wp2
                      refine wp_region_grow (by kernel_rfl) (by kernel_rfl) ?_
                      repeat (first | ((with_reducible refine wpQuiet_load 170 (.tmp 66) (b) (off + k * 8) [.int .i64 y.id.r, .int .i64 y.id.s, .int .i64 y.bal, .int .i64 y.ph, .int .i64 y.seq, .slice I1 m1 d1, .slice I2 m2 d2, .bool y.same] _ bl hcr Try.underlying170 sizeLead0 ?_ ?_ ?_ ?_ ?_ ?_); (rfl); (rfl); (rfl); (rfl); (rfl); (simp only [Act.put, List.setIfInBounds_toArray, List.set_cons_succ, List.set_cons_zero])) | go_big_quiet_step (first | (go_at_call 137; exact grow_of (known P.out (leadOk_spec y _ _ _ _ _ _ _ (y1.keep iddK (Grow.below _)) (y2.keep (Grow.below _)) hby))) | (go_at_call 138; exact grow_of (toldI T.out (l9At_spec x.leads y.id x.me x.next _ _ _ _ _ _ _ (k2.keep leaK (Grow.below _)) hb.2)))))
                      refine wpQuiet_nil ?_
                      intro _ hw'
                      obtain ⟨⟨w4, hb4⟩, hw''⟩ := hw'
                      change _ = w4 at hw''
                      subst hw''
                      go_wp2
                      go_returns
                      exact ⟨ret_bool (by rw [HV.out, HB.out]; simp), bthen hB hb4⟩
                · have HB5 := Lib.hid (show q5 = true by rw [← Q5.out]; exact ldsB_yes (l := x.leads) (fun j hj => HCL.out j (by have := HL2.out; omega)))
                  clear HCL
                  go_wp2
                  go_returns
                  exact ⟨ret_bool (by rw [HV.out, HB3.out, HB4.out, HB5.out]; rfl), hB⟩
end Go.Proofs.Ytdphdnllhmnelaa
/- Numbers of 32 bits: what Go's operations on int and uint32 answer, in Nat. -/
namespace Go.Proofs.Ytdphdnllhmnelaa

theorem ofInt_nat (k x : Nat) : BitVec.ofInt k (x : Int) = BitVec.ofNat k x := BitVec.ofInt_natCast ..
theorem i64_nat {x : Nat} (h : x < 9223372036854775808) : IntKind.i64.wrap (x : Int) = x := by rw [IntKind.wrap_i64]; omega
theorem u32_nat (x : Nat) : IntKind.u32.wrap (x : Int) = ((x % 4294967296 : Nat) : Int) := by simp [IntKind.wrap, IntKind.bits, IntKind.signed]
theorem or_lt {x y n : Nat} (hx : x < 2 ^ n) (hy : y < 2 ^ n) : x ||| y < 2 ^ n := Nat.or_lt_two_pow hx hy
theorem xor_lt {x y n : Nat} (hx : x < 2 ^ n) (hy : y < 2 ^ n) : x ^^^ y < 2 ^ n := Nat.xor_lt_two_pow hx hy
theorem and_lt {x n : Nat} (y : Nat) (hx : x < 2 ^ n) : x &&& y < 2 ^ n := Nat.lt_of_le_of_lt Nat.and_le_left hx

section
variable {x y : Nat}
theorem or_i64 (hx : x < 9223372036854775808) (hy : y < 9223372036854775808) : bits .or .i64 (x : Int) (y : Int) = ((x ||| y : Nat) : Int) := by
  have h := or_lt (n := 63) hx hy
  show IntKind.i64.wrap (((BitVec.ofInt 64 (x : Int) ||| BitVec.ofInt 64 (y : Int)).toNat : Nat) : Int) = _
  rw [ofInt_nat, ofInt_nat, BitVec.toNat_or, BitVec.toNat_ofNat, BitVec.toNat_ofNat, Nat.mod_eq_of_lt (by omega), Nat.mod_eq_of_lt (by omega), i64_nat h]
theorem xor_i64 (hx : x < 9223372036854775808) (hy : y < 9223372036854775808) : bits .xor .i64 (x : Int) (y : Int) = ((x ^^^ y : Nat) : Int) := by
  have h := xor_lt (n := 63) hx hy
  show IntKind.i64.wrap (((BitVec.ofInt 64 (x : Int) ^^^ BitVec.ofInt 64 (y : Int)).toNat : Nat) : Int) = _
  rw [ofInt_nat, ofInt_nat, BitVec.toNat_xor, BitVec.toNat_ofNat, BitVec.toNat_ofNat, Nat.mod_eq_of_lt (by omega), Nat.mod_eq_of_lt (by omega), i64_nat h]
theorem and_i64 (hx : x < 9223372036854775808) (hy : y < 9223372036854775808) : bits .and .i64 (x : Int) (y : Int) = ((x &&& y : Nat) : Int) := by
  have h := and_lt (n := 63) y hx
  show IntKind.i64.wrap (((BitVec.ofInt 64 (x : Int) &&& BitVec.ofInt 64 (y : Int)).toNat : Nat) : Int) = _
  rw [ofInt_nat, ofInt_nat, BitVec.toNat_and, BitVec.toNat_ofNat, BitVec.toNat_ofNat, Nat.mod_eq_of_lt (by omega), Nat.mod_eq_of_lt (by omega), i64_nat h]
theorem or_u32 (hx : x < 4294967296) (hy : y < 4294967296) : bits .or .u32 (x : Int) (y : Int) = ((x ||| y : Nat) : Int) := by
  have h := or_lt (n := 32) hx hy
  show IntKind.u32.wrap (((BitVec.ofInt 32 (x : Int) ||| BitVec.ofInt 32 (y : Int)).toNat : Nat) : Int) = _
  rw [ofInt_nat, ofInt_nat, BitVec.toNat_or, BitVec.toNat_ofNat, BitVec.toNat_ofNat, Nat.mod_eq_of_lt (by omega), Nat.mod_eq_of_lt (by omega), u32_nat, Nat.mod_eq_of_lt h]
theorem xor_u32 (hx : x < 4294967296) (hy : y < 4294967296) : bits .xor .u32 (x : Int) (y : Int) = ((x ^^^ y : Nat) : Int) := by
  have h := xor_lt (n := 32) hx hy
  show IntKind.u32.wrap (((BitVec.ofInt 32 (x : Int) ^^^ BitVec.ofInt 32 (y : Int)).toNat : Nat) : Int) = _
  rw [ofInt_nat, ofInt_nat, BitVec.toNat_xor, BitVec.toNat_ofNat, BitVec.toNat_ofNat, Nat.mod_eq_of_lt (by omega), Nat.mod_eq_of_lt (by omega), u32_nat, Nat.mod_eq_of_lt h]
theorem and_u32 (hx : x < 4294967296) (hy : y < 4294967296) : bits .and .u32 (x : Int) (y : Int) = ((x &&& y : Nat) : Int) := by
  have h := and_lt (n := 32) y hx
  show IntKind.u32.wrap (((BitVec.ofInt 32 (x : Int) &&& BitVec.ofInt 32 (y : Int)).toNat : Nat) : Int) = _
  rw [ofInt_nat, ofInt_nat, BitVec.toNat_and, BitVec.toNat_ofNat, BitVec.toNat_ofNat, Nat.mod_eq_of_lt (by omega), Nat.mod_eq_of_lt (by omega), u32_nat, Nat.mod_eq_of_lt h]
end
/-- x & (1<<32 - 1) -/
theorem and_mask (v : Int) : bits .and .i64 v 4294967295 = v % 4294967296 := by
  show IntKind.i64.wrap (((BitVec.ofInt 64 v &&& BitVec.ofInt 64 ((4294967295 : Nat) : Int)).toNat : Nat) : Int) = _
  rw [ofInt_nat, BitVec.toNat_and, BitVec.toNat_ofNat, show 4294967295 % 2 ^ 64 = 2 ^ 32 - 1 by decide, Nat.and_two_pow_sub_one_eq_mod, BitVec.toNat_ofInt, IntKind.wrap_i64]
  omega
theorem and_255 (v : Int) : bits .and .i64 v 255 = v % 256 := by
  show IntKind.i64.wrap (((BitVec.ofInt 64 v &&& BitVec.ofInt 64 ((255 : Nat) : Int)).toNat : Nat) : Int) = _
  rw [ofInt_nat, BitVec.toNat_and, BitVec.toNat_ofNat, show 255 % 2 ^ 64 = 2 ^ 8 - 1 by decide, Nat.and_two_pow_sub_one_eq_mod, BitVec.toNat_ofInt, IntKind.wrap_i64]
  omega

theorem not_i64 {x : Nat} (hx : x < 4294967296) : bits .xor .i64 (-1) (x : Int) = -(x : Int) - 1 := by
  show IntKind.i64.wrap (((BitVec.ofInt 64 (-1) ^^^ BitVec.ofInt 64 (x : Int)).toNat : Nat) : Int) = _
  rw [ofInt_nat, show BitVec.ofInt 64 (-1) = BitVec.allOnes 64 by decide, BitVec.allOnes_xor, BitVec.toNat_not, BitVec.toNat_ofNat, Nat.mod_eq_of_lt (by omega), IntKind.wrap_i64]
  omega
theorem not_u32 {x : Nat} (hx : x < 4294967296) : bits .xor .u32 4294967295 (x : Int) = ((4294967295 - x : Nat) : Int) := by
  show IntKind.u32.wrap (((BitVec.ofInt 32 4294967295 ^^^ BitVec.ofInt 32 (x : Int)).toNat : Nat) : Int) = _
  rw [ofInt_nat, show BitVec.ofInt 32 4294967295 = BitVec.allOnes 32 by decide, BitVec.allOnes_xor, BitVec.toNat_not, BitVec.toNat_ofNat, Nat.mod_eq_of_lt (by omega), u32_nat, Nat.mod_eq_of_lt (by omega)]
theorem unary_i64 {P : Program} (x : Int) (w : World) : (Op.unary .xor (.int .i64 x)).run P w = .ok (.int .i64 (bits .xor .i64 (-1) x)) w := by rfl
theorem unary_u32 {P : Program} (x : Int) (w : World) : (Op.unary .xor (.int .u32 x)).run P w = .ok (.int .u32 (bits .xor .u32 4294967295 x)) w := by rfl

/-! ### the words of SHA-256 -/
/-- to the right by n, round -/
def rr (x n : Nat) : Nat := (x / 2 ^ n ||| x * 2 ^ (32 - n)) % 4294967296
theorem rr_lt (x n : Nat) : rr x n < 4294967296 := Nat.mod_lt _ (by decide)
/-- the same, as to the left by 32 - n within 32 bits -/
theorem rr_left {x n : Nat} (hx : x < 4294967296) : x * 2 ^ (32 - n) % 4294967296 ||| x / 2 ^ n = rr x n := by
  have h : x / 2 ^ n < 2 ^ 32 := Nat.lt_of_le_of_lt (Nat.div_le_self _ _) hx
  unfold rr
  rw [show (4294967296 : Nat) = 2 ^ 32 by decide, Nat.or_mod_two_pow, Nat.mod_eq_of_lt h, Nat.or_comm]
def sg0 (x : Nat) : Nat := rr x 7 ^^^ rr x 18 ^^^ x / 8
def sg1 (x : Nat) : Nat := rr x 17 ^^^ rr x 19 ^^^ x / 1024
def bg1 (x : Nat) : Nat := rr x 6 ^^^ rr x 11 ^^^ rr x 25
def bg0 (x : Nat) : Nat := rr x 2 ^^^ rr x 13 ^^^ rr x 22
def chF (e f g : Nat) : Nat := (e &&& f) ^^^ ((4294967295 - e) &&& g)
def mjF (a b c : Nat) : Nat := (a &&& b) ^^^ (a &&& c) ^^^ (b &&& c)
theorem sg0_lt {x : Nat} (h : x < 4294967296) : sg0 x < 4294967296 := xor_lt (n := 32) (xor_lt (n := 32) (rr_lt _ _) (rr_lt _ _)) (show x / 8 < 2 ^ 32 by omega)
theorem sg1_lt {x : Nat} (h : x < 4294967296) : sg1 x < 4294967296 := xor_lt (n := 32) (xor_lt (n := 32) (rr_lt _ _) (rr_lt _ _)) (show x / 1024 < 2 ^ 32 by omega)
theorem bg0_lt (x : Nat) : bg0 x < 4294967296 := xor_lt (n := 32) (xor_lt (n := 32) (rr_lt _ _) (rr_lt _ _)) (rr_lt _ _)
theorem bg1_lt (x : Nat) : bg1 x < 4294967296 := xor_lt (n := 32) (xor_lt (n := 32) (rr_lt _ _) (rr_lt _ _)) (rr_lt _ _)
theorem chF_lt {e : Nat} (f g : Nat) (h : e < 4294967296) : chF e f g < 4294967296 := xor_lt (n := 32) (and_lt _ h) (and_lt _ (show 4294967295 - e < 2 ^ 32 by omega))
theorem mjF_lt {a b : Nat} (c : Nat) (ha : a < 4294967296) (hb : b < 4294967296) : mjF a b c < 4294967296 := xor_lt (n := 32) (xor_lt (n := 32) (and_lt _ ha) (and_lt _ ha)) (and_lt _ hb)
/-- the word of four bytes -/
def w4 (a b c d : Nat) : Nat := a * 16777216 ||| b * 65536 ||| c * 256 ||| d
theorem w4_lt {a b c d : Nat} (ha : a < 256) (hb : b < 256) (hc : c < 256) (hd : d < 256) : w4 a b c d < 4294967296 :=
  or_lt (n := 32) (or_lt (n := 32) (or_lt (n := 32) (show a * 16777216 < 2 ^ 32 by omega) (show b * 65536 < 2 ^ 32 by omega)) (show c * 256 < 2 ^ 32 by omega)) (show d < 2 ^ 32 by omega)
/-- the 64 words of a block whose first 16 are b -/
def wS (b : Nat → Nat) (t : Nat) : Nat := if t < 16 then b t else (wS b (t - 16) + sg0 (wS b (t - 15)) + wS b (t - 7) + sg1 (wS b (t - 2))) % 4294967296
termination_by t
decreasing_by all_goals omega
theorem wS_lo {b : Nat → Nat} {t : Nat} (h : t < 16) : wS b t = b t := by rw [wS, if_pos h]
theorem wS_hi {b : Nat → Nat} {t : Nat} (h : 16 ≤ t) : wS b t = (wS b (t - 16) + sg0 (wS b (t - 15)) + wS b (t - 7) + sg1 (wS b (t - 2))) % 4294967296 := by rw [wS, if_neg (by omega)]
theorem wS_lt {b : Nat → Nat} (hb : ∀ t, t < 16 → b t < 4294967296) (t : Nat) : wS b t < 4294967296 := by
  by_cases h : t < 16
  · rw [wS_lo h]; exact hb t h
  · rw [wS_hi (by omega)]; exact Nat.mod_lt _ (by decide)
/-- one round: the state behind it, place by place -/
def rT (k w : Nat) (v : Nat → Nat) : Nat := (v 7 + bg1 (v 4) + chF (v 4) (v 5) (v 6) + k + w) % 4294967296
def rU (v : Nat → Nat) : Nat := (bg0 (v 0) + mjF (v 0) (v 1) (v 2)) % 4294967296
def rnd (k w : Nat) (v : Nat → Nat) : Nat → Nat := fun j => if j = 0 then (rT k w v + rU v) % 4294967296 else if j = 4 then (v 3 + rT k w v) % 4294967296 else v (j - 1)
def rnds (K W : Nat → Nat) (h : Nat → Nat) : Nat → Nat → Nat
  | 0 => h
  | i + 1 => rnd (K i) (W i) (rnds K W h i)
theorem rnds_lt {K W h : Nat → Nat} (hh : ∀ j, j < 8 → h j < 4294967296) (i : Nat) : ∀ j, j < 8 → rnds K W h i j < 4294967296 := by
  induction i with
  | zero => exact hh
  | succ i ih =>
    intro j hj
    unfold rnds rnd
    split
    · exact Nat.mod_lt _ (by decide)
    · split
      · exact Nat.mod_lt _ (by decide)
      · exact ih (j - 1) (by omega)
def blk (K b h : Nat → Nat) : Nat → Nat := fun j => (h j + rnds K (wS b) h 64 j) % 4294967296
theorem blk_lt (K b h : Nat → Nat) (j : Nat) : blk K b h j < 4294967296 := Nat.mod_lt _ (by decide)
/-- the 64 keys, the first state -/
def kList : List Nat := [1116352408, 1899447441, 3049323471, 3921009573, 961987163, 1508970993, 2453635748, 2870763221, 3624381080, 310598401, 607225278, 1426881987, 1925078388, 2162078206, 2614888103, 3248222580, 3835390401, 4022224774, 264347078, 604807628, 770255983, 1249150122, 1555081692, 1996064986, 2554220882, 2821834349, 2952996808, 3210313671, 3336571891, 3584528711, 113926993, 338241895, 666307205, 773529912, 1294757372, 1396182291, 1695183700, 1986661051, 2177026350, 2456956037, 2730485921, 2820302411, 3259730800, 3345764771, 3516065817, 3600352804, 4094571909, 275423344, 430227734, 506948616, 659060556, 883997877, 958139571, 1322822218, 1537002063, 1747873779, 1955562222, 2024104815, 2227730452, 2361852424, 2428436474, 2756734187, 3204031479, 3329325298]
def kF (i : Nat) : Nat := kList.getD i 0
def hList : List Nat := [1779033703, 3144134277, 1013904242, 2773480762, 1359893119, 2600822924, 528734635, 1541459225]
def hF (i : Nat) : Nat := hList.getD i 0
theorem kF_lt (i : Nat) : kF i < 4294967296 := by
  have : ∀ x ∈ kList, x < 4294967296 := by decide
  unfold kF
  rw [List.getD_eq_getElem?_getD]
  cases h : kList[i]? with
  | none => decide
  | some x => exact this x (List.mem_of_getElem? h)
theorem hF_lt (i : Nat) : hF i < 4294967296 := by
  have : ∀ x ∈ hList, x < 4294967296 := by decide
  unfold hF
  rw [List.getD_eq_getElem?_getD]
  cases h : hList[i]? with
  | none => decide
  | some x => exact this x (List.mem_of_getElem? h)
/-- the words of a block's text -/
def bW (s : ByteArray) (t : Nat) : Nat := w4 (bAt s (4 * t)) (bAt s (4 * t + 1)) (bAt s (4 * t + 2)) (bAt s (4 * t + 3))
theorem w4_i64 {a b c d : Nat} (ha : a < 256) (hb : b < 256) (hc : c < 256) (hd : d < 256) :
    bits .or .i64 (bits .or .i64 (bits .or .i64 ((a : Int) * 16777216) ((b : Int) * 65536)) ((c : Int) * 256)) (d : Int) = ((w4 a b c d : Nat) : Int) := by
  have h1 := or_lt (n := 32) (show a * 16777216 < 2 ^ 32 by omega) (show b * 65536 < 2 ^ 32 by omega)
  have h2 := or_lt (n := 32) h1 (show c * 256 < 2 ^ 32 by omega)
  rw [show (a : Int) * 16777216 = ((a * 16777216 : Nat) : Int) by omega, show (b : Int) * 65536 = ((b * 65536 : Nat) : Int) by omega, show (c : Int) * 256 = ((c * 256 : Nat) : Int) by omega,
    or_i64 (by omega) (by omega), or_i64 (by omega) (by omega), or_i64 (by omega) (by omega)]
  rfl
theorem bW_lt (s : ByteArray) (t : Nat) : bW s t < 4294967296 := w4_lt (bAt_lt _ _) (bAt_lt _ _) (bAt_lt _ _) (bAt_lt _ _)
end Go.Proofs.Ytdphdnllhmnelaa
