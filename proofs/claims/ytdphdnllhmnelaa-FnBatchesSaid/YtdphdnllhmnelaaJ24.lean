/- Contracts and lemmas: CatOk. -/
import Derived.Test.YtdphdnllhmnelaaJ23
import Derived.Test.YtdphdnllhmnelaaJ18
import Derived.Test.YtdphdnllhmnelaaJ14
import Derived.Test.YtdphdnllhmnelaaJ0
/- Is a catalog right: both sides. -/
namespace Go.Proofs.Ytdphdnllhmnelaa
open Go.RowKit
attribute [local go_sem] Grow.cell Grow.frozen
def sLt (a b : ByteArray) : Bool := Op.bytesLess a.toList b.toList
def tagB (t : ByteArray) : Bool := decide (t = ByteArray.empty) || wordB t
def snpOkB (x : Snp) : Bool := wordB x.nm && tagB x.tg && inB (x.ch.length : Int) 1 4 && ok8 x.ch
def snpAtB (l : List Snp) (k : Nat) : Bool := snpOkB (snpAt l k) && (snpFnd l 0 (snpAt l k).nm == (k : Int))
def snpsOkB (l : List Snp) : Bool := (List.range l.length).all (fun k => snpAtB l k)
def cstOkB (x : Cst) : Bool := snpsOkB x.snaps && wordB x.nm && decide (x.snaps.length ≤ 5)
def cstAtB (l : List Cst) (k : Nat) : Bool := cstOkB (cstAt l k) && (k == 0 || sLt (cstAt l (k - 1)).nm (cstAt l k).nm)
/-- a right catalog -/
def catOkB (x : Ctl) : Bool := (List.range x.sets.length).all (fun k => cstAtB x.sets k) && decide (x.sets.length ≤ 5)
theorem snpsOk_yes {l : List Snp} (h : ∀ k, k < l.length → snpAtB l k = true) : snpsOkB l = true := all_yes h
theorem snpsOk_no {l : List Snp} {k : Nat} (hk : k < l.length) (h : snpAtB l k = false) : snpsOkB l = false := all_no hk h
theorem cat_yes {x : Ctl} (h : ∀ k, k < x.sets.length → cstAtB x.sets k = true) : catOkB x = decide (x.sets.length ≤ 5) := by unfold catOkB; rw [all_yes h, Bool.true_and]
theorem cat_no {x : Ctl} {k : Nat} (hk : k < x.sets.length) (h : cstAtB x.sets k = false) : catOkB x = false := by unfold catOkB; rw [all_no hk h, Bool.false_and]
attribute [local irreducible] StrsAt StrR RowR wordB ok8 inB snpFnd snpsOkB snpOkB cstOkB sLt
theorem StrR.at_r {w : World} {A : Option Addr} {n c : Nat} {l : List ByteArray} (h : StrR w A n c l) : StrsAt w A n l := by unfold StrR at h; exact h.1
theorem beqI_no {a b : Int} (h : a ≠ b) : (a == b) = false := beq_eq_false_iff_ne.2 h
set_option maxRecDepth 8000 in
set_option maxHeartbeats 4000000 in
theorem setOk_impl (x : Cst) (A : Option Addr) (n c : Nat) (w : World) (h : RowR snpR 3 w A n c x.snaps) (hb : cstB x) :
    Calls Try.prog 199 #[cstV x (.slice A n c)] w fun e w' => e = .returned (.bool (cstOkB x)) ∧ Below w.heap.size w w' := by
  have HL := Lib.hid h.len
  have hn : n ≤ 9223372036854775807 := by have := h.len; have := hb.2.1; omega
  have hnm := hb.1
  have al := (Below.refl w.heap.size w).alloc (Nat.le_refl _) (.cells #[.string x.nm, .slice A n c] 148)
  have BX := BoxL.new w [.string x.nm, .slice A n c] 148
  unfold cstV
  go_enter Try.func199, Try.ntmps199
  go_wp2_with fail
  obtain ⟨W, hW⟩ : ∃ W, W = w.alloc (.cells #[.string x.nm, .slice A n c] 148) := ⟨_, rfl⟩
  obtain ⟨g, hg⟩ : ∃ g, w.heap.size = g := ⟨_, rfl⟩
  have HG := Lib.hid hg
  rw [← hW] at BX al ⊢
  simp only [hg] at BX ⊢
  clear hW hg
  go_loopw [8] (fun i wr => ∃ (k : Nat), k ≤ n ∧ i = .int .i64 k ∧ (∀ j : Nat, j < k → snpAtB x.snaps j = true) ∧ Below W.heap.size W wr) (fun i _ => n - (intOf i).toNat)
  case atStart => exact ⟨0, Nat.zero_le _, rfl, fun j h => absurd h (by omega), Below.refl _ _⟩
  case round =>
    obtain ⟨k, hk, rfl, hcl, hbr⟩ := hrel
    have HCL := Lib.hid hcl; clear hcl
    have BR := BX.keep hbr
    have e0 := BR.cell 0 _ rfl
    have e1 := BR.cell 1 _ rfl
    have hgl := BR.lt
    have hB := bthen al hbr
    by_cases hlt : k < n
    · have k1 := h.keep snpK hB
      obtain ⟨b, off, rfl⟩ := k1.head (by omega)
      obtain ⟨bl, y, cs, hy, ⟨B1, m1, d1, rfl, y1⟩, hcell⟩ := k1.elem_at hlt
      have hby := bounds_el hb.2.2 hy
      have f0 : wr.cell? ⟨b, off + k * 3, none⟩ = some (.string y.nm) := hcell 0 _ rfl
      have f1 : wr.cell? ⟨b, off + k * 3 + 1, none⟩ = some (.string y.tg) := hcell 1 _ rfl
      have f2 : wr.cell? ⟨b, off + k * 3 + 2, none⟩ = some (.slice B1 m1 d1) := hcell 2 _ rfl
      have HAX := Lib.hid (snpAt_of hy)
      have HM := Lib.hid y1.len
      have hm1 : m1 ≤ 9223372036854775807 := by have := y1.len; have := hby.2.2.1; omega
      clear hcell hy
      obtain ⟨q0, hq0⟩ : ∃ q, wordB y.nm = q := ⟨_, rfl⟩
      obtain ⟨qt, hqt⟩ : ∃ q, wordB y.tg = q := ⟨_, rfl⟩
      obtain ⟨q2, hq2⟩ : ∃ q, inB (m1 : Int) 1 4 = q := ⟨_, rfl⟩
      obtain ⟨q3, hq3⟩ : ∃ q, ok8 y.ch = q := ⟨_, rfl⟩
      obtain ⟨t, ht⟩ : ∃ t, snpFnd x.snaps 0 y.nm = t := ⟨_, rfl⟩
      have HV := Lib.hid (show snpAtB x.snaps k = (q0 && (decide (y.tg = ByteArray.empty) || qt) && q2 && q3 && (t == (k : Int))) by
        unfold snpAtB; rw [HAX.out, ht]; unfold snpOkB tagB; rw [hq0, hqt, ← HM.out, hq2, hq3])
      have Q0 := Lib.hid hq0; have QT := Lib.hid hqt; have Q2 := Lib.hid hq2; have Q3 := Lib.hid hq3; have T := Lib.hid ht
      clear hq0 hqt hq2 hq3 ht
      have aly := (Below.refl wr.heap.size wr).alloc (Nat.le_refl _) (.cells #[.string y.nm, .string y.tg, .slice B1 m1 d1] 150)
      have BY := BoxL.new wr [.string y.nm, .string y.tg, .slice B1 m1 d1] 150
      go_wp2_with fail
      refine (isWord_impl _ _ hby.1).mono ?_
      rintro e w' ⟨rfl, rfl⟩
      rw [Q0.out]
      obtain ⟨V, hV⟩ : ∃ V, V = wr.alloc (.cells #[.string y.nm, .string y.tg, .slice B1 m1 d1] 150) := ⟨_, rfl⟩
      obtain ⟨gy, hgy⟩ : ∃ g, wr.heap.size = g := ⟨_, rfl⟩
      rw [← hV] at BY aly ⊢
      simp only [hgy] at BY ⊢
      clear hV hgy
      have z0 := BY.cell 0 _ rfl; have z1 := BY.cell 1 _ rfl; have z2 := BY.cell 2 _ rfl; have zl := BY.lt
      have BR2 := BR.keep aly
      clear e0 e1 hgl f0 f1 f2
      have e0 := BR2.cell 0 _ rfl
      have e1 := BR2.cell 1 _ rfl
      have hgl := BR2.lt
      have hB2 := bthen hB aly
      have hbr2 := bthen hbr aly
      have y2 := y1.keep aly
      have k2 := h.keep snpK hB2
      clear k1 y1
      cases q0
      · skip
        have HB := Lib.hid (show cstOkB x = false by unfold cstOkB; rw [snpsOk_no (l := x.snaps) (k := k) (by have := HL.out; omega) (by rw [HV.out]; simp)]; rfl)
        go_wp2
        go_returns
        exact ⟨ret_bool HB.out.symm, hB2⟩
      · skip
        have hte := isEmpty_str y.tg
        have HT : Hid (y.tg = ByteArray.empty ∨ qt = true) ∨ Hid (y.tg ≠ ByteArray.empty ∧ qt = false) := by
          by_cases h0 : y.tg = ByteArray.empty
          · exact .inl (Lib.hid (.inl h0))
          · cases qt
            · exact .inr (Lib.hid ⟨h0, rfl⟩)
            · exact .inl (Lib.hid (.inr rfl))
        rcases HT with HTT | HTN
        · by_cases h0 : y.tg = ByteArray.empty
          · rw [decide_eq_true h0] at hte
            clear h0
            go_wp2_with fail
            refine (within_any _ _ _ _).mono ?_
            rintro e w' ⟨rfl, rfl⟩
            rw [Q2.out]
            cases q2
            · skip
              have HB := Lib.hid (show cstOkB x = false by unfold cstOkB; rw [snpsOk_no (l := x.snaps) (k := k) (by have := HL.out; omega) (by rw [HV.out]; simp)]; rfl)
              go_wp2
              go_returns
              exact ⟨ret_bool HB.out.symm, hB2⟩
            · skip
              go_wp2_with fail
              refine (areChunks_ok _ _ _ y.ch _ y2.at_r hm1).mono ?_
              rintro e w' ⟨rfl, rfl⟩
              rw [Q3.out]
              cases q3
              · skip
                have HB := Lib.hid (show cstOkB x = false by unfold cstOkB; rw [snpsOk_no (l := x.snaps) (k := k) (by have := HL.out; omega) (by rw [HV.out]; simp)]; rfl)
                go_wp2
                go_returns
                exact ⟨ret_bool HB.out.symm, hB2⟩
              · skip
                go_wp2_with fail
                refine (snpFnd_impl x y.nm _ _ _ _ k2 hn).mono ?_
                rintro e w6 ⟨rfl, hb6⟩
                rw [T.out]
                have hB6 := bthen hB2 hb6
                by_cases htk : t = (k : Int)
                · have gd : (t != (k : Int)) = false := by simp [htk]
                  have HK := Lib.hid (show snpAtB x.snaps k = true by rw [HV.out, htk]; rcases HTT.out with h0 | h0 <;> simp [h0])
                  clear htk
                  go_wp2
                  exact ⟨⟨k + 1, by omega, by go_num, upto_succ HCL.out HK.out, bthen hbr2 hb6⟩, by simp [intOf]; omega⟩
                · have gd : (t != (k : Int)) = true := by simpa using htk
                  have HB := Lib.hid (show cstOkB x = false by unfold cstOkB; rw [snpsOk_no (l := x.snaps) (k := k) (by have := HL.out; omega) (by rw [HV.out, beqI_no htk]; simp)]; rfl)
                  clear htk
                  go_wp2
                  go_returns
                  exact ⟨ret_bool HB.out.symm, hB6⟩
          · have hqt : qt = true := by rcases HTT.out with h | h
                                       · exact absurd h h0
                                       · exact h
            subst hqt
            rw [decide_eq_false h0] at hte
            clear h0
            go_wp2_with fail
            refine (isWord_impl _ _ hby.2.1).mono ?_
            rintro e w' ⟨rfl, rfl⟩
            rw [QT.out]
            go_wp2_with fail
            refine (within_any _ _ _ _).mono ?_
            rintro e w' ⟨rfl, rfl⟩
            rw [Q2.out]
            cases q2
            · skip
              have HB := Lib.hid (show cstOkB x = false by unfold cstOkB; rw [snpsOk_no (l := x.snaps) (k := k) (by have := HL.out; omega) (by rw [HV.out]; simp)]; rfl)
              go_wp2
              go_returns
              exact ⟨ret_bool HB.out.symm, hB2⟩
            · skip
              go_wp2_with fail
              refine (areChunks_ok _ _ _ y.ch _ y2.at_r hm1).mono ?_
              rintro e w' ⟨rfl, rfl⟩
              rw [Q3.out]
              cases q3
              · skip
                have HB := Lib.hid (show cstOkB x = false by unfold cstOkB; rw [snpsOk_no (l := x.snaps) (k := k) (by have := HL.out; omega) (by rw [HV.out]; simp)]; rfl)
                go_wp2
                go_returns
                exact ⟨ret_bool HB.out.symm, hB2⟩
              · skip
                go_wp2_with fail
                refine (snpFnd_impl x y.nm _ _ _ _ k2 hn).mono ?_
                rintro e w6 ⟨rfl, hb6⟩
                rw [T.out]
                have hB6 := bthen hB2 hb6
                by_cases htk : t = (k : Int)
                · have gd : (t != (k : Int)) = false := by simp [htk]
                  have HK := Lib.hid (show snpAtB x.snaps k = true by rw [HV.out, htk]; rcases HTT.out with h0 | h0 <;> simp [h0])
                  clear htk
                  go_wp2
                  exact ⟨⟨k + 1, by omega, by go_num, upto_succ HCL.out HK.out, bthen hbr2 hb6⟩, by simp [intOf]; omega⟩
                · have gd : (t != (k : Int)) = true := by simpa using htk
                  have HB := Lib.hid (show cstOkB x = false by unfold cstOkB; rw [snpsOk_no (l := x.snaps) (k := k) (by have := HL.out; omega) (by rw [HV.out, beqI_no htk]; simp)]; rfl)
                  clear htk
                  go_wp2
                  go_returns
                  exact ⟨ret_bool HB.out.symm, hB6⟩
        · obtain ⟨h0, hqt⟩ := HTN.out
          subst hqt
          have H0 := Lib.hid h0
          rw [decide_eq_false h0] at hte
          clear h0
          go_wp2_with fail
          refine (isWord_impl _ _ hby.2.1).mono ?_
          rintro e w' ⟨rfl, rfl⟩
          rw [QT.out]
          have HB := Lib.hid (show cstOkB x = false by unfold cstOkB; rw [snpsOk_no (l := x.snaps) (k := k) (by have := HL.out; omega) (by rw [HV.out]; simp [H0.out])]; rfl)
          go_wp2
          go_returns
          exact ⟨ret_bool HB.out.symm, hB2⟩
    · have HY := Lib.hid (snpsOk_yes (l := x.snaps) (fun j hj => HCL.out j (by have := HL.out; omega)))
      obtain ⟨q0, hq0⟩ : ∃ q, wordB x.nm = q := ⟨_, rfl⟩
      have HV := Lib.hid (show cstOkB x = (q0 && decide (n ≤ 5)) by unfold cstOkB; rw [HY.out, hq0, ← HL.out]; simp)
      have Q0 := Lib.hid hq0; clear hq0 HCL
      go_wp2_with fail
      refine (isWord_impl _ _ hnm).mono ?_
      rintro e w' ⟨rfl, rfl⟩
      rw [Q0.out]
      cases q0
      · go_wp2
        go_returns
        exact ⟨ret_bool (by rw [HV.out]; rfl), hB⟩
      · by_cases h5 : n ≤ 5
        · have gd : decide ((n : Int) ≤ 5) = true := decide_eq_true (by omega)
          have H5 := Lib.hid h5; clear h5
          go_wp2
          go_returns
          exact ⟨ret_bool (by rw [HV.out]; simp [H5.out]), hB⟩
        · have gd : decide ((n : Int) ≤ 5) = false := decide_eq_false (by omega)
          have H5 := Lib.hid h5; clear h5
          go_wp2
          go_returns
          exact ⟨ret_bool (by rw [HV.out]; simp [H5.out]), hB⟩
theorem toldN {P : Program} {f : FuncId} {args : Array Value} {w : World} {T : World → Prop} {x y : Int} (hx : x = y) (h : Calls P f args w fun e w' => e = .returned (.int .i64 x) ∧ T w') : Calls P f args w fun e w' => e = .returned (.int .i64 y) ∧ T w' := by
  subst hx; exact h
set_option maxRecDepth 8000 in
theorem l15Snap_any (x : Snp) (A : Option Addr) (n c : Nat) (w : World) (h : StrR w A n c x.ch) (hb : snpB x) :
    Calls Try.prog 178 #[snpV x (.slice A n c)] w fun e w' => e = .returned (.bool (snpOkB x)) ∧ Below w.heap.size w w' := by
  have HL := Lib.hid h.len
  have hn : n ≤ 9223372036854775807 := by have := h.len; have := hb.2.2.1; omega
  have hnm := hb.1
  have htg := hb.2.1
  obtain ⟨q0, hq0⟩ : ∃ q, wordB x.nm = q := ⟨_, rfl⟩
  obtain ⟨qt, hqt⟩ : ∃ q, wordB x.tg = q := ⟨_, rfl⟩
  obtain ⟨q2, hq2⟩ : ∃ q, inB (n : Int) 1 4 = q := ⟨_, rfl⟩
  obtain ⟨q3, hq3⟩ : ∃ q, ok8 x.ch = q := ⟨_, rfl⟩
  have HV := Lib.hid (show snpOkB x = (q0 && (decide (x.tg = ByteArray.empty) || qt) && q2 && q3) by unfold snpOkB tagB; rw [hq0, hqt, ← HL.out, hq2, hq3])
  have Q0 := Lib.hid hq0; have QT := Lib.hid hqt; have Q2 := Lib.hid hq2; have Q3 := Lib.hid hq3
  clear hq0 hqt hq2 hq3
  have al := (Below.refl w.heap.size w).alloc (Nat.le_refl _) (.cells #[.string x.nm, .string x.tg, .slice A n c] 150)
  have BX := BoxL.new w [.string x.nm, .string x.tg, .slice A n c] 150
  have hte := isEmpty_str x.tg
  unfold snpV
  go_enter Try.func178, Try.ntmps178
  go_wp2_with fail
  refine (l4Word_spec _ _ hnm).mono ?_
  rintro e w' ⟨rfl, rfl⟩
  rw [Q0.out]
  obtain ⟨W, hW⟩ : ∃ W, W = w.alloc (.cells #[.string x.nm, .string x.tg, .slice A n c] 150) := ⟨_, rfl⟩
  obtain ⟨g, hg⟩ : ∃ g, w.heap.size = g := ⟨_, rfl⟩
  have HG := Lib.hid hg
  rw [← hW] at BX al ⊢
  simp only [hg] at BX ⊢
  clear hW hg
  have e0 := BX.cell 0 _ rfl; have e1 := BX.cell 1 _ rfl; have e2 := BX.cell 2 _ rfl; have hgl := BX.lt
  have h2 := h.keep al
  cases q0
  · skip
    go_wp2
    go_returns
    exact ⟨ret_bool (by rw [HV.out]; simp), al⟩
  · skip
    have HT : Hid (x.tg = ByteArray.empty ∨ qt = true) ∨ Hid (x.tg ≠ ByteArray.empty ∧ qt = false) := by
      by_cases h0 : x.tg = ByteArray.empty
      · exact .inl (Lib.hid (.inl h0))
      · cases qt
        · exact .inr (Lib.hid ⟨h0, rfl⟩)
        · exact .inl (Lib.hid (.inr rfl))
    rcases HT with HTT | HTN
    · by_cases h0 : x.tg = ByteArray.empty
      · rw [decide_eq_true h0] at hte
        clear h0
        go_wp2_with fail
        refine (l1In_any _ _ _ _).mono ?_
        rintro e w' ⟨rfl, rfl⟩
        rw [Q2.out]
        cases q2
        · skip
          go_wp2
          go_returns
          exact ⟨ret_bool (by rw [HV.out]; simp), al⟩
        · skip
          go_wp2
          go_loop [3] (fun i => ∃ k : Nat, k ≤ n ∧ i = .int .i64 k ∧ ∀ j, j < k → (sAt x.ch j).size = 8) (fun i => n - (intOf i).toNat)
          case atStart => exact ⟨0, Nat.zero_le _, rfl, fun j hj => absurd hj (by omega)⟩
          case round =>
            obtain ⟨k, hk, rfl, hx⟩ := hrel
            have HX := Lib.hid hx; clear hx
            by_cases hlt : k < n
            · obtain ⟨b, off, rfl, hbl, hc⟩ := h2.at_r.at_ (by omega)
              have hck := hc k hlt
              clear hc
              by_cases h8 : (sAt x.ch k).size = 8
              · have g1 : ((((sAt x.ch k).size : Nat) : Int) != 8) = false := by simp [h8]
                have H8 := Lib.hid h8; clear h8
                go_wp2
                refine ⟨⟨k + 1, by omega, by go_num, fun j hj => ?_⟩, by simp [intOf]; omega⟩
                by_cases e : j = k
                · subst e; exact H8.out
                · exact HX.out j (by omega)
              · have g1 : ((((sAt x.ch k).size : Nat) : Int) != 8) = true := by simp; omega
                have HB := Lib.hid (show q3 = false by rw [← Q3.out]; exact ok8_no (by have := HL.out; omega) h8)
                clear h8
                go_wp2
                go_returns
                exact ⟨ret_bool (by rw [HV.out, HB.out]; simp), al⟩
            · have HB := Lib.hid (show q3 = true by rw [← Q3.out]; exact ok8_yes (fun j hj => HX.out j (by have := HL.out; omega)))
              go_wp2
              go_returns
              exact ⟨ret_bool (by rw [HV.out, HB.out]; rcases HTT.out with h0 | h0 <;> simp [h0]), al⟩
      · have hqt : qt = true := by
          rcases HTT.out with h | h
          · exact absurd h h0
          · exact h
        subst hqt
        rw [decide_eq_false h0] at hte
        clear h0
        go_wp2_with fail
        refine (l4Word_spec _ _ htg).mono ?_
        rintro e w' ⟨rfl, rfl⟩
        rw [QT.out]
        go_wp2_with fail
        refine (l1In_any _ _ _ _).mono ?_
        rintro e w' ⟨rfl, rfl⟩
        rw [Q2.out]
        cases q2
        · skip
          go_wp2
          go_returns
          exact ⟨ret_bool (by rw [HV.out]; simp), al⟩
        · skip
          go_wp2
          go_loop [3] (fun i => ∃ k : Nat, k ≤ n ∧ i = .int .i64 k ∧ ∀ j, j < k → (sAt x.ch j).size = 8) (fun i => n - (intOf i).toNat)
          case atStart => exact ⟨0, Nat.zero_le _, rfl, fun j hj => absurd hj (by omega)⟩
          case round =>
            obtain ⟨k, hk, rfl, hx⟩ := hrel
            have HX := Lib.hid hx; clear hx
            by_cases hlt : k < n
            · obtain ⟨b, off, rfl, hbl, hc⟩ := h2.at_r.at_ (by omega)
              have hck := hc k hlt
              clear hc
              by_cases h8 : (sAt x.ch k).size = 8
              · have g1 : ((((sAt x.ch k).size : Nat) : Int) != 8) = false := by simp [h8]
                have H8 := Lib.hid h8; clear h8
                go_wp2
                refine ⟨⟨k + 1, by omega, by go_num, fun j hj => ?_⟩, by simp [intOf]; omega⟩
                by_cases e : j = k
                · subst e; exact H8.out
                · exact HX.out j (by omega)
              · have g1 : ((((sAt x.ch k).size : Nat) : Int) != 8) = true := by simp; omega
                have HB := Lib.hid (show q3 = false by rw [← Q3.out]; exact ok8_no (by have := HL.out; omega) h8)
                clear h8
                go_wp2
                go_returns
                exact ⟨ret_bool (by rw [HV.out, HB.out]; simp), al⟩
            · have HB := Lib.hid (show q3 = true by rw [← Q3.out]; exact ok8_yes (fun j hj => HX.out j (by have := HL.out; omega)))
              go_wp2
              go_returns
              exact ⟨ret_bool (by rw [HV.out, HB.out]; rcases HTT.out with h0 | h0 <;> simp [h0]), al⟩
    · obtain ⟨h0, hqt⟩ := HTN.out
      subst hqt
      have H0 := Lib.hid h0
      rw [decide_eq_false h0] at hte
      clear h0
      go_wp2_with fail
      refine (l4Word_spec _ _ htg).mono ?_
      rintro e w' ⟨rfl, rfl⟩
      rw [QT.out]
      go_wp2
      go_returns
      exact ⟨ret_bool (by rw [HV.out]; simp [H0.out]), al⟩
theorem Below.nam {B : Nat} {w w' : World} (_ : Below B w w') : ∃ V, V = w' := ⟨_, rfl⟩
attribute [local irreducible] cstAtB catOkB snpAtB
set_option maxRecDepth 8000 in
set_option maxHeartbeats 4000000 in
theorem catOk_impl (x : Ctl) (A : Option Addr) (n c : Nat) (w : World) (h : RowR cstR 2 w A n c x.sets) (hb : ctlB x) :
    Calls Try.prog 185 #[ctlV x (.slice A n c)] w fun e w' => e = .returned (.bool (catOkB x)) ∧ Below w.heap.size w w' := by
  have HL := Lib.hid h.len
  have hn : n ≤ 9223372036854775807 := by have := h.len; have := hb.1; omega
  have al := (Below.refl w.heap.size w).alloc (Nat.le_refl _) (.cells #[.slice A n c] 84)
  have BX := BoxL.new w [.slice A n c] 84
  unfold ctlV
  go_enter Try.func185, Try.ntmps185
  go_wp2_with fail
  obtain ⟨W, hW⟩ : ∃ W, W = w.alloc (.cells #[.slice A n c] 84) := ⟨_, rfl⟩
  obtain ⟨g, hg⟩ : ∃ g, w.heap.size = g := ⟨_, rfl⟩
  have HG := Lib.hid hg
  rw [← hW] at BX al ⊢
  simp only [hg] at BX ⊢
  clear hW hg
  go_loopw [8] (fun i wr => ∃ (k : Nat), k ≤ n ∧ i = .int .i64 k ∧ (∀ j : Nat, j < k → cstAtB x.sets j = true) ∧ Below W.heap.size W wr) (fun i _ => n - (intOf i).toNat)
  case atStart => exact ⟨0, Nat.zero_le _, rfl, fun j h => absurd h (by omega), Below.refl _ _⟩
  case round =>
    obtain ⟨k, hk, rfl, hcl, hbr⟩ := hrel
    have HCL := Lib.hid hcl; clear hcl
    have BR := BX.keep hbr
    have e0 := BR.cell 0 _ rfl
    have hgl := BR.lt
    have hB := bthen al hbr
    by_cases hlt : k < n
    · have k1 := h.keep cstK hB
      obtain ⟨b, off, rfl⟩ := k1.head (by omega)
      obtain ⟨bl, y, cs, hy, ⟨B1, m1, d1, rfl, y1⟩, hcell⟩ := k1.elem_at hlt
      have hby := bounds_el hb.2 hy
      have f0 : wr.cell? ⟨b, off + k * 2, none⟩ = some (.string y.nm) := hcell 0 _ rfl
      have f1 : wr.cell? ⟨b, off + k * 2 + 1, none⟩ = some (.slice B1 m1 d1) := hcell 1 _ rfl
      have HAX := Lib.hid (cstAt_of hy)
      have HM := Lib.hid y1.len
      have hm1 : m1 ≤ 9223372036854775807 := by have := y1.len; have := hby.2.1; omega
      clear hcell hy
      have aly := (Below.refl wr.heap.size wr).alloc (Nat.le_refl _) (.cells #[.string y.nm, .slice B1 m1 d1] 148)
      have BY := BoxL.new wr [.string y.nm, .slice B1 m1 d1] 148
      go_wp2_with fail
      obtain ⟨V, hV⟩ : ∃ V, V = wr.alloc (.cells #[.string y.nm, .slice B1 m1 d1] 148) := ⟨_, rfl⟩
      obtain ⟨gy, hgy⟩ : ∃ g, wr.heap.size = g := ⟨_, rfl⟩
      rw [← hV] at BY aly ⊢
      simp only [hgy] at BY ⊢
      have HGY := Lib.hid hgy
      clear hV hgy
      have z0 := BY.cell 0 _ rfl; have z1 := BY.cell 1 _ rfl; have zl := BY.lt
      have BR2 := BR.keep aly
      have f0' := keep_cell aly f0; have f1' := keep_cell aly f1
      clear e0 hgl f0 f1
      have e0 := BR2.cell 0 _ rfl
      have hgl := BR2.lt
      have hbl := cell_lt f0'
      have hB2 := bthen hB aly
      have hbr2 := bthen hbr aly
      have y2 := y1.keep snpK aly
      have k2 := h.keep cstK hB2
      clear y1
      have HV := Lib.hid (show cstAtB x.sets k = (cstOkB y && (k == 0 || sLt (cstAt x.sets (k - 1)).nm y.nm)) by unfold cstAtB; rw [HAX.out])
      obtain ⟨q0, hq0⟩ : ∃ q, cstOkB y = q := ⟨_, rfl⟩
      have Q0 := Lib.hid hq0; clear hq0
      rw [Q0.out] at HV
      cases q0
      · skip
        have HB := Lib.hid (cat_no (x := x) (k := k) (by have := HL.out; omega) (by rw [HV.out]; simp))
        refine wp_region_grow (by kernel_rfl) (by kernel_rfl) ?_
        repeat (first | go_big_quiet_step ((go_at_call 199; exact grow_of (known Q0.out (setOk_impl y _ _ _ _ (y2.keep snpK (Grow.below _)) hby)))))
        refine wpQuiet_nil ?_
        intro _ hw'
        obtain ⟨⟨w4, hb4⟩, hw''⟩ := hw'
        change _ = w4 at hw''
        subst hw''
        go_wp2
        go_returns
        exact ⟨ret_bool HB.out.symm, bthen hB2 hb4⟩
      · by_cases hk0 : k = 0
        · have HK := Lib.hid (show cstAtB x.sets k = true by rw [HV.out, hk0]; rfl)
          have gd0 : decide ((k : Int) > 0) = false := by rw [decide_eq_false_iff_not]; omega
          have gd00 : decide (0 < k) = false := by rw [decide_eq_false_iff_not]; omega
          have gd000 : ¬ 0 < k := by omega
          clear hk0
          refine wp_region_grow (by kernel_rfl) (by kernel_rfl) ?_
          repeat (first | go_big_quiet_step ((go_at_call 199; exact grow_of (known Q0.out (setOk_impl y _ _ _ _ (y2.keep snpK (Grow.below _)) hby)))))
          refine wpQuiet_nil ?_
          intro _ hw'
          obtain ⟨⟨w4, hb4⟩, hw''⟩ := hw'
          change _ = w4 at hw''
          subst hw''
          go_wp2
          exact ⟨⟨k + 1, by omega, by go_num, upto_succ HCL.out HK.out, bthen hbr2 hb4⟩, by simp [intOf]; omega⟩
        · skip
          obtain ⟨k', rfl⟩ : ∃ k', k = k' + 1 := ⟨k - 1, by omega⟩
          clear hk0
          obtain ⟨_, u, cs', hu, ⟨U1, um, ud, rfl, _⟩, hcellu⟩ := k2.elem_at (i := k') (by omega)
          have u0 : V.cell? ⟨b, off + k' * 2, none⟩ = some (.string u.nm) := hcellu 0 _ rfl
          have HAU := Lib.hid (cstAt_of hu)
          clear hcellu hu
          have gd0 : decide (((k' + 1 : Nat) : Int) > 0) = true := by rw [decide_eq_true_eq]; omega
          have gd1 : (((k' + 1 : Nat) : Int)) - 1 = (k' : Int) := by omega
          obtain ⟨q, hq⟩ : ∃ q, Op.bytesLess u.nm.toList y.nm.toList = q := ⟨_, rfl⟩
          have HV2 := Lib.hid (show cstAtB x.sets (k' + 1) = (cstOkB y && q) by rw [HV.out, Nat.add_sub_cancel, HAU.out]; unfold sLt; rw [hq]; (try rw [Q0.out]); simp)
          rw [Q0.out] at HV2
          cases q
          · have HB := Lib.hid (cat_no (x := x) (k := k' + 1) (by have := HL.out; omega) (by rw [HV2.out]; rfl))
            refine wp_region_grow (by kernel_rfl) (by kernel_rfl) ?_
            repeat (first | go_big_quiet_step ((go_at_call 199; exact grow_of (known Q0.out (setOk_impl y _ _ _ _ (y2.keep snpK (Grow.below _)) hby)))))
            refine wpQuiet_nil ?_
            intro _ hw'
            obtain ⟨⟨w4, hb4⟩, hw''⟩ := hw'
            change _ = w4 at hw''
            subst hw''
            go_wp2
            go_returns
            exact ⟨ret_bool HB.out.symm, bthen hB2 hb4⟩
          · refine wp_region_grow (by kernel_rfl) (by kernel_rfl) ?_
            repeat (first | go_big_quiet_step ((go_at_call 199; exact grow_of (known Q0.out (setOk_impl y _ _ _ _ (y2.keep snpK (Grow.below _)) hby)))))
            refine wpQuiet_nil ?_
            intro _ hw'
            obtain ⟨⟨w4, hb4⟩, hw''⟩ := hw'
            change _ = w4 at hw''
            subst hw''
            go_wp2
            exact ⟨⟨k' + 1 + 1, by omega, by go_num, upto_succ HCL.out HV2.out, bthen hbr2 hb4⟩, by simp [intOf]; omega⟩
    · have HK := Lib.hid (cat_yes (x := x) (fun j hj => HCL.out j (by have := HL.out; omega)))
      by_cases h5 : n ≤ 5
      · have gd : decide ((n : Int) ≤ 5) = true := decide_eq_true (by omega)
        have H5 := Lib.hid h5; clear h5
        go_wp2
        go_returns
        exact ⟨ret_bool (by rw [HK.out, ← HL.out]; simp [H5.out]), hB⟩
      · have gd : decide ((n : Int) ≤ 5) = false := decide_eq_false (by omega)
        have H5 := Lib.hid h5; clear h5
        go_wp2
        go_returns
        exact ⟨ret_bool (by rw [HK.out, ← HL.out]; simp [H5.out]), hB⟩
set_option maxRecDepth 8000 in
set_option maxHeartbeats 4000000 in
theorem catOk_spec (x : Ctl) (A : Option Addr) (n c : Nat) (w : World) (h : RowR cstR 2 w A n c x.sets) (hb : ctlB x) :
    Calls Try.prog 156 #[ctlV x (.slice A n c)] w fun e w' => e = .returned (.bool (catOkB x)) ∧ Below w.heap.size w w' := by
  have HL := Lib.hid h.len
  have hn : n ≤ 9223372036854775807 := by have := h.len; have := hb.1; omega
  have al := (Below.refl w.heap.size w).alloc (Nat.le_refl _) (.cells #[.slice A n c] 84)
  have BX := BoxL.new w [.slice A n c] 84
  unfold ctlV
  by_cases h5 : n ≤ 5
  rotate_left
  · have HB := Lib.hid (show catOkB x = false by unfold catOkB; rw [show decide (x.sets.length ≤ 5) = false from decide_eq_false (by have := HL.out; omega)]; simp)
    have gd : (5 : Int) < (n : Int) := by omega
    go_enter Try.func156, Try.ntmps156
    go_wp2
    go_returns
    exact ⟨ret_bool HB.out.symm, al⟩
  have gd : ¬ (5 : Int) < (n : Int) := by omega
  go_enter Try.func156, Try.ntmps156
  go_wp2_with fail
  obtain ⟨W, hW⟩ : ∃ W, W = w.alloc (.cells #[.slice A n c] 84) := ⟨_, rfl⟩
  obtain ⟨g, hg⟩ : ∃ g, w.heap.size = g := ⟨_, rfl⟩
  have HG := Lib.hid hg
  rw [← hW] at BX al ⊢
  simp only [hg] at BX ⊢
  clear hW hg
  go_loopw [3] (fun i wr => ∃ (k : Nat), k ≤ n ∧ i = .int .i64 k ∧ (∀ j : Nat, j < k → cstAtB x.sets j = true) ∧ Below W.heap.size W wr) (fun i _ => n - (intOf i).toNat)
  case atStart => exact ⟨0, Nat.zero_le _, rfl, fun j h => absurd h (by omega), Below.refl _ _⟩
  case round =>
    obtain ⟨k, hk, rfl, hcl, hbr⟩ := hrel
    have HCL := Lib.hid hcl; clear hcl
    have BR := BX.keep hbr
    have e0 := BR.cell 0 _ rfl
    have hgl := BR.lt
    have hB := bthen al hbr
    by_cases hlt : k < n
    · have k1 := h.keep cstK hB
      obtain ⟨b, off, rfl⟩ := k1.head (by omega)
      obtain ⟨bl, y, cs, hy, ⟨B1, m1, d1, rfl, y1⟩, hcell⟩ := k1.elem_at hlt
      have hby := bounds_el hb.2 hy
      have f0 : wr.cell? ⟨b, off + k * 2, none⟩ = some (.string y.nm) := hcell 0 _ rfl
      have f1 : wr.cell? ⟨b, off + k * 2 + 1, none⟩ = some (.slice B1 m1 d1) := hcell 1 _ rfl
      have HAX := Lib.hid (cstAt_of hy)
      have HM := Lib.hid y1.len
      have hm1 : m1 ≤ 9223372036854775807 := by have := y1.len; have := hby.2.1; omega
      clear hcell hy
      have aly := (Below.refl wr.heap.size wr).alloc (Nat.le_refl _) (.cells #[.string y.nm, .slice B1 m1 d1] 148)
      have BY := BoxL.new wr [.string y.nm, .slice B1 m1 d1] 148
      go_wp2_with fail
      obtain ⟨V, hV⟩ : ∃ V, V = wr.alloc (.cells #[.string y.nm, .slice B1 m1 d1] 148) := ⟨_, rfl⟩
      obtain ⟨gy, hgy⟩ : ∃ g, wr.heap.size = g := ⟨_, rfl⟩
      rw [← hV] at BY aly ⊢
      simp only [hgy] at BY ⊢
      have HGY := Lib.hid hgy
      clear hV hgy
      have z0 := BY.cell 0 _ rfl; have z1 := BY.cell 1 _ rfl; have zl := BY.lt
      have BR2 := BR.keep aly
      have f0' := keep_cell aly f0; have f1' := keep_cell aly f1
      clear e0 hgl f0 f1
      have e0 := BR2.cell 0 _ rfl
      have hgl := BR2.lt
      have hbl := cell_lt f0'
      have hB2 := bthen hB aly
      have hbr2 := bthen hbr aly
      have y2 := y1.keep snpK aly
      have k2 := h.keep cstK hB2
      clear y1
      have HV := Lib.hid (show cstAtB x.sets k = (cstOkB y && (k == 0 || sLt (cstAt x.sets (k - 1)).nm y.nm)) by unfold cstAtB; rw [HAX.out])
      obtain ⟨q0, hq0⟩ : ∃ q, wordB y.nm = q := ⟨_, rfl⟩
      obtain ⟨q1, hq1⟩ : ∃ q, snpsOkB y.snaps = q := ⟨_, rfl⟩
      have HC := Lib.hid (show cstOkB y = (q1 && q0 && decide (m1 ≤ 5)) by unfold cstOkB; rw [hq0, hq1, ← HM.out])
      have Q0 := Lib.hid hq0; have Q1 := Lib.hid hq1; clear hq0 hq1
      cases q0
      · have HB := Lib.hid (cat_no (x := x) (k := k) (by have := HL.out; omega) (by rw [HV.out, HC.out]; simp))
        refine wp_region_grow (by kernel_rfl) (by kernel_rfl) ?_
        repeat (first | go_big_quiet_step ((go_at_call 177; exact grow_same (known Q0.out (l4Word_spec _ _ hby.1)))))
        refine wpQuiet_nil ?_
        intro _ hw'
        obtain ⟨⟨w4, hb4⟩, hw''⟩ := hw'
        change _ = w4 at hw''
        subst hw''
        go_wp2
        go_returns
        exact ⟨ret_bool HB.out.symm, bthen hB2 hb4⟩
      · skip
        by_cases hk0 : k = 0
        · have HK0 := Lib.hid hk0
          have gd0 : decide ((k : Int) > 0) = false := by rw [decide_eq_false_iff_not]; omega
          have gd00 : decide (0 < k) = false := by rw [decide_eq_false_iff_not]; omega
          have gd000 : ¬ 0 < k := by omega
          clear hk0
          by_cases hm5 : m1 ≤ 5
          rotate_left
          · have HB := Lib.hid (cat_no (x := x) (k := k) (by have := HL.out; omega) (by rw [HV.out, HC.out]; simp [hm5]))
            have gm : decide ((m1 : Int) > 5) = true := decide_eq_true (by omega)
            clear hm5
            refine wp_region_grow (by kernel_rfl) (by kernel_rfl) ?_
            repeat (first | go_big_quiet_step ((go_at_call 177; exact grow_same (known Q0.out (l4Word_spec _ _ hby.1)))))
            refine wpQuiet_nil ?_
            intro _ hw'
            obtain ⟨⟨w4, hb4⟩, hw''⟩ := hw'
            change _ = w4 at hw''
            subst hw''
            go_wp2
            go_returns
            exact ⟨ret_bool HB.out.symm, bthen hB2 hb4⟩
          have HM5 := Lib.hid hm5
          have gm : decide ((m1 : Int) > 5) = false := decide_eq_false (by omega)
          refine wp_region_grow (by kernel_rfl) (by kernel_rfl) ?_
          repeat (first | go_big_quiet_step ((go_at_call 177; exact grow_same (known Q0.out (l4Word_spec _ _ hby.1)))))
          refine wpQuiet_nil ?_
          intro _ hw'
          obtain ⟨⟨w4, hb4⟩, hw''⟩ := hw'
          change _ = w4 at hw''
          subst hw''
          have BR4 := BR2.keep hb4; have BY4 := BY.keep hb4
          have hB4 := bthen hB2 hb4; have hbr4 := bthen hbr2 hb4; have y4 := y2.keep snpK hb4
          clear z0 z1 zl e0 hgl f0' f1' hbl gm
          go_wp2
          obtain ⟨U, hU⟩ := Below.nam hb4; subst hU
          go_loopw [5] (fun i wq => ∃ (j : Nat), j ≤ m1 ∧ i = .int .i64 j ∧ (∀ t : Nat, t < j → snpAtB y.snaps t = true) ∧ Below U.heap.size U wq) (fun i _ => m1 - (intOf i).toNat)
          case atStart => exact ⟨0, Nat.zero_le _, rfl, fun j h => absurd h (by omega), Below.refl _ _⟩
          case round =>
            obtain ⟨j, hj, rfl, hcj, hbq⟩ := hrel
            have HCJ := Lib.hid hcj; clear hcj
            have BRq := BR4.keep hbq; have BYq := BY4.keep hbq
            have e0 := BRq.cell 0 _ rfl; have hgl := BRq.lt
            have z0 := BYq.cell 0 _ rfl; have z1 := BYq.cell 1 _ rfl; have zl := BYq.lt
            have hBq := bthen hB4 hbq; have hbrq := bthen hbr4 hbq; have yq := y4.keep snpK hbq
            by_cases hltj : j < m1
            · obtain ⟨sb, so, rfl⟩ := yq.head (by omega)
              obtain ⟨sl, v, cs2, hv, ⟨V1, vm, vd, rfl, v1⟩, hcellv⟩ := yq.elem_at hltj
              have hbv := bounds_el hby.2.2 hv
              have s0 : _root_.Go.World.cell? _ ⟨sb, so + j * 3, none⟩ = some (.string v.nm) := hcellv 0 _ rfl
              have s1 : _root_.Go.World.cell? _ ⟨sb, so + j * 3 + 1, none⟩ = some (.string v.tg) := hcellv 1 _ rfl
              have s2 : _root_.Go.World.cell? _ ⟨sb, so + j * 3 + 2, none⟩ = some (.slice V1 vm vd) := hcellv 2 _ rfl
              have HSV := Lib.hid (snpAt_of hv)
              clear hcellv hv
              obtain ⟨p, hp⟩ : ∃ p, snpOkB v = p := ⟨_, rfl⟩
              obtain ⟨t, ht⟩ : ∃ t, snpFnd y.snaps 0 v.nm = t := ⟨_, rfl⟩
              have HW := Lib.hid (show snpAtB y.snaps j = (p && (t == (j : Int))) by unfold snpAtB; rw [HSV.out, ht, hp])
              have P := Lib.hid hp; have T := Lib.hid ht; clear hp ht
              cases p
              · have HB := Lib.hid (cat_no (x := x) (k := k) (by have := HL.out; omega) (by rw [HV.out, HC.out, show q1 = false by rw [← Q1.out]; exact snpsOk_no (l := y.snaps) (k := j) (by have := HM.out; omega) (by rw [HW.out]; rfl)]; rfl))
                go_wp2
                refine wp_region_grow (by kernel_rfl) (by kernel_rfl) ?_
                repeat (first | go_big_quiet_step (first | (go_at_call 178; exact grow_of (known P.out (l15Snap_any v _ _ _ _ (v1.keep (Grow.below _)) hbv))) | (go_at_call 179; exact grow_of (toldN T.out (snpFnd_spec y v.nm _ _ _ _ (yq.keep snpK (Grow.below _)) hm1)))))
                refine wpQuiet_nil ?_
                intro _ hw'
                obtain ⟨⟨w5, hb5⟩, hw''⟩ := hw'
                change _ = w5 at hw''
                subst hw''
                go_wp2
                go_returns
                exact ⟨ret_bool HB.out.symm, bthen hBq hb5⟩
              · by_cases htk : t = (j : Int)
                · have gd2 : (t != (j : Int)) = false := by simp [htk]
                  have HK := Lib.hid (show snpAtB y.snaps j = true by rw [HW.out, htk]; simp)
                  clear htk
                  go_wp2
                  refine wp_region_grow (by kernel_rfl) (by kernel_rfl) ?_
                  repeat (first | go_big_quiet_step (first | (go_at_call 178; exact grow_of (known P.out (l15Snap_any v _ _ _ _ (v1.keep (Grow.below _)) hbv))) | (go_at_call 179; exact grow_of (toldN T.out (snpFnd_spec y v.nm _ _ _ _ (yq.keep snpK (Grow.below _)) hm1)))))
                  refine wpQuiet_nil ?_
                  intro _ hw'
                  obtain ⟨⟨w5, hb5⟩, hw''⟩ := hw'
                  change _ = w5 at hw''
                  subst hw''
                  go_wp2
                  exact ⟨⟨j + 1, by omega, by go_num, upto_succ HCJ.out HK.out, bthen hbq hb5⟩, by simp [intOf]; omega⟩
                · have gd2 : (t != (j : Int)) = true := by simpa using htk
                  have HB := Lib.hid (cat_no (x := x) (k := k) (by have := HL.out; omega) (by rw [HV.out, HC.out, show q1 = false by rw [← Q1.out]; exact snpsOk_no (l := y.snaps) (k := j) (by have := HM.out; omega) (by rw [HW.out, beqI_no htk]; rfl)]; rfl))
                  clear htk
                  go_wp2
                  refine wp_region_grow (by kernel_rfl) (by kernel_rfl) ?_
                  repeat (first | go_big_quiet_step (first | (go_at_call 178; exact grow_of (known P.out (l15Snap_any v _ _ _ _ (v1.keep (Grow.below _)) hbv))) | (go_at_call 179; exact grow_of (toldN T.out (snpFnd_spec y v.nm _ _ _ _ (yq.keep snpK (Grow.below _)) hm1)))))
                  refine wpQuiet_nil ?_
                  intro _ hw'
                  obtain ⟨⟨w5, hb5⟩, hw''⟩ := hw'
                  change _ = w5 at hw''
                  subst hw''
                  go_wp2
                  go_returns
                  exact ⟨ret_bool HB.out.symm, bthen hBq hb5⟩
            · have HQ := Lib.hid (show q1 = true by rw [← Q1.out]; exact snpsOk_yes (l := y.snaps) (fun i hi => HCJ.out i (by have := HM.out; omega)))
              have HK := Lib.hid (show cstAtB x.sets (k) = true by rw [HV.out, HC.out, HQ.out]; simp [HM5.out, HK0.out])
              go_wp2
              exact ⟨⟨k + 1, by omega, by go_num, upto_succ HCL.out HK.out, hbrq⟩, by simp [intOf]; omega⟩
        · skip
          obtain ⟨k', rfl⟩ : ∃ k', k = k' + 1 := ⟨k - 1, by omega⟩
          clear hk0
          obtain ⟨_, u, cs', hu, ⟨U1, um, ud, rfl, _⟩, hcellu⟩ := k2.elem_at (i := k') (by omega)
          have u0 : V.cell? ⟨b, off + k' * 2, none⟩ = some (.string u.nm) := hcellu 0 _ rfl
          have HAU := Lib.hid (cstAt_of hu)
          clear hcellu hu
          have gd0 : decide (((k' + 1 : Nat) : Int) > 0) = true := by rw [decide_eq_true_eq]; omega
          have gd1 : (((k' + 1 : Nat) : Int)) - 1 = (k' : Int) := by omega
          obtain ⟨q, hq⟩ : ∃ q, Op.bytesLess u.nm.toList y.nm.toList = q := ⟨_, rfl⟩
          have HV2 := Lib.hid (show cstAtB x.sets (k' + 1) = (cstOkB y && q) by rw [HV.out, Nat.add_sub_cancel, HAU.out]; unfold sLt; rw [hq]; (try rw [Q0.out]); simp)
          cases q
          · have HB := Lib.hid (cat_no (x := x) (k := k' + 1) (by have := HL.out; omega) (by rw [HV2.out]; simp))
            refine wp_region_grow (by kernel_rfl) (by kernel_rfl) ?_
            repeat (first | go_big_quiet_step ((go_at_call 177; exact grow_same (known Q0.out (l4Word_spec _ _ hby.1)))))
            refine wpQuiet_nil ?_
            intro _ hw'
            obtain ⟨⟨w4, hb4⟩, hw''⟩ := hw'
            change _ = w4 at hw''
            subst hw''
            go_wp2
            go_returns
            exact ⟨ret_bool HB.out.symm, bthen hB2 hb4⟩
          · skip
            by_cases hm5 : m1 ≤ 5
            rotate_left
            · have HB := Lib.hid (cat_no (x := x) (k := k' + 1) (by have := HL.out; omega) (by rw [HV2.out, HC.out]; simp [hm5]))
              have gm : decide ((m1 : Int) > 5) = true := decide_eq_true (by omega)
              clear hm5
              refine wp_region_grow (by kernel_rfl) (by kernel_rfl) ?_
              repeat (first | go_big_quiet_step ((go_at_call 177; exact grow_same (known Q0.out (l4Word_spec _ _ hby.1)))))
              refine wpQuiet_nil ?_
              intro _ hw'
              obtain ⟨⟨w4, hb4⟩, hw''⟩ := hw'
              change _ = w4 at hw''
              subst hw''
              go_wp2
              go_returns
              exact ⟨ret_bool HB.out.symm, bthen hB2 hb4⟩
            have HM5 := Lib.hid hm5
            have gm : decide ((m1 : Int) > 5) = false := decide_eq_false (by omega)
            refine wp_region_grow (by kernel_rfl) (by kernel_rfl) ?_
            repeat (first | go_big_quiet_step ((go_at_call 177; exact grow_same (known Q0.out (l4Word_spec _ _ hby.1)))))
            refine wpQuiet_nil ?_
            intro _ hw'
            obtain ⟨⟨w4, hb4⟩, hw''⟩ := hw'
            change _ = w4 at hw''
            subst hw''
            have BR4 := BR2.keep hb4; have BY4 := BY.keep hb4
            have hB4 := bthen hB2 hb4; have hbr4 := bthen hbr2 hb4; have y4 := y2.keep snpK hb4
            clear z0 z1 zl e0 hgl f0' f1' hbl gm
            go_wp2
            obtain ⟨U, hU⟩ := Below.nam hb4; subst hU
            go_loopw [5] (fun i wq => ∃ (j : Nat), j ≤ m1 ∧ i = .int .i64 j ∧ (∀ t : Nat, t < j → snpAtB y.snaps t = true) ∧ Below U.heap.size U wq) (fun i _ => m1 - (intOf i).toNat)
            case atStart => exact ⟨0, Nat.zero_le _, rfl, fun j h => absurd h (by omega), Below.refl _ _⟩
            case round =>
              obtain ⟨j, hj, rfl, hcj, hbq⟩ := hrel
              have HCJ := Lib.hid hcj; clear hcj
              have BRq := BR4.keep hbq; have BYq := BY4.keep hbq
              have e0 := BRq.cell 0 _ rfl; have hgl := BRq.lt
              have z0 := BYq.cell 0 _ rfl; have z1 := BYq.cell 1 _ rfl; have zl := BYq.lt
              have hBq := bthen hB4 hbq; have hbrq := bthen hbr4 hbq; have yq := y4.keep snpK hbq
              by_cases hltj : j < m1
              · obtain ⟨sb, so, rfl⟩ := yq.head (by omega)
                obtain ⟨sl, v, cs2, hv, ⟨V1, vm, vd, rfl, v1⟩, hcellv⟩ := yq.elem_at hltj
                have hbv := bounds_el hby.2.2 hv
                have s0 : _root_.Go.World.cell? _ ⟨sb, so + j * 3, none⟩ = some (.string v.nm) := hcellv 0 _ rfl
                have s1 : _root_.Go.World.cell? _ ⟨sb, so + j * 3 + 1, none⟩ = some (.string v.tg) := hcellv 1 _ rfl
                have s2 : _root_.Go.World.cell? _ ⟨sb, so + j * 3 + 2, none⟩ = some (.slice V1 vm vd) := hcellv 2 _ rfl
                have HSV := Lib.hid (snpAt_of hv)
                clear hcellv hv
                obtain ⟨p, hp⟩ : ∃ p, snpOkB v = p := ⟨_, rfl⟩
                obtain ⟨t, ht⟩ : ∃ t, snpFnd y.snaps 0 v.nm = t := ⟨_, rfl⟩
                have HW := Lib.hid (show snpAtB y.snaps j = (p && (t == (j : Int))) by unfold snpAtB; rw [HSV.out, ht, hp])
                have P := Lib.hid hp; have T := Lib.hid ht; clear hp ht
                cases p
                · have HB := Lib.hid (cat_no (x := x) (k := k' + 1) (by have := HL.out; omega) (by rw [HV2.out, HC.out, show q1 = false by rw [← Q1.out]; exact snpsOk_no (l := y.snaps) (k := j) (by have := HM.out; omega) (by rw [HW.out]; rfl)]; rfl))
                  go_wp2
                  refine wp_region_grow (by kernel_rfl) (by kernel_rfl) ?_
                  repeat (first | go_big_quiet_step (first | (go_at_call 178; exact grow_of (known P.out (l15Snap_any v _ _ _ _ (v1.keep (Grow.below _)) hbv))) | (go_at_call 179; exact grow_of (toldN T.out (snpFnd_spec y v.nm _ _ _ _ (yq.keep snpK (Grow.below _)) hm1)))))
                  refine wpQuiet_nil ?_
                  intro _ hw'
                  obtain ⟨⟨w5, hb5⟩, hw''⟩ := hw'
                  change _ = w5 at hw''
                  subst hw''
                  go_wp2
                  go_returns
                  exact ⟨ret_bool HB.out.symm, bthen hBq hb5⟩
                · by_cases htk : t = (j : Int)
                  · have gd2 : (t != (j : Int)) = false := by simp [htk]
                    have HK := Lib.hid (show snpAtB y.snaps j = true by rw [HW.out, htk]; simp)
                    clear htk
                    go_wp2
                    refine wp_region_grow (by kernel_rfl) (by kernel_rfl) ?_
                    repeat (first | go_big_quiet_step (first | (go_at_call 178; exact grow_of (known P.out (l15Snap_any v _ _ _ _ (v1.keep (Grow.below _)) hbv))) | (go_at_call 179; exact grow_of (toldN T.out (snpFnd_spec y v.nm _ _ _ _ (yq.keep snpK (Grow.below _)) hm1)))))
                    refine wpQuiet_nil ?_
                    intro _ hw'
                    obtain ⟨⟨w5, hb5⟩, hw''⟩ := hw'
                    change _ = w5 at hw''
                    subst hw''
                    go_wp2
                    exact ⟨⟨j + 1, by omega, by go_num, upto_succ HCJ.out HK.out, bthen hbq hb5⟩, by simp [intOf]; omega⟩
                  · have gd2 : (t != (j : Int)) = true := by simpa using htk
                    have HB := Lib.hid (cat_no (x := x) (k := k' + 1) (by have := HL.out; omega) (by rw [HV2.out, HC.out, show q1 = false by rw [← Q1.out]; exact snpsOk_no (l := y.snaps) (k := j) (by have := HM.out; omega) (by rw [HW.out, beqI_no htk]; rfl)]; rfl))
                    clear htk
                    go_wp2
                    refine wp_region_grow (by kernel_rfl) (by kernel_rfl) ?_
                    repeat (first | go_big_quiet_step (first | (go_at_call 178; exact grow_of (known P.out (l15Snap_any v _ _ _ _ (v1.keep (Grow.below _)) hbv))) | (go_at_call 179; exact grow_of (toldN T.out (snpFnd_spec y v.nm _ _ _ _ (yq.keep snpK (Grow.below _)) hm1)))))
                    refine wpQuiet_nil ?_
                    intro _ hw'
                    obtain ⟨⟨w5, hb5⟩, hw''⟩ := hw'
                    change _ = w5 at hw''
                    subst hw''
                    go_wp2
                    go_returns
                    exact ⟨ret_bool HB.out.symm, bthen hBq hb5⟩
              · have HQ := Lib.hid (show q1 = true by rw [← Q1.out]; exact snpsOk_yes (l := y.snaps) (fun i hi => HCJ.out i (by have := HM.out; omega)))
                have HK := Lib.hid (show cstAtB x.sets (k' + 1) = true by rw [HV2.out, HC.out, HQ.out]; simp [HM5.out])
                go_wp2
                exact ⟨⟨k' + 1 + 1, by omega, by go_num, upto_succ HCL.out HK.out, hbrq⟩, by simp [intOf]; omega⟩
    · have HK := Lib.hid (cat_yes (x := x) (fun j hj => HCL.out j (by have := HL.out; omega)))
      have H5 := Lib.hid h5
      go_wp2
      go_returns
      exact ⟨ret_bool (by rw [HK.out, ← HL.out]; simp [H5.out]), hB⟩
end Go.Proofs.Ytdphdnllhmnelaa
