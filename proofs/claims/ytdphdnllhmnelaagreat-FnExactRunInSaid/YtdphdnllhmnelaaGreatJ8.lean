/- Contracts and lemmas: CmdOkI, SetRow. -/
import Derived.Test.YtdphdnllhmnelaaGreatJ4
import Derived.Test.YtdphdnllhmnelaaGreatJ7
/- Contract of the program's CmdOk. -/
namespace Go.Proofs.YtdphdnllhmnelaaGreat
open Go.RowKit
attribute [local irreducible] StrsAt wifB ok8 inB
set_option maxRecDepth 8000 in
set_option maxHeartbeats 4000000 in
theorem cmdOk_impl (x : Cm) (A1 : Option Addr) (n1 c1 : Nat) (w : World) (h1 : StrR w A1 n1 c1 x.ch) (hb : cmB x) :
    Calls Tryz.prog 91 #[cmV x (.slice A1 n1 c1)] w fun e w' => e = .returned (.bool (cmOkB x)) ∧ Below w.heap.size w w' := by
  obtain ⟨bd0, bd1, bd2, bd3⟩ := hb
  have HN := Lib.hid h1.len
  have hn1 : n1 ≤ 9223372036854775807 := by have := h1.len; have := bd3.1; omega
  by_cases hk0 : x.kd = 0
  · have HS := Lib.hid (show cmOkB x = sameB x cmNil by unfold cmOkB; rw [if_pos hk0])
    have HK := Lib.hid hk0
    have hd : (x.kd == 0) = true := by simpa using hk0
    clear hk0
    unfold cmV
    go_enter Tryz.func91, Tryz.ntmps91
    go_wp2_with fail
    refine (sameCmd_impl x cmNil _ _ _ _ _ _ _ (h1.keep (by go_grown)) (cmNil_R _) hn1 (by omega)).mono ?_
    rintro e w2 ⟨rfl, hb2⟩
    go_wp2
    go_returns
    exact ⟨ret_bool (by rw [HS.out]), bthen (by go_grown) hb2⟩
  · have HO := Lib.hid (show cmOkB x = (inB x.kd 1 7 && inB x.cl 1 9 && inB x.no 1 1000 && wifB x.s (decide (x.kd ≠ 7)) && wifB x.nm (decide (x.kd = 3) || decide (x.kd = 4)) && wifB x.tg (decide (x.kd = 4)) && (decide (x.n = 0) || (decide (x.kd = 5) && inB x.n 0 9)) && (if x.kd = 3 then inB (x.ch.length : Int) 1 4 && ok8 x.ch else decide (x.ch.length = 0))) by unfold cmOkB; rw [if_neg hk0])
    by_cases hkr : 1 ≤ x.kd ∧ x.kd ≤ 7
    · have hkc : x.kd = 1 ∨ x.kd = 2 ∨ x.kd = 3 ∨ x.kd = 4 ∨ x.kd = 5 ∨ x.kd = 6 ∨ x.kd = 7 := by omega
      clear hk0 hkr
      unfold cmV
      obtain ⟨kd, cl, no, s, nm, tg, n, ch⟩ := x
      simp only at *
      rcases hkc with rfl | rfl | rfl | rfl | rfl | rfl | rfl
      · simp only [show inB (1 : Int) 1 7 = true from inB_yes (by omega) (by omega), Bool.true_and] at HO
        obtain ⟨qa2, ha2⟩ : ∃ q, inB cl 1 9 = q := ⟨_, rfl⟩
        have a2 := Lib.hid ha2; clear ha2
        cases qa2
        · skip
          go_enter Tryz.func91, Tryz.ntmps91
          go_wp2_with fail
          refine (told (show inB (1 : Int) 1 7 = true from inB_yes (by omega) (by omega)) (within_any _ _ _ _)).mono ?_
          rintro e w1 ⟨rfl, rfl⟩
          go_wp2_with fail
          refine (told a2.out (within_any _ _ _ _)).mono ?_
          rintro e w1 ⟨rfl, rfl⟩
          go_wp2
          go_returns
          exact ⟨ret_bool (by rw [HO.out]; simp [a2.out]), by go_grown⟩
        · skip
          obtain ⟨qa3, ha3⟩ : ∃ q, inB no 1 1000 = q := ⟨_, rfl⟩
          have a3 := Lib.hid ha3; clear ha3
          cases qa3
          · skip
            go_enter Tryz.func91, Tryz.ntmps91
            go_wp2_with fail
            refine (told (show inB (1 : Int) 1 7 = true from inB_yes (by omega) (by omega)) (within_any _ _ _ _)).mono ?_
            rintro e w1 ⟨rfl, rfl⟩
            go_wp2_with fail
            refine (told a2.out (within_any _ _ _ _)).mono ?_
            rintro e w1 ⟨rfl, rfl⟩
            go_wp2_with fail
            refine (told a3.out (within_any _ _ _ _)).mono ?_
            rintro e w1 ⟨rfl, rfl⟩
            go_wp2
            go_returns
            exact ⟨ret_bool (by rw [HO.out]; simp [a2.out, a3.out]), by go_grown⟩
          · skip
            obtain ⟨qb1, hb1⟩ : ∃ q, wifB s true = q := ⟨_, rfl⟩
            have b1 := Lib.hid hb1; clear hb1
            cases qb1
            · skip
              go_enter Tryz.func91, Tryz.ntmps91
              go_wp2_with fail
              refine (told (show inB (1 : Int) 1 7 = true from inB_yes (by omega) (by omega)) (within_any _ _ _ _)).mono ?_
              rintro e w1 ⟨rfl, rfl⟩
              go_wp2_with fail
              refine (told a2.out (within_any _ _ _ _)).mono ?_
              rintro e w1 ⟨rfl, rfl⟩
              go_wp2_with fail
              refine (told a3.out (within_any _ _ _ _)).mono ?_
              rintro e w1 ⟨rfl, rfl⟩
              go_wp2_with fail
              refine (told b1.out (wordIf_impl s _ _ bd0)).mono ?_
              rintro e w1 ⟨rfl, rfl⟩
              go_wp2
              go_returns
              exact ⟨ret_bool (by rw [HO.out]; simp [a2.out, a3.out, b1.out]), by go_grown⟩
            · skip
              obtain ⟨qb2, hb2⟩ : ∃ q, wifB nm false = q := ⟨_, rfl⟩
              have b2 := Lib.hid hb2; clear hb2
              cases qb2
              · skip
                go_enter Tryz.func91, Tryz.ntmps91
                go_wp2_with fail
                refine (told (show inB (1 : Int) 1 7 = true from inB_yes (by omega) (by omega)) (within_any _ _ _ _)).mono ?_
                rintro e w1 ⟨rfl, rfl⟩
                go_wp2_with fail
                refine (told a2.out (within_any _ _ _ _)).mono ?_
                rintro e w1 ⟨rfl, rfl⟩
                go_wp2_with fail
                refine (told a3.out (within_any _ _ _ _)).mono ?_
                rintro e w1 ⟨rfl, rfl⟩
                go_wp2_with fail
                refine (told b1.out (wordIf_impl s _ _ bd0)).mono ?_
                rintro e w1 ⟨rfl, rfl⟩
                go_wp2_with fail
                refine (told b2.out (wordIf_impl nm _ _ bd1)).mono ?_
                rintro e w1 ⟨rfl, rfl⟩
                go_wp2
                go_returns
                exact ⟨ret_bool (by rw [HO.out]; simp [a2.out, a3.out, b1.out, b2.out]), by go_grown⟩
              · skip
                obtain ⟨qb3, hb3⟩ : ∃ q, wifB tg false = q := ⟨_, rfl⟩
                have b3 := Lib.hid hb3; clear hb3
                cases qb3
                · skip
                  go_enter Tryz.func91, Tryz.ntmps91
                  go_wp2_with fail
                  refine (told (show inB (1 : Int) 1 7 = true from inB_yes (by omega) (by omega)) (within_any _ _ _ _)).mono ?_
                  rintro e w1 ⟨rfl, rfl⟩
                  go_wp2_with fail
                  refine (told a2.out (within_any _ _ _ _)).mono ?_
                  rintro e w1 ⟨rfl, rfl⟩
                  go_wp2_with fail
                  refine (told a3.out (within_any _ _ _ _)).mono ?_
                  rintro e w1 ⟨rfl, rfl⟩
                  go_wp2_with fail
                  refine (told b1.out (wordIf_impl s _ _ bd0)).mono ?_
                  rintro e w1 ⟨rfl, rfl⟩
                  go_wp2_with fail
                  refine (told b2.out (wordIf_impl nm _ _ bd1)).mono ?_
                  rintro e w1 ⟨rfl, rfl⟩
                  go_wp2_with fail
                  refine (told b3.out (wordIf_impl tg _ _ bd2)).mono ?_
                  rintro e w1 ⟨rfl, rfl⟩
                  go_wp2
                  go_returns
                  exact ⟨ret_bool (by rw [HO.out]; simp [a2.out, a3.out, b1.out, b2.out, b3.out]), by go_grown⟩
                · skip
                  by_cases hn0 : n = 0
                  · have gn : (n != 0) = false := by simp [hn0]
                    have HN0 := Lib.hid hn0; clear hn0
                    by_cases hc0 : n1 = 0
                    · have gc : ((n1 : Int) == 0) = true := by simp [hc0]
                      have HC0 := Lib.hid (show ch.length = 0 from HN.out.symm.trans hc0); clear hc0
                      go_enter Tryz.func91, Tryz.ntmps91
                      go_wp2_with fail
                      refine (told (show inB (1 : Int) 1 7 = true from inB_yes (by omega) (by omega)) (within_any _ _ _ _)).mono ?_
                      rintro e w1 ⟨rfl, rfl⟩
                      go_wp2_with fail
                      refine (told a2.out (within_any _ _ _ _)).mono ?_
                      rintro e w1 ⟨rfl, rfl⟩
                      go_wp2_with fail
                      refine (told a3.out (within_any _ _ _ _)).mono ?_
                      rintro e w1 ⟨rfl, rfl⟩
                      go_wp2_with fail
                      refine (told b1.out (wordIf_impl s _ _ bd0)).mono ?_
                      rintro e w1 ⟨rfl, rfl⟩
                      go_wp2_with fail
                      refine (told b2.out (wordIf_impl nm _ _ bd1)).mono ?_
                      rintro e w1 ⟨rfl, rfl⟩
                      go_wp2_with fail
                      refine (told b3.out (wordIf_impl tg _ _ bd2)).mono ?_
                      rintro e w1 ⟨rfl, rfl⟩
                      go_wp2
                      go_returns
                      exact ⟨ret_bool (by rw [HO.out]; simp [a2.out, a3.out, b1.out, b2.out, b3.out, HN0.out, HC0.out]), by go_grown⟩
                    · have gc : ((n1 : Int) == 0) = false := by simpa using hc0
                      have HC0 := Lib.hid (show ¬ ch.length = 0 from fun e => hc0 (HN.out.trans e)); clear hc0
                      go_enter Tryz.func91, Tryz.ntmps91
                      go_wp2_with fail
                      refine (told (show inB (1 : Int) 1 7 = true from inB_yes (by omega) (by omega)) (within_any _ _ _ _)).mono ?_
                      rintro e w1 ⟨rfl, rfl⟩
                      go_wp2_with fail
                      refine (told a2.out (within_any _ _ _ _)).mono ?_
                      rintro e w1 ⟨rfl, rfl⟩
                      go_wp2_with fail
                      refine (told a3.out (within_any _ _ _ _)).mono ?_
                      rintro e w1 ⟨rfl, rfl⟩
                      go_wp2_with fail
                      refine (told b1.out (wordIf_impl s _ _ bd0)).mono ?_
                      rintro e w1 ⟨rfl, rfl⟩
                      go_wp2_with fail
                      refine (told b2.out (wordIf_impl nm _ _ bd1)).mono ?_
                      rintro e w1 ⟨rfl, rfl⟩
                      go_wp2_with fail
                      refine (told b3.out (wordIf_impl tg _ _ bd2)).mono ?_
                      rintro e w1 ⟨rfl, rfl⟩
                      go_wp2
                      go_returns
                      exact ⟨ret_bool (by rw [HO.out]; simp [a2.out, a3.out, b1.out, b2.out, b3.out, HN0.out, HC0.out]), by go_grown⟩
                  · have gn : (n != 0) = true := by simpa using hn0
                    have HN0 := Lib.hid hn0; clear hn0
                    go_enter Tryz.func91, Tryz.ntmps91
                    go_wp2_with fail
                    refine (told (show inB (1 : Int) 1 7 = true from inB_yes (by omega) (by omega)) (within_any _ _ _ _)).mono ?_
                    rintro e w1 ⟨rfl, rfl⟩
                    go_wp2_with fail
                    refine (told a2.out (within_any _ _ _ _)).mono ?_
                    rintro e w1 ⟨rfl, rfl⟩
                    go_wp2_with fail
                    refine (told a3.out (within_any _ _ _ _)).mono ?_
                    rintro e w1 ⟨rfl, rfl⟩
                    go_wp2_with fail
                    refine (told b1.out (wordIf_impl s _ _ bd0)).mono ?_
                    rintro e w1 ⟨rfl, rfl⟩
                    go_wp2_with fail
                    refine (told b2.out (wordIf_impl nm _ _ bd1)).mono ?_
                    rintro e w1 ⟨rfl, rfl⟩
                    go_wp2_with fail
                    refine (told b3.out (wordIf_impl tg _ _ bd2)).mono ?_
                    rintro e w1 ⟨rfl, rfl⟩
                    go_wp2
                    go_returns
                    exact ⟨ret_bool (by rw [HO.out]; simp [a2.out, a3.out, b1.out, b2.out, b3.out, HN0.out]), by go_grown⟩
      · simp only [show inB (2 : Int) 1 7 = true from inB_yes (by omega) (by omega), Bool.true_and] at HO
        obtain ⟨qa2, ha2⟩ : ∃ q, inB cl 1 9 = q := ⟨_, rfl⟩
        have a2 := Lib.hid ha2; clear ha2
        cases qa2
        · skip
          go_enter Tryz.func91, Tryz.ntmps91
          go_wp2_with fail
          refine (told (show inB (2 : Int) 1 7 = true from inB_yes (by omega) (by omega)) (within_any _ _ _ _)).mono ?_
          rintro e w1 ⟨rfl, rfl⟩
          go_wp2_with fail
          refine (told a2.out (within_any _ _ _ _)).mono ?_
          rintro e w1 ⟨rfl, rfl⟩
          go_wp2
          go_returns
          exact ⟨ret_bool (by rw [HO.out]; simp [a2.out]), by go_grown⟩
        · skip
          obtain ⟨qa3, ha3⟩ : ∃ q, inB no 1 1000 = q := ⟨_, rfl⟩
          have a3 := Lib.hid ha3; clear ha3
          cases qa3
          · skip
            go_enter Tryz.func91, Tryz.ntmps91
            go_wp2_with fail
            refine (told (show inB (2 : Int) 1 7 = true from inB_yes (by omega) (by omega)) (within_any _ _ _ _)).mono ?_
            rintro e w1 ⟨rfl, rfl⟩
            go_wp2_with fail
            refine (told a2.out (within_any _ _ _ _)).mono ?_
            rintro e w1 ⟨rfl, rfl⟩
            go_wp2_with fail
            refine (told a3.out (within_any _ _ _ _)).mono ?_
            rintro e w1 ⟨rfl, rfl⟩
            go_wp2
            go_returns
            exact ⟨ret_bool (by rw [HO.out]; simp [a2.out, a3.out]), by go_grown⟩
          · skip
            obtain ⟨qb1, hb1⟩ : ∃ q, wifB s true = q := ⟨_, rfl⟩
            have b1 := Lib.hid hb1; clear hb1
            cases qb1
            · skip
              go_enter Tryz.func91, Tryz.ntmps91
              go_wp2_with fail
              refine (told (show inB (2 : Int) 1 7 = true from inB_yes (by omega) (by omega)) (within_any _ _ _ _)).mono ?_
              rintro e w1 ⟨rfl, rfl⟩
              go_wp2_with fail
              refine (told a2.out (within_any _ _ _ _)).mono ?_
              rintro e w1 ⟨rfl, rfl⟩
              go_wp2_with fail
              refine (told a3.out (within_any _ _ _ _)).mono ?_
              rintro e w1 ⟨rfl, rfl⟩
              go_wp2_with fail
              refine (told b1.out (wordIf_impl s _ _ bd0)).mono ?_
              rintro e w1 ⟨rfl, rfl⟩
              go_wp2
              go_returns
              exact ⟨ret_bool (by rw [HO.out]; simp [a2.out, a3.out, b1.out]), by go_grown⟩
            · skip
              obtain ⟨qb2, hb2⟩ : ∃ q, wifB nm false = q := ⟨_, rfl⟩
              have b2 := Lib.hid hb2; clear hb2
              cases qb2
              · skip
                go_enter Tryz.func91, Tryz.ntmps91
                go_wp2_with fail
                refine (told (show inB (2 : Int) 1 7 = true from inB_yes (by omega) (by omega)) (within_any _ _ _ _)).mono ?_
                rintro e w1 ⟨rfl, rfl⟩
                go_wp2_with fail
                refine (told a2.out (within_any _ _ _ _)).mono ?_
                rintro e w1 ⟨rfl, rfl⟩
                go_wp2_with fail
                refine (told a3.out (within_any _ _ _ _)).mono ?_
                rintro e w1 ⟨rfl, rfl⟩
                go_wp2_with fail
                refine (told b1.out (wordIf_impl s _ _ bd0)).mono ?_
                rintro e w1 ⟨rfl, rfl⟩
                go_wp2_with fail
                refine (told b2.out (wordIf_impl nm _ _ bd1)).mono ?_
                rintro e w1 ⟨rfl, rfl⟩
                go_wp2
                go_returns
                exact ⟨ret_bool (by rw [HO.out]; simp [a2.out, a3.out, b1.out, b2.out]), by go_grown⟩
              · skip
                obtain ⟨qb3, hb3⟩ : ∃ q, wifB tg false = q := ⟨_, rfl⟩
                have b3 := Lib.hid hb3; clear hb3
                cases qb3
                · skip
                  go_enter Tryz.func91, Tryz.ntmps91
                  go_wp2_with fail
                  refine (told (show inB (2 : Int) 1 7 = true from inB_yes (by omega) (by omega)) (within_any _ _ _ _)).mono ?_
                  rintro e w1 ⟨rfl, rfl⟩
                  go_wp2_with fail
                  refine (told a2.out (within_any _ _ _ _)).mono ?_
                  rintro e w1 ⟨rfl, rfl⟩
                  go_wp2_with fail
                  refine (told a3.out (within_any _ _ _ _)).mono ?_
                  rintro e w1 ⟨rfl, rfl⟩
                  go_wp2_with fail
                  refine (told b1.out (wordIf_impl s _ _ bd0)).mono ?_
                  rintro e w1 ⟨rfl, rfl⟩
                  go_wp2_with fail
                  refine (told b2.out (wordIf_impl nm _ _ bd1)).mono ?_
                  rintro e w1 ⟨rfl, rfl⟩
                  go_wp2_with fail
                  refine (told b3.out (wordIf_impl tg _ _ bd2)).mono ?_
                  rintro e w1 ⟨rfl, rfl⟩
                  go_wp2
                  go_returns
                  exact ⟨ret_bool (by rw [HO.out]; simp [a2.out, a3.out, b1.out, b2.out, b3.out]), by go_grown⟩
                · skip
                  by_cases hn0 : n = 0
                  · have gn : (n != 0) = false := by simp [hn0]
                    have HN0 := Lib.hid hn0; clear hn0
                    by_cases hc0 : n1 = 0
                    · have gc : ((n1 : Int) == 0) = true := by simp [hc0]
                      have HC0 := Lib.hid (show ch.length = 0 from HN.out.symm.trans hc0); clear hc0
                      go_enter Tryz.func91, Tryz.ntmps91
                      go_wp2_with fail
                      refine (told (show inB (2 : Int) 1 7 = true from inB_yes (by omega) (by omega)) (within_any _ _ _ _)).mono ?_
                      rintro e w1 ⟨rfl, rfl⟩
                      go_wp2_with fail
                      refine (told a2.out (within_any _ _ _ _)).mono ?_
                      rintro e w1 ⟨rfl, rfl⟩
                      go_wp2_with fail
                      refine (told a3.out (within_any _ _ _ _)).mono ?_
                      rintro e w1 ⟨rfl, rfl⟩
                      go_wp2_with fail
                      refine (told b1.out (wordIf_impl s _ _ bd0)).mono ?_
                      rintro e w1 ⟨rfl, rfl⟩
                      go_wp2_with fail
                      refine (told b2.out (wordIf_impl nm _ _ bd1)).mono ?_
                      rintro e w1 ⟨rfl, rfl⟩
                      go_wp2_with fail
                      refine (told b3.out (wordIf_impl tg _ _ bd2)).mono ?_
                      rintro e w1 ⟨rfl, rfl⟩
                      go_wp2
                      go_returns
                      exact ⟨ret_bool (by rw [HO.out]; simp [a2.out, a3.out, b1.out, b2.out, b3.out, HN0.out, HC0.out]), by go_grown⟩
                    · have gc : ((n1 : Int) == 0) = false := by simpa using hc0
                      have HC0 := Lib.hid (show ¬ ch.length = 0 from fun e => hc0 (HN.out.trans e)); clear hc0
                      go_enter Tryz.func91, Tryz.ntmps91
                      go_wp2_with fail
                      refine (told (show inB (2 : Int) 1 7 = true from inB_yes (by omega) (by omega)) (within_any _ _ _ _)).mono ?_
                      rintro e w1 ⟨rfl, rfl⟩
                      go_wp2_with fail
                      refine (told a2.out (within_any _ _ _ _)).mono ?_
                      rintro e w1 ⟨rfl, rfl⟩
                      go_wp2_with fail
                      refine (told a3.out (within_any _ _ _ _)).mono ?_
                      rintro e w1 ⟨rfl, rfl⟩
                      go_wp2_with fail
                      refine (told b1.out (wordIf_impl s _ _ bd0)).mono ?_
                      rintro e w1 ⟨rfl, rfl⟩
                      go_wp2_with fail
                      refine (told b2.out (wordIf_impl nm _ _ bd1)).mono ?_
                      rintro e w1 ⟨rfl, rfl⟩
                      go_wp2_with fail
                      refine (told b3.out (wordIf_impl tg _ _ bd2)).mono ?_
                      rintro e w1 ⟨rfl, rfl⟩
                      go_wp2
                      go_returns
                      exact ⟨ret_bool (by rw [HO.out]; simp [a2.out, a3.out, b1.out, b2.out, b3.out, HN0.out, HC0.out]), by go_grown⟩
                  · have gn : (n != 0) = true := by simpa using hn0
                    have HN0 := Lib.hid hn0; clear hn0
                    go_enter Tryz.func91, Tryz.ntmps91
                    go_wp2_with fail
                    refine (told (show inB (2 : Int) 1 7 = true from inB_yes (by omega) (by omega)) (within_any _ _ _ _)).mono ?_
                    rintro e w1 ⟨rfl, rfl⟩
                    go_wp2_with fail
                    refine (told a2.out (within_any _ _ _ _)).mono ?_
                    rintro e w1 ⟨rfl, rfl⟩
                    go_wp2_with fail
                    refine (told a3.out (within_any _ _ _ _)).mono ?_
                    rintro e w1 ⟨rfl, rfl⟩
                    go_wp2_with fail
                    refine (told b1.out (wordIf_impl s _ _ bd0)).mono ?_
                    rintro e w1 ⟨rfl, rfl⟩
                    go_wp2_with fail
                    refine (told b2.out (wordIf_impl nm _ _ bd1)).mono ?_
                    rintro e w1 ⟨rfl, rfl⟩
                    go_wp2_with fail
                    refine (told b3.out (wordIf_impl tg _ _ bd2)).mono ?_
                    rintro e w1 ⟨rfl, rfl⟩
                    go_wp2
                    go_returns
                    exact ⟨ret_bool (by rw [HO.out]; simp [a2.out, a3.out, b1.out, b2.out, b3.out, HN0.out]), by go_grown⟩
      · simp only [show inB (3 : Int) 1 7 = true from inB_yes (by omega) (by omega), Bool.true_and] at HO
        obtain ⟨qa2, ha2⟩ : ∃ q, inB cl 1 9 = q := ⟨_, rfl⟩
        have a2 := Lib.hid ha2; clear ha2
        cases qa2
        · skip
          go_enter Tryz.func91, Tryz.ntmps91
          go_wp2_with fail
          refine (told (show inB (3 : Int) 1 7 = true from inB_yes (by omega) (by omega)) (within_any _ _ _ _)).mono ?_
          rintro e w1 ⟨rfl, rfl⟩
          go_wp2_with fail
          refine (told a2.out (within_any _ _ _ _)).mono ?_
          rintro e w1 ⟨rfl, rfl⟩
          go_wp2
          go_returns
          exact ⟨ret_bool (by rw [HO.out]; simp [a2.out]), by go_grown⟩
        · skip
          obtain ⟨qa3, ha3⟩ : ∃ q, inB no 1 1000 = q := ⟨_, rfl⟩
          have a3 := Lib.hid ha3; clear ha3
          cases qa3
          · skip
            go_enter Tryz.func91, Tryz.ntmps91
            go_wp2_with fail
            refine (told (show inB (3 : Int) 1 7 = true from inB_yes (by omega) (by omega)) (within_any _ _ _ _)).mono ?_
            rintro e w1 ⟨rfl, rfl⟩
            go_wp2_with fail
            refine (told a2.out (within_any _ _ _ _)).mono ?_
            rintro e w1 ⟨rfl, rfl⟩
            go_wp2_with fail
            refine (told a3.out (within_any _ _ _ _)).mono ?_
            rintro e w1 ⟨rfl, rfl⟩
            go_wp2
            go_returns
            exact ⟨ret_bool (by rw [HO.out]; simp [a2.out, a3.out]), by go_grown⟩
          · skip
            obtain ⟨qb1, hb1⟩ : ∃ q, wifB s true = q := ⟨_, rfl⟩
            have b1 := Lib.hid hb1; clear hb1
            cases qb1
            · skip
              go_enter Tryz.func91, Tryz.ntmps91
              go_wp2_with fail
              refine (told (show inB (3 : Int) 1 7 = true from inB_yes (by omega) (by omega)) (within_any _ _ _ _)).mono ?_
              rintro e w1 ⟨rfl, rfl⟩
              go_wp2_with fail
              refine (told a2.out (within_any _ _ _ _)).mono ?_
              rintro e w1 ⟨rfl, rfl⟩
              go_wp2_with fail
              refine (told a3.out (within_any _ _ _ _)).mono ?_
              rintro e w1 ⟨rfl, rfl⟩
              go_wp2_with fail
              refine (told b1.out (wordIf_impl s _ _ bd0)).mono ?_
              rintro e w1 ⟨rfl, rfl⟩
              go_wp2
              go_returns
              exact ⟨ret_bool (by rw [HO.out]; simp [a2.out, a3.out, b1.out]), by go_grown⟩
            · skip
              obtain ⟨qb2, hb2⟩ : ∃ q, wifB nm true = q := ⟨_, rfl⟩
              have b2 := Lib.hid hb2; clear hb2
              cases qb2
              · skip
                go_enter Tryz.func91, Tryz.ntmps91
                go_wp2_with fail
                refine (told (show inB (3 : Int) 1 7 = true from inB_yes (by omega) (by omega)) (within_any _ _ _ _)).mono ?_
                rintro e w1 ⟨rfl, rfl⟩
                go_wp2_with fail
                refine (told a2.out (within_any _ _ _ _)).mono ?_
                rintro e w1 ⟨rfl, rfl⟩
                go_wp2_with fail
                refine (told a3.out (within_any _ _ _ _)).mono ?_
                rintro e w1 ⟨rfl, rfl⟩
                go_wp2_with fail
                refine (told b1.out (wordIf_impl s _ _ bd0)).mono ?_
                rintro e w1 ⟨rfl, rfl⟩
                go_wp2_with fail
                refine (told b2.out (wordIf_impl nm _ _ bd1)).mono ?_
                rintro e w1 ⟨rfl, rfl⟩
                go_wp2
                go_returns
                exact ⟨ret_bool (by rw [HO.out]; simp [a2.out, a3.out, b1.out, b2.out]), by go_grown⟩
              · skip
                obtain ⟨qb3, hb3⟩ : ∃ q, wifB tg false = q := ⟨_, rfl⟩
                have b3 := Lib.hid hb3; clear hb3
                cases qb3
                · skip
                  go_enter Tryz.func91, Tryz.ntmps91
                  go_wp2_with fail
                  refine (told (show inB (3 : Int) 1 7 = true from inB_yes (by omega) (by omega)) (within_any _ _ _ _)).mono ?_
                  rintro e w1 ⟨rfl, rfl⟩
                  go_wp2_with fail
                  refine (told a2.out (within_any _ _ _ _)).mono ?_
                  rintro e w1 ⟨rfl, rfl⟩
                  go_wp2_with fail
                  refine (told a3.out (within_any _ _ _ _)).mono ?_
                  rintro e w1 ⟨rfl, rfl⟩
                  go_wp2_with fail
                  refine (told b1.out (wordIf_impl s _ _ bd0)).mono ?_
                  rintro e w1 ⟨rfl, rfl⟩
                  go_wp2_with fail
                  refine (told b2.out (wordIf_impl nm _ _ bd1)).mono ?_
                  rintro e w1 ⟨rfl, rfl⟩
                  go_wp2_with fail
                  refine (told b3.out (wordIf_impl tg _ _ bd2)).mono ?_
                  rintro e w1 ⟨rfl, rfl⟩
                  go_wp2
                  go_returns
                  exact ⟨ret_bool (by rw [HO.out]; simp [a2.out, a3.out, b1.out, b2.out, b3.out]), by go_grown⟩
                · skip
                  by_cases hn0 : n = 0
                  · have gn : (n != 0) = false := by simp [hn0]
                    have HN0 := Lib.hid hn0; clear hn0
                    obtain ⟨ql, hql⟩ : ∃ q, inB (ch.length : Int) 1 4 = q := ⟨_, rfl⟩
                    have cq := Lib.hid hql
                    have cl2 := Lib.hid (show inB (n1 : Int) 1 4 = ql by rw [HN.out]; exact hql)
                    clear hql
                    cases ql
                    · skip
                      go_enter Tryz.func91, Tryz.ntmps91
                      go_wp2_with fail
                      refine (told (show inB (3 : Int) 1 7 = true from inB_yes (by omega) (by omega)) (within_any _ _ _ _)).mono ?_
                      rintro e w1 ⟨rfl, rfl⟩
                      go_wp2_with fail
                      refine (told a2.out (within_any _ _ _ _)).mono ?_
                      rintro e w1 ⟨rfl, rfl⟩
                      go_wp2_with fail
                      refine (told a3.out (within_any _ _ _ _)).mono ?_
                      rintro e w1 ⟨rfl, rfl⟩
                      go_wp2_with fail
                      refine (told b1.out (wordIf_impl s _ _ bd0)).mono ?_
                      rintro e w1 ⟨rfl, rfl⟩
                      go_wp2_with fail
                      refine (told b2.out (wordIf_impl nm _ _ bd1)).mono ?_
                      rintro e w1 ⟨rfl, rfl⟩
                      go_wp2_with fail
                      refine (told b3.out (wordIf_impl tg _ _ bd2)).mono ?_
                      rintro e w1 ⟨rfl, rfl⟩
                      go_wp2_with fail
                      refine (told cl2.out (within_any _ _ _ _)).mono ?_
                      rintro e w1 ⟨rfl, rfl⟩
                      go_wp2
                      go_returns
                      exact ⟨ret_bool (by rw [HO.out]; simp [a2.out, a3.out, b1.out, b2.out, b3.out, HN0.out, cq.out]), by go_grown⟩
                    · skip
                      obtain ⟨q8, hq8⟩ : ∃ q, ok8 ch = q := ⟨_, rfl⟩
                      have c8 := Lib.hid hq8; clear hq8
                      go_enter Tryz.func91, Tryz.ntmps91
                      go_wp2_with fail
                      refine (told (show inB (3 : Int) 1 7 = true from inB_yes (by omega) (by omega)) (within_any _ _ _ _)).mono ?_
                      rintro e w1 ⟨rfl, rfl⟩
                      go_wp2_with fail
                      refine (told a2.out (within_any _ _ _ _)).mono ?_
                      rintro e w1 ⟨rfl, rfl⟩
                      go_wp2_with fail
                      refine (told a3.out (within_any _ _ _ _)).mono ?_
                      rintro e w1 ⟨rfl, rfl⟩
                      go_wp2_with fail
                      refine (told b1.out (wordIf_impl s _ _ bd0)).mono ?_
                      rintro e w1 ⟨rfl, rfl⟩
                      go_wp2_with fail
                      refine (told b2.out (wordIf_impl nm _ _ bd1)).mono ?_
                      rintro e w1 ⟨rfl, rfl⟩
                      go_wp2_with fail
                      refine (told b3.out (wordIf_impl tg _ _ bd2)).mono ?_
                      rintro e w1 ⟨rfl, rfl⟩
                      go_wp2_with fail
                      refine (told cl2.out (within_any _ _ _ _)).mono ?_
                      rintro e w1 ⟨rfl, rfl⟩
                      go_wp2_with fail
                      refine (told c8.out (areChunks_ok _ _ _ ch _ (h1.1.keep (by go_grown)) hn1)).mono ?_
                      rintro e w1 ⟨rfl, rfl⟩
                      go_wp2
                      go_returns
                      exact ⟨ret_bool (by rw [HO.out]; simp [a2.out, a3.out, b1.out, b2.out, b3.out, HN0.out, cq.out, c8.out]), by go_grown⟩
                  · have gn : (n != 0) = true := by simpa using hn0
                    have HN0 := Lib.hid hn0; clear hn0
                    go_enter Tryz.func91, Tryz.ntmps91
                    go_wp2_with fail
                    refine (told (show inB (3 : Int) 1 7 = true from inB_yes (by omega) (by omega)) (within_any _ _ _ _)).mono ?_
                    rintro e w1 ⟨rfl, rfl⟩
                    go_wp2_with fail
                    refine (told a2.out (within_any _ _ _ _)).mono ?_
                    rintro e w1 ⟨rfl, rfl⟩
                    go_wp2_with fail
                    refine (told a3.out (within_any _ _ _ _)).mono ?_
                    rintro e w1 ⟨rfl, rfl⟩
                    go_wp2_with fail
                    refine (told b1.out (wordIf_impl s _ _ bd0)).mono ?_
                    rintro e w1 ⟨rfl, rfl⟩
                    go_wp2_with fail
                    refine (told b2.out (wordIf_impl nm _ _ bd1)).mono ?_
                    rintro e w1 ⟨rfl, rfl⟩
                    go_wp2_with fail
                    refine (told b3.out (wordIf_impl tg _ _ bd2)).mono ?_
                    rintro e w1 ⟨rfl, rfl⟩
                    go_wp2
                    go_returns
                    exact ⟨ret_bool (by rw [HO.out]; simp [a2.out, a3.out, b1.out, b2.out, b3.out, HN0.out]), by go_grown⟩
      · simp only [show inB (4 : Int) 1 7 = true from inB_yes (by omega) (by omega), Bool.true_and] at HO
        obtain ⟨qa2, ha2⟩ : ∃ q, inB cl 1 9 = q := ⟨_, rfl⟩
        have a2 := Lib.hid ha2; clear ha2
        cases qa2
        · skip
          go_enter Tryz.func91, Tryz.ntmps91
          go_wp2_with fail
          refine (told (show inB (4 : Int) 1 7 = true from inB_yes (by omega) (by omega)) (within_any _ _ _ _)).mono ?_
          rintro e w1 ⟨rfl, rfl⟩
          go_wp2_with fail
          refine (told a2.out (within_any _ _ _ _)).mono ?_
          rintro e w1 ⟨rfl, rfl⟩
          go_wp2
          go_returns
          exact ⟨ret_bool (by rw [HO.out]; simp [a2.out]), by go_grown⟩
        · skip
          obtain ⟨qa3, ha3⟩ : ∃ q, inB no 1 1000 = q := ⟨_, rfl⟩
          have a3 := Lib.hid ha3; clear ha3
          cases qa3
          · skip
            go_enter Tryz.func91, Tryz.ntmps91
            go_wp2_with fail
            refine (told (show inB (4 : Int) 1 7 = true from inB_yes (by omega) (by omega)) (within_any _ _ _ _)).mono ?_
            rintro e w1 ⟨rfl, rfl⟩
            go_wp2_with fail
            refine (told a2.out (within_any _ _ _ _)).mono ?_
            rintro e w1 ⟨rfl, rfl⟩
            go_wp2_with fail
            refine (told a3.out (within_any _ _ _ _)).mono ?_
            rintro e w1 ⟨rfl, rfl⟩
            go_wp2
            go_returns
            exact ⟨ret_bool (by rw [HO.out]; simp [a2.out, a3.out]), by go_grown⟩
          · skip
            obtain ⟨qb1, hb1⟩ : ∃ q, wifB s true = q := ⟨_, rfl⟩
            have b1 := Lib.hid hb1; clear hb1
            cases qb1
            · skip
              go_enter Tryz.func91, Tryz.ntmps91
              go_wp2_with fail
              refine (told (show inB (4 : Int) 1 7 = true from inB_yes (by omega) (by omega)) (within_any _ _ _ _)).mono ?_
              rintro e w1 ⟨rfl, rfl⟩
              go_wp2_with fail
              refine (told a2.out (within_any _ _ _ _)).mono ?_
              rintro e w1 ⟨rfl, rfl⟩
              go_wp2_with fail
              refine (told a3.out (within_any _ _ _ _)).mono ?_
              rintro e w1 ⟨rfl, rfl⟩
              go_wp2_with fail
              refine (told b1.out (wordIf_impl s _ _ bd0)).mono ?_
              rintro e w1 ⟨rfl, rfl⟩
              go_wp2
              go_returns
              exact ⟨ret_bool (by rw [HO.out]; simp [a2.out, a3.out, b1.out]), by go_grown⟩
            · skip
              obtain ⟨qb2, hb2⟩ : ∃ q, wifB nm true = q := ⟨_, rfl⟩
              have b2 := Lib.hid hb2; clear hb2
              cases qb2
              · skip
                go_enter Tryz.func91, Tryz.ntmps91
                go_wp2_with fail
                refine (told (show inB (4 : Int) 1 7 = true from inB_yes (by omega) (by omega)) (within_any _ _ _ _)).mono ?_
                rintro e w1 ⟨rfl, rfl⟩
                go_wp2_with fail
                refine (told a2.out (within_any _ _ _ _)).mono ?_
                rintro e w1 ⟨rfl, rfl⟩
                go_wp2_with fail
                refine (told a3.out (within_any _ _ _ _)).mono ?_
                rintro e w1 ⟨rfl, rfl⟩
                go_wp2_with fail
                refine (told b1.out (wordIf_impl s _ _ bd0)).mono ?_
                rintro e w1 ⟨rfl, rfl⟩
                go_wp2_with fail
                refine (told b2.out (wordIf_impl nm _ _ bd1)).mono ?_
                rintro e w1 ⟨rfl, rfl⟩
                go_wp2
                go_returns
                exact ⟨ret_bool (by rw [HO.out]; simp [a2.out, a3.out, b1.out, b2.out]), by go_grown⟩
              · skip
                obtain ⟨qb3, hb3⟩ : ∃ q, wifB tg true = q := ⟨_, rfl⟩
                have b3 := Lib.hid hb3; clear hb3
                cases qb3
                · skip
                  go_enter Tryz.func91, Tryz.ntmps91
                  go_wp2_with fail
                  refine (told (show inB (4 : Int) 1 7 = true from inB_yes (by omega) (by omega)) (within_any _ _ _ _)).mono ?_
                  rintro e w1 ⟨rfl, rfl⟩
                  go_wp2_with fail
                  refine (told a2.out (within_any _ _ _ _)).mono ?_
                  rintro e w1 ⟨rfl, rfl⟩
                  go_wp2_with fail
                  refine (told a3.out (within_any _ _ _ _)).mono ?_
                  rintro e w1 ⟨rfl, rfl⟩
                  go_wp2_with fail
                  refine (told b1.out (wordIf_impl s _ _ bd0)).mono ?_
                  rintro e w1 ⟨rfl, rfl⟩
                  go_wp2_with fail
                  refine (told b2.out (wordIf_impl nm _ _ bd1)).mono ?_
                  rintro e w1 ⟨rfl, rfl⟩
                  go_wp2_with fail
                  refine (told b3.out (wordIf_impl tg _ _ bd2)).mono ?_
                  rintro e w1 ⟨rfl, rfl⟩
                  go_wp2
                  go_returns
                  exact ⟨ret_bool (by rw [HO.out]; simp [a2.out, a3.out, b1.out, b2.out, b3.out]), by go_grown⟩
                · skip
                  by_cases hn0 : n = 0
                  · have gn : (n != 0) = false := by simp [hn0]
                    have HN0 := Lib.hid hn0; clear hn0
                    by_cases hc0 : n1 = 0
                    · have gc : ((n1 : Int) == 0) = true := by simp [hc0]
                      have HC0 := Lib.hid (show ch.length = 0 from HN.out.symm.trans hc0); clear hc0
                      go_enter Tryz.func91, Tryz.ntmps91
                      go_wp2_with fail
                      refine (told (show inB (4 : Int) 1 7 = true from inB_yes (by omega) (by omega)) (within_any _ _ _ _)).mono ?_
                      rintro e w1 ⟨rfl, rfl⟩
                      go_wp2_with fail
                      refine (told a2.out (within_any _ _ _ _)).mono ?_
                      rintro e w1 ⟨rfl, rfl⟩
                      go_wp2_with fail
                      refine (told a3.out (within_any _ _ _ _)).mono ?_
                      rintro e w1 ⟨rfl, rfl⟩
                      go_wp2_with fail
                      refine (told b1.out (wordIf_impl s _ _ bd0)).mono ?_
                      rintro e w1 ⟨rfl, rfl⟩
                      go_wp2_with fail
                      refine (told b2.out (wordIf_impl nm _ _ bd1)).mono ?_
                      rintro e w1 ⟨rfl, rfl⟩
                      go_wp2_with fail
                      refine (told b3.out (wordIf_impl tg _ _ bd2)).mono ?_
                      rintro e w1 ⟨rfl, rfl⟩
                      go_wp2
                      go_returns
                      exact ⟨ret_bool (by rw [HO.out]; simp [a2.out, a3.out, b1.out, b2.out, b3.out, HN0.out, HC0.out]), by go_grown⟩
                    · have gc : ((n1 : Int) == 0) = false := by simpa using hc0
                      have HC0 := Lib.hid (show ¬ ch.length = 0 from fun e => hc0 (HN.out.trans e)); clear hc0
                      go_enter Tryz.func91, Tryz.ntmps91
                      go_wp2_with fail
                      refine (told (show inB (4 : Int) 1 7 = true from inB_yes (by omega) (by omega)) (within_any _ _ _ _)).mono ?_
                      rintro e w1 ⟨rfl, rfl⟩
                      go_wp2_with fail
                      refine (told a2.out (within_any _ _ _ _)).mono ?_
                      rintro e w1 ⟨rfl, rfl⟩
                      go_wp2_with fail
                      refine (told a3.out (within_any _ _ _ _)).mono ?_
                      rintro e w1 ⟨rfl, rfl⟩
                      go_wp2_with fail
                      refine (told b1.out (wordIf_impl s _ _ bd0)).mono ?_
                      rintro e w1 ⟨rfl, rfl⟩
                      go_wp2_with fail
                      refine (told b2.out (wordIf_impl nm _ _ bd1)).mono ?_
                      rintro e w1 ⟨rfl, rfl⟩
                      go_wp2_with fail
                      refine (told b3.out (wordIf_impl tg _ _ bd2)).mono ?_
                      rintro e w1 ⟨rfl, rfl⟩
                      go_wp2
                      go_returns
                      exact ⟨ret_bool (by rw [HO.out]; simp [a2.out, a3.out, b1.out, b2.out, b3.out, HN0.out, HC0.out]), by go_grown⟩
                  · have gn : (n != 0) = true := by simpa using hn0
                    have HN0 := Lib.hid hn0; clear hn0
                    go_enter Tryz.func91, Tryz.ntmps91
                    go_wp2_with fail
                    refine (told (show inB (4 : Int) 1 7 = true from inB_yes (by omega) (by omega)) (within_any _ _ _ _)).mono ?_
                    rintro e w1 ⟨rfl, rfl⟩
                    go_wp2_with fail
                    refine (told a2.out (within_any _ _ _ _)).mono ?_
                    rintro e w1 ⟨rfl, rfl⟩
                    go_wp2_with fail
                    refine (told a3.out (within_any _ _ _ _)).mono ?_
                    rintro e w1 ⟨rfl, rfl⟩
                    go_wp2_with fail
                    refine (told b1.out (wordIf_impl s _ _ bd0)).mono ?_
                    rintro e w1 ⟨rfl, rfl⟩
                    go_wp2_with fail
                    refine (told b2.out (wordIf_impl nm _ _ bd1)).mono ?_
                    rintro e w1 ⟨rfl, rfl⟩
                    go_wp2_with fail
                    refine (told b3.out (wordIf_impl tg _ _ bd2)).mono ?_
                    rintro e w1 ⟨rfl, rfl⟩
                    go_wp2
                    go_returns
                    exact ⟨ret_bool (by rw [HO.out]; simp [a2.out, a3.out, b1.out, b2.out, b3.out, HN0.out]), by go_grown⟩
      · simp only [show inB (5 : Int) 1 7 = true from inB_yes (by omega) (by omega), Bool.true_and] at HO
        obtain ⟨qa2, ha2⟩ : ∃ q, inB cl 1 9 = q := ⟨_, rfl⟩
        have a2 := Lib.hid ha2; clear ha2
        cases qa2
        · skip
          go_enter Tryz.func91, Tryz.ntmps91
          go_wp2_with fail
          refine (told (show inB (5 : Int) 1 7 = true from inB_yes (by omega) (by omega)) (within_any _ _ _ _)).mono ?_
          rintro e w1 ⟨rfl, rfl⟩
          go_wp2_with fail
          refine (told a2.out (within_any _ _ _ _)).mono ?_
          rintro e w1 ⟨rfl, rfl⟩
          go_wp2
          go_returns
          exact ⟨ret_bool (by rw [HO.out]; simp [a2.out]), by go_grown⟩
        · skip
          obtain ⟨qa3, ha3⟩ : ∃ q, inB no 1 1000 = q := ⟨_, rfl⟩
          have a3 := Lib.hid ha3; clear ha3
          cases qa3
          · skip
            go_enter Tryz.func91, Tryz.ntmps91
            go_wp2_with fail
            refine (told (show inB (5 : Int) 1 7 = true from inB_yes (by omega) (by omega)) (within_any _ _ _ _)).mono ?_
            rintro e w1 ⟨rfl, rfl⟩
            go_wp2_with fail
            refine (told a2.out (within_any _ _ _ _)).mono ?_
            rintro e w1 ⟨rfl, rfl⟩
            go_wp2_with fail
            refine (told a3.out (within_any _ _ _ _)).mono ?_
            rintro e w1 ⟨rfl, rfl⟩
            go_wp2
            go_returns
            exact ⟨ret_bool (by rw [HO.out]; simp [a2.out, a3.out]), by go_grown⟩
          · skip
            obtain ⟨qb1, hb1⟩ : ∃ q, wifB s true = q := ⟨_, rfl⟩
            have b1 := Lib.hid hb1; clear hb1
            cases qb1
            · skip
              go_enter Tryz.func91, Tryz.ntmps91
              go_wp2_with fail
              refine (told (show inB (5 : Int) 1 7 = true from inB_yes (by omega) (by omega)) (within_any _ _ _ _)).mono ?_
              rintro e w1 ⟨rfl, rfl⟩
              go_wp2_with fail
              refine (told a2.out (within_any _ _ _ _)).mono ?_
              rintro e w1 ⟨rfl, rfl⟩
              go_wp2_with fail
              refine (told a3.out (within_any _ _ _ _)).mono ?_
              rintro e w1 ⟨rfl, rfl⟩
              go_wp2_with fail
              refine (told b1.out (wordIf_impl s _ _ bd0)).mono ?_
              rintro e w1 ⟨rfl, rfl⟩
              go_wp2
              go_returns
              exact ⟨ret_bool (by rw [HO.out]; simp [a2.out, a3.out, b1.out]), by go_grown⟩
            · skip
              obtain ⟨qb2, hb2⟩ : ∃ q, wifB nm false = q := ⟨_, rfl⟩
              have b2 := Lib.hid hb2; clear hb2
              cases qb2
              · skip
                go_enter Tryz.func91, Tryz.ntmps91
                go_wp2_with fail
                refine (told (show inB (5 : Int) 1 7 = true from inB_yes (by omega) (by omega)) (within_any _ _ _ _)).mono ?_
                rintro e w1 ⟨rfl, rfl⟩
                go_wp2_with fail
                refine (told a2.out (within_any _ _ _ _)).mono ?_
                rintro e w1 ⟨rfl, rfl⟩
                go_wp2_with fail
                refine (told a3.out (within_any _ _ _ _)).mono ?_
                rintro e w1 ⟨rfl, rfl⟩
                go_wp2_with fail
                refine (told b1.out (wordIf_impl s _ _ bd0)).mono ?_
                rintro e w1 ⟨rfl, rfl⟩
                go_wp2_with fail
                refine (told b2.out (wordIf_impl nm _ _ bd1)).mono ?_
                rintro e w1 ⟨rfl, rfl⟩
                go_wp2
                go_returns
                exact ⟨ret_bool (by rw [HO.out]; simp [a2.out, a3.out, b1.out, b2.out]), by go_grown⟩
              · skip
                obtain ⟨qb3, hb3⟩ : ∃ q, wifB tg false = q := ⟨_, rfl⟩
                have b3 := Lib.hid hb3; clear hb3
                cases qb3
                · skip
                  go_enter Tryz.func91, Tryz.ntmps91
                  go_wp2_with fail
                  refine (told (show inB (5 : Int) 1 7 = true from inB_yes (by omega) (by omega)) (within_any _ _ _ _)).mono ?_
                  rintro e w1 ⟨rfl, rfl⟩
                  go_wp2_with fail
                  refine (told a2.out (within_any _ _ _ _)).mono ?_
                  rintro e w1 ⟨rfl, rfl⟩
                  go_wp2_with fail
                  refine (told a3.out (within_any _ _ _ _)).mono ?_
                  rintro e w1 ⟨rfl, rfl⟩
                  go_wp2_with fail
                  refine (told b1.out (wordIf_impl s _ _ bd0)).mono ?_
                  rintro e w1 ⟨rfl, rfl⟩
                  go_wp2_with fail
                  refine (told b2.out (wordIf_impl nm _ _ bd1)).mono ?_
                  rintro e w1 ⟨rfl, rfl⟩
                  go_wp2_with fail
                  refine (told b3.out (wordIf_impl tg _ _ bd2)).mono ?_
                  rintro e w1 ⟨rfl, rfl⟩
                  go_wp2
                  go_returns
                  exact ⟨ret_bool (by rw [HO.out]; simp [a2.out, a3.out, b1.out, b2.out, b3.out]), by go_grown⟩
                · skip
                  by_cases hn0 : n = 0
                  · have gn : (n != 0) = false := by simp [hn0]
                    have HN0 := Lib.hid hn0; clear hn0
                    by_cases hc0 : n1 = 0
                    · have gc : ((n1 : Int) == 0) = true := by simp [hc0]
                      have HC0 := Lib.hid (show ch.length = 0 from HN.out.symm.trans hc0); clear hc0
                      go_enter Tryz.func91, Tryz.ntmps91
                      go_wp2_with fail
                      refine (told (show inB (5 : Int) 1 7 = true from inB_yes (by omega) (by omega)) (within_any _ _ _ _)).mono ?_
                      rintro e w1 ⟨rfl, rfl⟩
                      go_wp2_with fail
                      refine (told a2.out (within_any _ _ _ _)).mono ?_
                      rintro e w1 ⟨rfl, rfl⟩
                      go_wp2_with fail
                      refine (told a3.out (within_any _ _ _ _)).mono ?_
                      rintro e w1 ⟨rfl, rfl⟩
                      go_wp2_with fail
                      refine (told b1.out (wordIf_impl s _ _ bd0)).mono ?_
                      rintro e w1 ⟨rfl, rfl⟩
                      go_wp2_with fail
                      refine (told b2.out (wordIf_impl nm _ _ bd1)).mono ?_
                      rintro e w1 ⟨rfl, rfl⟩
                      go_wp2_with fail
                      refine (told b3.out (wordIf_impl tg _ _ bd2)).mono ?_
                      rintro e w1 ⟨rfl, rfl⟩
                      go_wp2
                      go_returns
                      exact ⟨ret_bool (by rw [HO.out]; simp [a2.out, a3.out, b1.out, b2.out, b3.out, HN0.out, HC0.out]), by go_grown⟩
                    · have gc : ((n1 : Int) == 0) = false := by simpa using hc0
                      have HC0 := Lib.hid (show ¬ ch.length = 0 from fun e => hc0 (HN.out.trans e)); clear hc0
                      go_enter Tryz.func91, Tryz.ntmps91
                      go_wp2_with fail
                      refine (told (show inB (5 : Int) 1 7 = true from inB_yes (by omega) (by omega)) (within_any _ _ _ _)).mono ?_
                      rintro e w1 ⟨rfl, rfl⟩
                      go_wp2_with fail
                      refine (told a2.out (within_any _ _ _ _)).mono ?_
                      rintro e w1 ⟨rfl, rfl⟩
                      go_wp2_with fail
                      refine (told a3.out (within_any _ _ _ _)).mono ?_
                      rintro e w1 ⟨rfl, rfl⟩
                      go_wp2_with fail
                      refine (told b1.out (wordIf_impl s _ _ bd0)).mono ?_
                      rintro e w1 ⟨rfl, rfl⟩
                      go_wp2_with fail
                      refine (told b2.out (wordIf_impl nm _ _ bd1)).mono ?_
                      rintro e w1 ⟨rfl, rfl⟩
                      go_wp2_with fail
                      refine (told b3.out (wordIf_impl tg _ _ bd2)).mono ?_
                      rintro e w1 ⟨rfl, rfl⟩
                      go_wp2
                      go_returns
                      exact ⟨ret_bool (by rw [HO.out]; simp [a2.out, a3.out, b1.out, b2.out, b3.out, HN0.out, HC0.out]), by go_grown⟩
                  · have gn : (n != 0) = true := by simpa using hn0
                    have HN0 := Lib.hid hn0; clear hn0
                    obtain ⟨qn, hqn⟩ : ∃ q, inB n 0 9 = q := ⟨_, rfl⟩
                    have cn := Lib.hid hqn; clear hqn
                    cases qn
                    · skip
                      go_enter Tryz.func91, Tryz.ntmps91
                      go_wp2_with fail
                      refine (told (show inB (5 : Int) 1 7 = true from inB_yes (by omega) (by omega)) (within_any _ _ _ _)).mono ?_
                      rintro e w1 ⟨rfl, rfl⟩
                      go_wp2_with fail
                      refine (told a2.out (within_any _ _ _ _)).mono ?_
                      rintro e w1 ⟨rfl, rfl⟩
                      go_wp2_with fail
                      refine (told a3.out (within_any _ _ _ _)).mono ?_
                      rintro e w1 ⟨rfl, rfl⟩
                      go_wp2_with fail
                      refine (told b1.out (wordIf_impl s _ _ bd0)).mono ?_
                      rintro e w1 ⟨rfl, rfl⟩
                      go_wp2_with fail
                      refine (told b2.out (wordIf_impl nm _ _ bd1)).mono ?_
                      rintro e w1 ⟨rfl, rfl⟩
                      go_wp2_with fail
                      refine (told b3.out (wordIf_impl tg _ _ bd2)).mono ?_
                      rintro e w1 ⟨rfl, rfl⟩
                      go_wp2_with fail
                      refine (told cn.out (within_any _ _ _ _)).mono ?_
                      rintro e w1 ⟨rfl, rfl⟩
                      go_wp2
                      go_returns
                      exact ⟨ret_bool (by rw [HO.out]; simp [a2.out, a3.out, b1.out, b2.out, b3.out, HN0.out, cn.out]), by go_grown⟩
                    · skip
                      by_cases hc0 : n1 = 0
                      · have gc : ((n1 : Int) == 0) = true := by simp [hc0]
                        have HC0 := Lib.hid (show ch.length = 0 from HN.out.symm.trans hc0); clear hc0
                        go_enter Tryz.func91, Tryz.ntmps91
                        go_wp2_with fail
                        refine (told (show inB (5 : Int) 1 7 = true from inB_yes (by omega) (by omega)) (within_any _ _ _ _)).mono ?_
                        rintro e w1 ⟨rfl, rfl⟩
                        go_wp2_with fail
                        refine (told a2.out (within_any _ _ _ _)).mono ?_
                        rintro e w1 ⟨rfl, rfl⟩
                        go_wp2_with fail
                        refine (told a3.out (within_any _ _ _ _)).mono ?_
                        rintro e w1 ⟨rfl, rfl⟩
                        go_wp2_with fail
                        refine (told b1.out (wordIf_impl s _ _ bd0)).mono ?_
                        rintro e w1 ⟨rfl, rfl⟩
                        go_wp2_with fail
                        refine (told b2.out (wordIf_impl nm _ _ bd1)).mono ?_
                        rintro e w1 ⟨rfl, rfl⟩
                        go_wp2_with fail
                        refine (told b3.out (wordIf_impl tg _ _ bd2)).mono ?_
                        rintro e w1 ⟨rfl, rfl⟩
                        go_wp2_with fail
                        refine (told cn.out (within_any _ _ _ _)).mono ?_
                        rintro e w1 ⟨rfl, rfl⟩
                        go_wp2
                        go_returns
                        exact ⟨ret_bool (by rw [HO.out]; simp [a2.out, a3.out, b1.out, b2.out, b3.out, HN0.out, cn.out, HC0.out]), by go_grown⟩
                      · have gc : ((n1 : Int) == 0) = false := by simpa using hc0
                        have HC0 := Lib.hid (show ¬ ch.length = 0 from fun e => hc0 (HN.out.trans e)); clear hc0
                        go_enter Tryz.func91, Tryz.ntmps91
                        go_wp2_with fail
                        refine (told (show inB (5 : Int) 1 7 = true from inB_yes (by omega) (by omega)) (within_any _ _ _ _)).mono ?_
                        rintro e w1 ⟨rfl, rfl⟩
                        go_wp2_with fail
                        refine (told a2.out (within_any _ _ _ _)).mono ?_
                        rintro e w1 ⟨rfl, rfl⟩
                        go_wp2_with fail
                        refine (told a3.out (within_any _ _ _ _)).mono ?_
                        rintro e w1 ⟨rfl, rfl⟩
                        go_wp2_with fail
                        refine (told b1.out (wordIf_impl s _ _ bd0)).mono ?_
                        rintro e w1 ⟨rfl, rfl⟩
                        go_wp2_with fail
                        refine (told b2.out (wordIf_impl nm _ _ bd1)).mono ?_
                        rintro e w1 ⟨rfl, rfl⟩
                        go_wp2_with fail
                        refine (told b3.out (wordIf_impl tg _ _ bd2)).mono ?_
                        rintro e w1 ⟨rfl, rfl⟩
                        go_wp2_with fail
                        refine (told cn.out (within_any _ _ _ _)).mono ?_
                        rintro e w1 ⟨rfl, rfl⟩
                        go_wp2
                        go_returns
                        exact ⟨ret_bool (by rw [HO.out]; simp [a2.out, a3.out, b1.out, b2.out, b3.out, HN0.out, cn.out, HC0.out]), by go_grown⟩
      · simp only [show inB (6 : Int) 1 7 = true from inB_yes (by omega) (by omega), Bool.true_and] at HO
        obtain ⟨qa2, ha2⟩ : ∃ q, inB cl 1 9 = q := ⟨_, rfl⟩
        have a2 := Lib.hid ha2; clear ha2
        cases qa2
        · skip
          go_enter Tryz.func91, Tryz.ntmps91
          go_wp2_with fail
          refine (told (show inB (6 : Int) 1 7 = true from inB_yes (by omega) (by omega)) (within_any _ _ _ _)).mono ?_
          rintro e w1 ⟨rfl, rfl⟩
          go_wp2_with fail
          refine (told a2.out (within_any _ _ _ _)).mono ?_
          rintro e w1 ⟨rfl, rfl⟩
          go_wp2
          go_returns
          exact ⟨ret_bool (by rw [HO.out]; simp [a2.out]), by go_grown⟩
        · skip
          obtain ⟨qa3, ha3⟩ : ∃ q, inB no 1 1000 = q := ⟨_, rfl⟩
          have a3 := Lib.hid ha3; clear ha3
          cases qa3
          · skip
            go_enter Tryz.func91, Tryz.ntmps91
            go_wp2_with fail
            refine (told (show inB (6 : Int) 1 7 = true from inB_yes (by omega) (by omega)) (within_any _ _ _ _)).mono ?_
            rintro e w1 ⟨rfl, rfl⟩
            go_wp2_with fail
            refine (told a2.out (within_any _ _ _ _)).mono ?_
            rintro e w1 ⟨rfl, rfl⟩
            go_wp2_with fail
            refine (told a3.out (within_any _ _ _ _)).mono ?_
            rintro e w1 ⟨rfl, rfl⟩
            go_wp2
            go_returns
            exact ⟨ret_bool (by rw [HO.out]; simp [a2.out, a3.out]), by go_grown⟩
          · skip
            obtain ⟨qb1, hb1⟩ : ∃ q, wifB s true = q := ⟨_, rfl⟩
            have b1 := Lib.hid hb1; clear hb1
            cases qb1
            · skip
              go_enter Tryz.func91, Tryz.ntmps91
              go_wp2_with fail
              refine (told (show inB (6 : Int) 1 7 = true from inB_yes (by omega) (by omega)) (within_any _ _ _ _)).mono ?_
              rintro e w1 ⟨rfl, rfl⟩
              go_wp2_with fail
              refine (told a2.out (within_any _ _ _ _)).mono ?_
              rintro e w1 ⟨rfl, rfl⟩
              go_wp2_with fail
              refine (told a3.out (within_any _ _ _ _)).mono ?_
              rintro e w1 ⟨rfl, rfl⟩
              go_wp2_with fail
              refine (told b1.out (wordIf_impl s _ _ bd0)).mono ?_
              rintro e w1 ⟨rfl, rfl⟩
              go_wp2
              go_returns
              exact ⟨ret_bool (by rw [HO.out]; simp [a2.out, a3.out, b1.out]), by go_grown⟩
            · skip
              obtain ⟨qb2, hb2⟩ : ∃ q, wifB nm false = q := ⟨_, rfl⟩
              have b2 := Lib.hid hb2; clear hb2
              cases qb2
              · skip
                go_enter Tryz.func91, Tryz.ntmps91
                go_wp2_with fail
                refine (told (show inB (6 : Int) 1 7 = true from inB_yes (by omega) (by omega)) (within_any _ _ _ _)).mono ?_
                rintro e w1 ⟨rfl, rfl⟩
                go_wp2_with fail
                refine (told a2.out (within_any _ _ _ _)).mono ?_
                rintro e w1 ⟨rfl, rfl⟩
                go_wp2_with fail
                refine (told a3.out (within_any _ _ _ _)).mono ?_
                rintro e w1 ⟨rfl, rfl⟩
                go_wp2_with fail
                refine (told b1.out (wordIf_impl s _ _ bd0)).mono ?_
                rintro e w1 ⟨rfl, rfl⟩
                go_wp2_with fail
                refine (told b2.out (wordIf_impl nm _ _ bd1)).mono ?_
                rintro e w1 ⟨rfl, rfl⟩
                go_wp2
                go_returns
                exact ⟨ret_bool (by rw [HO.out]; simp [a2.out, a3.out, b1.out, b2.out]), by go_grown⟩
              · skip
                obtain ⟨qb3, hb3⟩ : ∃ q, wifB tg false = q := ⟨_, rfl⟩
                have b3 := Lib.hid hb3; clear hb3
                cases qb3
                · skip
                  go_enter Tryz.func91, Tryz.ntmps91
                  go_wp2_with fail
                  refine (told (show inB (6 : Int) 1 7 = true from inB_yes (by omega) (by omega)) (within_any _ _ _ _)).mono ?_
                  rintro e w1 ⟨rfl, rfl⟩
                  go_wp2_with fail
                  refine (told a2.out (within_any _ _ _ _)).mono ?_
                  rintro e w1 ⟨rfl, rfl⟩
                  go_wp2_with fail
                  refine (told a3.out (within_any _ _ _ _)).mono ?_
                  rintro e w1 ⟨rfl, rfl⟩
                  go_wp2_with fail
                  refine (told b1.out (wordIf_impl s _ _ bd0)).mono ?_
                  rintro e w1 ⟨rfl, rfl⟩
                  go_wp2_with fail
                  refine (told b2.out (wordIf_impl nm _ _ bd1)).mono ?_
                  rintro e w1 ⟨rfl, rfl⟩
                  go_wp2_with fail
                  refine (told b3.out (wordIf_impl tg _ _ bd2)).mono ?_
                  rintro e w1 ⟨rfl, rfl⟩
                  go_wp2
                  go_returns
                  exact ⟨ret_bool (by rw [HO.out]; simp [a2.out, a3.out, b1.out, b2.out, b3.out]), by go_grown⟩
                · skip
                  by_cases hn0 : n = 0
                  · have gn : (n != 0) = false := by simp [hn0]
                    have HN0 := Lib.hid hn0; clear hn0
                    by_cases hc0 : n1 = 0
                    · have gc : ((n1 : Int) == 0) = true := by simp [hc0]
                      have HC0 := Lib.hid (show ch.length = 0 from HN.out.symm.trans hc0); clear hc0
                      go_enter Tryz.func91, Tryz.ntmps91
                      go_wp2_with fail
                      refine (told (show inB (6 : Int) 1 7 = true from inB_yes (by omega) (by omega)) (within_any _ _ _ _)).mono ?_
                      rintro e w1 ⟨rfl, rfl⟩
                      go_wp2_with fail
                      refine (told a2.out (within_any _ _ _ _)).mono ?_
                      rintro e w1 ⟨rfl, rfl⟩
                      go_wp2_with fail
                      refine (told a3.out (within_any _ _ _ _)).mono ?_
                      rintro e w1 ⟨rfl, rfl⟩
                      go_wp2_with fail
                      refine (told b1.out (wordIf_impl s _ _ bd0)).mono ?_
                      rintro e w1 ⟨rfl, rfl⟩
                      go_wp2_with fail
                      refine (told b2.out (wordIf_impl nm _ _ bd1)).mono ?_
                      rintro e w1 ⟨rfl, rfl⟩
                      go_wp2_with fail
                      refine (told b3.out (wordIf_impl tg _ _ bd2)).mono ?_
                      rintro e w1 ⟨rfl, rfl⟩
                      go_wp2
                      go_returns
                      exact ⟨ret_bool (by rw [HO.out]; simp [a2.out, a3.out, b1.out, b2.out, b3.out, HN0.out, HC0.out]), by go_grown⟩
                    · have gc : ((n1 : Int) == 0) = false := by simpa using hc0
                      have HC0 := Lib.hid (show ¬ ch.length = 0 from fun e => hc0 (HN.out.trans e)); clear hc0
                      go_enter Tryz.func91, Tryz.ntmps91
                      go_wp2_with fail
                      refine (told (show inB (6 : Int) 1 7 = true from inB_yes (by omega) (by omega)) (within_any _ _ _ _)).mono ?_
                      rintro e w1 ⟨rfl, rfl⟩
                      go_wp2_with fail
                      refine (told a2.out (within_any _ _ _ _)).mono ?_
                      rintro e w1 ⟨rfl, rfl⟩
                      go_wp2_with fail
                      refine (told a3.out (within_any _ _ _ _)).mono ?_
                      rintro e w1 ⟨rfl, rfl⟩
                      go_wp2_with fail
                      refine (told b1.out (wordIf_impl s _ _ bd0)).mono ?_
                      rintro e w1 ⟨rfl, rfl⟩
                      go_wp2_with fail
                      refine (told b2.out (wordIf_impl nm _ _ bd1)).mono ?_
                      rintro e w1 ⟨rfl, rfl⟩
                      go_wp2_with fail
                      refine (told b3.out (wordIf_impl tg _ _ bd2)).mono ?_
                      rintro e w1 ⟨rfl, rfl⟩
                      go_wp2
                      go_returns
                      exact ⟨ret_bool (by rw [HO.out]; simp [a2.out, a3.out, b1.out, b2.out, b3.out, HN0.out, HC0.out]), by go_grown⟩
                  · have gn : (n != 0) = true := by simpa using hn0
                    have HN0 := Lib.hid hn0; clear hn0
                    go_enter Tryz.func91, Tryz.ntmps91
                    go_wp2_with fail
                    refine (told (show inB (6 : Int) 1 7 = true from inB_yes (by omega) (by omega)) (within_any _ _ _ _)).mono ?_
                    rintro e w1 ⟨rfl, rfl⟩
                    go_wp2_with fail
                    refine (told a2.out (within_any _ _ _ _)).mono ?_
                    rintro e w1 ⟨rfl, rfl⟩
                    go_wp2_with fail
                    refine (told a3.out (within_any _ _ _ _)).mono ?_
                    rintro e w1 ⟨rfl, rfl⟩
                    go_wp2_with fail
                    refine (told b1.out (wordIf_impl s _ _ bd0)).mono ?_
                    rintro e w1 ⟨rfl, rfl⟩
                    go_wp2_with fail
                    refine (told b2.out (wordIf_impl nm _ _ bd1)).mono ?_
                    rintro e w1 ⟨rfl, rfl⟩
                    go_wp2_with fail
                    refine (told b3.out (wordIf_impl tg _ _ bd2)).mono ?_
                    rintro e w1 ⟨rfl, rfl⟩
                    go_wp2
                    go_returns
                    exact ⟨ret_bool (by rw [HO.out]; simp [a2.out, a3.out, b1.out, b2.out, b3.out, HN0.out]), by go_grown⟩
      · simp only [show inB (7 : Int) 1 7 = true from inB_yes (by omega) (by omega), Bool.true_and] at HO
        obtain ⟨qa2, ha2⟩ : ∃ q, inB cl 1 9 = q := ⟨_, rfl⟩
        have a2 := Lib.hid ha2; clear ha2
        cases qa2
        · skip
          go_enter Tryz.func91, Tryz.ntmps91
          go_wp2_with fail
          refine (told (show inB (7 : Int) 1 7 = true from inB_yes (by omega) (by omega)) (within_any _ _ _ _)).mono ?_
          rintro e w1 ⟨rfl, rfl⟩
          go_wp2_with fail
          refine (told a2.out (within_any _ _ _ _)).mono ?_
          rintro e w1 ⟨rfl, rfl⟩
          go_wp2
          go_returns
          exact ⟨ret_bool (by rw [HO.out]; simp [a2.out]), by go_grown⟩
        · skip
          obtain ⟨qa3, ha3⟩ : ∃ q, inB no 1 1000 = q := ⟨_, rfl⟩
          have a3 := Lib.hid ha3; clear ha3
          cases qa3
          · skip
            go_enter Tryz.func91, Tryz.ntmps91
            go_wp2_with fail
            refine (told (show inB (7 : Int) 1 7 = true from inB_yes (by omega) (by omega)) (within_any _ _ _ _)).mono ?_
            rintro e w1 ⟨rfl, rfl⟩
            go_wp2_with fail
            refine (told a2.out (within_any _ _ _ _)).mono ?_
            rintro e w1 ⟨rfl, rfl⟩
            go_wp2_with fail
            refine (told a3.out (within_any _ _ _ _)).mono ?_
            rintro e w1 ⟨rfl, rfl⟩
            go_wp2
            go_returns
            exact ⟨ret_bool (by rw [HO.out]; simp [a2.out, a3.out]), by go_grown⟩
          · skip
            obtain ⟨qb1, hb1⟩ : ∃ q, wifB s false = q := ⟨_, rfl⟩
            have b1 := Lib.hid hb1; clear hb1
            cases qb1
            · skip
              go_enter Tryz.func91, Tryz.ntmps91
              go_wp2_with fail
              refine (told (show inB (7 : Int) 1 7 = true from inB_yes (by omega) (by omega)) (within_any _ _ _ _)).mono ?_
              rintro e w1 ⟨rfl, rfl⟩
              go_wp2_with fail
              refine (told a2.out (within_any _ _ _ _)).mono ?_
              rintro e w1 ⟨rfl, rfl⟩
              go_wp2_with fail
              refine (told a3.out (within_any _ _ _ _)).mono ?_
              rintro e w1 ⟨rfl, rfl⟩
              go_wp2_with fail
              refine (told b1.out (wordIf_impl s _ _ bd0)).mono ?_
              rintro e w1 ⟨rfl, rfl⟩
              go_wp2
              go_returns
              exact ⟨ret_bool (by rw [HO.out]; simp [a2.out, a3.out, b1.out]), by go_grown⟩
            · skip
              obtain ⟨qb2, hb2⟩ : ∃ q, wifB nm false = q := ⟨_, rfl⟩
              have b2 := Lib.hid hb2; clear hb2
              cases qb2
              · skip
                go_enter Tryz.func91, Tryz.ntmps91
                go_wp2_with fail
                refine (told (show inB (7 : Int) 1 7 = true from inB_yes (by omega) (by omega)) (within_any _ _ _ _)).mono ?_
                rintro e w1 ⟨rfl, rfl⟩
                go_wp2_with fail
                refine (told a2.out (within_any _ _ _ _)).mono ?_
                rintro e w1 ⟨rfl, rfl⟩
                go_wp2_with fail
                refine (told a3.out (within_any _ _ _ _)).mono ?_
                rintro e w1 ⟨rfl, rfl⟩
                go_wp2_with fail
                refine (told b1.out (wordIf_impl s _ _ bd0)).mono ?_
                rintro e w1 ⟨rfl, rfl⟩
                go_wp2_with fail
                refine (told b2.out (wordIf_impl nm _ _ bd1)).mono ?_
                rintro e w1 ⟨rfl, rfl⟩
                go_wp2
                go_returns
                exact ⟨ret_bool (by rw [HO.out]; simp [a2.out, a3.out, b1.out, b2.out]), by go_grown⟩
              · skip
                obtain ⟨qb3, hb3⟩ : ∃ q, wifB tg false = q := ⟨_, rfl⟩
                have b3 := Lib.hid hb3; clear hb3
                cases qb3
                · skip
                  go_enter Tryz.func91, Tryz.ntmps91
                  go_wp2_with fail
                  refine (told (show inB (7 : Int) 1 7 = true from inB_yes (by omega) (by omega)) (within_any _ _ _ _)).mono ?_
                  rintro e w1 ⟨rfl, rfl⟩
                  go_wp2_with fail
                  refine (told a2.out (within_any _ _ _ _)).mono ?_
                  rintro e w1 ⟨rfl, rfl⟩
                  go_wp2_with fail
                  refine (told a3.out (within_any _ _ _ _)).mono ?_
                  rintro e w1 ⟨rfl, rfl⟩
                  go_wp2_with fail
                  refine (told b1.out (wordIf_impl s _ _ bd0)).mono ?_
                  rintro e w1 ⟨rfl, rfl⟩
                  go_wp2_with fail
                  refine (told b2.out (wordIf_impl nm _ _ bd1)).mono ?_
                  rintro e w1 ⟨rfl, rfl⟩
                  go_wp2_with fail
                  refine (told b3.out (wordIf_impl tg _ _ bd2)).mono ?_
                  rintro e w1 ⟨rfl, rfl⟩
                  go_wp2
                  go_returns
                  exact ⟨ret_bool (by rw [HO.out]; simp [a2.out, a3.out, b1.out, b2.out, b3.out]), by go_grown⟩
                · skip
                  by_cases hn0 : n = 0
                  · have gn : (n != 0) = false := by simp [hn0]
                    have HN0 := Lib.hid hn0; clear hn0
                    by_cases hc0 : n1 = 0
                    · have gc : ((n1 : Int) == 0) = true := by simp [hc0]
                      have HC0 := Lib.hid (show ch.length = 0 from HN.out.symm.trans hc0); clear hc0
                      go_enter Tryz.func91, Tryz.ntmps91
                      go_wp2_with fail
                      refine (told (show inB (7 : Int) 1 7 = true from inB_yes (by omega) (by omega)) (within_any _ _ _ _)).mono ?_
                      rintro e w1 ⟨rfl, rfl⟩
                      go_wp2_with fail
                      refine (told a2.out (within_any _ _ _ _)).mono ?_
                      rintro e w1 ⟨rfl, rfl⟩
                      go_wp2_with fail
                      refine (told a3.out (within_any _ _ _ _)).mono ?_
                      rintro e w1 ⟨rfl, rfl⟩
                      go_wp2_with fail
                      refine (told b1.out (wordIf_impl s _ _ bd0)).mono ?_
                      rintro e w1 ⟨rfl, rfl⟩
                      go_wp2_with fail
                      refine (told b2.out (wordIf_impl nm _ _ bd1)).mono ?_
                      rintro e w1 ⟨rfl, rfl⟩
                      go_wp2_with fail
                      refine (told b3.out (wordIf_impl tg _ _ bd2)).mono ?_
                      rintro e w1 ⟨rfl, rfl⟩
                      go_wp2
                      go_returns
                      exact ⟨ret_bool (by rw [HO.out]; simp [a2.out, a3.out, b1.out, b2.out, b3.out, HN0.out, HC0.out]), by go_grown⟩
                    · have gc : ((n1 : Int) == 0) = false := by simpa using hc0
                      have HC0 := Lib.hid (show ¬ ch.length = 0 from fun e => hc0 (HN.out.trans e)); clear hc0
                      go_enter Tryz.func91, Tryz.ntmps91
                      go_wp2_with fail
                      refine (told (show inB (7 : Int) 1 7 = true from inB_yes (by omega) (by omega)) (within_any _ _ _ _)).mono ?_
                      rintro e w1 ⟨rfl, rfl⟩
                      go_wp2_with fail
                      refine (told a2.out (within_any _ _ _ _)).mono ?_
                      rintro e w1 ⟨rfl, rfl⟩
                      go_wp2_with fail
                      refine (told a3.out (within_any _ _ _ _)).mono ?_
                      rintro e w1 ⟨rfl, rfl⟩
                      go_wp2_with fail
                      refine (told b1.out (wordIf_impl s _ _ bd0)).mono ?_
                      rintro e w1 ⟨rfl, rfl⟩
                      go_wp2_with fail
                      refine (told b2.out (wordIf_impl nm _ _ bd1)).mono ?_
                      rintro e w1 ⟨rfl, rfl⟩
                      go_wp2_with fail
                      refine (told b3.out (wordIf_impl tg _ _ bd2)).mono ?_
                      rintro e w1 ⟨rfl, rfl⟩
                      go_wp2
                      go_returns
                      exact ⟨ret_bool (by rw [HO.out]; simp [a2.out, a3.out, b1.out, b2.out, b3.out, HN0.out, HC0.out]), by go_grown⟩
                  · have gn : (n != 0) = true := by simpa using hn0
                    have HN0 := Lib.hid hn0; clear hn0
                    go_enter Tryz.func91, Tryz.ntmps91
                    go_wp2_with fail
                    refine (told (show inB (7 : Int) 1 7 = true from inB_yes (by omega) (by omega)) (within_any _ _ _ _)).mono ?_
                    rintro e w1 ⟨rfl, rfl⟩
                    go_wp2_with fail
                    refine (told a2.out (within_any _ _ _ _)).mono ?_
                    rintro e w1 ⟨rfl, rfl⟩
                    go_wp2_with fail
                    refine (told a3.out (within_any _ _ _ _)).mono ?_
                    rintro e w1 ⟨rfl, rfl⟩
                    go_wp2_with fail
                    refine (told b1.out (wordIf_impl s _ _ bd0)).mono ?_
                    rintro e w1 ⟨rfl, rfl⟩
                    go_wp2_with fail
                    refine (told b2.out (wordIf_impl nm _ _ bd1)).mono ?_
                    rintro e w1 ⟨rfl, rfl⟩
                    go_wp2_with fail
                    refine (told b3.out (wordIf_impl tg _ _ bd2)).mono ?_
                    rintro e w1 ⟨rfl, rfl⟩
                    go_wp2
                    go_returns
                    exact ⟨ret_bool (by rw [HO.out]; simp [a2.out, a3.out, b1.out, b2.out, b3.out, HN0.out]), by go_grown⟩
    · have q1 := Lib.hid (show inB x.kd 1 7 = false from inB_no (by omega))
      have q0 := Lib.hid (show inB x.kd 0 7 = false from inB_no (by omega))
      have hd : (x.kd == 0) = false := by simpa using hk0
      clear hk0 hkr
      unfold cmV
      go_enter Tryz.func91, Tryz.ntmps91
      go_wp2_with fail
      refine (told q1.out (within_any _ _ _ _)).mono ?_
      rintro e w1 ⟨rfl, rfl⟩
      go_wp2
      go_returns
      exact ⟨ret_bool (by rw [HO.out, q1.out]; simp), by go_grown⟩
end Go.Proofs.YtdphdnllhmnelaaGreat
/- What the program makes of a set in a row of its own: commit, tag, prune upon the row. -/
namespace Go.Proofs.YtdphdnllhmnelaaGreat
open Go.RowKit
/-- what a call upon the set at k leaves -/
def SetRow (l : List Cst) (m : Cm) (k qb n c : Nat) (fp : List Nat) (w : World) (e : Ending) (w' : World) : Prop :=
  ∃ fp', e = .returned (.string (setDo (cstAt l k) m).2) ∧ RowO cstF 165 2 fp' w' (some ⟨qb, 0, none⟩) n c (l.set k (setDo (cstAt l k) m).1) ∧ fp'.Nodup ∧ (∀ t ∈ fp', t ∈ fp ∨ w.heap.size ≤ t) ∧ Ch (fun t => t ∈ fp) w w'
structure SetCut (l : List Cst) (k qb n c : Nat) (fp : List Nat) (w : World) (x : Cst) (Q : Option Addr) (qn qc : Nat) (f : List Nat) (d1 d2 : List (List Value)) (f1 f2 : List (List Nat)) : Prop where
  hx : l[k]? = some x
  hfp : fp = blkL (some ⟨qb, 0, none⟩) ++ (f1 ++ f :: f2).flatten
  own : w.ownsRow 0 165 2 (.slice (some ⟨qb, 0, none⟩) n c) n (d1.flatten ++ ([.string x.nm, .slice Q qn qc] ++ d2.flatten))
  hl : n = l.length
  E1 : Els cstF w d1 f1 (l.take k)
  E2 : Els cstF w d2 f2 (l.drop (k + 1))
  S : RowO snpF 195 3 f w Q qn qc x.snaps
  c0 : w.cell? ⟨qb, k * 2, none⟩ = some (.string x.nm)
  c1 : w.cell? ⟨qb, k * 2 + 1, none⟩ = some (.slice Q qn qc)
  fz : w.frozen? ⟨qb, k * 2 + 1, none⟩ = false
  hN : (qb :: (f1.flatten ++ (f ++ f2.flatten))).Nodup
  Nf : f.Nodup
  hqf : qb ∉ f
  inn : ∀ t ∈ f, t ∈ fp
  qin : qb ∈ fp
  len : (l.take k).length = k
theorem set_cut {l : List Cst} {k qb n c : Nat} {fp : List Nat} {w : World} (hR : RowO cstF 165 2 fp w (some ⟨qb, 0, none⟩) n c l) (hN : fp.Nodup) (hk : k < n) :
    ∃ x Q qn qc f d1 d2 f1 f2, SetCut l k qb n c fp w x Q qn qc f d1 d2 f1 f2 := by
  obtain ⟨css, fps, rfl, own, hl, E⟩ := hR.ex
  obtain ⟨x, hx⟩ : ∃ x, l[k]? = some x := ⟨_, List.getElem?_eq_getElem (by omega)⟩
  obtain ⟨d1, d2, f1, f2, cs, f, rfl, rfl, E1, hF, E2⟩ := els_cut E hx
  obtain ⟨Q, qn, qc, fx, rfl, rfl, S⟩ := hF
  have own2 : w.ownsRow 0 165 2 (.slice (some ⟨qb, 0, none⟩) n c) n (d1.flatten ++ ([.string x.nm, .slice Q qn qc] ++ d2.flatten)) := by simpa [cstL] using own
  have hlen : (l.take k).length = k := by rw [List.length_take]; omega
  have hd1 : d1.flatten.length = k * 2 := by rw [E1.flat cstK, hlen]
  have hN' : (qb :: (f1.flatten ++ (f ++ f2.flatten))).Nodup := by simpa [blkL] using hN
  have hN2 := hN'
  simp only [List.nodup_cons, List.nodup_append, List.mem_append, not_or] at hN2
  exact ⟨x, Q, qn, qc, f, d1, d2, f1, f2, hx, rfl, own2, hl, E1, E2, S, by simpa using own_mid (r := 0) own2 hd1 rfl, own_mid (r := 1) own2 hd1 rfl, own.frozenAt _, hN', hN2.2.2.1.1, hN2.1.2.1,
    fun t ht => by simp [ht], by simp [blkL], hlen⟩
theorem SetCut.same {l : List Cst} {m : Cm} {k qb n c : Nat} {fp : List Nat} {w w' : World} {x : Cst} {Q : Option Addr} {qn qc : Nat} {f : List Nat} {d1 d2 : List (List Value)} {f1 f2 : List (List Nat)} (C : SetCut l k qb n c fp w x Q qn qc f d1 d2 f1 f2) (hR : RowO cstF 165 2 fp w (some ⟨qb, 0, none⟩) n c l) (hN : fp.Nodup)
    {t : ByteArray} (hs : setDo x m = (x, t)) (hb : Below w.heap.size w w') : SetRow l m k qb n c fp w (.returned (.string t)) w' := by
  unfold SetRow
  rw [cstAt_of C.hx, hs]
  have e1 : l.set k x = l := by rw [set_split C.hx, ← drop_one C.hx, List.take_append_drop]
  rw [e1]
  exact ⟨fp, rfl, hR.keep cstK hb, hN, fun t ht => .inl ht, Ch.of_below hb⟩
theorem SetCut.put {l : List Cst} {m : Cm} {k qb n c : Nat} {fp : List Nat} {w w1 w2 : World} {x x' : Cst} {Q Q' : Option Addr} {qn qc qn' qc' : Nat} {f f' : List Nat} {d1 d2 : List (List Value)} {f1 f2 : List (List Nat)} (C : SetCut l k qb n c fp w x Q qn qc f d1 d2 f1 f2)
    {t : ByteArray} (hs : setDo x m = (x', t)) (hx' : x'.nm = x.nm) (hc : Ch (fun b => b ∈ f) w w1) (hS : RowO snpF 195 3 f' w1 Q' qn' qc' x'.snaps) (hf : ∀ b ∈ f', b ∈ f ∨ w.heap.size ≤ b) (hfN : f'.Nodup) (hk : k < n)
    (hb : Below (w1.setCell ⟨qb, k * 2 + 1, none⟩ (.slice Q' qn' qc')).heap.size (w1.setCell ⟨qb, k * 2 + 1, none⟩ (.slice Q' qn' qc')) w2) : SetRow l m k qb n c fp w (.returned (.string t)) w2 := by
  have hl := C.hl
  obtain ⟨hR, hN, hC⟩ := upd_els1 (j := 1) (v := .slice Q' qn' qc') (x' := x') (w8 := w1.setCell ⟨qb, k * 2 + 1, none⟩ (.slice Q' qn' qc')) cstK C.own C.E1 C.E2 rfl (by omega) (by rw [C.len, List.length_drop]; omega) C.hN hc
    ⟨Q', qn', qc', f', by rw [cstL, hx']; rfl, rfl, hS⟩ hf hfN (by rw [C.len])
  unfold SetRow
  rw [cstAt_of C.hx, hs, set_split C.hx]
  refine ⟨_, rfl, hR.keep cstK hb, by simpa [blkL] using hN, fun t ht => ?_, (hC.mono (fun b hb => ?_)).trans (Ch.of_below hb)⟩
  · rw [C.hfp]
    simp only [blkL, List.flatten_append, List.flatten_cons, List.mem_append, Option.map_some, Option.toList_some, List.mem_singleton] at ht ⊢
    rcases ht with h | h | h | h
    · exact .inl (.inl h)
    · exact .inl (.inr (.inl h))
    · rcases hf t h with h2 | h2
      · exact .inl (.inr (.inr (.inl h2)))
      · exact .inr h2
    · exact .inl (.inr (.inr (.inr h)))
  · rcases hb with h | h
    · rw [h]; exact C.qin
    · exact C.inn b h
theorem SetCut.tagged {l : List Cst} {m : Cm} {k qb n c : Nat} {fp : List Nat} {w w1 : World} {x x' : Cst} {Q : Option Addr} {qn qc : Nat} {f : List Nat} {q1 q2 : List (List Value)} {f1 f2 : List (List Nat)} (C : SetCut l k qb n c fp w x Q qn qc f q1 q2 f1 f2) (hN : fp.Nodup)
    {t : ByteArray} (hs : setDo x m = (x', t)) (hx' : x'.nm = x.nm) (hc : Ch (fun b => b ∈ f) w w1) (hS : RowO snpF 195 3 f w1 Q qn qc x'.snaps) (hk : k < n) : SetRow l m k qb n c fp w (.returned (.string t)) w1 := by
  have hl := C.hl
  have hN2 := C.hN
  simp only [List.nodup_cons, List.nodup_append, List.mem_append, not_or] at hN2
  have d1 : ∀ b ∈ f1.flatten, ¬ b ∈ f := fun b h1 h2 => by grind
  have d2 : ∀ b ∈ f2.flatten, ¬ b ∈ f := fun b h1 h2 => by grind
  have o1 := own_chL C.own hc (fun b hb h2 => C.hqf (by
    have : b = qb := by simpa [blkL] using hb
    rw [← this]; exact h2))
  have E1 := C.E1.ch cstK hc d1
  have E2 := C.E2.ch cstK hc d2
  unfold SetRow
  rw [cstAt_of C.hx, hs, set_split C.hx]
  refine ⟨fp, rfl, ?_, hN, fun t ht => .inl ht, hc.mono (fun b hb => C.inn b hb)⟩
  have hX : cstF f w1 [.string x.nm, .slice Q qn qc] x' := ⟨Q, qn, qc, f, by rw [cstL, hx'], rfl, hS⟩
  have := RowO.intro (F := cstF) (e := 165) (sz := 2) (A := some ⟨qb, 0, none⟩) (n := n) (c := c) (l := l.take k ++ x' :: l.drop (k + 1)) (css := q1 ++ [.string x.nm, .slice Q qn qc] :: q2) (by simpa using o1) (by simp [C.len]; omega) (E1.app (l' := x' :: l.drop (k + 1)) (css' := [.string x.nm, .slice Q qn qc] :: q2) (fps' := f :: f2) (show _ ∧ _ from ⟨hX, E2⟩))
  rw [C.hfp]
  simp only []
  exact this
attribute [local irreducible] StrsAt StrR StrO RowR RowO snpFnd bareTo pruL dgT
set_option maxRecDepth 8000 in
theorem commit_row (l : List Cst) (m : Cm) (hkd : m.kd = 3) (k qb n c : Nat) (fp : List Nat) (A1 : Option Addr) (n1 c1 : Nat) (w : World) (hR : RowO cstF 165 2 fp w (some ⟨qb, 0, none⟩) n c l) (hN : fp.Nodup) (hk : k < n) (hm : StrR w A1 n1 c1 m.ch) (hn1 : n1 ≤ 1000) (hbd : ∀ s ∈ l, s.snaps.length ≤ 9) :
    Calls Tryz.prog 174 #[.pointer (some ⟨qb, k * 2, none⟩), cmV m (.slice A1 n1 c1)] w (SetRow l m k qb n c fp w) := by
  obtain ⟨x, Q, qn, qc, f, d1, d2, f1, f2, C⟩ := set_cut hR hN hk
  have hql := C.S.len
  have hq9 := hbd x (List.mem_of_getElem? C.hx)
  refine (commit_impl x m qb (k * 2) Q qn qc f A1 n1 c1 w C.c0 C.c1 C.fz C.S C.Nf C.hqf hm hn1 (by omega)).mono ?_
  rintro e w' (⟨rfl, hf, hb⟩ | ⟨rfl, hf, h5, hb⟩ | ⟨rfl, hf, h5, w1, Q', c', fq', rfl, hC, hS, hN', hF⟩)
  · exact C.same hR hN (by unfold setDo; rw [if_pos hkd, if_pos hf]) hb
  · exact C.same hR hN (by unfold setDo; rw [if_pos hkd, if_neg (by omega), if_pos (by omega)]) hb
  · exact C.put (x' := comS x m) (by unfold setDo; rw [if_pos hkd, if_neg (by omega), if_neg (by omega)]) rfl hC hS hF hN' hk (Below.refl _ _)
set_option maxRecDepth 8000 in
theorem tag_row (l : List Cst) (m : Cm) (hkd : m.kd = 4) (k qb n c : Nat) (fp : List Nat) (A1 : Option Addr) (n1 c1 : Nat) (w : World) (hR : RowO cstF 165 2 fp w (some ⟨qb, 0, none⟩) n c l) (hN : fp.Nodup) (hk : k < n) (hbd : ∀ s ∈ l, s.snaps.length ≤ 9) :
    Calls Tryz.prog 175 #[.pointer (some ⟨qb, k * 2, none⟩), cmV m (.slice A1 n1 c1)] w (SetRow l m k qb n c fp w) := by
  obtain ⟨x, Q, qn, qc, f, d1, d2, f1, f2, C⟩ := set_cut hR hN hk
  have hql := C.S.len
  have hq9 := hbd x (List.mem_of_getElem? C.hx)
  refine (tag_impl x m qb (k * 2) Q qn qc f A1 n1 c1 w C.c0 C.c1 C.S C.Nf C.hqf (by omega)).mono ?_
  rintro e w' (⟨rfl, hf, hb⟩ | ⟨rfl, j, hf, hj, hS, hC⟩)
  · exact C.same hR hN (by unfold setDo; rw [if_neg (by omega), if_pos hkd, if_pos hf]) hb
  · exact C.tagged hN (x' := tagS x m j) (by unfold setDo; rw [if_neg (by omega), if_pos hkd, if_neg (by omega), hf, Int.toNat_natCast]) rfl hC hS hk
set_option maxRecDepth 8000 in
theorem prune_row (l : List Cst) (m : Cm) (hkd : m.kd = 5) (h0 : 0 ≤ m.n) (h9 : m.n ≤ 9) (k qb n c : Nat) (fp : List Nat) (w : World) (hR : RowO cstF 165 2 fp w (some ⟨qb, 0, none⟩) n c l) (hN : fp.Nodup) (hk : k < n) (hbd : ∀ s ∈ l, s.snaps.length ≤ 9) :
    Calls Tryz.prog 176 #[.pointer (some ⟨qb, k * 2, none⟩), .int .i64 m.n] w (SetRow l m k qb n c fp w) := by
  obtain ⟨x, Q, qn, qc, f, d1, d2, f1, f2, C⟩ := set_cut hR hN hk
  have hql := C.S.len
  have hq9 := hbd x (List.mem_of_getElem? C.hx)
  have em : m.n = ((m.n.toNat : Nat) : Int) := by omega
  have := prune_impl x m.n.toNat qb (k * 2) Q qn qc f w C.c1 C.fz C.S C.Nf C.hqf (by omega) (by omega)
  rw [← em] at this
  refine this.mono ?_
  rintro e w' ⟨rfl, w1, Q', n', c', fq', hb, hb1, hS, hN', hF⟩
  exact C.put (x' := ⟨x.nm, pruL x.snaps (goneN x.snaps m.n.toNat)⟩) (by unfold setDo; rw [if_neg (by omega), if_neg (by omega), if_pos hkd]) rfl (Ch.of_below hb1) hS hF hN' hk hb
end Go.Proofs.YtdphdnllhmnelaaGreat
