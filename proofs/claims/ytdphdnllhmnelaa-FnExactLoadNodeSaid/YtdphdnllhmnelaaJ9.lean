/- Contracts and lemmas: CmdOkS, ShowCmd, CopyK. -/
import Derived.Test.YtdphdnllhmnelaaJ6
import Derived.Test.YtdphdnllhmnelaaJ7
import Derived.Test.YtdphdnllhmnelaaJ0
/- Contract of the reference's CmdOk. -/
namespace Go.Proofs.Ytdphdnllhmnelaa
open Go.RowKit
attribute [local irreducible] StrsAt wifB ok8 inB
set_option maxRecDepth 8000 in
set_option maxHeartbeats 4000000 in
theorem cmdOk_spec (x : Cm) (A1 : Option Addr) (n1 c1 : Nat) (w : World) (h1 : StrR w A1 n1 c1 x.ch) (hb : cmB x) :
    Calls Try.prog 119 #[cmV x (.slice A1 n1 c1)] w fun e w' => e = .returned (.bool (cmOkB x)) ∧ Below w.heap.size w w' := by
  obtain ⟨bd0, bd1, bd2, bd3⟩ := hb
  have HN := Lib.hid h1.len
  have hn1 : n1 ≤ 9223372036854775807 := by have := h1.len; have := bd3.1; omega
  by_cases hk0 : x.kd = 0
  · have HS := Lib.hid (show cmOkB x = sameB x cmNil by unfold cmOkB; rw [if_pos hk0])
    have HK := Lib.hid hk0
    have hd : (x.kd == 0) = true := by simpa using hk0
    have q0 : inB x.kd 0 7 = true := inB_yes (by omega) (by omega)
    clear hk0
    unfold cmV
    go_enter Try.func119, Try.ntmps119
    go_wp2_with fail
    refine (told q0 (l1In_any _ _ _ _)).mono ?_
    rintro e w1 ⟨rfl, rfl⟩
    go_wp2_with fail
    refine (sameCmd_spec x cmNil _ _ _ _ _ _ _ (h1.keep (by go_grown)) (cmNil_R _) hn1 (by omega)).mono ?_
    rintro e w2 ⟨rfl, hb2⟩
    go_wp2
    go_returns
    exact ⟨ret_bool (by rw [HS.out]), bthen (by go_grown) hb2⟩
  · have HO := Lib.hid (show cmOkB x = (inB x.kd 1 7 && inB x.cl 1 9 && inB x.no 1 1000 && wifB x.s (decide (x.kd ≠ 7)) && wifB x.nm (decide (x.kd = 3) || decide (x.kd = 4)) && wifB x.tg (decide (x.kd = 4)) && (decide (x.n = 0) || (decide (x.kd = 5) && inB x.n 0 9)) && (if x.kd = 3 then inB (x.ch.length : Int) 1 4 && ok8 x.ch else decide (x.ch.length = 0))) by unfold cmOkB; rw [if_neg hk0])
    by_cases hkr : 1 ≤ x.kd ∧ x.kd ≤ 7
    · have hkc : x.kd = 1 ∨ x.kd = 2 ∨ x.kd = 3 ∨ x.kd = 4 ∨ x.kd = 5 ∨ x.kd = 6 ∨ x.kd = 7 := by omega
      clear hk0 hkr
      unfold cmV
      obtain ⟨kd, cl, no, s, nm, tg, n, ch⟩ := x
      simp only at *
      rcases hkc with rfl | rfl | rfl | rfl | rfl | rfl | rfl
      · simp only [show inB (1 : Int) 1 7 = true from inB_yes (by omega) (by omega), Bool.true_and] at HO
        obtain ⟨qa2, ha2⟩ : ∃ q, inB cl 1 9 = q := ⟨_, rfl⟩
        have a2 := Lib.hid ha2; clear ha2
        cases qa2
        · skip
          go_enter Try.func119, Try.ntmps119
          go_wp2_with fail
          refine (told (show inB (1 : Int) 0 7 = true from inB_yes (by omega) (by omega)) (l1In_any _ _ _ _)).mono ?_
          rintro e w1 ⟨rfl, rfl⟩
          go_wp2_with fail
          refine (told a2.out (l1In_any _ _ _ _)).mono ?_
          rintro e w1 ⟨rfl, rfl⟩
          go_wp2
          go_returns
          exact ⟨ret_bool (by rw [HO.out]; simp [a2.out]), by go_grown⟩
        · skip
          obtain ⟨qa3, ha3⟩ : ∃ q, inB no 1 1000 = q := ⟨_, rfl⟩
          have a3 := Lib.hid ha3; clear ha3
          cases qa3
          · skip
            go_enter Try.func119, Try.ntmps119
            go_wp2_with fail
            refine (told (show inB (1 : Int) 0 7 = true from inB_yes (by omega) (by omega)) (l1In_any _ _ _ _)).mono ?_
            rintro e w1 ⟨rfl, rfl⟩
            go_wp2_with fail
            refine (told a2.out (l1In_any _ _ _ _)).mono ?_
            rintro e w1 ⟨rfl, rfl⟩
            go_wp2_with fail
            refine (told a3.out (l1In_any _ _ _ _)).mono ?_
            rintro e w1 ⟨rfl, rfl⟩
            go_wp2
            go_returns
            exact ⟨ret_bool (by rw [HO.out]; simp [a2.out, a3.out]), by go_grown⟩
          · skip
            obtain ⟨qb1, hb1⟩ : ∃ q, wifB s true = q := ⟨_, rfl⟩
            have b1 := Lib.hid hb1; clear hb1
            cases qb1
            · skip
              go_enter Try.func119, Try.ntmps119
              go_wp2_with fail
              refine (told (show inB (1 : Int) 0 7 = true from inB_yes (by omega) (by omega)) (l1In_any _ _ _ _)).mono ?_
              rintro e w1 ⟨rfl, rfl⟩
              go_wp2_with fail
              refine (told a2.out (l1In_any _ _ _ _)).mono ?_
              rintro e w1 ⟨rfl, rfl⟩
              go_wp2_with fail
              refine (told a3.out (l1In_any _ _ _ _)).mono ?_
              rintro e w1 ⟨rfl, rfl⟩
              go_wp2_with fail
              refine (told b1.out (l4May_spec s _ _ bd0)).mono ?_
              rintro e w1 ⟨rfl, rfl⟩
              go_wp2
              go_returns
              exact ⟨ret_bool (by rw [HO.out]; simp [a2.out, a3.out, b1.out]), by go_grown⟩
            · skip
              obtain ⟨qb2, hb2⟩ : ∃ q, wifB nm false = q := ⟨_, rfl⟩
              have b2 := Lib.hid hb2; clear hb2
              cases qb2
              · skip
                go_enter Try.func119, Try.ntmps119
                go_wp2_with fail
                refine (told (show inB (1 : Int) 0 7 = true from inB_yes (by omega) (by omega)) (l1In_any _ _ _ _)).mono ?_
                rintro e w1 ⟨rfl, rfl⟩
                go_wp2_with fail
                refine (told a2.out (l1In_any _ _ _ _)).mono ?_
                rintro e w1 ⟨rfl, rfl⟩
                go_wp2_with fail
                refine (told a3.out (l1In_any _ _ _ _)).mono ?_
                rintro e w1 ⟨rfl, rfl⟩
                go_wp2_with fail
                refine (told b1.out (l4May_spec s _ _ bd0)).mono ?_
                rintro e w1 ⟨rfl, rfl⟩
                go_wp2_with fail
                refine (told b2.out (l4May_spec nm _ _ bd1)).mono ?_
                rintro e w1 ⟨rfl, rfl⟩
                go_wp2
                go_returns
                exact ⟨ret_bool (by rw [HO.out]; simp [a2.out, a3.out, b1.out, b2.out]), by go_grown⟩
              · skip
                obtain ⟨qb3, hb3⟩ : ∃ q, wifB tg false = q := ⟨_, rfl⟩
                have b3 := Lib.hid hb3; clear hb3
                cases qb3
                · skip
                  go_enter Try.func119, Try.ntmps119
                  go_wp2_with fail
                  refine (told (show inB (1 : Int) 0 7 = true from inB_yes (by omega) (by omega)) (l1In_any _ _ _ _)).mono ?_
                  rintro e w1 ⟨rfl, rfl⟩
                  go_wp2_with fail
                  refine (told a2.out (l1In_any _ _ _ _)).mono ?_
                  rintro e w1 ⟨rfl, rfl⟩
                  go_wp2_with fail
                  refine (told a3.out (l1In_any _ _ _ _)).mono ?_
                  rintro e w1 ⟨rfl, rfl⟩
                  go_wp2_with fail
                  refine (told b1.out (l4May_spec s _ _ bd0)).mono ?_
                  rintro e w1 ⟨rfl, rfl⟩
                  go_wp2_with fail
                  refine (told b2.out (l4May_spec nm _ _ bd1)).mono ?_
                  rintro e w1 ⟨rfl, rfl⟩
                  go_wp2_with fail
                  refine (told b3.out (l4May_spec tg _ _ bd2)).mono ?_
                  rintro e w1 ⟨rfl, rfl⟩
                  go_wp2
                  go_returns
                  exact ⟨ret_bool (by rw [HO.out]; simp [a2.out, a3.out, b1.out, b2.out, b3.out]), by go_grown⟩
                · skip
                  by_cases hn0 : n = 0
                  · have gn : (n != 0) = false := by simp [hn0]
                    have HN0 := Lib.hid hn0; clear hn0
                    by_cases hc0 : n1 = 0
                    · have gc : ((n1 : Int) == 0) = true := by simp [hc0]
                      have HC0 := Lib.hid (show ch.length = 0 from HN.out.symm.trans hc0); clear hc0
                      go_enter Try.func119, Try.ntmps119
                      go_wp2_with fail
                      refine (told (show inB (1 : Int) 0 7 = true from inB_yes (by omega) (by omega)) (l1In_any _ _ _ _)).mono ?_
                      rintro e w1 ⟨rfl, rfl⟩
                      go_wp2_with fail
                      refine (told a2.out (l1In_any _ _ _ _)).mono ?_
                      rintro e w1 ⟨rfl, rfl⟩
                      go_wp2_with fail
                      refine (told a3.out (l1In_any _ _ _ _)).mono ?_
                      rintro e w1 ⟨rfl, rfl⟩
                      go_wp2_with fail
                      refine (told b1.out (l4May_spec s _ _ bd0)).mono ?_
                      rintro e w1 ⟨rfl, rfl⟩
                      go_wp2_with fail
                      refine (told b2.out (l4May_spec nm _ _ bd1)).mono ?_
                      rintro e w1 ⟨rfl, rfl⟩
                      go_wp2_with fail
                      refine (told b3.out (l4May_spec tg _ _ bd2)).mono ?_
                      rintro e w1 ⟨rfl, rfl⟩
                      go_wp2
                      go_returns
                      exact ⟨ret_bool (by rw [HO.out]; simp [a2.out, a3.out, b1.out, b2.out, b3.out, HN0.out, HC0.out]), by go_grown⟩
                    · have gc : ((n1 : Int) == 0) = false := by simpa using hc0
                      have HC0 := Lib.hid (show ¬ ch.length = 0 from fun e => hc0 (HN.out.trans e)); clear hc0
                      go_enter Try.func119, Try.ntmps119
                      go_wp2_with fail
                      refine (told (show inB (1 : Int) 0 7 = true from inB_yes (by omega) (by omega)) (l1In_any _ _ _ _)).mono ?_
                      rintro e w1 ⟨rfl, rfl⟩
                      go_wp2_with fail
                      refine (told a2.out (l1In_any _ _ _ _)).mono ?_
                      rintro e w1 ⟨rfl, rfl⟩
                      go_wp2_with fail
                      refine (told a3.out (l1In_any _ _ _ _)).mono ?_
                      rintro e w1 ⟨rfl, rfl⟩
                      go_wp2_with fail
                      refine (told b1.out (l4May_spec s _ _ bd0)).mono ?_
                      rintro e w1 ⟨rfl, rfl⟩
                      go_wp2_with fail
                      refine (told b2.out (l4May_spec nm _ _ bd1)).mono ?_
                      rintro e w1 ⟨rfl, rfl⟩
                      go_wp2_with fail
                      refine (told b3.out (l4May_spec tg _ _ bd2)).mono ?_
                      rintro e w1 ⟨rfl, rfl⟩
                      go_wp2
                      go_returns
                      exact ⟨ret_bool (by rw [HO.out]; simp [a2.out, a3.out, b1.out, b2.out, b3.out, HN0.out, HC0.out]), by go_grown⟩
                  · have gn : (n != 0) = true := by simpa using hn0
                    have HN0 := Lib.hid hn0; clear hn0
                    go_enter Try.func119, Try.ntmps119
                    go_wp2_with fail
                    refine (told (show inB (1 : Int) 0 7 = true from inB_yes (by omega) (by omega)) (l1In_any _ _ _ _)).mono ?_
                    rintro e w1 ⟨rfl, rfl⟩
                    go_wp2_with fail
                    refine (told a2.out (l1In_any _ _ _ _)).mono ?_
                    rintro e w1 ⟨rfl, rfl⟩
                    go_wp2_with fail
                    refine (told a3.out (l1In_any _ _ _ _)).mono ?_
                    rintro e w1 ⟨rfl, rfl⟩
                    go_wp2_with fail
                    refine (told b1.out (l4May_spec s _ _ bd0)).mono ?_
                    rintro e w1 ⟨rfl, rfl⟩
                    go_wp2_with fail
                    refine (told b2.out (l4May_spec nm _ _ bd1)).mono ?_
                    rintro e w1 ⟨rfl, rfl⟩
                    go_wp2_with fail
                    refine (told b3.out (l4May_spec tg _ _ bd2)).mono ?_
                    rintro e w1 ⟨rfl, rfl⟩
                    go_wp2
                    go_returns
                    exact ⟨ret_bool (by rw [HO.out]; simp [a2.out, a3.out, b1.out, b2.out, b3.out, HN0.out]), by go_grown⟩
      · simp only [show inB (2 : Int) 1 7 = true from inB_yes (by omega) (by omega), Bool.true_and] at HO
        obtain ⟨qa2, ha2⟩ : ∃ q, inB cl 1 9 = q := ⟨_, rfl⟩
        have a2 := Lib.hid ha2; clear ha2
        cases qa2
        · skip
          go_enter Try.func119, Try.ntmps119
          go_wp2_with fail
          refine (told (show inB (2 : Int) 0 7 = true from inB_yes (by omega) (by omega)) (l1In_any _ _ _ _)).mono ?_
          rintro e w1 ⟨rfl, rfl⟩
          go_wp2_with fail
          refine (told a2.out (l1In_any _ _ _ _)).mono ?_
          rintro e w1 ⟨rfl, rfl⟩
          go_wp2
          go_returns
          exact ⟨ret_bool (by rw [HO.out]; simp [a2.out]), by go_grown⟩
        · skip
          obtain ⟨qa3, ha3⟩ : ∃ q, inB no 1 1000 = q := ⟨_, rfl⟩
          have a3 := Lib.hid ha3; clear ha3
          cases qa3
          · skip
            go_enter Try.func119, Try.ntmps119
            go_wp2_with fail
            refine (told (show inB (2 : Int) 0 7 = true from inB_yes (by omega) (by omega)) (l1In_any _ _ _ _)).mono ?_
            rintro e w1 ⟨rfl, rfl⟩
            go_wp2_with fail
            refine (told a2.out (l1In_any _ _ _ _)).mono ?_
            rintro e w1 ⟨rfl, rfl⟩
            go_wp2_with fail
            refine (told a3.out (l1In_any _ _ _ _)).mono ?_
            rintro e w1 ⟨rfl, rfl⟩
            go_wp2
            go_returns
            exact ⟨ret_bool (by rw [HO.out]; simp [a2.out, a3.out]), by go_grown⟩
          · skip
            obtain ⟨qb1, hb1⟩ : ∃ q, wifB s true = q := ⟨_, rfl⟩
            have b1 := Lib.hid hb1; clear hb1
            cases qb1
            · skip
              go_enter Try.func119, Try.ntmps119
              go_wp2_with fail
              refine (told (show inB (2 : Int) 0 7 = true from inB_yes (by omega) (by omega)) (l1In_any _ _ _ _)).mono ?_
              rintro e w1 ⟨rfl, rfl⟩
              go_wp2_with fail
              refine (told a2.out (l1In_any _ _ _ _)).mono ?_
              rintro e w1 ⟨rfl, rfl⟩
              go_wp2_with fail
              refine (told a3.out (l1In_any _ _ _ _)).mono ?_
              rintro e w1 ⟨rfl, rfl⟩
              go_wp2_with fail
              refine (told b1.out (l4May_spec s _ _ bd0)).mono ?_
              rintro e w1 ⟨rfl, rfl⟩
              go_wp2
              go_returns
              exact ⟨ret_bool (by rw [HO.out]; simp [a2.out, a3.out, b1.out]), by go_grown⟩
            · skip
              obtain ⟨qb2, hb2⟩ : ∃ q, wifB nm false = q := ⟨_, rfl⟩
              have b2 := Lib.hid hb2; clear hb2
              cases qb2
              · skip
                go_enter Try.func119, Try.ntmps119
                go_wp2_with fail
                refine (told (show inB (2 : Int) 0 7 = true from inB_yes (by omega) (by omega)) (l1In_any _ _ _ _)).mono ?_
                rintro e w1 ⟨rfl, rfl⟩
                go_wp2_with fail
                refine (told a2.out (l1In_any _ _ _ _)).mono ?_
                rintro e w1 ⟨rfl, rfl⟩
                go_wp2_with fail
                refine (told a3.out (l1In_any _ _ _ _)).mono ?_
                rintro e w1 ⟨rfl, rfl⟩
                go_wp2_with fail
                refine (told b1.out (l4May_spec s _ _ bd0)).mono ?_
                rintro e w1 ⟨rfl, rfl⟩
                go_wp2_with fail
                refine (told b2.out (l4May_spec nm _ _ bd1)).mono ?_
                rintro e w1 ⟨rfl, rfl⟩
                go_wp2
                go_returns
                exact ⟨ret_bool (by rw [HO.out]; simp [a2.out, a3.out, b1.out, b2.out]), by go_grown⟩
              · skip
                obtain ⟨qb3, hb3⟩ : ∃ q, wifB tg false = q := ⟨_, rfl⟩
                have b3 := Lib.hid hb3; clear hb3
                cases qb3
                · skip
                  go_enter Try.func119, Try.ntmps119
                  go_wp2_with fail
                  refine (told (show inB (2 : Int) 0 7 = true from inB_yes (by omega) (by omega)) (l1In_any _ _ _ _)).mono ?_
                  rintro e w1 ⟨rfl, rfl⟩
                  go_wp2_with fail
                  refine (told a2.out (l1In_any _ _ _ _)).mono ?_
                  rintro e w1 ⟨rfl, rfl⟩
                  go_wp2_with fail
                  refine (told a3.out (l1In_any _ _ _ _)).mono ?_
                  rintro e w1 ⟨rfl, rfl⟩
                  go_wp2_with fail
                  refine (told b1.out (l4May_spec s _ _ bd0)).mono ?_
                  rintro e w1 ⟨rfl, rfl⟩
                  go_wp2_with fail
                  refine (told b2.out (l4May_spec nm _ _ bd1)).mono ?_
                  rintro e w1 ⟨rfl, rfl⟩
                  go_wp2_with fail
                  refine (told b3.out (l4May_spec tg _ _ bd2)).mono ?_
                  rintro e w1 ⟨rfl, rfl⟩
                  go_wp2
                  go_returns
                  exact ⟨ret_bool (by rw [HO.out]; simp [a2.out, a3.out, b1.out, b2.out, b3.out]), by go_grown⟩
                · skip
                  by_cases hn0 : n = 0
                  · have gn : (n != 0) = false := by simp [hn0]
                    have HN0 := Lib.hid hn0; clear hn0
                    by_cases hc0 : n1 = 0
                    · have gc : ((n1 : Int) == 0) = true := by simp [hc0]
                      have HC0 := Lib.hid (show ch.length = 0 from HN.out.symm.trans hc0); clear hc0
                      go_enter Try.func119, Try.ntmps119
                      go_wp2_with fail
                      refine (told (show inB (2 : Int) 0 7 = true from inB_yes (by omega) (by omega)) (l1In_any _ _ _ _)).mono ?_
                      rintro e w1 ⟨rfl, rfl⟩
                      go_wp2_with fail
                      refine (told a2.out (l1In_any _ _ _ _)).mono ?_
                      rintro e w1 ⟨rfl, rfl⟩
                      go_wp2_with fail
                      refine (told a3.out (l1In_any _ _ _ _)).mono ?_
                      rintro e w1 ⟨rfl, rfl⟩
                      go_wp2_with fail
                      refine (told b1.out (l4May_spec s _ _ bd0)).mono ?_
                      rintro e w1 ⟨rfl, rfl⟩
                      go_wp2_with fail
                      refine (told b2.out (l4May_spec nm _ _ bd1)).mono ?_
                      rintro e w1 ⟨rfl, rfl⟩
                      go_wp2_with fail
                      refine (told b3.out (l4May_spec tg _ _ bd2)).mono ?_
                      rintro e w1 ⟨rfl, rfl⟩
                      go_wp2
                      go_returns
                      exact ⟨ret_bool (by rw [HO.out]; simp [a2.out, a3.out, b1.out, b2.out, b3.out, HN0.out, HC0.out]), by go_grown⟩
                    · have gc : ((n1 : Int) == 0) = false := by simpa using hc0
                      have HC0 := Lib.hid (show ¬ ch.length = 0 from fun e => hc0 (HN.out.trans e)); clear hc0
                      go_enter Try.func119, Try.ntmps119
                      go_wp2_with fail
                      refine (told (show inB (2 : Int) 0 7 = true from inB_yes (by omega) (by omega)) (l1In_any _ _ _ _)).mono ?_
                      rintro e w1 ⟨rfl, rfl⟩
                      go_wp2_with fail
                      refine (told a2.out (l1In_any _ _ _ _)).mono ?_
                      rintro e w1 ⟨rfl, rfl⟩
                      go_wp2_with fail
                      refine (told a3.out (l1In_any _ _ _ _)).mono ?_
                      rintro e w1 ⟨rfl, rfl⟩
                      go_wp2_with fail
                      refine (told b1.out (l4May_spec s _ _ bd0)).mono ?_
                      rintro e w1 ⟨rfl, rfl⟩
                      go_wp2_with fail
                      refine (told b2.out (l4May_spec nm _ _ bd1)).mono ?_
                      rintro e w1 ⟨rfl, rfl⟩
                      go_wp2_with fail
                      refine (told b3.out (l4May_spec tg _ _ bd2)).mono ?_
                      rintro e w1 ⟨rfl, rfl⟩
                      go_wp2
                      go_returns
                      exact ⟨ret_bool (by rw [HO.out]; simp [a2.out, a3.out, b1.out, b2.out, b3.out, HN0.out, HC0.out]), by go_grown⟩
                  · have gn : (n != 0) = true := by simpa using hn0
                    have HN0 := Lib.hid hn0; clear hn0
                    go_enter Try.func119, Try.ntmps119
                    go_wp2_with fail
                    refine (told (show inB (2 : Int) 0 7 = true from inB_yes (by omega) (by omega)) (l1In_any _ _ _ _)).mono ?_
                    rintro e w1 ⟨rfl, rfl⟩
                    go_wp2_with fail
                    refine (told a2.out (l1In_any _ _ _ _)).mono ?_
                    rintro e w1 ⟨rfl, rfl⟩
                    go_wp2_with fail
                    refine (told a3.out (l1In_any _ _ _ _)).mono ?_
                    rintro e w1 ⟨rfl, rfl⟩
                    go_wp2_with fail
                    refine (told b1.out (l4May_spec s _ _ bd0)).mono ?_
                    rintro e w1 ⟨rfl, rfl⟩
                    go_wp2_with fail
                    refine (told b2.out (l4May_spec nm _ _ bd1)).mono ?_
                    rintro e w1 ⟨rfl, rfl⟩
                    go_wp2_with fail
                    refine (told b3.out (l4May_spec tg _ _ bd2)).mono ?_
                    rintro e w1 ⟨rfl, rfl⟩
                    go_wp2
                    go_returns
                    exact ⟨ret_bool (by rw [HO.out]; simp [a2.out, a3.out, b1.out, b2.out, b3.out, HN0.out]), by go_grown⟩
      · simp only [show inB (3 : Int) 1 7 = true from inB_yes (by omega) (by omega), Bool.true_and] at HO
        obtain ⟨qa2, ha2⟩ : ∃ q, inB cl 1 9 = q := ⟨_, rfl⟩
        have a2 := Lib.hid ha2; clear ha2
        cases qa2
        · skip
          go_enter Try.func119, Try.ntmps119
          go_wp2_with fail
          refine (told (show inB (3 : Int) 0 7 = true from inB_yes (by omega) (by omega)) (l1In_any _ _ _ _)).mono ?_
          rintro e w1 ⟨rfl, rfl⟩
          go_wp2_with fail
          refine (told a2.out (l1In_any _ _ _ _)).mono ?_
          rintro e w1 ⟨rfl, rfl⟩
          go_wp2
          go_returns
          exact ⟨ret_bool (by rw [HO.out]; simp [a2.out]), by go_grown⟩
        · skip
          obtain ⟨qa3, ha3⟩ : ∃ q, inB no 1 1000 = q := ⟨_, rfl⟩
          have a3 := Lib.hid ha3; clear ha3
          cases qa3
          · skip
            go_enter Try.func119, Try.ntmps119
            go_wp2_with fail
            refine (told (show inB (3 : Int) 0 7 = true from inB_yes (by omega) (by omega)) (l1In_any _ _ _ _)).mono ?_
            rintro e w1 ⟨rfl, rfl⟩
            go_wp2_with fail
            refine (told a2.out (l1In_any _ _ _ _)).mono ?_
            rintro e w1 ⟨rfl, rfl⟩
            go_wp2_with fail
            refine (told a3.out (l1In_any _ _ _ _)).mono ?_
            rintro e w1 ⟨rfl, rfl⟩
            go_wp2
            go_returns
            exact ⟨ret_bool (by rw [HO.out]; simp [a2.out, a3.out]), by go_grown⟩
          · skip
            obtain ⟨qb1, hb1⟩ : ∃ q, wifB s true = q := ⟨_, rfl⟩
            have b1 := Lib.hid hb1; clear hb1
            cases qb1
            · skip
              go_enter Try.func119, Try.ntmps119
              go_wp2_with fail
              refine (told (show inB (3 : Int) 0 7 = true from inB_yes (by omega) (by omega)) (l1In_any _ _ _ _)).mono ?_
              rintro e w1 ⟨rfl, rfl⟩
              go_wp2_with fail
              refine (told a2.out (l1In_any _ _ _ _)).mono ?_
              rintro e w1 ⟨rfl, rfl⟩
              go_wp2_with fail
              refine (told a3.out (l1In_any _ _ _ _)).mono ?_
              rintro e w1 ⟨rfl, rfl⟩
              go_wp2_with fail
              refine (told b1.out (l4May_spec s _ _ bd0)).mono ?_
              rintro e w1 ⟨rfl, rfl⟩
              go_wp2
              go_returns
              exact ⟨ret_bool (by rw [HO.out]; simp [a2.out, a3.out, b1.out]), by go_grown⟩
            · skip
              obtain ⟨qb2, hb2⟩ : ∃ q, wifB nm true = q := ⟨_, rfl⟩
              have b2 := Lib.hid hb2; clear hb2
              cases qb2
              · skip
                go_enter Try.func119, Try.ntmps119
                go_wp2_with fail
                refine (told (show inB (3 : Int) 0 7 = true from inB_yes (by omega) (by omega)) (l1In_any _ _ _ _)).mono ?_
                rintro e w1 ⟨rfl, rfl⟩
                go_wp2_with fail
                refine (told a2.out (l1In_any _ _ _ _)).mono ?_
                rintro e w1 ⟨rfl, rfl⟩
                go_wp2_with fail
                refine (told a3.out (l1In_any _ _ _ _)).mono ?_
                rintro e w1 ⟨rfl, rfl⟩
                go_wp2_with fail
                refine (told b1.out (l4May_spec s _ _ bd0)).mono ?_
                rintro e w1 ⟨rfl, rfl⟩
                go_wp2_with fail
                refine (told b2.out (l4May_spec nm _ _ bd1)).mono ?_
                rintro e w1 ⟨rfl, rfl⟩
                go_wp2
                go_returns
                exact ⟨ret_bool (by rw [HO.out]; simp [a2.out, a3.out, b1.out, b2.out]), by go_grown⟩
              · skip
                obtain ⟨qb3, hb3⟩ : ∃ q, wifB tg false = q := ⟨_, rfl⟩
                have b3 := Lib.hid hb3; clear hb3
                cases qb3
                · skip
                  go_enter Try.func119, Try.ntmps119
                  go_wp2_with fail
                  refine (told (show inB (3 : Int) 0 7 = true from inB_yes (by omega) (by omega)) (l1In_any _ _ _ _)).mono ?_
                  rintro e w1 ⟨rfl, rfl⟩
                  go_wp2_with fail
                  refine (told a2.out (l1In_any _ _ _ _)).mono ?_
                  rintro e w1 ⟨rfl, rfl⟩
                  go_wp2_with fail
                  refine (told a3.out (l1In_any _ _ _ _)).mono ?_
                  rintro e w1 ⟨rfl, rfl⟩
                  go_wp2_with fail
                  refine (told b1.out (l4May_spec s _ _ bd0)).mono ?_
                  rintro e w1 ⟨rfl, rfl⟩
                  go_wp2_with fail
                  refine (told b2.out (l4May_spec nm _ _ bd1)).mono ?_
                  rintro e w1 ⟨rfl, rfl⟩
                  go_wp2_with fail
                  refine (told b3.out (l4May_spec tg _ _ bd2)).mono ?_
                  rintro e w1 ⟨rfl, rfl⟩
                  go_wp2
                  go_returns
                  exact ⟨ret_bool (by rw [HO.out]; simp [a2.out, a3.out, b1.out, b2.out, b3.out]), by go_grown⟩
                · skip
                  by_cases hn0 : n = 0
                  · have gn : (n != 0) = false := by simp [hn0]
                    have HN0 := Lib.hid hn0; clear hn0
                    obtain ⟨ql, hql⟩ : ∃ q, inB (ch.length : Int) 1 4 = q := ⟨_, rfl⟩
                    have cq := Lib.hid hql
                    have cl2 := Lib.hid (show inB (n1 : Int) 1 4 = ql by rw [HN.out]; exact hql)
                    clear hql
                    cases ql
                    · skip
                      go_enter Try.func119, Try.ntmps119
                      go_wp2_with fail
                      refine (told (show inB (3 : Int) 0 7 = true from inB_yes (by omega) (by omega)) (l1In_any _ _ _ _)).mono ?_
                      rintro e w1 ⟨rfl, rfl⟩
                      go_wp2_with fail
                      refine (told a2.out (l1In_any _ _ _ _)).mono ?_
                      rintro e w1 ⟨rfl, rfl⟩
                      go_wp2_with fail
                      refine (told a3.out (l1In_any _ _ _ _)).mono ?_
                      rintro e w1 ⟨rfl, rfl⟩
                      go_wp2_with fail
                      refine (told b1.out (l4May_spec s _ _ bd0)).mono ?_
                      rintro e w1 ⟨rfl, rfl⟩
                      go_wp2_with fail
                      refine (told b2.out (l4May_spec nm _ _ bd1)).mono ?_
                      rintro e w1 ⟨rfl, rfl⟩
                      go_wp2_with fail
                      refine (told b3.out (l4May_spec tg _ _ bd2)).mono ?_
                      rintro e w1 ⟨rfl, rfl⟩
                      go_wp2_with fail
                      refine (told cl2.out (l1In_any _ _ _ _)).mono ?_
                      rintro e w1 ⟨rfl, rfl⟩
                      go_wp2
                      go_returns
                      exact ⟨ret_bool (by rw [HO.out]; simp [a2.out, a3.out, b1.out, b2.out, b3.out, HN0.out, cq.out]), by go_grown⟩
                    · skip
                      go_enter Try.func119, Try.ntmps119
                      go_wp2_with fail
                      refine (told (show inB (3 : Int) 0 7 = true from inB_yes (by omega) (by omega)) (l1In_any _ _ _ _)).mono ?_
                      rintro e w1 ⟨rfl, rfl⟩
                      go_wp2_with fail
                      refine (told a2.out (l1In_any _ _ _ _)).mono ?_
                      rintro e w1 ⟨rfl, rfl⟩
                      go_wp2_with fail
                      refine (told a3.out (l1In_any _ _ _ _)).mono ?_
                      rintro e w1 ⟨rfl, rfl⟩
                      go_wp2_with fail
                      refine (told b1.out (l4May_spec s _ _ bd0)).mono ?_
                      rintro e w1 ⟨rfl, rfl⟩
                      go_wp2_with fail
                      refine (told b2.out (l4May_spec nm _ _ bd1)).mono ?_
                      rintro e w1 ⟨rfl, rfl⟩
                      go_wp2_with fail
                      refine (told b3.out (l4May_spec tg _ _ bd2)).mono ?_
                      rintro e w1 ⟨rfl, rfl⟩
                      go_wp2_with fail
                      refine (told cl2.out (l1In_any _ _ _ _)).mono ?_
                      rintro e w1 ⟨rfl, rfl⟩
                      go_wp2
                      have al0 := (Below.refl w.heap.size w).alloc (Nat.le_refl _) (.cells #[.int .i64 3, .int .i64 cl, .int .i64 no, .string s, .string nm, .string tg, .int .i64 n, .slice A1 n1 c1] 47)
                      have HX1 := h1.1.keep al0
                      go_loop [4] (fun i => ∃ k : Nat, k ≤ n1 ∧ i = .int .i64 k ∧ ∀ j, j < k → (sAt ch j).size = 8) (fun i => n1 - (intOf i).toNat)
                      case atStart => exact ⟨0, Nat.zero_le _, rfl, fun j hj => absurd hj (by omega)⟩
                      case round =>
                        obtain ⟨k, hk, rfl, hx⟩ := hrel
                        have HX := Lib.hid hx; clear hx
                        by_cases hlt : k < n1
                        · obtain ⟨b, off, rfl, hbl, hc⟩ := HX1.at_ (by omega)
                          have hck := hc k hlt
                          clear hc
                          by_cases h8 : (sAt ch k).size = 8
                          · have g1 : ((((sAt ch k).size : Nat) : Int) != 8) = false := by simp [h8]
                            have H8 := Lib.hid h8; clear h8
                            go_wp2
                            refine ⟨⟨k + 1, by omega, by go_num, ?_⟩, by simp [intOf]; omega⟩
                            intro j hj
                            by_cases e : j = k
                            · subst e; exact H8.out
                            · exact HX.out j (by omega)
                          · have g1 : ((((sAt ch k).size : Nat) : Int) != 8) = true := by simp; omega
                            have H8 := Lib.hid h8; clear h8
                            go_wp2
                            go_returns
                            have c8 := ok8_no (l := ch) (by have := HN.out; omega) H8.out
                            exact ⟨ret_bool (by rw [HO.out]; simp [a2.out, a3.out, b1.out, b2.out, b3.out, HN0.out, cq.out, c8]), by go_grown⟩
                        · go_wp2
                          go_returns
                          have c8 := ok8_yes (l := ch) (fun j hj => HX.out j (by have := HN.out; omega))
                          exact ⟨ret_bool (by rw [HO.out]; simp [a2.out, a3.out, b1.out, b2.out, b3.out, HN0.out, cq.out, c8]), by go_grown⟩
                  · have gn : (n != 0) = true := by simpa using hn0
                    have HN0 := Lib.hid hn0; clear hn0
                    go_enter Try.func119, Try.ntmps119
                    go_wp2_with fail
                    refine (told (show inB (3 : Int) 0 7 = true from inB_yes (by omega) (by omega)) (l1In_any _ _ _ _)).mono ?_
                    rintro e w1 ⟨rfl, rfl⟩
                    go_wp2_with fail
                    refine (told a2.out (l1In_any _ _ _ _)).mono ?_
                    rintro e w1 ⟨rfl, rfl⟩
                    go_wp2_with fail
                    refine (told a3.out (l1In_any _ _ _ _)).mono ?_
                    rintro e w1 ⟨rfl, rfl⟩
                    go_wp2_with fail
                    refine (told b1.out (l4May_spec s _ _ bd0)).mono ?_
                    rintro e w1 ⟨rfl, rfl⟩
                    go_wp2_with fail
                    refine (told b2.out (l4May_spec nm _ _ bd1)).mono ?_
                    rintro e w1 ⟨rfl, rfl⟩
                    go_wp2_with fail
                    refine (told b3.out (l4May_spec tg _ _ bd2)).mono ?_
                    rintro e w1 ⟨rfl, rfl⟩
                    go_wp2
                    go_returns
                    exact ⟨ret_bool (by rw [HO.out]; simp [a2.out, a3.out, b1.out, b2.out, b3.out, HN0.out]), by go_grown⟩
      · simp only [show inB (4 : Int) 1 7 = true from inB_yes (by omega) (by omega), Bool.true_and] at HO
        obtain ⟨qa2, ha2⟩ : ∃ q, inB cl 1 9 = q := ⟨_, rfl⟩
        have a2 := Lib.hid ha2; clear ha2
        cases qa2
        · skip
          go_enter Try.func119, Try.ntmps119
          go_wp2_with fail
          refine (told (show inB (4 : Int) 0 7 = true from inB_yes (by omega) (by omega)) (l1In_any _ _ _ _)).mono ?_
          rintro e w1 ⟨rfl, rfl⟩
          go_wp2_with fail
          refine (told a2.out (l1In_any _ _ _ _)).mono ?_
          rintro e w1 ⟨rfl, rfl⟩
          go_wp2
          go_returns
          exact ⟨ret_bool (by rw [HO.out]; simp [a2.out]), by go_grown⟩
        · skip
          obtain ⟨qa3, ha3⟩ : ∃ q, inB no 1 1000 = q := ⟨_, rfl⟩
          have a3 := Lib.hid ha3; clear ha3
          cases qa3
          · skip
            go_enter Try.func119, Try.ntmps119
            go_wp2_with fail
            refine (told (show inB (4 : Int) 0 7 = true from inB_yes (by omega) (by omega)) (l1In_any _ _ _ _)).mono ?_
            rintro e w1 ⟨rfl, rfl⟩
            go_wp2_with fail
            refine (told a2.out (l1In_any _ _ _ _)).mono ?_
            rintro e w1 ⟨rfl, rfl⟩
            go_wp2_with fail
            refine (told a3.out (l1In_any _ _ _ _)).mono ?_
            rintro e w1 ⟨rfl, rfl⟩
            go_wp2
            go_returns
            exact ⟨ret_bool (by rw [HO.out]; simp [a2.out, a3.out]), by go_grown⟩
          · skip
            obtain ⟨qb1, hb1⟩ : ∃ q, wifB s true = q := ⟨_, rfl⟩
            have b1 := Lib.hid hb1; clear hb1
            cases qb1
            · skip
              go_enter Try.func119, Try.ntmps119
              go_wp2_with fail
              refine (told (show inB (4 : Int) 0 7 = true from inB_yes (by omega) (by omega)) (l1In_any _ _ _ _)).mono ?_
              rintro e w1 ⟨rfl, rfl⟩
              go_wp2_with fail
              refine (told a2.out (l1In_any _ _ _ _)).mono ?_
              rintro e w1 ⟨rfl, rfl⟩
              go_wp2_with fail
              refine (told a3.out (l1In_any _ _ _ _)).mono ?_
              rintro e w1 ⟨rfl, rfl⟩
              go_wp2_with fail
              refine (told b1.out (l4May_spec s _ _ bd0)).mono ?_
              rintro e w1 ⟨rfl, rfl⟩
              go_wp2
              go_returns
              exact ⟨ret_bool (by rw [HO.out]; simp [a2.out, a3.out, b1.out]), by go_grown⟩
            · skip
              obtain ⟨qb2, hb2⟩ : ∃ q, wifB nm true = q := ⟨_, rfl⟩
              have b2 := Lib.hid hb2; clear hb2
              cases qb2
              · skip
                go_enter Try.func119, Try.ntmps119
                go_wp2_with fail
                refine (told (show inB (4 : Int) 0 7 = true from inB_yes (by omega) (by omega)) (l1In_any _ _ _ _)).mono ?_
                rintro e w1 ⟨rfl, rfl⟩
                go_wp2_with fail
                refine (told a2.out (l1In_any _ _ _ _)).mono ?_
                rintro e w1 ⟨rfl, rfl⟩
                go_wp2_with fail
                refine (told a3.out (l1In_any _ _ _ _)).mono ?_
                rintro e w1 ⟨rfl, rfl⟩
                go_wp2_with fail
                refine (told b1.out (l4May_spec s _ _ bd0)).mono ?_
                rintro e w1 ⟨rfl, rfl⟩
                go_wp2_with fail
                refine (told b2.out (l4May_spec nm _ _ bd1)).mono ?_
                rintro e w1 ⟨rfl, rfl⟩
                go_wp2
                go_returns
                exact ⟨ret_bool (by rw [HO.out]; simp [a2.out, a3.out, b1.out, b2.out]), by go_grown⟩
              · skip
                obtain ⟨qb3, hb3⟩ : ∃ q, wifB tg true = q := ⟨_, rfl⟩
                have b3 := Lib.hid hb3; clear hb3
                cases qb3
                · skip
                  go_enter Try.func119, Try.ntmps119
                  go_wp2_with fail
                  refine (told (show inB (4 : Int) 0 7 = true from inB_yes (by omega) (by omega)) (l1In_any _ _ _ _)).mono ?_
                  rintro e w1 ⟨rfl, rfl⟩
                  go_wp2_with fail
                  refine (told a2.out (l1In_any _ _ _ _)).mono ?_
                  rintro e w1 ⟨rfl, rfl⟩
                  go_wp2_with fail
                  refine (told a3.out (l1In_any _ _ _ _)).mono ?_
                  rintro e w1 ⟨rfl, rfl⟩
                  go_wp2_with fail
                  refine (told b1.out (l4May_spec s _ _ bd0)).mono ?_
                  rintro e w1 ⟨rfl, rfl⟩
                  go_wp2_with fail
                  refine (told b2.out (l4May_spec nm _ _ bd1)).mono ?_
                  rintro e w1 ⟨rfl, rfl⟩
                  go_wp2_with fail
                  refine (told b3.out (l4May_spec tg _ _ bd2)).mono ?_
                  rintro e w1 ⟨rfl, rfl⟩
                  go_wp2
                  go_returns
                  exact ⟨ret_bool (by rw [HO.out]; simp [a2.out, a3.out, b1.out, b2.out, b3.out]), by go_grown⟩
                · skip
                  by_cases hn0 : n = 0
                  · have gn : (n != 0) = false := by simp [hn0]
                    have HN0 := Lib.hid hn0; clear hn0
                    by_cases hc0 : n1 = 0
                    · have gc : ((n1 : Int) == 0) = true := by simp [hc0]
                      have HC0 := Lib.hid (show ch.length = 0 from HN.out.symm.trans hc0); clear hc0
                      go_enter Try.func119, Try.ntmps119
                      go_wp2_with fail
                      refine (told (show inB (4 : Int) 0 7 = true from inB_yes (by omega) (by omega)) (l1In_any _ _ _ _)).mono ?_
                      rintro e w1 ⟨rfl, rfl⟩
                      go_wp2_with fail
                      refine (told a2.out (l1In_any _ _ _ _)).mono ?_
                      rintro e w1 ⟨rfl, rfl⟩
                      go_wp2_with fail
                      refine (told a3.out (l1In_any _ _ _ _)).mono ?_
                      rintro e w1 ⟨rfl, rfl⟩
                      go_wp2_with fail
                      refine (told b1.out (l4May_spec s _ _ bd0)).mono ?_
                      rintro e w1 ⟨rfl, rfl⟩
                      go_wp2_with fail
                      refine (told b2.out (l4May_spec nm _ _ bd1)).mono ?_
                      rintro e w1 ⟨rfl, rfl⟩
                      go_wp2_with fail
                      refine (told b3.out (l4May_spec tg _ _ bd2)).mono ?_
                      rintro e w1 ⟨rfl, rfl⟩
                      go_wp2
                      go_returns
                      exact ⟨ret_bool (by rw [HO.out]; simp [a2.out, a3.out, b1.out, b2.out, b3.out, HN0.out, HC0.out]), by go_grown⟩
                    · have gc : ((n1 : Int) == 0) = false := by simpa using hc0
                      have HC0 := Lib.hid (show ¬ ch.length = 0 from fun e => hc0 (HN.out.trans e)); clear hc0
                      go_enter Try.func119, Try.ntmps119
                      go_wp2_with fail
                      refine (told (show inB (4 : Int) 0 7 = true from inB_yes (by omega) (by omega)) (l1In_any _ _ _ _)).mono ?_
                      rintro e w1 ⟨rfl, rfl⟩
                      go_wp2_with fail
                      refine (told a2.out (l1In_any _ _ _ _)).mono ?_
                      rintro e w1 ⟨rfl, rfl⟩
                      go_wp2_with fail
                      refine (told a3.out (l1In_any _ _ _ _)).mono ?_
                      rintro e w1 ⟨rfl, rfl⟩
                      go_wp2_with fail
                      refine (told b1.out (l4May_spec s _ _ bd0)).mono ?_
                      rintro e w1 ⟨rfl, rfl⟩
                      go_wp2_with fail
                      refine (told b2.out (l4May_spec nm _ _ bd1)).mono ?_
                      rintro e w1 ⟨rfl, rfl⟩
                      go_wp2_with fail
                      refine (told b3.out (l4May_spec tg _ _ bd2)).mono ?_
                      rintro e w1 ⟨rfl, rfl⟩
                      go_wp2
                      go_returns
                      exact ⟨ret_bool (by rw [HO.out]; simp [a2.out, a3.out, b1.out, b2.out, b3.out, HN0.out, HC0.out]), by go_grown⟩
                  · have gn : (n != 0) = true := by simpa using hn0
                    have HN0 := Lib.hid hn0; clear hn0
                    go_enter Try.func119, Try.ntmps119
                    go_wp2_with fail
                    refine (told (show inB (4 : Int) 0 7 = true from inB_yes (by omega) (by omega)) (l1In_any _ _ _ _)).mono ?_
                    rintro e w1 ⟨rfl, rfl⟩
                    go_wp2_with fail
                    refine (told a2.out (l1In_any _ _ _ _)).mono ?_
                    rintro e w1 ⟨rfl, rfl⟩
                    go_wp2_with fail
                    refine (told a3.out (l1In_any _ _ _ _)).mono ?_
                    rintro e w1 ⟨rfl, rfl⟩
                    go_wp2_with fail
                    refine (told b1.out (l4May_spec s _ _ bd0)).mono ?_
                    rintro e w1 ⟨rfl, rfl⟩
                    go_wp2_with fail
                    refine (told b2.out (l4May_spec nm _ _ bd1)).mono ?_
                    rintro e w1 ⟨rfl, rfl⟩
                    go_wp2_with fail
                    refine (told b3.out (l4May_spec tg _ _ bd2)).mono ?_
                    rintro e w1 ⟨rfl, rfl⟩
                    go_wp2
                    go_returns
                    exact ⟨ret_bool (by rw [HO.out]; simp [a2.out, a3.out, b1.out, b2.out, b3.out, HN0.out]), by go_grown⟩
      · simp only [show inB (5 : Int) 1 7 = true from inB_yes (by omega) (by omega), Bool.true_and] at HO
        obtain ⟨qa2, ha2⟩ : ∃ q, inB cl 1 9 = q := ⟨_, rfl⟩
        have a2 := Lib.hid ha2; clear ha2
        cases qa2
        · skip
          go_enter Try.func119, Try.ntmps119
          go_wp2_with fail
          refine (told (show inB (5 : Int) 0 7 = true from inB_yes (by omega) (by omega)) (l1In_any _ _ _ _)).mono ?_
          rintro e w1 ⟨rfl, rfl⟩
          go_wp2_with fail
          refine (told a2.out (l1In_any _ _ _ _)).mono ?_
          rintro e w1 ⟨rfl, rfl⟩
          go_wp2
          go_returns
          exact ⟨ret_bool (by rw [HO.out]; simp [a2.out]), by go_grown⟩
        · skip
          obtain ⟨qa3, ha3⟩ : ∃ q, inB no 1 1000 = q := ⟨_, rfl⟩
          have a3 := Lib.hid ha3; clear ha3
          cases qa3
          · skip
            go_enter Try.func119, Try.ntmps119
            go_wp2_with fail
            refine (told (show inB (5 : Int) 0 7 = true from inB_yes (by omega) (by omega)) (l1In_any _ _ _ _)).mono ?_
            rintro e w1 ⟨rfl, rfl⟩
            go_wp2_with fail
            refine (told a2.out (l1In_any _ _ _ _)).mono ?_
            rintro e w1 ⟨rfl, rfl⟩
            go_wp2_with fail
            refine (told a3.out (l1In_any _ _ _ _)).mono ?_
            rintro e w1 ⟨rfl, rfl⟩
            go_wp2
            go_returns
            exact ⟨ret_bool (by rw [HO.out]; simp [a2.out, a3.out]), by go_grown⟩
          · skip
            obtain ⟨qb1, hb1⟩ : ∃ q, wifB s true = q := ⟨_, rfl⟩
            have b1 := Lib.hid hb1; clear hb1
            cases qb1
            · skip
              go_enter Try.func119, Try.ntmps119
              go_wp2_with fail
              refine (told (show inB (5 : Int) 0 7 = true from inB_yes (by omega) (by omega)) (l1In_any _ _ _ _)).mono ?_
              rintro e w1 ⟨rfl, rfl⟩
              go_wp2_with fail
              refine (told a2.out (l1In_any _ _ _ _)).mono ?_
              rintro e w1 ⟨rfl, rfl⟩
              go_wp2_with fail
              refine (told a3.out (l1In_any _ _ _ _)).mono ?_
              rintro e w1 ⟨rfl, rfl⟩
              go_wp2_with fail
              refine (told b1.out (l4May_spec s _ _ bd0)).mono ?_
              rintro e w1 ⟨rfl, rfl⟩
              go_wp2
              go_returns
              exact ⟨ret_bool (by rw [HO.out]; simp [a2.out, a3.out, b1.out]), by go_grown⟩
            · skip
              obtain ⟨qb2, hb2⟩ : ∃ q, wifB nm false = q := ⟨_, rfl⟩
              have b2 := Lib.hid hb2; clear hb2
              cases qb2
              · skip
                go_enter Try.func119, Try.ntmps119
                go_wp2_with fail
                refine (told (show inB (5 : Int) 0 7 = true from inB_yes (by omega) (by omega)) (l1In_any _ _ _ _)).mono ?_
                rintro e w1 ⟨rfl, rfl⟩
                go_wp2_with fail
                refine (told a2.out (l1In_any _ _ _ _)).mono ?_
                rintro e w1 ⟨rfl, rfl⟩
                go_wp2_with fail
                refine (told a3.out (l1In_any _ _ _ _)).mono ?_
                rintro e w1 ⟨rfl, rfl⟩
                go_wp2_with fail
                refine (told b1.out (l4May_spec s _ _ bd0)).mono ?_
                rintro e w1 ⟨rfl, rfl⟩
                go_wp2_with fail
                refine (told b2.out (l4May_spec nm _ _ bd1)).mono ?_
                rintro e w1 ⟨rfl, rfl⟩
                go_wp2
                go_returns
                exact ⟨ret_bool (by rw [HO.out]; simp [a2.out, a3.out, b1.out, b2.out]), by go_grown⟩
              · skip
                obtain ⟨qb3, hb3⟩ : ∃ q, wifB tg false = q := ⟨_, rfl⟩
                have b3 := Lib.hid hb3; clear hb3
                cases qb3
                · skip
                  go_enter Try.func119, Try.ntmps119
                  go_wp2_with fail
                  refine (told (show inB (5 : Int) 0 7 = true from inB_yes (by omega) (by omega)) (l1In_any _ _ _ _)).mono ?_
                  rintro e w1 ⟨rfl, rfl⟩
                  go_wp2_with fail
                  refine (told a2.out (l1In_any _ _ _ _)).mono ?_
                  rintro e w1 ⟨rfl, rfl⟩
                  go_wp2_with fail
                  refine (told a3.out (l1In_any _ _ _ _)).mono ?_
                  rintro e w1 ⟨rfl, rfl⟩
                  go_wp2_with fail
                  refine (told b1.out (l4May_spec s _ _ bd0)).mono ?_
                  rintro e w1 ⟨rfl, rfl⟩
                  go_wp2_with fail
                  refine (told b2.out (l4May_spec nm _ _ bd1)).mono ?_
                  rintro e w1 ⟨rfl, rfl⟩
                  go_wp2_with fail
                  refine (told b3.out (l4May_spec tg _ _ bd2)).mono ?_
                  rintro e w1 ⟨rfl, rfl⟩
                  go_wp2
                  go_returns
                  exact ⟨ret_bool (by rw [HO.out]; simp [a2.out, a3.out, b1.out, b2.out, b3.out]), by go_grown⟩
                · skip
                  by_cases hn0 : n = 0
                  · have gn : (n != 0) = false := by simp [hn0]
                    have HN0 := Lib.hid hn0; clear hn0
                    by_cases hc0 : n1 = 0
                    · have gc : ((n1 : Int) == 0) = true := by simp [hc0]
                      have HC0 := Lib.hid (show ch.length = 0 from HN.out.symm.trans hc0); clear hc0
                      go_enter Try.func119, Try.ntmps119
                      go_wp2_with fail
                      refine (told (show inB (5 : Int) 0 7 = true from inB_yes (by omega) (by omega)) (l1In_any _ _ _ _)).mono ?_
                      rintro e w1 ⟨rfl, rfl⟩
                      go_wp2_with fail
                      refine (told a2.out (l1In_any _ _ _ _)).mono ?_
                      rintro e w1 ⟨rfl, rfl⟩
                      go_wp2_with fail
                      refine (told a3.out (l1In_any _ _ _ _)).mono ?_
                      rintro e w1 ⟨rfl, rfl⟩
                      go_wp2_with fail
                      refine (told b1.out (l4May_spec s _ _ bd0)).mono ?_
                      rintro e w1 ⟨rfl, rfl⟩
                      go_wp2_with fail
                      refine (told b2.out (l4May_spec nm _ _ bd1)).mono ?_
                      rintro e w1 ⟨rfl, rfl⟩
                      go_wp2_with fail
                      refine (told b3.out (l4May_spec tg _ _ bd2)).mono ?_
                      rintro e w1 ⟨rfl, rfl⟩
                      go_wp2
                      go_returns
                      exact ⟨ret_bool (by rw [HO.out]; simp [a2.out, a3.out, b1.out, b2.out, b3.out, HN0.out, HC0.out]), by go_grown⟩
                    · have gc : ((n1 : Int) == 0) = false := by simpa using hc0
                      have HC0 := Lib.hid (show ¬ ch.length = 0 from fun e => hc0 (HN.out.trans e)); clear hc0
                      go_enter Try.func119, Try.ntmps119
                      go_wp2_with fail
                      refine (told (show inB (5 : Int) 0 7 = true from inB_yes (by omega) (by omega)) (l1In_any _ _ _ _)).mono ?_
                      rintro e w1 ⟨rfl, rfl⟩
                      go_wp2_with fail
                      refine (told a2.out (l1In_any _ _ _ _)).mono ?_
                      rintro e w1 ⟨rfl, rfl⟩
                      go_wp2_with fail
                      refine (told a3.out (l1In_any _ _ _ _)).mono ?_
                      rintro e w1 ⟨rfl, rfl⟩
                      go_wp2_with fail
                      refine (told b1.out (l4May_spec s _ _ bd0)).mono ?_
                      rintro e w1 ⟨rfl, rfl⟩
                      go_wp2_with fail
                      refine (told b2.out (l4May_spec nm _ _ bd1)).mono ?_
                      rintro e w1 ⟨rfl, rfl⟩
                      go_wp2_with fail
                      refine (told b3.out (l4May_spec tg _ _ bd2)).mono ?_
                      rintro e w1 ⟨rfl, rfl⟩
                      go_wp2
                      go_returns
                      exact ⟨ret_bool (by rw [HO.out]; simp [a2.out, a3.out, b1.out, b2.out, b3.out, HN0.out, HC0.out]), by go_grown⟩
                  · have gn : (n != 0) = true := by simpa using hn0
                    have HN0 := Lib.hid hn0; clear hn0
                    obtain ⟨qn, hqn⟩ : ∃ q, inB n 0 9 = q := ⟨_, rfl⟩
                    have cn := Lib.hid hqn; clear hqn
                    cases qn
                    · skip
                      go_enter Try.func119, Try.ntmps119
                      go_wp2_with fail
                      refine (told (show inB (5 : Int) 0 7 = true from inB_yes (by omega) (by omega)) (l1In_any _ _ _ _)).mono ?_
                      rintro e w1 ⟨rfl, rfl⟩
                      go_wp2_with fail
                      refine (told a2.out (l1In_any _ _ _ _)).mono ?_
                      rintro e w1 ⟨rfl, rfl⟩
                      go_wp2_with fail
                      refine (told a3.out (l1In_any _ _ _ _)).mono ?_
                      rintro e w1 ⟨rfl, rfl⟩
                      go_wp2_with fail
                      refine (told b1.out (l4May_spec s _ _ bd0)).mono ?_
                      rintro e w1 ⟨rfl, rfl⟩
                      go_wp2_with fail
                      refine (told b2.out (l4May_spec nm _ _ bd1)).mono ?_
                      rintro e w1 ⟨rfl, rfl⟩
                      go_wp2_with fail
                      refine (told b3.out (l4May_spec tg _ _ bd2)).mono ?_
                      rintro e w1 ⟨rfl, rfl⟩
                      go_wp2_with fail
                      refine (told cn.out (l1In_any _ _ _ _)).mono ?_
                      rintro e w1 ⟨rfl, rfl⟩
                      go_wp2
                      go_returns
                      exact ⟨ret_bool (by rw [HO.out]; simp [a2.out, a3.out, b1.out, b2.out, b3.out, HN0.out, cn.out]), by go_grown⟩
                    · skip
                      by_cases hc0 : n1 = 0
                      · have gc : ((n1 : Int) == 0) = true := by simp [hc0]
                        have HC0 := Lib.hid (show ch.length = 0 from HN.out.symm.trans hc0); clear hc0
                        go_enter Try.func119, Try.ntmps119
                        go_wp2_with fail
                        refine (told (show inB (5 : Int) 0 7 = true from inB_yes (by omega) (by omega)) (l1In_any _ _ _ _)).mono ?_
                        rintro e w1 ⟨rfl, rfl⟩
                        go_wp2_with fail
                        refine (told a2.out (l1In_any _ _ _ _)).mono ?_
                        rintro e w1 ⟨rfl, rfl⟩
                        go_wp2_with fail
                        refine (told a3.out (l1In_any _ _ _ _)).mono ?_
                        rintro e w1 ⟨rfl, rfl⟩
                        go_wp2_with fail
                        refine (told b1.out (l4May_spec s _ _ bd0)).mono ?_
                        rintro e w1 ⟨rfl, rfl⟩
                        go_wp2_with fail
                        refine (told b2.out (l4May_spec nm _ _ bd1)).mono ?_
                        rintro e w1 ⟨rfl, rfl⟩
                        go_wp2_with fail
                        refine (told b3.out (l4May_spec tg _ _ bd2)).mono ?_
                        rintro e w1 ⟨rfl, rfl⟩
                        go_wp2_with fail
                        refine (told cn.out (l1In_any _ _ _ _)).mono ?_
                        rintro e w1 ⟨rfl, rfl⟩
                        go_wp2
                        go_returns
                        exact ⟨ret_bool (by rw [HO.out]; simp [a2.out, a3.out, b1.out, b2.out, b3.out, HN0.out, cn.out, HC0.out]), by go_grown⟩
                      · have gc : ((n1 : Int) == 0) = false := by simpa using hc0
                        have HC0 := Lib.hid (show ¬ ch.length = 0 from fun e => hc0 (HN.out.trans e)); clear hc0
                        go_enter Try.func119, Try.ntmps119
                        go_wp2_with fail
                        refine (told (show inB (5 : Int) 0 7 = true from inB_yes (by omega) (by omega)) (l1In_any _ _ _ _)).mono ?_
                        rintro e w1 ⟨rfl, rfl⟩
                        go_wp2_with fail
                        refine (told a2.out (l1In_any _ _ _ _)).mono ?_
                        rintro e w1 ⟨rfl, rfl⟩
                        go_wp2_with fail
                        refine (told a3.out (l1In_any _ _ _ _)).mono ?_
                        rintro e w1 ⟨rfl, rfl⟩
                        go_wp2_with fail
                        refine (told b1.out (l4May_spec s _ _ bd0)).mono ?_
                        rintro e w1 ⟨rfl, rfl⟩
                        go_wp2_with fail
                        refine (told b2.out (l4May_spec nm _ _ bd1)).mono ?_
                        rintro e w1 ⟨rfl, rfl⟩
                        go_wp2_with fail
                        refine (told b3.out (l4May_spec tg _ _ bd2)).mono ?_
                        rintro e w1 ⟨rfl, rfl⟩
                        go_wp2_with fail
                        refine (told cn.out (l1In_any _ _ _ _)).mono ?_
                        rintro e w1 ⟨rfl, rfl⟩
                        go_wp2
                        go_returns
                        exact ⟨ret_bool (by rw [HO.out]; simp [a2.out, a3.out, b1.out, b2.out, b3.out, HN0.out, cn.out, HC0.out]), by go_grown⟩
      · simp only [show inB (6 : Int) 1 7 = true from inB_yes (by omega) (by omega), Bool.true_and] at HO
        obtain ⟨qa2, ha2⟩ : ∃ q, inB cl 1 9 = q := ⟨_, rfl⟩
        have a2 := Lib.hid ha2; clear ha2
        cases qa2
        · skip
          go_enter Try.func119, Try.ntmps119
          go_wp2_with fail
          refine (told (show inB (6 : Int) 0 7 = true from inB_yes (by omega) (by omega)) (l1In_any _ _ _ _)).mono ?_
          rintro e w1 ⟨rfl, rfl⟩
          go_wp2_with fail
          refine (told a2.out (l1In_any _ _ _ _)).mono ?_
          rintro e w1 ⟨rfl, rfl⟩
          go_wp2
          go_returns
          exact ⟨ret_bool (by rw [HO.out]; simp [a2.out]), by go_grown⟩
        · skip
          obtain ⟨qa3, ha3⟩ : ∃ q, inB no 1 1000 = q := ⟨_, rfl⟩
          have a3 := Lib.hid ha3; clear ha3
          cases qa3
          · skip
            go_enter Try.func119, Try.ntmps119
            go_wp2_with fail
            refine (told (show inB (6 : Int) 0 7 = true from inB_yes (by omega) (by omega)) (l1In_any _ _ _ _)).mono ?_
            rintro e w1 ⟨rfl, rfl⟩
            go_wp2_with fail
            refine (told a2.out (l1In_any _ _ _ _)).mono ?_
            rintro e w1 ⟨rfl, rfl⟩
            go_wp2_with fail
            refine (told a3.out (l1In_any _ _ _ _)).mono ?_
            rintro e w1 ⟨rfl, rfl⟩
            go_wp2
            go_returns
            exact ⟨ret_bool (by rw [HO.out]; simp [a2.out, a3.out]), by go_grown⟩
          · skip
            obtain ⟨qb1, hb1⟩ : ∃ q, wifB s true = q := ⟨_, rfl⟩
            have b1 := Lib.hid hb1; clear hb1
            cases qb1
            · skip
              go_enter Try.func119, Try.ntmps119
              go_wp2_with fail
              refine (told (show inB (6 : Int) 0 7 = true from inB_yes (by omega) (by omega)) (l1In_any _ _ _ _)).mono ?_
              rintro e w1 ⟨rfl, rfl⟩
              go_wp2_with fail
              refine (told a2.out (l1In_any _ _ _ _)).mono ?_
              rintro e w1 ⟨rfl, rfl⟩
              go_wp2_with fail
              refine (told a3.out (l1In_any _ _ _ _)).mono ?_
              rintro e w1 ⟨rfl, rfl⟩
              go_wp2_with fail
              refine (told b1.out (l4May_spec s _ _ bd0)).mono ?_
              rintro e w1 ⟨rfl, rfl⟩
              go_wp2
              go_returns
              exact ⟨ret_bool (by rw [HO.out]; simp [a2.out, a3.out, b1.out]), by go_grown⟩
            · skip
              obtain ⟨qb2, hb2⟩ : ∃ q, wifB nm false = q := ⟨_, rfl⟩
              have b2 := Lib.hid hb2; clear hb2
              cases qb2
              · skip
                go_enter Try.func119, Try.ntmps119
                go_wp2_with fail
                refine (told (show inB (6 : Int) 0 7 = true from inB_yes (by omega) (by omega)) (l1In_any _ _ _ _)).mono ?_
                rintro e w1 ⟨rfl, rfl⟩
                go_wp2_with fail
                refine (told a2.out (l1In_any _ _ _ _)).mono ?_
                rintro e w1 ⟨rfl, rfl⟩
                go_wp2_with fail
                refine (told a3.out (l1In_any _ _ _ _)).mono ?_
                rintro e w1 ⟨rfl, rfl⟩
                go_wp2_with fail
                refine (told b1.out (l4May_spec s _ _ bd0)).mono ?_
                rintro e w1 ⟨rfl, rfl⟩
                go_wp2_with fail
                refine (told b2.out (l4May_spec nm _ _ bd1)).mono ?_
                rintro e w1 ⟨rfl, rfl⟩
                go_wp2
                go_returns
                exact ⟨ret_bool (by rw [HO.out]; simp [a2.out, a3.out, b1.out, b2.out]), by go_grown⟩
              · skip
                obtain ⟨qb3, hb3⟩ : ∃ q, wifB tg false = q := ⟨_, rfl⟩
                have b3 := Lib.hid hb3; clear hb3
                cases qb3
                · skip
                  go_enter Try.func119, Try.ntmps119
                  go_wp2_with fail
                  refine (told (show inB (6 : Int) 0 7 = true from inB_yes (by omega) (by omega)) (l1In_any _ _ _ _)).mono ?_
                  rintro e w1 ⟨rfl, rfl⟩
                  go_wp2_with fail
                  refine (told a2.out (l1In_any _ _ _ _)).mono ?_
                  rintro e w1 ⟨rfl, rfl⟩
                  go_wp2_with fail
                  refine (told a3.out (l1In_any _ _ _ _)).mono ?_
                  rintro e w1 ⟨rfl, rfl⟩
                  go_wp2_with fail
                  refine (told b1.out (l4May_spec s _ _ bd0)).mono ?_
                  rintro e w1 ⟨rfl, rfl⟩
                  go_wp2_with fail
                  refine (told b2.out (l4May_spec nm _ _ bd1)).mono ?_
                  rintro e w1 ⟨rfl, rfl⟩
                  go_wp2_with fail
                  refine (told b3.out (l4May_spec tg _ _ bd2)).mono ?_
                  rintro e w1 ⟨rfl, rfl⟩
                  go_wp2
                  go_returns
                  exact ⟨ret_bool (by rw [HO.out]; simp [a2.out, a3.out, b1.out, b2.out, b3.out]), by go_grown⟩
                · skip
                  by_cases hn0 : n = 0
                  · have gn : (n != 0) = false := by simp [hn0]
                    have HN0 := Lib.hid hn0; clear hn0
                    by_cases hc0 : n1 = 0
                    · have gc : ((n1 : Int) == 0) = true := by simp [hc0]
                      have HC0 := Lib.hid (show ch.length = 0 from HN.out.symm.trans hc0); clear hc0
                      go_enter Try.func119, Try.ntmps119
                      go_wp2_with fail
                      refine (told (show inB (6 : Int) 0 7 = true from inB_yes (by omega) (by omega)) (l1In_any _ _ _ _)).mono ?_
                      rintro e w1 ⟨rfl, rfl⟩
                      go_wp2_with fail
                      refine (told a2.out (l1In_any _ _ _ _)).mono ?_
                      rintro e w1 ⟨rfl, rfl⟩
                      go_wp2_with fail
                      refine (told a3.out (l1In_any _ _ _ _)).mono ?_
                      rintro e w1 ⟨rfl, rfl⟩
                      go_wp2_with fail
                      refine (told b1.out (l4May_spec s _ _ bd0)).mono ?_
                      rintro e w1 ⟨rfl, rfl⟩
                      go_wp2_with fail
                      refine (told b2.out (l4May_spec nm _ _ bd1)).mono ?_
                      rintro e w1 ⟨rfl, rfl⟩
                      go_wp2_with fail
                      refine (told b3.out (l4May_spec tg _ _ bd2)).mono ?_
                      rintro e w1 ⟨rfl, rfl⟩
                      go_wp2
                      go_returns
                      exact ⟨ret_bool (by rw [HO.out]; simp [a2.out, a3.out, b1.out, b2.out, b3.out, HN0.out, HC0.out]), by go_grown⟩
                    · have gc : ((n1 : Int) == 0) = false := by simpa using hc0
                      have HC0 := Lib.hid (show ¬ ch.length = 0 from fun e => hc0 (HN.out.trans e)); clear hc0
                      go_enter Try.func119, Try.ntmps119
                      go_wp2_with fail
                      refine (told (show inB (6 : Int) 0 7 = true from inB_yes (by omega) (by omega)) (l1In_any _ _ _ _)).mono ?_
                      rintro e w1 ⟨rfl, rfl⟩
                      go_wp2_with fail
                      refine (told a2.out (l1In_any _ _ _ _)).mono ?_
                      rintro e w1 ⟨rfl, rfl⟩
                      go_wp2_with fail
                      refine (told a3.out (l1In_any _ _ _ _)).mono ?_
                      rintro e w1 ⟨rfl, rfl⟩
                      go_wp2_with fail
                      refine (told b1.out (l4May_spec s _ _ bd0)).mono ?_
                      rintro e w1 ⟨rfl, rfl⟩
                      go_wp2_with fail
                      refine (told b2.out (l4May_spec nm _ _ bd1)).mono ?_
                      rintro e w1 ⟨rfl, rfl⟩
                      go_wp2_with fail
                      refine (told b3.out (l4May_spec tg _ _ bd2)).mono ?_
                      rintro e w1 ⟨rfl, rfl⟩
                      go_wp2
                      go_returns
                      exact ⟨ret_bool (by rw [HO.out]; simp [a2.out, a3.out, b1.out, b2.out, b3.out, HN0.out, HC0.out]), by go_grown⟩
                  · have gn : (n != 0) = true := by simpa using hn0
                    have HN0 := Lib.hid hn0; clear hn0
                    go_enter Try.func119, Try.ntmps119
                    go_wp2_with fail
                    refine (told (show inB (6 : Int) 0 7 = true from inB_yes (by omega) (by omega)) (l1In_any _ _ _ _)).mono ?_
                    rintro e w1 ⟨rfl, rfl⟩
                    go_wp2_with fail
                    refine (told a2.out (l1In_any _ _ _ _)).mono ?_
                    rintro e w1 ⟨rfl, rfl⟩
                    go_wp2_with fail
                    refine (told a3.out (l1In_any _ _ _ _)).mono ?_
                    rintro e w1 ⟨rfl, rfl⟩
                    go_wp2_with fail
                    refine (told b1.out (l4May_spec s _ _ bd0)).mono ?_
                    rintro e w1 ⟨rfl, rfl⟩
                    go_wp2_with fail
                    refine (told b2.out (l4May_spec nm _ _ bd1)).mono ?_
                    rintro e w1 ⟨rfl, rfl⟩
                    go_wp2_with fail
                    refine (told b3.out (l4May_spec tg _ _ bd2)).mono ?_
                    rintro e w1 ⟨rfl, rfl⟩
                    go_wp2
                    go_returns
                    exact ⟨ret_bool (by rw [HO.out]; simp [a2.out, a3.out, b1.out, b2.out, b3.out, HN0.out]), by go_grown⟩
      · simp only [show inB (7 : Int) 1 7 = true from inB_yes (by omega) (by omega), Bool.true_and] at HO
        obtain ⟨qa2, ha2⟩ : ∃ q, inB cl 1 9 = q := ⟨_, rfl⟩
        have a2 := Lib.hid ha2; clear ha2
        cases qa2
        · skip
          go_enter Try.func119, Try.ntmps119
          go_wp2_with fail
          refine (told (show inB (7 : Int) 0 7 = true from inB_yes (by omega) (by omega)) (l1In_any _ _ _ _)).mono ?_
          rintro e w1 ⟨rfl, rfl⟩
          go_wp2_with fail
          refine (told a2.out (l1In_any _ _ _ _)).mono ?_
          rintro e w1 ⟨rfl, rfl⟩
          go_wp2
          go_returns
          exact ⟨ret_bool (by rw [HO.out]; simp [a2.out]), by go_grown⟩
        · skip
          obtain ⟨qa3, ha3⟩ : ∃ q, inB no 1 1000 = q := ⟨_, rfl⟩
          have a3 := Lib.hid ha3; clear ha3
          cases qa3
          · skip
            go_enter Try.func119, Try.ntmps119
            go_wp2_with fail
            refine (told (show inB (7 : Int) 0 7 = true from inB_yes (by omega) (by omega)) (l1In_any _ _ _ _)).mono ?_
            rintro e w1 ⟨rfl, rfl⟩
            go_wp2_with fail
            refine (told a2.out (l1In_any _ _ _ _)).mono ?_
            rintro e w1 ⟨rfl, rfl⟩
            go_wp2_with fail
            refine (told a3.out (l1In_any _ _ _ _)).mono ?_
            rintro e w1 ⟨rfl, rfl⟩
            go_wp2
            go_returns
            exact ⟨ret_bool (by rw [HO.out]; simp [a2.out, a3.out]), by go_grown⟩
          · skip
            obtain ⟨qb1, hb1⟩ : ∃ q, wifB s false = q := ⟨_, rfl⟩
            have b1 := Lib.hid hb1; clear hb1
            cases qb1
            · skip
              go_enter Try.func119, Try.ntmps119
              go_wp2_with fail
              refine (told (show inB (7 : Int) 0 7 = true from inB_yes (by omega) (by omega)) (l1In_any _ _ _ _)).mono ?_
              rintro e w1 ⟨rfl, rfl⟩
              go_wp2_with fail
              refine (told a2.out (l1In_any _ _ _ _)).mono ?_
              rintro e w1 ⟨rfl, rfl⟩
              go_wp2_with fail
              refine (told a3.out (l1In_any _ _ _ _)).mono ?_
              rintro e w1 ⟨rfl, rfl⟩
              go_wp2_with fail
              refine (told b1.out (l4May_spec s _ _ bd0)).mono ?_
              rintro e w1 ⟨rfl, rfl⟩
              go_wp2
              go_returns
              exact ⟨ret_bool (by rw [HO.out]; simp [a2.out, a3.out, b1.out]), by go_grown⟩
            · skip
              obtain ⟨qb2, hb2⟩ : ∃ q, wifB nm false = q := ⟨_, rfl⟩
              have b2 := Lib.hid hb2; clear hb2
              cases qb2
              · skip
                go_enter Try.func119, Try.ntmps119
                go_wp2_with fail
                refine (told (show inB (7 : Int) 0 7 = true from inB_yes (by omega) (by omega)) (l1In_any _ _ _ _)).mono ?_
                rintro e w1 ⟨rfl, rfl⟩
                go_wp2_with fail
                refine (told a2.out (l1In_any _ _ _ _)).mono ?_
                rintro e w1 ⟨rfl, rfl⟩
                go_wp2_with fail
                refine (told a3.out (l1In_any _ _ _ _)).mono ?_
                rintro e w1 ⟨rfl, rfl⟩
                go_wp2_with fail
                refine (told b1.out (l4May_spec s _ _ bd0)).mono ?_
                rintro e w1 ⟨rfl, rfl⟩
                go_wp2_with fail
                refine (told b2.out (l4May_spec nm _ _ bd1)).mono ?_
                rintro e w1 ⟨rfl, rfl⟩
                go_wp2
                go_returns
                exact ⟨ret_bool (by rw [HO.out]; simp [a2.out, a3.out, b1.out, b2.out]), by go_grown⟩
              · skip
                obtain ⟨qb3, hb3⟩ : ∃ q, wifB tg false = q := ⟨_, rfl⟩
                have b3 := Lib.hid hb3; clear hb3
                cases qb3
                · skip
                  go_enter Try.func119, Try.ntmps119
                  go_wp2_with fail
                  refine (told (show inB (7 : Int) 0 7 = true from inB_yes (by omega) (by omega)) (l1In_any _ _ _ _)).mono ?_
                  rintro e w1 ⟨rfl, rfl⟩
                  go_wp2_with fail
                  refine (told a2.out (l1In_any _ _ _ _)).mono ?_
                  rintro e w1 ⟨rfl, rfl⟩
                  go_wp2_with fail
                  refine (told a3.out (l1In_any _ _ _ _)).mono ?_
                  rintro e w1 ⟨rfl, rfl⟩
                  go_wp2_with fail
                  refine (told b1.out (l4May_spec s _ _ bd0)).mono ?_
                  rintro e w1 ⟨rfl, rfl⟩
                  go_wp2_with fail
                  refine (told b2.out (l4May_spec nm _ _ bd1)).mono ?_
                  rintro e w1 ⟨rfl, rfl⟩
                  go_wp2_with fail
                  refine (told b3.out (l4May_spec tg _ _ bd2)).mono ?_
                  rintro e w1 ⟨rfl, rfl⟩
                  go_wp2
                  go_returns
                  exact ⟨ret_bool (by rw [HO.out]; simp [a2.out, a3.out, b1.out, b2.out, b3.out]), by go_grown⟩
                · skip
                  by_cases hn0 : n = 0
                  · have gn : (n != 0) = false := by simp [hn0]
                    have HN0 := Lib.hid hn0; clear hn0
                    by_cases hc0 : n1 = 0
                    · have gc : ((n1 : Int) == 0) = true := by simp [hc0]
                      have HC0 := Lib.hid (show ch.length = 0 from HN.out.symm.trans hc0); clear hc0
                      go_enter Try.func119, Try.ntmps119
                      go_wp2_with fail
                      refine (told (show inB (7 : Int) 0 7 = true from inB_yes (by omega) (by omega)) (l1In_any _ _ _ _)).mono ?_
                      rintro e w1 ⟨rfl, rfl⟩
                      go_wp2_with fail
                      refine (told a2.out (l1In_any _ _ _ _)).mono ?_
                      rintro e w1 ⟨rfl, rfl⟩
                      go_wp2_with fail
                      refine (told a3.out (l1In_any _ _ _ _)).mono ?_
                      rintro e w1 ⟨rfl, rfl⟩
                      go_wp2_with fail
                      refine (told b1.out (l4May_spec s _ _ bd0)).mono ?_
                      rintro e w1 ⟨rfl, rfl⟩
                      go_wp2_with fail
                      refine (told b2.out (l4May_spec nm _ _ bd1)).mono ?_
                      rintro e w1 ⟨rfl, rfl⟩
                      go_wp2_with fail
                      refine (told b3.out (l4May_spec tg _ _ bd2)).mono ?_
                      rintro e w1 ⟨rfl, rfl⟩
                      go_wp2
                      go_returns
                      exact ⟨ret_bool (by rw [HO.out]; simp [a2.out, a3.out, b1.out, b2.out, b3.out, HN0.out, HC0.out]), by go_grown⟩
                    · have gc : ((n1 : Int) == 0) = false := by simpa using hc0
                      have HC0 := Lib.hid (show ¬ ch.length = 0 from fun e => hc0 (HN.out.trans e)); clear hc0
                      go_enter Try.func119, Try.ntmps119
                      go_wp2_with fail
                      refine (told (show inB (7 : Int) 0 7 = true from inB_yes (by omega) (by omega)) (l1In_any _ _ _ _)).mono ?_
                      rintro e w1 ⟨rfl, rfl⟩
                      go_wp2_with fail
                      refine (told a2.out (l1In_any _ _ _ _)).mono ?_
                      rintro e w1 ⟨rfl, rfl⟩
                      go_wp2_with fail
                      refine (told a3.out (l1In_any _ _ _ _)).mono ?_
                      rintro e w1 ⟨rfl, rfl⟩
                      go_wp2_with fail
                      refine (told b1.out (l4May_spec s _ _ bd0)).mono ?_
                      rintro e w1 ⟨rfl, rfl⟩
                      go_wp2_with fail
                      refine (told b2.out (l4May_spec nm _ _ bd1)).mono ?_
                      rintro e w1 ⟨rfl, rfl⟩
                      go_wp2_with fail
                      refine (told b3.out (l4May_spec tg _ _ bd2)).mono ?_
                      rintro e w1 ⟨rfl, rfl⟩
                      go_wp2
                      go_returns
                      exact ⟨ret_bool (by rw [HO.out]; simp [a2.out, a3.out, b1.out, b2.out, b3.out, HN0.out, HC0.out]), by go_grown⟩
                  · have gn : (n != 0) = true := by simpa using hn0
                    have HN0 := Lib.hid hn0; clear hn0
                    go_enter Try.func119, Try.ntmps119
                    go_wp2_with fail
                    refine (told (show inB (7 : Int) 0 7 = true from inB_yes (by omega) (by omega)) (l1In_any _ _ _ _)).mono ?_
                    rintro e w1 ⟨rfl, rfl⟩
                    go_wp2_with fail
                    refine (told a2.out (l1In_any _ _ _ _)).mono ?_
                    rintro e w1 ⟨rfl, rfl⟩
                    go_wp2_with fail
                    refine (told a3.out (l1In_any _ _ _ _)).mono ?_
                    rintro e w1 ⟨rfl, rfl⟩
                    go_wp2_with fail
                    refine (told b1.out (l4May_spec s _ _ bd0)).mono ?_
                    rintro e w1 ⟨rfl, rfl⟩
                    go_wp2_with fail
                    refine (told b2.out (l4May_spec nm _ _ bd1)).mono ?_
                    rintro e w1 ⟨rfl, rfl⟩
                    go_wp2_with fail
                    refine (told b3.out (l4May_spec tg _ _ bd2)).mono ?_
                    rintro e w1 ⟨rfl, rfl⟩
                    go_wp2
                    go_returns
                    exact ⟨ret_bool (by rw [HO.out]; simp [a2.out, a3.out, b1.out, b2.out, b3.out, HN0.out]), by go_grown⟩
    · have q1 := Lib.hid (show inB x.kd 1 7 = false from inB_no (by omega))
      have q0 := Lib.hid (show inB x.kd 0 7 = false from inB_no (by omega))
      have hd : (x.kd == 0) = false := by simpa using hk0
      clear hk0 hkr
      unfold cmV
      go_enter Try.func119, Try.ntmps119
      go_wp2_with fail
      refine (told q0.out (l1In_any _ _ _ _)).mono ?_
      rintro e w1 ⟨rfl, rfl⟩
      go_wp2
      go_returns
      exact ⟨ret_bool (by rw [HO.out, q1.out]; simp), by go_grown⟩
end Go.Proofs.Ytdphdnllhmnelaa
/- Contracts of ShowCmd (both sides): the text of a command. -/
namespace Go.Proofs.Ytdphdnllhmnelaa
open Go.RowKit
attribute [local go_sem] Grow.cell Grow.frozen
theorem var_implZ (z : Int) (w : World) (h0 : 0 ≤ z) (h1 : z ≤ 562949953421311) :
    Calls Try.prog 76 #[.int .i64 z] w fun e w' => e = .returned (.string (varS z.toNat)) ∧ Below w.heap.size w w' := by
  obtain ⟨n, rfl⟩ := Int.eq_ofNat_of_zero_le h0
  exact var_impl n w (by omega)
theorem var_specZ (z : Int) (w : World) (h0 : 0 ≤ z) (h1 : z ≤ 562949953421311) :
    Calls Try.prog 70 #[.int .i64 z] w fun e w' => e = .returned (.string (varS z.toNat)) ∧ Below w.heap.size w w' := by
  obtain ⟨n, rfl⟩ := Int.eq_ofNat_of_zero_le h0
  exact var_spec n w (by omega)
theorem strsCell {w : World} {A : Option Addr} {n : Nat} {l : List ByteArray} (h : StrsAt w A n l) {k : Nat} (hk : k < n) : ∃ b off, A = some ⟨b, off, none⟩ ∧ b < w.heap.size ∧ w.cell? ⟨b, off + k, none⟩ = some (.string (sAt l k)) := by
  obtain ⟨b, off, hA, hb, hc⟩ := h.2 (by omega)
  exact ⟨b, off, hA, hb, hc k hk⟩
theorem strR_at {w : World} {A : Option Addr} {n c : Nat} {l : List ByteArray} (h : StrR w A n c l) : StrsAt w A n l := h.1
attribute [local irreducible] StrsAt StrR varS cmOkB
set_option maxRecDepth 8000 in
set_option maxHeartbeats 4000000 in
theorem showCmd_impl (x : Cm) (A1 : Option Addr) (n1 c1 : Nat) (w : World) (h1 : StrR w A1 n1 c1 x.ch) (hb : cmB x) :
    Calls Try.prog 78 #[cmV x (.slice A1 n1 c1)] w fun e w' => e = .returned (.string (cmText x)) ∧ Below w.heap.size w w' := by
  have HN := Lib.hid h1.len
  have al := (Below.refl w.heap.size w).alloc (Nat.le_refl _) (.cells #[.int .i64 x.kd, .int .i64 x.cl, .int .i64 x.no, .string x.s, .string x.nm, .string x.tg, .int .i64 x.n, .slice A1 n1 c1] 47)
  obtain ⟨q, hq⟩ : ∃ q, cmOkB x = q := ⟨_, rfl⟩
  have HQ := Lib.hid hq
  cases q
  · have HT := Lib.hid (cmText_no hq)
    clear hq
    rw [HT.out]
    unfold cmV
    go_enter Try.func78, Try.ntmps78
    go_wp2_with fail
    refine (cmdOk_impl x _ _ _ _ (h1.keep al) hb).mono ?_
    rintro e w1 ⟨rfl, hb1⟩
    rw [HQ.out]
    go_wp2
    go_returns
    exact ⟨rfl, bthen al hb1⟩
  · have HT := Lib.hid (cmText_yes hq)
    have hd := cmOk_bd hq
    have hts := cmTo_size hd
    have HTS := Lib.hid hts; clear hts
    obtain ⟨a1, a2, a3, a4, a5, a6, a7, a8, a9⟩ := hd
    have A9 := Lib.hid a9; clear a9 hq
    rw [HT.out]
    unfold cmV
    go_enter Try.func78, Try.ntmps78
    go_wp2_with fail
    refine (cmdOk_impl x _ _ _ _ (h1.keep al) hb).mono ?_
    rintro e w1 ⟨rfl, hb1⟩
    rw [HQ.out]
    have hB1 := bthen al hb1
    have hz1 := hb1.size
    simp at hz1
    have hz1' : w.heap.size < w1.heap.size := by omega
    have e0 : w1.cell? ⟨w.heap.size, 0, none⟩ = some (.int .i64 x.kd) := keep_cell hb1 (by simp [go_sem])
    have e1 : w1.cell? ⟨w.heap.size, 1, none⟩ = some (.int .i64 x.cl) := keep_cell hb1 (by simp [go_sem])
    have e2 : w1.cell? ⟨w.heap.size, 2, none⟩ = some (.int .i64 x.no) := keep_cell hb1 (by simp [go_sem])
    have e3 : w1.cell? ⟨w.heap.size, 3, none⟩ = some (.string x.s) := keep_cell hb1 (by simp [go_sem])
    have e4 : w1.cell? ⟨w.heap.size, 4, none⟩ = some (.string x.nm) := keep_cell hb1 (by simp [go_sem])
    have e5 : w1.cell? ⟨w.heap.size, 5, none⟩ = some (.string x.tg) := keep_cell hb1 (by simp [go_sem])
    have e6 : w1.cell? ⟨w.heap.size, 6, none⟩ = some (.int .i64 x.n) := keep_cell hb1 (by simp [go_sem])
    have e7 : w1.cell? ⟨w.heap.size, 7, none⟩ = some (.slice A1 n1 c1) := keep_cell hb1 (by simp [go_sem])
    have v0 := varS_size (x.kd.toNat)
    have v1 := varS_size (x.cl.toNat)
    have v2 := varS_size (x.no.toNat)
    have v3 := varS_size (x.n.toNat)
    have v4 := varS_size (x.s.size)
    have v5 := varS_size (x.nm.size)
    have v6 := varS_size (x.tg.size)
    have v7 := varS_size (n1)
    have hn1 : n1 ≤ 4 := by have := HN.out; omega
    go_wp2
    refine wp_region_grow (by kernel_rfl) (by kernel_rfl) ?_
    repeat (first | go_big_quiet_step (first | (go_at_call 76; with_reducible exact grow_of (var_impl _ _ (by omega))) | (go_at_call 76; exact grow_of (var_implZ _ _ (by omega) (by omega))) | (go_at_call 77; exact grow_of (sized_impl _ _ (by omega)))))
    refine wpQuiet_nil ?_
    intro _ hw'
    obtain ⟨⟨w2, hb2⟩, hw''⟩ := hw'
    change _ = w2 at hw''
    subst hw''
    rename_i w2
    have hB2 := bthen hB1 hb2
    have e7' := keep_cell hb2 e7
    have hz2 := hb2.size
    have hz2' : w.heap.size < w2.heap.size := by omega
    clear e0 e1 e2 e3 e4 e5 e6 e7 v0 v1 v2 v3 v4 v5 v6 v7
    obtain ⟨hd, hhd⟩ : ∃ t, cmHd x = t := ⟨_, rfl⟩
    have HH := Lib.hid (show cmTo x 0 = hd from hhd)
    unfold cmHd at hhd; have HHD := Lib.hid hhd; clear hhd
    try simp only [← HN.out] at HHD
    go_wp2
    go_loopw [3, 44] (fun o i wr => ∃ k : Nat, k ≤ n1 ∧ i = .int .i64 k ∧ o = .string (cmTo x k) ∧ Below w2.heap.size w2 wr) (fun _ i _ => n1 - (intOf i).toNat)
    case atStart => exact ⟨0, Nat.zero_le _, rfl, by rw [HH.out, ← HHD.out, HN.out], by first | exact Below.refl _ _ | exact (Below.refl _ _).drew⟩
    case round =>
      obtain ⟨k, hk, rfl, rfl, hbr⟩ := hrel
      have HS := Lib.hid (show cmTo x (k + 1) = cmTo x k ++ sAt x.ch k from rfl)
      have ht := HTS.out k (by have := HN.out; omega)
      by_cases hlt : k < n1
      · have h8 := A9.out k (by have := HN.out; omega)
        obtain ⟨b, off, rfl, hbl, hc⟩ := strsCell (strR_at ((h1.keep hB2).keep hbr)) hlt
        go_wp2
        exact ⟨⟨k + 1, by omega, by go_num, by rw [HS.out], hbr⟩, by simp [intOf]; omega⟩
      · go_wp2
        go_returns
        have hkn : k = x.ch.length := by have := HN.out; omega
        exact ⟨by rw [hkn]; rfl, bthen hB2 hbr⟩
set_option maxRecDepth 8000 in
set_option maxHeartbeats 4000000 in
theorem showCmd_spec (x : Cm) (A1 : Option Addr) (n1 c1 : Nat) (w : World) (h1 : StrR w A1 n1 c1 x.ch) (hb : cmB x) :
    Calls Try.prog 72 #[cmV x (.slice A1 n1 c1)] w fun e w' => e = .returned (.string (cmText x)) ∧ Below w.heap.size w w' := by
  have HN := Lib.hid h1.len
  have al := (Below.refl w.heap.size w).alloc (Nat.le_refl _) (.cells #[.int .i64 x.kd, .int .i64 x.cl, .int .i64 x.no, .string x.s, .string x.nm, .string x.tg, .int .i64 x.n, .slice A1 n1 c1] 47)
  obtain ⟨q, hq⟩ : ∃ q, cmOkB x = q := ⟨_, rfl⟩
  have HQ := Lib.hid hq
  cases q
  · have HT := Lib.hid (cmText_no hq)
    clear hq
    rw [HT.out]
    unfold cmV
    go_enter Try.func72, Try.ntmps72
    go_wp2_with fail
    refine (cmdOk_spec x _ _ _ _ (h1.keep al) hb).mono ?_
    rintro e w1 ⟨rfl, hb1⟩
    rw [HQ.out]
    go_wp2
    go_returns
    exact ⟨rfl, bthen al hb1⟩
  · have HT := Lib.hid (cmText_yes hq)
    have hd := cmOk_bd hq
    have hts := cmTo_size hd
    have HTS := Lib.hid hts; clear hts
    obtain ⟨a1, a2, a3, a4, a5, a6, a7, a8, a9⟩ := hd
    have A9 := Lib.hid a9; clear a9 hq
    rw [HT.out]
    unfold cmV
    go_enter Try.func72, Try.ntmps72
    go_wp2_with fail
    refine (cmdOk_spec x _ _ _ _ (h1.keep al) hb).mono ?_
    rintro e w1 ⟨rfl, hb1⟩
    rw [HQ.out]
    have hB1 := bthen al hb1
    have hz1 := hb1.size
    simp at hz1
    have hz1' : w.heap.size < w1.heap.size := by omega
    have e0 : w1.cell? ⟨w.heap.size, 0, none⟩ = some (.int .i64 x.kd) := keep_cell hb1 (by simp [go_sem])
    have e1 : w1.cell? ⟨w.heap.size, 1, none⟩ = some (.int .i64 x.cl) := keep_cell hb1 (by simp [go_sem])
    have e2 : w1.cell? ⟨w.heap.size, 2, none⟩ = some (.int .i64 x.no) := keep_cell hb1 (by simp [go_sem])
    have e3 : w1.cell? ⟨w.heap.size, 3, none⟩ = some (.string x.s) := keep_cell hb1 (by simp [go_sem])
    have e4 : w1.cell? ⟨w.heap.size, 4, none⟩ = some (.string x.nm) := keep_cell hb1 (by simp [go_sem])
    have e5 : w1.cell? ⟨w.heap.size, 5, none⟩ = some (.string x.tg) := keep_cell hb1 (by simp [go_sem])
    have e6 : w1.cell? ⟨w.heap.size, 6, none⟩ = some (.int .i64 x.n) := keep_cell hb1 (by simp [go_sem])
    have e7 : w1.cell? ⟨w.heap.size, 7, none⟩ = some (.slice A1 n1 c1) := keep_cell hb1 (by simp [go_sem])
    have v0 := varS_size (x.kd.toNat)
    have v1 := varS_size (x.cl.toNat)
    have v2 := varS_size (x.no.toNat)
    have v3 := varS_size (x.n.toNat)
    have v4 := varS_size (x.s.size)
    have v5 := varS_size (x.nm.size)
    have v6 := varS_size (x.tg.size)
    have v7 := varS_size (n1)
    have hn1 : n1 ≤ 4 := by have := HN.out; omega
    go_wp2
    refine wp_region_grow (by kernel_rfl) (by kernel_rfl) ?_
    repeat (first | go_big_quiet_step (first | (go_at_call 70; with_reducible exact grow_of (var_spec _ _ (by omega))) | (go_at_call 70; exact grow_of (var_specZ _ _ (by omega) (by omega))) | (go_at_call 71; exact grow_of (l4Piece_spec _ _ (by omega)))))
    refine wpQuiet_nil ?_
    intro _ hw'
    obtain ⟨⟨w2, hb2⟩, hw''⟩ := hw'
    change _ = w2 at hw''
    subst hw''
    rename_i w2
    have hB2 := bthen hB1 hb2
    have e7' := keep_cell hb2 e7
    have hz2 := hb2.size
    have hz2' : w.heap.size < w2.heap.size := by omega
    clear e0 e1 e2 e3 e4 e5 e6 e7 v0 v1 v2 v3 v4 v5 v6 v7
    obtain ⟨hd, hhd⟩ : ∃ t, cmHd x = t := ⟨_, rfl⟩
    have HH := Lib.hid (show cmTo x 0 = hd from hhd)
    unfold cmHd at hhd; have HHD := Lib.hid hhd; clear hhd
    try simp only [← HN.out] at HHD
    go_wp2
    go_loopw [3, 4] (fun o i wr => ∃ k : Nat, k ≤ n1 ∧ i = .int .i64 k ∧ o = .string (cmTo x k) ∧ Below w2.heap.size w2 wr) (fun _ i _ => n1 - (intOf i).toNat)
    case atStart => exact ⟨0, Nat.zero_le _, rfl, by rw [HH.out, ← HHD.out, HN.out], by first | exact Below.refl _ _ | exact (Below.refl _ _).drew⟩
    case round =>
      obtain ⟨k, hk, rfl, rfl, hbr⟩ := hrel
      have HS := Lib.hid (show cmTo x (k + 1) = cmTo x k ++ sAt x.ch k from rfl)
      have ht := HTS.out k (by have := HN.out; omega)
      have c7 := keep_cell hbr e7'
      by_cases hlt : k < n1
      · have h8 := A9.out k (by have := HN.out; omega)
        obtain ⟨b, off, rfl, hbl, hc⟩ := strsCell (strR_at ((h1.keep hB2).keep hbr)) hlt
        go_wp2
        exact ⟨⟨k + 1, by omega, by go_num, by rw [HS.out], hbr⟩, by simp [intOf]; omega⟩
      · go_wp2
        go_returns
        have hkn : k = x.ch.length := by have := HN.out; omega
        exact ⟨by rw [hkn]; rfl, bthen hB2 hbr⟩
end Go.Proofs.Ytdphdnllhmnelaa
/- What grew by an append. -/
namespace Go.Proofs.Ytdphdnllhmnelaa
open Go.RowKit
theorem Ch.of_grow {w w' : World} {o : Option Nat} (h : w.grownBy w' o) : Ch (fun k => o = some k) w w' := ⟨h.os, h.tape, h.output, h.size, fun k hk hn => h.block k hk (fun e => hn e.symm)⟩
end Go.Proofs.Ytdphdnllhmnelaa
