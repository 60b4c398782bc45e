/- Contracts and lemmas: CmdOkS. -/
import Derived.Test.YtdphdnllhmnelaaJ18
/- Contract of the reference's CmdOk. -/
namespace Go.Proofs.Ytdphdnllhmnelaa
open Go.RowKit
attribute [local irreducible] StrsAt wifB ok8 inB
set_option maxRecDepth 8000 in
set_option maxHeartbeats 4000000 in
theorem cmdOk_spec (x : Cm) (A1 : Option Addr) (n1 c1 : Nat) (w : World) (h1 : StrR w A1 n1 c1 x.ch) (hb : cmB x) :
    Calls Try.prog 119 #[cmV x (.slice A1 n1 c1)] w fun e w' => e = .returned (.bool (cmOkB x)) ∧ Below w.heap.size w w' := by
  obtain ⟨bd0, bd1, bd2, bd3⟩ := hb
  have HN := Lib.hid h1.len
  have hn1 : n1 ≤ 9223372036854775807 := by have := h1.len; have := bd3.1; omega
  by_cases hk0 : x.kd = 0
  · have HS := Lib.hid (show cmOkB x = sameB x cmNil by unfold cmOkB; rw [if_pos hk0])
    have HK := Lib.hid hk0
    have hd : (x.kd == 0) = true := by simpa using hk0
    have q0 : inB x.kd 0 7 = true := inB_yes (by omega) (by omega)
    clear hk0
    unfold cmV
    go_enter Try.func119, Try.ntmps119
    go_wp2_with fail
    refine (told q0 (l1In_any _ _ _ _)).mono ?_
    rintro e w1 ⟨rfl, rfl⟩
    go_wp2_with fail
    refine (sameCmd_spec x cmNil _ _ _ _ _ _ _ (h1.keep (by go_grown)) (cmNil_R _) hn1 (by omega)).mono ?_
    rintro e w2 ⟨rfl, hb2⟩
    go_wp2
    go_returns
    exact ⟨ret_bool (by rw [HS.out]), bthen (by go_grown) hb2⟩
  · have HO := Lib.hid (show cmOkB x = (inB x.kd 1 7 && inB x.cl 1 9 && inB x.no 1 1000 && wifB x.s (decide (x.kd ≠ 7)) && wifB x.nm (decide (x.kd = 3) || decide (x.kd = 4)) && wifB x.tg (decide (x.kd = 4)) && (decide (x.n = 0) || (decide (x.kd = 5) && inB x.n 0 9)) && (if x.kd = 3 then inB (x.ch.length : Int) 1 4 && ok8 x.ch else decide (x.ch.length = 0))) by unfold cmOkB; rw [if_neg hk0])
    by_cases hkr : 1 ≤ x.kd ∧ x.kd ≤ 7
    · have hkc : x.kd = 1 ∨ x.kd = 2 ∨ x.kd = 3 ∨ x.kd = 4 ∨ x.kd = 5 ∨ x.kd = 6 ∨ x.kd = 7 := by omega
      clear hk0 hkr
      unfold cmV
      obtain ⟨kd, cl, no, s, nm, tg, n, ch⟩ := x
      simp only at *
      rcases hkc with rfl | rfl | rfl | rfl | rfl | rfl | rfl
      · simp only [show inB (1 : Int) 1 7 = true from inB_yes (by omega) (by omega), Bool.true_and] at HO
        obtain ⟨qa2, ha2⟩ : ∃ q, inB cl 1 9 = q := ⟨_, rfl⟩
        have a2 := Lib.hid ha2; clear ha2
        cases qa2
        · skip
          go_enter Try.func119, Try.ntmps119
          go_wp2_with fail
          refine (told (show inB (1 : Int) 0 7 = true from inB_yes (by omega) (by omega)) (l1In_any _ _ _ _)).mono ?_
          rintro e w1 ⟨rfl, rfl⟩
          go_wp2_with fail
          refine (told a2.out (l1In_any _ _ _ _)).mono ?_
          rintro e w1 ⟨rfl, rfl⟩
          go_wp2
          go_returns
          exact ⟨ret_bool (by rw [HO.out]; simp [a2.out]), by go_grown⟩
        · skip
          obtain ⟨qa3, ha3⟩ : ∃ q, inB no 1 1000 = q := ⟨_, rfl⟩
          have a3 := Lib.hid ha3; clear ha3
          cases qa3
          · skip
            go_enter Try.func119, Try.ntmps119
            go_wp2_with fail
            refine (told (show inB (1 : Int) 0 7 = true from inB_yes (by omega) (by omega)) (l1In_any _ _ _ _)).mono ?_
            rintro e w1 ⟨rfl, rfl⟩
            go_wp2_with fail
            refine (told a2.out (l1In_any _ _ _ _)).mono ?_
            rintro e w1 ⟨rfl, rfl⟩
            go_wp2_with fail
            refine (told a3.out (l1In_any _ _ _ _)).mono ?_
            rintro e w1 ⟨rfl, rfl⟩
            go_wp2
            go_returns
            exact ⟨ret_bool (by rw [HO.out]; simp [a2.out, a3.out]), by go_grown⟩
          · skip
            obtain ⟨qb1, hb1⟩ : ∃ q, wifB s true = q := ⟨_, rfl⟩
            have b1 := Lib.hid hb1; clear hb1
            cases qb1
            · skip
              go_enter Try.func119, Try.ntmps119
              go_wp2_with fail
              refine (told (show inB (1 : Int) 0 7 = true from inB_yes (by omega) (by omega)) (l1In_any _ _ _ _)).mono ?_
              rintro e w1 ⟨rfl, rfl⟩
              go_wp2_with fail
              refine (told a2.out (l1In_any _ _ _ _)).mono ?_
              rintro e w1 ⟨rfl, rfl⟩
              go_wp2_with fail
              refine (told a3.out (l1In_any _ _ _ _)).mono ?_
              rintro e w1 ⟨rfl, rfl⟩
              go_wp2_with fail
              refine (told b1.out (l4May_spec s _ _ bd0)).mono ?_
              rintro e w1 ⟨rfl, rfl⟩
              go_wp2
              go_returns
              exact ⟨ret_bool (by rw [HO.out]; simp [a2.out, a3.out, b1.out]), by go_grown⟩
            · skip
              obtain ⟨qb2, hb2⟩ : ∃ q, wifB nm false = q := ⟨_, rfl⟩
              have b2 := Lib.hid hb2; clear hb2
              cases qb2
              · skip
                go_enter Try.func119, Try.ntmps119
                go_wp2_with fail
                refine (told (show inB (1 : Int) 0 7 = true from inB_yes (by omega) (by omega)) (l1In_any _ _ _ _)).mono ?_
                rintro e w1 ⟨rfl, rfl⟩
                go_wp2_with fail
                refine (told a2.out (l1In_any _ _ _ _)).mono ?_
                rintro e w1 ⟨rfl, rfl⟩
                go_wp2_with fail
                refine (told a3.out (l1In_any _ _ _ _)).mono ?_
                rintro e w1 ⟨rfl, rfl⟩
                go_wp2_with fail
                refine (told b1.out (l4May_spec s _ _ bd0)).mono ?_
                rintro e w1 ⟨rfl, rfl⟩
                go_wp2_with fail
                refine (told b2.out (l4May_spec nm _ _ bd1)).mono ?_
                rintro e w1 ⟨rfl, rfl⟩
                go_wp2
                go_returns
                exact ⟨ret_bool (by rw [HO.out]; simp [a2.out, a3.out, b1.out, b2.out]), by go_grown⟩
              · skip
                obtain ⟨qb3, hb3⟩ : ∃ q, wifB tg false = q := ⟨_, rfl⟩
                have b3 := Lib.hid hb3; clear hb3
                cases qb3
                · skip
                  go_enter Try.func119, Try.ntmps119
                  go_wp2_with fail
                  refine (told (show inB (1 : Int) 0 7 = true from inB_yes (by omega) (by omega)) (l1In_any _ _ _ _)).mono ?_
                  rintro e w1 ⟨rfl, rfl⟩
                  go_wp2_with fail
                  refine (told a2.out (l1In_any _ _ _ _)).mono ?_
                  rintro e w1 ⟨rfl, rfl⟩
                  go_wp2_with fail
                  refine (told a3.out (l1In_any _ _ _ _)).mono ?_
                  rintro e w1 ⟨rfl, rfl⟩
                  go_wp2_with fail
                  refine (told b1.out (l4May_spec s _ _ bd0)).mono ?_
                  rintro e w1 ⟨rfl, rfl⟩
                  go_wp2_with fail
                  refine (told b2.out (l4May_spec nm _ _ bd1)).mono ?_
                  rintro e w1 ⟨rfl, rfl⟩
                  go_wp2_with fail
                  refine (told b3.out (l4May_spec tg _ _ bd2)).mono ?_
                  rintro e w1 ⟨rfl, rfl⟩
                  go_wp2
                  go_returns
                  exact ⟨ret_bool (by rw [HO.out]; simp [a2.out, a3.out, b1.out, b2.out, b3.out]), by go_grown⟩
                · skip
                  by_cases hn0 : n = 0
                  · have gn : (n != 0) = false := by simp [hn0]
                    have HN0 := Lib.hid hn0; clear hn0
                    by_cases hc0 : n1 = 0
                    · have gc : ((n1 : Int) == 0) = true := by simp [hc0]
                      have HC0 := Lib.hid (show ch.length = 0 from HN.out.symm.trans hc0); clear hc0
                      go_enter Try.func119, Try.ntmps119
                      go_wp2_with fail
                      refine (told (show inB (1 : Int) 0 7 = true from inB_yes (by omega) (by omega)) (l1In_any _ _ _ _)).mono ?_
                      rintro e w1 ⟨rfl, rfl⟩
                      go_wp2_with fail
                      refine (told a2.out (l1In_any _ _ _ _)).mono ?_
                      rintro e w1 ⟨rfl, rfl⟩
                      go_wp2_with fail
                      refine (told a3.out (l1In_any _ _ _ _)).mono ?_
                      rintro e w1 ⟨rfl, rfl⟩
                      go_wp2_with fail
                      refine (told b1.out (l4May_spec s _ _ bd0)).mono ?_
                      rintro e w1 ⟨rfl, rfl⟩
                      go_wp2_with fail
                      refine (told b2.out (l4May_spec nm _ _ bd1)).mono ?_
                      rintro e w1 ⟨rfl, rfl⟩
                      go_wp2_with fail
                      refine (told b3.out (l4May_spec tg _ _ bd2)).mono ?_
                      rintro e w1 ⟨rfl, rfl⟩
                      go_wp2
                      go_returns
                      exact ⟨ret_bool (by rw [HO.out]; simp [a2.out, a3.out, b1.out, b2.out, b3.out, HN0.out, HC0.out]), by go_grown⟩
                    · have gc : ((n1 : Int) == 0) = false := by simpa using hc0
                      have HC0 := Lib.hid (show ¬ ch.length = 0 from fun e => hc0 (HN.out.trans e)); clear hc0
                      go_enter Try.func119, Try.ntmps119
                      go_wp2_with fail
                      refine (told (show inB (1 : Int) 0 7 = true from inB_yes (by omega) (by omega)) (l1In_any _ _ _ _)).mono ?_
                      rintro e w1 ⟨rfl, rfl⟩
                      go_wp2_with fail
                      refine (told a2.out (l1In_any _ _ _ _)).mono ?_
                      rintro e w1 ⟨rfl, rfl⟩
                      go_wp2_with fail
                      refine (told a3.out (l1In_any _ _ _ _)).mono ?_
                      rintro e w1 ⟨rfl, rfl⟩
                      go_wp2_with fail
                      refine (told b1.out (l4May_spec s _ _ bd0)).mono ?_
                      rintro e w1 ⟨rfl, rfl⟩
                      go_wp2_with fail
                      refine (told b2.out (l4May_spec nm _ _ bd1)).mono ?_
                      rintro e w1 ⟨rfl, rfl⟩
                      go_wp2_with fail
                      refine (told b3.out (l4May_spec tg _ _ bd2)).mono ?_
                      rintro e w1 ⟨rfl, rfl⟩
                      go_wp2
                      go_returns
                      exact ⟨ret_bool (by rw [HO.out]; simp [a2.out, a3.out, b1.out, b2.out, b3.out, HN0.out, HC0.out]), by go_grown⟩
                  · have gn : (n != 0) = true := by simpa using hn0
                    have HN0 := Lib.hid hn0; clear hn0
                    go_enter Try.func119, Try.ntmps119
                    go_wp2_with fail
                    refine (told (show inB (1 : Int) 0 7 = true from inB_yes (by omega) (by omega)) (l1In_any _ _ _ _)).mono ?_
                    rintro e w1 ⟨rfl, rfl⟩
                    go_wp2_with fail
                    refine (told a2.out (l1In_any _ _ _ _)).mono ?_
                    rintro e w1 ⟨rfl, rfl⟩
                    go_wp2_with fail
                    refine (told a3.out (l1In_any _ _ _ _)).mono ?_
                    rintro e w1 ⟨rfl, rfl⟩
                    go_wp2_with fail
                    refine (told b1.out (l4May_spec s _ _ bd0)).mono ?_
                    rintro e w1 ⟨rfl, rfl⟩
                    go_wp2_with fail
                    refine (told b2.out (l4May_spec nm _ _ bd1)).mono ?_
                    rintro e w1 ⟨rfl, rfl⟩
                    go_wp2_with fail
                    refine (told b3.out (l4May_spec tg _ _ bd2)).mono ?_
                    rintro e w1 ⟨rfl, rfl⟩
                    go_wp2
                    go_returns
                    exact ⟨ret_bool (by rw [HO.out]; simp [a2.out, a3.out, b1.out, b2.out, b3.out, HN0.out]), by go_grown⟩
      · simp only [show inB (2 : Int) 1 7 = true from inB_yes (by omega) (by omega), Bool.true_and] at HO
        obtain ⟨qa2, ha2⟩ : ∃ q, inB cl 1 9 = q := ⟨_, rfl⟩
        have a2 := Lib.hid ha2; clear ha2
        cases qa2
        · skip
          go_enter Try.func119, Try.ntmps119
          go_wp2_with fail
          refine (told (show inB (2 : Int) 0 7 = true from inB_yes (by omega) (by omega)) (l1In_any _ _ _ _)).mono ?_
          rintro e w1 ⟨rfl, rfl⟩
          go_wp2_with fail
          refine (told a2.out (l1In_any _ _ _ _)).mono ?_
          rintro e w1 ⟨rfl, rfl⟩
          go_wp2
          go_returns
          exact ⟨ret_bool (by rw [HO.out]; simp [a2.out]), by go_grown⟩
        · skip
          obtain ⟨qa3, ha3⟩ : ∃ q, inB no 1 1000 = q := ⟨_, rfl⟩
          have a3 := Lib.hid ha3; clear ha3
          cases qa3
          · skip
            go_enter Try.func119, Try.ntmps119
            go_wp2_with fail
            refine (told (show inB (2 : Int) 0 7 = true from inB_yes (by omega) (by omega)) (l1In_any _ _ _ _)).mono ?_
            rintro e w1 ⟨rfl, rfl⟩
            go_wp2_with fail
            refine (told a2.out (l1In_any _ _ _ _)).mono ?_
            rintro e w1 ⟨rfl, rfl⟩
            go_wp2_with fail
            refine (told a3.out (l1In_any _ _ _ _)).mono ?_
            rintro e w1 ⟨rfl, rfl⟩
            go_wp2
            go_returns
            exact ⟨ret_bool (by rw [HO.out]; simp [a2.out, a3.out]), by go_grown⟩
          · skip
            obtain ⟨qb1, hb1⟩ : ∃ q, wifB s true = q := ⟨_, rfl⟩
            have b1 := Lib.hid hb1; clear hb1
            cases qb1
            · skip
              go_enter Try.func119, Try.ntmps119
              go_wp2_with fail
              refine (told (show inB (2 : Int) 0 7 = true from inB_yes (by omega) (by omega)) (l1In_any _ _ _ _)).mono ?_
              rintro e w1 ⟨rfl, rfl⟩
              go_wp2_with fail
              refine (told a2.out (l1In_any _ _ _ _)).mono ?_
              rintro e w1 ⟨rfl, rfl⟩
              go_wp2_with fail
              refine (told a3.out (l1In_any _ _ _ _)).mono ?_
              rintro e w1 ⟨rfl, rfl⟩
              go_wp2_with fail
              refine (told b1.out (l4May_spec s _ _ bd0)).mono ?_
              rintro e w1 ⟨rfl, rfl⟩
              go_wp2
              go_returns
              exact ⟨ret_bool (by rw [HO.out]; simp [a2.out, a3.out, b1.out]), by go_grown⟩
            · skip
              obtain ⟨qb2, hb2⟩ : ∃ q, wifB nm false = q := ⟨_, rfl⟩
              have b2 := Lib.hid hb2; clear hb2
              cases qb2
              · skip
                go_enter Try.func119, Try.ntmps119
                go_wp2_with fail
                refine (told (show inB (2 : Int) 0 7 = true from inB_yes (by omega) (by omega)) (l1In_any _ _ _ _)).mono ?_
                rintro e w1 ⟨rfl, rfl⟩
                go_wp2_with fail
                refine (told a2.out (l1In_any _ _ _ _)).mono ?_
                rintro e w1 ⟨rfl, rfl⟩
                go_wp2_with fail
                refine (told a3.out (l1In_any _ _ _ _)).mono ?_
                rintro e w1 ⟨rfl, rfl⟩
                go_wp2_with fail
                refine (told b1.out (l4May_spec s _ _ bd0)).mono ?_
                rintro e w1 ⟨rfl, rfl⟩
                go_wp2_with fail
                refine (told b2.out (l4May_spec nm _ _ bd1)).mono ?_
                rintro e w1 ⟨rfl, rfl⟩
                go_wp2
                go_returns
                exact ⟨ret_bool (by rw [HO.out]; simp [a2.out, a3.out, b1.out, b2.out]), by go_grown⟩
              · skip
                obtain ⟨qb3, hb3⟩ : ∃ q, wifB tg false = q := ⟨_, rfl⟩
                have b3 := Lib.hid hb3; clear hb3
                cases qb3
                · skip
                  go_enter Try.func119, Try.ntmps119
                  go_wp2_with fail
                  refine (told (show inB (2 : Int) 0 7 = true from inB_yes (by omega) (by omega)) (l1In_any _ _ _ _)).mono ?_
                  rintro e w1 ⟨rfl, rfl⟩
                  go_wp2_with fail
                  refine (told a2.out (l1In_any _ _ _ _)).mono ?_
                  rintro e w1 ⟨rfl, rfl⟩
                  go_wp2_with fail
                  refine (told a3.out (l1In_any _ _ _ _)).mono ?_
                  rintro e w1 ⟨rfl, rfl⟩
                  go_wp2_with fail
                  refine (told b1.out (l4May_spec s _ _ bd0)).mono ?_
                  rintro e w1 ⟨rfl, rfl⟩
                  go_wp2_with fail
                  refine (told b2.out (l4May_spec nm _ _ bd1)).mono ?_
                  rintro e w1 ⟨rfl, rfl⟩
                  go_wp2_with fail
                  refine (told b3.out (l4May_spec tg _ _ bd2)).mono ?_
                  rintro e w1 ⟨rfl, rfl⟩
                  go_wp2
                  go_returns
                  exact ⟨ret_bool (by rw [HO.out]; simp [a2.out, a3.out, b1.out, b2.out, b3.out]), by go_grown⟩
                · skip
                  by_cases hn0 : n = 0
                  · have gn : (n != 0) = false := by simp [hn0]
                    have HN0 := Lib.hid hn0; clear hn0
                    by_cases hc0 : n1 = 0
                    · have gc : ((n1 : Int) == 0) = true := by simp [hc0]
                      have HC0 := Lib.hid (show ch.length = 0 from HN.out.symm.trans hc0); clear hc0
                      go_enter Try.func119, Try.ntmps119
                      go_wp2_with fail
                      refine (told (show inB (2 : Int) 0 7 = true from inB_yes (by omega) (by omega)) (l1In_any _ _ _ _)).mono ?_
                      rintro e w1 ⟨rfl, rfl⟩
                      go_wp2_with fail
                      refine (told a2.out (l1In_any _ _ _ _)).mono ?_
                      rintro e w1 ⟨rfl, rfl⟩
                      go_wp2_with fail
                      refine (told a3.out (l1In_any _ _ _ _)).mono ?_
                      rintro e w1 ⟨rfl, rfl⟩
                      go_wp2_with fail
                      refine (told b1.out (l4May_spec s _ _ bd0)).mono ?_
                      rintro e w1 ⟨rfl, rfl⟩
                      go_wp2_with fail
                      refine (told b2.out (l4May_spec nm _ _ bd1)).mono ?_
                      rintro e w1 ⟨rfl, rfl⟩
                      go_wp2_with fail
                      refine (told b3.out (l4May_spec tg _ _ bd2)).mono ?_
                      rintro e w1 ⟨rfl, rfl⟩
                      go_wp2
                      go_returns
                      exact ⟨ret_bool (by rw [HO.out]; simp [a2.out, a3.out, b1.out, b2.out, b3.out, HN0.out, HC0.out]), by go_grown⟩
                    · have gc : ((n1 : Int) == 0) = false := by simpa using hc0
                      have HC0 := Lib.hid (show ¬ ch.length = 0 from fun e => hc0 (HN.out.trans e)); clear hc0
                      go_enter Try.func119, Try.ntmps119
                      go_wp2_with fail
                      refine (told (show inB (2 : Int) 0 7 = true from inB_yes (by omega) (by omega)) (l1In_any _ _ _ _)).mono ?_
                      rintro e w1 ⟨rfl, rfl⟩
                      go_wp2_with fail
                      refine (told a2.out (l1In_any _ _ _ _)).mono ?_
                      rintro e w1 ⟨rfl, rfl⟩
                      go_wp2_with fail
                      refine (told a3.out (l1In_any _ _ _ _)).mono ?_
                      rintro e w1 ⟨rfl, rfl⟩
                      go_wp2_with fail
                      refine (told b1.out (l4May_spec s _ _ bd0)).mono ?_
                      rintro e w1 ⟨rfl, rfl⟩
                      go_wp2_with fail
                      refine (told b2.out (l4May_spec nm _ _ bd1)).mono ?_
                      rintro e w1 ⟨rfl, rfl⟩
                      go_wp2_with fail
                      refine (told b3.out (l4May_spec tg _ _ bd2)).mono ?_
                      rintro e w1 ⟨rfl, rfl⟩
                      go_wp2
                      go_returns
                      exact ⟨ret_bool (by rw [HO.out]; simp [a2.out, a3.out, b1.out, b2.out, b3.out, HN0.out, HC0.out]), by go_grown⟩
                  · have gn : (n != 0) = true := by simpa using hn0
                    have HN0 := Lib.hid hn0; clear hn0
                    go_enter Try.func119, Try.ntmps119
                    go_wp2_with fail
                    refine (told (show inB (2 : Int) 0 7 = true from inB_yes (by omega) (by omega)) (l1In_any _ _ _ _)).mono ?_
                    rintro e w1 ⟨rfl, rfl⟩
                    go_wp2_with fail
                    refine (told a2.out (l1In_any _ _ _ _)).mono ?_
                    rintro e w1 ⟨rfl, rfl⟩
                    go_wp2_with fail
                    refine (told a3.out (l1In_any _ _ _ _)).mono ?_
                    rintro e w1 ⟨rfl, rfl⟩
                    go_wp2_with fail
                    refine (told b1.out (l4May_spec s _ _ bd0)).mono ?_
                    rintro e w1 ⟨rfl, rfl⟩
                    go_wp2_with fail
                    refine (told b2.out (l4May_spec nm _ _ bd1)).mono ?_
                    rintro e w1 ⟨rfl, rfl⟩
                    go_wp2_with fail
                    refine (told b3.out (l4May_spec tg _ _ bd2)).mono ?_
                    rintro e w1 ⟨rfl, rfl⟩
                    go_wp2
                    go_returns
                    exact ⟨ret_bool (by rw [HO.out]; simp [a2.out, a3.out, b1.out, b2.out, b3.out, HN0.out]), by go_grown⟩
      · simp only [show inB (3 : Int) 1 7 = true from inB_yes (by omega) (by omega), Bool.true_and] at HO
        obtain ⟨qa2, ha2⟩ : ∃ q, inB cl 1 9 = q := ⟨_, rfl⟩
        have a2 := Lib.hid ha2; clear ha2
        cases qa2
        · skip
          go_enter Try.func119, Try.ntmps119
          go_wp2_with fail
          refine (told (show inB (3 : Int) 0 7 = true from inB_yes (by omega) (by omega)) (l1In_any _ _ _ _)).mono ?_
          rintro e w1 ⟨rfl, rfl⟩
          go_wp2_with fail
          refine (told a2.out (l1In_any _ _ _ _)).mono ?_
          rintro e w1 ⟨rfl, rfl⟩
          go_wp2
          go_returns
          exact ⟨ret_bool (by rw [HO.out]; simp [a2.out]), by go_grown⟩
        · skip
          obtain ⟨qa3, ha3⟩ : ∃ q, inB no 1 1000 = q := ⟨_, rfl⟩
          have a3 := Lib.hid ha3; clear ha3
          cases qa3
          · skip
            go_enter Try.func119, Try.ntmps119
            go_wp2_with fail
            refine (told (show inB (3 : Int) 0 7 = true from inB_yes (by omega) (by omega)) (l1In_any _ _ _ _)).mono ?_
            rintro e w1 ⟨rfl, rfl⟩
            go_wp2_with fail
            refine (told a2.out (l1In_any _ _ _ _)).mono ?_
            rintro e w1 ⟨rfl, rfl⟩
            go_wp2_with fail
            refine (told a3.out (l1In_any _ _ _ _)).mono ?_
            rintro e w1 ⟨rfl, rfl⟩
            go_wp2
            go_returns
            exact ⟨ret_bool (by rw [HO.out]; simp [a2.out, a3.out]), by go_grown⟩
          · skip
            obtain ⟨qb1, hb1⟩ : ∃ q, wifB s true = q := ⟨_, rfl⟩
            have b1 := Lib.hid hb1; clear hb1
            cases qb1
            · skip
              go_enter Try.func119, Try.ntmps119
              go_wp2_with fail
              refine (told (show inB (3 : Int) 0 7 = true from inB_yes (by omega) (by omega)) (l1In_any _ _ _ _)).mono ?_
              rintro e w1 ⟨rfl, rfl⟩
              go_wp2_with fail
              refine (told a2.out (l1In_any _ _ _ _)).mono ?_
              rintro e w1 ⟨rfl, rfl⟩
              go_wp2_with fail
              refine (told a3.out (l1In_any _ _ _ _)).mono ?_
              rintro e w1 ⟨rfl, rfl⟩
              go_wp2_with fail
              refine (told b1.out (l4May_spec s _ _ bd0)).mono ?_
              rintro e w1 ⟨rfl, rfl⟩
              go_wp2
              go_returns
              exact ⟨ret_bool (by rw [HO.out]; simp [a2.out, a3.out, b1.out]), by go_grown⟩
            · skip
              obtain ⟨qb2, hb2⟩ : ∃ q, wifB nm true = q := ⟨_, rfl⟩
              have b2 := Lib.hid hb2; clear hb2
              cases qb2
              · skip
                go_enter Try.func119, Try.ntmps119
                go_wp2_with fail
                refine (told (show inB (3 : Int) 0 7 = true from inB_yes (by omega) (by omega)) (l1In_any _ _ _ _)).mono ?_
                rintro e w1 ⟨rfl, rfl⟩
                go_wp2_with fail
                refine (told a2.out (l1In_any _ _ _ _)).mono ?_
                rintro e w1 ⟨rfl, rfl⟩
                go_wp2_with fail
                refine (told a3.out (l1In_any _ _ _ _)).mono ?_
                rintro e w1 ⟨rfl, rfl⟩
                go_wp2_with fail
                refine (told b1.out (l4May_spec s _ _ bd0)).mono ?_
                rintro e w1 ⟨rfl, rfl⟩
                go_wp2_with fail
                refine (told b2.out (l4May_spec nm _ _ bd1)).mono ?_
                rintro e w1 ⟨rfl, rfl⟩
                go_wp2
                go_returns
                exact ⟨ret_bool (by rw [HO.out]; simp [a2.out, a3.out, b1.out, b2.out]), by go_grown⟩
              · skip
                obtain ⟨qb3, hb3⟩ : ∃ q, wifB tg false = q := ⟨_, rfl⟩
                have b3 := Lib.hid hb3; clear hb3
                cases qb3
                · skip
                  go_enter Try.func119, Try.ntmps119
                  go_wp2_with fail
                  refine (told (show inB (3 : Int) 0 7 = true from inB_yes (by omega) (by omega)) (l1In_any _ _ _ _)).mono ?_
                  rintro e w1 ⟨rfl, rfl⟩
                  go_wp2_with fail
                  refine (told a2.out (l1In_any _ _ _ _)).mono ?_
                  rintro e w1 ⟨rfl, rfl⟩
                  go_wp2_with fail
                  refine (told a3.out (l1In_any _ _ _ _)).mono ?_
                  rintro e w1 ⟨rfl, rfl⟩
                  go_wp2_with fail
                  refine (told b1.out (l4May_spec s _ _ bd0)).mono ?_
                  rintro e w1 ⟨rfl, rfl⟩
                  go_wp2_with fail
                  refine (told b2.out (l4May_spec nm _ _ bd1)).mono ?_
                  rintro e w1 ⟨rfl, rfl⟩
                  go_wp2_with fail
                  refine (told b3.out (l4May_spec tg _ _ bd2)).mono ?_
                  rintro e w1 ⟨rfl, rfl⟩
                  go_wp2
                  go_returns
                  exact ⟨ret_bool (by rw [HO.out]; simp [a2.out, a3.out, b1.out, b2.out, b3.out]), by go_grown⟩
                · skip
                  by_cases hn0 : n = 0
                  · have gn : (n != 0) = false := by simp [hn0]
                    have HN0 := Lib.hid hn0; clear hn0
                    obtain ⟨ql, hql⟩ : ∃ q, inB (ch.length : Int) 1 4 = q := ⟨_, rfl⟩
                    have cq := Lib.hid hql
                    have cl2 := Lib.hid (show inB (n1 : Int) 1 4 = ql by rw [HN.out]; exact hql)
                    clear hql
                    cases ql
                    · skip
                      go_enter Try.func119, Try.ntmps119
                      go_wp2_with fail
                      refine (told (show inB (3 : Int) 0 7 = true from inB_yes (by omega) (by omega)) (l1In_any _ _ _ _)).mono ?_
                      rintro e w1 ⟨rfl, rfl⟩
                      go_wp2_with fail
                      refine (told a2.out (l1In_any _ _ _ _)).mono ?_
                      rintro e w1 ⟨rfl, rfl⟩
                      go_wp2_with fail
                      refine (told a3.out (l1In_any _ _ _ _)).mono ?_
                      rintro e w1 ⟨rfl, rfl⟩
                      go_wp2_with fail
                      refine (told b1.out (l4May_spec s _ _ bd0)).mono ?_
                      rintro e w1 ⟨rfl, rfl⟩
                      go_wp2_with fail
                      refine (told b2.out (l4May_spec nm _ _ bd1)).mono ?_
                      rintro e w1 ⟨rfl, rfl⟩
                      go_wp2_with fail
                      refine (told b3.out (l4May_spec tg _ _ bd2)).mono ?_
                      rintro e w1 ⟨rfl, rfl⟩
                      go_wp2_with fail
                      refine (told cl2.out (l1In_any _ _ _ _)).mono ?_
                      rintro e w1 ⟨rfl, rfl⟩
                      go_wp2
                      go_returns
                      exact ⟨ret_bool (by rw [HO.out]; simp [a2.out, a3.out, b1.out, b2.out, b3.out, HN0.out, cq.out]), by go_grown⟩
                    · skip
                      go_enter Try.func119, Try.ntmps119
                      go_wp2_with fail
                      refine (told (show inB (3 : Int) 0 7 = true from inB_yes (by omega) (by omega)) (l1In_any _ _ _ _)).mono ?_
                      rintro e w1 ⟨rfl, rfl⟩
                      go_wp2_with fail
                      refine (told a2.out (l1In_any _ _ _ _)).mono ?_
                      rintro e w1 ⟨rfl, rfl⟩
                      go_wp2_with fail
                      refine (told a3.out (l1In_any _ _ _ _)).mono ?_
                      rintro e w1 ⟨rfl, rfl⟩
                      go_wp2_with fail
                      refine (told b1.out (l4May_spec s _ _ bd0)).mono ?_
                      rintro e w1 ⟨rfl, rfl⟩
                      go_wp2_with fail
                      refine (told b2.out (l4May_spec nm _ _ bd1)).mono ?_
                      rintro e w1 ⟨rfl, rfl⟩
                      go_wp2_with fail
                      refine (told b3.out (l4May_spec tg _ _ bd2)).mono ?_
                      rintro e w1 ⟨rfl, rfl⟩
                      go_wp2_with fail
                      refine (told cl2.out (l1In_any _ _ _ _)).mono ?_
                      rintro e w1 ⟨rfl, rfl⟩
                      go_wp2
                      have al0 := (Below.refl w.heap.size w).alloc (Nat.le_refl _) (.cells #[.int .i64 3, .int .i64 cl, .int .i64 no, .string s, .string nm, .string tg, .int .i64 n, .slice A1 n1 c1] 47)
                      have HX1 := h1.1.keep al0
                      go_loop [4] (fun i => ∃ k : Nat, k ≤ n1 ∧ i = .int .i64 k ∧ ∀ j, j < k → (sAt ch j).size = 8) (fun i => n1 - (intOf i).toNat)
                      case atStart => exact ⟨0, Nat.zero_le _, rfl, fun j hj => absurd hj (by omega)⟩
                      case round =>
                        obtain ⟨k, hk, rfl, hx⟩ := hrel
                        have HX := Lib.hid hx; clear hx
                        by_cases hlt : k < n1
                        · obtain ⟨b, off, rfl, hbl, hc⟩ := HX1.at_ (by omega)
                          have hck := hc k hlt
                          clear hc
                          by_cases h8 : (sAt ch k).size = 8
                          · have g1 : ((((sAt ch k).size : Nat) : Int) != 8) = false := by simp [h8]
                            have H8 := Lib.hid h8; clear h8
                            go_wp2
                            refine ⟨⟨k + 1, by omega, by go_num, ?_⟩, by simp [intOf]; omega⟩
                            intro j hj
                            by_cases e : j = k
                            · subst e; exact H8.out
                            · exact HX.out j (by omega)
                          · have g1 : ((((sAt ch k).size : Nat) : Int) != 8) = true := by simp; omega
                            have H8 := Lib.hid h8; clear h8
                            go_wp2
                            go_returns
                            have c8 := ok8_no (l := ch) (by have := HN.out; omega) H8.out
                            exact ⟨ret_bool (by rw [HO.out]; simp [a2.out, a3.out, b1.out, b2.out, b3.out, HN0.out, cq.out, c8]), by go_grown⟩
                        · go_wp2
                          go_returns
                          have c8 := ok8_yes (l := ch) (fun j hj => HX.out j (by have := HN.out; omega))
                          exact ⟨ret_bool (by rw [HO.out]; simp [a2.out, a3.out, b1.out, b2.out, b3.out, HN0.out, cq.out, c8]), by go_grown⟩
                  · have gn : (n != 0) = true := by simpa using hn0
                    have HN0 := Lib.hid hn0; clear hn0
                    go_enter Try.func119, Try.ntmps119
                    go_wp2_with fail
                    refine (told (show inB (3 : Int) 0 7 = true from inB_yes (by omega) (by omega)) (l1In_any _ _ _ _)).mono ?_
                    rintro e w1 ⟨rfl, rfl⟩
                    go_wp2_with fail
                    refine (told a2.out (l1In_any _ _ _ _)).mono ?_
                    rintro e w1 ⟨rfl, rfl⟩
                    go_wp2_with fail
                    refine (told a3.out (l1In_any _ _ _ _)).mono ?_
                    rintro e w1 ⟨rfl, rfl⟩
                    go_wp2_with fail
                    refine (told b1.out (l4May_spec s _ _ bd0)).mono ?_
                    rintro e w1 ⟨rfl, rfl⟩
                    go_wp2_with fail
                    refine (told b2.out (l4May_spec nm _ _ bd1)).mono ?_
                    rintro e w1 ⟨rfl, rfl⟩
                    go_wp2_with fail
                    refine (told b3.out (l4May_spec tg _ _ bd2)).mono ?_
                    rintro e w1 ⟨rfl, rfl⟩
                    go_wp2
                    go_returns
                    exact ⟨ret_bool (by rw [HO.out]; simp [a2.out, a3.out, b1.out, b2.out, b3.out, HN0.out]), by go_grown⟩
      · simp only [show inB (4 : Int) 1 7 = true from inB_yes (by omega) (by omega), Bool.true_and] at HO
        obtain ⟨qa2, ha2⟩ : ∃ q, inB cl 1 9 = q := ⟨_, rfl⟩
        have a2 := Lib.hid ha2; clear ha2
        cases qa2
        · skip
          go_enter Try.func119, Try.ntmps119
          go_wp2_with fail
          refine (told (show inB (4 : Int) 0 7 = true from inB_yes (by omega) (by omega)) (l1In_any _ _ _ _)).mono ?_
          rintro e w1 ⟨rfl, rfl⟩
          go_wp2_with fail
          refine (told a2.out (l1In_any _ _ _ _)).mono ?_
          rintro e w1 ⟨rfl, rfl⟩
          go_wp2
          go_returns
          exact ⟨ret_bool (by rw [HO.out]; simp [a2.out]), by go_grown⟩
        · skip
          obtain ⟨qa3, ha3⟩ : ∃ q, inB no 1 1000 = q := ⟨_, rfl⟩
          have a3 := Lib.hid ha3; clear ha3
          cases qa3
          · skip
            go_enter Try.func119, Try.ntmps119
            go_wp2_with fail
            refine (told (show inB (4 : Int) 0 7 = true from inB_yes (by omega) (by omega)) (l1In_any _ _ _ _)).mono ?_
            rintro e w1 ⟨rfl, rfl⟩
            go_wp2_with fail
            refine (told a2.out (l1In_any _ _ _ _)).mono ?_
            rintro e w1 ⟨rfl, rfl⟩
            go_wp2_with fail
            refine (told a3.out (l1In_any _ _ _ _)).mono ?_
            rintro e w1 ⟨rfl, rfl⟩
            go_wp2
            go_returns
            exact ⟨ret_bool (by rw [HO.out]; simp [a2.out, a3.out]), by go_grown⟩
          · skip
            obtain ⟨qb1, hb1⟩ : ∃ q, wifB s true = q := ⟨_, rfl⟩
            have b1 := Lib.hid hb1; clear hb1
            cases qb1
            · skip
              go_enter Try.func119, Try.ntmps119
              go_wp2_with fail
              refine (told (show inB (4 : Int) 0 7 = true from inB_yes (by omega) (by omega)) (l1In_any _ _ _ _)).mono ?_
              rintro e w1 ⟨rfl, rfl⟩
              go_wp2_with fail
              refine (told a2.out (l1In_any _ _ _ _)).mono ?_
              rintro e w1 ⟨rfl, rfl⟩
              go_wp2_with fail
              refine (told a3.out (l1In_any _ _ _ _)).mono ?_
              rintro e w1 ⟨rfl, rfl⟩
              go_wp2_with fail
              refine (told b1.out (l4May_spec s _ _ bd0)).mono ?_
              rintro e w1 ⟨rfl, rfl⟩
              go_wp2
              go_returns
              exact ⟨ret_bool (by rw [HO.out]; simp [a2.out, a3.out, b1.out]), by go_grown⟩
            · skip
              obtain ⟨qb2, hb2⟩ : ∃ q, wifB nm true = q := ⟨_, rfl⟩
              have b2 := Lib.hid hb2; clear hb2
              cases qb2
              · skip
                go_enter Try.func119, Try.ntmps119
                go_wp2_with fail
                refine (told (show inB (4 : Int) 0 7 = true from inB_yes (by omega) (by omega)) (l1In_any _ _ _ _)).mono ?_
                rintro e w1 ⟨rfl, rfl⟩
                go_wp2_with fail
                refine (told a2.out (l1In_any _ _ _ _)).mono ?_
                rintro e w1 ⟨rfl, rfl⟩
                go_wp2_with fail
                refine (told a3.out (l1In_any _ _ _ _)).mono ?_
                rintro e w1 ⟨rfl, rfl⟩
                go_wp2_with fail
                refine (told b1.out (l4May_spec s _ _ bd0)).mono ?_
                rintro e w1 ⟨rfl, rfl⟩
                go_wp2_with fail
                refine (told b2.out (l4May_spec nm _ _ bd1)).mono ?_
                rintro e w1 ⟨rfl, rfl⟩
                go_wp2
                go_returns
                exact ⟨ret_bool (by rw [HO.out]; simp [a2.out, a3.out, b1.out, b2.out]), by go_grown⟩
              · skip
                obtain ⟨qb3, hb3⟩ : ∃ q, wifB tg true = q := ⟨_, rfl⟩
                have b3 := Lib.hid hb3; clear hb3
                cases qb3
                · skip
                  go_enter Try.func119, Try.ntmps119
                  go_wp2_with fail
                  refine (told (show inB (4 : Int) 0 7 = true from inB_yes (by omega) (by omega)) (l1In_any _ _ _ _)).mono ?_
                  rintro e w1 ⟨rfl, rfl⟩
                  go_wp2_with fail
                  refine (told a2.out (l1In_any _ _ _ _)).mono ?_
                  rintro e w1 ⟨rfl, rfl⟩
                  go_wp2_with fail
                  refine (told a3.out (l1In_any _ _ _ _)).mono ?_
                  rintro e w1 ⟨rfl, rfl⟩
                  go_wp2_with fail
                  refine (told b1.out (l4May_spec s _ _ bd0)).mono ?_
                  rintro e w1 ⟨rfl, rfl⟩
                  go_wp2_with fail
                  refine (told b2.out (l4May_spec nm _ _ bd1)).mono ?_
                  rintro e w1 ⟨rfl, rfl⟩
                  go_wp2_with fail
                  refine (told b3.out (l4May_spec tg _ _ bd2)).mono ?_
                  rintro e w1 ⟨rfl, rfl⟩
                  go_wp2
                  go_returns
                  exact ⟨ret_bool (by rw [HO.out]; simp [a2.out, a3.out, b1.out, b2.out, b3.out]), by go_grown⟩
                · skip
                  by_cases hn0 : n = 0
                  · have gn : (n != 0) = false := by simp [hn0]
                    have HN0 := Lib.hid hn0; clear hn0
                    by_cases hc0 : n1 = 0
                    · have gc : ((n1 : Int) == 0) = true := by simp [hc0]
                      have HC0 := Lib.hid (show ch.length = 0 from HN.out.symm.trans hc0); clear hc0
                      go_enter Try.func119, Try.ntmps119
                      go_wp2_with fail
                      refine (told (show inB (4 : Int) 0 7 = true from inB_yes (by omega) (by omega)) (l1In_any _ _ _ _)).mono ?_
                      rintro e w1 ⟨rfl, rfl⟩
                      go_wp2_with fail
                      refine (told a2.out (l1In_any _ _ _ _)).mono ?_
                      rintro e w1 ⟨rfl, rfl⟩
                      go_wp2_with fail
                      refine (told a3.out (l1In_any _ _ _ _)).mono ?_
                      rintro e w1 ⟨rfl, rfl⟩
                      go_wp2_with fail
                      refine (told b1.out (l4May_spec s _ _ bd0)).mono ?_
                      rintro e w1 ⟨rfl, rfl⟩
                      go_wp2_with fail
                      refine (told b2.out (l4May_spec nm _ _ bd1)).mono ?_
                      rintro e w1 ⟨rfl, rfl⟩
                      go_wp2_with fail
                      refine (told b3.out (l4May_spec tg _ _ bd2)).mono ?_
                      rintro e w1 ⟨rfl, rfl⟩
                      go_wp2
                      go_returns
                      exact ⟨ret_bool (by rw [HO.out]; simp [a2.out, a3.out, b1.out, b2.out, b3.out, HN0.out, HC0.out]), by go_grown⟩
                    · have gc : ((n1 : Int) == 0) = false := by simpa using hc0
                      have HC0 := Lib.hid (show ¬ ch.length = 0 from fun e => hc0 (HN.out.trans e)); clear hc0
                      go_enter Try.func119, Try.ntmps119
                      go_wp2_with fail
                      refine (told (show inB (4 : Int) 0 7 = true from inB_yes (by omega) (by omega)) (l1In_any _ _ _ _)).mono ?_
                      rintro e w1 ⟨rfl, rfl⟩
                      go_wp2_with fail
                      refine (told a2.out (l1In_any _ _ _ _)).mono ?_
                      rintro e w1 ⟨rfl, rfl⟩
                      go_wp2_with fail
                      refine (told a3.out (l1In_any _ _ _ _)).mono ?_
                      rintro e w1 ⟨rfl, rfl⟩
                      go_wp2_with fail
                      refine (told b1.out (l4May_spec s _ _ bd0)).mono ?_
                      rintro e w1 ⟨rfl, rfl⟩
                      go_wp2_with fail
                      refine (told b2.out (l4May_spec nm _ _ bd1)).mono ?_
                      rintro e w1 ⟨rfl, rfl⟩
                      go_wp2_with fail
                      refine (told b3.out (l4May_spec tg _ _ bd2)).mono ?_
                      rintro e w1 ⟨rfl, rfl⟩
                      go_wp2
                      go_returns
                      exact ⟨ret_bool (by rw [HO.out]; simp [a2.out, a3.out, b1.out, b2.out, b3.out, HN0.out, HC0.out]), by go_grown⟩
                  · have gn : (n != 0) = true := by simpa using hn0
                    have HN0 := Lib.hid hn0; clear hn0
                    go_enter Try.func119, Try.ntmps119
                    go_wp2_with fail
                    refine (told (show inB (4 : Int) 0 7 = true from inB_yes (by omega) (by omega)) (l1In_any _ _ _ _)).mono ?_
                    rintro e w1 ⟨rfl, rfl⟩
                    go_wp2_with fail
                    refine (told a2.out (l1In_any _ _ _ _)).mono ?_
                    rintro e w1 ⟨rfl, rfl⟩
                    go_wp2_with fail
                    refine (told a3.out (l1In_any _ _ _ _)).mono ?_
                    rintro e w1 ⟨rfl, rfl⟩
                    go_wp2_with fail
                    refine (told b1.out (l4May_spec s _ _ bd0)).mono ?_
                    rintro e w1 ⟨rfl, rfl⟩
                    go_wp2_with fail
                    refine (told b2.out (l4May_spec nm _ _ bd1)).mono ?_
                    rintro e w1 ⟨rfl, rfl⟩
                    go_wp2_with fail
                    refine (told b3.out (l4May_spec tg _ _ bd2)).mono ?_
                    rintro e w1 ⟨rfl, rfl⟩
                    go_wp2
                    go_returns
                    exact ⟨ret_bool (by rw [HO.out]; simp [a2.out, a3.out, b1.out, b2.out, b3.out, HN0.out]), by go_grown⟩
      · simp only [show inB (5 : Int) 1 7 = true from inB_yes (by omega) (by omega), Bool.true_and] at HO
        obtain ⟨qa2, ha2⟩ : ∃ q, inB cl 1 9 = q := ⟨_, rfl⟩
        have a2 := Lib.hid ha2; clear ha2
        cases qa2
        · skip
          go_enter Try.func119, Try.ntmps119
          go_wp2_with fail
          refine (told (show inB (5 : Int) 0 7 = true from inB_yes (by omega) (by omega)) (l1In_any _ _ _ _)).mono ?_
          rintro e w1 ⟨rfl, rfl⟩
          go_wp2_with fail
          refine (told a2.out (l1In_any _ _ _ _)).mono ?_
          rintro e w1 ⟨rfl, rfl⟩
          go_wp2
          go_returns
          exact ⟨ret_bool (by rw [HO.out]; simp [a2.out]), by go_grown⟩
        · skip
          obtain ⟨qa3, ha3⟩ : ∃ q, inB no 1 1000 = q := ⟨_, rfl⟩
          have a3 := Lib.hid ha3; clear ha3
          cases qa3
          · skip
            go_enter Try.func119, Try.ntmps119
            go_wp2_with fail
            refine (told (show inB (5 : Int) 0 7 = true from inB_yes (by omega) (by omega)) (l1In_any _ _ _ _)).mono ?_
            rintro e w1 ⟨rfl, rfl⟩
            go_wp2_with fail
            refine (told a2.out (l1In_any _ _ _ _)).mono ?_
            rintro e w1 ⟨rfl, rfl⟩
            go_wp2_with fail
            refine (told a3.out (l1In_any _ _ _ _)).mono ?_
            rintro e w1 ⟨rfl, rfl⟩
            go_wp2
            go_returns
            exact ⟨ret_bool (by rw [HO.out]; simp [a2.out, a3.out]), by go_grown⟩
          · skip
            obtain ⟨qb1, hb1⟩ : ∃ q, wifB s true = q := ⟨_, rfl⟩
            have b1 := Lib.hid hb1; clear hb1
            cases qb1
            · skip
              go_enter Try.func119, Try.ntmps119
              go_wp2_with fail
              refine (told (show inB (5 : Int) 0 7 = true from inB_yes (by omega) (by omega)) (l1In_any _ _ _ _)).mono ?_
              rintro e w1 ⟨rfl, rfl⟩
              go_wp2_with fail
              refine (told a2.out (l1In_any _ _ _ _)).mono ?_
              rintro e w1 ⟨rfl, rfl⟩
              go_wp2_with fail
              refine (told a3.out (l1In_any _ _ _ _)).mono ?_
              rintro e w1 ⟨rfl, rfl⟩
              go_wp2_with fail
              refine (told b1.out (l4May_spec s _ _ bd0)).mono ?_
              rintro e w1 ⟨rfl, rfl⟩
              go_wp2
              go_returns
              exact ⟨ret_bool (by rw [HO.out]; simp [a2.out, a3.out, b1.out]), by go_grown⟩
            · skip
              obtain ⟨qb2, hb2⟩ : ∃ q, wifB nm false = q := ⟨_, rfl⟩
              have b2 := Lib.hid hb2; clear hb2
              cases qb2
              · skip
                go_enter Try.func119, Try.ntmps119
                go_wp2_with fail
                refine (told (show inB (5 : Int) 0 7 = true from inB_yes (by omega) (by omega)) (l1In_any _ _ _ _)).mono ?_
                rintro e w1 ⟨rfl, rfl⟩
                go_wp2_with fail
                refine (told a2.out (l1In_any _ _ _ _)).mono ?_
                rintro e w1 ⟨rfl, rfl⟩
                go_wp2_with fail
                refine (told a3.out (l1In_any _ _ _ _)).mono ?_
                rintro e w1 ⟨rfl, rfl⟩
                go_wp2_with fail
                refine (told b1.out (l4May_spec s _ _ bd0)).mono ?_
                rintro e w1 ⟨rfl, rfl⟩
                go_wp2_with fail
                refine (told b2.out (l4May_spec nm _ _ bd1)).mono ?_
                rintro e w1 ⟨rfl, rfl⟩
                go_wp2
                go_returns
                exact ⟨ret_bool (by rw [HO.out]; simp [a2.out, a3.out, b1.out, b2.out]), by go_grown⟩
              · skip
                obtain ⟨qb3, hb3⟩ : ∃ q, wifB tg false = q := ⟨_, rfl⟩
                have b3 := Lib.hid hb3; clear hb3
                cases qb3
                · skip
                  go_enter Try.func119, Try.ntmps119
                  go_wp2_with fail
                  refine (told (show inB (5 : Int) 0 7 = true from inB_yes (by omega) (by omega)) (l1In_any _ _ _ _)).mono ?_
                  rintro e w1 ⟨rfl, rfl⟩
                  go_wp2_with fail
                  refine (told a2.out (l1In_any _ _ _ _)).mono ?_
                  rintro e w1 ⟨rfl, rfl⟩
                  go_wp2_with fail
                  refine (told a3.out (l1In_any _ _ _ _)).mono ?_
                  rintro e w1 ⟨rfl, rfl⟩
                  go_wp2_with fail
                  refine (told b1.out (l4May_spec s _ _ bd0)).mono ?_
                  rintro e w1 ⟨rfl, rfl⟩
                  go_wp2_with fail
                  refine (told b2.out (l4May_spec nm _ _ bd1)).mono ?_
                  rintro e w1 ⟨rfl, rfl⟩
                  go_wp2_with fail
                  refine (told b3.out (l4May_spec tg _ _ bd2)).mono ?_
                  rintro e w1 ⟨rfl, rfl⟩
                  go_wp2
                  go_returns
                  exact ⟨ret_bool (by rw [HO.out]; simp [a2.out, a3.out, b1.out, b2.out, b3.out]), by go_grown⟩
                · skip
                  by_cases hn0 : n = 0
                  · have gn : (n != 0) = false := by simp [hn0]
                    have HN0 := Lib.hid hn0; clear hn0
                    by_cases hc0 : n1 = 0
                    · have gc : ((n1 : Int) == 0) = true := by simp [hc0]
                      have HC0 := Lib.hid (show ch.length = 0 from HN.out.symm.trans hc0); clear hc0
                      go_enter Try.func119, Try.ntmps119
                      go_wp2_with fail
                      refine (told (show inB (5 : Int) 0 7 = true from inB_yes (by omega) (by omega)) (l1In_any _ _ _ _)).mono ?_
                      rintro e w1 ⟨rfl, rfl⟩
                      go_wp2_with fail
                      refine (told a2.out (l1In_any _ _ _ _)).mono ?_
                      rintro e w1 ⟨rfl, rfl⟩
                      go_wp2_with fail
                      refine (told a3.out (l1In_any _ _ _ _)).mono ?_
                      rintro e w1 ⟨rfl, rfl⟩
                      go_wp2_with fail
                      refine (told b1.out (l4May_spec s _ _ bd0)).mono ?_
                      rintro e w1 ⟨rfl, rfl⟩
                      go_wp2_with fail
                      refine (told b2.out (l4May_spec nm _ _ bd1)).mono ?_
                      rintro e w1 ⟨rfl, rfl⟩
                      go_wp2_with fail
                      refine (told b3.out (l4May_spec tg _ _ bd2)).mono ?_
                      rintro e w1 ⟨rfl, rfl⟩
                      go_wp2
                      go_returns
                      exact ⟨ret_bool (by rw [HO.out]; simp [a2.out, a3.out, b1.out, b2.out, b3.out, HN0.out, HC0.out]), by go_grown⟩
                    · have gc : ((n1 : Int) == 0) = false := by simpa using hc0
                      have HC0 := Lib.hid (show ¬ ch.length = 0 from fun e => hc0 (HN.out.trans e)); clear hc0
                      go_enter Try.func119, Try.ntmps119
                      go_wp2_with fail
                      refine (told (show inB (5 : Int) 0 7 = true from inB_yes (by omega) (by omega)) (l1In_any _ _ _ _)).mono ?_
                      rintro e w1 ⟨rfl, rfl⟩
                      go_wp2_with fail
                      refine (told a2.out (l1In_any _ _ _ _)).mono ?_
                      rintro e w1 ⟨rfl, rfl⟩
                      go_wp2_with fail
                      refine (told a3.out (l1In_any _ _ _ _)).mono ?_
                      rintro e w1 ⟨rfl, rfl⟩
                      go_wp2_with fail
                      refine (told b1.out (l4May_spec s _ _ bd0)).mono ?_
                      rintro e w1 ⟨rfl, rfl⟩
                      go_wp2_with fail
                      refine (told b2.out (l4May_spec nm _ _ bd1)).mono ?_
                      rintro e w1 ⟨rfl, rfl⟩
                      go_wp2_with fail
                      refine (told b3.out (l4May_spec tg _ _ bd2)).mono ?_
                      rintro e w1 ⟨rfl, rfl⟩
                      go_wp2
                      go_returns
                      exact ⟨ret_bool (by rw [HO.out]; simp [a2.out, a3.out, b1.out, b2.out, b3.out, HN0.out, HC0.out]), by go_grown⟩
                  · have gn : (n != 0) = true := by simpa using hn0
                    have HN0 := Lib.hid hn0; clear hn0
                    obtain ⟨qn, hqn⟩ : ∃ q, inB n 0 9 = q := ⟨_, rfl⟩
                    have cn := Lib.hid hqn; clear hqn
                    cases qn
                    · skip
                      go_enter Try.func119, Try.ntmps119
                      go_wp2_with fail
                      refine (told (show inB (5 : Int) 0 7 = true from inB_yes (by omega) (by omega)) (l1In_any _ _ _ _)).mono ?_
                      rintro e w1 ⟨rfl, rfl⟩
                      go_wp2_with fail
                      refine (told a2.out (l1In_any _ _ _ _)).mono ?_
                      rintro e w1 ⟨rfl, rfl⟩
                      go_wp2_with fail
                      refine (told a3.out (l1In_any _ _ _ _)).mono ?_
                      rintro e w1 ⟨rfl, rfl⟩
                      go_wp2_with fail
                      refine (told b1.out (l4May_spec s _ _ bd0)).mono ?_
                      rintro e w1 ⟨rfl, rfl⟩
                      go_wp2_with fail
                      refine (told b2.out (l4May_spec nm _ _ bd1)).mono ?_
                      rintro e w1 ⟨rfl, rfl⟩
                      go_wp2_with fail
                      refine (told b3.out (l4May_spec tg _ _ bd2)).mono ?_
                      rintro e w1 ⟨rfl, rfl⟩
                      go_wp2_with fail
                      refine (told cn.out (l1In_any _ _ _ _)).mono ?_
                      rintro e w1 ⟨rfl, rfl⟩
                      go_wp2
                      go_returns
                      exact ⟨ret_bool (by rw [HO.out]; simp [a2.out, a3.out, b1.out, b2.out, b3.out, HN0.out, cn.out]), by go_grown⟩
                    · skip
                      by_cases hc0 : n1 = 0
                      · have gc : ((n1 : Int) == 0) = true := by simp [hc0]
                        have HC0 := Lib.hid (show ch.length = 0 from HN.out.symm.trans hc0); clear hc0
                        go_enter Try.func119, Try.ntmps119
                        go_wp2_with fail
                        refine (told (show inB (5 : Int) 0 7 = true from inB_yes (by omega) (by omega)) (l1In_any _ _ _ _)).mono ?_
                        rintro e w1 ⟨rfl, rfl⟩
                        go_wp2_with fail
                        refine (told a2.out (l1In_any _ _ _ _)).mono ?_
                        rintro e w1 ⟨rfl, rfl⟩
                        go_wp2_with fail
                        refine (told a3.out (l1In_any _ _ _ _)).mono ?_
                        rintro e w1 ⟨rfl, rfl⟩
                        go_wp2_with fail
                        refine (told b1.out (l4May_spec s _ _ bd0)).mono ?_
                        rintro e w1 ⟨rfl, rfl⟩
                        go_wp2_with fail
                        refine (told b2.out (l4May_spec nm _ _ bd1)).mono ?_
                        rintro e w1 ⟨rfl, rfl⟩
                        go_wp2_with fail
                        refine (told b3.out (l4May_spec tg _ _ bd2)).mono ?_
                        rintro e w1 ⟨rfl, rfl⟩
                        go_wp2_with fail
                        refine (told cn.out (l1In_any _ _ _ _)).mono ?_
                        rintro e w1 ⟨rfl, rfl⟩
                        go_wp2
                        go_returns
                        exact ⟨ret_bool (by rw [HO.out]; simp [a2.out, a3.out, b1.out, b2.out, b3.out, HN0.out, cn.out, HC0.out]), by go_grown⟩
                      · have gc : ((n1 : Int) == 0) = false := by simpa using hc0
                        have HC0 := Lib.hid (show ¬ ch.length = 0 from fun e => hc0 (HN.out.trans e)); clear hc0
                        go_enter Try.func119, Try.ntmps119
                        go_wp2_with fail
                        refine (told (show inB (5 : Int) 0 7 = true from inB_yes (by omega) (by omega)) (l1In_any _ _ _ _)).mono ?_
                        rintro e w1 ⟨rfl, rfl⟩
                        go_wp2_with fail
                        refine (told a2.out (l1In_any _ _ _ _)).mono ?_
                        rintro e w1 ⟨rfl, rfl⟩
                        go_wp2_with fail
                        refine (told a3.out (l1In_any _ _ _ _)).mono ?_
                        rintro e w1 ⟨rfl, rfl⟩
                        go_wp2_with fail
                        refine (told b1.out (l4May_spec s _ _ bd0)).mono ?_
                        rintro e w1 ⟨rfl, rfl⟩
                        go_wp2_with fail
                        refine (told b2.out (l4May_spec nm _ _ bd1)).mono ?_
                        rintro e w1 ⟨rfl, rfl⟩
                        go_wp2_with fail
                        refine (told b3.out (l4May_spec tg _ _ bd2)).mono ?_
                        rintro e w1 ⟨rfl, rfl⟩
                        go_wp2_with fail
                        refine (told cn.out (l1In_any _ _ _ _)).mono ?_
                        rintro e w1 ⟨rfl, rfl⟩
                        go_wp2
                        go_returns
                        exact ⟨ret_bool (by rw [HO.out]; simp [a2.out, a3.out, b1.out, b2.out, b3.out, HN0.out, cn.out, HC0.out]), by go_grown⟩
      · simp only [show inB (6 : Int) 1 7 = true from inB_yes (by omega) (by omega), Bool.true_and] at HO
        obtain ⟨qa2, ha2⟩ : ∃ q, inB cl 1 9 = q := ⟨_, rfl⟩
        have a2 := Lib.hid ha2; clear ha2
        cases qa2
        · skip
          go_enter Try.func119, Try.ntmps119
          go_wp2_with fail
          refine (told (show inB (6 : Int) 0 7 = true from inB_yes (by omega) (by omega)) (l1In_any _ _ _ _)).mono ?_
          rintro e w1 ⟨rfl, rfl⟩
          go_wp2_with fail
          refine (told a2.out (l1In_any _ _ _ _)).mono ?_
          rintro e w1 ⟨rfl, rfl⟩
          go_wp2
          go_returns
          exact ⟨ret_bool (by rw [HO.out]; simp [a2.out]), by go_grown⟩
        · skip
          obtain ⟨qa3, ha3⟩ : ∃ q, inB no 1 1000 = q := ⟨_, rfl⟩
          have a3 := Lib.hid ha3; clear ha3
          cases qa3
          · skip
            go_enter Try.func119, Try.ntmps119
            go_wp2_with fail
            refine (told (show inB (6 : Int) 0 7 = true from inB_yes (by omega) (by omega)) (l1In_any _ _ _ _)).mono ?_
            rintro e w1 ⟨rfl, rfl⟩
            go_wp2_with fail
            refine (told a2.out (l1In_any _ _ _ _)).mono ?_
            rintro e w1 ⟨rfl, rfl⟩
            go_wp2_with fail
            refine (told a3.out (l1In_any _ _ _ _)).mono ?_
            rintro e w1 ⟨rfl, rfl⟩
            go_wp2
            go_returns
            exact ⟨ret_bool (by rw [HO.out]; simp [a2.out, a3.out]), by go_grown⟩
          · skip
            obtain ⟨qb1, hb1⟩ : ∃ q, wifB s true = q := ⟨_, rfl⟩
            have b1 := Lib.hid hb1; clear hb1
            cases qb1
            · skip
              go_enter Try.func119, Try.ntmps119
              go_wp2_with fail
              refine (told (show inB (6 : Int) 0 7 = true from inB_yes (by omega) (by omega)) (l1In_any _ _ _ _)).mono ?_
              rintro e w1 ⟨rfl, rfl⟩
              go_wp2_with fail
              refine (told a2.out (l1In_any _ _ _ _)).mono ?_
              rintro e w1 ⟨rfl, rfl⟩
              go_wp2_with fail
              refine (told a3.out (l1In_any _ _ _ _)).mono ?_
              rintro e w1 ⟨rfl, rfl⟩
              go_wp2_with fail
              refine (told b1.out (l4May_spec s _ _ bd0)).mono ?_
              rintro e w1 ⟨rfl, rfl⟩
              go_wp2
              go_returns
              exact ⟨ret_bool (by rw [HO.out]; simp [a2.out, a3.out, b1.out]), by go_grown⟩
            · skip
              obtain ⟨qb2, hb2⟩ : ∃ q, wifB nm false = q := ⟨_, rfl⟩
              have b2 := Lib.hid hb2; clear hb2
              cases qb2
              · skip
                go_enter Try.func119, Try.ntmps119
                go_wp2_with fail
                refine (told (show inB (6 : Int) 0 7 = true from inB_yes (by omega) (by omega)) (l1In_any _ _ _ _)).mono ?_
                rintro e w1 ⟨rfl, rfl⟩
                go_wp2_with fail
                refine (told a2.out (l1In_any _ _ _ _)).mono ?_
                rintro e w1 ⟨rfl, rfl⟩
                go_wp2_with fail
                refine (told a3.out (l1In_any _ _ _ _)).mono ?_
                rintro e w1 ⟨rfl, rfl⟩
                go_wp2_with fail
                refine (told b1.out (l4May_spec s _ _ bd0)).mono ?_
                rintro e w1 ⟨rfl, rfl⟩
                go_wp2_with fail
                refine (told b2.out (l4May_spec nm _ _ bd1)).mono ?_
                rintro e w1 ⟨rfl, rfl⟩
                go_wp2
                go_returns
                exact ⟨ret_bool (by rw [HO.out]; simp [a2.out, a3.out, b1.out, b2.out]), by go_grown⟩
              · skip
                obtain ⟨qb3, hb3⟩ : ∃ q, wifB tg false = q := ⟨_, rfl⟩
                have b3 := Lib.hid hb3; clear hb3
                cases qb3
                · skip
                  go_enter Try.func119, Try.ntmps119
                  go_wp2_with fail
                  refine (told (show inB (6 : Int) 0 7 = true from inB_yes (by omega) (by omega)) (l1In_any _ _ _ _)).mono ?_
                  rintro e w1 ⟨rfl, rfl⟩
                  go_wp2_with fail
                  refine (told a2.out (l1In_any _ _ _ _)).mono ?_
                  rintro e w1 ⟨rfl, rfl⟩
                  go_wp2_with fail
                  refine (told a3.out (l1In_any _ _ _ _)).mono ?_
                  rintro e w1 ⟨rfl, rfl⟩
                  go_wp2_with fail
                  refine (told b1.out (l4May_spec s _ _ bd0)).mono ?_
                  rintro e w1 ⟨rfl, rfl⟩
                  go_wp2_with fail
                  refine (told b2.out (l4May_spec nm _ _ bd1)).mono ?_
                  rintro e w1 ⟨rfl, rfl⟩
                  go_wp2_with fail
                  refine (told b3.out (l4May_spec tg _ _ bd2)).mono ?_
                  rintro e w1 ⟨rfl, rfl⟩
                  go_wp2
                  go_returns
                  exact ⟨ret_bool (by rw [HO.out]; simp [a2.out, a3.out, b1.out, b2.out, b3.out]), by go_grown⟩
                · skip
                  by_cases hn0 : n = 0
                  · have gn : (n != 0) = false := by simp [hn0]
                    have HN0 := Lib.hid hn0; clear hn0
                    by_cases hc0 : n1 = 0
                    · have gc : ((n1 : Int) == 0) = true := by simp [hc0]
                      have HC0 := Lib.hid (show ch.length = 0 from HN.out.symm.trans hc0); clear hc0
                      go_enter Try.func119, Try.ntmps119
                      go_wp2_with fail
                      refine (told (show inB (6 : Int) 0 7 = true from inB_yes (by omega) (by omega)) (l1In_any _ _ _ _)).mono ?_
                      rintro e w1 ⟨rfl, rfl⟩
                      go_wp2_with fail
                      refine (told a2.out (l1In_any _ _ _ _)).mono ?_
                      rintro e w1 ⟨rfl, rfl⟩
                      go_wp2_with fail
                      refine (told a3.out (l1In_any _ _ _ _)).mono ?_
                      rintro e w1 ⟨rfl, rfl⟩
                      go_wp2_with fail
                      refine (told b1.out (l4May_spec s _ _ bd0)).mono ?_
                      rintro e w1 ⟨rfl, rfl⟩
                      go_wp2_with fail
                      refine (told b2.out (l4May_spec nm _ _ bd1)).mono ?_
                      rintro e w1 ⟨rfl, rfl⟩
                      go_wp2_with fail
                      refine (told b3.out (l4May_spec tg _ _ bd2)).mono ?_
                      rintro e w1 ⟨rfl, rfl⟩
                      go_wp2
                      go_returns
                      exact ⟨ret_bool (by rw [HO.out]; simp [a2.out, a3.out, b1.out, b2.out, b3.out, HN0.out, HC0.out]), by go_grown⟩
                    · have gc : ((n1 : Int) == 0) = false := by simpa using hc0
                      have HC0 := Lib.hid (show ¬ ch.length = 0 from fun e => hc0 (HN.out.trans e)); clear hc0
                      go_enter Try.func119, Try.ntmps119
                      go_wp2_with fail
                      refine (told (show inB (6 : Int) 0 7 = true from inB_yes (by omega) (by omega)) (l1In_any _ _ _ _)).mono ?_
                      rintro e w1 ⟨rfl, rfl⟩
                      go_wp2_with fail
                      refine (told a2.out (l1In_any _ _ _ _)).mono ?_
                      rintro e w1 ⟨rfl, rfl⟩
                      go_wp2_with fail
                      refine (told a3.out (l1In_any _ _ _ _)).mono ?_
                      rintro e w1 ⟨rfl, rfl⟩
                      go_wp2_with fail
                      refine (told b1.out (l4May_spec s _ _ bd0)).mono ?_
                      rintro e w1 ⟨rfl, rfl⟩
                      go_wp2_with fail
                      refine (told b2.out (l4May_spec nm _ _ bd1)).mono ?_
                      rintro e w1 ⟨rfl, rfl⟩
                      go_wp2_with fail
                      refine (told b3.out (l4May_spec tg _ _ bd2)).mono ?_
                      rintro e w1 ⟨rfl, rfl⟩
                      go_wp2
                      go_returns
                      exact ⟨ret_bool (by rw [HO.out]; simp [a2.out, a3.out, b1.out, b2.out, b3.out, HN0.out, HC0.out]), by go_grown⟩
                  · have gn : (n != 0) = true := by simpa using hn0
                    have HN0 := Lib.hid hn0; clear hn0
                    go_enter Try.func119, Try.ntmps119
                    go_wp2_with fail
                    refine (told (show inB (6 : Int) 0 7 = true from inB_yes (by omega) (by omega)) (l1In_any _ _ _ _)).mono ?_
                    rintro e w1 ⟨rfl, rfl⟩
                    go_wp2_with fail
                    refine (told a2.out (l1In_any _ _ _ _)).mono ?_
                    rintro e w1 ⟨rfl, rfl⟩
                    go_wp2_with fail
                    refine (told a3.out (l1In_any _ _ _ _)).mono ?_
                    rintro e w1 ⟨rfl, rfl⟩
                    go_wp2_with fail
                    refine (told b1.out (l4May_spec s _ _ bd0)).mono ?_
                    rintro e w1 ⟨rfl, rfl⟩
                    go_wp2_with fail
                    refine (told b2.out (l4May_spec nm _ _ bd1)).mono ?_
                    rintro e w1 ⟨rfl, rfl⟩
                    go_wp2_with fail
                    refine (told b3.out (l4May_spec tg _ _ bd2)).mono ?_
                    rintro e w1 ⟨rfl, rfl⟩
                    go_wp2
                    go_returns
                    exact ⟨ret_bool (by rw [HO.out]; simp [a2.out, a3.out, b1.out, b2.out, b3.out, HN0.out]), by go_grown⟩
      · simp only [show inB (7 : Int) 1 7 = true from inB_yes (by omega) (by omega), Bool.true_and] at HO
        obtain ⟨qa2, ha2⟩ : ∃ q, inB cl 1 9 = q := ⟨_, rfl⟩
        have a2 := Lib.hid ha2; clear ha2
        cases qa2
        · skip
          go_enter Try.func119, Try.ntmps119
          go_wp2_with fail
          refine (told (show inB (7 : Int) 0 7 = true from inB_yes (by omega) (by omega)) (l1In_any _ _ _ _)).mono ?_
          rintro e w1 ⟨rfl, rfl⟩
          go_wp2_with fail
          refine (told a2.out (l1In_any _ _ _ _)).mono ?_
          rintro e w1 ⟨rfl, rfl⟩
          go_wp2
          go_returns
          exact ⟨ret_bool (by rw [HO.out]; simp [a2.out]), by go_grown⟩
        · skip
          obtain ⟨qa3, ha3⟩ : ∃ q, inB no 1 1000 = q := ⟨_, rfl⟩
          have a3 := Lib.hid ha3; clear ha3
          cases qa3
          · skip
            go_enter Try.func119, Try.ntmps119
            go_wp2_with fail
            refine (told (show inB (7 : Int) 0 7 = true from inB_yes (by omega) (by omega)) (l1In_any _ _ _ _)).mono ?_
            rintro e w1 ⟨rfl, rfl⟩
            go_wp2_with fail
            refine (told a2.out (l1In_any _ _ _ _)).mono ?_
            rintro e w1 ⟨rfl, rfl⟩
            go_wp2_with fail
            refine (told a3.out (l1In_any _ _ _ _)).mono ?_
            rintro e w1 ⟨rfl, rfl⟩
            go_wp2
            go_returns
            exact ⟨ret_bool (by rw [HO.out]; simp [a2.out, a3.out]), by go_grown⟩
          · skip
            obtain ⟨qb1, hb1⟩ : ∃ q, wifB s false = q := ⟨_, rfl⟩
            have b1 := Lib.hid hb1; clear hb1
            cases qb1
            · skip
              go_enter Try.func119, Try.ntmps119
              go_wp2_with fail
              refine (told (show inB (7 : Int) 0 7 = true from inB_yes (by omega) (by omega)) (l1In_any _ _ _ _)).mono ?_
              rintro e w1 ⟨rfl, rfl⟩
              go_wp2_with fail
              refine (told a2.out (l1In_any _ _ _ _)).mono ?_
              rintro e w1 ⟨rfl, rfl⟩
              go_wp2_with fail
              refine (told a3.out (l1In_any _ _ _ _)).mono ?_
              rintro e w1 ⟨rfl, rfl⟩
              go_wp2_with fail
              refine (told b1.out (l4May_spec s _ _ bd0)).mono ?_
              rintro e w1 ⟨rfl, rfl⟩
              go_wp2
              go_returns
              exact ⟨ret_bool (by rw [HO.out]; simp [a2.out, a3.out, b1.out]), by go_grown⟩
            · skip
              obtain ⟨qb2, hb2⟩ : ∃ q, wifB nm false = q := ⟨_, rfl⟩
              have b2 := Lib.hid hb2; clear hb2
              cases qb2
              · skip
                go_enter Try.func119, Try.ntmps119
                go_wp2_with fail
                refine (told (show inB (7 : Int) 0 7 = true from inB_yes (by omega) (by omega)) (l1In_any _ _ _ _)).mono ?_
                rintro e w1 ⟨rfl, rfl⟩
                go_wp2_with fail
                refine (told a2.out (l1In_any _ _ _ _)).mono ?_
                rintro e w1 ⟨rfl, rfl⟩
                go_wp2_with fail
                refine (told a3.out (l1In_any _ _ _ _)).mono ?_
                rintro e w1 ⟨rfl, rfl⟩
                go_wp2_with fail
                refine (told b1.out (l4May_spec s _ _ bd0)).mono ?_
                rintro e w1 ⟨rfl, rfl⟩
                go_wp2_with fail
                refine (told b2.out (l4May_spec nm _ _ bd1)).mono ?_
                rintro e w1 ⟨rfl, rfl⟩
                go_wp2
                go_returns
                exact ⟨ret_bool (by rw [HO.out]; simp [a2.out, a3.out, b1.out, b2.out]), by go_grown⟩
              · skip
                obtain ⟨qb3, hb3⟩ : ∃ q, wifB tg false = q := ⟨_, rfl⟩
                have b3 := Lib.hid hb3; clear hb3
                cases qb3
                · skip
                  go_enter Try.func119, Try.ntmps119
                  go_wp2_with fail
                  refine (told (show inB (7 : Int) 0 7 = true from inB_yes (by omega) (by omega)) (l1In_any _ _ _ _)).mono ?_
                  rintro e w1 ⟨rfl, rfl⟩
                  go_wp2_with fail
                  refine (told a2.out (l1In_any _ _ _ _)).mono ?_
                  rintro e w1 ⟨rfl, rfl⟩
                  go_wp2_with fail
                  refine (told a3.out (l1In_any _ _ _ _)).mono ?_
                  rintro e w1 ⟨rfl, rfl⟩
                  go_wp2_with fail
                  refine (told b1.out (l4May_spec s _ _ bd0)).mono ?_
                  rintro e w1 ⟨rfl, rfl⟩
                  go_wp2_with fail
                  refine (told b2.out (l4May_spec nm _ _ bd1)).mono ?_
                  rintro e w1 ⟨rfl, rfl⟩
                  go_wp2_with fail
                  refine (told b3.out (l4May_spec tg _ _ bd2)).mono ?_
                  rintro e w1 ⟨rfl, rfl⟩
                  go_wp2
                  go_returns
                  exact ⟨ret_bool (by rw [HO.out]; simp [a2.out, a3.out, b1.out, b2.out, b3.out]), by go_grown⟩
                · skip
                  by_cases hn0 : n = 0
                  · have gn : (n != 0) = false := by simp [hn0]
                    have HN0 := Lib.hid hn0; clear hn0
                    by_cases hc0 : n1 = 0
                    · have gc : ((n1 : Int) == 0) = true := by simp [hc0]
                      have HC0 := Lib.hid (show ch.length = 0 from HN.out.symm.trans hc0); clear hc0
                      go_enter Try.func119, Try.ntmps119
                      go_wp2_with fail
                      refine (told (show inB (7 : Int) 0 7 = true from inB_yes (by omega) (by omega)) (l1In_any _ _ _ _)).mono ?_
                      rintro e w1 ⟨rfl, rfl⟩
                      go_wp2_with fail
                      refine (told a2.out (l1In_any _ _ _ _)).mono ?_
                      rintro e w1 ⟨rfl, rfl⟩
                      go_wp2_with fail
                      refine (told a3.out (l1In_any _ _ _ _)).mono ?_
                      rintro e w1 ⟨rfl, rfl⟩
                      go_wp2_with fail
                      refine (told b1.out (l4May_spec s _ _ bd0)).mono ?_
                      rintro e w1 ⟨rfl, rfl⟩
                      go_wp2_with fail
                      refine (told b2.out (l4May_spec nm _ _ bd1)).mono ?_
                      rintro e w1 ⟨rfl, rfl⟩
                      go_wp2_with fail
                      refine (told b3.out (l4May_spec tg _ _ bd2)).mono ?_
                      rintro e w1 ⟨rfl, rfl⟩
                      go_wp2
                      go_returns
                      exact ⟨ret_bool (by rw [HO.out]; simp [a2.out, a3.out, b1.out, b2.out, b3.out, HN0.out, HC0.out]), by go_grown⟩
                    · have gc : ((n1 : Int) == 0) = false := by simpa using hc0
                      have HC0 := Lib.hid (show ¬ ch.length = 0 from fun e => hc0 (HN.out.trans e)); clear hc0
                      go_enter Try.func119, Try.ntmps119
                      go_wp2_with fail
                      refine (told (show inB (7 : Int) 0 7 = true from inB_yes (by omega) (by omega)) (l1In_any _ _ _ _)).mono ?_
                      rintro e w1 ⟨rfl, rfl⟩
                      go_wp2_with fail
                      refine (told a2.out (l1In_any _ _ _ _)).mono ?_
                      rintro e w1 ⟨rfl, rfl⟩
                      go_wp2_with fail
                      refine (told a3.out (l1In_any _ _ _ _)).mono ?_
                      rintro e w1 ⟨rfl, rfl⟩
                      go_wp2_with fail
                      refine (told b1.out (l4May_spec s _ _ bd0)).mono ?_
                      rintro e w1 ⟨rfl, rfl⟩
                      go_wp2_with fail
                      refine (told b2.out (l4May_spec nm _ _ bd1)).mono ?_
                      rintro e w1 ⟨rfl, rfl⟩
                      go_wp2_with fail
                      refine (told b3.out (l4May_spec tg _ _ bd2)).mono ?_
                      rintro e w1 ⟨rfl, rfl⟩
                      go_wp2
                      go_returns
                      exact ⟨ret_bool (by rw [HO.out]; simp [a2.out, a3.out, b1.out, b2.out, b3.out, HN0.out, HC0.out]), by go_grown⟩
                  · have gn : (n != 0) = true := by simpa using hn0
                    have HN0 := Lib.hid hn0; clear hn0
                    go_enter Try.func119, Try.ntmps119
                    go_wp2_with fail
                    refine (told (show inB (7 : Int) 0 7 = true from inB_yes (by omega) (by omega)) (l1In_any _ _ _ _)).mono ?_
                    rintro e w1 ⟨rfl, rfl⟩
                    go_wp2_with fail
                    refine (told a2.out (l1In_any _ _ _ _)).mono ?_
                    rintro e w1 ⟨rfl, rfl⟩
                    go_wp2_with fail
                    refine (told a3.out (l1In_any _ _ _ _)).mono ?_
                    rintro e w1 ⟨rfl, rfl⟩
                    go_wp2_with fail
                    refine (told b1.out (l4May_spec s _ _ bd0)).mono ?_
                    rintro e w1 ⟨rfl, rfl⟩
                    go_wp2_with fail
                    refine (told b2.out (l4May_spec nm _ _ bd1)).mono ?_
                    rintro e w1 ⟨rfl, rfl⟩
                    go_wp2_with fail
                    refine (told b3.out (l4May_spec tg _ _ bd2)).mono ?_
                    rintro e w1 ⟨rfl, rfl⟩
                    go_wp2
                    go_returns
                    exact ⟨ret_bool (by rw [HO.out]; simp [a2.out, a3.out, b1.out, b2.out, b3.out, HN0.out]), by go_grown⟩
    · have q1 := Lib.hid (show inB x.kd 1 7 = false from inB_no (by omega))
      have q0 := Lib.hid (show inB x.kd 0 7 = false from inB_no (by omega))
      have hd : (x.kd == 0) = false := by simpa using hk0
      clear hk0 hkr
      unfold cmV
      go_enter Try.func119, Try.ntmps119
      go_wp2_with fail
      refine (told q0.out (l1In_any _ _ _ _)).mono ?_
      rintro e w1 ⟨rfl, rfl⟩
      go_wp2
      go_returns
      exact ⟨ret_bool (by rw [HO.out, q1.out]; simp), by go_grown⟩
end Go.Proofs.Ytdphdnllhmnelaa
