/- Contracts and lemmas: Clash, KIntss, BatchL, KindA. -/
import Derived.Test.YtdphdnllhmnelaaJ19
import Derived.Test.YtdphdnllhmnelaaJ20
import Derived.Test.YtdphdnllhmnelaaJ17
import Derived.Deep.RegionHeld3
import Derived.StillTailTactics
import Derived.BigQuiet
import Derived.Deep.QuietTactic
import Derived.Test.YtdphdnllhmnelaaJ1
/- Contracts of Clash, areCmds and l34Ok. -/
namespace Go.Proofs.Ytdphdnllhmnelaa
open Go.RowKit
def clashB (x y : Cm) : Bool := cmOkB x && cmOkB y && !(x.kd == 0) && !(y.kd == 0) && ((x.kd == 7) || (y.kd == 7) || decide (x.s = y.s))
attribute [local irreducible] StrsAt cmOkB

set_option maxRecDepth 8000 in
set_option maxHeartbeats 1000000 in
theorem clash_impl (x y : Cm) (A1 : Option Addr) (n1 c1 : Nat) (A2 : Option Addr) (n2 c2 : Nat) (w : World) (h1 : StrR w A1 n1 c1 x.ch) (h2 : StrR w A2 n2 c2 y.ch) (hx : cmB x) (hy : cmB y) :
    Calls Try.prog 55 #[cmV x (.slice A1 n1 c1), cmV y (.slice A2 n2 c2)] w fun e w' => e = .returned (.bool (clashB x y)) ∧ Below w.heap.size w w' := by
  obtain ⟨q1, hq1⟩ : ∃ q, cmOkB x = q := ⟨_, rfl⟩
  have Q1 := Lib.hid hq1; clear hq1
  obtain ⟨q2, hq2⟩ : ∃ q, cmOkB y = q := ⟨_, rfl⟩
  have Q2 := Lib.hid hq2; clear hq2
  have HV := Lib.hid (show clashB x y = (q1 && q2 && !(x.kd == 0) && !(y.kd == 0) && ((x.kd == 7) || (y.kd == 7) || decide (x.s = y.s))) by unfold clashB; rw [Q1.out, Q2.out])
  have HS := Lib.hid (sbeq x.s y.s)
  cases q1
  · skip
    unfold cmV
    go_enter Try.func55, Try.ntmps55
    go_wp2_with fail
    refine (cmdOk_impl x _ _ _ _ (h1.keep (by go_grown)) hx).mono ?_
    rintro e w1 ⟨rfl, hb1⟩
    obtain ⟨hc_w1, hf_w1⟩ := bcell hb1
    have hz_w1 := hb1.size
    try simp at hz_w1
    have hB_w1 : Below w.heap.size w w1 := bthen (by go_grown) hb1
    have hz_w1_0 : w.heap.size < w1.heap.size := by omega
    have hz_w1_1 : w.heap.size + 1 < w1.heap.size := by omega
    rw [Q1.out]
    go_wp2
    go_returns
    exact ⟨ret_bool (by rw [HV.out]; simp), hB_w1⟩
  · cases q2
    · skip
      unfold cmV
      go_enter Try.func55, Try.ntmps55
      go_wp2_with fail
      refine (cmdOk_impl x _ _ _ _ (h1.keep (by go_grown)) hx).mono ?_
      rintro e w1 ⟨rfl, hb1⟩
      obtain ⟨hc_w1, hf_w1⟩ := bcell hb1
      have hz_w1 := hb1.size
      try simp at hz_w1
      have hB_w1 : Below w.heap.size w w1 := bthen (by go_grown) hb1
      have hz_w1_0 : w.heap.size < w1.heap.size := by omega
      have hz_w1_1 : w.heap.size + 1 < w1.heap.size := by omega
      rw [Q1.out]
      go_wp2_with fail
      refine (cmdOk_impl y _ _ _ _ (h2.keep hB_w1) hy).mono ?_
      rintro e w2 ⟨rfl, hb2⟩
      obtain ⟨hc_w2, hf_w2⟩ := bcell hb2
      have hz_w2 := hb2.size
      try simp at hz_w2
      have hB_w2 : Below w.heap.size w w2 := bthen hB_w1 hb2
      have hz_w2_0 : w.heap.size < w2.heap.size := by omega
      have hz_w2_1 : w.heap.size + 1 < w2.heap.size := by omega
      rw [Q2.out]
      go_wp2
      go_returns
      exact ⟨ret_bool (by rw [HV.out]; simp), hB_w2⟩
    · skip
      obtain ⟨t0, ht0⟩ : ∃ q, (x.kd == 0) = q := ⟨_, rfl⟩
      cases t0
      · skip
        obtain ⟨t1, ht1⟩ : ∃ q, (y.kd == 0) = q := ⟨_, rfl⟩
        cases t1
        · skip
          obtain ⟨t2, ht2⟩ : ∃ q, (x.kd == 7) = q := ⟨_, rfl⟩
          cases t2
          · skip
            obtain ⟨t3, ht3⟩ : ∃ q, (y.kd == 7) = q := ⟨_, rfl⟩
            cases t3
            · skip
              obtain ⟨t4, ht4⟩ : ∃ q, (x.s.toList == y.s.toList) = q := ⟨_, rfl⟩
              have T0 := Lib.hid ht0
              have T1 := Lib.hid ht1
              have T2 := Lib.hid ht2
              have T3 := Lib.hid ht3
              have T4 := Lib.hid ht4
              cases t4
              · skip
                unfold cmV
                go_enter Try.func55, Try.ntmps55
                go_wp2_with fail
                refine (cmdOk_impl x _ _ _ _ (h1.keep (by go_grown)) hx).mono ?_
                rintro e w1 ⟨rfl, hb1⟩
                obtain ⟨hc_w1, hf_w1⟩ := bcell hb1
                have hz_w1 := hb1.size
                try simp at hz_w1
                have hB_w1 : Below w.heap.size w w1 := bthen (by go_grown) hb1
                have hz_w1_0 : w.heap.size < w1.heap.size := by omega
                have hz_w1_1 : w.heap.size + 1 < w1.heap.size := by omega
                rw [Q1.out]
                go_wp2_with fail
                refine (cmdOk_impl y _ _ _ _ (h2.keep hB_w1) hy).mono ?_
                rintro e w2 ⟨rfl, hb2⟩
                obtain ⟨hc_w2, hf_w2⟩ := bcell hb2
                have hz_w2 := hb2.size
                try simp at hz_w2
                have hB_w2 : Below w.heap.size w w2 := bthen hB_w1 hb2
                have hz_w2_0 : w.heap.size < w2.heap.size := by omega
                have hz_w2_1 : w.heap.size + 1 < w2.heap.size := by omega
                rw [Q2.out]
                go_wp2
                go_returns
                exact ⟨ret_bool (by rw [HV.out]; rw [T0.out, T1.out, T2.out, T3.out, ← HS.out, T4.out]; rfl), hB_w2⟩
              · skip
                unfold cmV
                go_enter Try.func55, Try.ntmps55
                go_wp2_with fail
                refine (cmdOk_impl x _ _ _ _ (h1.keep (by go_grown)) hx).mono ?_
                rintro e w1 ⟨rfl, hb1⟩
                obtain ⟨hc_w1, hf_w1⟩ := bcell hb1
                have hz_w1 := hb1.size
                try simp at hz_w1
                have hB_w1 : Below w.heap.size w w1 := bthen (by go_grown) hb1
                have hz_w1_0 : w.heap.size < w1.heap.size := by omega
                have hz_w1_1 : w.heap.size + 1 < w1.heap.size := by omega
                rw [Q1.out]
                go_wp2_with fail
                refine (cmdOk_impl y _ _ _ _ (h2.keep hB_w1) hy).mono ?_
                rintro e w2 ⟨rfl, hb2⟩
                obtain ⟨hc_w2, hf_w2⟩ := bcell hb2
                have hz_w2 := hb2.size
                try simp at hz_w2
                have hB_w2 : Below w.heap.size w w2 := bthen hB_w1 hb2
                have hz_w2_0 : w.heap.size < w2.heap.size := by omega
                have hz_w2_1 : w.heap.size + 1 < w2.heap.size := by omega
                rw [Q2.out]
                go_wp2
                go_returns
                exact ⟨ret_bool (by rw [HV.out]; rw [T0.out, T1.out, T2.out, T3.out, ← HS.out, T4.out]; rfl), hB_w2⟩
            · have T3 := Lib.hid ht3
              have T0 := Lib.hid ht0
              have T1 := Lib.hid ht1
              unfold cmV
              go_enter Try.func55, Try.ntmps55
              go_wp2_with fail
              refine (cmdOk_impl x _ _ _ _ (h1.keep (by go_grown)) hx).mono ?_
              rintro e w1 ⟨rfl, hb1⟩
              obtain ⟨hc_w1, hf_w1⟩ := bcell hb1
              have hz_w1 := hb1.size
              try simp at hz_w1
              have hB_w1 : Below w.heap.size w w1 := bthen (by go_grown) hb1
              have hz_w1_0 : w.heap.size < w1.heap.size := by omega
              have hz_w1_1 : w.heap.size + 1 < w1.heap.size := by omega
              rw [Q1.out]
              go_wp2_with fail
              refine (cmdOk_impl y _ _ _ _ (h2.keep hB_w1) hy).mono ?_
              rintro e w2 ⟨rfl, hb2⟩
              obtain ⟨hc_w2, hf_w2⟩ := bcell hb2
              have hz_w2 := hb2.size
              try simp at hz_w2
              have hB_w2 : Below w.heap.size w w2 := bthen hB_w1 hb2
              have hz_w2_0 : w.heap.size < w2.heap.size := by omega
              have hz_w2_1 : w.heap.size + 1 < w2.heap.size := by omega
              rw [Q2.out]
              go_wp2
              go_returns
              exact ⟨ret_bool (by rw [HV.out]; rw [T0.out, T1.out, T3.out]; simp), hB_w2⟩
          · have T2 := Lib.hid ht2
            have T0 := Lib.hid ht0
            have T1 := Lib.hid ht1
            unfold cmV
            go_enter Try.func55, Try.ntmps55
            go_wp2_with fail
            refine (cmdOk_impl x _ _ _ _ (h1.keep (by go_grown)) hx).mono ?_
            rintro e w1 ⟨rfl, hb1⟩
            obtain ⟨hc_w1, hf_w1⟩ := bcell hb1
            have hz_w1 := hb1.size
            try simp at hz_w1
            have hB_w1 : Below w.heap.size w w1 := bthen (by go_grown) hb1
            have hz_w1_0 : w.heap.size < w1.heap.size := by omega
            have hz_w1_1 : w.heap.size + 1 < w1.heap.size := by omega
            rw [Q1.out]
            go_wp2_with fail
            refine (cmdOk_impl y _ _ _ _ (h2.keep hB_w1) hy).mono ?_
            rintro e w2 ⟨rfl, hb2⟩
            obtain ⟨hc_w2, hf_w2⟩ := bcell hb2
            have hz_w2 := hb2.size
            try simp at hz_w2
            have hB_w2 : Below w.heap.size w w2 := bthen hB_w1 hb2
            have hz_w2_0 : w.heap.size < w2.heap.size := by omega
            have hz_w2_1 : w.heap.size + 1 < w2.heap.size := by omega
            rw [Q2.out]
            go_wp2
            go_returns
            exact ⟨ret_bool (by rw [HV.out]; rw [T0.out, T1.out, T2.out]; simp), hB_w2⟩
        · have T1 := Lib.hid ht1
          unfold cmV
          go_enter Try.func55, Try.ntmps55
          go_wp2_with fail
          refine (cmdOk_impl x _ _ _ _ (h1.keep (by go_grown)) hx).mono ?_
          rintro e w1 ⟨rfl, hb1⟩
          obtain ⟨hc_w1, hf_w1⟩ := bcell hb1
          have hz_w1 := hb1.size
          try simp at hz_w1
          have hB_w1 : Below w.heap.size w w1 := bthen (by go_grown) hb1
          have hz_w1_0 : w.heap.size < w1.heap.size := by omega
          have hz_w1_1 : w.heap.size + 1 < w1.heap.size := by omega
          rw [Q1.out]
          go_wp2_with fail
          refine (cmdOk_impl y _ _ _ _ (h2.keep hB_w1) hy).mono ?_
          rintro e w2 ⟨rfl, hb2⟩
          obtain ⟨hc_w2, hf_w2⟩ := bcell hb2
          have hz_w2 := hb2.size
          try simp at hz_w2
          have hB_w2 : Below w.heap.size w w2 := bthen hB_w1 hb2
          have hz_w2_0 : w.heap.size < w2.heap.size := by omega
          have hz_w2_1 : w.heap.size + 1 < w2.heap.size := by omega
          rw [Q2.out]
          go_wp2
          go_returns
          exact ⟨ret_bool (by rw [HV.out]; rw [T1.out]; simp), hB_w2⟩
      · have T0 := Lib.hid ht0
        unfold cmV
        go_enter Try.func55, Try.ntmps55
        go_wp2_with fail
        refine (cmdOk_impl x _ _ _ _ (h1.keep (by go_grown)) hx).mono ?_
        rintro e w1 ⟨rfl, hb1⟩
        obtain ⟨hc_w1, hf_w1⟩ := bcell hb1
        have hz_w1 := hb1.size
        try simp at hz_w1
        have hB_w1 : Below w.heap.size w w1 := bthen (by go_grown) hb1
        have hz_w1_0 : w.heap.size < w1.heap.size := by omega
        have hz_w1_1 : w.heap.size + 1 < w1.heap.size := by omega
        rw [Q1.out]
        go_wp2_with fail
        refine (cmdOk_impl y _ _ _ _ (h2.keep hB_w1) hy).mono ?_
        rintro e w2 ⟨rfl, hb2⟩
        obtain ⟨hc_w2, hf_w2⟩ := bcell hb2
        have hz_w2 := hb2.size
        try simp at hz_w2
        have hB_w2 : Below w.heap.size w w2 := bthen hB_w1 hb2
        have hz_w2_0 : w.heap.size < w2.heap.size := by omega
        have hz_w2_1 : w.heap.size + 1 < w2.heap.size := by omega
        rw [Q2.out]
        go_wp2
        go_returns
        exact ⟨ret_bool (by rw [HV.out]; rw [T0.out]; simp), hB_w2⟩
set_option maxRecDepth 8000 in
set_option maxHeartbeats 1000000 in
theorem clash_spec (x y : Cm) (A1 : Option Addr) (n1 c1 : Nat) (A2 : Option Addr) (n2 c2 : Nat) (w : World) (h1 : StrR w A1 n1 c1 x.ch) (h2 : StrR w A2 n2 c2 y.ch) (hx : cmB x) (hy : cmB y) :
    Calls Try.prog 52 #[cmV x (.slice A1 n1 c1), cmV y (.slice A2 n2 c2)] w fun e w' => e = .returned (.bool (clashB x y)) ∧ Below w.heap.size w w' := by
  obtain ⟨q1, hq1⟩ : ∃ q, cmOkB x = q := ⟨_, rfl⟩
  have Q1 := Lib.hid hq1; clear hq1
  obtain ⟨q2, hq2⟩ : ∃ q, cmOkB y = q := ⟨_, rfl⟩
  have Q2 := Lib.hid hq2; clear hq2
  have HV := Lib.hid (show clashB x y = (q1 && q2 && !(x.kd == 0) && !(y.kd == 0) && ((x.kd == 7) || (y.kd == 7) || decide (x.s = y.s))) by unfold clashB; rw [Q1.out, Q2.out])
  have HS := Lib.hid (sbeq x.s y.s)
  cases q1
  · skip
    unfold cmV
    go_enter Try.func52, Try.ntmps52
    go_wp2_with fail
    refine (cmdOk_spec x _ _ _ _ (h1.keep (by go_grown)) hx).mono ?_
    rintro e w1 ⟨rfl, hb1⟩
    obtain ⟨hc_w1, hf_w1⟩ := bcell hb1
    have hz_w1 := hb1.size
    try simp at hz_w1
    have hB_w1 : Below w.heap.size w w1 := bthen (by go_grown) hb1
    have hz_w1_0 : w.heap.size < w1.heap.size := by omega
    have hz_w1_1 : w.heap.size + 1 < w1.heap.size := by omega
    rw [Q1.out]
    go_wp2
    go_returns
    exact ⟨ret_bool (by rw [HV.out]; simp), hB_w1⟩
  · cases q2
    · skip
      unfold cmV
      go_enter Try.func52, Try.ntmps52
      go_wp2_with fail
      refine (cmdOk_spec x _ _ _ _ (h1.keep (by go_grown)) hx).mono ?_
      rintro e w1 ⟨rfl, hb1⟩
      obtain ⟨hc_w1, hf_w1⟩ := bcell hb1
      have hz_w1 := hb1.size
      try simp at hz_w1
      have hB_w1 : Below w.heap.size w w1 := bthen (by go_grown) hb1
      have hz_w1_0 : w.heap.size < w1.heap.size := by omega
      have hz_w1_1 : w.heap.size + 1 < w1.heap.size := by omega
      rw [Q1.out]
      go_wp2_with fail
      refine (cmdOk_spec y _ _ _ _ (h2.keep hB_w1) hy).mono ?_
      rintro e w2 ⟨rfl, hb2⟩
      obtain ⟨hc_w2, hf_w2⟩ := bcell hb2
      have hz_w2 := hb2.size
      try simp at hz_w2
      have hB_w2 : Below w.heap.size w w2 := bthen hB_w1 hb2
      have hz_w2_0 : w.heap.size < w2.heap.size := by omega
      have hz_w2_1 : w.heap.size + 1 < w2.heap.size := by omega
      rw [Q2.out]
      go_wp2
      go_returns
      exact ⟨ret_bool (by rw [HV.out]; simp), hB_w2⟩
    · skip
      obtain ⟨t0, ht0⟩ : ∃ q, (x.kd == 0) = q := ⟨_, rfl⟩
      cases t0
      · skip
        obtain ⟨t1, ht1⟩ : ∃ q, (y.kd == 0) = q := ⟨_, rfl⟩
        cases t1
        · skip
          obtain ⟨t2, ht2⟩ : ∃ q, (x.kd == 7) = q := ⟨_, rfl⟩
          cases t2
          · skip
            obtain ⟨t3, ht3⟩ : ∃ q, (y.kd == 7) = q := ⟨_, rfl⟩
            cases t3
            · skip
              obtain ⟨t4, ht4⟩ : ∃ q, (x.s.toList == y.s.toList) = q := ⟨_, rfl⟩
              have T0 := Lib.hid ht0
              have T1 := Lib.hid ht1
              have T2 := Lib.hid ht2
              have T3 := Lib.hid ht3
              have T4 := Lib.hid ht4
              cases t4
              · skip
                unfold cmV
                go_enter Try.func52, Try.ntmps52
                go_wp2_with fail
                refine (cmdOk_spec x _ _ _ _ (h1.keep (by go_grown)) hx).mono ?_
                rintro e w1 ⟨rfl, hb1⟩
                obtain ⟨hc_w1, hf_w1⟩ := bcell hb1
                have hz_w1 := hb1.size
                try simp at hz_w1
                have hB_w1 : Below w.heap.size w w1 := bthen (by go_grown) hb1
                have hz_w1_0 : w.heap.size < w1.heap.size := by omega
                have hz_w1_1 : w.heap.size + 1 < w1.heap.size := by omega
                rw [Q1.out]
                go_wp2_with fail
                refine (cmdOk_spec y _ _ _ _ (h2.keep hB_w1) hy).mono ?_
                rintro e w2 ⟨rfl, hb2⟩
                obtain ⟨hc_w2, hf_w2⟩ := bcell hb2
                have hz_w2 := hb2.size
                try simp at hz_w2
                have hB_w2 : Below w.heap.size w w2 := bthen hB_w1 hb2
                have hz_w2_0 : w.heap.size < w2.heap.size := by omega
                have hz_w2_1 : w.heap.size + 1 < w2.heap.size := by omega
                rw [Q2.out]
                go_wp2
                go_returns
                exact ⟨ret_bool (by rw [HV.out]; rw [T0.out, T1.out, T2.out, T3.out, ← HS.out, T4.out]; rfl), hB_w2⟩
              · skip
                unfold cmV
                go_enter Try.func52, Try.ntmps52
                go_wp2_with fail
                refine (cmdOk_spec x _ _ _ _ (h1.keep (by go_grown)) hx).mono ?_
                rintro e w1 ⟨rfl, hb1⟩
                obtain ⟨hc_w1, hf_w1⟩ := bcell hb1
                have hz_w1 := hb1.size
                try simp at hz_w1
                have hB_w1 : Below w.heap.size w w1 := bthen (by go_grown) hb1
                have hz_w1_0 : w.heap.size < w1.heap.size := by omega
                have hz_w1_1 : w.heap.size + 1 < w1.heap.size := by omega
                rw [Q1.out]
                go_wp2_with fail
                refine (cmdOk_spec y _ _ _ _ (h2.keep hB_w1) hy).mono ?_
                rintro e w2 ⟨rfl, hb2⟩
                obtain ⟨hc_w2, hf_w2⟩ := bcell hb2
                have hz_w2 := hb2.size
                try simp at hz_w2
                have hB_w2 : Below w.heap.size w w2 := bthen hB_w1 hb2
                have hz_w2_0 : w.heap.size < w2.heap.size := by omega
                have hz_w2_1 : w.heap.size + 1 < w2.heap.size := by omega
                rw [Q2.out]
                go_wp2
                go_returns
                exact ⟨ret_bool (by rw [HV.out]; rw [T0.out, T1.out, T2.out, T3.out, ← HS.out, T4.out]; rfl), hB_w2⟩
            · have T3 := Lib.hid ht3
              have T0 := Lib.hid ht0
              have T1 := Lib.hid ht1
              unfold cmV
              go_enter Try.func52, Try.ntmps52
              go_wp2_with fail
              refine (cmdOk_spec x _ _ _ _ (h1.keep (by go_grown)) hx).mono ?_
              rintro e w1 ⟨rfl, hb1⟩
              obtain ⟨hc_w1, hf_w1⟩ := bcell hb1
              have hz_w1 := hb1.size
              try simp at hz_w1
              have hB_w1 : Below w.heap.size w w1 := bthen (by go_grown) hb1
              have hz_w1_0 : w.heap.size < w1.heap.size := by omega
              have hz_w1_1 : w.heap.size + 1 < w1.heap.size := by omega
              rw [Q1.out]
              go_wp2_with fail
              refine (cmdOk_spec y _ _ _ _ (h2.keep hB_w1) hy).mono ?_
              rintro e w2 ⟨rfl, hb2⟩
              obtain ⟨hc_w2, hf_w2⟩ := bcell hb2
              have hz_w2 := hb2.size
              try simp at hz_w2
              have hB_w2 : Below w.heap.size w w2 := bthen hB_w1 hb2
              have hz_w2_0 : w.heap.size < w2.heap.size := by omega
              have hz_w2_1 : w.heap.size + 1 < w2.heap.size := by omega
              rw [Q2.out]
              go_wp2
              go_returns
              exact ⟨ret_bool (by rw [HV.out]; rw [T0.out, T1.out, T3.out]; simp), hB_w2⟩
          · have T2 := Lib.hid ht2
            have T0 := Lib.hid ht0
            have T1 := Lib.hid ht1
            unfold cmV
            go_enter Try.func52, Try.ntmps52
            go_wp2_with fail
            refine (cmdOk_spec x _ _ _ _ (h1.keep (by go_grown)) hx).mono ?_
            rintro e w1 ⟨rfl, hb1⟩
            obtain ⟨hc_w1, hf_w1⟩ := bcell hb1
            have hz_w1 := hb1.size
            try simp at hz_w1
            have hB_w1 : Below w.heap.size w w1 := bthen (by go_grown) hb1
            have hz_w1_0 : w.heap.size < w1.heap.size := by omega
            have hz_w1_1 : w.heap.size + 1 < w1.heap.size := by omega
            rw [Q1.out]
            go_wp2_with fail
            refine (cmdOk_spec y _ _ _ _ (h2.keep hB_w1) hy).mono ?_
            rintro e w2 ⟨rfl, hb2⟩
            obtain ⟨hc_w2, hf_w2⟩ := bcell hb2
            have hz_w2 := hb2.size
            try simp at hz_w2
            have hB_w2 : Below w.heap.size w w2 := bthen hB_w1 hb2
            have hz_w2_0 : w.heap.size < w2.heap.size := by omega
            have hz_w2_1 : w.heap.size + 1 < w2.heap.size := by omega
            rw [Q2.out]
            go_wp2
            go_returns
            exact ⟨ret_bool (by rw [HV.out]; rw [T0.out, T1.out, T2.out]; simp), hB_w2⟩
        · have T1 := Lib.hid ht1
          unfold cmV
          go_enter Try.func52, Try.ntmps52
          go_wp2_with fail
          refine (cmdOk_spec x _ _ _ _ (h1.keep (by go_grown)) hx).mono ?_
          rintro e w1 ⟨rfl, hb1⟩
          obtain ⟨hc_w1, hf_w1⟩ := bcell hb1
          have hz_w1 := hb1.size
          try simp at hz_w1
          have hB_w1 : Below w.heap.size w w1 := bthen (by go_grown) hb1
          have hz_w1_0 : w.heap.size < w1.heap.size := by omega
          have hz_w1_1 : w.heap.size + 1 < w1.heap.size := by omega
          rw [Q1.out]
          go_wp2_with fail
          refine (cmdOk_spec y _ _ _ _ (h2.keep hB_w1) hy).mono ?_
          rintro e w2 ⟨rfl, hb2⟩
          obtain ⟨hc_w2, hf_w2⟩ := bcell hb2
          have hz_w2 := hb2.size
          try simp at hz_w2
          have hB_w2 : Below w.heap.size w w2 := bthen hB_w1 hb2
          have hz_w2_0 : w.heap.size < w2.heap.size := by omega
          have hz_w2_1 : w.heap.size + 1 < w2.heap.size := by omega
          rw [Q2.out]
          go_wp2
          go_returns
          exact ⟨ret_bool (by rw [HV.out]; rw [T1.out]; simp), hB_w2⟩
      · have T0 := Lib.hid ht0
        unfold cmV
        go_enter Try.func52, Try.ntmps52
        go_wp2_with fail
        refine (cmdOk_spec x _ _ _ _ (h1.keep (by go_grown)) hx).mono ?_
        rintro e w1 ⟨rfl, hb1⟩
        obtain ⟨hc_w1, hf_w1⟩ := bcell hb1
        have hz_w1 := hb1.size
        try simp at hz_w1
        have hB_w1 : Below w.heap.size w w1 := bthen (by go_grown) hb1
        have hz_w1_0 : w.heap.size < w1.heap.size := by omega
        have hz_w1_1 : w.heap.size + 1 < w1.heap.size := by omega
        rw [Q1.out]
        go_wp2_with fail
        refine (cmdOk_spec y _ _ _ _ (h2.keep hB_w1) hy).mono ?_
        rintro e w2 ⟨rfl, hb2⟩
        obtain ⟨hc_w2, hf_w2⟩ := bcell hb2
        have hz_w2 := hb2.size
        try simp at hz_w2
        have hB_w2 : Below w.heap.size w w2 := bthen hB_w1 hb2
        have hz_w2_0 : w.heap.size < w2.heap.size := by omega
        have hz_w2_1 : w.heap.size + 1 < w2.heap.size := by omega
        rw [Q2.out]
        go_wp2
        go_returns
        exact ⟨ret_bool (by rw [HV.out]; rw [T0.out]; simp), hB_w2⟩

/-- commands as for batches -/
def cmsOkB (l : List Cm) : Bool := decide (l.length ≤ 10) && l.all (fun x => cmOkB x && !(x.kd == 0))
theorem cmsOk_no {l : List Cm} {i : Nat} {x : Cm} (hx : l[i]? = some x) (h : (cmOkB x && !(x.kd == 0)) = false) : cmsOkB l = false := by
  unfold cmsOkB
  rw [Bool.and_eq_false_iff]
  right
  rw [List.all_eq_false]
  exact ⟨x, List.mem_of_getElem? hx, by rw [h]; simp⟩
theorem cmsOk_yes {l : List Cm} (h : ∀ (i : Nat) (x : Cm), l[i]? = some x → (cmOkB x && !(x.kd == 0)) = true) : cmsOkB l = decide (l.length ≤ 10) := by
  unfold cmsOkB
  have : l.all (fun x => cmOkB x && !(x.kd == 0)) = true := List.all_eq_true.2 fun x hx => by
    obtain ⟨i, hi⟩ := List.mem_iff_getElem?.1 hx
    exact h i x hi
  rw [this, Bool.and_true]
attribute [local irreducible] RowR StrR
set_option maxRecDepth 8000 in
set_option maxHeartbeats 1000000 in
theorem areCmds_impl (l : List Cm) (A : Option Addr) (n c : Nat) (w : World) (h : RowR cmR 8 w A n c l) (hb : cmsB l) :
    Calls Try.prog 54 #[.slice A n c] w fun e w' => e = .returned (.bool (cmsOkB l)) ∧ Below w.heap.size w w' := by
  have HL := Lib.hid h.len.symm
  have hn : n ≤ 9223372036854775807 := by have h1 := HL.out; have h2 := hb.1; omega
  go_enter Try.func54, Try.ntmps54
  go_wp2
  go_loopw [7] (fun i wr => ∃ k : Nat, k ≤ n ∧ i = .int .i64 k ∧ (∀ i x, i < k → l[i]? = some x → (cmOkB x && !(x.kd == 0)) = true) ∧ Below w.heap.size w wr) (fun i _ => n - (intOf i).toNat)
  case atStart => exact ⟨0, Nat.zero_le _, rfl, fun i x hi => absurd hi (by omega), Below.refl _ _⟩
  case round =>
    obtain ⟨k, hk, rfl, hall, hbw⟩ := hrel
    have HA := Lib.hid hall; clear hall
    by_cases hlt : k < n
    · obtain ⟨b, off, rfl⟩ := h.head (by omega)
      obtain ⟨bl, x, cs, hx, hR, hcell⟩ := h.elem_at hlt
      obtain ⟨A1, n1, c1, rfl, h1⟩ := hR
      have e0 := (hbw.cell (p := ⟨b, off + k * 8, none⟩) bl).trans (show w.cell? ⟨b, off + k * 8, none⟩ = some (.int .i64 x.kd) from hcell 0 _ rfl)
      have e1 := (hbw.cell (p := ⟨b, off + k * 8 + 1, none⟩) bl).trans (show w.cell? ⟨b, off + k * 8 + 1, none⟩ = some (.int .i64 x.cl) from hcell 1 _ rfl)
      have e2 := (hbw.cell (p := ⟨b, off + k * 8 + 2, none⟩) bl).trans (show w.cell? ⟨b, off + k * 8 + 2, none⟩ = some (.int .i64 x.no) from hcell 2 _ rfl)
      have e3 := (hbw.cell (p := ⟨b, off + k * 8 + 3, none⟩) bl).trans (show w.cell? ⟨b, off + k * 8 + 3, none⟩ = some (.string x.s) from hcell 3 _ rfl)
      have e4 := (hbw.cell (p := ⟨b, off + k * 8 + 4, none⟩) bl).trans (show w.cell? ⟨b, off + k * 8 + 4, none⟩ = some (.string x.nm) from hcell 4 _ rfl)
      have e5 := (hbw.cell (p := ⟨b, off + k * 8 + 5, none⟩) bl).trans (show w.cell? ⟨b, off + k * 8 + 5, none⟩ = some (.string x.tg) from hcell 5 _ rfl)
      have e6 := (hbw.cell (p := ⟨b, off + k * 8 + 6, none⟩) bl).trans (show w.cell? ⟨b, off + k * 8 + 6, none⟩ = some (.int .i64 x.n) from hcell 6 _ rfl)
      have e7 := (hbw.cell (p := ⟨b, off + k * 8 + 7, none⟩) bl).trans (show w.cell? ⟨b, off + k * 8 + 7, none⟩ = some (.slice A1 n1 c1) from hcell 7 _ rfl)
      clear hcell
      have hbx := bounds_el hb.2 hx
      have al := (Below.refl wr.heap.size wr).alloc (Nat.le_refl _) (.cells #[.int .i64 x.kd, .int .i64 x.cl, .int .i64 x.no, .string x.s, .string x.nm, .string x.tg, .int .i64 x.n, .slice A1 n1 c1] 47)
      have hBl := bthen hbw al
      have h1' := h1.keep hBl
      obtain ⟨q1, hq1⟩ : ∃ q, cmOkB x = q := ⟨_, rfl⟩
      have Q1 := Lib.hid hq1; clear hq1
      obtain ⟨t1, ht1⟩ : ∃ q, (x.kd == 0) = q := ⟨_, rfl⟩
      have T1 := Lib.hid ht1
      cases q1
      · skip
        go_wp2_with fail
        refine (cmdOk_impl x _ _ _ _ h1' hbx).mono ?_
        rintro e w1 ⟨rfl, hb1⟩
        have g0 : w1.cell? ⟨wr.heap.size, 0, none⟩ = some (.int .i64 x.kd) := keep_cell hb1 (by simp [go_sem])
        rw [Q1.out]
        go_wp2
        go_returns
        exact ⟨ret_bool (cmsOk_no hx (by rw [Q1.out, T1.out]; rfl)).symm, bthen hBl hb1⟩
      · cases t1
        · skip
          go_wp2_with fail
          refine (cmdOk_impl x _ _ _ _ h1' hbx).mono ?_
          rintro e w1 ⟨rfl, hb1⟩
          have g0 : w1.cell? ⟨wr.heap.size, 0, none⟩ = some (.int .i64 x.kd) := keep_cell hb1 (by simp [go_sem])
          rw [Q1.out]
          go_wp2
          exact ⟨⟨k + 1, by omega, by go_num, fun i y hi hy => by
            rcases Nat.lt_or_ge i k with h1 | h1
            · exact HA.out i y h1 hy
            · have : i = k := by omega
              subst this
              obtain rfl : y = x := Option.some.inj (hy.symm.trans hx)
              rw [Q1.out, T1.out]; rfl, bthen hBl hb1⟩, by simp [intOf]; omega⟩
        · skip
          go_wp2_with fail
          refine (cmdOk_impl x _ _ _ _ h1' hbx).mono ?_
          rintro e w1 ⟨rfl, hb1⟩
          have g0 : w1.cell? ⟨wr.heap.size, 0, none⟩ = some (.int .i64 x.kd) := keep_cell hb1 (by simp [go_sem])
          rw [Q1.out]
          go_wp2
          go_returns
          exact ⟨ret_bool (cmsOk_no hx (by rw [Q1.out, T1.out]; rfl)).symm, bthen hBl hb1⟩
    · go_wp2
      go_returns
      refine ⟨ret_bool ?_, hbw⟩
      rw [cmsOk_yes (fun i x hx => HA.out i x (by have := (List.getElem?_eq_some_iff.1 hx).1; have := HL.out; omega) hx), HL.out]
      first | rfl | (apply decide_eq_decide.2; omega)
set_option maxRecDepth 8000 in
set_option maxHeartbeats 1000000 in
theorem l34Ok_spec (l : List Cm) (A : Option Addr) (n c : Nat) (w : World) (h : RowR cmR 8 w A n c l) (hb : cmsB l) :
    Calls Try.prog 51 #[.slice A n c] w fun e w' => e = .returned (.bool (cmsOkB l)) ∧ Below w.heap.size w w' := by
  have HL := Lib.hid h.len.symm
  have hn : n ≤ 9223372036854775807 := by have h1 := HL.out; have h2 := hb.1; omega
  by_cases h10 : 10 < n
  · go_enter Try.func51, Try.ntmps51
    go_wp2
    go_returns
    exact ⟨ret_bool (by unfold cmsOkB; symm; simp only [Bool.and_eq_false_iff, decide_eq_false_iff_not]; left; have := HL.out; omega), Below.refl _ _⟩
  · go_enter Try.func51, Try.ntmps51
    go_wp2
    go_loopw [3] (fun i wr => ∃ k : Nat, k ≤ n ∧ i = .int .i64 k ∧ (∀ i x, i < k → l[i]? = some x → (cmOkB x && !(x.kd == 0)) = true) ∧ Below w.heap.size w wr) (fun i _ => n - (intOf i).toNat)
    case atStart => exact ⟨0, Nat.zero_le _, rfl, fun i x hi => absurd hi (by omega), Below.refl _ _⟩
    case round =>
      obtain ⟨k, hk, rfl, hall, hbw⟩ := hrel
      have HA := Lib.hid hall; clear hall
      by_cases hlt : k < n
      · obtain ⟨b, off, rfl⟩ := h.head (by omega)
        obtain ⟨bl, x, cs, hx, hR, hcell⟩ := h.elem_at hlt
        obtain ⟨A1, n1, c1, rfl, h1⟩ := hR
        have e0 := (hbw.cell (p := ⟨b, off + k * 8, none⟩) bl).trans (show w.cell? ⟨b, off + k * 8, none⟩ = some (.int .i64 x.kd) from hcell 0 _ rfl)
        have e1 := (hbw.cell (p := ⟨b, off + k * 8 + 1, none⟩) bl).trans (show w.cell? ⟨b, off + k * 8 + 1, none⟩ = some (.int .i64 x.cl) from hcell 1 _ rfl)
        have e2 := (hbw.cell (p := ⟨b, off + k * 8 + 2, none⟩) bl).trans (show w.cell? ⟨b, off + k * 8 + 2, none⟩ = some (.int .i64 x.no) from hcell 2 _ rfl)
        have e3 := (hbw.cell (p := ⟨b, off + k * 8 + 3, none⟩) bl).trans (show w.cell? ⟨b, off + k * 8 + 3, none⟩ = some (.string x.s) from hcell 3 _ rfl)
        have e4 := (hbw.cell (p := ⟨b, off + k * 8 + 4, none⟩) bl).trans (show w.cell? ⟨b, off + k * 8 + 4, none⟩ = some (.string x.nm) from hcell 4 _ rfl)
        have e5 := (hbw.cell (p := ⟨b, off + k * 8 + 5, none⟩) bl).trans (show w.cell? ⟨b, off + k * 8 + 5, none⟩ = some (.string x.tg) from hcell 5 _ rfl)
        have e6 := (hbw.cell (p := ⟨b, off + k * 8 + 6, none⟩) bl).trans (show w.cell? ⟨b, off + k * 8 + 6, none⟩ = some (.int .i64 x.n) from hcell 6 _ rfl)
        have e7 := (hbw.cell (p := ⟨b, off + k * 8 + 7, none⟩) bl).trans (show w.cell? ⟨b, off + k * 8 + 7, none⟩ = some (.slice A1 n1 c1) from hcell 7 _ rfl)
        clear hcell
        have hbx := bounds_el hb.2 hx
        have h1' := h1.keep hbw
        obtain ⟨q1, hq1⟩ : ∃ q, cmOkB x = q := ⟨_, rfl⟩
        have Q1 := Lib.hid hq1; clear hq1
        obtain ⟨t1, ht1⟩ : ∃ q, (x.kd == 0) = q := ⟨_, rfl⟩
        have T1 := Lib.hid ht1
        cases q1
        · skip
          go_wp2_with fail
          refine (cmdOk_spec x _ _ _ _ h1' hbx).mono ?_
          rintro e w1 ⟨rfl, hb1⟩
          have g0 := keep_cell hb1 e0
          rw [Q1.out]
          go_wp2
          go_returns
          exact ⟨ret_bool (cmsOk_no hx (by rw [Q1.out, T1.out]; rfl)).symm, bthen hbw hb1⟩
        · cases t1
          · skip
            go_wp2_with fail
            refine (cmdOk_spec x _ _ _ _ h1' hbx).mono ?_
            rintro e w1 ⟨rfl, hb1⟩
            have g0 := keep_cell hb1 e0
            rw [Q1.out]
            go_wp2
            exact ⟨⟨k + 1, by omega, by go_num, fun i y hi hy => by
              rcases Nat.lt_or_ge i k with h1 | h1
              · exact HA.out i y h1 hy
              · have : i = k := by omega
                subst this
                obtain rfl : y = x := Option.some.inj (hy.symm.trans hx)
                rw [Q1.out, T1.out]; rfl, bthen hbw hb1⟩, by simp [intOf]; omega⟩
          · skip
            go_wp2_with fail
            refine (cmdOk_spec x _ _ _ _ h1' hbx).mono ?_
            rintro e w1 ⟨rfl, hb1⟩
            have g0 := keep_cell hb1 e0
            rw [Q1.out]
            go_wp2
            go_returns
            exact ⟨ret_bool (cmsOk_no hx (by rw [Q1.out, T1.out]; rfl)).symm, bthen hbw hb1⟩
      · go_wp2
        go_returns
        refine ⟨ret_bool ?_, hbw⟩
        rw [cmsOk_yes (fun i x hx => HA.out i x (by have := (List.getElem?_eq_some_iff.1 hx).1; have := HL.out; omega) hx)]
        symm; simp only [decide_eq_true_eq]; have := HL.out; omega
end Go.Proofs.Ytdphdnllhmnelaa
/- [][]int: how it lies in memory, the laws' helpers on it. -/
namespace Go.Proofs.Ytdphdnllhmnelaa
open Go.RowKit
def intR (w : World) (cs : List Value) (x : List Int) : Prop := ∃ (A1 : Option Addr) (n1 c1 : Nat), cs = [.slice A1 n1 c1] ∧ IntR w A1 n1 c1 x
def intF (fp : List Nat) (w : World) (cs : List Value) (x : List Int) : Prop := ∃ (A1 : Option Addr) (n1 c1 : Nat), cs = [.slice A1 n1 c1] ∧ IntO fp w A1 n1 c1 x
theorem intK : KindOk intR intF 1 where
  rlen := fun h => by obtain ⟨A1, n1, c1, rfl, h1⟩ := h; rfl
  rkeep := fun h hb => by obtain ⟨A1, n1, c1, rfl, h1⟩ := h; exact ⟨A1, n1, c1, rfl, h1.keep hb⟩
  flt := fun h b hb => by obtain ⟨A1, n1, c1, rfl, h1⟩ := h; exact h1.lt b hb
  fch := fun h hc hS => by obtain ⟨A1, n1, c1, rfl, h1⟩ := h; exact ⟨A1, n1, c1, rfl, h1.ch hc hS⟩
  fr := fun h => by obtain ⟨A1, n1, c1, rfl, h1⟩ := h; exact ⟨A1, n1, c1, rfl, h1.at_⟩
  one := fun h v hv => by
    obtain ⟨A1, n1, c1, rfl, h1⟩ := h
    simp only [List.mem_cons, List.not_mem_nil, or_false] at hv
    subst hv; rfl
def intssB (l : List (List Int)) : Prop := l.length ≤ 9223372036854775807 ∧ ∀ y ∈ l, intB y
def intssSz (l : List (List Int)) : Nat := l.length + (l.map intsSz).sum
theorem intss_el {l : List (List Int)} {i : Nat} {x : List Int} (hx : l[i]? = some x) : intsSz x ≤ intssSz l := by have := (sum_el intsSz hx).1; unfold intssSz; omega
def intssCnt (l : List (List Int)) : Nat := (l.map intsCnt).sum
def intssMk (k : Int) : List (List Int) → List (List Int)
  | [] => []
  | x :: l => intsMk k x :: intssMk (k + (intsCnt x : Nat)) l
attribute [local irreducible] StrR IntR StrO IntO RowR RowO StrsAt IntsAt
theorem infoIntS : (Try.prog.info? 78).map (fun i => (i.zero, i.size, i.bytes)) = some (some (.slice none 0 0), 1, 24) := by kernel_rfl
end Go.Proofs.Ytdphdnllhmnelaa
/- Plain laws of batches. -/
namespace Go.Proofs.Ytdphdnllhmnelaa
theorem sameBA_symm (x y : Cm) : clashB x y = clashB y x := by
  unfold clashB
  have h1 : decide (x.s = y.s) = decide (y.s = x.s) := decide_eq_decide.2 ⟨Eq.symm, Eq.symm⟩
  rw [h1]
  cases cmOkB x <;> cases cmOkB y <;> cases (x.kd == 0) <;> cases (y.kd == 0) <;> cases (x.kd == 7) <;> cases (y.kd == 7) <;> simp
attribute [local irreducible] clashB
/-- the level of command i behind its first k neighbours of levels f -/
def lvTo (l : List Cm) (f : Nat → Nat) (i : Nat) : Nat → Nat
  | 0 => 0
  | k + 1 => if clashB (cmAt l k) (cmAt l i) = true then max (lvTo l f i k) (f k + 1) else lvTo l f i k
def lvs (l : List Cm) : Nat → List Nat
  | 0 => []
  | i + 1 => lvs l i ++ [lvTo l (fun k => (lvs l i).getD k 0) i i]
theorem lvs_len (l : List Cm) : ∀ i, (lvs l i).length = i
  | 0 => rfl
  | i + 1 => by simp [lvs, lvs_len l i]
def lv (l : List Cm) (i : Nat) : Nat := (lvs l (i + 1)).getD i 0
theorem lvs_get (l : List Cm) (k : Nat) : ∀ i, k < i → (lvs l i).getD k 0 = lv l k
  | 0, h => by omega
  | i + 1, h => by
    rcases Nat.lt_or_ge k i with h1 | h1
    · rw [← lvs_get l k i h1, lvs]
      have := lvs_len l i
      rw [List.getD_eq_getElem?_getD, List.getD_eq_getElem?_getD, List.getElem?_append_left (by omega)]
    · have : k = i := by omega
      subst this; rfl
theorem lvTo_congr (l : List Cm) {f g : Nat → Nat} (i : Nat) : ∀ k, (∀ j, j < k → f j = g j) → lvTo l f i k = lvTo l g i k
  | 0, _ => rfl
  | k + 1, h => by
    simp only [lvTo, lvTo_congr l i k (fun j hj => h j (by omega)), h k (by omega)]
theorem lv_eq (l : List Cm) (i : Nat) : lv l i = lvTo l (lv l) i i := by
  have h : lv l i = lvTo l (fun k => (lvs l i).getD k 0) i i := by
    unfold lv
    rw [lvs, List.getD_eq_getElem?_getD, List.getElem?_append_right (by rw [lvs_len]; omega), lvs_len]
    simp
  rw [h]
  exact lvTo_congr l i i (fun j hj => lvs_get l j i hj)
/-- how many levels the first i have -/
def mxL (l : List Cm) : Nat → Nat
  | 0 => 0
  | i + 1 => max (mxL l i) (lv l i + 1)
theorem mxL_zero (l : List Cm) : mxL l 0 = 0 := rfl
theorem mxL_succ (l : List Cm) (i : Nat) : mxL l (i + 1) = max (mxL l i) (lv l i + 1) := rfl
theorem mxL_mono (l : List Cm) : ∀ {i j : Nat}, i ≤ j → mxL l i ≤ mxL l j
  | i, 0, h => by have : i = 0 := by omega
                  subst this; exact Nat.le_refl _
  | i, j + 1, h => by
    rcases Nat.lt_or_ge j i with h1 | h1
    · have : i = j + 1 := by omega
      subst this; exact Nat.le_refl _
    · exact Nat.le_trans (mxL_mono l h1) (by simp only [mxL]; omega)
theorem lvTo_le (l : List Cm) (i : Nat) : ∀ k, lvTo l (lv l) i k ≤ mxL l k
  | 0 => Nat.le_refl _
  | k + 1 => by
    have := lvTo_le l i k
    simp only [lvTo, mxL]
    split <;> omega
theorem lv_le (l : List Cm) (i : Nat) : lv l i ≤ mxL l i := by rw [lv_eq]; exact lvTo_le l i i
theorem lv_lt (l : List Cm) {i j : Nat} (h : j < i) : lv l j < mxL l i := by
  have h1 : mxL l (j + 1) ≤ mxL l i := mxL_mono l h
  simp only [mxL] at h1
  omega
theorem mxL_le (l : List Cm) : ∀ i, mxL l i ≤ i
  | 0 => Nat.le_refl _
  | i + 1 => by
    have h1 := mxL_le l i
    have h2 := lv_le l i
    simp only [mxL]; omega
/-- the numbers of level b among the first i -/
def rowOf (l : List Cm) (i b : Nat) : List Int := ((List.range i).filter (fun j => lv l j == b)).map (fun j : Nat => (j : Int))
def rowsOf (l : List Cm) (i : Nat) : List (List Int) := (List.range (mxL l i)).map (rowOf l i)
theorem rowOf_succ (l : List Cm) (i b : Nat) : rowOf l (i + 1) b = rowOf l i b ++ (if lv l i == b then [(i : Int)] else []) := by
  unfold rowOf
  rw [List.range_succ, List.filter_append, List.map_append]
  congr 1
  cases h : lv l i == b <;> simp [h]
theorem rowOf_top (l : List Cm) (i : Nat) : rowOf l i (mxL l i) = [] := by
  unfold rowOf
  rw [List.map_eq_nil_iff, List.filter_eq_nil_iff]
  intro j hj
  have := lv_lt l (List.mem_range.1 hj)
  simp; omega
theorem rowsOf_len (l : List Cm) (i : Nat) : (rowsOf l i).length = mxL l i := by simp [rowsOf]
theorem rowsOf_at (l : List Cm) (i b : Nat) (h : b < mxL l i) : (rowsOf l i)[b]? = some (rowOf l i b) := by simp [rowsOf, h]
/-- the rows with a new empty one where one is wanted -/
def rowsE (l : List Cm) (i : Nat) : List (List Int) := if lv l i = mxL l i then rowsOf l i ++ [[]] else rowsOf l i
theorem rowsE_at (l : List Cm) (i : Nat) : (rowsE l i)[lv l i]? = some (rowOf l i (lv l i)) := by
  unfold rowsE
  have h := lv_le l i
  split
  · rename_i e
    rw [List.getElem?_append_right (by rw [rowsOf_len]; omega), rowsOf_len, e, Nat.sub_self, rowOf_top]; rfl
  · exact rowsOf_at l i _ (by omega)
theorem rowsOf_succ (l : List Cm) (i : Nat) : rowsOf l (i + 1) = (rowsE l i).set (lv l i) (rowOf l i (lv l i) ++ [(i : Int)]) := by
  have h := lv_le l i
  have hE : (rowsE l i).length = mxL l (i + 1) := by
    unfold rowsE; simp only [mxL]
    split
    · rw [List.length_append, rowsOf_len]; simp only [List.length_cons, List.length_nil]; omega
    · rw [rowsOf_len]; omega
  apply List.ext_getElem?
  intro b
  rcases Nat.lt_or_ge b (mxL l (i + 1)) with hb | hb
  · rw [rowsOf_at l (i + 1) b hb, rowOf_succ, List.getElem?_set]
    by_cases e : lv l i = b
    · subst e; simp [hE, hb]
    · rw [if_neg e]
      have e2 : (lv l i == b) = false := by simpa using e
      rw [e2]
      simp only [Bool.false_eq_true, if_false, List.append_nil]
      have hb2 : b < mxL l i := by simp only [mxL] at hb; omega
      unfold rowsE
      split
      · rw [List.getElem?_append_left (by rw [rowsOf_len]; exact hb2), rowsOf_at l i b hb2]
      · rw [rowsOf_at l i b hb2]
  · rw [List.getElem?_eq_none (by rw [rowsOf_len]; exact hb), List.getElem?_eq_none (by rw [List.length_set, hE]; exact hb)]
/-- the batches of commands -/
def batchL (l : List Cm) : List (List Int) := if cmsOkB l = true then rowsOf l l.length else []
theorem rowOf_len (l : List Cm) (i b : Nat) : (rowOf l i b).length ≤ i := by
  unfold rowOf
  rw [List.length_map]
  have := List.length_filter_le (fun j => lv l j == b) (List.range i)
  rwa [List.length_range] at this
theorem cmsOk_len {l : List Cm} (h : cmsOkB l = true) : l.length ≤ 10 := by
  unfold cmsOkB at h
  simp only [Bool.and_eq_true, decide_eq_true_eq] at h
  exact h.1
/-- the levels of the first i -/
def lvI (l : List Cm) (i : Nat) : List Int := (List.range i).map (fun j : Nat => ((lv l j : Nat) : Int))
theorem lvI_succ (l : List Cm) (i : Nat) : lvI l (i + 1) = lvI l i ++ [((lv l i : Nat) : Int)] := by unfold lvI; rw [List.range_succ, List.map_append]; rfl
theorem lvI_at (l : List Cm) (i k : Nat) (h : k < i) : iAt (lvI l i) k = ((lv l k : Nat) : Int) := by simp [iAt, lvI, h]
theorem rowsE_len (l : List Cm) (i : Nat) : (rowsE l i).length = mxL l (i + 1) := by
  have h := lv_le l i
  unfold rowsE
  rw [mxL_succ]
  split
  · rw [List.length_append, rowsOf_len]; simp only [List.length_cons, List.length_nil]; omega
  · rw [rowsOf_len]; omega
end Go.Proofs.Ytdphdnllhmnelaa
/- Rows that are owned: appending an element, changing an element. -/
namespace Go.Proofs.Ytdphdnllhmnelaa
open Go.RowKit
/-- the walk stands still here -/
def Stop (p : Prop) : Prop := p
theorem stop_of {p : Prop} (h : Stop p) : p := h
theorem IntO.mk' {w : World} {A : Option Addr} {n c : Nat} {l : List Int} (h : w.ownsRow 0 3 1 (.slice A n c) n (l.map (Value.int .i64))) : IntO (blkL A) w A n c l := ⟨rfl, h⟩
theorem IntO.own {fp : List Nat} {w : World} {A : Option Addr} {n c : Nat} {l : List Int} (h : IntO fp w A n c l) : fp = blkL A ∧ w.ownsRow 0 3 1 (.slice A n c) n (l.map (Value.int .i64)) := h
theorem IntR.at_r {w : World} {A : Option Addr} {n c : Nat} {l : List Int} (h : IntR w A n c l) : IntsAt w A n l := h.1
theorem StrO.mk' {w : World} {A : Option Addr} {n c : Nat} {l : List ByteArray} (h : w.ownsRow 0 9 1 (.slice A n c) n (l.map Value.string)) : StrO (blkL A) w A n c l := ⟨rfl, h⟩
theorem StrO.own {fp : List Nat} {w : World} {A : Option Addr} {n c : Nat} {l : List ByteArray} (h : StrO fp w A n c l) : fp = blkL A ∧ w.ownsRow 0 9 1 (.slice A n c) n (l.map Value.string) := h
section
variable {α : Type} {R : World → List Value → α → Prop} {F : List Nat → World → List Value → α → Prop} {e sz n c c' m : Nat} {w w' : World} {fps : List (List Nat)} {css : List (List Value)} {A A' : Option Addr} {l : List α} {cs : List Value} {f : List Nat} {x : α}
/-- one element more behind an append -/
theorem app_els (K : KindOk R F sz) (hE : Els F w css fps l) (hx : F f w cs x) (hN : (blkL A ++ (fps ++ [f]).flatten).Nodup) (hg : w.grownBy w' (Value.slice A n c).ownBlock)
    (hob : (Value.slice A' (n + 1) c').ownBlock = (Value.slice A n c).ownBlock ∨ (Value.slice A' (n + 1) c').ownBlock = some m) (hm : w.heap.size ≤ m) :
    Els F w' (css ++ [cs]) (fps ++ [f]) (l ++ [x]) ∧ (blkL A' ++ (fps ++ [f]).flatten).Nodup ∧ ∀ b ∈ blkL A', b ∈ blkL A ∨ b = m := by
  have hE2 := hE.app (Els.one hx)
  have hN2 := List.nodup_append.1 hN
  have hblk : ∀ b ∈ blkL A', b ∈ blkL A ∨ b = m := fun b hb => by
    have h1 := blk_own (n := n + 1) (c := c') (mem_blkL.1 hb)
    rcases hob with h2 | h2
    · exact .inl (mem_blkL.2 (blk_of (h2.symm.trans h1)))
    · exact .inr (Option.some.inj (h1.symm.trans h2))
  refine ⟨hE2.ch K (Ch.of_grow hg) (fun b hb e => hN2.2.2 b (mem_blkL.2 (blk_of e)) b hb rfl), ?_, hblk⟩
  refine List.nodup_append.2 ⟨by cases A' <;> simp [blkL], hN2.2.1, fun a ha b hb e => ?_⟩
  subst e
  rcases hblk a ha with h1 | h1
  · exact hN2.2.2 a h1 a hb rfl
  · have := hE2.lt K a hb; omega
/-- an element and what it leads to are changed -/
theorem upd_els {c1 c2 : List (List Value)} {f1 f2 : List (List Nat)} {l1 l2 : List α} {g : Nat} {cs' : List Value} {f' : List Nat} {x' : α} {w7 w8 : World} (K : KindOk R F sz)
    (ho : w.ownsRow 0 e sz (.slice (some ⟨g, 0, none⟩) n c) n (c1.flatten ++ (cs ++ c2.flatten))) (hE1 : Els F w c1 f1 l1) (hE2 : Els F w c2 f2 l2) (hcs : cs.length = sz) (hn : n = l1.length + 1 + l2.length)
    (hN : (g :: (f1.flatten ++ (f ++ f2.flatten))).Nodup) (hC : Ch (fun b => b ∈ f) w w7) (hx : F f' w7 cs' x') (hf' : ∀ b ∈ f', b ∈ f ∨ w.heap.size ≤ b) (hf'N : f'.Nodup) (hw8 : w8 = setsW w7 g (l1.length * sz) cs') :
    RowO F e sz (blkL (some ⟨g, 0, none⟩) ++ (f1 ++ f' :: f2).flatten) w8 (some ⟨g, 0, none⟩) n c (l1 ++ x' :: l2) ∧ (g :: (f1.flatten ++ (f' ++ f2.flatten))).Nodup ∧ Ch (fun b => b = g ∨ b ∈ f) w w8 := by
  have hgw : g < w.heap.size := (own_lo ho g (by simp [blkL])).2
  have lt1 := hE1.lt K
  have lt2 := hE2.lt K
  simp only [List.nodup_cons, List.nodup_append, List.mem_append, not_or] at hN
  have hgf : ¬ g ∈ f := by grind
  have d1 : ∀ b ∈ f1.flatten, ¬ b ∈ f := fun b h1 h2 => by grind
  have d2 : ∀ b ∈ f2.flatten, ¬ b ∈ f := fun b h1 h2 => by grind
  have e1 : ∀ b ∈ f1.flatten, ¬ b = g := fun b h1 h2 => by subst h2; grind
  have e2 : ∀ b ∈ f2.flatten, ¬ b = g := fun b h1 h2 => by subst h2; grind
  have e3 : ∀ b ∈ f', ¬ b = g := fun b h1 h2 => by
    subst h2
    rcases hf' b h1 with h | h
    · exact hgf h
    · omega
  have hC8 : Ch (fun b => b = g) w7 w8 := by rw [hw8]; exact ch_setsW _ _ _
  have o7 := own_ch ho hC (fun b hb h2 => hgf (by
    have : b = g := by simpa [Value.ownBlock, eq_comm] using hb
    rw [← this]; exact h2))
  have o8 := own_setsW cs' (l1.length * sz) w7 _ o7
  rw [setsL_at (hE1.flat K) (by rw [hcs, K.rlen (K.fr hx)]), ← hw8] at o8
  have E1 := (hE1.ch K hC d1).ch K hC8 e1
  have E2 := (hE2.ch K hC d2).ch K hC8 e2
  have X := K.fch hx hC8 e3
  refine ⟨RowO.intro (css := c1 ++ cs' :: c2) (by simpa using o8) (by simp; omega) (E1.app ⟨X, E2⟩), ?_, (hC.mono (fun b hb => .inr hb)).trans (hC8.mono (fun b hb => .inl hb))⟩
  simp only [List.nodup_cons, List.nodup_append, List.mem_append, not_or]
  refine ⟨⟨by grind, fun h => e3 g h rfl, by grind⟩, by grind, ⟨hf'N, by grind, fun a ha b hb hab => ?_⟩, fun a ha b hb hab => ?_⟩
  · subst hab
    rcases hf' a ha with h | h
    · exact d2 a hb h
    · have := lt2 a hb; omega
  · subst hab
    rcases hb with hb | hb
    · rcases hf' a hb with h | h
      · exact d1 a ha h
      · have := lt1 a ha; omega
    · grind
end
end Go.Proofs.Ytdphdnllhmnelaa
