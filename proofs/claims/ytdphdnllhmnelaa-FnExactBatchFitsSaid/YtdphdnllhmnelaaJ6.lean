/- Contracts and lemmas: Clash, BatchL, HasI, FitL, FitI, Dag, DagB, Grow. -/
import Derived.Test.YtdphdnllhmnelaaJ4
import Derived.Test.YtdphdnllhmnelaaJ5
import Derived.Test.YtdphdnllhmnelaaJ2
import Derived.Test.YtdphdnllhmnelaaJ1
import Derived.Test.YtdphdnllhmnelaaJ3
import Derived.Test.YtdphdnllhmnelaaJ0
import Derived.OrdersHeld
import Derived.Deep.RegionHeld3
import Derived.Deep.Quiet
import Derived.BigQuiet
import Derived.Deep.QuietTactic
/- Contracts of Clash, areCmds and l34Ok. -/
namespace Go.Proofs.Ytdphdnllhmnelaa
open Go.RowKit
def clashB (x y : Cm) : Bool := cmOkB x && cmOkB y && !(x.kd == 0) && !(y.kd == 0) && ((x.kd == 7) || (y.kd == 7) || decide (x.s = y.s))
attribute [local irreducible] StrsAt cmOkB

set_option maxRecDepth 8000 in
set_option maxHeartbeats 1000000 in
theorem clash_impl (x y : Cm) (A1 : Option Addr) (n1 c1 : Nat) (A2 : Option Addr) (n2 c2 : Nat) (w : World) (h1 : StrR w A1 n1 c1 x.ch) (h2 : StrR w A2 n2 c2 y.ch) (hx : cmB x) (hy : cmB y) :
    Calls Try.prog 55 #[cmV x (.slice A1 n1 c1), cmV y (.slice A2 n2 c2)] w fun e w' => e = .returned (.bool (clashB x y)) ∧ Below w.heap.size w w' := by
  obtain ⟨q1, hq1⟩ : ∃ q, cmOkB x = q := ⟨_, rfl⟩
  have Q1 := Lib.hid hq1; clear hq1
  obtain ⟨q2, hq2⟩ : ∃ q, cmOkB y = q := ⟨_, rfl⟩
  have Q2 := Lib.hid hq2; clear hq2
  have HV := Lib.hid (show clashB x y = (q1 && q2 && !(x.kd == 0) && !(y.kd == 0) && ((x.kd == 7) || (y.kd == 7) || decide (x.s = y.s))) by unfold clashB; rw [Q1.out, Q2.out])
  have HS := Lib.hid (sbeq x.s y.s)
  cases q1
  · skip
    unfold cmV
    go_enter Try.func55, Try.ntmps55
    go_wp2_with fail
    refine (cmdOk_impl x _ _ _ _ (h1.keep (by go_grown)) hx).mono ?_
    rintro e w1 ⟨rfl, hb1⟩
    obtain ⟨hc_w1, hf_w1⟩ := bcell hb1
    have hz_w1 := hb1.size
    try simp at hz_w1
    have hB_w1 : Below w.heap.size w w1 := bthen (by go_grown) hb1
    have hz_w1_0 : w.heap.size < w1.heap.size := by omega
    have hz_w1_1 : w.heap.size + 1 < w1.heap.size := by omega
    rw [Q1.out]
    go_wp2
    go_returns
    exact ⟨ret_bool (by rw [HV.out]; simp), hB_w1⟩
  · cases q2
    · skip
      unfold cmV
      go_enter Try.func55, Try.ntmps55
      go_wp2_with fail
      refine (cmdOk_impl x _ _ _ _ (h1.keep (by go_grown)) hx).mono ?_
      rintro e w1 ⟨rfl, hb1⟩
      obtain ⟨hc_w1, hf_w1⟩ := bcell hb1
      have hz_w1 := hb1.size
      try simp at hz_w1
      have hB_w1 : Below w.heap.size w w1 := bthen (by go_grown) hb1
      have hz_w1_0 : w.heap.size < w1.heap.size := by omega
      have hz_w1_1 : w.heap.size + 1 < w1.heap.size := by omega
      rw [Q1.out]
      go_wp2_with fail
      refine (cmdOk_impl y _ _ _ _ (h2.keep hB_w1) hy).mono ?_
      rintro e w2 ⟨rfl, hb2⟩
      obtain ⟨hc_w2, hf_w2⟩ := bcell hb2
      have hz_w2 := hb2.size
      try simp at hz_w2
      have hB_w2 : Below w.heap.size w w2 := bthen hB_w1 hb2
      have hz_w2_0 : w.heap.size < w2.heap.size := by omega
      have hz_w2_1 : w.heap.size + 1 < w2.heap.size := by omega
      rw [Q2.out]
      go_wp2
      go_returns
      exact ⟨ret_bool (by rw [HV.out]; simp), hB_w2⟩
    · skip
      obtain ⟨t0, ht0⟩ : ∃ q, (x.kd == 0) = q := ⟨_, rfl⟩
      cases t0
      · skip
        obtain ⟨t1, ht1⟩ : ∃ q, (y.kd == 0) = q := ⟨_, rfl⟩
        cases t1
        · skip
          obtain ⟨t2, ht2⟩ : ∃ q, (x.kd == 7) = q := ⟨_, rfl⟩
          cases t2
          · skip
            obtain ⟨t3, ht3⟩ : ∃ q, (y.kd == 7) = q := ⟨_, rfl⟩
            cases t3
            · skip
              obtain ⟨t4, ht4⟩ : ∃ q, (x.s.toList == y.s.toList) = q := ⟨_, rfl⟩
              have T0 := Lib.hid ht0
              have T1 := Lib.hid ht1
              have T2 := Lib.hid ht2
              have T3 := Lib.hid ht3
              have T4 := Lib.hid ht4
              cases t4
              · skip
                unfold cmV
                go_enter Try.func55, Try.ntmps55
                go_wp2_with fail
                refine (cmdOk_impl x _ _ _ _ (h1.keep (by go_grown)) hx).mono ?_
                rintro e w1 ⟨rfl, hb1⟩
                obtain ⟨hc_w1, hf_w1⟩ := bcell hb1
                have hz_w1 := hb1.size
                try simp at hz_w1
                have hB_w1 : Below w.heap.size w w1 := bthen (by go_grown) hb1
                have hz_w1_0 : w.heap.size < w1.heap.size := by omega
                have hz_w1_1 : w.heap.size + 1 < w1.heap.size := by omega
                rw [Q1.out]
                go_wp2_with fail
                refine (cmdOk_impl y _ _ _ _ (h2.keep hB_w1) hy).mono ?_
                rintro e w2 ⟨rfl, hb2⟩
                obtain ⟨hc_w2, hf_w2⟩ := bcell hb2
                have hz_w2 := hb2.size
                try simp at hz_w2
                have hB_w2 : Below w.heap.size w w2 := bthen hB_w1 hb2
                have hz_w2_0 : w.heap.size < w2.heap.size := by omega
                have hz_w2_1 : w.heap.size + 1 < w2.heap.size := by omega
                rw [Q2.out]
                go_wp2
                go_returns
                exact ⟨ret_bool (by rw [HV.out]; rw [T0.out, T1.out, T2.out, T3.out, ← HS.out, T4.out]; rfl), hB_w2⟩
              · skip
                unfold cmV
                go_enter Try.func55, Try.ntmps55
                go_wp2_with fail
                refine (cmdOk_impl x _ _ _ _ (h1.keep (by go_grown)) hx).mono ?_
                rintro e w1 ⟨rfl, hb1⟩
                obtain ⟨hc_w1, hf_w1⟩ := bcell hb1
                have hz_w1 := hb1.size
                try simp at hz_w1
                have hB_w1 : Below w.heap.size w w1 := bthen (by go_grown) hb1
                have hz_w1_0 : w.heap.size < w1.heap.size := by omega
                have hz_w1_1 : w.heap.size + 1 < w1.heap.size := by omega
                rw [Q1.out]
                go_wp2_with fail
                refine (cmdOk_impl y _ _ _ _ (h2.keep hB_w1) hy).mono ?_
                rintro e w2 ⟨rfl, hb2⟩
                obtain ⟨hc_w2, hf_w2⟩ := bcell hb2
                have hz_w2 := hb2.size
                try simp at hz_w2
                have hB_w2 : Below w.heap.size w w2 := bthen hB_w1 hb2
                have hz_w2_0 : w.heap.size < w2.heap.size := by omega
                have hz_w2_1 : w.heap.size + 1 < w2.heap.size := by omega
                rw [Q2.out]
                go_wp2
                go_returns
                exact ⟨ret_bool (by rw [HV.out]; rw [T0.out, T1.out, T2.out, T3.out, ← HS.out, T4.out]; rfl), hB_w2⟩
            · have T3 := Lib.hid ht3
              have T0 := Lib.hid ht0
              have T1 := Lib.hid ht1
              unfold cmV
              go_enter Try.func55, Try.ntmps55
              go_wp2_with fail
              refine (cmdOk_impl x _ _ _ _ (h1.keep (by go_grown)) hx).mono ?_
              rintro e w1 ⟨rfl, hb1⟩
              obtain ⟨hc_w1, hf_w1⟩ := bcell hb1
              have hz_w1 := hb1.size
              try simp at hz_w1
              have hB_w1 : Below w.heap.size w w1 := bthen (by go_grown) hb1
              have hz_w1_0 : w.heap.size < w1.heap.size := by omega
              have hz_w1_1 : w.heap.size + 1 < w1.heap.size := by omega
              rw [Q1.out]
              go_wp2_with fail
              refine (cmdOk_impl y _ _ _ _ (h2.keep hB_w1) hy).mono ?_
              rintro e w2 ⟨rfl, hb2⟩
              obtain ⟨hc_w2, hf_w2⟩ := bcell hb2
              have hz_w2 := hb2.size
              try simp at hz_w2
              have hB_w2 : Below w.heap.size w w2 := bthen hB_w1 hb2
              have hz_w2_0 : w.heap.size < w2.heap.size := by omega
              have hz_w2_1 : w.heap.size + 1 < w2.heap.size := by omega
              rw [Q2.out]
              go_wp2
              go_returns
              exact ⟨ret_bool (by rw [HV.out]; rw [T0.out, T1.out, T3.out]; simp), hB_w2⟩
          · have T2 := Lib.hid ht2
            have T0 := Lib.hid ht0
            have T1 := Lib.hid ht1
            unfold cmV
            go_enter Try.func55, Try.ntmps55
            go_wp2_with fail
            refine (cmdOk_impl x _ _ _ _ (h1.keep (by go_grown)) hx).mono ?_
            rintro e w1 ⟨rfl, hb1⟩
            obtain ⟨hc_w1, hf_w1⟩ := bcell hb1
            have hz_w1 := hb1.size
            try simp at hz_w1
            have hB_w1 : Below w.heap.size w w1 := bthen (by go_grown) hb1
            have hz_w1_0 : w.heap.size < w1.heap.size := by omega
            have hz_w1_1 : w.heap.size + 1 < w1.heap.size := by omega
            rw [Q1.out]
            go_wp2_with fail
            refine (cmdOk_impl y _ _ _ _ (h2.keep hB_w1) hy).mono ?_
            rintro e w2 ⟨rfl, hb2⟩
            obtain ⟨hc_w2, hf_w2⟩ := bcell hb2
            have hz_w2 := hb2.size
            try simp at hz_w2
            have hB_w2 : Below w.heap.size w w2 := bthen hB_w1 hb2
            have hz_w2_0 : w.heap.size < w2.heap.size := by omega
            have hz_w2_1 : w.heap.size + 1 < w2.heap.size := by omega
            rw [Q2.out]
            go_wp2
            go_returns
            exact ⟨ret_bool (by rw [HV.out]; rw [T0.out, T1.out, T2.out]; simp), hB_w2⟩
        · have T1 := Lib.hid ht1
          unfold cmV
          go_enter Try.func55, Try.ntmps55
          go_wp2_with fail
          refine (cmdOk_impl x _ _ _ _ (h1.keep (by go_grown)) hx).mono ?_
          rintro e w1 ⟨rfl, hb1⟩
          obtain ⟨hc_w1, hf_w1⟩ := bcell hb1
          have hz_w1 := hb1.size
          try simp at hz_w1
          have hB_w1 : Below w.heap.size w w1 := bthen (by go_grown) hb1
          have hz_w1_0 : w.heap.size < w1.heap.size := by omega
          have hz_w1_1 : w.heap.size + 1 < w1.heap.size := by omega
          rw [Q1.out]
          go_wp2_with fail
          refine (cmdOk_impl y _ _ _ _ (h2.keep hB_w1) hy).mono ?_
          rintro e w2 ⟨rfl, hb2⟩
          obtain ⟨hc_w2, hf_w2⟩ := bcell hb2
          have hz_w2 := hb2.size
          try simp at hz_w2
          have hB_w2 : Below w.heap.size w w2 := bthen hB_w1 hb2
          have hz_w2_0 : w.heap.size < w2.heap.size := by omega
          have hz_w2_1 : w.heap.size + 1 < w2.heap.size := by omega
          rw [Q2.out]
          go_wp2
          go_returns
          exact ⟨ret_bool (by rw [HV.out]; rw [T1.out]; simp), hB_w2⟩
      · have T0 := Lib.hid ht0
        unfold cmV
        go_enter Try.func55, Try.ntmps55
        go_wp2_with fail
        refine (cmdOk_impl x _ _ _ _ (h1.keep (by go_grown)) hx).mono ?_
        rintro e w1 ⟨rfl, hb1⟩
        obtain ⟨hc_w1, hf_w1⟩ := bcell hb1
        have hz_w1 := hb1.size
        try simp at hz_w1
        have hB_w1 : Below w.heap.size w w1 := bthen (by go_grown) hb1
        have hz_w1_0 : w.heap.size < w1.heap.size := by omega
        have hz_w1_1 : w.heap.size + 1 < w1.heap.size := by omega
        rw [Q1.out]
        go_wp2_with fail
        refine (cmdOk_impl y _ _ _ _ (h2.keep hB_w1) hy).mono ?_
        rintro e w2 ⟨rfl, hb2⟩
        obtain ⟨hc_w2, hf_w2⟩ := bcell hb2
        have hz_w2 := hb2.size
        try simp at hz_w2
        have hB_w2 : Below w.heap.size w w2 := bthen hB_w1 hb2
        have hz_w2_0 : w.heap.size < w2.heap.size := by omega
        have hz_w2_1 : w.heap.size + 1 < w2.heap.size := by omega
        rw [Q2.out]
        go_wp2
        go_returns
        exact ⟨ret_bool (by rw [HV.out]; rw [T0.out]; simp), hB_w2⟩
set_option maxRecDepth 8000 in
set_option maxHeartbeats 1000000 in
theorem clash_spec (x y : Cm) (A1 : Option Addr) (n1 c1 : Nat) (A2 : Option Addr) (n2 c2 : Nat) (w : World) (h1 : StrR w A1 n1 c1 x.ch) (h2 : StrR w A2 n2 c2 y.ch) (hx : cmB x) (hy : cmB y) :
    Calls Try.prog 52 #[cmV x (.slice A1 n1 c1), cmV y (.slice A2 n2 c2)] w fun e w' => e = .returned (.bool (clashB x y)) ∧ Below w.heap.size w w' := by
  obtain ⟨q1, hq1⟩ : ∃ q, cmOkB x = q := ⟨_, rfl⟩
  have Q1 := Lib.hid hq1; clear hq1
  obtain ⟨q2, hq2⟩ : ∃ q, cmOkB y = q := ⟨_, rfl⟩
  have Q2 := Lib.hid hq2; clear hq2
  have HV := Lib.hid (show clashB x y = (q1 && q2 && !(x.kd == 0) && !(y.kd == 0) && ((x.kd == 7) || (y.kd == 7) || decide (x.s = y.s))) by unfold clashB; rw [Q1.out, Q2.out])
  have HS := Lib.hid (sbeq x.s y.s)
  cases q1
  · skip
    unfold cmV
    go_enter Try.func52, Try.ntmps52
    go_wp2_with fail
    refine (cmdOk_spec x _ _ _ _ (h1.keep (by go_grown)) hx).mono ?_
    rintro e w1 ⟨rfl, hb1⟩
    obtain ⟨hc_w1, hf_w1⟩ := bcell hb1
    have hz_w1 := hb1.size
    try simp at hz_w1
    have hB_w1 : Below w.heap.size w w1 := bthen (by go_grown) hb1
    have hz_w1_0 : w.heap.size < w1.heap.size := by omega
    have hz_w1_1 : w.heap.size + 1 < w1.heap.size := by omega
    rw [Q1.out]
    go_wp2
    go_returns
    exact ⟨ret_bool (by rw [HV.out]; simp), hB_w1⟩
  · cases q2
    · skip
      unfold cmV
      go_enter Try.func52, Try.ntmps52
      go_wp2_with fail
      refine (cmdOk_spec x _ _ _ _ (h1.keep (by go_grown)) hx).mono ?_
      rintro e w1 ⟨rfl, hb1⟩
      obtain ⟨hc_w1, hf_w1⟩ := bcell hb1
      have hz_w1 := hb1.size
      try simp at hz_w1
      have hB_w1 : Below w.heap.size w w1 := bthen (by go_grown) hb1
      have hz_w1_0 : w.heap.size < w1.heap.size := by omega
      have hz_w1_1 : w.heap.size + 1 < w1.heap.size := by omega
      rw [Q1.out]
      go_wp2_with fail
      refine (cmdOk_spec y _ _ _ _ (h2.keep hB_w1) hy).mono ?_
      rintro e w2 ⟨rfl, hb2⟩
      obtain ⟨hc_w2, hf_w2⟩ := bcell hb2
      have hz_w2 := hb2.size
      try simp at hz_w2
      have hB_w2 : Below w.heap.size w w2 := bthen hB_w1 hb2
      have hz_w2_0 : w.heap.size < w2.heap.size := by omega
      have hz_w2_1 : w.heap.size + 1 < w2.heap.size := by omega
      rw [Q2.out]
      go_wp2
      go_returns
      exact ⟨ret_bool (by rw [HV.out]; simp), hB_w2⟩
    · skip
      obtain ⟨t0, ht0⟩ : ∃ q, (x.kd == 0) = q := ⟨_, rfl⟩
      cases t0
      · skip
        obtain ⟨t1, ht1⟩ : ∃ q, (y.kd == 0) = q := ⟨_, rfl⟩
        cases t1
        · skip
          obtain ⟨t2, ht2⟩ : ∃ q, (x.kd == 7) = q := ⟨_, rfl⟩
          cases t2
          · skip
            obtain ⟨t3, ht3⟩ : ∃ q, (y.kd == 7) = q := ⟨_, rfl⟩
            cases t3
            · skip
              obtain ⟨t4, ht4⟩ : ∃ q, (x.s.toList == y.s.toList) = q := ⟨_, rfl⟩
              have T0 := Lib.hid ht0
              have T1 := Lib.hid ht1
              have T2 := Lib.hid ht2
              have T3 := Lib.hid ht3
              have T4 := Lib.hid ht4
              cases t4
              · skip
                unfold cmV
                go_enter Try.func52, Try.ntmps52
                go_wp2_with fail
                refine (cmdOk_spec x _ _ _ _ (h1.keep (by go_grown)) hx).mono ?_
                rintro e w1 ⟨rfl, hb1⟩
                obtain ⟨hc_w1, hf_w1⟩ := bcell hb1
                have hz_w1 := hb1.size
                try simp at hz_w1
                have hB_w1 : Below w.heap.size w w1 := bthen (by go_grown) hb1
                have hz_w1_0 : w.heap.size < w1.heap.size := by omega
                have hz_w1_1 : w.heap.size + 1 < w1.heap.size := by omega
                rw [Q1.out]
                go_wp2_with fail
                refine (cmdOk_spec y _ _ _ _ (h2.keep hB_w1) hy).mono ?_
                rintro e w2 ⟨rfl, hb2⟩
                obtain ⟨hc_w2, hf_w2⟩ := bcell hb2
                have hz_w2 := hb2.size
                try simp at hz_w2
                have hB_w2 : Below w.heap.size w w2 := bthen hB_w1 hb2
                have hz_w2_0 : w.heap.size < w2.heap.size := by omega
                have hz_w2_1 : w.heap.size + 1 < w2.heap.size := by omega
                rw [Q2.out]
                go_wp2
                go_returns
                exact ⟨ret_bool (by rw [HV.out]; rw [T0.out, T1.out, T2.out, T3.out, ← HS.out, T4.out]; rfl), hB_w2⟩
              · skip
                unfold cmV
                go_enter Try.func52, Try.ntmps52
                go_wp2_with fail
                refine (cmdOk_spec x _ _ _ _ (h1.keep (by go_grown)) hx).mono ?_
                rintro e w1 ⟨rfl, hb1⟩
                obtain ⟨hc_w1, hf_w1⟩ := bcell hb1
                have hz_w1 := hb1.size
                try simp at hz_w1
                have hB_w1 : Below w.heap.size w w1 := bthen (by go_grown) hb1
                have hz_w1_0 : w.heap.size < w1.heap.size := by omega
                have hz_w1_1 : w.heap.size + 1 < w1.heap.size := by omega
                rw [Q1.out]
                go_wp2_with fail
                refine (cmdOk_spec y _ _ _ _ (h2.keep hB_w1) hy).mono ?_
                rintro e w2 ⟨rfl, hb2⟩
                obtain ⟨hc_w2, hf_w2⟩ := bcell hb2
                have hz_w2 := hb2.size
                try simp at hz_w2
                have hB_w2 : Below w.heap.size w w2 := bthen hB_w1 hb2
                have hz_w2_0 : w.heap.size < w2.heap.size := by omega
                have hz_w2_1 : w.heap.size + 1 < w2.heap.size := by omega
                rw [Q2.out]
                go_wp2
                go_returns
                exact ⟨ret_bool (by rw [HV.out]; rw [T0.out, T1.out, T2.out, T3.out, ← HS.out, T4.out]; rfl), hB_w2⟩
            · have T3 := Lib.hid ht3
              have T0 := Lib.hid ht0
              have T1 := Lib.hid ht1
              unfold cmV
              go_enter Try.func52, Try.ntmps52
              go_wp2_with fail
              refine (cmdOk_spec x _ _ _ _ (h1.keep (by go_grown)) hx).mono ?_
              rintro e w1 ⟨rfl, hb1⟩
              obtain ⟨hc_w1, hf_w1⟩ := bcell hb1
              have hz_w1 := hb1.size
              try simp at hz_w1
              have hB_w1 : Below w.heap.size w w1 := bthen (by go_grown) hb1
              have hz_w1_0 : w.heap.size < w1.heap.size := by omega
              have hz_w1_1 : w.heap.size + 1 < w1.heap.size := by omega
              rw [Q1.out]
              go_wp2_with fail
              refine (cmdOk_spec y _ _ _ _ (h2.keep hB_w1) hy).mono ?_
              rintro e w2 ⟨rfl, hb2⟩
              obtain ⟨hc_w2, hf_w2⟩ := bcell hb2
              have hz_w2 := hb2.size
              try simp at hz_w2
              have hB_w2 : Below w.heap.size w w2 := bthen hB_w1 hb2
              have hz_w2_0 : w.heap.size < w2.heap.size := by omega
              have hz_w2_1 : w.heap.size + 1 < w2.heap.size := by omega
              rw [Q2.out]
              go_wp2
              go_returns
              exact ⟨ret_bool (by rw [HV.out]; rw [T0.out, T1.out, T3.out]; simp), hB_w2⟩
          · have T2 := Lib.hid ht2
            have T0 := Lib.hid ht0
            have T1 := Lib.hid ht1
            unfold cmV
            go_enter Try.func52, Try.ntmps52
            go_wp2_with fail
            refine (cmdOk_spec x _ _ _ _ (h1.keep (by go_grown)) hx).mono ?_
            rintro e w1 ⟨rfl, hb1⟩
            obtain ⟨hc_w1, hf_w1⟩ := bcell hb1
            have hz_w1 := hb1.size
            try simp at hz_w1
            have hB_w1 : Below w.heap.size w w1 := bthen (by go_grown) hb1
            have hz_w1_0 : w.heap.size < w1.heap.size := by omega
            have hz_w1_1 : w.heap.size + 1 < w1.heap.size := by omega
            rw [Q1.out]
            go_wp2_with fail
            refine (cmdOk_spec y _ _ _ _ (h2.keep hB_w1) hy).mono ?_
            rintro e w2 ⟨rfl, hb2⟩
            obtain ⟨hc_w2, hf_w2⟩ := bcell hb2
            have hz_w2 := hb2.size
            try simp at hz_w2
            have hB_w2 : Below w.heap.size w w2 := bthen hB_w1 hb2
            have hz_w2_0 : w.heap.size < w2.heap.size := by omega
            have hz_w2_1 : w.heap.size + 1 < w2.heap.size := by omega
            rw [Q2.out]
            go_wp2
            go_returns
            exact ⟨ret_bool (by rw [HV.out]; rw [T0.out, T1.out, T2.out]; simp), hB_w2⟩
        · have T1 := Lib.hid ht1
          unfold cmV
          go_enter Try.func52, Try.ntmps52
          go_wp2_with fail
          refine (cmdOk_spec x _ _ _ _ (h1.keep (by go_grown)) hx).mono ?_
          rintro e w1 ⟨rfl, hb1⟩
          obtain ⟨hc_w1, hf_w1⟩ := bcell hb1
          have hz_w1 := hb1.size
          try simp at hz_w1
          have hB_w1 : Below w.heap.size w w1 := bthen (by go_grown) hb1
          have hz_w1_0 : w.heap.size < w1.heap.size := by omega
          have hz_w1_1 : w.heap.size + 1 < w1.heap.size := by omega
          rw [Q1.out]
          go_wp2_with fail
          refine (cmdOk_spec y _ _ _ _ (h2.keep hB_w1) hy).mono ?_
          rintro e w2 ⟨rfl, hb2⟩
          obtain ⟨hc_w2, hf_w2⟩ := bcell hb2
          have hz_w2 := hb2.size
          try simp at hz_w2
          have hB_w2 : Below w.heap.size w w2 := bthen hB_w1 hb2
          have hz_w2_0 : w.heap.size < w2.heap.size := by omega
          have hz_w2_1 : w.heap.size + 1 < w2.heap.size := by omega
          rw [Q2.out]
          go_wp2
          go_returns
          exact ⟨ret_bool (by rw [HV.out]; rw [T1.out]; simp), hB_w2⟩
      · have T0 := Lib.hid ht0
        unfold cmV
        go_enter Try.func52, Try.ntmps52
        go_wp2_with fail
        refine (cmdOk_spec x _ _ _ _ (h1.keep (by go_grown)) hx).mono ?_
        rintro e w1 ⟨rfl, hb1⟩
        obtain ⟨hc_w1, hf_w1⟩ := bcell hb1
        have hz_w1 := hb1.size
        try simp at hz_w1
        have hB_w1 : Below w.heap.size w w1 := bthen (by go_grown) hb1
        have hz_w1_0 : w.heap.size < w1.heap.size := by omega
        have hz_w1_1 : w.heap.size + 1 < w1.heap.size := by omega
        rw [Q1.out]
        go_wp2_with fail
        refine (cmdOk_spec y _ _ _ _ (h2.keep hB_w1) hy).mono ?_
        rintro e w2 ⟨rfl, hb2⟩
        obtain ⟨hc_w2, hf_w2⟩ := bcell hb2
        have hz_w2 := hb2.size
        try simp at hz_w2
        have hB_w2 : Below w.heap.size w w2 := bthen hB_w1 hb2
        have hz_w2_0 : w.heap.size < w2.heap.size := by omega
        have hz_w2_1 : w.heap.size + 1 < w2.heap.size := by omega
        rw [Q2.out]
        go_wp2
        go_returns
        exact ⟨ret_bool (by rw [HV.out]; rw [T0.out]; simp), hB_w2⟩

/-- commands as for batches -/
def cmsOkB (l : List Cm) : Bool := decide (l.length ≤ 10) && l.all (fun x => cmOkB x && !(x.kd == 0))
theorem cmsOk_no {l : List Cm} {i : Nat} {x : Cm} (hx : l[i]? = some x) (h : (cmOkB x && !(x.kd == 0)) = false) : cmsOkB l = false := by
  unfold cmsOkB
  rw [Bool.and_eq_false_iff]
  right
  rw [List.all_eq_false]
  exact ⟨x, List.mem_of_getElem? hx, by rw [h]; simp⟩
theorem cmsOk_yes {l : List Cm} (h : ∀ (i : Nat) (x : Cm), l[i]? = some x → (cmOkB x && !(x.kd == 0)) = true) : cmsOkB l = decide (l.length ≤ 10) := by
  unfold cmsOkB
  have : l.all (fun x => cmOkB x && !(x.kd == 0)) = true := List.all_eq_true.2 fun x hx => by
    obtain ⟨i, hi⟩ := List.mem_iff_getElem?.1 hx
    exact h i x hi
  rw [this, Bool.and_true]
attribute [local irreducible] RowR StrR
set_option maxRecDepth 8000 in
set_option maxHeartbeats 1000000 in
theorem areCmds_impl (l : List Cm) (A : Option Addr) (n c : Nat) (w : World) (h : RowR cmR 8 w A n c l) (hb : cmsB l) :
    Calls Try.prog 54 #[.slice A n c] w fun e w' => e = .returned (.bool (cmsOkB l)) ∧ Below w.heap.size w w' := by
  have HL := Lib.hid h.len.symm
  have hn : n ≤ 9223372036854775807 := by have h1 := HL.out; have h2 := hb.1; omega
  go_enter Try.func54, Try.ntmps54
  go_wp2
  go_loopw [7] (fun i wr => ∃ k : Nat, k ≤ n ∧ i = .int .i64 k ∧ (∀ i x, i < k → l[i]? = some x → (cmOkB x && !(x.kd == 0)) = true) ∧ Below w.heap.size w wr) (fun i _ => n - (intOf i).toNat)
  case atStart => exact ⟨0, Nat.zero_le _, rfl, fun i x hi => absurd hi (by omega), Below.refl _ _⟩
  case round =>
    obtain ⟨k, hk, rfl, hall, hbw⟩ := hrel
    have HA := Lib.hid hall; clear hall
    by_cases hlt : k < n
    · obtain ⟨b, off, rfl⟩ := h.head (by omega)
      obtain ⟨bl, x, cs, hx, hR, hcell⟩ := h.elem_at hlt
      obtain ⟨A1, n1, c1, rfl, h1⟩ := hR
      have e0 := (hbw.cell (p := ⟨b, off + k * 8, none⟩) bl).trans (show w.cell? ⟨b, off + k * 8, none⟩ = some (.int .i64 x.kd) from hcell 0 _ rfl)
      have e1 := (hbw.cell (p := ⟨b, off + k * 8 + 1, none⟩) bl).trans (show w.cell? ⟨b, off + k * 8 + 1, none⟩ = some (.int .i64 x.cl) from hcell 1 _ rfl)
      have e2 := (hbw.cell (p := ⟨b, off + k * 8 + 2, none⟩) bl).trans (show w.cell? ⟨b, off + k * 8 + 2, none⟩ = some (.int .i64 x.no) from hcell 2 _ rfl)
      have e3 := (hbw.cell (p := ⟨b, off + k * 8 + 3, none⟩) bl).trans (show w.cell? ⟨b, off + k * 8 + 3, none⟩ = some (.string x.s) from hcell 3 _ rfl)
      have e4 := (hbw.cell (p := ⟨b, off + k * 8 + 4, none⟩) bl).trans (show w.cell? ⟨b, off + k * 8 + 4, none⟩ = some (.string x.nm) from hcell 4 _ rfl)
      have e5 := (hbw.cell (p := ⟨b, off + k * 8 + 5, none⟩) bl).trans (show w.cell? ⟨b, off + k * 8 + 5, none⟩ = some (.string x.tg) from hcell 5 _ rfl)
      have e6 := (hbw.cell (p := ⟨b, off + k * 8 + 6, none⟩) bl).trans (show w.cell? ⟨b, off + k * 8 + 6, none⟩ = some (.int .i64 x.n) from hcell 6 _ rfl)
      have e7 := (hbw.cell (p := ⟨b, off + k * 8 + 7, none⟩) bl).trans (show w.cell? ⟨b, off + k * 8 + 7, none⟩ = some (.slice A1 n1 c1) from hcell 7 _ rfl)
      clear hcell
      have hbx := bounds_el hb.2 hx
      have al := (Below.refl wr.heap.size wr).alloc (Nat.le_refl _) (.cells #[.int .i64 x.kd, .int .i64 x.cl, .int .i64 x.no, .string x.s, .string x.nm, .string x.tg, .int .i64 x.n, .slice A1 n1 c1] 47)
      have hBl := bthen hbw al
      have h1' := h1.keep hBl
      obtain ⟨q1, hq1⟩ : ∃ q, cmOkB x = q := ⟨_, rfl⟩
      have Q1 := Lib.hid hq1; clear hq1
      obtain ⟨t1, ht1⟩ : ∃ q, (x.kd == 0) = q := ⟨_, rfl⟩
      have T1 := Lib.hid ht1
      cases q1
      · skip
        go_wp2_with fail
        refine (cmdOk_impl x _ _ _ _ h1' hbx).mono ?_
        rintro e w1 ⟨rfl, hb1⟩
        have g0 : w1.cell? ⟨wr.heap.size, 0, none⟩ = some (.int .i64 x.kd) := keep_cell hb1 (by simp [go_sem])
        rw [Q1.out]
        go_wp2
        go_returns
        exact ⟨ret_bool (cmsOk_no hx (by rw [Q1.out, T1.out]; rfl)).symm, bthen hBl hb1⟩
      · cases t1
        · skip
          go_wp2_with fail
          refine (cmdOk_impl x _ _ _ _ h1' hbx).mono ?_
          rintro e w1 ⟨rfl, hb1⟩
          have g0 : w1.cell? ⟨wr.heap.size, 0, none⟩ = some (.int .i64 x.kd) := keep_cell hb1 (by simp [go_sem])
          rw [Q1.out]
          go_wp2
          exact ⟨⟨k + 1, by omega, by go_num, fun i y hi hy => by
            rcases Nat.lt_or_ge i k with h1 | h1
            · exact HA.out i y h1 hy
            · have : i = k := by omega
              subst this
              obtain rfl : y = x := Option.some.inj (hy.symm.trans hx)
              rw [Q1.out, T1.out]; rfl, bthen hBl hb1⟩, by simp [intOf]; omega⟩
        · skip
          go_wp2_with fail
          refine (cmdOk_impl x _ _ _ _ h1' hbx).mono ?_
          rintro e w1 ⟨rfl, hb1⟩
          have g0 : w1.cell? ⟨wr.heap.size, 0, none⟩ = some (.int .i64 x.kd) := keep_cell hb1 (by simp [go_sem])
          rw [Q1.out]
          go_wp2
          go_returns
          exact ⟨ret_bool (cmsOk_no hx (by rw [Q1.out, T1.out]; rfl)).symm, bthen hBl hb1⟩
    · go_wp2
      go_returns
      refine ⟨ret_bool ?_, hbw⟩
      rw [cmsOk_yes (fun i x hx => HA.out i x (by have := (List.getElem?_eq_some_iff.1 hx).1; have := HL.out; omega) hx), HL.out]
      first | rfl | (apply decide_eq_decide.2; omega)
set_option maxRecDepth 8000 in
set_option maxHeartbeats 1000000 in
theorem l34Ok_spec (l : List Cm) (A : Option Addr) (n c : Nat) (w : World) (h : RowR cmR 8 w A n c l) (hb : cmsB l) :
    Calls Try.prog 51 #[.slice A n c] w fun e w' => e = .returned (.bool (cmsOkB l)) ∧ Below w.heap.size w w' := by
  have HL := Lib.hid h.len.symm
  have hn : n ≤ 9223372036854775807 := by have h1 := HL.out; have h2 := hb.1; omega
  by_cases h10 : 10 < n
  · go_enter Try.func51, Try.ntmps51
    go_wp2
    go_returns
    exact ⟨ret_bool (by unfold cmsOkB; symm; simp only [Bool.and_eq_false_iff, decide_eq_false_iff_not]; left; have := HL.out; omega), Below.refl _ _⟩
  · go_enter Try.func51, Try.ntmps51
    go_wp2
    go_loopw [3] (fun i wr => ∃ k : Nat, k ≤ n ∧ i = .int .i64 k ∧ (∀ i x, i < k → l[i]? = some x → (cmOkB x && !(x.kd == 0)) = true) ∧ Below w.heap.size w wr) (fun i _ => n - (intOf i).toNat)
    case atStart => exact ⟨0, Nat.zero_le _, rfl, fun i x hi => absurd hi (by omega), Below.refl _ _⟩
    case round =>
      obtain ⟨k, hk, rfl, hall, hbw⟩ := hrel
      have HA := Lib.hid hall; clear hall
      by_cases hlt : k < n
      · obtain ⟨b, off, rfl⟩ := h.head (by omega)
        obtain ⟨bl, x, cs, hx, hR, hcell⟩ := h.elem_at hlt
        obtain ⟨A1, n1, c1, rfl, h1⟩ := hR
        have e0 := (hbw.cell (p := ⟨b, off + k * 8, none⟩) bl).trans (show w.cell? ⟨b, off + k * 8, none⟩ = some (.int .i64 x.kd) from hcell 0 _ rfl)
        have e1 := (hbw.cell (p := ⟨b, off + k * 8 + 1, none⟩) bl).trans (show w.cell? ⟨b, off + k * 8 + 1, none⟩ = some (.int .i64 x.cl) from hcell 1 _ rfl)
        have e2 := (hbw.cell (p := ⟨b, off + k * 8 + 2, none⟩) bl).trans (show w.cell? ⟨b, off + k * 8 + 2, none⟩ = some (.int .i64 x.no) from hcell 2 _ rfl)
        have e3 := (hbw.cell (p := ⟨b, off + k * 8 + 3, none⟩) bl).trans (show w.cell? ⟨b, off + k * 8 + 3, none⟩ = some (.string x.s) from hcell 3 _ rfl)
        have e4 := (hbw.cell (p := ⟨b, off + k * 8 + 4, none⟩) bl).trans (show w.cell? ⟨b, off + k * 8 + 4, none⟩ = some (.string x.nm) from hcell 4 _ rfl)
        have e5 := (hbw.cell (p := ⟨b, off + k * 8 + 5, none⟩) bl).trans (show w.cell? ⟨b, off + k * 8 + 5, none⟩ = some (.string x.tg) from hcell 5 _ rfl)
        have e6 := (hbw.cell (p := ⟨b, off + k * 8 + 6, none⟩) bl).trans (show w.cell? ⟨b, off + k * 8 + 6, none⟩ = some (.int .i64 x.n) from hcell 6 _ rfl)
        have e7 := (hbw.cell (p := ⟨b, off + k * 8 + 7, none⟩) bl).trans (show w.cell? ⟨b, off + k * 8 + 7, none⟩ = some (.slice A1 n1 c1) from hcell 7 _ rfl)
        clear hcell
        have hbx := bounds_el hb.2 hx
        have h1' := h1.keep hbw
        obtain ⟨q1, hq1⟩ : ∃ q, cmOkB x = q := ⟨_, rfl⟩
        have Q1 := Lib.hid hq1; clear hq1
        obtain ⟨t1, ht1⟩ : ∃ q, (x.kd == 0) = q := ⟨_, rfl⟩
        have T1 := Lib.hid ht1
        cases q1
        · skip
          go_wp2_with fail
          refine (cmdOk_spec x _ _ _ _ h1' hbx).mono ?_
          rintro e w1 ⟨rfl, hb1⟩
          have g0 := keep_cell hb1 e0
          rw [Q1.out]
          go_wp2
          go_returns
          exact ⟨ret_bool (cmsOk_no hx (by rw [Q1.out, T1.out]; rfl)).symm, bthen hbw hb1⟩
        · cases t1
          · skip
            go_wp2_with fail
            refine (cmdOk_spec x _ _ _ _ h1' hbx).mono ?_
            rintro e w1 ⟨rfl, hb1⟩
            have g0 := keep_cell hb1 e0
            rw [Q1.out]
            go_wp2
            exact ⟨⟨k + 1, by omega, by go_num, fun i y hi hy => by
              rcases Nat.lt_or_ge i k with h1 | h1
              · exact HA.out i y h1 hy
              · have : i = k := by omega
                subst this
                obtain rfl : y = x := Option.some.inj (hy.symm.trans hx)
                rw [Q1.out, T1.out]; rfl, bthen hbw hb1⟩, by simp [intOf]; omega⟩
          · skip
            go_wp2_with fail
            refine (cmdOk_spec x _ _ _ _ h1' hbx).mono ?_
            rintro e w1 ⟨rfl, hb1⟩
            have g0 := keep_cell hb1 e0
            rw [Q1.out]
            go_wp2
            go_returns
            exact ⟨ret_bool (cmsOk_no hx (by rw [Q1.out, T1.out]; rfl)).symm, bthen hbw hb1⟩
      · go_wp2
        go_returns
        refine ⟨ret_bool ?_, hbw⟩
        rw [cmsOk_yes (fun i x hx => HA.out i x (by have := (List.getElem?_eq_some_iff.1 hx).1; have := HL.out; omega) hx)]
        symm; simp only [decide_eq_true_eq]; have := HL.out; omega
end Go.Proofs.Ytdphdnllhmnelaa
/- Plain laws of batches. -/
namespace Go.Proofs.Ytdphdnllhmnelaa
theorem sameBA_symm (x y : Cm) : clashB x y = clashB y x := by
  unfold clashB
  have h1 : decide (x.s = y.s) = decide (y.s = x.s) := decide_eq_decide.2 ⟨Eq.symm, Eq.symm⟩
  rw [h1]
  cases cmOkB x <;> cases cmOkB y <;> cases (x.kd == 0) <;> cases (y.kd == 0) <;> cases (x.kd == 7) <;> cases (y.kd == 7) <;> simp
attribute [local irreducible] clashB
/-- the level of command i behind its first k neighbours of levels f -/
def lvTo (l : List Cm) (f : Nat → Nat) (i : Nat) : Nat → Nat
  | 0 => 0
  | k + 1 => if clashB (cmAt l k) (cmAt l i) = true then max (lvTo l f i k) (f k + 1) else lvTo l f i k
def lvs (l : List Cm) : Nat → List Nat
  | 0 => []
  | i + 1 => lvs l i ++ [lvTo l (fun k => (lvs l i).getD k 0) i i]
theorem lvs_len (l : List Cm) : ∀ i, (lvs l i).length = i
  | 0 => rfl
  | i + 1 => by simp [lvs, lvs_len l i]
def lv (l : List Cm) (i : Nat) : Nat := (lvs l (i + 1)).getD i 0
theorem lvs_get (l : List Cm) (k : Nat) : ∀ i, k < i → (lvs l i).getD k 0 = lv l k
  | 0, h => by omega
  | i + 1, h => by
    rcases Nat.lt_or_ge k i with h1 | h1
    · rw [← lvs_get l k i h1, lvs]
      have := lvs_len l i
      rw [List.getD_eq_getElem?_getD, List.getD_eq_getElem?_getD, List.getElem?_append_left (by omega)]
    · have : k = i := by omega
      subst this; rfl
theorem lvTo_congr (l : List Cm) {f g : Nat → Nat} (i : Nat) : ∀ k, (∀ j, j < k → f j = g j) → lvTo l f i k = lvTo l g i k
  | 0, _ => rfl
  | k + 1, h => by
    simp only [lvTo, lvTo_congr l i k (fun j hj => h j (by omega)), h k (by omega)]
theorem lv_eq (l : List Cm) (i : Nat) : lv l i = lvTo l (lv l) i i := by
  have h : lv l i = lvTo l (fun k => (lvs l i).getD k 0) i i := by
    unfold lv
    rw [lvs, List.getD_eq_getElem?_getD, List.getElem?_append_right (by rw [lvs_len]; omega), lvs_len]
    simp
  rw [h]
  exact lvTo_congr l i i (fun j hj => lvs_get l j i hj)
/-- how many levels the first i have -/
def mxL (l : List Cm) : Nat → Nat
  | 0 => 0
  | i + 1 => max (mxL l i) (lv l i + 1)
theorem mxL_zero (l : List Cm) : mxL l 0 = 0 := rfl
theorem mxL_succ (l : List Cm) (i : Nat) : mxL l (i + 1) = max (mxL l i) (lv l i + 1) := rfl
theorem mxL_mono (l : List Cm) : ∀ {i j : Nat}, i ≤ j → mxL l i ≤ mxL l j
  | i, 0, h => by have : i = 0 := by omega
                  subst this; exact Nat.le_refl _
  | i, j + 1, h => by
    rcases Nat.lt_or_ge j i with h1 | h1
    · have : i = j + 1 := by omega
      subst this; exact Nat.le_refl _
    · exact Nat.le_trans (mxL_mono l h1) (by simp only [mxL]; omega)
theorem lvTo_le (l : List Cm) (i : Nat) : ∀ k, lvTo l (lv l) i k ≤ mxL l k
  | 0 => Nat.le_refl _
  | k + 1 => by
    have := lvTo_le l i k
    simp only [lvTo, mxL]
    split <;> omega
theorem lv_le (l : List Cm) (i : Nat) : lv l i ≤ mxL l i := by rw [lv_eq]; exact lvTo_le l i i
theorem lv_lt (l : List Cm) {i j : Nat} (h : j < i) : lv l j < mxL l i := by
  have h1 : mxL l (j + 1) ≤ mxL l i := mxL_mono l h
  simp only [mxL] at h1
  omega
theorem mxL_le (l : List Cm) : ∀ i, mxL l i ≤ i
  | 0 => Nat.le_refl _
  | i + 1 => by
    have h1 := mxL_le l i
    have h2 := lv_le l i
    simp only [mxL]; omega
/-- the numbers of level b among the first i -/
def rowOf (l : List Cm) (i b : Nat) : List Int := ((List.range i).filter (fun j => lv l j == b)).map (fun j : Nat => (j : Int))
def rowsOf (l : List Cm) (i : Nat) : List (List Int) := (List.range (mxL l i)).map (rowOf l i)
theorem rowOf_succ (l : List Cm) (i b : Nat) : rowOf l (i + 1) b = rowOf l i b ++ (if lv l i == b then [(i : Int)] else []) := by
  unfold rowOf
  rw [List.range_succ, List.filter_append, List.map_append]
  congr 1
  cases h : lv l i == b <;> simp [h]
theorem rowOf_top (l : List Cm) (i : Nat) : rowOf l i (mxL l i) = [] := by
  unfold rowOf
  rw [List.map_eq_nil_iff, List.filter_eq_nil_iff]
  intro j hj
  have := lv_lt l (List.mem_range.1 hj)
  simp; omega
theorem rowsOf_len (l : List Cm) (i : Nat) : (rowsOf l i).length = mxL l i := by simp [rowsOf]
theorem rowsOf_at (l : List Cm) (i b : Nat) (h : b < mxL l i) : (rowsOf l i)[b]? = some (rowOf l i b) := by simp [rowsOf, h]
/-- the rows with a new empty one where one is wanted -/
def rowsE (l : List Cm) (i : Nat) : List (List Int) := if lv l i = mxL l i then rowsOf l i ++ [[]] else rowsOf l i
theorem rowsE_at (l : List Cm) (i : Nat) : (rowsE l i)[lv l i]? = some (rowOf l i (lv l i)) := by
  unfold rowsE
  have h := lv_le l i
  split
  · rename_i e
    rw [List.getElem?_append_right (by rw [rowsOf_len]; omega), rowsOf_len, e, Nat.sub_self, rowOf_top]; rfl
  · exact rowsOf_at l i _ (by omega)
theorem rowsOf_succ (l : List Cm) (i : Nat) : rowsOf l (i + 1) = (rowsE l i).set (lv l i) (rowOf l i (lv l i) ++ [(i : Int)]) := by
  have h := lv_le l i
  have hE : (rowsE l i).length = mxL l (i + 1) := by
    unfold rowsE; simp only [mxL]
    split
    · rw [List.length_append, rowsOf_len]; simp only [List.length_cons, List.length_nil]; omega
    · rw [rowsOf_len]; omega
  apply List.ext_getElem?
  intro b
  rcases Nat.lt_or_ge b (mxL l (i + 1)) with hb | hb
  · rw [rowsOf_at l (i + 1) b hb, rowOf_succ, List.getElem?_set]
    by_cases e : lv l i = b
    · subst e; simp [hE, hb]
    · rw [if_neg e]
      have e2 : (lv l i == b) = false := by simpa using e
      rw [e2]
      simp only [Bool.false_eq_true, if_false, List.append_nil]
      have hb2 : b < mxL l i := by simp only [mxL] at hb; omega
      unfold rowsE
      split
      · rw [List.getElem?_append_left (by rw [rowsOf_len]; exact hb2), rowsOf_at l i b hb2]
      · rw [rowsOf_at l i b hb2]
  · rw [List.getElem?_eq_none (by rw [rowsOf_len]; exact hb), List.getElem?_eq_none (by rw [List.length_set, hE]; exact hb)]
/-- the batches of commands -/
def batchL (l : List Cm) : List (List Int) := if cmsOkB l = true then rowsOf l l.length else []
theorem rowOf_len (l : List Cm) (i b : Nat) : (rowOf l i b).length ≤ i := by
  unfold rowOf
  rw [List.length_map]
  have := List.length_filter_le (fun j => lv l j == b) (List.range i)
  rwa [List.length_range] at this
theorem cmsOk_len {l : List Cm} (h : cmsOkB l = true) : l.length ≤ 10 := by
  unfold cmsOkB at h
  simp only [Bool.and_eq_true, decide_eq_true_eq] at h
  exact h.1
theorem sum_le_mul {α : Type} (f : α → Nat) (m : Nat) : ∀ l : List α, (∀ x ∈ l, f x ≤ m) → (l.map f).sum ≤ l.length * m
  | [], _ => by simp
  | x :: l, h => by
    have h1 := h x (List.mem_cons_self ..)
    have h2 := sum_le_mul f m l (fun y hy => h y (List.mem_cons_of_mem _ hy))
    rw [List.map_cons, List.sum_cons, List.length_cons, Nat.add_mul]; omega
theorem batch_sz (l : List Cm) : intssSz (batchL l) ≤ 110 := by
  unfold batchL
  split
  · rename_i h
    have h1 := cmsOk_len h
    have h2 := mxL_le l l.length
    have h3 := sum_le_mul intsSz 10 (rowsOf l l.length) (fun x hx => by
      unfold rowsOf at hx
      obtain ⟨b, _, rfl⟩ := List.mem_map.1 hx
      have := rowOf_len l l.length b
      unfold intsSz; omega)
    unfold intssSz
    rw [rowsOf_len] at h3 ⊢
    have : mxL l l.length * 10 ≤ 100 := by omega
    omega
  · simp [intssSz]
/-- the levels of the first i -/
def lvI (l : List Cm) (i : Nat) : List Int := (List.range i).map (fun j : Nat => ((lv l j : Nat) : Int))
theorem lvI_len (l : List Cm) (i : Nat) : (lvI l i).length = i := by simp [lvI]
theorem lvI_succ (l : List Cm) (i : Nat) : lvI l (i + 1) = lvI l i ++ [((lv l i : Nat) : Int)] := by unfold lvI; rw [List.range_succ, List.map_append]; rfl
theorem lvI_at (l : List Cm) (i k : Nat) (h : k < i) : iAt (lvI l i) k = ((lv l k : Nat) : Int) := by simp [iAt, lvI, h]
theorem rowsE_len (l : List Cm) (i : Nat) : (rowsE l i).length = mxL l (i + 1) := by
  have h := lv_le l i
  unfold rowsE
  rw [mxL_succ]
  split
  · rw [List.length_append, rowsOf_len]; simp only [List.length_cons, List.length_nil]; omega
  · rw [rowsOf_len]; omega
end Go.Proofs.Ytdphdnllhmnelaa
/- Is a number in a list: the reference's l18Has, slices.Contains at ints. -/
namespace Go.Proofs.Ytdphdnllhmnelaa
open Go.RowKit
def hasI (l : List Int) (x : Int) : Bool := decide (x ∈ l)
theorem hasI_yes {l : List Int} {k : Nat} {x : Int} (hk : k < l.length) (h : iAt l k = x) : hasI l x = true := by
  unfold hasI; rw [decide_eq_true_eq, ← h, iAt_get hk]; exact List.getElem_mem hk
theorem hasI_no {l : List Int} {x : Int} (h : ∀ j, j < l.length → iAt l j ≠ x) : hasI l x = false := by
  unfold hasI; rw [decide_eq_false_iff_not]
  intro hx
  obtain ⟨i, hi, e⟩ := List.mem_iff_getElem.1 hx
  exact h i hi (by rw [iAt_get hi, e])
theorem indexI_any (A : Option Addr) (n c : Nat) (l : List Int) (x : Int) (w : World) (h : IntsAt w A n l) (hn : n ≤ 9223372036854775807) :
    Calls Try.prog 123 #[.slice A n c, .int .i64 x] w fun e w' => ∃ i : Int, e = .returned (.int .i64 i) ∧ decide (0 ≤ i) = hasI l x ∧ w = w' := by
  have HL := Lib.hid h.1.symm
  go_enter Try.func123, Try.ntmps123
  go_wp2
  go_loop [8] (fun i => ∃ k : Nat, k ≤ n ∧ i = .int .i64 k ∧ ∀ j, j < k → iAt l j ≠ x) (fun i => n - (intOf i).toNat)
  case atStart => exact ⟨0, Nat.zero_le _, rfl, fun j hj => absurd hj (by omega)⟩
  case round =>
    obtain ⟨k, hk, rfl, hx⟩ := hrel
    have HX := Lib.hid hx; clear hx
    by_cases hlt : k < n
    · obtain ⟨b, off, rfl, hbl, hc⟩ := h.at_ (by omega)
      have hck := hc k hlt
      clear hc
      by_cases hxe : iAt l k = x
      · have HE := Lib.hid hxe
        rw [hxe] at hck
        clear hxe
        go_wp2
        go_returns
        exact ⟨k, rfl, by rw [hasI_yes (k := k) (by have := HL.out; omega) HE.out]; simp, rfl⟩
      · have HE := Lib.hid hxe
        have g1 : (x == iAt l k) = false := by simpa using fun h => hxe h.symm
        clear hxe
        go_wp2
        refine ⟨⟨k + 1, by omega, by go_num, ?_⟩, by simp [intOf]; omega⟩
        intro j hj
        by_cases e : j = k
        · subst e; exact HE.out
        · exact HX.out j (by omega)
    · go_wp2
      go_returns
      exact ⟨-1, rfl, by rw [hasI_no (fun j hj => HX.out j (by have := HL.out; omega))]; rfl, rfl⟩
theorem containsI_any (A : Option Addr) (n c : Nat) (l : List Int) (x : Int) (w : World) (h : IntsAt w A n l) (hn : n ≤ 9223372036854775807) :
    Calls Try.prog 67 #[.slice A n c, .int .i64 x] w fun e w' => e = .returned (.bool (hasI l x)) ∧ w = w' := by
  go_enter Try.func67, Try.ntmps67
  go_wp2_with fail
  refine (indexI_any _ _ _ _ _ _ h hn).mono ?_
  rintro e w' ⟨i, rfl, hi, rfl⟩
  have HI := Lib.hid hi; clear hi
  go_wp2
  go_returns
  exact ⟨by rw [HI.out]; rfl, rfl⟩
end Go.Proofs.Ytdphdnllhmnelaa
/- Plain law of BatchFits: where a number stands, what a batch plan is. -/
namespace Go.Proofs.Ytdphdnllhmnelaa
open Go.RowKit
def lAt (l : List (List Int)) (i : Nat) : List Int := l.getD i []
theorem lAt_get {l : List (List Int)} {k : Nat} (h : k < l.length) : lAt l k = l[k] := by simp [lAt, h]
theorem take_snoc {α : Type} (l : List α) (k : Nat) (h : k < l.length) : l.take (k + 1) = l.take k ++ [l[k]] := List.take_succ_eq_append_getElem h
/-- the first list that holds j, counted from k; -1 if none does -/
def posI : List (List Int) → Nat → Int → Int
  | [], _, _ => -1
  | x :: b, k, j => if hasI x j = true then (k : Int) else posI b (k + 1) j
theorem posI_or : ∀ (b : List (List Int)) (k : Nat) (j : Int), (posI b k j = -1 ∧ j ∉ b.flatten) ∨ ((k : Int) ≤ posI b k j ∧ posI b k j < k + b.length ∧ j ∈ b.flatten)
  | [], k, j => Or.inl ⟨rfl, by simp⟩
  | x :: b, k, j => by
    unfold posI
    by_cases h : hasI x j = true
    · rw [if_pos h]
      refine Or.inr ⟨by omega, by simp; omega, ?_⟩
      unfold hasI at h
      simp at h
      simp [h]
    · rw [if_neg h]
      unfold hasI at h
      simp at h
      rcases posI_or b (k + 1) j with ⟨h1, h2⟩ | ⟨h1, h2, h3⟩
      · exact Or.inl ⟨h1, by rw [List.flatten_cons, List.mem_append]; exact fun e => e.elim h h2⟩
      · exact Or.inr ⟨by omega, by simp only [List.length_cons]; omega, by rw [List.flatten_cons, List.mem_append]; exact Or.inr h3⟩
theorem posI_app : ∀ (b : List (List Int)) (t : List Int) (k : Nat) (j : Int), posI (b ++ [t]) k j = if 0 ≤ posI b k j then posI b k j else if hasI t j = true then ((k + b.length : Nat) : Int) else -1
  | [], t, k, j => by
    rw [List.nil_append]; unfold posI; unfold posI
    rw [if_neg (show ¬ (0 : Int) ≤ -1 by omega)]; simp
  | x :: b, t, k, j => by
    rw [List.cons_append]
    have e1 : posI (x :: (b ++ [t])) k j = if hasI x j = true then (k : Int) else posI (b ++ [t]) (k + 1) j := rfl
    have e2 : posI (x :: b) k j = if hasI x j = true then (k : Int) else posI b (k + 1) j := rfl
    rw [e1, e2]
    by_cases h : hasI x j = true
    · rw [if_pos h, if_pos h, if_pos (by omega)]
    · rw [if_neg h, if_neg h, posI_app b t (k + 1) j]
      have : k + 1 + b.length = k + (x :: b).length := by simp; omega
      rw [this]
theorem posI_drop {b : List (List Int)} {k : Nat} (j : Int) (h : k < b.length) : posI (b.drop k) k j = if hasI (lAt b k) j = true then (k : Int) else posI (b.drop (k + 1)) (k + 1) j := by
  rw [List.drop_eq_getElem_cons h, lAt_get h]; rfl
/-- the numbers in the lists so far -/
def cutI (b : List (List Int)) (k i : Nat) (j : Int) : Int := posI (b.take k ++ [(lAt b k).take i]) 0 j
theorem cut_zero (b : List (List Int)) (k : Nat) (j : Int) : cutI b k 0 j = posI (b.take k) 0 j := by
  unfold cutI; rw [posI_app, List.take_zero]
  have h : hasI [] j = false := by simp [hasI]
  rw [h]
  by_cases h0 : 0 ≤ posI (b.take k) 0 j
  · rw [if_pos h0]
  · rw [if_neg h0, if_neg (by simp)]
    rcases posI_or (b.take k) 0 j with ⟨h1, _⟩ | ⟨h1, _, _⟩
    · exact h1.symm
    · exact absurd (by simpa using h1) h0
theorem cut_full (b : List (List Int)) (k : Nat) (j : Int) (h : k < b.length) : cutI b k (lAt b k).length j = posI (b.take (k + 1)) 0 j := by
  unfold cutI; rw [List.take_length, take_snoc b k h, lAt_get h]
theorem cut_step {b : List (List Int)} {k i : Nat} {x : Int} (h : k ≤ b.length) (hi : i < (lAt b k).length) (hx : iAt (lAt b k) i = x) (hn : cutI b k i x < 0) (j : Int) :
    cutI b k (i + 1) j = if j = x then (k : Int) else cutI b k i j := by
  have ht : (lAt b k).take (i + 1) = (lAt b k).take i ++ [x] := by rw [take_snoc _ _ hi, ← iAt_get hi, hx]
  have hh : ∀ y, hasI ((lAt b k).take i ++ [x]) y = (hasI ((lAt b k).take i) y || decide (y = x)) := fun y => by unfold hasI; simp
  have hl : (b.take k).length = k := by rw [List.length_take]; omega
  unfold cutI at hn ⊢
  rw [posI_app] at hn
  rw [posI_app, posI_app, ht, hh, hl]
  rw [hl] at hn
  by_cases hjx : j = x
  · subst hjx
    rw [if_pos rfl]
    by_cases h0 : 0 ≤ posI (b.take k) 0 j
    · rw [if_pos h0] at hn; omega
    · rw [if_neg h0]; simp
  · rw [if_neg hjx]; simp [hjx]
/-- what has been seen: every number once, each in range -/
def okP (n : Nat) (p : List Int) : Prop := p.Nodup ∧ ∀ x ∈ p, 0 ≤ x ∧ x < n
def seen (b : List (List Int)) (k i : Nat) : List Int := (b.take k).flatten ++ (lAt b k).take i
theorem cut_or (b : List (List Int)) (k i : Nat) (j : Int) : (cutI b k i j < 0 ∧ j ∉ seen b k i) ∨ (0 ≤ cutI b k i j ∧ j ∈ seen b k i) := by
  unfold cutI seen
  have e : (b.take k).flatten ++ (lAt b k).take i = (b.take k ++ [(lAt b k).take i]).flatten := by simp
  rw [e]
  rcases posI_or (b.take k ++ [(lAt b k).take i]) 0 j with ⟨h1, h2⟩ | ⟨h1, _, h2⟩
  · exact Or.inl ⟨by omega, h2⟩
  · exact Or.inr ⟨by omega, h2⟩
theorem seen_zero (b : List (List Int)) : seen b 0 0 = [] := by simp [seen]
theorem seen_full {b : List (List Int)} {k : Nat} (h : k < b.length) : seen b k (lAt b k).length = seen b (k + 1) 0 := by
  unfold seen
  rw [List.take_length, take_snoc b k h, ← lAt_get h]; simp
theorem seen_all {b : List (List Int)} : seen b b.length 0 = b.flatten := by simp [seen]
theorem seen_step {b : List (List Int)} {k i : Nat} {x : Int} (hi : i < (lAt b k).length) (hx : iAt (lAt b k) i = x) : seen b k (i + 1) = seen b k i ++ [x] := by
  unfold seen; rw [take_snoc _ _ hi, ← iAt_get hi, hx, List.append_assoc]
theorem okP_nil (n : Nat) : okP n [] := ⟨List.nodup_nil, fun x h => by cases h⟩
theorem okP_step {n : Nat} {p : List Int} {x : Int} (h : okP n p) (h0 : 0 ≤ x) (h1 : x < n) (h2 : x ∉ p) : okP n (p ++ [x]) := by
  refine ⟨List.nodup_append.2 ⟨h.1, by simp, fun a ha b hb => by simp at hb; subst hb; exact fun e => h2 (e ▸ ha)⟩, fun y hy => ?_⟩
  rcases List.mem_append.1 hy with hy | hy
  · exact h.2 y hy
  · simp at hy; subst hy; exact ⟨h0, h1⟩
theorem seen_split {b : List (List Int)} {k i : Nat} {x : Int} (h : k < b.length) (hi : i < (lAt b k).length) (hx : iAt (lAt b k) i = x) : ∃ r, b.flatten = seen b k i ++ x :: r := by
  refine ⟨(lAt b k).drop (i + 1) ++ (b.drop (k + 1)).flatten, ?_⟩
  have e1 : b.flatten = (b.take k).flatten ++ (lAt b k ++ (b.drop (k + 1)).flatten) := by
    rw [lAt_get h, ← List.flatten_cons, ← List.drop_eq_getElem_cons h, ← List.flatten_append, List.take_append_drop]
  have e2 : lAt b k = (lAt b k).take i ++ x :: (lAt b k).drop (i + 1) := by
    rw [← hx, iAt_get hi, ← List.drop_eq_getElem_cons hi, List.take_append_drop]
  rw [e1]; unfold seen
  conv => lhs; rw [e2]
  simp
theorem okP_no {b : List (List Int)} {n k i : Nat} {x : Int} (h : k < b.length) (hi : i < (lAt b k).length) (hx : iAt (lAt b k) i = x) (hb : x < 0 ∨ (n : Int) ≤ x ∨ 0 ≤ cutI b k i x) : ¬ okP n b.flatten := by
  obtain ⟨r, hr⟩ := seen_split h hi hx
  rw [hr]
  intro hk
  have := hk.2 x (by simp)
  rcases hb with hb | hb | hb
  · omega
  · omega
  · have hs : x ∈ seen b k i := by
      rcases cut_or b k i x with ⟨h1, _⟩ | ⟨_, h2⟩
      · omega
      · exact h2
    exact (List.nodup_append.1 hk.1).2.2 x hs x (by simp) rfl
/-- a plan of n commands: each stands in it once -/
def PermB (n : Nat) (b : List (List Int)) : Prop := okP n b.flatten ∧ ∀ j : Nat, j < n → 0 ≤ posI b 0 j
theorem sub_len : ∀ {l1 l2 : List Int}, l1.Nodup → (∀ x ∈ l1, x ∈ l2) → l1.length ≤ l2.length
  | [], _, _, _ => Nat.zero_le _
  | x :: t, l2, hN, hs => by
    have hx := hs x (List.mem_cons_self ..)
    have hN' := List.nodup_cons.1 hN
    have h1 := sub_len (l2 := l2.erase x) hN'.2 (fun y hy => (List.mem_erase_of_ne (fun (e : y = x) => hN'.1 (by rw [← e]; exact hy))).2 (hs y (List.mem_cons_of_mem _ hy)))
    rw [List.length_erase_of_mem hx] at h1
    have := List.length_pos_of_mem hx
    simp only [List.length_cons]; omega
theorem nodup_of : ∀ {l2 l1 : List Int}, l1.Nodup → (∀ x ∈ l1, x ∈ l2) → l2.length ≤ l1.length → l2.Nodup
  | [], _, _, _, _ => List.nodup_nil
  | y :: t, l1, hN, hs, hl => by
    simp only [List.length_cons] at hl
    have hy : y ∉ t := fun hy => by
      have := sub_len (l2 := t) hN (fun x hx => by rcases List.mem_cons.1 (hs x hx) with rfl | h; exact hy; exact h)
      omega
    refine List.nodup_cons.2 ⟨hy, nodup_of (l1 := l1.erase y) (hN.erase y) (fun z hz => ?_) ?_⟩
    · have h1 := (hN.mem_erase_iff).1 hz
      rcases List.mem_cons.1 (hs z h1.2) with h | h
      · exact absurd h h1.1
      · exact h
    · rw [List.length_erase]; split <;> omega
def iota (n : Nat) : List Int := (List.range n).map Int.ofNat
theorem iota_nodup (n : Nat) : (iota n).Nodup := by
  unfold iota
  exact List.Pairwise.map _ (fun a b h e => h (Int.ofNat.inj e)) List.nodup_range
theorem mem_iota {n : Nat} {x : Int} : x ∈ iota n ↔ 0 ≤ x ∧ x < n := by
  unfold iota
  simp only [List.mem_map, List.mem_range]
  constructor
  · rintro ⟨a, h, rfl⟩; simp; omega
  · intro h; exact ⟨x.toNat, by omega, by simp; omega⟩
theorem perm_of {n : Nat} {b : List (List Int)} (hl : b.flatten.length = n) (h : ∀ j : Nat, j < n → 0 ≤ posI b 0 j) : PermB n b := by
  have hs : ∀ x ∈ iota n, x ∈ b.flatten := fun x hx => by
    have h1 := mem_iota.1 hx
    have h2 := h x.toNat (by omega)
    have h3 : ((x.toNat : Nat) : Int) = x := by omega
    rw [h3] at h2
    rcases posI_or b 0 x with ⟨h4, _⟩ | ⟨_, _, h4⟩
    · omega
    · exact h4
  have hil : (iota n).length = n := by simp [iota]
  refine ⟨⟨nodup_of (iota_nodup n) hs (by omega), fun x hx => ?_⟩, h⟩
  refine mem_iota.1 (Classical.byContradiction fun hni => ?_)
  have h5 := sub_len (l2 := b.flatten.erase x) (iota_nodup n) (fun y hy => (List.mem_erase_of_ne (fun (e : y = x) => hni (by rw [← e]; exact hy))).2 (hs y hy))
  rw [List.length_erase_of_mem hx] at h5
  have := List.length_pos_of_mem hx
  omega
theorem perm_len {n : Nat} {b : List (List Int)} (h : PermB n b) : b.flatten.length = n := by
  have hil : (iota n).length = n := by simp [iota]
  have h1 := sub_len (l2 := iota n) h.1.1 (fun x hx => mem_iota.2 (h.1.2 x hx))
  have h2 := sub_len (l1 := iota n) (l2 := b.flatten) (iota_nodup n) (fun x hx => by
    have h1 := mem_iota.1 hx
    have h2 := h.2 x.toNat (by omega)
    have h3 : ((x.toNat : Nat) : Int) = x := by omega
    rw [h3] at h2
    rcases posI_or b 0 x with ⟨h4, _⟩ | ⟨_, _, h4⟩
    · omega
    · exact h4)
  omega
/-- the plan fits -/
def Fits (l : List Cm) (b : List (List Int)) : Prop :=
  cmsOkB l = true ∧ PermB l.length b ∧ ∀ i k : Nat, k < i → i < l.length → clashB (cmAt l i) (cmAt l k) = true → posI b 0 k < posI b 0 i
open Classical in
noncomputable def fitsB (l : List Cm) (b : List (List Int)) : Bool := decide (Fits l b)
theorem fits_yes {l : List Cm} {b : List (List Int)} (h : Fits l b) : fitsB l b = true := by unfold fitsB; exact @decide_eq_true _ (Classical.propDecidable _) h
theorem fits_no {l : List Cm} {b : List (List Int)} (h : ¬ Fits l b) : fitsB l b = false := by unfold fitsB; exact @decide_eq_false _ (Classical.propDecidable _) h
end Go.Proofs.Ytdphdnllhmnelaa
/- Flat (its length), slices.IndexFunc with BatchFits' test: contracts over new-style rows of []int. -/
namespace Go.Proofs.Ytdphdnllhmnelaa
open Go.RowKit
/-- a list of numbers that is read, with its capacity -/
def intRc (w : World) (cs : List Value) (x : List Int) : Prop := ∃ (A1 : Option Addr) (n1 c1 : Nat), cs = [.slice A1 n1 c1] ∧ IntR w A1 n1 c1 x ∧ n1 ≤ c1
theorem intKc : KindOk intRc intF 1 where
  rlen := fun h => by obtain ⟨A1, n1, c1, rfl, h1⟩ := h; rfl
  rkeep := fun h hb => by obtain ⟨A1, n1, c1, rfl, h1, h2⟩ := h; exact ⟨A1, n1, c1, rfl, h1.keep hb, h2⟩
  flt := fun h b hb => by obtain ⟨A1, n1, c1, rfl, h1⟩ := h; exact h1.lt b hb
  fch := fun h hc hS => by obtain ⟨A1, n1, c1, rfl, h1⟩ := h; exact ⟨A1, n1, c1, rfl, h1.ch hc hS⟩
  fr := fun h => by obtain ⟨A1, n1, c1, rfl, h1⟩ := h; exact ⟨A1, n1, c1, rfl, h1.at_, (own_le h1.2).1⟩
  one := fun h v hv => by
    obtain ⟨A1, n1, c1, rfl, h1⟩ := h
    simp only [List.mem_cons, List.not_mem_nil, or_false] at hv
    subst hv; rfl
theorem intR_cells {w : World} {A : Option Addr} {n c : Nat} {l : List Int} (h : IntR w A n c l) : CellsAt w A n 1 (l.map (Value.int .i64)) := by
  have h := h.1
  refine ⟨by simp [h.1], fun hn => ?_⟩
  obtain ⟨b, off, rfl, _, hc⟩ := h.2 hn
  refine ⟨b, off, rfl, fun j u hu => ?_⟩
  have hl := h.1
  have hj : j < l.length := by
    have := (List.getElem?_eq_some_iff.1 hu).1
    simpa using this
  rw [hc j (by omega)]
  simp [hj] at hu
  rw [← hu]; unfold intV; rw [iAt_get hj]
theorem intL_one (l : List Int) : ∀ u ∈ l.map (Value.int .i64), u.oneCell' = true := by
  intro u hu
  obtain ⟨x, _, rfl⟩ := List.mem_map.1 hu
  rfl
def flatTo (l : List (List Int)) (k : Nat) : List Int := (l.take k).flatten
theorem flatTo_zero (l : List (List Int)) : flatTo l 0 = [] := by simp [flatTo]
theorem flatTo_succ {l : List (List Int)} {k : Nat} {x : List Int} (hx : l[k]? = some x) : flatTo l (k + 1) = flatTo l k ++ x := by
  obtain ⟨h, rfl⟩ := List.getElem?_eq_some_iff.1 hx
  unfold flatTo; rw [take_snoc l k h, List.flatten_append, List.flatten_cons, List.flatten_nil, List.append_nil]
theorem flat_len_le : ∀ l : List (List Int), l.flatten.length ≤ intssSz l
  | [] => by simp
  | x :: l => by
    have := flat_len_le l
    unfold intssSz at this ⊢
    have e : intsSz x = x.length := rfl
    rw [List.flatten_cons, List.length_append, List.map_cons, List.sum_cons, List.length_cons, e]; omega
theorem flatTo_len (l : List (List Int)) (k : Nat) : (flatTo l k).length ≤ intssSz l := by
  have h : (flatTo l k).length ≤ l.flatten.length := by
    have e : l.flatten = flatTo l k ++ (l.drop k).flatten := by unfold flatTo; rw [← List.flatten_append, List.take_append_drop]
    rw [e]; simp
  have := flat_len_le l; omega
theorem flatTo_all (l : List (List Int)) {n : Nat} (h : l.length ≤ n) : flatTo l n = l.flatten := by unfold flatTo; rw [List.take_of_length_le h]
attribute [local irreducible] IntsAt IntR RowR
theorem flatLen_impl (A0 : Option Addr) (n0 c0 : Nat) (l0 : List (List Int)) (w : World) (h0 : RowR intRc 1 w A0 n0 c0 l0) (s0 : intssSz l0 ≤ 1048576) :
    Calls Try.prog 44 #[.slice A0 n0 c0] w fun e w' => ∃ O cap, e = .returned (.slice O l0.flatten.length cap) ∧ Below w.heap.size w w' := by
  have HL := Lib.hid h0.len.symm
  have hn : n0 ≤ 1048576 := by have := h0.len; unfold intssSz at s0; omega
  go_enter Try.func44, Try.ntmps44
  go_wp2
  go_loopw [3, 9] (fun o i wr => ∃ (k : Nat) (O : Option Addr) (cap : Nat), k ≤ n0 ∧ i = .int .i64 k ∧ o = .slice O (flatTo l0 k).length cap ∧ wr.ownsRow w.heap.size 3 1 (.slice O (flatTo l0 k).length cap) (flatTo l0 k).length ((flatTo l0 k).map (Value.int .i64)) ∧ Below w.heap.size w wr) (fun _ i _ => n0 - (intOf i).toNat)
  case atStart => exact ⟨0, _, _, Nat.zero_le _, rfl, by rw [flatTo_zero]; rfl, by rw [flatTo_zero]; exact own_empty w _ _ (Nat.le_refl _), by go_grown⟩
  case round =>
    obtain ⟨k, O, cap, hk, rfl, rfl, hown, hb⟩ := hrel
    by_cases hlt : k < n0
    · obtain ⟨b, off, rfl⟩ := h0.head (by omega)
      obtain ⟨hbl, x, cs, hx, ⟨A1, n1, c1, rfl, hat, hcap⟩, hcell⟩ := h0.elem_at hlt
      have hck := (hb.cell (p := ⟨b, off + k, none⟩) hbl).trans (show w.cell? ⟨b, off + k, none⟩ = some (.slice A1 n1 c1) by simpa using hcell 0 _ rfl)
      clear hcell
      have hat2 := hat.keep hb
      have hn1 : n1 ≤ 1048576 := by have := hat.len; have := intss_el hx; unfold intsSz at this; omega
      have hle := flatTo_len l0 k
      have HS := Lib.hid (flatTo_succ hx)
      have hcl := intR_cells hat2
      have HN := Lib.hid hat.len
      have HC := Lib.hid (show A1 = none → c1 = 0 by unfold IntR at hat; exact hat.2)
      clear hcap
      go_wp2_with (at_builtin; refine wpList_app (P := Try.prog) wr rfl (.tmp 13) (.tmp 14) 78 rfl w.heap.size 3 _ 1 8 Try.underlying78 infoInt rfl (by omega) (.slice O _ cap) _ _ rfl hown A1 n1 c1 (x.map (Value.int .i64)) rfl hcl (intL_one _) HC.out (by unfold maxLen; omega) (by omega) hb.size ?_; intro A' c' w1 hown1 hg1 hb1 _)
      refine ⟨⟨k + 1, A', c', by omega, by go_num, ?_⟩, by simp [intOf]; omega⟩
      rw [HS.out]
      have hn2 := HN.out
      subst hn2
      exact ⟨by simp, by simpa using hown1, hb.trans hb1⟩
    · go_wp2
      go_returns
      have e := flatTo_all l0 (n := k) (by have := HL.out; omega)
      exact ⟨O, cap, by rw [e]; rfl, hb⟩
theorem fit_fn (A : Option Addr) (n c : Nat) (x : List Int) (j : Int) (B : Nat) (w : World) (h : IntR w A n c x) (hn : n ≤ 1048576) (hB : w.cell? ⟨B, 0, none⟩ = some (.int .i64 j)) :
    Calls Try.prog 66 #[.slice A n c, .pointer (some ⟨B, 0, none⟩)] w fun r w' => r = .returned (.bool (hasI x j)) ∧ w = w' := by
  have hlt := cell_lt hB
  go_enter Try.func66, Try.ntmps66
  go_wp2_with fail
  refine (containsI_any A n c x j _ (IntR.at_r h) (by omega)).mono ?_
  rintro r w1 ⟨rfl, rfl⟩
  go_wp2
  go_returns
  exact ⟨rfl, rfl⟩
theorem fit_idx (A : Option Addr) (n c : Nat) (l : List (List Int)) (j : Int) (B : Nat) (w : World) (h : RowR intRc 1 w A n c l) (s0 : intssSz l ≤ 1048576) (hB : w.cell? ⟨B, 0, none⟩ = some (.int .i64 j)) :
    Calls Try.prog 65 #[.slice A n c, .func (.func 66) #[] #[.pointer (some ⟨B, 0, none⟩)]] w fun r w' => r = .returned (.int .i64 (posI l 0 j)) ∧ w = w' := by
  have HL := Lib.hid h.len.symm
  have hn : n ≤ 1048576 := by have := h.len; unfold intssSz at s0; omega
  go_enter Try.func65, Try.ntmps65
  go_wp2
  go_loopw [8] (fun i wr => ∃ k : Nat, k ≤ n ∧ i = .int .i64 k ∧ posI l 0 j = posI (l.drop k) k j ∧ w = wr) (fun i _ => n - (intOf i).toNat)
  case atStart => exact ⟨0, Nat.zero_le _, rfl, rfl, rfl⟩
  case round =>
    obtain ⟨k, hk, rfl, hx, rfl⟩ := hrel
    have HX := Lib.hid hx; clear hx
    by_cases hlt : k < n
    · obtain ⟨b, off, rfl⟩ := h.head (by omega)
      obtain ⟨hbl, x, cs, hx, ⟨A1, n1, c1, rfl, hat, hcap⟩, hcell⟩ := h.elem_at hlt
      have hck := (show w.cell? ⟨b, off + k, none⟩ = some (.slice A1 n1 c1) by simpa using hcell 0 _ rfl)
      clear hcell
      have hn1 : n1 ≤ 1048576 := by have := hat.len; have := intss_el hx; unfold intsSz at this; omega
      have HP := Lib.hid (posI_drop j (show k < l.length by have := HL.out; omega))
      have HA := Lib.hid (show lAt l k = x by obtain ⟨h1, h2⟩ := List.getElem?_eq_some_iff.1 hx; rw [lAt_get h1, h2])
      clear hx hcap
      go_wp2_with fail
      refine (fit_fn A1 n1 c1 x j B _ hat hn1 hB).mono ?_
      rintro r w1 ⟨rfl, rfl⟩
      obtain ⟨q, hq⟩ : ∃ q, hasI x j = q := ⟨_, rfl⟩
      have HQ := Lib.hid hq
      rw [hq]
      clear hq
      cases q
      · go_wp2
        exact ⟨⟨k + 1, by omega, by go_num, by rw [HX.out, HP.out, HA.out, HQ.out]; rfl, by first | trivial | rfl⟩, by simp [intOf]; omega⟩
      · go_wp2
        go_returns
        exact ⟨by rw [HX.out, HP.out, HA.out, HQ.out]; rfl, rfl⟩
    · go_wp2
      go_returns
      obtain rfl : k = n := by omega
      exact ⟨by rw [HX.out, List.drop_eq_nil_of_le (by have := HL.out; omega)]; rfl, rfl⟩
end Go.Proofs.Ytdphdnllhmnelaa
/- A region that draws its order, walked by an invariant over what has been done: no listing of orders. -/
namespace Go.Proofs.Ytdphdnllhmnelaa
section
variable {P : Program} {ops : Array Oper} {Q : Exit → Act → World → Prop}

/-- every edge leads to an operation ahead -/
def dagB (ops : Array Oper) : Bool := (List.range ops.size).all fun i => ((ops[i]?).map fun (o : Oper) => o.after.all fun e => decide (e.on < i) || !Region.binds .any e).getD true
/-- operation i waits for operation j -/
def depB (ops : Array Oper) (i j : Nat) : Bool := ((ops[i]?).map fun (o : Oper) => o.after.any fun e => Region.binds .any e && decide (e.on = j)).getD false

theorem getD_of {L : Array Bool} {i : Nat} (hi : i < L.size) (b : Bool) : L.getD i b = L[i] := by simp [Array.getD, hi]
theorem dag_none (hB : dagB ops = true) {L : Array Bool} (hL : L.size = ops.size) (h : Region.ready .any ops L = []) : ∀ i, i < ops.size → L.getD i false = true := by
  intro i
  induction i using Nat.strongRecOn with
  | _ i ih =>
    intro hi
    have hb := List.all_eq_true.1 hB i (List.mem_range.2 hi)
    have ho : ops[i]? = some ops[i] := Array.getElem?_eq_getElem hi
    rw [ho] at hb
    simp only [Option.map_some, Option.getD_some, Array.all_eq_true'] at hb
    cases hc : L.getD i false with
    | true => rfl
    | false =>
      have hm : i ∈ Region.ready .any ops L := by
        rw [mem_ready]
        refine ⟨by rw [getD_of (by omega)] at hc ⊢; exact hc, _, ho, fun e he hbi => ?_⟩
        have := hb e he
        simp only [hbi, Bool.not_true, Bool.or_false, decide_eq_true_eq] at this
        exact ih e.on this (by omega)
      rw [h] at hm; cases hm
theorem dag_set {L : Array Bool} {i : Nat} (hi : i < L.size) : (fun k => (L.setIfInBounds i true).getD k false) = fun k => k == i || L.getD k false := by
  funext k
  by_cases e : k = i
  · subst e; simp [Array.getD, hi]
  · have : (k == i) = false := by simp [e]
    rw [this, Bool.false_or]
    simp only [Array.getD, Array.size_setIfInBounds]
    split
    · rename_i hk
      rw [Array.getInternal_eq_getElem, Array.getInternal_eq_getElem, Array.getElem_setIfInBounds hk]; simp [Ne.symm e]
    · rfl
theorem dag_count {L : Array Bool} {i : Nat} (h : L.getD i true = false) : (L.setIfInBounds i true).toList.countP (!·) + 1 ≤ L.toList.countP (!·) := by
  have hi : i < L.size := by
    rcases Nat.lt_or_ge i L.size with h' | h'
    · exact h'
    · rw [Array.getD, dif_neg (by omega)] at h; cases h
  rw [getD_of hi] at h
  rw [Array.toList_setIfInBounds, List.countP_set (by simpa using hi)]
  have hp : 0 < L.toList.countP (!·) := List.countP_pos_iff.2 ⟨L[i], by simp, by simp [h]⟩
  have e1 : L.toList[i]'(by simpa using hi) = false := by simpa using h
  rw [e1]
  simp only [Bool.not_false, Bool.not_true, if_true, Bool.false_eq_true, if_false]
  omega
theorem dag_any (hB : dagB ops = true) (I : (Nat → Bool) → Act → World → Prop)
    (st : ∀ i D a w, i < ops.size → D i = false → (∀ j, depB ops i j = true → D j = true) → I D a w → wpOp P ops Q i (I (fun k => k == i || D k)) a w)
    (hend : ∀ D a w, (∀ i, i < ops.size → D i = true) → I D a w → Q .normal a w) :
    ∀ (fuel : Nat) (L : Array Bool) (a : Act) (w : World), L.size = ops.size → L.toList.countP (!·) ≤ fuel → I (fun k => L.getD k false) a w → wpAny P .any ops Q fuel L a w := by
  intro fuel
  induction fuel with
  | zero =>
    intro L a w hL hc hI
    have hr : Region.ready .any ops L = [] := by
      rw [List.eq_nil_iff_forall_not_mem]
      intro i hi
      have := dag_count (mem_ready.1 hi).1
      omega
    exact ⟨hr, hend _ a w (dag_none hB hL hr) hI⟩
  | succ fuel ih =>
    intro L a w hL hc hI
    refine ⟨fun hr => hend _ a w (dag_none hB hL hr) hI, fun i hi => ?_⟩
    obtain ⟨h0, o, ho, hall⟩ := mem_ready.1 hi
    have hin : i < ops.size := (Array.getElem?_eq_some_iff.1 ho).1
    have hci := dag_count h0
    refine wpOp_mono (fun a' w' h => ih _ a' w' (by simpa using hL) (by omega) (by rw [dag_set (by omega)]; exact h)) (st i _ a w hin ?_ ?_ hI)
    · rw [getD_of (by omega)] at h0 ⊢; exact h0
    · intro j hj
      unfold depB at hj
      rw [ho] at hj
      simp only [Option.map_some, Option.getD_some, Array.any_eq_true', Bool.and_eq_true, decide_eq_true_eq] at hj
      obtain ⟨e, he, hb, rfl⟩ := hj
      exact hall e he hb
theorem wp_region_dag {id : Nat} {a : Act} {w : World} (hm : P.follows .mixedOrders = true) (hB : dagB ops = true) (I : (Nat → Bool) → Act → World → Prop) (h0 : I (fun _ => false) a w.drew)
    (st : ∀ i D a w, i < ops.size → D i = false → (∀ j, depB ops i j = true → D j = true) → I D a w → wpOp P ops Q i (I (fun k => k == i || D k)) a w)
    (hend : ∀ D a w, (∀ i, i < ops.size → D i = true) → I D a w → Q .normal a w) : (Code.region id ops true).wp P Q a w := by
  refine wp_region_any hm (dag_any hB I st hend _ _ _ _ (by simp) ?_ ?_)
  · refine Nat.le_trans (List.countP_le_length) ?_
    simp
  · have : (fun k => (Array.replicate ops.size false).getD k false) = fun _ => false := by
      funext k
      simp only [Array.getD, Array.size_replicate]
      split
      · rw [Array.getInternal_eq_getElem, Array.getElem_replicate]
      · rfl
    rw [this]
    exact h0
end
end Go.Proofs.Ytdphdnllhmnelaa
/- A region that draws its order, walked by an invariant over what has been done; the slots that it writes are given by their numbers alone. -/
namespace Go.Proofs.Ytdphdnllhmnelaa
/-- slots set, one by one -/
def putAll (a : Act) : List Nat → List Value → Act
  | i :: is, v :: vs => putAll { a with tmps := a.tmps.setIfInBounds i v } is vs
  | _, _ => a
theorem putAll_self (a : Act) : ∀ ss : List Nat, putAll a ss (ss.map fun i => a.tmps.getD i undef) = a
  | [] => rfl
  | i :: is => by
    have h : ({ a with tmps := a.tmps.setIfInBounds i (a.tmps.getD i undef) } : Act) = a := by
      have : a.tmps.setIfInBounds i (a.tmps.getD i undef) = a.tmps := by
        apply Array.ext
        · simp
        · intro k h1 h2
          rw [Array.getElem_setIfInBounds]
          split
          · rename_i e; subst e; simp [Array.getD, h2]
          · rfl
      rw [this]
    show putAll { a with tmps := a.tmps.setIfInBounds i (a.tmps.getD i undef) } is (is.map fun i => a.tmps.getD i undef) = a
    rw [h]; exact putAll_self a is
section
variable {P : Program} {ops : Array Oper} {Q : Exit → Act → World → Prop}
theorem wp_region_dagb {id : Nat} {a : Act} {w : World} (ss : List Nat) (hm : P.follows .mixedOrders = true) (hB : dagB ops = true) (J : (Nat → Bool) → List Value → World → Prop)
    (h0 : J (fun _ => false) (ss.map fun i => a.tmps.getD i undef) w.drew)
    (st : ∀ i D vs w, i < ops.size → D i = false → (∀ j, depB ops i j = true → D j = true) → (∀ i j, D i = true → depB ops i j = true → D j = true) → J D vs w →
      wpOp P ops Q i (fun a' w' => ∃ vs', a' = putAll a ss vs' ∧ J (fun k => k == i || D k) vs' w') (putAll a ss vs) w)
    (hend : ∀ D vs w, (∀ i, i < ops.size → D i = true) → J D vs w → Q .normal (putAll a ss vs) w) : (Code.region id ops true).wp P Q a w :=
  wp_region_dag hm hB (fun D a' w' => (∀ i j, D i = true → depB ops i j = true → D j = true) ∧ ∃ vs', a' = putAll a ss vs' ∧ J D vs' w') ⟨(fun _ _ h => by cases h), _, (putAll_self a ss).symm, h0⟩
    (fun i D a' w' hi hD hdep hI => by
      obtain ⟨hcl, vs, rfl, hJ⟩ := hI
      refine wpOp_mono (fun a' w' h => ⟨fun k j hk hj => ?_, h⟩) (st i D vs w' hi hD hdep hcl hJ)
      simp only [Bool.or_eq_true] at hk ⊢
      rcases hk with hk | hk
      · have : k = i := by simpa using hk
        subst this; exact .inr (hdep j hj)
      · exact .inr (hcl k j hk hj))
    (fun D a' w' hD hI => by obtain ⟨_, vs, rfl, hJ⟩ := hI; exact hend D vs w' hD hJ)
end
end Go.Proofs.Ytdphdnllhmnelaa
/- A region that draws its order and holds loads of old cells and calls that make memory: one walk in the order of the text, over the class of worlds in which all that lay lies. -/
namespace Go.Proofs.Ytdphdnllhmnelaa
open Go.RowKit

/-- a world in which all that lay in w lies -/
def Grow (w : World) : Type := { X : World // Below w.heap.size w X }
instance {w : World} : Nonempty (Grow w) := ⟨⟨w, Below.refl _ _⟩⟩
def Grow.at_ {w : World} (X : Grow w) : World := X.1
theorem Grow.below {w : World} (X : Grow w) : Below w.heap.size w X.at_ := X.2
theorem Grow.cell {w : World} (X : Grow w) {b o : Nat} (h : b < w.heap.size) : X.at_.cell? ⟨b, o, none⟩ = w.cell? ⟨b, o, none⟩ := X.2.cell h
theorem Grow.frozen {w : World} (X : Grow w) {b o : Nat} (h : b < w.heap.size) : X.at_.frozen? ⟨b, o, none⟩ = w.frozen? ⟨b, o, none⟩ := X.2.frozen h
theorem Grow.cell_of {w : World} (X : Grow w) {b o : Nat} {v : Value} (h : b < w.heap.size) (hc : w.cell? ⟨b, o, none⟩ = some v) : X.at_.cell? ⟨b, o, none⟩ = some v := (X.cell h).trans hc
def Grow.mk' {w W : World} (h : Below w.heap.size w W) : Grow w := ⟨W, h⟩
theorem wp_region_grow {P : Program} {id : Nat} {Q : Exit → Act → World → Prop} {a : Act} {w : World} {l : List Oper} (hm : P.follows .mixedOrders = true) (hB : Region.lexB .any l.toArray = true)
    (h : wpQuiet P l.toArray (fun w' => ∃ X : Grow w, w' = X.at_) (fun a' => ∀ w', (∃ X : Grow w, w' = X.at_) → Q .normal a' w') l a) : (Code.region id l.toArray true).wp P Q a w :=
  wp_region_quiet (C := fun w' => ∃ X : Grow w, w' = X.at_) hm hB ⟨⟨w.drew, (Below.refl _ _).drew⟩, rfl⟩ (by simpa using h)
theorem grow_of {P : Program} {f : FuncId} {args : Array Value} {w : World} {X : Grow w} {v : Value} (h : Calls P f args X.at_ fun e w' => e = .returned v ∧ Below X.at_.heap.size X.at_ w') :
    Calls P f args X.at_ fun e w'' => e = .returned v ∧ ∃ Y : Grow w, w'' = Y.at_ :=
  h.mono fun _ w' ⟨he, hb⟩ => ⟨he, Grow.mk' (bthen X.below hb), rfl⟩
theorem grow_same {P : Program} {f : FuncId} {args : Array Value} {w : World} {X : Grow w} {v : Value} (h : Calls P f args X.at_ fun e w' => e = .returned v ∧ X.at_ = w') :
    Calls P f args X.at_ fun e w'' => e = .returned v ∧ ∃ Y : Grow w, w'' = Y.at_ :=
  h.mono fun _ w' ⟨he, hb⟩ => ⟨he, X, hb.symm⟩
/-- an answer that is known -/
theorem known {P : Program} {f : FuncId} {args : Array Value} {w : World} {T : World → Prop} {x y : Bool} (hx : x = y) (h : Calls P f args w fun e w' => e = .returned (.bool x) ∧ T w') : Calls P f args w fun e w' => e = .returned (.bool y) ∧ T w' := by
  subst hx; exact h
end Go.Proofs.Ytdphdnllhmnelaa
