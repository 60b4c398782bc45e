/- Contracts and lemmas: Clash, BatchL, CopyK, KindA, Batches, Grow. -/
import Derived.Test.YtdphdnllhmnelaaJ4
import Derived.Test.YtdphdnllhmnelaaJ5
import Derived.Test.YtdphdnllhmnelaaJ2
import Derived.Test.YtdphdnllhmnelaaJ0
import Derived.Test.YtdphdnllhmnelaaJ1
import Derived.Deep.Quiet
import Derived.BigQuiet
import Derived.Deep.QuietTactic
/- Contracts of Clash, areCmds and l34Ok. -/
namespace Go.Proofs.Ytdphdnllhmnelaa
open Go.RowKit
def clashB (x y : Cm) : Bool := cmOkB x && cmOkB y && !(x.kd == 0) && !(y.kd == 0) && ((x.kd == 7) || (y.kd == 7) || decide (x.s = y.s))
attribute [local irreducible] StrsAt cmOkB

set_option maxRecDepth 8000 in
set_option maxHeartbeats 1000000 in
theorem clash_impl (x y : Cm) (A1 : Option Addr) (n1 c1 : Nat) (A2 : Option Addr) (n2 c2 : Nat) (w : World) (h1 : StrR w A1 n1 c1 x.ch) (h2 : StrR w A2 n2 c2 y.ch) (hx : cmB x) (hy : cmB y) :
    Calls Try.prog 55 #[cmV x (.slice A1 n1 c1), cmV y (.slice A2 n2 c2)] w fun e w' => e = .returned (.bool (clashB x y)) ∧ Below w.heap.size w w' := by
  obtain ⟨q1, hq1⟩ : ∃ q, cmOkB x = q := ⟨_, rfl⟩
  have Q1 := Lib.hid hq1; clear hq1
  obtain ⟨q2, hq2⟩ : ∃ q, cmOkB y = q := ⟨_, rfl⟩
  have Q2 := Lib.hid hq2; clear hq2
  have HV := Lib.hid (show clashB x y = (q1 && q2 && !(x.kd == 0) && !(y.kd == 0) && ((x.kd == 7) || (y.kd == 7) || decide (x.s = y.s))) by unfold clashB; rw [Q1.out, Q2.out])
  have HS := Lib.hid (sbeq x.s y.s)
  cases q1
  · skip
    unfold cmV
    go_enter Try.func55, Try.ntmps55
    go_wp2_with fail
    refine (cmdOk_impl x _ _ _ _ (h1.keep (by go_grown)) hx).mono ?_
    rintro e w1 ⟨rfl, hb1⟩
    obtain ⟨hc_w1, hf_w1⟩ := bcell hb1
    have hz_w1 := hb1.size
    try simp at hz_w1
    have hB_w1 : Below w.heap.size w w1 := bthen (by go_grown) hb1
    have hz_w1_0 : w.heap.size < w1.heap.size := by omega
    have hz_w1_1 : w.heap.size + 1 < w1.heap.size := by omega
    rw [Q1.out]
    go_wp2
    go_returns
    exact ⟨ret_bool (by rw [HV.out]; simp), hB_w1⟩
  · cases q2
    · skip
      unfold cmV
      go_enter Try.func55, Try.ntmps55
      go_wp2_with fail
      refine (cmdOk_impl x _ _ _ _ (h1.keep (by go_grown)) hx).mono ?_
      rintro e w1 ⟨rfl, hb1⟩
      obtain ⟨hc_w1, hf_w1⟩ := bcell hb1
      have hz_w1 := hb1.size
      try simp at hz_w1
      have hB_w1 : Below w.heap.size w w1 := bthen (by go_grown) hb1
      have hz_w1_0 : w.heap.size < w1.heap.size := by omega
      have hz_w1_1 : w.heap.size + 1 < w1.heap.size := by omega
      rw [Q1.out]
      go_wp2_with fail
      refine (cmdOk_impl y _ _ _ _ (h2.keep hB_w1) hy).mono ?_
      rintro e w2 ⟨rfl, hb2⟩
      obtain ⟨hc_w2, hf_w2⟩ := bcell hb2
      have hz_w2 := hb2.size
      try simp at hz_w2
      have hB_w2 : Below w.heap.size w w2 := bthen hB_w1 hb2
      have hz_w2_0 : w.heap.size < w2.heap.size := by omega
      have hz_w2_1 : w.heap.size + 1 < w2.heap.size := by omega
      rw [Q2.out]
      go_wp2
      go_returns
      exact ⟨ret_bool (by rw [HV.out]; simp), hB_w2⟩
    · skip
      obtain ⟨t0, ht0⟩ : ∃ q, (x.kd == 0) = q := ⟨_, rfl⟩
      cases t0
      · skip
        obtain ⟨t1, ht1⟩ : ∃ q, (y.kd == 0) = q := ⟨_, rfl⟩
        cases t1
        · skip
          obtain ⟨t2, ht2⟩ : ∃ q, (x.kd == 7) = q := ⟨_, rfl⟩
          cases t2
          · skip
            obtain ⟨t3, ht3⟩ : ∃ q, (y.kd == 7) = q := ⟨_, rfl⟩
            cases t3
            · skip
              obtain ⟨t4, ht4⟩ : ∃ q, (x.s.toList == y.s.toList) = q := ⟨_, rfl⟩
              have T0 := Lib.hid ht0
              have T1 := Lib.hid ht1
              have T2 := Lib.hid ht2
              have T3 := Lib.hid ht3
              have T4 := Lib.hid ht4
              cases t4
              · skip
                unfold cmV
                go_enter Try.func55, Try.ntmps55
                go_wp2_with fail
                refine (cmdOk_impl x _ _ _ _ (h1.keep (by go_grown)) hx).mono ?_
                rintro e w1 ⟨rfl, hb1⟩
                obtain ⟨hc_w1, hf_w1⟩ := bcell hb1
                have hz_w1 := hb1.size
                try simp at hz_w1
                have hB_w1 : Below w.heap.size w w1 := bthen (by go_grown) hb1
                have hz_w1_0 : w.heap.size < w1.heap.size := by omega
                have hz_w1_1 : w.heap.size + 1 < w1.heap.size := by omega
                rw [Q1.out]
                go_wp2_with fail
                refine (cmdOk_impl y _ _ _ _ (h2.keep hB_w1) hy).mono ?_
                rintro e w2 ⟨rfl, hb2⟩
                obtain ⟨hc_w2, hf_w2⟩ := bcell hb2
                have hz_w2 := hb2.size
                try simp at hz_w2
                have hB_w2 : Below w.heap.size w w2 := bthen hB_w1 hb2
                have hz_w2_0 : w.heap.size < w2.heap.size := by omega
                have hz_w2_1 : w.heap.size + 1 < w2.heap.size := by omega
                rw [Q2.out]
                go_wp2
                go_returns
                exact ⟨ret_bool (by rw [HV.out]; rw [T0.out, T1.out, T2.out, T3.out, ← HS.out, T4.out]; rfl), hB_w2⟩
              · skip
                unfold cmV
                go_enter Try.func55, Try.ntmps55
                go_wp2_with fail
                refine (cmdOk_impl x _ _ _ _ (h1.keep (by go_grown)) hx).mono ?_
                rintro e w1 ⟨rfl, hb1⟩
                obtain ⟨hc_w1, hf_w1⟩ := bcell hb1
                have hz_w1 := hb1.size
                try simp at hz_w1
                have hB_w1 : Below w.heap.size w w1 := bthen (by go_grown) hb1
                have hz_w1_0 : w.heap.size < w1.heap.size := by omega
                have hz_w1_1 : w.heap.size + 1 < w1.heap.size := by omega
                rw [Q1.out]
                go_wp2_with fail
                refine (cmdOk_impl y _ _ _ _ (h2.keep hB_w1) hy).mono ?_
                rintro e w2 ⟨rfl, hb2⟩
                obtain ⟨hc_w2, hf_w2⟩ := bcell hb2
                have hz_w2 := hb2.size
                try simp at hz_w2
                have hB_w2 : Below w.heap.size w w2 := bthen hB_w1 hb2
                have hz_w2_0 : w.heap.size < w2.heap.size := by omega
                have hz_w2_1 : w.heap.size + 1 < w2.heap.size := by omega
                rw [Q2.out]
                go_wp2
                go_returns
                exact ⟨ret_bool (by rw [HV.out]; rw [T0.out, T1.out, T2.out, T3.out, ← HS.out, T4.out]; rfl), hB_w2⟩
            · have T3 := Lib.hid ht3
              have T0 := Lib.hid ht0
              have T1 := Lib.hid ht1
              unfold cmV
              go_enter Try.func55, Try.ntmps55
              go_wp2_with fail
              refine (cmdOk_impl x _ _ _ _ (h1.keep (by go_grown)) hx).mono ?_
              rintro e w1 ⟨rfl, hb1⟩
              obtain ⟨hc_w1, hf_w1⟩ := bcell hb1
              have hz_w1 := hb1.size
              try simp at hz_w1
              have hB_w1 : Below w.heap.size w w1 := bthen (by go_grown) hb1
              have hz_w1_0 : w.heap.size < w1.heap.size := by omega
              have hz_w1_1 : w.heap.size + 1 < w1.heap.size := by omega
              rw [Q1.out]
              go_wp2_with fail
              refine (cmdOk_impl y _ _ _ _ (h2.keep hB_w1) hy).mono ?_
              rintro e w2 ⟨rfl, hb2⟩
              obtain ⟨hc_w2, hf_w2⟩ := bcell hb2
              have hz_w2 := hb2.size
              try simp at hz_w2
              have hB_w2 : Below w.heap.size w w2 := bthen hB_w1 hb2
              have hz_w2_0 : w.heap.size < w2.heap.size := by omega
              have hz_w2_1 : w.heap.size + 1 < w2.heap.size := by omega
              rw [Q2.out]
              go_wp2
              go_returns
              exact ⟨ret_bool (by rw [HV.out]; rw [T0.out, T1.out, T3.out]; simp), hB_w2⟩
          · have T2 := Lib.hid ht2
            have T0 := Lib.hid ht0
            have T1 := Lib.hid ht1
            unfold cmV
            go_enter Try.func55, Try.ntmps55
            go_wp2_with fail
            refine (cmdOk_impl x _ _ _ _ (h1.keep (by go_grown)) hx).mono ?_
            rintro e w1 ⟨rfl, hb1⟩
            obtain ⟨hc_w1, hf_w1⟩ := bcell hb1
            have hz_w1 := hb1.size
            try simp at hz_w1
            have hB_w1 : Below w.heap.size w w1 := bthen (by go_grown) hb1
            have hz_w1_0 : w.heap.size < w1.heap.size := by omega
            have hz_w1_1 : w.heap.size + 1 < w1.heap.size := by omega
            rw [Q1.out]
            go_wp2_with fail
            refine (cmdOk_impl y _ _ _ _ (h2.keep hB_w1) hy).mono ?_
            rintro e w2 ⟨rfl, hb2⟩
            obtain ⟨hc_w2, hf_w2⟩ := bcell hb2
            have hz_w2 := hb2.size
            try simp at hz_w2
            have hB_w2 : Below w.heap.size w w2 := bthen hB_w1 hb2
            have hz_w2_0 : w.heap.size < w2.heap.size := by omega
            have hz_w2_1 : w.heap.size + 1 < w2.heap.size := by omega
            rw [Q2.out]
            go_wp2
            go_returns
            exact ⟨ret_bool (by rw [HV.out]; rw [T0.out, T1.out, T2.out]; simp), hB_w2⟩
        · have T1 := Lib.hid ht1
          unfold cmV
          go_enter Try.func55, Try.ntmps55
          go_wp2_with fail
          refine (cmdOk_impl x _ _ _ _ (h1.keep (by go_grown)) hx).mono ?_
          rintro e w1 ⟨rfl, hb1⟩
          obtain ⟨hc_w1, hf_w1⟩ := bcell hb1
          have hz_w1 := hb1.size
          try simp at hz_w1
          have hB_w1 : Below w.heap.size w w1 := bthen (by go_grown) hb1
          have hz_w1_0 : w.heap.size < w1.heap.size := by omega
          have hz_w1_1 : w.heap.size + 1 < w1.heap.size := by omega
          rw [Q1.out]
          go_wp2_with fail
          refine (cmdOk_impl y _ _ _ _ (h2.keep hB_w1) hy).mono ?_
          rintro e w2 ⟨rfl, hb2⟩
          obtain ⟨hc_w2, hf_w2⟩ := bcell hb2
          have hz_w2 := hb2.size
          try simp at hz_w2
          have hB_w2 : Below w.heap.size w w2 := bthen hB_w1 hb2
          have hz_w2_0 : w.heap.size < w2.heap.size := by omega
          have hz_w2_1 : w.heap.size + 1 < w2.heap.size := by omega
          rw [Q2.out]
          go_wp2
          go_returns
          exact ⟨ret_bool (by rw [HV.out]; rw [T1.out]; simp), hB_w2⟩
      · have T0 := Lib.hid ht0
        unfold cmV
        go_enter Try.func55, Try.ntmps55
        go_wp2_with fail
        refine (cmdOk_impl x _ _ _ _ (h1.keep (by go_grown)) hx).mono ?_
        rintro e w1 ⟨rfl, hb1⟩
        obtain ⟨hc_w1, hf_w1⟩ := bcell hb1
        have hz_w1 := hb1.size
        try simp at hz_w1
        have hB_w1 : Below w.heap.size w w1 := bthen (by go_grown) hb1
        have hz_w1_0 : w.heap.size < w1.heap.size := by omega
        have hz_w1_1 : w.heap.size + 1 < w1.heap.size := by omega
        rw [Q1.out]
        go_wp2_with fail
        refine (cmdOk_impl y _ _ _ _ (h2.keep hB_w1) hy).mono ?_
        rintro e w2 ⟨rfl, hb2⟩
        obtain ⟨hc_w2, hf_w2⟩ := bcell hb2
        have hz_w2 := hb2.size
        try simp at hz_w2
        have hB_w2 : Below w.heap.size w w2 := bthen hB_w1 hb2
        have hz_w2_0 : w.heap.size < w2.heap.size := by omega
        have hz_w2_1 : w.heap.size + 1 < w2.heap.size := by omega
        rw [Q2.out]
        go_wp2
        go_returns
        exact ⟨ret_bool (by rw [HV.out]; rw [T0.out]; simp), hB_w2⟩
set_option maxRecDepth 8000 in
set_option maxHeartbeats 1000000 in
theorem clash_spec (x y : Cm) (A1 : Option Addr) (n1 c1 : Nat) (A2 : Option Addr) (n2 c2 : Nat) (w : World) (h1 : StrR w A1 n1 c1 x.ch) (h2 : StrR w A2 n2 c2 y.ch) (hx : cmB x) (hy : cmB y) :
    Calls Try.prog 52 #[cmV x (.slice A1 n1 c1), cmV y (.slice A2 n2 c2)] w fun e w' => e = .returned (.bool (clashB x y)) ∧ Below w.heap.size w w' := by
  obtain ⟨q1, hq1⟩ : ∃ q, cmOkB x = q := ⟨_, rfl⟩
  have Q1 := Lib.hid hq1; clear hq1
  obtain ⟨q2, hq2⟩ : ∃ q, cmOkB y = q := ⟨_, rfl⟩
  have Q2 := Lib.hid hq2; clear hq2
  have HV := Lib.hid (show clashB x y = (q1 && q2 && !(x.kd == 0) && !(y.kd == 0) && ((x.kd == 7) || (y.kd == 7) || decide (x.s = y.s))) by unfold clashB; rw [Q1.out, Q2.out])
  have HS := Lib.hid (sbeq x.s y.s)
  cases q1
  · skip
    unfold cmV
    go_enter Try.func52, Try.ntmps52
    go_wp2_with fail
    refine (cmdOk_spec x _ _ _ _ (h1.keep (by go_grown)) hx).mono ?_
    rintro e w1 ⟨rfl, hb1⟩
    obtain ⟨hc_w1, hf_w1⟩ := bcell hb1
    have hz_w1 := hb1.size
    try simp at hz_w1
    have hB_w1 : Below w.heap.size w w1 := bthen (by go_grown) hb1
    have hz_w1_0 : w.heap.size < w1.heap.size := by omega
    have hz_w1_1 : w.heap.size + 1 < w1.heap.size := by omega
    rw [Q1.out]
    go_wp2
    go_returns
    exact ⟨ret_bool (by rw [HV.out]; simp), hB_w1⟩
  · cases q2
    · skip
      unfold cmV
      go_enter Try.func52, Try.ntmps52
      go_wp2_with fail
      refine (cmdOk_spec x _ _ _ _ (h1.keep (by go_grown)) hx).mono ?_
      rintro e w1 ⟨rfl, hb1⟩
      obtain ⟨hc_w1, hf_w1⟩ := bcell hb1
      have hz_w1 := hb1.size
      try simp at hz_w1
      have hB_w1 : Below w.heap.size w w1 := bthen (by go_grown) hb1
      have hz_w1_0 : w.heap.size < w1.heap.size := by omega
      have hz_w1_1 : w.heap.size + 1 < w1.heap.size := by omega
      rw [Q1.out]
      go_wp2_with fail
      refine (cmdOk_spec y _ _ _ _ (h2.keep hB_w1) hy).mono ?_
      rintro e w2 ⟨rfl, hb2⟩
      obtain ⟨hc_w2, hf_w2⟩ := bcell hb2
      have hz_w2 := hb2.size
      try simp at hz_w2
      have hB_w2 : Below w.heap.size w w2 := bthen hB_w1 hb2
      have hz_w2_0 : w.heap.size < w2.heap.size := by omega
      have hz_w2_1 : w.heap.size + 1 < w2.heap.size := by omega
      rw [Q2.out]
      go_wp2
      go_returns
      exact ⟨ret_bool (by rw [HV.out]; simp), hB_w2⟩
    · skip
      obtain ⟨t0, ht0⟩ : ∃ q, (x.kd == 0) = q := ⟨_, rfl⟩
      cases t0
      · skip
        obtain ⟨t1, ht1⟩ : ∃ q, (y.kd == 0) = q := ⟨_, rfl⟩
        cases t1
        · skip
          obtain ⟨t2, ht2⟩ : ∃ q, (x.kd == 7) = q := ⟨_, rfl⟩
          cases t2
          · skip
            obtain ⟨t3, ht3⟩ : ∃ q, (y.kd == 7) = q := ⟨_, rfl⟩
            cases t3
            · skip
              obtain ⟨t4, ht4⟩ : ∃ q, (x.s.toList == y.s.toList) = q := ⟨_, rfl⟩
              have T0 := Lib.hid ht0
              have T1 := Lib.hid ht1
              have T2 := Lib.hid ht2
              have T3 := Lib.hid ht3
              have T4 := Lib.hid ht4
              cases t4
              · skip
                unfold cmV
                go_enter Try.func52, Try.ntmps52
                go_wp2_with fail
                refine (cmdOk_spec x _ _ _ _ (h1.keep (by go_grown)) hx).mono ?_
                rintro e w1 ⟨rfl, hb1⟩
                obtain ⟨hc_w1, hf_w1⟩ := bcell hb1
                have hz_w1 := hb1.size
                try simp at hz_w1
                have hB_w1 : Below w.heap.size w w1 := bthen (by go_grown) hb1
                have hz_w1_0 : w.heap.size < w1.heap.size := by omega
                have hz_w1_1 : w.heap.size + 1 < w1.heap.size := by omega
                rw [Q1.out]
                go_wp2_with fail
                refine (cmdOk_spec y _ _ _ _ (h2.keep hB_w1) hy).mono ?_
                rintro e w2 ⟨rfl, hb2⟩
                obtain ⟨hc_w2, hf_w2⟩ := bcell hb2
                have hz_w2 := hb2.size
                try simp at hz_w2
                have hB_w2 : Below w.heap.size w w2 := bthen hB_w1 hb2
                have hz_w2_0 : w.heap.size < w2.heap.size := by omega
                have hz_w2_1 : w.heap.size + 1 < w2.heap.size := by omega
                rw [Q2.out]
                go_wp2
                go_returns
                exact ⟨ret_bool (by rw [HV.out]; rw [T0.out, T1.out, T2.out, T3.out, ← HS.out, T4.out]; rfl), hB_w2⟩
              · skip
                unfold cmV
                go_enter Try.func52, Try.ntmps52
                go_wp2_with fail
                refine (cmdOk_spec x _ _ _ _ (h1.keep (by go_grown)) hx).mono ?_
                rintro e w1 ⟨rfl, hb1⟩
                obtain ⟨hc_w1, hf_w1⟩ := bcell hb1
                have hz_w1 := hb1.size
                try simp at hz_w1
                have hB_w1 : Below w.heap.size w w1 := bthen (by go_grown) hb1
                have hz_w1_0 : w.heap.size < w1.heap.size := by omega
                have hz_w1_1 : w.heap.size + 1 < w1.heap.size := by omega
                rw [Q1.out]
                go_wp2_with fail
                refine (cmdOk_spec y _ _ _ _ (h2.keep hB_w1) hy).mono ?_
                rintro e w2 ⟨rfl, hb2⟩
                obtain ⟨hc_w2, hf_w2⟩ := bcell hb2
                have hz_w2 := hb2.size
                try simp at hz_w2
                have hB_w2 : Below w.heap.size w w2 := bthen hB_w1 hb2
                have hz_w2_0 : w.heap.size < w2.heap.size := by omega
                have hz_w2_1 : w.heap.size + 1 < w2.heap.size := by omega
                rw [Q2.out]
                go_wp2
                go_returns
                exact ⟨ret_bool (by rw [HV.out]; rw [T0.out, T1.out, T2.out, T3.out, ← HS.out, T4.out]; rfl), hB_w2⟩
            · have T3 := Lib.hid ht3
              have T0 := Lib.hid ht0
              have T1 := Lib.hid ht1
              unfold cmV
              go_enter Try.func52, Try.ntmps52
              go_wp2_with fail
              refine (cmdOk_spec x _ _ _ _ (h1.keep (by go_grown)) hx).mono ?_
              rintro e w1 ⟨rfl, hb1⟩
              obtain ⟨hc_w1, hf_w1⟩ := bcell hb1
              have hz_w1 := hb1.size
              try simp at hz_w1
              have hB_w1 : Below w.heap.size w w1 := bthen (by go_grown) hb1
              have hz_w1_0 : w.heap.size < w1.heap.size := by omega
              have hz_w1_1 : w.heap.size + 1 < w1.heap.size := by omega
              rw [Q1.out]
              go_wp2_with fail
              refine (cmdOk_spec y _ _ _ _ (h2.keep hB_w1) hy).mono ?_
              rintro e w2 ⟨rfl, hb2⟩
              obtain ⟨hc_w2, hf_w2⟩ := bcell hb2
              have hz_w2 := hb2.size
              try simp at hz_w2
              have hB_w2 : Below w.heap.size w w2 := bthen hB_w1 hb2
              have hz_w2_0 : w.heap.size < w2.heap.size := by omega
              have hz_w2_1 : w.heap.size + 1 < w2.heap.size := by omega
              rw [Q2.out]
              go_wp2
              go_returns
              exact ⟨ret_bool (by rw [HV.out]; rw [T0.out, T1.out, T3.out]; simp), hB_w2⟩
          · have T2 := Lib.hid ht2
            have T0 := Lib.hid ht0
            have T1 := Lib.hid ht1
            unfold cmV
            go_enter Try.func52, Try.ntmps52
            go_wp2_with fail
            refine (cmdOk_spec x _ _ _ _ (h1.keep (by go_grown)) hx).mono ?_
            rintro e w1 ⟨rfl, hb1⟩
            obtain ⟨hc_w1, hf_w1⟩ := bcell hb1
            have hz_w1 := hb1.size
            try simp at hz_w1
            have hB_w1 : Below w.heap.size w w1 := bthen (by go_grown) hb1
            have hz_w1_0 : w.heap.size < w1.heap.size := by omega
            have hz_w1_1 : w.heap.size + 1 < w1.heap.size := by omega
            rw [Q1.out]
            go_wp2_with fail
            refine (cmdOk_spec y _ _ _ _ (h2.keep hB_w1) hy).mono ?_
            rintro e w2 ⟨rfl, hb2⟩
            obtain ⟨hc_w2, hf_w2⟩ := bcell hb2
            have hz_w2 := hb2.size
            try simp at hz_w2
            have hB_w2 : Below w.heap.size w w2 := bthen hB_w1 hb2
            have hz_w2_0 : w.heap.size < w2.heap.size := by omega
            have hz_w2_1 : w.heap.size + 1 < w2.heap.size := by omega
            rw [Q2.out]
            go_wp2
            go_returns
            exact ⟨ret_bool (by rw [HV.out]; rw [T0.out, T1.out, T2.out]; simp), hB_w2⟩
        · have T1 := Lib.hid ht1
          unfold cmV
          go_enter Try.func52, Try.ntmps52
          go_wp2_with fail
          refine (cmdOk_spec x _ _ _ _ (h1.keep (by go_grown)) hx).mono ?_
          rintro e w1 ⟨rfl, hb1⟩
          obtain ⟨hc_w1, hf_w1⟩ := bcell hb1
          have hz_w1 := hb1.size
          try simp at hz_w1
          have hB_w1 : Below w.heap.size w w1 := bthen (by go_grown) hb1
          have hz_w1_0 : w.heap.size < w1.heap.size := by omega
          have hz_w1_1 : w.heap.size + 1 < w1.heap.size := by omega
          rw [Q1.out]
          go_wp2_with fail
          refine (cmdOk_spec y _ _ _ _ (h2.keep hB_w1) hy).mono ?_
          rintro e w2 ⟨rfl, hb2⟩
          obtain ⟨hc_w2, hf_w2⟩ := bcell hb2
          have hz_w2 := hb2.size
          try simp at hz_w2
          have hB_w2 : Below w.heap.size w w2 := bthen hB_w1 hb2
          have hz_w2_0 : w.heap.size < w2.heap.size := by omega
          have hz_w2_1 : w.heap.size + 1 < w2.heap.size := by omega
          rw [Q2.out]
          go_wp2
          go_returns
          exact ⟨ret_bool (by rw [HV.out]; rw [T1.out]; simp), hB_w2⟩
      · have T0 := Lib.hid ht0
        unfold cmV
        go_enter Try.func52, Try.ntmps52
        go_wp2_with fail
        refine (cmdOk_spec x _ _ _ _ (h1.keep (by go_grown)) hx).mono ?_
        rintro e w1 ⟨rfl, hb1⟩
        obtain ⟨hc_w1, hf_w1⟩ := bcell hb1
        have hz_w1 := hb1.size
        try simp at hz_w1
        have hB_w1 : Below w.heap.size w w1 := bthen (by go_grown) hb1
        have hz_w1_0 : w.heap.size < w1.heap.size := by omega
        have hz_w1_1 : w.heap.size + 1 < w1.heap.size := by omega
        rw [Q1.out]
        go_wp2_with fail
        refine (cmdOk_spec y _ _ _ _ (h2.keep hB_w1) hy).mono ?_
        rintro e w2 ⟨rfl, hb2⟩
        obtain ⟨hc_w2, hf_w2⟩ := bcell hb2
        have hz_w2 := hb2.size
        try simp at hz_w2
        have hB_w2 : Below w.heap.size w w2 := bthen hB_w1 hb2
        have hz_w2_0 : w.heap.size < w2.heap.size := by omega
        have hz_w2_1 : w.heap.size + 1 < w2.heap.size := by omega
        rw [Q2.out]
        go_wp2
        go_returns
        exact ⟨ret_bool (by rw [HV.out]; rw [T0.out]; simp), hB_w2⟩

/-- commands as for batches -/
def cmsOkB (l : List Cm) : Bool := decide (l.length ≤ 10) && l.all (fun x => cmOkB x && !(x.kd == 0))
theorem cmsOk_no {l : List Cm} {i : Nat} {x : Cm} (hx : l[i]? = some x) (h : (cmOkB x && !(x.kd == 0)) = false) : cmsOkB l = false := by
  unfold cmsOkB
  rw [Bool.and_eq_false_iff]
  right
  rw [List.all_eq_false]
  exact ⟨x, List.mem_of_getElem? hx, by rw [h]; simp⟩
theorem cmsOk_yes {l : List Cm} (h : ∀ (i : Nat) (x : Cm), l[i]? = some x → (cmOkB x && !(x.kd == 0)) = true) : cmsOkB l = decide (l.length ≤ 10) := by
  unfold cmsOkB
  have : l.all (fun x => cmOkB x && !(x.kd == 0)) = true := List.all_eq_true.2 fun x hx => by
    obtain ⟨i, hi⟩ := List.mem_iff_getElem?.1 hx
    exact h i x hi
  rw [this, Bool.and_true]
attribute [local irreducible] RowR StrR
set_option maxRecDepth 8000 in
set_option maxHeartbeats 1000000 in
theorem areCmds_impl (l : List Cm) (A : Option Addr) (n c : Nat) (w : World) (h : RowR cmR 8 w A n c l) (hb : cmsB l) :
    Calls Try.prog 54 #[.slice A n c] w fun e w' => e = .returned (.bool (cmsOkB l)) ∧ Below w.heap.size w w' := by
  have HL := Lib.hid h.len.symm
  have hn : n ≤ 9223372036854775807 := by have h1 := HL.out; have h2 := hb.1; omega
  go_enter Try.func54, Try.ntmps54
  go_wp2
  go_loopw [7] (fun i wr => ∃ k : Nat, k ≤ n ∧ i = .int .i64 k ∧ (∀ i x, i < k → l[i]? = some x → (cmOkB x && !(x.kd == 0)) = true) ∧ Below w.heap.size w wr) (fun i _ => n - (intOf i).toNat)
  case atStart => exact ⟨0, Nat.zero_le _, rfl, fun i x hi => absurd hi (by omega), Below.refl _ _⟩
  case round =>
    obtain ⟨k, hk, rfl, hall, hbw⟩ := hrel
    have HA := Lib.hid hall; clear hall
    by_cases hlt : k < n
    · obtain ⟨b, off, rfl⟩ := h.head (by omega)
      obtain ⟨bl, x, cs, hx, hR, hcell⟩ := h.elem_at hlt
      obtain ⟨A1, n1, c1, rfl, h1⟩ := hR
      have e0 := (hbw.cell (p := ⟨b, off + k * 8, none⟩) bl).trans (show w.cell? ⟨b, off + k * 8, none⟩ = some (.int .i64 x.kd) from hcell 0 _ rfl)
      have e1 := (hbw.cell (p := ⟨b, off + k * 8 + 1, none⟩) bl).trans (show w.cell? ⟨b, off + k * 8 + 1, none⟩ = some (.int .i64 x.cl) from hcell 1 _ rfl)
      have e2 := (hbw.cell (p := ⟨b, off + k * 8 + 2, none⟩) bl).trans (show w.cell? ⟨b, off + k * 8 + 2, none⟩ = some (.int .i64 x.no) from hcell 2 _ rfl)
      have e3 := (hbw.cell (p := ⟨b, off + k * 8 + 3, none⟩) bl).trans (show w.cell? ⟨b, off + k * 8 + 3, none⟩ = some (.string x.s) from hcell 3 _ rfl)
      have e4 := (hbw.cell (p := ⟨b, off + k * 8 + 4, none⟩) bl).trans (show w.cell? ⟨b, off + k * 8 + 4, none⟩ = some (.string x.nm) from hcell 4 _ rfl)
      have e5 := (hbw.cell (p := ⟨b, off + k * 8 + 5, none⟩) bl).trans (show w.cell? ⟨b, off + k * 8 + 5, none⟩ = some (.string x.tg) from hcell 5 _ rfl)
      have e6 := (hbw.cell (p := ⟨b, off + k * 8 + 6, none⟩) bl).trans (show w.cell? ⟨b, off + k * 8 + 6, none⟩ = some (.int .i64 x.n) from hcell 6 _ rfl)
      have e7 := (hbw.cell (p := ⟨b, off + k * 8 + 7, none⟩) bl).trans (show w.cell? ⟨b, off + k * 8 + 7, none⟩ = some (.slice A1 n1 c1) from hcell 7 _ rfl)
      clear hcell
      have hbx := bounds_el hb.2 hx
      have al := (Below.refl wr.heap.size wr).alloc (Nat.le_refl _) (.cells #[.int .i64 x.kd, .int .i64 x.cl, .int .i64 x.no, .string x.s, .string x.nm, .string x.tg, .int .i64 x.n, .slice A1 n1 c1] 47)
      have hBl := bthen hbw al
      have h1' := h1.keep hBl
      obtain ⟨q1, hq1⟩ : ∃ q, cmOkB x = q := ⟨_, rfl⟩
      have Q1 := Lib.hid hq1; clear hq1
      obtain ⟨t1, ht1⟩ : ∃ q, (x.kd == 0) = q := ⟨_, rfl⟩
      have T1 := Lib.hid ht1
      cases q1
      · skip
        go_wp2_with fail
        refine (cmdOk_impl x _ _ _ _ h1' hbx).mono ?_
        rintro e w1 ⟨rfl, hb1⟩
        have g0 : w1.cell? ⟨wr.heap.size, 0, none⟩ = some (.int .i64 x.kd) := keep_cell hb1 (by simp [go_sem])
        rw [Q1.out]
        go_wp2
        go_returns
        exact ⟨ret_bool (cmsOk_no hx (by rw [Q1.out, T1.out]; rfl)).symm, bthen hBl hb1⟩
      · cases t1
        · skip
          go_wp2_with fail
          refine (cmdOk_impl x _ _ _ _ h1' hbx).mono ?_
          rintro e w1 ⟨rfl, hb1⟩
          have g0 : w1.cell? ⟨wr.heap.size, 0, none⟩ = some (.int .i64 x.kd) := keep_cell hb1 (by simp [go_sem])
          rw [Q1.out]
          go_wp2
          exact ⟨⟨k + 1, by omega, by go_num, fun i y hi hy => by
            rcases Nat.lt_or_ge i k with h1 | h1
            · exact HA.out i y h1 hy
            · have : i = k := by omega
              subst this
              obtain rfl : y = x := Option.some.inj (hy.symm.trans hx)
              rw [Q1.out, T1.out]; rfl, bthen hBl hb1⟩, by simp [intOf]; omega⟩
        · skip
          go_wp2_with fail
          refine (cmdOk_impl x _ _ _ _ h1' hbx).mono ?_
          rintro e w1 ⟨rfl, hb1⟩
          have g0 : w1.cell? ⟨wr.heap.size, 0, none⟩ = some (.int .i64 x.kd) := keep_cell hb1 (by simp [go_sem])
          rw [Q1.out]
          go_wp2
          go_returns
          exact ⟨ret_bool (cmsOk_no hx (by rw [Q1.out, T1.out]; rfl)).symm, bthen hBl hb1⟩
    · go_wp2
      go_returns
      refine ⟨ret_bool ?_, hbw⟩
      rw [cmsOk_yes (fun i x hx => HA.out i x (by have := (List.getElem?_eq_some_iff.1 hx).1; have := HL.out; omega) hx), HL.out]
      first | rfl | (apply decide_eq_decide.2; omega)
set_option maxRecDepth 8000 in
set_option maxHeartbeats 1000000 in
theorem l34Ok_spec (l : List Cm) (A : Option Addr) (n c : Nat) (w : World) (h : RowR cmR 8 w A n c l) (hb : cmsB l) :
    Calls Try.prog 51 #[.slice A n c] w fun e w' => e = .returned (.bool (cmsOkB l)) ∧ Below w.heap.size w w' := by
  have HL := Lib.hid h.len.symm
  have hn : n ≤ 9223372036854775807 := by have h1 := HL.out; have h2 := hb.1; omega
  by_cases h10 : 10 < n
  · go_enter Try.func51, Try.ntmps51
    go_wp2
    go_returns
    exact ⟨ret_bool (by unfold cmsOkB; symm; simp only [Bool.and_eq_false_iff, decide_eq_false_iff_not]; left; have := HL.out; omega), Below.refl _ _⟩
  · go_enter Try.func51, Try.ntmps51
    go_wp2
    go_loopw [3] (fun i wr => ∃ k : Nat, k ≤ n ∧ i = .int .i64 k ∧ (∀ i x, i < k → l[i]? = some x → (cmOkB x && !(x.kd == 0)) = true) ∧ Below w.heap.size w wr) (fun i _ => n - (intOf i).toNat)
    case atStart => exact ⟨0, Nat.zero_le _, rfl, fun i x hi => absurd hi (by omega), Below.refl _ _⟩
    case round =>
      obtain ⟨k, hk, rfl, hall, hbw⟩ := hrel
      have HA := Lib.hid hall; clear hall
      by_cases hlt : k < n
      · obtain ⟨b, off, rfl⟩ := h.head (by omega)
        obtain ⟨bl, x, cs, hx, hR, hcell⟩ := h.elem_at hlt
        obtain ⟨A1, n1, c1, rfl, h1⟩ := hR
        have e0 := (hbw.cell (p := ⟨b, off + k * 8, none⟩) bl).trans (show w.cell? ⟨b, off + k * 8, none⟩ = some (.int .i64 x.kd) from hcell 0 _ rfl)
        have e1 := (hbw.cell (p := ⟨b, off + k * 8 + 1, none⟩) bl).trans (show w.cell? ⟨b, off + k * 8 + 1, none⟩ = some (.int .i64 x.cl) from hcell 1 _ rfl)
        have e2 := (hbw.cell (p := ⟨b, off + k * 8 + 2, none⟩) bl).trans (show w.cell? ⟨b, off + k * 8 + 2, none⟩ = some (.int .i64 x.no) from hcell 2 _ rfl)
        have e3 := (hbw.cell (p := ⟨b, off + k * 8 + 3, none⟩) bl).trans (show w.cell? ⟨b, off + k * 8 + 3, none⟩ = some (.string x.s) from hcell 3 _ rfl)
        have e4 := (hbw.cell (p := ⟨b, off + k * 8 + 4, none⟩) bl).trans (show w.cell? ⟨b, off + k * 8 + 4, none⟩ = some (.string x.nm) from hcell 4 _ rfl)
        have e5 := (hbw.cell (p := ⟨b, off + k * 8 + 5, none⟩) bl).trans (show w.cell? ⟨b, off + k * 8 + 5, none⟩ = some (.string x.tg) from hcell 5 _ rfl)
        have e6 := (hbw.cell (p := ⟨b, off + k * 8 + 6, none⟩) bl).trans (show w.cell? ⟨b, off + k * 8 + 6, none⟩ = some (.int .i64 x.n) from hcell 6 _ rfl)
        have e7 := (hbw.cell (p := ⟨b, off + k * 8 + 7, none⟩) bl).trans (show w.cell? ⟨b, off + k * 8 + 7, none⟩ = some (.slice A1 n1 c1) from hcell 7 _ rfl)
        clear hcell
        have hbx := bounds_el hb.2 hx
        have h1' := h1.keep hbw
        obtain ⟨q1, hq1⟩ : ∃ q, cmOkB x = q := ⟨_, rfl⟩
        have Q1 := Lib.hid hq1; clear hq1
        obtain ⟨t1, ht1⟩ : ∃ q, (x.kd == 0) = q := ⟨_, rfl⟩
        have T1 := Lib.hid ht1
        cases q1
        · skip
          go_wp2_with fail
          refine (cmdOk_spec x _ _ _ _ h1' hbx).mono ?_
          rintro e w1 ⟨rfl, hb1⟩
          have g0 := keep_cell hb1 e0
          rw [Q1.out]
          go_wp2
          go_returns
          exact ⟨ret_bool (cmsOk_no hx (by rw [Q1.out, T1.out]; rfl)).symm, bthen hbw hb1⟩
        · cases t1
          · skip
            go_wp2_with fail
            refine (cmdOk_spec x _ _ _ _ h1' hbx).mono ?_
            rintro e w1 ⟨rfl, hb1⟩
            have g0 := keep_cell hb1 e0
            rw [Q1.out]
            go_wp2
            exact ⟨⟨k + 1, by omega, by go_num, fun i y hi hy => by
              rcases Nat.lt_or_ge i k with h1 | h1
              · exact HA.out i y h1 hy
              · have : i = k := by omega
                subst this
                obtain rfl : y = x := Option.some.inj (hy.symm.trans hx)
                rw [Q1.out, T1.out]; rfl, bthen hbw hb1⟩, by simp [intOf]; omega⟩
          · skip
            go_wp2_with fail
            refine (cmdOk_spec x _ _ _ _ h1' hbx).mono ?_
            rintro e w1 ⟨rfl, hb1⟩
            have g0 := keep_cell hb1 e0
            rw [Q1.out]
            go_wp2
            go_returns
            exact ⟨ret_bool (cmsOk_no hx (by rw [Q1.out, T1.out]; rfl)).symm, bthen hbw hb1⟩
      · go_wp2
        go_returns
        refine ⟨ret_bool ?_, hbw⟩
        rw [cmsOk_yes (fun i x hx => HA.out i x (by have := (List.getElem?_eq_some_iff.1 hx).1; have := HL.out; omega) hx)]
        symm; simp only [decide_eq_true_eq]; have := HL.out; omega
end Go.Proofs.Ytdphdnllhmnelaa
/- Plain laws of batches. -/
namespace Go.Proofs.Ytdphdnllhmnelaa
theorem sameBA_symm (x y : Cm) : clashB x y = clashB y x := by
  unfold clashB
  have h1 : decide (x.s = y.s) = decide (y.s = x.s) := decide_eq_decide.2 ⟨Eq.symm, Eq.symm⟩
  rw [h1]
  cases cmOkB x <;> cases cmOkB y <;> cases (x.kd == 0) <;> cases (y.kd == 0) <;> cases (x.kd == 7) <;> cases (y.kd == 7) <;> simp
attribute [local irreducible] clashB
/-- the level of command i behind its first k neighbours of levels f -/
def lvTo (l : List Cm) (f : Nat → Nat) (i : Nat) : Nat → Nat
  | 0 => 0
  | k + 1 => if clashB (cmAt l k) (cmAt l i) = true then max (lvTo l f i k) (f k + 1) else lvTo l f i k
def lvs (l : List Cm) : Nat → List Nat
  | 0 => []
  | i + 1 => lvs l i ++ [lvTo l (fun k => (lvs l i).getD k 0) i i]
theorem lvs_len (l : List Cm) : ∀ i, (lvs l i).length = i
  | 0 => rfl
  | i + 1 => by simp [lvs, lvs_len l i]
def lv (l : List Cm) (i : Nat) : Nat := (lvs l (i + 1)).getD i 0
theorem lvs_get (l : List Cm) (k : Nat) : ∀ i, k < i → (lvs l i).getD k 0 = lv l k
  | 0, h => by omega
  | i + 1, h => by
    rcases Nat.lt_or_ge k i with h1 | h1
    · rw [← lvs_get l k i h1, lvs]
      have := lvs_len l i
      rw [List.getD_eq_getElem?_getD, List.getD_eq_getElem?_getD, List.getElem?_append_left (by omega)]
    · have : k = i := by omega
      subst this; rfl
theorem lvTo_congr (l : List Cm) {f g : Nat → Nat} (i : Nat) : ∀ k, (∀ j, j < k → f j = g j) → lvTo l f i k = lvTo l g i k
  | 0, _ => rfl
  | k + 1, h => by
    simp only [lvTo, lvTo_congr l i k (fun j hj => h j (by omega)), h k (by omega)]
theorem lv_eq (l : List Cm) (i : Nat) : lv l i = lvTo l (lv l) i i := by
  have h : lv l i = lvTo l (fun k => (lvs l i).getD k 0) i i := by
    unfold lv
    rw [lvs, List.getD_eq_getElem?_getD, List.getElem?_append_right (by rw [lvs_len]; omega), lvs_len]
    simp
  rw [h]
  exact lvTo_congr l i i (fun j hj => lvs_get l j i hj)
/-- how many levels the first i have -/
def mxL (l : List Cm) : Nat → Nat
  | 0 => 0
  | i + 1 => max (mxL l i) (lv l i + 1)
theorem mxL_zero (l : List Cm) : mxL l 0 = 0 := rfl
theorem mxL_succ (l : List Cm) (i : Nat) : mxL l (i + 1) = max (mxL l i) (lv l i + 1) := rfl
theorem mxL_mono (l : List Cm) : ∀ {i j : Nat}, i ≤ j → mxL l i ≤ mxL l j
  | i, 0, h => by have : i = 0 := by omega
                  subst this; exact Nat.le_refl _
  | i, j + 1, h => by
    rcases Nat.lt_or_ge j i with h1 | h1
    · have : i = j + 1 := by omega
      subst this; exact Nat.le_refl _
    · exact Nat.le_trans (mxL_mono l h1) (by simp only [mxL]; omega)
theorem lvTo_le (l : List Cm) (i : Nat) : ∀ k, lvTo l (lv l) i k ≤ mxL l k
  | 0 => Nat.le_refl _
  | k + 1 => by
    have := lvTo_le l i k
    simp only [lvTo, mxL]
    split <;> omega
theorem lv_le (l : List Cm) (i : Nat) : lv l i ≤ mxL l i := by rw [lv_eq]; exact lvTo_le l i i
theorem lv_lt (l : List Cm) {i j : Nat} (h : j < i) : lv l j < mxL l i := by
  have h1 : mxL l (j + 1) ≤ mxL l i := mxL_mono l h
  simp only [mxL] at h1
  omega
theorem mxL_le (l : List Cm) : ∀ i, mxL l i ≤ i
  | 0 => Nat.le_refl _
  | i + 1 => by
    have h1 := mxL_le l i
    have h2 := lv_le l i
    simp only [mxL]; omega
/-- the numbers of level b among the first i -/
def rowOf (l : List Cm) (i b : Nat) : List Int := ((List.range i).filter (fun j => lv l j == b)).map (fun j : Nat => (j : Int))
def rowsOf (l : List Cm) (i : Nat) : List (List Int) := (List.range (mxL l i)).map (rowOf l i)
theorem rowOf_succ (l : List Cm) (i b : Nat) : rowOf l (i + 1) b = rowOf l i b ++ (if lv l i == b then [(i : Int)] else []) := by
  unfold rowOf
  rw [List.range_succ, List.filter_append, List.map_append]
  congr 1
  cases h : lv l i == b <;> simp [h]
theorem rowOf_top (l : List Cm) (i : Nat) : rowOf l i (mxL l i) = [] := by
  unfold rowOf
  rw [List.map_eq_nil_iff, List.filter_eq_nil_iff]
  intro j hj
  have := lv_lt l (List.mem_range.1 hj)
  simp; omega
theorem rowsOf_len (l : List Cm) (i : Nat) : (rowsOf l i).length = mxL l i := by simp [rowsOf]
theorem rowsOf_at (l : List Cm) (i b : Nat) (h : b < mxL l i) : (rowsOf l i)[b]? = some (rowOf l i b) := by simp [rowsOf, h]
/-- the rows with a new empty one where one is wanted -/
def rowsE (l : List Cm) (i : Nat) : List (List Int) := if lv l i = mxL l i then rowsOf l i ++ [[]] else rowsOf l i
theorem rowsE_at (l : List Cm) (i : Nat) : (rowsE l i)[lv l i]? = some (rowOf l i (lv l i)) := by
  unfold rowsE
  have h := lv_le l i
  split
  · rename_i e
    rw [List.getElem?_append_right (by rw [rowsOf_len]; omega), rowsOf_len, e, Nat.sub_self, rowOf_top]; rfl
  · exact rowsOf_at l i _ (by omega)
theorem rowsOf_succ (l : List Cm) (i : Nat) : rowsOf l (i + 1) = (rowsE l i).set (lv l i) (rowOf l i (lv l i) ++ [(i : Int)]) := by
  have h := lv_le l i
  have hE : (rowsE l i).length = mxL l (i + 1) := by
    unfold rowsE; simp only [mxL]
    split
    · rw [List.length_append, rowsOf_len]; simp only [List.length_cons, List.length_nil]; omega
    · rw [rowsOf_len]; omega
  apply List.ext_getElem?
  intro b
  rcases Nat.lt_or_ge b (mxL l (i + 1)) with hb | hb
  · rw [rowsOf_at l (i + 1) b hb, rowOf_succ, List.getElem?_set]
    by_cases e : lv l i = b
    · subst e; simp [hE, hb]
    · rw [if_neg e]
      have e2 : (lv l i == b) = false := by simpa using e
      rw [e2]
      simp only [Bool.false_eq_true, if_false, List.append_nil]
      have hb2 : b < mxL l i := by simp only [mxL] at hb; omega
      unfold rowsE
      split
      · rw [List.getElem?_append_left (by rw [rowsOf_len]; exact hb2), rowsOf_at l i b hb2]
      · rw [rowsOf_at l i b hb2]
  · rw [List.getElem?_eq_none (by rw [rowsOf_len]; exact hb), List.getElem?_eq_none (by rw [List.length_set, hE]; exact hb)]
/-- the batches of commands -/
def batchL (l : List Cm) : List (List Int) := if cmsOkB l = true then rowsOf l l.length else []
theorem rowOf_len (l : List Cm) (i b : Nat) : (rowOf l i b).length ≤ i := by
  unfold rowOf
  rw [List.length_map]
  have := List.length_filter_le (fun j => lv l j == b) (List.range i)
  rwa [List.length_range] at this
theorem cmsOk_len {l : List Cm} (h : cmsOkB l = true) : l.length ≤ 10 := by
  unfold cmsOkB at h
  simp only [Bool.and_eq_true, decide_eq_true_eq] at h
  exact h.1
theorem sum_le_mul {α : Type} (f : α → Nat) (m : Nat) : ∀ l : List α, (∀ x ∈ l, f x ≤ m) → (l.map f).sum ≤ l.length * m
  | [], _ => by simp
  | x :: l, h => by
    have h1 := h x (List.mem_cons_self ..)
    have h2 := sum_le_mul f m l (fun y hy => h y (List.mem_cons_of_mem _ hy))
    rw [List.map_cons, List.sum_cons, List.length_cons, Nat.add_mul]; omega
theorem batch_sz (l : List Cm) : intssSz (batchL l) ≤ 110 := by
  unfold batchL
  split
  · rename_i h
    have h1 := cmsOk_len h
    have h2 := mxL_le l l.length
    have h3 := sum_le_mul intsSz 10 (rowsOf l l.length) (fun x hx => by
      unfold rowsOf at hx
      obtain ⟨b, _, rfl⟩ := List.mem_map.1 hx
      have := rowOf_len l l.length b
      unfold intsSz; omega)
    unfold intssSz
    rw [rowsOf_len] at h3 ⊢
    have : mxL l l.length * 10 ≤ 100 := by omega
    omega
  · simp [intssSz]
/-- the levels of the first i -/
def lvI (l : List Cm) (i : Nat) : List Int := (List.range i).map (fun j : Nat => ((lv l j : Nat) : Int))
theorem lvI_len (l : List Cm) (i : Nat) : (lvI l i).length = i := by simp [lvI]
theorem lvI_succ (l : List Cm) (i : Nat) : lvI l (i + 1) = lvI l i ++ [((lv l i : Nat) : Int)] := by unfold lvI; rw [List.range_succ, List.map_append]; rfl
theorem lvI_at (l : List Cm) (i k : Nat) (h : k < i) : iAt (lvI l i) k = ((lv l k : Nat) : Int) := by simp [iAt, lvI, h]
theorem rowsE_len (l : List Cm) (i : Nat) : (rowsE l i).length = mxL l (i + 1) := by
  have h := lv_le l i
  unfold rowsE
  rw [mxL_succ]
  split
  · rw [List.length_append, rowsOf_len]; simp only [List.length_cons, List.length_nil]; omega
  · rw [rowsOf_len]; omega
end Go.Proofs.Ytdphdnllhmnelaa
/- What grew by an append. -/
namespace Go.Proofs.Ytdphdnllhmnelaa
open Go.RowKit
theorem Ch.of_grow {w w' : World} {o : Option Nat} (h : w.grownBy w' o) : Ch (fun k => o = some k) w w' := ⟨h.os, h.tape, h.output, h.size, fun k hk hn => h.block k hk (fun e => hn e.symm)⟩
end Go.Proofs.Ytdphdnllhmnelaa
/- Rows that are owned: appending an element, changing an element. -/
namespace Go.Proofs.Ytdphdnllhmnelaa
open Go.RowKit
/-- the walk stands still here -/
def Stop (p : Prop) : Prop := p
theorem stop_of {p : Prop} (h : Stop p) : p := h
theorem IntO.mk' {w : World} {A : Option Addr} {n c : Nat} {l : List Int} (h : w.ownsRow 0 3 1 (.slice A n c) n (l.map (Value.int .i64))) : IntO (blkL A) w A n c l := ⟨rfl, h⟩
theorem IntO.own {fp : List Nat} {w : World} {A : Option Addr} {n c : Nat} {l : List Int} (h : IntO fp w A n c l) : fp = blkL A ∧ w.ownsRow 0 3 1 (.slice A n c) n (l.map (Value.int .i64)) := h
theorem IntR.at_r {w : World} {A : Option Addr} {n c : Nat} {l : List Int} (h : IntR w A n c l) : IntsAt w A n l := h.1
theorem StrO.mk' {w : World} {A : Option Addr} {n c : Nat} {l : List ByteArray} (h : w.ownsRow 0 9 1 (.slice A n c) n (l.map Value.string)) : StrO (blkL A) w A n c l := ⟨rfl, h⟩
theorem StrO.own {fp : List Nat} {w : World} {A : Option Addr} {n c : Nat} {l : List ByteArray} (h : StrO fp w A n c l) : fp = blkL A ∧ w.ownsRow 0 9 1 (.slice A n c) n (l.map Value.string) := h
section
variable {α : Type} {R : World → List Value → α → Prop} {F : List Nat → World → List Value → α → Prop} {e sz n c c' m : Nat} {w w' : World} {fps : List (List Nat)} {css : List (List Value)} {A A' : Option Addr} {l : List α} {cs : List Value} {f : List Nat} {x : α}
/-- one element more behind an append -/
theorem app_els (K : KindOk R F sz) (hE : Els F w css fps l) (hx : F f w cs x) (hN : (blkL A ++ (fps ++ [f]).flatten).Nodup) (hg : w.grownBy w' (Value.slice A n c).ownBlock)
    (hob : (Value.slice A' (n + 1) c').ownBlock = (Value.slice A n c).ownBlock ∨ (Value.slice A' (n + 1) c').ownBlock = some m) (hm : w.heap.size ≤ m) :
    Els F w' (css ++ [cs]) (fps ++ [f]) (l ++ [x]) ∧ (blkL A' ++ (fps ++ [f]).flatten).Nodup ∧ ∀ b ∈ blkL A', b ∈ blkL A ∨ b = m := by
  have hE2 := hE.app (Els.one hx)
  have hN2 := List.nodup_append.1 hN
  have hblk : ∀ b ∈ blkL A', b ∈ blkL A ∨ b = m := fun b hb => by
    have h1 := blk_own (n := n + 1) (c := c') (mem_blkL.1 hb)
    rcases hob with h2 | h2
    · exact .inl (mem_blkL.2 (blk_of (h2.symm.trans h1)))
    · exact .inr (Option.some.inj (h1.symm.trans h2))
  refine ⟨hE2.ch K (Ch.of_grow hg) (fun b hb e => hN2.2.2 b (mem_blkL.2 (blk_of e)) b hb rfl), ?_, hblk⟩
  refine List.nodup_append.2 ⟨by cases A' <;> simp [blkL], hN2.2.1, fun a ha b hb e => ?_⟩
  subst e
  rcases hblk a ha with h1 | h1
  · exact hN2.2.2 a h1 a hb rfl
  · have := hE2.lt K a hb; omega
/-- an element and what it leads to are changed -/
theorem upd_els {c1 c2 : List (List Value)} {f1 f2 : List (List Nat)} {l1 l2 : List α} {g : Nat} {cs' : List Value} {f' : List Nat} {x' : α} {w7 w8 : World} (K : KindOk R F sz)
    (ho : w.ownsRow 0 e sz (.slice (some ⟨g, 0, none⟩) n c) n (c1.flatten ++ (cs ++ c2.flatten))) (hE1 : Els F w c1 f1 l1) (hE2 : Els F w c2 f2 l2) (hcs : cs.length = sz) (hn : n = l1.length + 1 + l2.length)
    (hN : (g :: (f1.flatten ++ (f ++ f2.flatten))).Nodup) (hC : Ch (fun b => b ∈ f) w w7) (hx : F f' w7 cs' x') (hf' : ∀ b ∈ f', b ∈ f ∨ w.heap.size ≤ b) (hf'N : f'.Nodup) (hw8 : w8 = setsW w7 g (l1.length * sz) cs') :
    RowO F e sz (blkL (some ⟨g, 0, none⟩) ++ (f1 ++ f' :: f2).flatten) w8 (some ⟨g, 0, none⟩) n c (l1 ++ x' :: l2) ∧ (g :: (f1.flatten ++ (f' ++ f2.flatten))).Nodup ∧ Ch (fun b => b = g ∨ b ∈ f) w w8 := by
  have hgw : g < w.heap.size := (own_lo ho g (by simp [blkL])).2
  have lt1 := hE1.lt K
  have lt2 := hE2.lt K
  simp only [List.nodup_cons, List.nodup_append, List.mem_append, not_or] at hN
  have hgf : ¬ g ∈ f := by grind
  have d1 : ∀ b ∈ f1.flatten, ¬ b ∈ f := fun b h1 h2 => by grind
  have d2 : ∀ b ∈ f2.flatten, ¬ b ∈ f := fun b h1 h2 => by grind
  have e1 : ∀ b ∈ f1.flatten, ¬ b = g := fun b h1 h2 => by subst h2; grind
  have e2 : ∀ b ∈ f2.flatten, ¬ b = g := fun b h1 h2 => by subst h2; grind
  have e3 : ∀ b ∈ f', ¬ b = g := fun b h1 h2 => by
    subst h2
    rcases hf' b h1 with h | h
    · exact hgf h
    · omega
  have hC8 : Ch (fun b => b = g) w7 w8 := by rw [hw8]; exact ch_setsW _ _ _
  have o7 := own_ch ho hC (fun b hb h2 => hgf (by
    have : b = g := by simpa [Value.ownBlock, eq_comm] using hb
    rw [← this]; exact h2))
  have o8 := own_setsW cs' (l1.length * sz) w7 _ o7
  rw [setsL_at (hE1.flat K) (by rw [hcs, K.rlen (K.fr hx)]), ← hw8] at o8
  have E1 := (hE1.ch K hC d1).ch K hC8 e1
  have E2 := (hE2.ch K hC d2).ch K hC8 e2
  have X := K.fch hx hC8 e3
  refine ⟨RowO.intro (css := c1 ++ cs' :: c2) (by simpa using o8) (by simp; omega) (E1.app ⟨X, E2⟩), ?_, (hC.mono (fun b hb => .inr hb)).trans (hC8.mono (fun b hb => .inl hb))⟩
  simp only [List.nodup_cons, List.nodup_append, List.mem_append, not_or]
  refine ⟨⟨by grind, fun h => e3 g h rfl, by grind⟩, by grind, ⟨hf'N, by grind, fun a ha b hb hab => ?_⟩, fun a ha b hb hab => ?_⟩
  · subst hab
    rcases hf' a ha with h | h
    · exact d2 a hb h
    · have := lt2 a hb; omega
  · subst hab
    rcases hb with hb | hb
    · rcases hf' a hb with h | h
      · exact d1 a ha h
      · have := lt1 a ha; omega
    · grind
end
end Go.Proofs.Ytdphdnllhmnelaa
/- Contract of the program's Batches. -/
namespace Go.Proofs.Ytdphdnllhmnelaa
open Go.RowKit
attribute [local irreducible] StrR IntR StrO IntO RowR RowO StrsAt IntsAt clashB cmsOkB lv lvTo mxL rowsOf rowOf lvI batchL
theorem max_int (a b : Nat) : max (a : Int) (b : Int) = ((max a b : Nat) : Int) := by omega
set_option maxRecDepth 8000 in
set_option maxHeartbeats 4000000 in
theorem batches_impl (l : List Cm) (A : Option Addr) (n c : Nat) (w : World) (h : RowR cmR 8 w A n c l) (hb : cmsB l) (hcap : n ≤ c) :
    Calls Try.prog 13 #[.slice A n c] w fun e w' => ∃ A' n' c', e = .returned (.slice A' n' c') ∧ RowI intF 78 1 w.heap.size w'.heap.size w' A' n' c' (batchL l) ∧ Below w.heap.size w w' := by
  have HL := Lib.hid h.len.symm
  go_enter Try.func13, Try.ntmps13
  go_wp2_with fail
  refine (areCmds_impl l _ _ _ _ h hb).mono ?_
  rintro e w1 ⟨rfl, hb1⟩
  obtain ⟨q, hq⟩ : ∃ q, cmsOkB l = q := ⟨_, rfl⟩
  rw [hq]
  cases q
  · have HB := Lib.hid (show batchL l = [] by unfold batchL; rw [hq]; rfl)
    clear hq
    go_wp2
    go_returns
    exact ⟨none, 0, 0, rfl, by rw [HB.out]; exact RowI.nil, hb1⟩
  · have HB := Lib.hid (show batchL l = rowsOf l l.length by unfold batchL; rw [if_pos hq])
    have hn10 : n ≤ 10 := by have := cmsOk_len hq; have := HL.out; omega
    clear hq
    have h1 := h.keep cmK hb1
    go_wp2
    have al1 := (Below.refl w1.heap.size w1).alloc (Nat.le_refl _) (.cells #[] 78)
    have al2 := al1.alloc al1.size (.cells #[] 3)
    have hz2 := al2.size
    obtain ⟨W, hW⟩ : ∃ W, W = (w1.alloc (.cells #[] 78)).alloc (.cells #[] 3) := ⟨_, rfl⟩
    have s1 : RowO intF 78 1 (blkL (some ⟨w1.heap.size, 0, none⟩) ++ ([] : List (List Nat)).flatten) W (some ⟨w1.heap.size, 0, none⟩) 0 0 ([] : List (List Int)) :=
      RowO.intro (css := []) (by rw [hW]; exact own_up (own_ch (own_empty w1 78 1 (Nat.le_refl _)) (Ch.of_below (S := fun _ => False) ((Below.refl _ _).alloc (Nat.le_refl _) _)) (fun _ _ h => h)) (Nat.zero_le _)) rfl Els.nil
    have s2 : IntO (blkL (some ⟨w1.heap.size + 1, 0, none⟩)) W (some ⟨w1.heap.size + 1, 0, none⟩) 0 0 [] := IntO.mk' (by rw [hW]; simpa using own_empty (w1.alloc (.cells #[] 78)) 3 1 (Nat.zero_le _))
    have hWs : W.heap.size = w1.heap.size + 2 := by rw [hW]; simp
    have hbW : Below w1.heap.size w1 W := by rw [hW]; exact al2
    rw [← hW]
    clear hW al1 al2 hz2
    go_loopw [3, 4, 17] (fun o f i wr => ∃ (k : Nat) (O : Option Addr) (co : Nat) (P : Option Addr) (cp : Nat) (fp : List Nat), k ≤ n ∧ i = .int .i64 k ∧ o = .slice O (mxL l k) co ∧ f = .slice P k cp ∧ RowO intF 78 1 fp wr O (mxL l k) co (rowsOf l k) ∧ IntO (blkL P) wr P k cp (lvI l k) ∧ (blkL P ++ fp).Nodup ∧ (∀ b ∈ blkL P ++ fp, w1.heap.size ≤ b ∧ b < wr.heap.size) ∧ Below w1.heap.size w1 wr) (fun _ _ i _ => n - (intOf i).toNat)
    case atStart =>
      refine ⟨0, some ⟨w1.heap.size, 0, none⟩, 0, some ⟨w1.heap.size + 1, 0, none⟩, 0, blkL (some ⟨w1.heap.size, 0, none⟩) ++ ([] : List (List Nat)).flatten, Nat.zero_le _, rfl, by congr 1; unfold mxL; rfl, rfl, ?_, ?_, ?_, ?_, hbW⟩
      · have e1 : mxL l 0 = 0 := by unfold mxL; rfl
        have e2 : rowsOf l 0 = [] := by unfold rowsOf; rw [e1]; rfl
        rw [e1, e2]; exact s1
      · have e2 : lvI l 0 = [] := by unfold lvI; rfl
        rw [e2]; exact s2
      · simp [blkL]
      · intro b hb; simp [blkL] at hb; omega
    case round =>
      clear s1 s2 hbW hWs
      obtain ⟨i, O, co, P, cp, fp, hi, rfl, rfl, rfl, hO, hP, hND, hBD, hbr⟩ := hrel
      have hmx : mxL l i ≤ i := mxL_le l i
      by_cases hlt : i < n
      · obtain ⟨b, off, rfl⟩ := h1.head (by omega)
        obtain ⟨bl, x, cs, hx, hR, hcell⟩ := h1.elem_at hlt
        obtain ⟨A1, n1, c1, rfl, hx1⟩ := hR
        have e0 := (hbr.cell (p := ⟨b, off + i * 8, none⟩) bl).trans (show w1.cell? ⟨b, off + i * 8, none⟩ = some (.int .i64 x.kd) from hcell 0 _ rfl)
        have e1 := (hbr.cell (p := ⟨b, off + i * 8 + 1, none⟩) bl).trans (show w1.cell? ⟨b, off + i * 8 + 1, none⟩ = some (.int .i64 x.cl) from hcell 1 _ rfl)
        have e2 := (hbr.cell (p := ⟨b, off + i * 8 + 2, none⟩) bl).trans (show w1.cell? ⟨b, off + i * 8 + 2, none⟩ = some (.int .i64 x.no) from hcell 2 _ rfl)
        have e3 := (hbr.cell (p := ⟨b, off + i * 8 + 3, none⟩) bl).trans (show w1.cell? ⟨b, off + i * 8 + 3, none⟩ = some (.string x.s) from hcell 3 _ rfl)
        have e4 := (hbr.cell (p := ⟨b, off + i * 8 + 4, none⟩) bl).trans (show w1.cell? ⟨b, off + i * 8 + 4, none⟩ = some (.string x.nm) from hcell 4 _ rfl)
        have e5 := (hbr.cell (p := ⟨b, off + i * 8 + 5, none⟩) bl).trans (show w1.cell? ⟨b, off + i * 8 + 5, none⟩ = some (.string x.tg) from hcell 5 _ rfl)
        have e6 := (hbr.cell (p := ⟨b, off + i * 8 + 6, none⟩) bl).trans (show w1.cell? ⟨b, off + i * 8 + 6, none⟩ = some (.int .i64 x.n) from hcell 6 _ rfl)
        have e7 := (hbr.cell (p := ⟨b, off + i * 8 + 7, none⟩) bl).trans (show w1.cell? ⟨b, off + i * 8 + 7, none⟩ = some (.slice A1 n1 c1) from hcell 7 _ rfl)
        clear hcell
        have hbx := bounds_el hb.2 hx
        have al := (Below.refl wr.heap.size wr).alloc (Nat.le_refl _) (.cells #[.int .i64 x.kd, .int .i64 x.cl, .int .i64 x.no, .string x.s, .string x.nm, .string x.tg, .int .i64 x.n, .slice A1 n1 c1] 47)
        have hin : i ≤ c := by omega
        have hxr := hx1.keep (bthen hbr al)
        have hO1 := hO.keep intK al
        have hP1 := hP.keep al
        have hrow := h1.keep cmK (bthen hbr al)
        clear hO hP
        go_wp2
        obtain ⟨W, hW⟩ : ∃ W, W = wr.alloc (.cells #[.int .i64 x.kd, .int .i64 x.cl, .int .i64 x.no, .string x.s, .string x.nm, .string x.tg, .int .i64 x.n, .slice A1 n1 c1] 47) := ⟨_, rfl⟩
        obtain ⟨gc, hgc⟩ : ∃ g, wr.heap.size = g := ⟨_, rfl⟩
        have x0 : W.cell? ⟨gc, 0, none⟩ = some (.int .i64 x.kd) := by rw [hW, ← hgc]; simp [go_sem]
        have x1 : W.cell? ⟨gc, 1, none⟩ = some (.int .i64 x.cl) := by rw [hW, ← hgc]; simp [go_sem]
        have x2 : W.cell? ⟨gc, 2, none⟩ = some (.int .i64 x.no) := by rw [hW, ← hgc]; simp [go_sem]
        have x3 : W.cell? ⟨gc, 3, none⟩ = some (.string x.s) := by rw [hW, ← hgc]; simp [go_sem]
        have x4 : W.cell? ⟨gc, 4, none⟩ = some (.string x.nm) := by rw [hW, ← hgc]; simp [go_sem]
        have x5 : W.cell? ⟨gc, 5, none⟩ = some (.string x.tg) := by rw [hW, ← hgc]; simp [go_sem]
        have x6 : W.cell? ⟨gc, 6, none⟩ = some (.int .i64 x.n) := by rw [hW, ← hgc]; simp [go_sem]
        have x7 : W.cell? ⟨gc, 7, none⟩ = some (.slice A1 n1 c1) := by rw [hW, ← hgc]; simp [go_sem]
        rw [← hW] at al hxr hO1 hP1 hrow ⊢
        have hbW := bthen hbr al
        have hgW : gc < W.heap.size := cell_lt x0
        have hWz := al.size
        rw [hgc] at hBD hWz ⊢
        clear hW al
        clear e0 e1 e2 e3 e4 e5 e6 e7
        have HI := Lib.hid hP1.at_
        go_loopw [7, 26] (fun a j wr => ∃ (k : Nat), k ≤ i ∧ j = .int .i64 k ∧ a = .int .i64 ((lvTo l (lv l) i k : Nat) : Int) ∧ Below W.heap.size W wr) (fun _ j _ => i - (intOf j).toNat)
        case atStart => exact ⟨0, Nat.zero_le _, rfl, by unfold lvTo; rfl, Below.refl _ _⟩
        case round =>
          obtain ⟨k, hk, rfl, rfl, hbs⟩ := hrel
          have hlvb : lvTo l (lv l) i k ≤ 10 := by have := lvTo_le l i k; have := mxL_le l k; omega
          by_cases hlk : k < i
          · obtain ⟨_, y, cs', hy, hRy, hcelly⟩ := hrow.elem_at (i := k) (by omega)
            obtain ⟨A2, n2, c2, rfl, hy1⟩ := hRy
            have y0 := (hbs.cell (p := ⟨b, off + k * 8, none⟩) (Nat.lt_of_lt_of_le bl hbW.size)).trans (show W.cell? ⟨b, off + k * 8, none⟩ = some (.int .i64 y.kd) from hcelly 0 _ rfl)
            have y1 := (hbs.cell (p := ⟨b, off + k * 8 + 1, none⟩) (Nat.lt_of_lt_of_le bl hbW.size)).trans (show W.cell? ⟨b, off + k * 8 + 1, none⟩ = some (.int .i64 y.cl) from hcelly 1 _ rfl)
            have y2 := (hbs.cell (p := ⟨b, off + k * 8 + 2, none⟩) (Nat.lt_of_lt_of_le bl hbW.size)).trans (show W.cell? ⟨b, off + k * 8 + 2, none⟩ = some (.int .i64 y.no) from hcelly 2 _ rfl)
            have y3 := (hbs.cell (p := ⟨b, off + k * 8 + 3, none⟩) (Nat.lt_of_lt_of_le bl hbW.size)).trans (show W.cell? ⟨b, off + k * 8 + 3, none⟩ = some (.string y.s) from hcelly 3 _ rfl)
            have y4 := (hbs.cell (p := ⟨b, off + k * 8 + 4, none⟩) (Nat.lt_of_lt_of_le bl hbW.size)).trans (show W.cell? ⟨b, off + k * 8 + 4, none⟩ = some (.string y.nm) from hcelly 4 _ rfl)
            have y5 := (hbs.cell (p := ⟨b, off + k * 8 + 5, none⟩) (Nat.lt_of_lt_of_le bl hbW.size)).trans (show W.cell? ⟨b, off + k * 8 + 5, none⟩ = some (.string y.tg) from hcelly 5 _ rfl)
            have y6 := (hbs.cell (p := ⟨b, off + k * 8 + 6, none⟩) (Nat.lt_of_lt_of_le bl hbW.size)).trans (show W.cell? ⟨b, off + k * 8 + 6, none⟩ = some (.int .i64 y.n) from hcelly 6 _ rfl)
            have y7 := (hbs.cell (p := ⟨b, off + k * 8 + 7, none⟩) (Nat.lt_of_lt_of_le bl hbW.size)).trans (show W.cell? ⟨b, off + k * 8 + 7, none⟩ = some (.slice A2 n2 c2) from hcelly 7 _ rfl)
            clear hcelly
            have hby := bounds_el hb.2 hy
            have al := (Below.refl wr.heap.size wr).alloc (Nat.le_refl _) (.cells #[.int .i64 y.kd, .int .i64 y.cl, .int .i64 y.no, .string y.s, .string y.nm, .string y.tg, .int .i64 y.n, .slice A2 n2 c2] 47)
            have z0 := keep_cell al (keep_cell hbs x0)
            have z1 := keep_cell al (keep_cell hbs x1)
            have z2 := keep_cell al (keep_cell hbs x2)
            have z3 := keep_cell al (keep_cell hbs x3)
            have z4 := keep_cell al (keep_cell hbs x4)
            have z5 := keep_cell al (keep_cell hbs x5)
            have z6 := keep_cell al (keep_cell hbs x6)
            have z7 := keep_cell al (keep_cell hbs x7)
            have hyr := hy1.keep (bthen hbs al)
            have hxr2 := hxr.keep (bthen hbs al)
            have hcm : cmAt l k = y := cmAt_of hy
            have hcx : cmAt l i = x := cmAt_of hx
            have HST := Lib.hid (show lvTo l (lv l) i (k + 1) = if clashB y x = true then max (lvTo l (lv l) i k) (lv l k + 1) else lvTo l (lv l) i k by rw [lvTo, hcm, hcx])
            clear hcm hcx
            have hbsl := bthen hbs al
            go_wp2_with fail
            refine (clash_impl y x _ _ _ _ _ _ _ hyr hxr2 hby hbx).mono ?_
            rintro e w4 ⟨rfl, hb4⟩
            have hb4W := bthen hbsl hb4
            obtain ⟨q, hq⟩ : ∃ q, clashB y x = q := ⟨_, rfl⟩
            rw [hq]
            rw [hq] at HST
            clear hq y0 z0 y1 z1 y2 z2 y3 z3 y4 z4 y5 z5 y6 z6 y7 z7
            cases q
            · go_wp2
              exact ⟨⟨k + 1, by omega, by go_num, by rw [HST.out]; rfl, hb4W⟩, by simp [intOf]; omega⟩
            · obtain ⟨b5, off5, hP5, hbl5, hc5⟩ := (IntR.at_r HI.out).at_ (by omega)
              subst hP5
              have hk5 := (hb4W.cell (p := ⟨b5, off5 + k, none⟩) hbl5).trans (hc5 k (by omega))
              rw [lvI_at l i k hlk] at hk5
              clear hc5
              have hlk2 : lv l k ≤ 10 := by have := lv_le l k; have := mxL_le l k; omega
              go_wp2
              refine ⟨⟨k + 1, by omega, by go_num, ?_, hb4W⟩, by simp [intOf]; omega⟩
              rw [HST.out]; simp only [if_true]; congr 1; split <;> omega
          · have hki : k = i := by omega
            subst hki
            have HLV := Lib.hid (lv_eq l k)
            rw [← HLV.out]
            rw [← HLV.out] at hlvb
            clear HI hrow hxr x0 x1 x2 x3 x4 x5 x6 x7
            have hO2 := hO1.keep intK hbs
            have hP2 := hP1.keep hbs
            have hbw2 := bthen hbW hbs
            have hzs := hbs.size
            clear hO1 hP1 HLV hgW hbr hlk hk
            have hPo := hP2.own.2
            have hPlo := hP2.lt
            obtain ⟨css, fps, rfl, hOo, -, hOE⟩ := hO2.ex
            have hOlt := hO2.lt intK
            clear hO2 hP2
            have hlvk := lv_le l k
            have hmk := mxL_le l (k + 1)
            have hl10 : k < l.length := by have := HL.out; omega
            by_cases he : lv l k = mxL l k
            · have gd : (((lv l k : Nat) : Int) == ((mxL l k : Nat) : Int)) = true := by simp [he]
              have hmx1 : mxL l (k + 1) = mxL l k + 1 := by rw [mxL_succ]; omega
              have hRE : rowsE l k = rowsOf l k ++ [[]] := by unfold rowsE; rw [if_pos he]
              have HE := Lib.hid he; clear he
              go_wp2_with (first | (at_builtin; refine wpList_app1g (P := Try.prog) wr rfl (.tmp 42) (.tmp 44) 78 rfl 0 3 _ 1 8 Try.underlying78 infoInt rfl (by omega) (.slice P k cp) _ _ rfl hPo _ _ rfl (by simp) rfl (by simp [Value.oneCell']) (by unfold maxLen; omega) (by omega) (Nat.zero_le _) ?_; intro P' cp' w5 hP5 hgP hbP hobP; refine stop_of ?_) | fail)
              have hC5 : Ch (fun b => b ∈ blkL P) wr w5 := (Ch.of_grow hgP).mono (fun b hb => mem_blkL.2 (blk_of hb))
              have hz5 := hC5.size
              have hP5' : IntO (blkL P') w5 P' (k + 1) cp' (lvI l (k + 1)) := IntO.mk' (by rw [lvI_succ]; simpa using hP5)
              have hPn : ∀ b ∈ blkL P', b ∈ blkL P ∨ wr.heap.size ≤ b := fun b hb => by
                have h1 := blk_own (n := k + 1) (c := cp') (mem_blkL.1 hb)
                rcases hobP with h2 | h2
                · exact .inl (mem_blkL.2 (blk_of (h2.symm.trans h1)))
                · have := Option.some.inj (h1.symm.trans h2); exact .inr (by omega)
              have hdO : ∀ b ∈ blkL O ++ fps.flatten, ¬ b ∈ blkL P := fun b h1 h2 => (List.nodup_append.1 hND).2.2 b h2 b h1 rfl
              have hO5 := own_chL hOo hC5 (fun b hb => hdO b (List.mem_append_left _ hb))
              have hE5 := hOE.ch intK hC5 (fun b hb => hdO b (List.mem_append_right _ hb))
              have hb5 : Below w1.heap.size w1 w5 := hbw2.trans (hC5.below (fun b hb => (hBD b (List.mem_append_left _ hb)).1) hbw2.size)
              have hN5 : (blkL P' ++ (blkL O ++ fps.flatten)).Nodup := by
                refine List.nodup_append.2 ⟨by cases P' <;> simp [blkL], (List.nodup_append.1 hND).2.1, fun a ha b hb hab => ?_⟩
                subst hab
                rcases hPn a ha with h | h
                · exact hdO a hb h
                · have := hOlt a hb; omega
              have hB5 : ∀ b ∈ blkL P' ++ (blkL O ++ fps.flatten), w1.heap.size ≤ b ∧ b < w5.heap.size := fun b hb => by
                rcases List.mem_append.1 hb with h | h
                · have l1 := hP5'.lt b h
                  rcases hPn b h with h2 | h2
                  · exact ⟨(hBD b (List.mem_append_left _ h2)).1, l1⟩
                  · have := hbw2.size; omega
                · have := hBD b (List.mem_append_right _ h); have := hOlt b h; omega
              clear hPo hOo hOE hND hBD hP5 hgP hbP hobP hC5 hdO
              have al6 := (Below.refl w5.heap.size w5).alloc (Nat.le_refl _) (.cells #[] 3)
              have hO6 := own_ch hO5 (Ch.of_below (S := fun _ => False) al6) (fun _ _ h => h)
              have hE6 := hE5.keep intK al6
              have hP6 := hP5'.keep al6
              have hx6 : intF (blkL (some ⟨w5.heap.size, 0, none⟩)) (w5.alloc (.cells #[] 3)) [.slice (some ⟨w5.heap.size, 0, none⟩) 0 0] [] := ⟨_, _, _, rfl, IntO.mk' (by simpa using own_empty w5 3 1 (Nat.zero_le _))⟩
              clear hO5 hE5 hP5'
              unfold Stop
              go_wp2_with (first | (at_builtin; refine wpList_app1g (P := Try.prog) _ rfl (.tmp 50) (.tmp 52) 24 rfl 0 78 _ 1 24 Try.underlying24 infoIntS rfl (by omega) (.slice O (mxL l k) co) _ _ rfl hO6 _ _ rfl (by simp) rfl (by simp [Value.oneCell']) (by unfold maxLen; omega) (by omega) (Nat.zero_le _) ?_; intro O' co' w6 hO7 hgO hbO hobO; refine stop_of ?_) | fail)
              have hgE : ∀ b ∈ blkL (some (⟨w5.heap.size, 0, none⟩ : Addr)), b = w5.heap.size := fun b hb => by simpa [blkL] using hb
              have hN6 : (blkL O ++ (fps ++ [blkL (some ⟨w5.heap.size, 0, none⟩)]).flatten).Nodup := by
                have h1 := (List.nodup_append.1 hN5).2.1
                rw [List.flatten_append, ← List.append_assoc]
                refine nodup_new (m := w5.heap.size) h1 (by simp [blkL]) (fun b hb => (hB5 b (List.mem_append_right _ hb)).2) (fun b hb => by simp [blkL] at hb; omega)
              obtain ⟨hE7, hN7, hO7n⟩ := app_els (A := O) (n := mxL l k) (c := co) intK hE6 hx6 hN6 hgO hobO (by simp)
              have hCO : Ch (fun b => b ∈ blkL O) (w5.alloc (.cells #[] 3)) w6 := (Ch.of_grow hgO).mono (fun b hb => mem_blkL.2 (blk_of hb))
              have hz6 := hCO.size
              simp only [World.size_alloc] at hz6
              have hP7 := hP6.ch hCO (fun b h1 h2 => (List.nodup_append.1 hN5).2.2 b h1 b (List.mem_append_left _ h2) rfl)
              have hO8 : w6.ownsRow 0 78 1 (.slice O' (mxL l k + 1) co') (mxL l k + 1) (css ++ [([.slice (some ⟨w5.heap.size, 0, none⟩) 0 0] : List Value)]).flatten := by rw [flat_snoc]; simpa using hO7
              rw [← hRE] at hE7
              have hO7lt := own_lo hO8
              have hm5 : ∀ b ∈ blkL O', b ∈ blkL O ∨ b = w5.heap.size + 1 + 1 := fun b hb => by have := hO7n b hb; simpa using this
              have hb6 : Below w1.heap.size w1 w6 := (bthen hb5 al6).trans (hCO.below (fun b hb => (hB5 b (by simp [hb])).1) (by have := hb5.size; simp; omega))
              have hN8 : (blkL P' ++ (blkL O' ++ (fps ++ [blkL (some ⟨w5.heap.size, 0, none⟩)]).flatten)).Nodup := by
                refine List.nodup_append.2 ⟨by cases P' <;> simp [blkL], hN7, fun a ha b hb hab => ?_⟩
                subst hab
                have h5 := (List.nodup_append.1 hN5).2.2 a ha
                have h6 := hB5 a (List.mem_append_left _ ha)
                rcases List.mem_append.1 hb with hb | hb
                · rcases hm5 a hb with h | h
                  · exact h5 a (List.mem_append_left _ h) rfl
                  · omega
                · rw [List.flatten_append] at hb
                  rcases List.mem_append.1 hb with hb | hb
                  · exact h5 a (List.mem_append_right _ hb) rfl
                  · have := hgE a (by simpa using hb); omega
              have hB8 : ∀ b ∈ blkL P' ++ (blkL O' ++ (fps ++ [blkL (some ⟨w5.heap.size, 0, none⟩)]).flatten), w1.heap.size ≤ b ∧ b < w6.heap.size := fun b hb => by
                have hz55 := hb5.size
                rcases List.mem_append.1 hb with hb | hb
                · have := hB5 b (List.mem_append_left _ hb); omega
                · rcases List.mem_append.1 hb with hb | hb
                  · have h2 := (hO7lt b hb).2
                    rcases hm5 b hb with h | h
                    · have := hB5 b (by simp [h]); omega
                    · omega
                  · rw [List.flatten_append] at hb
                    rcases List.mem_append.1 hb with hb | hb
                    · have := hB5 b (by simp only [List.mem_append]; exact .inr (.inr hb)); omega
                    · have := hgE b (by simpa using hb); omega
              have hEl := rowsE_len l k
              rw [← hmx1] at hO8
              clear hO6 hE6 hP6 hx6 hO7 hgO hbO hobO hN6 hN5 hB5 hO7n hO7lt
              have hm11 : mxL l (k + 1) ≤ 11 := by omega
              rw [show mxL l k + 1 = mxL l (k + 1) from hmx1.symm]
              have hat := rowsE_at l k
              obtain ⟨q1, q2⟩ := List.getElem?_eq_some_iff.1 hat
              have hsp : rowsE l k = (rowsE l k).take (lv l k) ++ rowOf l k (lv l k) :: (rowsE l k).drop (lv l k + 1) := by rw [← drop_one hat, List.take_append_drop]
              have hset : rowsOf l (k + 1) = (rowsE l k).take (lv l k) ++ (rowOf l k (lv l k) ++ [(k : Int)]) :: (rowsE l k).drop (lv l k + 1) := by rw [rowsOf_succ, List.set_eq_take_append_cons_drop, if_pos q1]
              have hE9 := hE7
              rw [hsp] at hE9
              obtain ⟨c1, c2', f1, f2', hcs, hfs, hE91, hE92⟩ := hE9.split
              obtain ⟨cs, c2, f, f2, rfl, rfl, hFx, hE93⟩ := hE92.cons
              obtain ⟨B, nB, cB, rfl, hB⟩ := hFx
              have hnB : nB = (rowOf l k (lv l k)).length := hB.at_.len
              subst hnB
              obtain ⟨rfl, hBo⟩ := hB.own
              have hrl := rowOf_len l k (lv l k)
              have hOr := hO8
              rw [hcs, List.flatten_append, List.flatten_cons] at hOr
              obtain ⟨g, hA, hg0⟩ : ∃ g, O' = some ⟨g, 0, none⟩ ∧ g < w6.heap.size := by rcases own_form hOr with ⟨_, h0, _⟩ | ⟨g, h1, _, h2⟩ <;> first | omega | exact ⟨g, h1, h2⟩
              subst hA
              have htl : ((rowsE l k).take (lv l k)).length = lv l k := by rw [List.length_take]; omega
              have hP1 : c1.flatten.length = lv l k := by rw [hE91.flat intK, htl]; omega
              have e0 : w6.cell? ⟨g, lv l k, none⟩ = some (.slice B (rowOf l k (lv l k)).length cB) := by have := own_mid hOr hP1 (r := 0) rfl; simpa using this
              have hN9 := hN8
              rw [hfs] at hN9
              have hNg : (g :: (f1.flatten ++ (blkL B ++ f2.flatten))).Nodup := by have := (List.nodup_append.1 hN9).2.1; simpa [blkL] using this
              have hgB : ¬ g ∈ blkL B := by have := List.nodup_cons.1 hNg; grind
              unfold Stop
              go_wp2_with (at_builtin; refine wpList_app1g (P := Try.prog) w6 rfl (.tmp 59) (.tmp 61) 78 rfl 0 3 _ 1 8 Try.underlying78 infoInt rfl (by omega) (.slice B (rowOf l k (lv l k)).length cB) _ _ rfl hBo _ _ rfl (by simp) rfl (by simp [Value.oneCell']) (by unfold maxLen; omega) (by omega) (Nat.zero_le _) ?_; intro B' cB' w7 hB7 hgB7 hbB7 hobB7; refine stop_of ?_)
              have hC7 : Ch (fun b => b ∈ blkL B) w6 w7 := (Ch.of_grow hgB7).mono (fun b hb => mem_blkL.2 (blk_of hb))
              have hB7' : IntO (blkL B') w7 B' ((rowOf l k (lv l k)).length + 1) cB' (rowOf l k (lv l k) ++ [(k : Int)]) := IntO.mk' (by simpa using hB7)
              have hBn : ∀ b ∈ blkL B', b ∈ blkL B ∨ w6.heap.size ≤ b := fun b hb => by
                have h1 := blk_own (n := (rowOf l k (lv l k)).length + 1) (c := cB') (mem_blkL.1 hb)
                rcases hobB7 with h2 | h2
                · exact .inl (mem_blkL.2 (blk_of (h2.symm.trans h1)))
                · have := Option.some.inj (h1.symm.trans h2); exact .inr (by omega)
              have o7 := own_ch hOr hC7 (fun b hb h2 => hgB (by rw [show g = b by simpa [Value.ownBlock] using hb]; exact h2))
              have y0 := o7.frozenAt (lv l k)
              have e7 : w7.cell? ⟨g, lv l k, none⟩ = some (.slice B (rowOf l k (lv l k)).length cB) := by have := own_mid o7 hP1 (r := 0) rfl; simpa using this
              unfold Stop
              go_wp2
              have hz78 : w7.heap.size ≤ (w7.setCell ⟨g, lv l k, none⟩ (.slice B' ((rowOf l k (lv l k)).length + 1) cB')).heap.size := by simp
              obtain ⟨w8, hw8⟩ : ∃ W, W = w7.setCell ⟨g, lv l k, none⟩ (.slice B' ((rowOf l k (lv l k)).length + 1) cB') := ⟨_, rfl⟩
              rw [← hw8] at hz78 ⊢
              have hw9 : w8 = setsW w7 g (((rowsE l k).take (lv l k)).length * 1) [.slice B' ((rowOf l k (lv l k)).length + 1) cB'] := by rw [htl, Nat.mul_one]; exact hw8
              obtain ⟨U1, U2, U3⟩ := upd_els (f' := blkL B') (x' := rowOf l k (lv l k) ++ [(k : Int)]) intK hOr hE91 hE93 rfl (by have hq := congrArg List.length hsp; rw [hEl, List.length_append, List.length_cons] at hq; omega) hNg hC7 ⟨B', _, cB', rfl, hB7'⟩ hBn (by cases B' <;> simp [blkL]) hw9
              clear hw8 hw9 e7 y0 o7
              rw [← hset] at U1
              have hdP : ∀ b ∈ blkL P', ¬ (b = g ∨ b ∈ blkL B) := fun b hb h2 => by
                have h5 := (List.nodup_append.1 hN9).2.2 b hb
                rcases h2 with h2 | h2
                · exact h5 b (by simp [blkL, h2]) rfl
                · exact h5 b (by simp [h2]) rfl
              have hPf := hP7.ch U3 hdP
              have hz8 := U3.size
              have hVz := hb6.size
              have hBx : ∀ b ∈ blkL B', w1.heap.size ≤ b ∧ b < w8.heap.size := fun b hb => by
                have l1 := hB7'.lt b hb
                have l2 := hz78
                rcases hBn b hb with h | h
                · have := hB8 b (by rw [hfs]; simp [h]); omega
                · omega
              refine ⟨⟨k + 1, _, _, P', _, _, by omega, by go_num, by rw [hmx1], rfl, U1, hPf, ?_, ?_, hb6.trans (U3.below (fun b hb => by exact hb.elim (fun h => by subst h; exact (hB8 _ (by simp [blkL])).1) (fun h => (hB8 b (by rw [hfs]; simp [h])).1)) hb6.size)⟩, by simp [intOf]; omega⟩
              · refine List.nodup_append.2 ⟨by cases P' <;> simp [blkL], by simpa [blkL] using U2, fun a ha b hb hab => ?_⟩
                subst hab
                have h5 := (List.nodup_append.1 hN9).2.2 a ha
                simp only [blkL, List.flatten_append, List.flatten_cons, List.mem_append, List.mem_cons, List.not_mem_nil, or_false] at hb
                have hPlt := hP7.lt a ha
                rcases hb with hb | hb | hb | hb
                · exact h5 a (by simp [blkL, hb]) rfl
                · exact h5 a (by simp [hb]) rfl
                · rcases hBn a hb with h | h
                  · exact h5 a (by simp [h]) rfl
                  · omega
                · exact h5 a (by simp [hb]) rfl
              · intro b hb
                rcases List.mem_append.1 hb with hb | hb
                · have := hB8 b (List.mem_append_left _ hb); omega
                simp only [blkL, List.flatten_append, List.flatten_cons, List.mem_append, List.mem_cons, List.not_mem_nil, or_false] at hb
                rcases hb with hb | hb | hb | hb
                · have := hB8 b (by rw [hfs]; simp [blkL, hb]); omega
                · have := hB8 b (by rw [hfs]; simp [hb]); omega
                · exact hBx b hb
                · have := hB8 b (by rw [hfs]; simp [hb]); omega
            · have gd : (((lv l k : Nat) : Int) == ((mxL l k : Nat) : Int)) = false := by simp; omega
              have hmx1 : mxL l (k + 1) = mxL l k := by rw [mxL_succ]; omega
              have hRE : rowsE l k = rowsOf l k := by unfold rowsE; rw [if_neg he]
              have HE := Lib.hid he; clear he
              go_wp2_with (first | (at_builtin; refine wpList_app1g (P := Try.prog) wr rfl (.tmp 42) (.tmp 44) 78 rfl 0 3 _ 1 8 Try.underlying78 infoInt rfl (by omega) (.slice P k cp) _ _ rfl hPo _ _ rfl (by simp) rfl (by simp [Value.oneCell']) (by unfold maxLen; omega) (by omega) (Nat.zero_le _) ?_; intro P' cp' w5 hP5 hgP hbP hobP; refine stop_of ?_) | fail)
              have hC5 : Ch (fun b => b ∈ blkL P) wr w5 := (Ch.of_grow hgP).mono (fun b hb => mem_blkL.2 (blk_of hb))
              have hz5 := hC5.size
              have hP5' : IntO (blkL P') w5 P' (k + 1) cp' (lvI l (k + 1)) := IntO.mk' (by rw [lvI_succ]; simpa using hP5)
              have hPn : ∀ b ∈ blkL P', b ∈ blkL P ∨ wr.heap.size ≤ b := fun b hb => by
                have h1 := blk_own (n := k + 1) (c := cp') (mem_blkL.1 hb)
                rcases hobP with h2 | h2
                · exact .inl (mem_blkL.2 (blk_of (h2.symm.trans h1)))
                · have := Option.some.inj (h1.symm.trans h2); exact .inr (by omega)
              have hdO : ∀ b ∈ blkL O ++ fps.flatten, ¬ b ∈ blkL P := fun b h1 h2 => (List.nodup_append.1 hND).2.2 b h2 b h1 rfl
              have hO5 := own_chL hOo hC5 (fun b hb => hdO b (List.mem_append_left _ hb))
              have hE5 := hOE.ch intK hC5 (fun b hb => hdO b (List.mem_append_right _ hb))
              have hb5 : Below w1.heap.size w1 w5 := hbw2.trans (hC5.below (fun b hb => (hBD b (List.mem_append_left _ hb)).1) hbw2.size)
              have hN5 : (blkL P' ++ (blkL O ++ fps.flatten)).Nodup := by
                refine List.nodup_append.2 ⟨by cases P' <;> simp [blkL], (List.nodup_append.1 hND).2.1, fun a ha b hb hab => ?_⟩
                subst hab
                rcases hPn a ha with h | h
                · exact hdO a hb h
                · have := hOlt a hb; omega
              have hB5 : ∀ b ∈ blkL P' ++ (blkL O ++ fps.flatten), w1.heap.size ≤ b ∧ b < w5.heap.size := fun b hb => by
                rcases List.mem_append.1 hb with h | h
                · have l1 := hP5'.lt b h
                  rcases hPn b h with h2 | h2
                  · exact ⟨(hBD b (List.mem_append_left _ h2)).1, l1⟩
                  · have := hbw2.size; omega
                · have := hBD b (List.mem_append_right _ h); have := hOlt b h; omega
              clear hPo hOo hOE hND hBD hP5 hgP hbP hobP hC5 hdO
              have hEl := rowsE_len l k
              rw [← hRE] at hE5
              have hO8 : w5.ownsRow 0 78 1 (.slice O (mxL l (k + 1)) co) (mxL l (k + 1)) css.flatten := by rw [hmx1]; exact hO5
              have hm11 : mxL l (k + 1) ≤ 11 := by omega
              rw [show mxL l k = mxL l (k + 1) from hmx1.symm]
              have hat := rowsE_at l k
              obtain ⟨q1, q2⟩ := List.getElem?_eq_some_iff.1 hat
              have hsp : rowsE l k = (rowsE l k).take (lv l k) ++ rowOf l k (lv l k) :: (rowsE l k).drop (lv l k + 1) := by rw [← drop_one hat, List.take_append_drop]
              have hset : rowsOf l (k + 1) = (rowsE l k).take (lv l k) ++ (rowOf l k (lv l k) ++ [(k : Int)]) :: (rowsE l k).drop (lv l k + 1) := by rw [rowsOf_succ, List.set_eq_take_append_cons_drop, if_pos q1]
              have hE9 := hE5
              rw [hsp] at hE9
              obtain ⟨c1, c2', f1, f2', hcs, hfs, hE91, hE92⟩ := hE9.split
              obtain ⟨cs, c2, f, f2, rfl, rfl, hFx, hE93⟩ := hE92.cons
              obtain ⟨B, nB, cB, rfl, hB⟩ := hFx
              have hnB : nB = (rowOf l k (lv l k)).length := hB.at_.len
              subst hnB
              obtain ⟨rfl, hBo⟩ := hB.own
              have hrl := rowOf_len l k (lv l k)
              have hOr := hO8
              rw [hcs, List.flatten_append, List.flatten_cons] at hOr
              obtain ⟨g, hA, hg0⟩ : ∃ g, O = some ⟨g, 0, none⟩ ∧ g < w5.heap.size := by rcases own_form hOr with ⟨_, h0, _⟩ | ⟨g, h1, _, h2⟩ <;> first | omega | exact ⟨g, h1, h2⟩
              subst hA
              have htl : ((rowsE l k).take (lv l k)).length = lv l k := by rw [List.length_take]; omega
              have hP1 : c1.flatten.length = lv l k := by rw [hE91.flat intK, htl]; omega
              have e0 : w5.cell? ⟨g, lv l k, none⟩ = some (.slice B (rowOf l k (lv l k)).length cB) := by have := own_mid hOr hP1 (r := 0) rfl; simpa using this
              have hN9 := hN5
              rw [hfs] at hN9
              have hNg : (g :: (f1.flatten ++ (blkL B ++ f2.flatten))).Nodup := by have := (List.nodup_append.1 hN9).2.1; simpa [blkL] using this
              have hgB : ¬ g ∈ blkL B := by have := List.nodup_cons.1 hNg; grind
              unfold Stop
              go_wp2_with (at_builtin; refine wpList_app1g (P := Try.prog) w5 rfl (.tmp 59) (.tmp 61) 78 rfl 0 3 _ 1 8 Try.underlying78 infoInt rfl (by omega) (.slice B (rowOf l k (lv l k)).length cB) _ _ rfl hBo _ _ rfl (by simp) rfl (by simp [Value.oneCell']) (by unfold maxLen; omega) (by omega) (Nat.zero_le _) ?_; intro B' cB' w7 hB7 hgB7 hbB7 hobB7; refine stop_of ?_)
              have hC7 : Ch (fun b => b ∈ blkL B) w5 w7 := (Ch.of_grow hgB7).mono (fun b hb => mem_blkL.2 (blk_of hb))
              have hB7' : IntO (blkL B') w7 B' ((rowOf l k (lv l k)).length + 1) cB' (rowOf l k (lv l k) ++ [(k : Int)]) := IntO.mk' (by simpa using hB7)
              have hBn : ∀ b ∈ blkL B', b ∈ blkL B ∨ w5.heap.size ≤ b := fun b hb => by
                have h1 := blk_own (n := (rowOf l k (lv l k)).length + 1) (c := cB') (mem_blkL.1 hb)
                rcases hobB7 with h2 | h2
                · exact .inl (mem_blkL.2 (blk_of (h2.symm.trans h1)))
                · have := Option.some.inj (h1.symm.trans h2); exact .inr (by omega)
              have o7 := own_ch hOr hC7 (fun b hb h2 => hgB (by rw [show g = b by simpa [Value.ownBlock] using hb]; exact h2))
              have y0 := o7.frozenAt (lv l k)
              have e7 : w7.cell? ⟨g, lv l k, none⟩ = some (.slice B (rowOf l k (lv l k)).length cB) := by have := own_mid o7 hP1 (r := 0) rfl; simpa using this
              unfold Stop
              go_wp2
              have hz78 : w7.heap.size ≤ (w7.setCell ⟨g, lv l k, none⟩ (.slice B' ((rowOf l k (lv l k)).length + 1) cB')).heap.size := by simp
              obtain ⟨w8, hw8⟩ : ∃ W, W = w7.setCell ⟨g, lv l k, none⟩ (.slice B' ((rowOf l k (lv l k)).length + 1) cB') := ⟨_, rfl⟩
              rw [← hw8] at hz78 ⊢
              have hw9 : w8 = setsW w7 g (((rowsE l k).take (lv l k)).length * 1) [.slice B' ((rowOf l k (lv l k)).length + 1) cB'] := by rw [htl, Nat.mul_one]; exact hw8
              obtain ⟨U1, U2, U3⟩ := upd_els (f' := blkL B') (x' := rowOf l k (lv l k) ++ [(k : Int)]) intK hOr hE91 hE93 rfl (by have hq := congrArg List.length hsp; rw [hEl, List.length_append, List.length_cons] at hq; omega) hNg hC7 ⟨B', _, cB', rfl, hB7'⟩ hBn (by cases B' <;> simp [blkL]) hw9
              clear hw8 hw9 e7 y0 o7
              rw [← hset] at U1
              have hdP : ∀ b ∈ blkL P', ¬ (b = g ∨ b ∈ blkL B) := fun b hb h2 => by
                have h5 := (List.nodup_append.1 hN9).2.2 b hb
                rcases h2 with h2 | h2
                · exact h5 b (by simp [blkL, h2]) rfl
                · exact h5 b (by simp [h2]) rfl
              have hPf := hP5'.ch U3 hdP
              have hz8 := U3.size
              have hVz := hb5.size
              have hBx : ∀ b ∈ blkL B', w1.heap.size ≤ b ∧ b < w8.heap.size := fun b hb => by
                have l1 := hB7'.lt b hb
                have l2 := hz78
                rcases hBn b hb with h | h
                · have := hB5 b (by rw [hfs]; simp [h]); omega
                · omega
              refine ⟨⟨k + 1, _, _, P', _, _, by omega, by go_num, by rw [hmx1], rfl, U1, hPf, ?_, ?_, hb5.trans (U3.below (fun b hb => by exact hb.elim (fun h => by subst h; exact (hB5 _ (by simp [blkL])).1) (fun h => (hB5 b (by rw [hfs]; simp [h])).1)) hb5.size)⟩, by simp [intOf]; omega⟩
              · refine List.nodup_append.2 ⟨by cases P' <;> simp [blkL], by simpa [blkL] using U2, fun a ha b hb hab => ?_⟩
                subst hab
                have h5 := (List.nodup_append.1 hN9).2.2 a ha
                simp only [blkL, List.flatten_append, List.flatten_cons, List.mem_append, List.mem_cons, List.not_mem_nil, or_false] at hb
                have hPlt := hP5'.lt a ha
                rcases hb with hb | hb | hb | hb
                · exact h5 a (by simp [blkL, hb]) rfl
                · exact h5 a (by simp [hb]) rfl
                · rcases hBn a hb with h | h
                  · exact h5 a (by simp [h]) rfl
                  · omega
                · exact h5 a (by simp [hb]) rfl
              · intro b hb
                rcases List.mem_append.1 hb with hb | hb
                · have := hB5 b (List.mem_append_left _ hb); omega
                simp only [blkL, List.flatten_append, List.flatten_cons, List.mem_append, List.mem_cons, List.not_mem_nil, or_false] at hb
                rcases hb with hb | hb | hb | hb
                · have := hB5 b (by rw [hfs]; simp [blkL, hb]); omega
                · have := hB5 b (by rw [hfs]; simp [hb]); omega
                · exact hBx b hb
                · have := hB5 b (by rw [hfs]; simp [hb]); omega
      · go_wp2
        go_returns
        have hin : i = l.length := by have := HL.out; omega
        rw [HB.out, ← hin]
        have hbz := hb1.size
        exact ⟨O, mxL l i, co, rfl, ⟨fp, (List.nodup_append.1 hND).2.1, fun b hb => by have := hBD b (List.mem_append_right _ hb); omega, hO⟩, bthen hb1 hbr⟩
end Go.Proofs.Ytdphdnllhmnelaa
/- A region that draws its order and holds loads of old cells and calls that make memory: one walk in the order of the text, over the class of worlds in which all that lay lies. -/
namespace Go.Proofs.Ytdphdnllhmnelaa
open Go.RowKit

/-- a world in which all that lay in w lies -/
def Grow (w : World) : Type := { X : World // Below w.heap.size w X }
instance {w : World} : Nonempty (Grow w) := ⟨⟨w, Below.refl _ _⟩⟩
def Grow.at_ {w : World} (X : Grow w) : World := X.1
theorem Grow.below {w : World} (X : Grow w) : Below w.heap.size w X.at_ := X.2
theorem Grow.cell {w : World} (X : Grow w) {b o : Nat} (h : b < w.heap.size) : X.at_.cell? ⟨b, o, none⟩ = w.cell? ⟨b, o, none⟩ := X.2.cell h
theorem Grow.frozen {w : World} (X : Grow w) {b o : Nat} (h : b < w.heap.size) : X.at_.frozen? ⟨b, o, none⟩ = w.frozen? ⟨b, o, none⟩ := X.2.frozen h
theorem Grow.cell_of {w : World} (X : Grow w) {b o : Nat} {v : Value} (h : b < w.heap.size) (hc : w.cell? ⟨b, o, none⟩ = some v) : X.at_.cell? ⟨b, o, none⟩ = some v := (X.cell h).trans hc
def Grow.mk' {w W : World} (h : Below w.heap.size w W) : Grow w := ⟨W, h⟩
theorem wp_region_grow {P : Program} {id : Nat} {Q : Exit → Act → World → Prop} {a : Act} {w : World} {l : List Oper} (hm : P.follows .mixedOrders = true) (hB : Region.lexB .any l.toArray = true)
    (h : wpQuiet P l.toArray (fun w' => ∃ X : Grow w, w' = X.at_) (fun a' => ∀ w', (∃ X : Grow w, w' = X.at_) → Q .normal a' w') l a) : (Code.region id l.toArray true).wp P Q a w :=
  wp_region_quiet (C := fun w' => ∃ X : Grow w, w' = X.at_) hm hB ⟨⟨w.drew, (Below.refl _ _).drew⟩, rfl⟩ (by simpa using h)
theorem grow_of {P : Program} {f : FuncId} {args : Array Value} {w : World} {X : Grow w} {v : Value} (h : Calls P f args X.at_ fun e w' => e = .returned v ∧ Below X.at_.heap.size X.at_ w') :
    Calls P f args X.at_ fun e w'' => e = .returned v ∧ ∃ Y : Grow w, w'' = Y.at_ :=
  h.mono fun _ w' ⟨he, hb⟩ => ⟨he, Grow.mk' (bthen X.below hb), rfl⟩
theorem grow_same {P : Program} {f : FuncId} {args : Array Value} {w : World} {X : Grow w} {v : Value} (h : Calls P f args X.at_ fun e w' => e = .returned v ∧ X.at_ = w') :
    Calls P f args X.at_ fun e w'' => e = .returned v ∧ ∃ Y : Grow w, w'' = Y.at_ :=
  h.mono fun _ w' ⟨he, hb⟩ => ⟨he, X, hb.symm⟩
/-- an answer that is known -/
theorem known {P : Program} {f : FuncId} {args : Array Value} {w : World} {T : World → Prop} {x y : Bool} (hx : x = y) (h : Calls P f args w fun e w' => e = .returned (.bool x) ∧ T w') : Calls P f args w fun e w' => e = .returned (.bool y) ∧ T w' := by
  subst hx; exact h
end Go.Proofs.Ytdphdnllhmnelaa
