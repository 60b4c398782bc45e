/- Contracts on events: EventsOk. -/
import Derived.Test.YtmichbgiaoopgaaNumA
import Derived.Test.YtmichbgiaoopgaaMem
import Derived.BigQuiet
import Derived.Deep.QuietTactic
namespace Go.Proofs.Ytmichbgiaoopgaa
open Go.RowKit

/-- an event: when, whose, number, text -/
structure Ev where
  t : Int
  c : Int
  n : Int
  x : ByteArray
def evNil : Ev := ⟨0, 0, 0, ByteArray.empty⟩
def eAt (l : List Ev) (i : Nat) : Ev := l.getD i evNil
theorem eAt_get {l : List Ev} {k : Nat} (h : k < l.length) : eAt l k = l[k] := by simp [eAt, h]
/-- a row of events -/
def EvsAt (w : World) (A : Option Addr) (n : Nat) (l : List Ev) : Prop :=
  n = l.length ∧ (0 < n → ∃ b off, A = some ⟨b, off, none⟩ ∧ b < w.heap.size ∧ ∀ i, i < n →
    w.cell? ⟨b, off + i * 4, none⟩ = some (.int .i64 (eAt l i).t) ∧ w.cell? ⟨b, off + i * 4 + 1, none⟩ = some (.int .i64 (eAt l i).c) ∧
    w.cell? ⟨b, off + i * 4 + 2, none⟩ = some (.int .i64 (eAt l i).n) ∧ w.cell? ⟨b, off + i * 4 + 3, none⟩ = some (.string (eAt l i).x))
theorem EvsAt.at_ {w : World} {A : Option Addr} {n : Nat} {l : List Ev} (h : EvsAt w A n l) {k : Nat} (hk : k < n) : ∃ b off, A = some ⟨b, off, none⟩ ∧ b < w.heap.size ∧ ∀ i, i < n →
    w.cell? ⟨b, off + i * 4, none⟩ = some (.int .i64 (eAt l i).t) ∧ w.cell? ⟨b, off + i * 4 + 1, none⟩ = some (.int .i64 (eAt l i).c) ∧
    w.cell? ⟨b, off + i * 4 + 2, none⟩ = some (.int .i64 (eAt l i).n) ∧ w.cell? ⟨b, off + i * 4 + 3, none⟩ = some (.string (eAt l i).x) := h.2 (by omega)
theorem EvsAt.keep {w w' : World} {A : Option Addr} {n : Nat} {l : List Ev} (h : EvsAt w A n l) (hb : Below w.heap.size w w') : EvsAt w' A n l := by
  refine ⟨h.1, fun hn => ?_⟩
  obtain ⟨b, off, rfl, hlt, hc⟩ := h.2 hn
  exact ⟨b, off, rfl, Nat.lt_of_lt_of_le hlt hb.size, fun i hi => ⟨(hb.cell hlt).trans (hc i hi).1, (hb.cell hlt).trans (hc i hi).2.1, (hb.cell hlt).trans (hc i hi).2.2.1, (hb.cell hlt).trans (hc i hi).2.2.2⟩⟩

/-- event i: a client, a number, not before the one before it -/
def evAt (l : List Ev) (i : Nat) : Bool := inB (eAt l i).c 1 9 && inB (eAt l i).n 1 1000 && (decide (i = 0) || decide ((eAt l (i - 1)).t ≤ (eAt l i).t))
def evsOkB (l : List Ev) : Bool := (List.range l.length).all (evAt l)

theorem isClient_any (x : Int) (w : World) :
    Calls Try.prog 101 #[.int .i64 x] w fun e w' => e = .returned (.bool (inB x 1 9)) ∧ w = w' := by
  go_enter Try.func101, Try.ntmps101
  go_wp2
  all_goals go_ret
  all_goals exact ⟨ret_bool (beq_bool (by simp [inB]; try omega)), rfl⟩

set_option maxHeartbeats 1000000 in
theorem eventsOk_impl (A : Option Addr) (n c : Nat) (l : List Ev) (w : World) (h : EvsAt w A n l) (hn : n ≤ 1152921504606846975) :
    Calls Try.prog 55 #[.slice A n c] w fun e w' => e = .returned (.bool (evsOkB l)) ∧ Below w.heap.size w w' := by
  have hL : l.length = n := h.1.symm
  have HL := Lib.hid hL; clear hL
  go_enter Try.func55, Try.ntmps55
  go_wp2
  go_loopw [7] (fun i wr => ∃ k : Nat, k ≤ n ∧ i = .int .i64 k ∧ (∀ j, j < k → evAt l j = true) ∧ Below w.heap.size w wr) (fun i _ => n - (intOf i).toNat)
  case atStart => exact ⟨0, Nat.zero_le _, rfl, fun j hj => absurd hj (by omega), Below.refl _ _⟩
  case round =>
    obtain ⟨k, hk, rfl, hall, hb⟩ := hrel
    have HA := Lib.hid hall; clear hall
    by_cases hlt : k < n
    · obtain ⟨b, off, rfl, hbl, hc⟩ := h.at_ hlt
      have hbr : b < wr.heap.size := Nat.lt_of_lt_of_le hbl hb.size
      have hc0 := (hb.cell (p := ⟨b, off + k * 4, none⟩) hbl).trans (hc k hlt).1
      have hc1 := (hb.cell (p := ⟨b, off + k * 4 + 1, none⟩) hbl).trans (hc k hlt).2.1
      have hc2 := (hb.cell (p := ⟨b, off + k * 4 + 2, none⟩) hbl).trans (hc k hlt).2.2.1
      have hc3 := (hb.cell (p := ⟨b, off + k * 4 + 3, none⟩) hbl).trans (hc k hlt).2.2.2
      have hcp : 0 < k → wr.cell? ⟨b, off + (k - 1) * 4, none⟩ = some (.int .i64 (eAt l (k - 1)).t) := fun _ => (hb.cell (p := ⟨b, off + (k - 1) * 4, none⟩) hbl).trans (hc (k - 1) (by omega)).1
      clear hc
      cases h1 : inB (eAt l k).c 1 9 with
      | false =>
        clear hcp
        go_wp2
        go_quiet ((first | (go_at_call 101; exact quiet_l (isClient_any _ _)) | (go_at_call 102; exact quiet_l (within_any _ _ _ _))))
        go_wp2
        go_returns
        exact ⟨ret_bool (all_no (k := k) (by have := HL.out; omega) (by simp [evAt, h1])).symm, below_drewN (hb.alloc hb.size _) _⟩
      | true =>
        cases h2 : inB (eAt l k).n 1 1000 with
        | false =>
          clear hcp
          go_wp2
          go_quiet ((first | (go_at_call 101; exact quiet_l (isClient_any _ _)) | (go_at_call 102; exact quiet_l (within_any _ _ _ _))))
          go_wp2
          go_returns
          exact ⟨ret_bool (all_no (k := k) (by have := HL.out; omega) (by simp [evAt, h2])).symm, below_drewN (hb.alloc hb.size _) _⟩
        | true =>
          by_cases hk0 : 0 < k
          · have hcp' := hcp hk0
            clear hcp
            by_cases hle : (eAt l k).t < (eAt l (k - 1)).t
            · have HK := Lib.hid (show evAt l k = false by simp [evAt]; omega)
              go_wp2
              go_quiet ((first | (go_at_call 101; exact quiet_l (isClient_any _ _)) | (go_at_call 102; exact quiet_l (within_any _ _ _ _))))
              go_wp2
              go_returns
              exact ⟨ret_bool (all_no (k := k) (by have := HL.out; omega) (HK.out)).symm, below_drewN (hb.alloc hb.size _) _⟩
            · have HK := Lib.hid (show evAt l k = true by simp [evAt, h1, h2]; omega)
              go_wp2
              go_quiet ((first | (go_at_call 101; exact quiet_l (isClient_any _ _)) | (go_at_call 102; exact quiet_l (within_any _ _ _ _))))
              go_wp2
              exact ⟨⟨k + 1, by omega, by go_num, upto_succ HA.out (HK.out), below_drewN (hb.alloc hb.size _) _⟩, by simp [intOf]; omega⟩
          · clear hcp
            have gk : decide (0 < k) = false := by simpa using hk0
            have HK := Lib.hid (show evAt l k = true by simp [evAt, h1, h2]; omega)
            go_wp2
            go_quiet ((first | (go_at_call 101; exact quiet_l (isClient_any _ _)) | (go_at_call 102; exact quiet_l (within_any _ _ _ _))))
            go_wp2
            exact ⟨⟨k + 1, by omega, by go_num, upto_succ HA.out (HK.out), below_drewN (hb.alloc hb.size _) _⟩, by simp [intOf]; omega⟩
    · go_wp2
      go_returns
      refine ⟨ret_bool (all_yes (fun j hj => HA.out j (by have := HL.out; omega))).symm, hb⟩

set_option maxHeartbeats 1000000 in
theorem eventsOk_spec (A : Option Addr) (n c : Nat) (l : List Ev) (w : World) (h : EvsAt w A n l) (hn : n ≤ 1152921504606846975) :
    Calls Try.prog 56 #[.slice A n c] w fun e w' => e = .returned (.bool (evsOkB l)) ∧ Below w.heap.size w w' := by
  have hL : l.length = n := h.1.symm
  have HL := Lib.hid hL; clear hL
  go_enter Try.func56, Try.ntmps56
  go_wp2
  go_loopw [3] (fun i wr => ∃ k : Nat, k ≤ n ∧ i = .int .i64 k ∧ (∀ j, j < k → evAt l j = true) ∧ Below w.heap.size w wr) (fun i _ => n - (intOf i).toNat)
  case atStart => exact ⟨0, Nat.zero_le _, rfl, fun j hj => absurd hj (by omega), Below.refl _ _⟩
  case round =>
    obtain ⟨k, hk, rfl, hall, hb⟩ := hrel
    have HA := Lib.hid hall; clear hall
    by_cases hlt : k < n
    · obtain ⟨b, off, rfl, hbl, hc⟩ := h.at_ hlt
      have hc0 := (hb.cell (p := ⟨b, off + k * 4, none⟩) hbl).trans (hc k hlt).1
      have hc1 := (hb.cell (p := ⟨b, off + k * 4 + 1, none⟩) hbl).trans (hc k hlt).2.1
      have hc2 := (hb.cell (p := ⟨b, off + k * 4 + 2, none⟩) hbl).trans (hc k hlt).2.2.1
      have hcp : 0 < k → wr.cell? ⟨b, off + (k - 1) * 4, none⟩ = some (.int .i64 (eAt l (k - 1)).t) := fun _ => (hb.cell (p := ⟨b, off + (k - 1) * 4, none⟩) hbl).trans (hc (k - 1) (by omega)).1
      clear hc
      by_cases hk0 : 0 < k
      · have hcp' := hcp hk0
        clear hcp
        by_cases hle : (eAt l k).t < (eAt l (k - 1)).t
        · have HK := Lib.hid (show evAt l k = false by simp [evAt]; omega)
          go_wp2
          go_quiet ((go_at_call 103; exact quiet_l (l1In_any _ _ _ _)))
          go_wp2
          go_returns
          exact ⟨ret_bool (all_no (k := k) (by have := HL.out; omega) (HK.out)).symm, below_drewN hb _⟩
        · have gle : decide ((eAt l k).t < (eAt l (k - 1)).t) = false := by simpa using hle
          cases h1 : inB (eAt l k).c 1 9 with
          | false =>
            have HK := Lib.hid (show evAt l k = false by simp [evAt, h1])
            go_wp2
            go_quiet ((go_at_call 103; exact quiet_l (l1In_any _ _ _ _)))
            go_wp2
            go_returns
            exact ⟨ret_bool (all_no (k := k) (by have := HL.out; omega) (HK.out)).symm, below_drewN hb _⟩
          | true =>
            cases h2 : inB (eAt l k).n 1 1000 with
            | false =>
              have HK := Lib.hid (show evAt l k = false by simp [evAt, h2])
              go_wp2
              go_quiet ((go_at_call 103; exact quiet_l (l1In_any _ _ _ _)))
              go_wp2
              go_returns
              exact ⟨ret_bool (all_no (k := k) (by have := HL.out; omega) (HK.out)).symm, below_drewN hb _⟩
            | true =>
              have HK := Lib.hid (show evAt l k = true by simp [evAt, h1, h2]; omega)
              go_wp2
              go_quiet ((go_at_call 103; exact quiet_l (l1In_any _ _ _ _)))
              go_wp2
              exact ⟨⟨k + 1, by omega, by go_num, upto_succ HA.out (HK.out), below_drewN hb _⟩, by simp [intOf]; omega⟩
      · clear hcp
        have gk : decide (0 < k) = false := by simpa using hk0
        cases h1 : inB (eAt l k).c 1 9 with
        | false =>
          have HK := Lib.hid (show evAt l k = false by simp [evAt, h1])
          go_wp2
          go_quiet ((go_at_call 103; exact quiet_l (l1In_any _ _ _ _)))
          go_wp2
          go_returns
          exact ⟨ret_bool (all_no (k := k) (by have := HL.out; omega) (HK.out)).symm, below_drewN hb _⟩
        | true =>
          cases h2 : inB (eAt l k).n 1 1000 with
          | false =>
            have HK := Lib.hid (show evAt l k = false by simp [evAt, h2])
            go_wp2
            go_quiet ((go_at_call 103; exact quiet_l (l1In_any _ _ _ _)))
            go_wp2
            go_returns
            exact ⟨ret_bool (all_no (k := k) (by have := HL.out; omega) (HK.out)).symm, below_drewN hb _⟩
          | true =>
            have HK := Lib.hid (show evAt l k = true by simp [evAt, h1, h2]; omega)
            go_wp2
            go_quiet ((go_at_call 103; exact quiet_l (l1In_any _ _ _ _)))
            go_wp2
            exact ⟨⟨k + 1, by omega, by go_num, upto_succ HA.out (HK.out), below_drewN hb _⟩, by simp [intOf]; omega⟩
    · go_wp2
      go_returns
      refine ⟨ret_bool (all_yes (fun j hj => HA.out j (by have := HL.out; omega))).symm, hb⟩
end Go.Proofs.Ytmichbgiaoopgaa
