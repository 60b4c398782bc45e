/- Contracts on sets of strings. -/
import Derived.Test.YtfbfomlgjghcmaaDoorNumA
import Derived.BigQuiet
import Derived.Deep.QuietTactic
namespace Go.Proofs.YtfbfomlgjghcmaaDoor
open Go.RowKit

def strLt (a b : ByteArray) : Bool := Op.bytesLess a.toList b.toList
/-- element i of a set: of 8 bytes, above the one before it -/
def setAt (l : List ByteArray) (i : Nat) : Bool :=
  decide ((sAt l i).size = 8) && (decide (i = 0) || Op.bytesLess (sAt l (i - 1)).toList (sAt l i).toList)
def setOkB (l : List ByteArray) : Bool := (List.range l.length).all (setAt l)

theorem setOk_impl (A : Option Addr) (n c : Nat) (l : List ByteArray) (w : World) (h : StrsAt w A n l) (hn : n ≤ 9223372036854775807) :
    Calls Tryd.prog 28 #[.slice A n c] w fun e w' => e = .returned (.bool (setOkB l)) ∧ w = w' := by
  have hL : l.length = n := h.1.symm
  have HL := Lib.hid hL; clear hL
  go_enter Tryd.func28, Tryd.ntmps28
  go_wp2
  go_loop [7] (fun i => ∃ k : Nat, k ≤ n ∧ i = .int .i64 k ∧ ∀ j, j < k → setAt l j = true) (fun i => n - (intOf i).toNat)
  case atStart => exact ⟨0, Nat.zero_le _, rfl, fun j hj => absurd hj (by omega)⟩
  case round =>
    obtain ⟨k, hk, rfl, hall⟩ := hrel
    have HA := Lib.hid hall; clear hall
    by_cases hlt : k < n
    · obtain ⟨b, off, rfl, hb, hc⟩ := h.at_ (by omega)
      have hck := hc k hlt
      have hcp : 0 < k → w.cell? ⟨b, off + (k - 1), none⟩ = some (.string (sAt l (k - 1))) := fun _ => hc (k - 1) (by omega)
      clear hc
      go_wp2
      all_goals first
        | (refine ⟨⟨k + 1, by omega, by go_num, upto_succ HA.out ?_⟩, by simp [intOf]; omega⟩)
        | (go_returns; refine ⟨ret_bool (all_no (k := k) (by have := HL.out; omega) ?_).symm, rfl⟩)
      all_goals simp_all [setAt]
      all_goals omega
    · go_wp2
      go_returns
      refine ⟨ret_bool (all_yes (fun j hj => HA.out j (by have := HL.out; omega))).symm, rfl⟩

theorem setOk_spec (A : Option Addr) (n c : Nat) (l : List ByteArray) (w : World) (h : StrsAt w A n l) (hn : n ≤ 9223372036854775807) :
    Calls Tryd.prog 25 #[.slice A n c] w fun e w' => e = .returned (.bool (setOkB l)) ∧ Below w.heap.size w w' := by
  have hL : l.length = n := h.1.symm
  have HL := Lib.hid hL; clear hL
  go_enter Tryd.func25, Tryd.ntmps25
  go_wp2
  go_loopw [3] (fun i wr => ∃ k : Nat, k ≤ n ∧ i = .int .i64 k ∧ (∀ j, j < k → setAt l j = true) ∧ Below w.heap.size w wr) (fun i _ => n - (intOf i).toNat)
  case atStart => exact ⟨0, Nat.zero_le _, rfl, fun j hj => absurd hj (by omega), Below.refl _ _⟩
  case round =>
    obtain ⟨k, hk, rfl, hall, hb⟩ := hrel
    have HA := Lib.hid hall; clear hall
    by_cases hlt : k < n
    · obtain ⟨b, off, rfl, hbl, hc⟩ := h.at_ (by omega)
      have hck := (hb.cell (p := ⟨b, off + k, none⟩) hbl).trans (hc k hlt)
      by_cases h8 : (sAt l k).size = 8
      · have g8 : ((((sAt l k).size : Nat) : Int) != 8) = false := by simp [h8]
        have H8 := Lib.hid h8; clear h8
        by_cases hk0 : 0 < k
        · have hcp := (hb.cell (p := ⟨b, off + (k - 1), none⟩) hbl).trans (hc (k - 1) (by omega))
          clear hc
          go_wp2
          go_quiet (fail)
          go_wp2
          · go_returns
            refine ⟨ret_bool (all_no (k := k) (by have := HL.out; omega) ?_).symm, below_drewN hb _⟩
            have hcmp : (!Op.bytesLess (sAt l (k - 1)).toList (sAt l k).toList) = true := by assumption
            simp only [setAt, H8.out]; simp at hcmp; simp [hcmp]; omega
          · refine ⟨⟨k + 1, by omega, by go_num, upto_succ HA.out ?_, below_drewN hb _⟩, by simp [intOf]; omega⟩
            have hcmp : (!Op.bytesLess (sAt l (k - 1)).toList (sAt l k).toList) = false := by assumption
            simp only [setAt, H8.out]; simp at hcmp; simp [hcmp]
        · have gk : decide (0 < k) = false := by simpa using hk0
          clear hc
          go_wp2
          go_quiet (fail)
          go_wp2
          refine ⟨⟨k + 1, by omega, by go_num, upto_succ HA.out ?_, below_drewN hb _⟩, by simp [intOf]; omega⟩
          simp only [setAt, H8.out]; simp; omega
      · have g8 : ((((sAt l k).size : Nat) : Int) != 8) = true := by simp; omega
        have H8 := Lib.hid h8; clear h8
        clear hc
        go_wp2
        go_quiet (fail)
        go_wp2
        go_returns
        refine ⟨ret_bool (all_no (k := k) (by have := HL.out; omega) ?_).symm, below_drewN hb _⟩
        have := H8.out
        simp only [setAt]; simp [this]
    · go_wp2
      go_returns
      refine ⟨ret_bool (all_yes (fun j hj => HA.out j (by have := HL.out; omega))).symm, hb⟩
end Go.Proofs.YtfbfomlgjghcmaaDoor
