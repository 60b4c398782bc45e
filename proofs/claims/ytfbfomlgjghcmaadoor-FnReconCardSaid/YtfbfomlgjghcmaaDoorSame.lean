/- Contracts of the laws' helpers sameTexts, sameInts, hasText. -/
import Derived.Test.YtfbfomlgjghcmaaDoorStrRow
import Derived.Test.YtfbfomlgjghcmaaDoorHas
import Derived.Test.YtfbfomlgjghcmaaDoorIntList
namespace Go.Proofs.YtfbfomlgjghcmaaDoor
open Go.RowKit
theorem sameInts_yes (A A' : Option Addr) (n n' c c' : Nat) (l : List Int) (w : World) (h : IntsAt w A n l) (h' : IntsAt w A' n' l) (hn : n ≤ 16777216) :
    Calls Tryd.prog 24 #[.slice A n c, .slice A' n' c'] w fun e w' => e = .returned (.bool true) ∧ Below w.heap.size w w' := by
  obtain rfl : n' = n := h'.1.trans h.1.symm
  unfold IntsAt at h h'
  go_enter Tryd.func24, Tryd.ntmps24
  go_wp2
  go_loopw [5] (fun i wr => ∃ (k : Nat), k ≤ n' ∧ i = .int .i64 k ∧ Below w.heap.size w wr) (fun i _ => n' - (intOf i).toNat)
  case atStart => exact ⟨0, Nat.zero_le _, rfl, Below.refl _ _⟩
  case round =>
    obtain ⟨k, hk, rfl, hb⟩ := hrel
    by_cases hlt : k < n'
    · obtain ⟨b, off, rfl, hbl, hc⟩ := h.2 (by omega)
      have hck := (hb.cell (p := ⟨b, off + k, none⟩) hbl).trans (hc k hlt)
      clear hc
      obtain ⟨b', off', rfl, hbl', hc'⟩ := h'.2 (by omega)
      have hck' := (hb.cell (p := ⟨b', off' + k, none⟩) hbl').trans (hc' k hlt)
      clear hc'
      unfold intV at hck hck'
      go_wp2
      go_quiet (fail)
      go_wp2
      exact ⟨⟨k + 1, by omega, by go_num, below_drewN hb _⟩, by simp [intOf]; omega⟩
    · go_wp2
      go_returns
      exact ⟨rfl, hb⟩
theorem sameTexts_yes (A A' : Option Addr) (n n' c c' : Nat) (l : List ByteArray) (w : World) (h : StrsAt w A n l) (h' : StrsAt w A' n' l) (hn : n ≤ 16777216) :
    Calls Tryd.prog 23 #[.slice A n c, .slice A' n' c'] w fun e w' => e = .returned (.bool true) ∧ Below w.heap.size w w' := by
  obtain rfl : n' = n := h'.1.trans h.1.symm
  go_enter Tryd.func23, Tryd.ntmps23
  go_wp2
  go_loopw [5] (fun i wr => ∃ (k : Nat), k ≤ n' ∧ i = .int .i64 k ∧ Below w.heap.size w wr) (fun i _ => n' - (intOf i).toNat)
  case atStart => exact ⟨0, Nat.zero_le _, rfl, Below.refl _ _⟩
  case round =>
    obtain ⟨k, hk, rfl, hb⟩ := hrel
    by_cases hlt : k < n'
    · obtain ⟨b, off, rfl, hbl, hc⟩ := h.at_ (by omega)
      have hck := (hb.cell (p := ⟨b, off + k, none⟩) hbl).trans (hc k hlt)
      clear hc
      obtain ⟨b', off', rfl, hbl', hc'⟩ := h'.at_ (by omega)
      have hck' := (hb.cell (p := ⟨b', off' + k, none⟩) hbl').trans (hc' k hlt)
      clear hc'
      go_wp2
      go_quiet (fail)
      go_wp2
      exact ⟨⟨k + 1, by omega, by go_num, below_drewN hb _⟩, by simp [intOf]; omega⟩
    · go_wp2
      go_returns
      exact ⟨rfl, hb⟩
theorem hasText_any (A : Option Addr) (n c : Nat) (l : List ByteArray) (x : ByteArray) (w : World) (h : StrsAt w A n l) (hn : n ≤ 9223372036854775807) :
    Calls Tryd.prog 27 #[.slice A n c, .string x] w fun e w' => e = .returned (.bool (hasS l x)) ∧ w = w' := by
  have HL := Lib.hid h.1.symm
  go_enter Tryd.func27, Tryd.ntmps27
  go_wp2
  go_loop [5] (fun i => ∃ k : Nat, k ≤ n ∧ i = .int .i64 k ∧ ∀ j, j < k → sAt l j ≠ x) (fun i => n - (intOf i).toNat)
  case atStart => exact ⟨0, Nat.zero_le _, rfl, fun j hj => absurd hj (by omega)⟩
  case round =>
    obtain ⟨k, hk, rfl, hx⟩ := hrel
    have HX := Lib.hid hx; clear hx
    by_cases hlt : k < n
    · obtain ⟨b, off, rfl, hbl, hc⟩ := h.at_ (by omega)
      have hck := hc k hlt
      clear hc
      by_cases hxe : sAt l k = x
      · have HE := Lib.hid hxe
        have g1 : ((sAt l k).toList == x.toList) = true := by rw [str_beq]; simpa using hxe
        clear hxe
        go_wp2
        go_returns
        exact ⟨ret_bool (hasS_yes (k := k) (by have := HL.out; omega) HE.out).symm, rfl⟩
      · have HE := Lib.hid hxe
        have g1 : ((sAt l k).toList == x.toList) = false := by rw [str_beq]; simpa using hxe
        clear hxe
        go_wp2
        refine ⟨⟨k + 1, by omega, by go_num, ?_⟩, by simp [intOf]; omega⟩
        intro j hj
        by_cases e : j = k
        · subst e; exact HE.out
        · exact HX.out j (by omega)
    · go_wp2
      go_returns
      exact ⟨ret_bool (hasS_no (fun j hj => HX.out j (by have := HL.out; omega))).symm, rfl⟩
end Go.Proofs.YtfbfomlgjghcmaaDoor
