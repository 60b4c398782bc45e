/- Is a text in a list: the reference's l15In. -/
import Derived.Test.YtfbfomlgjghcmaaDoorRows
import Derived.Test.YtfbfomlgjghcmaaDoorBase
namespace Go.Proofs.YtfbfomlgjghcmaaDoor
open Go.RowKit

/-- is a text among texts? -/
def hasS (l : List ByteArray) (x : ByteArray) : Bool := l.any (fun y => decide (y = x))
theorem hasS_yes {l : List ByteArray} {k : Nat} {x : ByteArray} (hk : k < l.length) (h : sAt l k = x) : hasS l x = true := by
  unfold hasS; rw [List.any_eq_true]; exact ⟨l[k], List.getElem_mem hk, by rw [← h, sAt_get hk]; simp⟩
theorem hasS_no {l : List ByteArray} {x : ByteArray} (h : ∀ j, j < l.length → sAt l j ≠ x) : hasS l x = false := by
  unfold hasS; rw [List.any_eq_false]
  intro y hy hx
  obtain ⟨i, hi, rfl⟩ := List.mem_iff_getElem.1 hy
  exact h i hi (by rw [sAt_get hi]; simpa using hx)

theorem l15In_any (A : Option Addr) (n c : Nat) (l : List ByteArray) (x : ByteArray) (w : World) (h : StrsAt w A n l) (hn : n ≤ 9223372036854775807) :
    Calls Tryd.prog 46 #[.slice A n c, .string x] w fun e w' => e = .returned (.bool (hasS l x)) ∧ w = w' := by
  have HL := Lib.hid h.1.symm
  go_enter Tryd.func46, Tryd.ntmps46
  go_wp2
  go_loop [5] (fun i => ∃ k : Nat, k ≤ n ∧ i = .int .i64 k ∧ ∀ j, j < k → sAt l j ≠ x) (fun i => n - (intOf i).toNat)
  case atStart => exact ⟨0, Nat.zero_le _, rfl, fun j hj => absurd hj (by omega)⟩
  case round =>
    obtain ⟨k, hk, rfl, hx⟩ := hrel
    have HX := Lib.hid hx; clear hx
    by_cases hlt : k < n
    · obtain ⟨b, off, rfl, hbl, hc⟩ := h.at_ (by omega)
      have hck := hc k hlt
      clear hc
      by_cases hxe : sAt l k = x
      · have HE := Lib.hid hxe
        have g1 : ((sAt l k).toList == x.toList) = true := by rw [str_beq]; simpa using hxe
        clear hxe
        go_wp2
        go_returns
        exact ⟨ret_bool (hasS_yes (k := k) (by have := HL.out; omega) HE.out).symm, rfl⟩
      · have HE := Lib.hid hxe
        have g1 : ((sAt l k).toList == x.toList) = false := by rw [str_beq]; simpa using hxe
        clear hxe
        go_wp2
        refine ⟨⟨k + 1, by omega, by go_num, ?_⟩, by simp [intOf]; omega⟩
        intro j hj
        by_cases e : j = k
        · subst e; exact HE.out
        · exact HX.out j (by omega)
    · go_wp2
      go_returns
      exact ⟨ret_bool (hasS_no (fun j hj => HX.out j (by have := HL.out; omega))).symm, rfl⟩


end Go.Proofs.YtfbfomlgjghcmaaDoor
