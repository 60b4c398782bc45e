/- Is a number in a list: the reference's l18Has, slices.Contains at ints. -/
import Derived.Test.YtfbfomlgjghcmaaDoorIntList
namespace Go.Proofs.YtfbfomlgjghcmaaDoor
open Go.RowKit
def hasI (l : List Int) (x : Int) : Bool := decide (x ∈ l)
theorem hasI_yes {l : List Int} {k : Nat} {x : Int} (hk : k < l.length) (h : iAt l k = x) : hasI l x = true := by
  unfold hasI; rw [decide_eq_true_eq, ← h, iAt_get hk]; exact List.getElem_mem hk
theorem hasI_no {l : List Int} {x : Int} (h : ∀ j, j < l.length → iAt l j ≠ x) : hasI l x = false := by
  unfold hasI; rw [decide_eq_false_iff_not]
  intro hx
  obtain ⟨i, hi, e⟩ := List.mem_iff_getElem.1 hx
  exact h i hi (by rw [iAt_get hi, e])
theorem l18Has_any (A : Option Addr) (n c : Nat) (l : List Int) (x : Int) (w : World) (h : IntsAt w A n l) (hn : n ≤ 9223372036854775807) :
    Calls Tryd.prog 35 #[.slice A n c, .int .i64 x] w fun e w' => e = .returned (.bool (hasI l x)) ∧ w = w' := by
  have HL := Lib.hid h.1.symm
  go_enter Tryd.func35, Tryd.ntmps35
  go_wp2
  go_loop [5] (fun i => ∃ k : Nat, k ≤ n ∧ i = .int .i64 k ∧ ∀ j, j < k → iAt l j ≠ x) (fun i => n - (intOf i).toNat)
  case atStart => exact ⟨0, Nat.zero_le _, rfl, fun j hj => absurd hj (by omega)⟩
  case round =>
    obtain ⟨k, hk, rfl, hx⟩ := hrel
    have HX := Lib.hid hx; clear hx
    by_cases hlt : k < n
    · obtain ⟨b, off, rfl, hbl, hc⟩ := h.at_ (by omega)
      have hck := hc k hlt
      clear hc
      by_cases hxe : iAt l k = x
      · have HE := Lib.hid hxe
        rw [hxe] at hck
        clear hxe
        go_wp2
        go_returns
        exact ⟨ret_bool (hasI_yes (k := k) (by have := HL.out; omega) HE.out).symm, rfl⟩
      · have HE := Lib.hid hxe
        have g1 : (iAt l k == x) = false := by simpa using hxe
        clear hxe
        go_wp2
        refine ⟨⟨k + 1, by omega, by go_num, ?_⟩, by simp [intOf]; omega⟩
        intro j hj
        by_cases e : j = k
        · subst e; exact HE.out
        · exact HX.out j (by omega)
    · go_wp2
      go_returns
      exact ⟨ret_bool (hasI_no (fun j hj => HX.out j (by have := HL.out; omega))).symm, rfl⟩
theorem indexI_any (A : Option Addr) (n c : Nat) (l : List Int) (x : Int) (w : World) (h : IntsAt w A n l) (hn : n ≤ 9223372036854775807) :
    Calls Tryd.prog 49 #[.slice A n c, .int .i64 x] w fun e w' => ∃ i : Int, e = .returned (.int .i64 i) ∧ decide (0 ≤ i) = hasI l x ∧ w = w' := by
  have HL := Lib.hid h.1.symm
  go_enter Tryd.func49, Tryd.ntmps49
  go_wp2
  go_loop [8] (fun i => ∃ k : Nat, k ≤ n ∧ i = .int .i64 k ∧ ∀ j, j < k → iAt l j ≠ x) (fun i => n - (intOf i).toNat)
  case atStart => exact ⟨0, Nat.zero_le _, rfl, fun j hj => absurd hj (by omega)⟩
  case round =>
    obtain ⟨k, hk, rfl, hx⟩ := hrel
    have HX := Lib.hid hx; clear hx
    by_cases hlt : k < n
    · obtain ⟨b, off, rfl, hbl, hc⟩ := h.at_ (by omega)
      have hck := hc k hlt
      clear hc
      by_cases hxe : iAt l k = x
      · have HE := Lib.hid hxe
        rw [hxe] at hck
        clear hxe
        go_wp2
        go_returns
        exact ⟨k, rfl, by rw [hasI_yes (k := k) (by have := HL.out; omega) HE.out]; simp, rfl⟩
      · have HE := Lib.hid hxe
        have g1 : (x == iAt l k) = false := by simpa using fun h => hxe h.symm
        clear hxe
        go_wp2
        refine ⟨⟨k + 1, by omega, by go_num, ?_⟩, by simp [intOf]; omega⟩
        intro j hj
        by_cases e : j = k
        · subst e; exact HE.out
        · exact HX.out j (by omega)
    · go_wp2
      go_returns
      exact ⟨-1, rfl, by rw [hasI_no (fun j hj => HX.out j (by have := HL.out; omega))]; rfl, rfl⟩
theorem containsI_any (A : Option Addr) (n c : Nat) (l : List Int) (x : Int) (w : World) (h : IntsAt w A n l) (hn : n ≤ 9223372036854775807) :
    Calls Tryd.prog 38 #[.slice A n c, .int .i64 x] w fun e w' => e = .returned (.bool (hasI l x)) ∧ w = w' := by
  go_enter Tryd.func38, Tryd.ntmps38
  go_wp2_with fail
  refine (indexI_any _ _ _ _ _ _ h hn).mono ?_
  rintro e w' ⟨i, rfl, hi, rfl⟩
  have HI := Lib.hid hi; clear hi
  go_wp2
  go_returns
  exact ⟨by rw [HI.out]; rfl, rfl⟩
end Go.Proofs.YtfbfomlgjghcmaaDoor
