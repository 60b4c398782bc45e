/- Contracts on Beat: the laws' helpers, BeatOk. -/
import Derived.Test.YtjhkeknbbeckgaaInts
import Derived.Test.YtjhkeknbbeckgaaNumA
namespace Go.Proofs.Ytjhkeknbbeckgaa
open Go.RowKit
attribute [local irreducible] inB

def btV (A1 : Option Addr) (n1 c1 : Nat) (A2 : Option Addr) (n2 c2 : Nat) (A3 : Option Addr) (n3 c3 : Nat) : Value := .agg #[.slice A1 n1 c1, .slice A2 n2 c2, .slice A3 n3 c3]
def Box3 (w : World) (g : Nat) (u v x : Value) : Prop := w.cell? ⟨g, 0, none⟩ = some u ∧ w.cell? ⟨g, 1, none⟩ = some v ∧ w.cell? ⟨g, 2, none⟩ = some x
theorem Box3.keep {w w' : World} {g : Nat} {u v x : Value} (h : Box3 w g u v x) (hb : Below w.heap.size w w') : Box3 w' g u v x := ⟨keep_cell hb h.1, keep_cell hb h.2.1, keep_cell hb h.2.2⟩
/-- the three rows of a Beat -/
def BtAt (w : World) (A1 : Option Addr) (n1 : Nat) (f1 : Nat → Int) (A2 : Option Addr) (n2 : Nat) (f2 : Nat → Int) (A3 : Option Addr) (n3 : Nat) (f3 : Nat → Bool) : Prop :=
  ValsAt w A1 n1 (intV f1) ∧ ValsAt w A2 n2 (intV f2) ∧ ValsAt w A3 n3 (boolV f3)
theorem BtAt.keep {w w' : World} {A1 : Option Addr} {n1 : Nat} {f1 : Nat → Int} {A2 : Option Addr} {n2 : Nat} {f2 : Nat → Int} {A3 : Option Addr} {n3 : Nat} {f3 : Nat → Bool}
    (h : BtAt w A1 n1 f1 A2 n2 f2 A3 n3 f3) (hb : Below w.heap.size w w') : BtAt w' A1 n1 f1 A2 n2 f2 A3 n3 f3 := ⟨h.1.keep hb, h.2.1.keep hb, h.2.2.keep hb⟩

def beatAt (f1 f2 : Nat → Int) (i : Nat) : Bool := inB (f1 i) 0 1000000 && inB (f2 i) 1 1000
def beatOkB (n1 n2 n3 : Nat) (f1 f2 : Nat → Int) : Bool := decide (n1 = 3) && decide (n2 = 3) && decide (n3 = 3) && (List.range 3).all (beatAt f1 f2)

theorem beatOk_impl (A1 : Option Addr) (n1 c1 : Nat) (f1 : Nat → Int) (A2 : Option Addr) (n2 c2 : Nat) (f2 : Nat → Int) (A3 : Option Addr) (n3 c3 : Nat) (f3 : Nat → Bool) (w : World) (h : BtAt w A1 n1 f1 A2 n2 f2 A3 n3 f3) :
    Calls Try.prog 33 #[.agg #[.slice A1 n1 c1, .slice A2 n2 c2, .slice A3 n3 c3]] w fun e w' => e = .returned (.bool (beatOkB n1 n2 n3 f1 f2)) ∧ Below w.heap.size w w' := by
  by_cases h1 : n1 = 3
  · by_cases h2 : n2 = 3
    · by_cases h3 : n3 = 3
      · subst h1 h2 h3
        go_enter Try.func33, Try.ntmps33
        go_wp2
        go_loopw [24] (fun i wr => ∃ k : Nat, k ≤ 3 ∧ i = .int .i64 k ∧ (∀ j, j < k → beatAt f1 f2 j = true) ∧ Box3 wr w.heap.size (.slice A1 3 c1) (.slice A2 3 c2) (.slice A3 3 c3) ∧ Below w.heap.size w wr) (fun i _ => 3 - (intOf i).toNat)
        case atStart => exact ⟨0, Nat.zero_le _, rfl, fun j hj => absurd hj (by omega), by refine ⟨?_, ?_, ?_⟩ <;> simp [go_sem], by go_grown⟩
        case round =>
          obtain ⟨k, hk, rfl, hall, ⟨hz0, hz1, hz2⟩, hb⟩ := hrel
          have HA := Lib.hid hall; clear hall
          by_cases hlt : k < 3
          · obtain ⟨b, off, rfl, hbl, hc⟩ := h.1 (by omega)
            have hck := (hb.cell (p := ⟨b, off + k, none⟩) hbl).trans (hc k hlt)
            clear hc
            obtain ⟨b', off', rfl, hbl', hc'⟩ := h.2.1 (by omega)
            have hck' := (hb.cell (p := ⟨b', off' + k, none⟩) hbl').trans (hc' k hlt)
            clear hc'
            unfold intV at hck hck'
            obtain ⟨q1, hq1⟩ : ∃ q, inB (f1 k) 0 1000000 = q := ⟨_, rfl⟩
            obtain ⟨q2, hq2⟩ : ∃ q, inB (f2 k) 1 1000 = q := ⟨_, rfl⟩
            have Q := Lib.hid (show beatAt f1 f2 k = (q1 && q2) by unfold beatAt; rw [hq1, hq2])
            have K1 := Lib.hid hq1; have K2 := Lib.hid hq2
            clear hq1 hq2
            cases q1 <;> cases q2
            all_goals
              go_wp2_with (go_at_call 67; refine (within_any _ _ _ _).mono ?_; rintro e w' ⟨rfl, rfl⟩; first | rw [K1.out] | rw [K2.out])
              first
                | (refine ⟨⟨k + 1, by omega, by go_num, upto_succ HA.out Q.out, ⟨hz0, hz1, hz2⟩, hb⟩, by simp [intOf]; omega⟩)
                | (go_returns
                   refine ⟨ret_bool (Eq.symm ?_), hb⟩
                   unfold beatOkB
                   rw [all_no (k := k) hlt Q.out]
                   rfl)
          · go_wp2
            go_returns
            refine ⟨ret_bool (Eq.symm ?_), hb⟩
            unfold beatOkB
            rw [all_yes (fun j hj => HA.out j (by omega))]
            rfl
      · subst h1 h2
        have g3 : (((n3 : Nat) : Int) != 3) = true := by simp; omega
        go_enter Try.func33, Try.ntmps33
        go_wp2
        go_returns
        exact ⟨ret_bool (by simp [beatOkB, h3]), by go_grown⟩
    · subst h1
      have g2 : (((n2 : Nat) : Int) != 3) = true := by simp; omega
      go_enter Try.func33, Try.ntmps33
      go_wp2
      go_returns
      exact ⟨ret_bool (by simp [beatOkB, h2]), by go_grown⟩
  · have g1 : (((n1 : Nat) : Int) != 3) = true := by simp; omega
    go_enter Try.func33, Try.ntmps33
    go_wp2
    go_returns
    exact ⟨ret_bool (by simp [beatOkB, h1]), by go_grown⟩

theorem beatOk_spec (A1 : Option Addr) (n1 c1 : Nat) (f1 : Nat → Int) (A2 : Option Addr) (n2 c2 : Nat) (f2 : Nat → Int) (A3 : Option Addr) (n3 c3 : Nat) (f3 : Nat → Bool) (w : World) (h : BtAt w A1 n1 f1 A2 n2 f2 A3 n3 f3) :
    Calls Try.prog 20 #[.agg #[.slice A1 n1 c1, .slice A2 n2 c2, .slice A3 n3 c3]] w fun e w' => e = .returned (.bool (beatOkB n1 n2 n3 f1 f2)) ∧ Below w.heap.size w w' := by
  by_cases h1 : n1 = 3
  · by_cases h2 : n2 = 3
    · by_cases h3 : n3 = 3
      · subst h1 h2 h3
        go_enter Try.func20, Try.ntmps20
        go_wp2
        go_loopw [3] (fun i wr => ∃ k : Nat, k ≤ 3 ∧ i = .int .i64 k ∧ (∀ j, j < k → beatAt f1 f2 j = true) ∧ Box3 wr w.heap.size (.slice A1 3 c1) (.slice A2 3 c2) (.slice A3 3 c3) ∧ Below w.heap.size w wr) (fun i _ => 3 - (intOf i).toNat)
        case atStart => exact ⟨0, Nat.zero_le _, rfl, fun j hj => absurd hj (by omega), by refine ⟨?_, ?_, ?_⟩ <;> simp [go_sem], by go_grown⟩
        case round =>
          obtain ⟨k, hk, rfl, hall, ⟨hz0, hz1, hz2⟩, hb⟩ := hrel
          have HA := Lib.hid hall; clear hall
          by_cases hlt : k < 3
          · obtain ⟨b, off, rfl, hbl, hc⟩ := h.1 (by omega)
            have hck := (hb.cell (p := ⟨b, off + k, none⟩) hbl).trans (hc k hlt)
            clear hc
            obtain ⟨b', off', rfl, hbl', hc'⟩ := h.2.1 (by omega)
            have hck' := (hb.cell (p := ⟨b', off' + k, none⟩) hbl').trans (hc' k hlt)
            clear hc'
            unfold intV at hck hck'
            obtain ⟨q1, hq1⟩ : ∃ q, inB (f1 k) 0 1000000 = q := ⟨_, rfl⟩
            obtain ⟨q2, hq2⟩ : ∃ q, inB (f2 k) 1 1000 = q := ⟨_, rfl⟩
            have Q := Lib.hid (show beatAt f1 f2 k = (q1 && q2) by unfold beatAt; rw [hq1, hq2])
            have K1 := Lib.hid hq1; have K2 := Lib.hid hq2
            clear hq1 hq2
            cases q1 <;> cases q2
            all_goals
              go_wp2_with (go_at_call 70; refine (l1In_any _ _ _ _).mono ?_; rintro e w' ⟨rfl, rfl⟩; first | rw [K1.out] | rw [K2.out])
              first
                | (refine ⟨⟨k + 1, by omega, by go_num, upto_succ HA.out Q.out, ⟨hz0, hz1, hz2⟩, hb⟩, by simp [intOf]; omega⟩)
                | (go_returns
                   refine ⟨ret_bool (Eq.symm ?_), hb⟩
                   unfold beatOkB
                   rw [all_no (k := k) hlt Q.out]
                   rfl)
          · go_wp2
            go_returns
            refine ⟨ret_bool (Eq.symm ?_), hb⟩
            unfold beatOkB
            rw [all_yes (fun j hj => HA.out j (by omega))]
            rfl
      · subst h1 h2
        have g3 : (((n3 : Nat) : Int) != 3) = true := by simp; omega
        go_enter Try.func20, Try.ntmps20
        go_wp2
        go_returns
        exact ⟨ret_bool (by simp [beatOkB, h3]), by go_grown⟩
    · subst h1
      have g2 : (((n2 : Nat) : Int) != 3) = true := by simp; omega
      go_enter Try.func20, Try.ntmps20
      go_wp2
      go_returns
      exact ⟨ret_bool (by simp [beatOkB, h2]), by go_grown⟩
  · have g1 : (((n1 : Nat) : Int) != 3) = true := by simp; omega
    go_enter Try.func20, Try.ntmps20
    go_wp2
    go_returns
    exact ⟨ret_bool (by simp [beatOkB, h1]), by go_grown⟩
end Go.Proofs.Ytjhkeknbbeckgaa
