/- Contract of the reference's l36Most. -/
import Derived.Test.YtmichbgiaoopgaaEvents
import Derived.BigQuiet
import Derived.Deep.QuietTactic
namespace Go.Proofs.Ytmichbgiaoopgaa
open Go.RowKit

/-- the greatest number of a client among the first k, 0 where there is none -/
def mostTo (l : List Ev) (c : Int) : Nat → Int
  | 0 => 0
  | k + 1 => if (eAt l k).c = c ∧ mostTo l c k < (eAt l k).n then (eAt l k).n else mostTo l c k
theorem mostTo_is (l : List Ev) (c : Int) (k : Nat) : 0 ≤ mostTo l c k ∧ (∀ t, t < k → (eAt l t).c = c → (eAt l t).n ≤ mostTo l c k) ∧ (0 < mostTo l c k → ∃ t, t < k ∧ (eAt l t).c = c ∧ (eAt l t).n = mostTo l c k) := by
  induction k with
  | zero => exact ⟨by simp [mostTo], fun t ht => by omega, fun h => by simp [mostTo] at h⟩
  | succ k ih =>
    obtain ⟨h0, h1, h2⟩ := ih
    rw [mostTo]
    split
    · rename_i hc
      refine ⟨by omega, fun t ht htc => ?_, fun _ => ⟨k, by omega, hc.1, rfl⟩⟩
      by_cases e : t = k
      · subst e; omega
      · have := h1 t (by omega) htc; omega
    · rename_i hc
      refine ⟨h0, fun t ht htc => ?_, fun h => ?_⟩
      · by_cases e : t = k
        · subst e
          rcases Int.lt_or_le (mostTo l c t) (eAt l t).n with h' | h'
          · exact absurd ⟨htc, h'⟩ hc
          · exact h'
        · exact h1 t (by omega) htc
      · obtain ⟨t, ht, h3⟩ := h2 h
        exact ⟨t, by omega, h3⟩
theorem evsOk_n {l : List Ev} (h : evsOkB l = true) {t : Nat} (ht : t < l.length) : 1 ≤ (eAt l t).n := by
  unfold evsOkB at h
  rw [List.all_eq_true] at h
  have := h t (List.mem_range.2 ht)
  simp [evAt, inB] at this
  omega
theorem l36Most_spec (A : Option Addr) (n c : Nat) (l : List Ev) (cl : Int) (w : World) (h : EvsAt w A n l) (hn : n ≤ 1152921504606846975) :
    Calls Try.prog 99 #[.slice A n c, .int .i64 cl] w fun e w' => e = .returned (.int .i64 (mostTo l cl n)) ∧ Below w.heap.size w w' := by
  go_enter Try.func99, Try.ntmps99
  go_wp2
  go_loopw [5, 6] (fun m i wr => ∃ k : Nat, k ≤ n ∧ i = .int .i64 k ∧ m = .int .i64 (mostTo l cl k) ∧ Below w.heap.size w wr) (fun _ i _ => n - (intOf i).toNat)
  case atStart => exact ⟨0, Nat.zero_le _, rfl, rfl, Below.refl _ _⟩
  case round =>
    obtain ⟨k, hk, rfl, rfl, hb⟩ := hrel
    by_cases hlt : k < n
    · obtain ⟨b, off, rfl, hbl, hc⟩ := h.at_ hlt
      have hc1 := (hb.cell (p := ⟨b, off + k * 4 + 1, none⟩) hbl).trans (hc k hlt).2.1
      have hc2 := (hb.cell (p := ⟨b, off + k * 4 + 2, none⟩) hbl).trans (hc k hlt).2.2.1
      clear hc
      by_cases hcl : (eAt l k).c = cl
      · have g1 : ((eAt l k).c == cl) = true := by simpa using hcl
        by_cases hgt : mostTo l cl k < (eAt l k).n
        · have HT := Lib.hid (show mostTo l cl (k + 1) = (eAt l k).n by rw [mostTo, if_pos ⟨hcl, hgt⟩])
          clear hcl
          go_wp2
          exact ⟨⟨k + 1, by omega, by go_num, by rw [HT.out], hb⟩, by simp [intOf]; omega⟩
        · have HT := Lib.hid (show mostTo l cl (k + 1) = mostTo l cl k by rw [mostTo, if_neg (fun h => hgt h.2)])
          clear hcl
          go_wp2
          exact ⟨⟨k + 1, by omega, by go_num, by rw [HT.out], hb⟩, by simp [intOf]; omega⟩
      · have g1 : ((eAt l k).c == cl) = false := by simpa using hcl
        have HT := Lib.hid (show mostTo l cl (k + 1) = mostTo l cl k by rw [mostTo, if_neg (fun h => hcl h.1)])
        clear hcl
        go_wp2
        exact ⟨⟨k + 1, by omega, by go_num, by rw [HT.out], hb⟩, by simp [intOf]; omega⟩
    · obtain rfl : k = n := by omega
      go_wp2
      go_returns
      exact ⟨rfl, hb⟩
end Go.Proofs.Ytmichbgiaoopgaa
