/- Three chains of two operations each that wait for nobody else: walked over the 27 states, not over the orders. -/
import Derived.Test.YtjhkeknbbeckgaaCopyBeat
namespace Go.Proofs.Ytjhkeknbbeckgaa
open Go.RowKit

section
variable {P : Program} {ops : Array Oper} {Q : Exit → Act → World → Prop} {S : World → Prop}
def nextOf (i j s : Nat) : Nat := if s = 0 then i else j
def chainsB (ops : Array Oper) (L : Nat → Nat → Nat → Array Bool) (i1 j1 i2 j2 i3 j3 : Nat) : Bool :=
  (List.range 3).all fun s1 => (List.range 3).all fun s2 => (List.range 3).all fun s3 =>
    (decide (s1 = 2 ∧ s2 = 2 ∧ s3 = 2) || (!(Region.ready .any ops (L s1 s2 s3)).isEmpty &&
      (Region.ready .any ops (L s1 s2 s3)).all fun i => decide (i = nextOf i1 j1 s1 ∧ s1 < 2) || decide (i = nextOf i2 j2 s2 ∧ s2 < 2) || decide (i = nextOf i3 j3 s3 ∧ s3 < 2))) &&
    (decide (s1 = 2) || decide ((L s1 s2 s3).setIfInBounds (nextOf i1 j1 s1) true = L (s1 + 1) s2 s3)) &&
    (decide (s2 = 2) || decide ((L s1 s2 s3).setIfInBounds (nextOf i2 j2 s2) true = L s1 (s2 + 1) s3)) &&
    (decide (s3 = 2) || decide ((L s1 s2 s3).setIfInBounds (nextOf i3 j3 s3) true = L s1 s2 (s3 + 1)))

theorem chains_walk {fuel : Nat} (L : Nat → Nat → Nat → Array Bool) (I : Nat → Nat → Nat → Act → World → Prop) (i1 j1 i2 j2 i3 j3 : Nat) (hB : chainsB ops L i1 j1 i2 j2 i3 j3 = true)
    (hS : ∀ s1 s2 s3 a w, I s1 s2 s3 a w → S w)
    (st1 : ∀ s1 s2 s3 a w, s1 < 2 → I s1 s2 s3 a w → wpOp P ops Q (nextOf i1 j1 s1) (I (s1 + 1) s2 s3) a w)
    (st2 : ∀ s1 s2 s3 a w, s2 < 2 → I s1 s2 s3 a w → wpOp P ops Q (nextOf i2 j2 s2) (I s1 (s2 + 1) s3) a w)
    (st3 : ∀ s1 s2 s3 a w, s3 < 2 → I s1 s2 s3 a w → wpOp P ops Q (nextOf i3 j3 s3) (I s1 s2 (s3 + 1)) a w)
    (hend : ∀ a w, I 2 2 2 a w → wpAnyH P .any ops Q S fuel (L 2 2 2) a w) :
    ∀ n s1 s2 s3 a w, s1 < 3 → s2 < 3 → s3 < 3 → s1 + s2 + s3 + n = 6 → I s1 s2 s3 a w → wpAnyH P .any ops Q S (fuel + n) (L s1 s2 s3) a w := by
  intro n
  induction n with
  | zero =>
    intro s1 s2 s3 a w h1 h2 h3 hn hI
    have e1 : s1 = 2 := by omega
    have e2 : s2 = 2 := by omega
    have e3 : s3 = 2 := by omega
    subst e1; subst e2; subst e3
    exact hend a w hI
  | succ n ih =>
    intro s1 s2 s3 a w h1 h2 h3 hn hI
    have c := List.all_eq_true.1 (List.all_eq_true.1 (List.all_eq_true.1 hB s1 (List.mem_range.2 h1)) s2 (List.mem_range.2 h2)) s3 (List.mem_range.2 h3)
    simp only [Bool.and_eq_true, Bool.or_eq_true, decide_eq_true_eq, Bool.not_eq_true', List.isEmpty_eq_false_iff, List.all_eq_true] at c
    obtain ⟨⟨⟨c0, c1⟩, c2⟩, c3⟩ := c
    rcases c0 with c0 | ⟨c0, c4⟩
    · omega
    · refine ⟨fun h => absurd h c0, fun i hi => ?_⟩
      rcases c4 i hi with (⟨rfl, hs⟩ | ⟨rfl, hs⟩) | ⟨rfl, hs⟩
      · rcases c1 with c1 | c1
        · omega
        · rw [c1]; exact wpOp_mono (fun a' w' h => ⟨hS _ _ _ _ _ h, ih (s1 + 1) s2 s3 a' w' (by omega) h2 h3 (by omega) h⟩) (st1 s1 s2 s3 a w hs hI)
      · rcases c2 with c2 | c2
        · omega
        · rw [c2]; exact wpOp_mono (fun a' w' h => ⟨hS _ _ _ _ _ h, ih s1 (s2 + 1) s3 a' w' h1 (by omega) h3 (by omega) h⟩) (st2 s1 s2 s3 a w hs hI)
      · rcases c3 with c3 | c3
        · omega
        · rw [c3]; exact wpOp_mono (fun a' w' h => ⟨hS _ _ _ _ _ h, ih s1 s2 (s3 + 1) a' w' h1 h2 (by omega) (by omega) h⟩) (st3 s1 s2 s3 a w hs hI)
end
end Go.Proofs.Ytjhkeknbbeckgaa
