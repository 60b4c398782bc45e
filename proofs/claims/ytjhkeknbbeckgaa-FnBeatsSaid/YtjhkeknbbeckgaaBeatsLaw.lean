/- FnBeats, in plain Lean: what is asked of what BeatHear and BeatLook answer. -/
import Derived.Test.YtjhkeknbbeckgaaLook
import Derived.Test.YtjhkeknbbeckgaaHearB
namespace Go.Proofs.Ytjhkeknbbeckgaa

theorem capW_bd {x : Int} (h : 1 ≤ x) (h2 : x ≤ 1000) : x ≤ capW x ∧ capW x ≤ 1000 := by unfold capW; split <;> omega
theorem beatOk_mk {f1 f2 : Nat → Int} (h : ∀ i, i < 3 → (0 ≤ f1 i ∧ f1 i ≤ 1000000) ∧ 1 ≤ f2 i ∧ f2 i ≤ 1000) : beatOkB 3 3 3 f1 f2 = true := by
  simp [beatOkB, beatAt, inB]
  intro i hi; have := h i hi; omega
theorem hear_fine {f1 f2 : Nat → Int} {f3 : Nat → Bool} {k : Nat} {t t' : Int} (hok : beatOkB 3 3 3 f1 f2 = true) (hk : k < 3) (ht : ∀ j, j < 3 → f1 j ≤ t) (h1 : t ≤ t') (h2 : t' ≤ 1000000) (h0 : 0 ≤ t') :
    ∃ g1 g2 g3, hear true f1 f2 f3 (k : Int) t' = ⟨3, g1, g2, g3, true⟩ ∧ g1 k = t' ∧ g3 k = false ∧ (f3 k = true → decide (g2 k < f2 k) = false) ∧ (f3 k = false → g2 k = f2 k) ∧
      beatOkB 3 3 3 g1 g2 = true ∧ (∀ j, j < 3 → g1 j ≤ t') := by
  have hb := fun i hi => beatAt_bd hok (i := i) hi
  have hho : hearOk f1 (k : Int) t' = true := by simp [hearOk, inB]; have := ht k hk; omega
  have hg : ∀ j, j < 3 → (0 ≤ upd f1 k t' j ∧ upd f1 k t' j ≤ 1000000) ∧ upd f1 k t' j ≤ t' := fun j hj => by
    unfold upd; have := hb j hj; have := ht j hj; split <;> omega
  cases hq : f3 k
  · refine ⟨upd f1 k t', f2, f3, by simp [hear, hho, hq], by simp [upd], hq, by simp, by simp, beatOk_mk fun i hi => ⟨(hg i hi).1, (hb i hi).2⟩, fun j hj => (hg j hj).2⟩
  · have hc := capW_bd (hb k hk).2.1 (hb k hk).2.2
    refine ⟨upd f1 k t', upd f2 k (capW (f2 k)), upd f3 k false, by simp [hear, hho, hq], by simp [upd], by simp [upd], fun _ => by simp [upd]; omega, by simp, beatOk_mk fun i hi => ⟨(hg i hi).1, ?_⟩, fun j hj => (hg j hj).2⟩
    unfold upd
    have := hb i hi
    split
    · have := hb k hk; omega
    · omega
theorem lookG_eq (f1 f2 : Nat → Int) (f3 : Nat → Bool) (now : Int) : ∀ (m n : Nat), lookG f1 f2 f3 now m n = (f3 n || (decide (n < m) && decide (f1 n + f2 n < now)))
  | 0, n => by simp [lookG]
  | m + 1, n => by
    have ih := lookG_eq f1 f2 f3 now m n
    unfold lookG
    by_cases hB : lookB f1 f2 f3 now m = true
    · rw [if_pos hB]
      unfold upd
      by_cases hn : n = m
      · subst hn
        simp [lookB] at hB
        simp [hB]
      · rw [if_neg hn, ih]
        have : decide (n < m + 1) = decide (n < m) := by simp; omega
        rw [this]
    · rw [if_neg hB, ih]
      by_cases hn : n = m
      · subst hn
        simp [lookB] at hB
        cases h3 : f3 n
        · simp; exact hB h3
        · simp
      · have : decide (n < m + 1) = decide (n < m) := by simp; omega
        rw [this]
theorem lookL_any (f1 f2 : Nat → Int) (f3 : Nat → Bool) (now : Int) (n : Nat) : ∀ m, (lookL f1 f2 f3 now m).any (· == (n : Int)) = (decide (n < m) && lookB f1 f2 f3 now n)
  | 0 => by simp [lookL]
  | m + 1 => by
    have ih := lookL_any f1 f2 f3 now n m
    unfold lookL
    by_cases hB : lookB f1 f2 f3 now m = true
    · rw [if_pos hB, List.any_append, ih]
      by_cases hn : n = m
      · subst hn; simp [hB]
      · have h1 : decide (n < m + 1) = decide (n < m) := by simp; omega
        have h2 : ((m : Int) == (n : Int)) = false := by simp; omega
        simp [h1, h2]
    · rw [if_neg hB, ih]
      by_cases hn : n = m
      · subst hn; simp at hB; simp [hB]
      · have : decide (n < m + 1) = decide (n < m) := by simp; omega
        rw [this]
/-- is one of the first j told -/
def toldTo (l : List Int) (n : Nat) (j : Nat) : Bool := (l.take j).any (· == (n : Int))
theorem toldTo_succ {l : List Int} {n j : Nat} (h : j < l.length) : toldTo l n (j + 1) = (toldTo l n j || iAt l j == (n : Int)) := by
  unfold toldTo
  rw [List.take_add_one, List.any_append]
  simp [h, iAt_get h]
theorem toldTo_all {l : List Int} {n : Nat} : toldTo l n l.length = l.any (· == (n : Int)) := by unfold toldTo; rw [List.take_length]
end Go.Proofs.Ytjhkeknbbeckgaa
