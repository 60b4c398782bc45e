/- Contract of the program's Gaps. -/
import Derived.Test.YtmichbgiaoopgaaSortI
import Derived.Test.YtmichbgiaoopgaaMost
import Derived.Test.YtmichbgiaoopgaaEvRow
namespace Go.Proofs.Ytmichbgiaoopgaa
open Go.RowKit

theorem evsOk_nc {l : List Ev} (h : evsOkB l = true) {t : Nat} (ht : t < l.length) : (1 ≤ (eAt l t).n ∧ (eAt l t).n ≤ 1000) ∧ 1 ≤ (eAt l t).c ∧ (eAt l t).c ≤ 9 := by
  unfold evsOkB at h
  rw [List.all_eq_true] at h
  have := h t (List.mem_range.2 ht)
  simp [evAt, inB] at this
  omega
/-- the numbers of a client among the first k -/
def nosTo (l : List Ev) (c : Int) : Nat → List Int
  | 0 => []
  | k + 1 => if (eAt l k).c = c then nosTo l c k ++ [(eAt l k).n] else nosTo l c k
theorem nosTo_len (l : List Ev) (c : Int) (k : Nat) : (nosTo l c k).length ≤ k := by
  induction k with
  | zero => simp [nosTo]
  | succ k ih =>
    rw [nosTo]; split
    · rw [List.length_append, List.length_singleton]; omega
    · omega
theorem nosTo_mem {l : List Ev} {c : Int} {k : Nat} {x : Int} : x ∈ nosTo l c k ↔ ∃ t, t < k ∧ (eAt l t).c = c ∧ (eAt l t).n = x := by
  induction k with
  | zero => simp [nosTo]
  | succ k ih =>
    rw [nosTo]
    split
    · rename_i hc
      rw [List.mem_append, ih]
      simp
      constructor
      · rintro (⟨t, h1, h2⟩ | h)
        · exact ⟨t, by omega, h2⟩
        · exact ⟨k, by omega, hc, h.symm⟩
      · rintro ⟨t, h1, h2, h3⟩
        by_cases e : t = k
        · subst e; exact .inr h3.symm
        · exact .inl ⟨t, by omega, h2, h3⟩
    · rename_i hc
      rw [ih]
      constructor
      · rintro ⟨t, h1, h2⟩; exact ⟨t, by omega, h2⟩
      · rintro ⟨t, h1, h2, h3⟩
        by_cases e : t = k
        · subst e; exact absurd h2 hc
        · exact ⟨t, by omega, h2, h3⟩
/-- is a number a client's? -/
def hasNo (l : List Ev) (c : Int) (x : Nat) (k : Nat) : Bool := (List.range k).any (fun t => decide ((eAt l t).c = c) && decide ((eAt l t).n = (x : Int)))
theorem hasNo_iff {l : List Ev} {c : Int} {x k : Nat} : hasNo l c x k = true ↔ (x : Int) ∈ nosTo l c k := by
  rw [nosTo_mem]; simp [hasNo]
theorem hasNo_succ (l : List Ev) (c : Int) (x k : Nat) : hasNo l c x (k + 1) = (hasNo l c x k || (decide ((eAt l k).c = c) && decide ((eAt l k).n = (x : Int)))) := by
  unfold hasNo; rw [List.range_succ, List.any_append]; simp
/-- the numbers from 1 up to but not m of which p does not hold -/
def outL (p : Nat → Bool) : Nat → List Int
  | 0 => []
  | m + 1 => if m = 0 ∨ p m = true then outL p m else outL p m ++ [(m : Int)]
theorem outL_len (p : Nat → Bool) (m : Nat) : (outL p m).length ≤ m := by
  induction m with
  | zero => simp [outL]
  | succ m ih =>
    rw [outL]; split
    · omega
    · rw [List.length_append, List.length_singleton]; omega
theorem outL_one (p : Nat → Bool) : outL p 1 = [] := by simp [outL]
theorem outL_no {p : Nat → Bool} {m : Nat} (hm : 0 < m) (h : p m = false) : outL p (m + 1) = outL p m ++ [(m : Int)] := by rw [outL, if_neg (by simp [h]; omega)]
theorem outL_yes {p : Nat → Bool} {m : Nat} (h : p m = true) : outL p (m + 1) = outL p m := by rw [outL, if_pos (.inr h)]
theorem outL_congr {p q : Nat → Bool} (h : ∀ x, p x = q x) (m : Nat) : outL p m = outL q m := by rw [show p = q from funext h]
theorem mostTo_mem (l : List Ev) (c : Int) (k : Nat) (h : 0 < mostTo l c k) : mostTo l c k ∈ nosTo l c k := by
  obtain ⟨t, h1, h2, h3⟩ := (mostTo_is l c k).2.2 h
  exact nosTo_mem.2 ⟨t, h1, h2, h3⟩
theorem mostTo_ge (l : List Ev) (c : Int) (k : Nat) {x : Int} (h : x ∈ nosTo l c k) : x ≤ mostTo l c k := by
  obtain ⟨t, h1, h2, h3⟩ := nosTo_mem.1 h
  rw [← h3]; exact (mostTo_is l c k).2.1 t h1 h2
/-- the gaps of a client -/
def gaps (l : List Ev) (c : Int) : List Int := if evsOkB l = true then outL (fun x => hasNo l c x l.length) (mostTo l c l.length).toNat else []
theorem mostTo_le {l : List Ev} {c : Int} (h : evsOkB l = true) (k : Nat) (hk : k ≤ l.length) : mostTo l c k ≤ 1000 := by
  rcases Int.lt_or_le 0 (mostTo l c k) with h0 | h0
  · obtain ⟨t, h1, _, h3⟩ := (mostTo_is l c k).2.2 h0
    have := evsOk_nc h (show t < l.length by omega); omega
  · omega
theorem gaps_sz (l : List Ev) (c : Int) : intsSz (gaps l c) ≤ 1048576 := by
  unfold gaps intsSz; split
  · rename_i h
    have h1 := mostTo_le (c := c) h l.length (Nat.le_refl _)
    have h2 := outL_len (fun x => hasNo l c x l.length) (mostTo l c l.length).toNat
    omega
  · simp

/-- what the sorted numbers say of the next number -/
theorem sorted_next {s : List Int} (hs : s.Pairwise (fun x y => x ≤ y)) {j : Nat} {x y : Int} (hy : s[j]? = some y) (hp : ∀ i z, i < j → s[i]? = some z → z < x) (hxy : x < y) : x ∉ s := by
  intro hx
  obtain ⟨i, hi⟩ := List.mem_iff_getElem?.1 hx
  rcases Nat.lt_or_ge i j with h | h
  · have := hp i x h hi; omega
  · have hi' := List.getElem?_eq_some_iff.1 hi
    have hj' := List.getElem?_eq_some_iff.1 hy
    obtain ⟨hil, hie⟩ := hi'
    obtain ⟨hjl, hje⟩ := hj'
    rcases Nat.lt_or_eq_of_le h with h3 | h3
    · have := List.pairwise_iff_getElem.1 hs j i hjl hil h3
      rw [hie, hje] at this; omega
    · subst h3; rw [hie] at hje; omega
/-- the next number behind the first j sorted ones -/
def nextOf (s : List Int) : Nat → Int
  | 0 => 1
  | j + 1 => iAt s j + 1
theorem nextOf_above {s : List Int} (hs : s.Pairwise (fun x y => x ≤ y)) {j : Nat} (hj : j ≤ s.length) : ∀ i z, i < j → s[i]? = some z → z < nextOf s j := by
  intro i z hi hz
  rcases j with _ | j
  · omega
  · have hjl : j < s.length := by omega
    rw [nextOf, iAt_get hjl]
    obtain ⟨hil, hie⟩ := List.getElem?_eq_some_iff.1 hz
    rcases Nat.lt_or_eq_of_le (show i ≤ j by omega) with h3 | h3
    · have := List.pairwise_iff_getElem.1 hs i j hil hjl h3
      rw [hie] at this; omega
    · subst h3; rw [hie]; omega
theorem nextOf_end {l : List Ev} {c : Int} (h : evsOkB l = true) : outL (fun x => hasNo l c x l.length) (nextOf (sortI (nosTo l c l.length)) (sortI (nosTo l c l.length)).length).toNat = gaps l c := by
  unfold gaps; rw [if_pos h]
  have hle := sortI_le (nosTo l c l.length)
  have hm := @sortI_mem (nosTo l c l.length)
  generalize sortI (nosTo l c l.length) = s at hle hm
  obtain ⟨h0, h1, h2⟩ := mostTo_is l c l.length
  cases hs : s.length with
  | zero =>
    have hn : s = [] := List.eq_nil_of_length_eq_zero hs
    have h3 : mostTo l c l.length = 0 := by
      rcases Int.lt_or_eq_of_le h0 with h4 | h4
      · have := hm.2 (mostTo_mem l c l.length h4); rw [hn] at this; cases this
      · exact h4.symm
    rw [h3, nextOf]; simp [outL]
  | succ j =>
    have hjl : j < s.length := by omega
    have hin : s[j] ∈ nosTo l c l.length := hm.1 (List.getElem_mem hjl)
    have h5 := mostTo_ge l c l.length hin
    have h6 : mostTo l c l.length ≤ s[j] := by
      rcases Int.lt_or_le 0 (mostTo l c l.length) with h7 | h7
      · obtain ⟨i, hi⟩ := List.mem_iff_getElem?.1 (hm.2 (mostTo_mem l c l.length h7))
        obtain ⟨hil, hie⟩ := List.getElem?_eq_some_iff.1 hi
        rcases Nat.lt_or_eq_of_le (show i ≤ j by omega) with h8 | h8
        · have := List.pairwise_iff_getElem.1 hle i j hil hjl h8; rw [hie] at this; exact this
        · subst h8; rw [hie]; exact Int.le_refl _
      · obtain ⟨t, ht, _, h9⟩ := nosTo_mem.1 hin
        have := (evsOk_nc h ht).1; omega
    have h10 : mostTo l c l.length = s[j] := by omega
    obtain ⟨t, ht, _, h9⟩ := nosTo_mem.1 hin
    have h11 := (evsOk_nc h ht).1
    rw [nextOf, iAt_get hjl, h10]
    obtain ⟨m, hm2⟩ := Int.eq_ofNat_of_zero_le (show 0 ≤ s[j] by omega)
    rw [hm2] at hin ⊢
    rw [show ((m : Int) + 1).toNat = m + 1 by omega, show ((m : Int)).toNat = m by omega]
    exact outL_yes (hasNo_iff.2 hin)
end Go.Proofs.Ytmichbgiaoopgaa
