/- Contracts of Clients. -/
import Derived.Test.YtmichbgiaoopgaaGaps
namespace Go.Proofs.Ytmichbgiaoopgaa
open Go.RowKit

/-- the clients of the first k events -/
def clsTo (l : List Ev) (k : Nat) : List Int := (List.range k).map (fun t => (eAt l t).c)
theorem clsTo_succ (l : List Ev) (k : Nat) : clsTo l (k + 1) = clsTo l k ++ [(eAt l k).c] := by simp [clsTo, List.range_succ]
theorem clsTo_len (l : List Ev) (k : Nat) : (clsTo l k).length = k := by simp [clsTo]
theorem clsTo_mem {l : List Ev} {k : Nat} {x : Int} : x ∈ clsTo l k ↔ ∃ t, t < k ∧ (eAt l t).c = x := by simp [clsTo]
/-- the clients below m that have a number -/
def cliL (l : List Ev) (n : Nat) : Nat → List Int
  | 0 => []
  | m + 1 => if 1 ≤ m ∧ 0 < mostTo l m n then cliL l n m ++ [(m : Int)] else cliL l n m
theorem cliL_len (l : List Ev) (n m : Nat) : (cliL l n m).length ≤ m := by
  induction m with
  | zero => simp [cliL]
  | succ m ih =>
    rw [cliL]; split
    · rw [List.length_append, List.length_singleton]; omega
    · omega
theorem cliL_mem {l : List Ev} {n m : Nat} {x : Int} : x ∈ cliL l n m ↔ 1 ≤ x ∧ x < m ∧ 0 < mostTo l x n := by
  induction m with
  | zero => simp [cliL]; omega
  | succ m ih =>
    rw [cliL]
    split
    · rename_i h
      rw [List.mem_append, ih, List.mem_singleton]
      constructor
      · rintro (⟨h1, h2, h3⟩ | rfl)
        · exact ⟨h1, by push_cast; omega, h3⟩
        · exact ⟨by omega, by push_cast; omega, h.2⟩
      · rintro ⟨h1, h2, h3⟩
        rcases Int.lt_or_le x m with h4 | h4
        · exact .inl ⟨h1, h4, h3⟩
        · exact .inr (by push_cast at h2; omega)
    · rename_i h
      rw [ih]
      constructor
      · rintro ⟨h1, h2, h3⟩; exact ⟨h1, by push_cast; omega, h3⟩
      · rintro ⟨h1, h2, h3⟩
        refine ⟨h1, ?_, h3⟩
        rcases Int.lt_or_le x m with h4 | h4
        · exact h4
        · exfalso
          have : x = m := by push_cast at h2; omega
          subst this
          exact h ⟨by omega, h3⟩
theorem cliL_sorted (l : List Ev) (n m : Nat) : (cliL l n m).Pairwise (fun x y => x < y) := by
  induction m with
  | zero => simp [cliL]
  | succ m ih =>
    rw [cliL]
    split
    · rw [List.pairwise_append]
      exact ⟨ih, List.pairwise_singleton _ _, fun a ha b hb => by simp at hb; subst hb; exact (cliL_mem.1 ha).2.1⟩
    · exact ih
/-- two lists that rise and hold the same are one -/
theorem rising_ext : ∀ {a b : List Int}, a.Pairwise (fun x y => x < y) → b.Pairwise (fun x y => x < y) → (∀ x, x ∈ a ↔ x ∈ b) → a = b
  | [], [], _, _, _ => rfl
  | [], y :: b, _, _, h => absurd ((h y).2 (List.mem_cons_self ..)) (by simp)
  | x :: a, [], _, _, h => absurd ((h x).1 (List.mem_cons_self ..)) (by simp)
  | x :: a, y :: b, ha, hb, h => by
    rw [List.pairwise_cons] at ha hb
    have hxy : x = y := by
      have h1 := (h x).1 (List.mem_cons_self ..)
      have h2 := (h y).2 (List.mem_cons_self ..)
      rw [List.mem_cons] at h1 h2
      rcases h1 with h1 | h1
      · exact h1
      · rcases h2 with h2 | h2
        · exact h2.symm
        · have := hb.1 x h1; have := ha.1 y h2; omega
    subst hxy
    rw [rising_ext ha.2 hb.2 (fun z => by
      constructor
      · intro hz
        have h1 := (h z).1 (List.mem_cons_of_mem _ hz)
        rw [List.mem_cons] at h1
        rcases h1 with rfl | h1
        · exact absurd (ha.1 z hz) (by omega)
        · exact h1
      · intro hz
        have h1 := (h z).2 (List.mem_cons_of_mem _ hz)
        rw [List.mem_cons] at h1
        rcases h1 with rfl | h1
        · exact absurd (hb.1 z hz) (by omega)
        · exact h1)]
/-- the compact list of a sorted one rises and holds the same -/
theorem compact_up {s : List Int} (hs : s.Pairwise (fun x y => x ≤ y)) (m : Nat) (hm : m ≤ s.length) :
    (Lib.compactUpTo s.toArray m).Pairwise (fun x y => x < y) ∧ (∀ x, x ∈ Lib.compactUpTo s.toArray m ↔ ∃ t, t < m ∧ s[t]? = some x) := by
  induction m with
  | zero => simp [Lib.compactUpTo]
  | succ m ih =>
    obtain ⟨h1, h2⟩ := ih (by omega)
    have hml : m < s.length := by omega
    rw [Lib.compactUpTo_succ]
    have hget : s.toArray[m]! = s[m] := by simp [hml]
    by_cases hk : Lib.keeps s.toArray m = true
    · rw [if_pos hk, hget]
      refine ⟨?_, fun x => ?_⟩
      · rw [List.pairwise_append]
        refine ⟨h1, List.pairwise_singleton _ _, fun a ha b hb => ?_⟩
        simp at hb; subst hb
        obtain ⟨t, ht, hta⟩ := (h2 a).1 ha
        obtain ⟨htl, hte⟩ := List.getElem?_eq_some_iff.1 hta
        have hle := List.pairwise_iff_getElem.1 hs t m htl hml ht
        rcases m with _ | m
        · omega
        · have hne : s[m + 1] ≠ s[m] := by
            have := hk; simp [Lib.keeps, hml, show m < s.length by omega] at this; exact this
          have hle2 := List.pairwise_iff_getElem.1 hs m (m + 1) (by omega) hml (by omega)
          rw [hte] at hle
          rcases Nat.lt_or_eq_of_le (show t ≤ m by omega) with h3 | h3
          · have := List.pairwise_iff_getElem.1 hs t m htl (by omega) h3
            rw [hte] at this; omega
          · subst h3; rw [hte] at hne hle2; omega
      · rw [List.mem_append, h2, List.mem_singleton]
        constructor
        · rintro (⟨t, ht, h3⟩ | rfl)
          · exact ⟨t, by omega, h3⟩
          · exact ⟨m, by omega, List.getElem?_eq_getElem hml⟩
        · rintro ⟨t, ht, h3⟩
          by_cases e : t = m
          · subst e; rw [List.getElem?_eq_getElem hml] at h3; injection h3 with h3; exact .inr h3.symm
          · exact .inl ⟨t, by omega, h3⟩
    · rw [if_neg hk, List.append_nil]
      refine ⟨h1, fun x => ?_⟩
      rw [h2]
      constructor
      · rintro ⟨t, ht, h3⟩; exact ⟨t, by omega, h3⟩
      · rintro ⟨t, ht, h3⟩
        by_cases e : t = m
        · subst e
          rcases t with _ | t
          · simp [Lib.keeps] at hk
          · have he : s[t + 1] = s[t] := by
              have := hk; simp [Lib.keeps, hml, show t < s.length by omega] at this; exact this
            rw [List.getElem?_eq_getElem hml] at h3
            injection h3 with h3
            exact ⟨t, by omega, by rw [List.getElem?_eq_getElem (by omega), ← he, h3]⟩
        · exact ⟨t, by omega, h3⟩
def clients (l : List Ev) : List Int := if evsOkB l = true then cliL l l.length 10 else []
theorem clients_sz (l : List Ev) : intsSz (clients l) ≤ 1048576 := by
  unfold clients intsSz; split
  · have := cliL_len l l.length 10; omega
  · simp
theorem clients_eq {l : List Ev} (h : evsOkB l = true) : Lib.compact (sortI (clsTo l l.length)) = clients l := by
  have hs := sortI_le (clsTo l l.length)
  obtain ⟨h1, h2⟩ := compact_up hs (sortI (clsTo l l.length)).length (Nat.le_refl _)
  unfold clients; rw [if_pos h]
  refine rising_ext h1 (cliL_sorted ..) (fun x => ?_)
  unfold Lib.compact
  rw [h2, cliL_mem]
  constructor
  · rintro ⟨t, ht, h3⟩
    have hx := sortI_mem.1 (List.mem_of_getElem? h3)
    obtain ⟨t2, ht2, h4⟩ := clsTo_mem.1 hx
    have h5 := evsOk_nc h ht2
    have h6 := (mostTo_is l x l.length).2.1 t2 ht2 h4
    rw [h4] at h5
    exact ⟨h5.2.1, by push_cast; omega, by omega⟩
  · rintro ⟨h3, h4, h5⟩
    obtain ⟨t, ht, h6, _⟩ := (mostTo_is l x l.length).2.2 h5
    obtain ⟨i, hi⟩ := List.mem_iff_getElem?.1 (sortI_mem.2 (clsTo_mem.2 ⟨t, ht, h6⟩))
    exact ⟨i, (List.getElem?_eq_some_iff.1 hi).1, hi⟩
end Go.Proofs.Ytmichbgiaoopgaa
