/- The plain law of FnTraces: a gap is nobody's number, and below the last one. -/
import Derived.Test.YtmichbgiaoopgaaGaps
import Derived.Test.YtmichbgiaoopgaaLastOf
namespace Go.Proofs.Ytmichbgiaoopgaa

theorem outL_mem {p : Nat → Bool} {m : Nat} {x : Int} (h : x ∈ outL p m) : ∃ t : Nat, x = (t : Int) ∧ 0 < t ∧ t < m ∧ p t = false := by
  induction m with
  | zero => simp [outL] at h
  | succ m ih =>
    rw [outL] at h
    split at h
    · obtain ⟨t, h1, h2, h3, h4⟩ := ih h
      exact ⟨t, h1, h2, by omega, h4⟩
    · rename_i hn
      rcases List.mem_append.1 h with h | h
      · obtain ⟨t, h1, h2, h3, h4⟩ := ih h
        exact ⟨t, h1, h2, by omega, h4⟩
      · refine ⟨m, by simpa using h, ?_, by omega, ?_⟩
        · rcases Nat.eq_zero_or_pos m with h0 | h0
          · exact absurd (.inl h0) hn
          · exact h0
        · cases hp : p m
          · rfl
          · exact absurd (.inr hp) hn
theorem gaps_at {m : List Ev} {c : Int} {i : Nat} (hi : i < (gaps m c).length) : ∃ t : Nat, iAt (gaps m c) i = (t : Int) ∧ evsOkB m = true ∧ (t : Int) < mostTo m c m.length ∧ hasNo m c t m.length = false := by
  have hm : iAt (gaps m c) i ∈ gaps m c := by rw [iAt_get hi]; exact List.getElem_mem _
  unfold gaps at hm
  by_cases hok : evsOkB m = true
  · rw [if_pos hok] at hm
    obtain ⟨t, h1, h2, h3, h4⟩ := outL_mem hm
    have : iAt (gaps m c) i = (t : Int) := by unfold gaps; rw [if_pos hok]; exact h1
    exact ⟨t, this, hok, by omega, h4⟩
  · rw [if_neg hok] at hm; cases hm
theorem gaps_none {m : List Ev} {c : Int} {i k : Nat} (hi : i < (gaps m c).length) (hk : k < m.length) (hc : (eAt m k).c = c) : (eAt m k).n ≠ iAt (gaps m c) i := by
  obtain ⟨t, h1, _, _, h4⟩ := gaps_at hi
  intro h
  have : hasNo m c t m.length = true := hasNo_iff.2 (nosTo_mem.2 ⟨k, hk, hc, by rw [h, h1]⟩)
  rw [this] at h4; cases h4
theorem gaps_below {m : List Ev} {c : Int} {i : Nat} (hi : i < (gaps m c).length) (hs : (lastOf m c).isSome = true) : iAt (gaps m c) i < (bestOf m (lastOf m c)).n := by
  obtain ⟨t, h1, hok, h3, _⟩ := gaps_at hi
  rw [h1]
  have hl : lastOf m c = lastTo m c m.length := by unfold lastOf; rw [if_pos hok]
  rw [hl] at hs ⊢
  cases hq : lastTo m c m.length with
  | none => rw [hq] at hs; cases hs
  | some j =>
    have hi := lastTo_is m c m.length
    rw [hq] at hi
    obtain ⟨u, hu, huc, hun⟩ := (mostTo_is m c m.length).2.2 (by omega)
    have := hi.2.2.1 u hu huc
    show (t : Int) < (eAt m j).n
    omega
end Go.Proofs.Ytmichbgiaoopgaa
