/- The order of texts: sorted lists without repetition; the reference's put. -/
import Derived.Test.YtbijkdpifnncmaaBase
import Derived.Lib.SlicesCompact
import Derived.Sort.Walk0
namespace Go.Proofs.Ytbijkdpifnncmaa

abbrev By := List UInt8
def ltB (x y : By) : Prop := Op.bytesLess x y = true
theorem ltB_cons {a b : UInt8} {x y : By} : ltB (a :: x) (b :: y) ↔ a.toNat < b.toNat ∨ (a = b ∧ ltB x y) := by
  simp [ltB, Op.bytesLess, UInt8.lt_iff_toNat_lt]
theorem ltB_nil {x : By} : ¬ ltB x [] := by cases x <;> simp [ltB, Op.bytesLess]
theorem ltB_nc {b : UInt8} {y : By} : ltB [] (b :: y) := by simp [ltB, Op.bytesLess]
theorem ltB_irr : ∀ (x : By), ¬ ltB x x
  | [] => ltB_nil
  | a :: x => by rw [ltB_cons]; intro h; rcases h with h | ⟨_, h⟩; exact Nat.lt_irrefl _ h; exact ltB_irr x h
theorem ltB_trans : ∀ {x y z : By}, ltB x y → ltB y z → ltB x z
  | _, _, [], _, h => absurd h ltB_nil
  | _, [], _ :: _, h, _ => absurd h ltB_nil
  | [], _ :: _, _ :: _, _, _ => ltB_nc
  | a :: x, b :: y, c :: z, h, k => by
    rw [ltB_cons] at *
    rcases h with h | ⟨rfl, h⟩
    · rcases k with k | ⟨rfl, k⟩
      · exact .inl (by omega)
      · exact .inl h
    · rcases k with k | ⟨rfl, k⟩
      · exact .inl k
      · exact .inr ⟨rfl, ltB_trans h k⟩
theorem ltB_tri : ∀ {x y : By}, ¬ ltB x y → ¬ ltB y x → x = y
  | [], [], _, _ => rfl
  | [], _ :: _, h, _ => absurd ltB_nc h
  | _ :: _, [], _, h => absurd ltB_nc h
  | a :: x, b :: y, h, k => by
    rw [ltB_cons] at *
    have e : a = b := by
      rcases Nat.lt_trichotomy a.toNat b.toNat with h1 | h1 | h1
      · exact absurd (.inl h1) h
      · exact UInt8.toNat_inj.1 h1
      · exact absurd (.inl h1) k
    subst e
    rw [ltB_tri (fun hh => h (.inr ⟨rfl, hh⟩)) (fun hh => k (.inr ⟨rfl, hh⟩))]
theorem le_iff {x y : By} : x ≤ y ↔ ¬ ltB y x := by
  unfold ltB
  rw [bytesLess_eq, decide_eq_true_eq]
  exact Iff.rfl
theorem leB_trans {x y z : By} (h : ¬ ltB y x) (k : ¬ ltB z y) : ¬ ltB z x := fun hzx => by
  by_cases hxy : ltB x y
  · exact k (ltB_trans hzx hxy)
  · have := ltB_tri hxy h
    subst this
    exact k hzx
def sortB (l : List By) : List By := l.mergeSort (fun x y => decide (x ≤ y))
theorem sortB_len (l : List By) : (sortB l).length = l.length := List.length_mergeSort l
theorem sortB_mem {l : List By} {x : By} : x ∈ sortB l ↔ x ∈ l := List.mem_mergeSort
theorem sortB_le (l : List By) : (sortB l).Pairwise (fun x y => ¬ ltB y x) :=
  (List.pairwise_mergeSort (le := fun x y : By => decide (x ≤ y)) (fun a b c h1 h2 => by
    simp only [decide_eq_true_eq, le_iff] at *; exact leB_trans h1 h2) (fun a b => by
    simp only [Bool.or_eq_true, decide_eq_true_eq, le_iff]
    by_cases h : ltB b a
    · exact .inr (fun hh => ltB_irr _ (ltB_trans h hh))
    · exact .inl h) l).imp (fun h => by simpa only [decide_eq_true_eq, le_iff] using h)

theorem risingB_ext : ∀ {a b : List By}, a.Pairwise ltB → b.Pairwise ltB → (∀ x, x ∈ a ↔ x ∈ b) → a = b
  | [], [], _, _, _ => rfl
  | [], y :: b, _, _, h => absurd ((h y).2 (List.mem_cons_self ..)) (by simp)
  | x :: a, [], _, _, h => absurd ((h x).1 (List.mem_cons_self ..)) (by simp)
  | x :: a, y :: b, ha, hb, h => by
    rw [List.pairwise_cons] at ha hb
    have hxy : x = y := by
      have h1 := (h x).1 (List.mem_cons_self ..)
      have h2 := (h y).2 (List.mem_cons_self ..)
      rw [List.mem_cons] at h1 h2
      rcases h1 with h1 | h1
      · exact h1
      · rcases h2 with h2 | h2
        · exact h2.symm
        · exact absurd (ltB_trans (hb.1 x h1) (ha.1 y h2)) (ltB_irr _)
    subst hxy
    rw [risingB_ext ha.2 hb.2 (fun z => by
      constructor
      · intro hz
        have h1 := (h z).1 (List.mem_cons_of_mem _ hz)
        rw [List.mem_cons] at h1
        rcases h1 with rfl | h1
        · exact absurd (ha.1 z hz) (ltB_irr _)
        · exact h1
      · intro hz
        have h1 := (h z).2 (List.mem_cons_of_mem _ hz)
        rw [List.mem_cons] at h1
        rcases h1 with rfl | h1
        · exact absurd (hb.1 z hz) (ltB_irr _)
        · exact h1)]
/-- the compact list of a sorted one rises and holds the same -/
theorem compactB_up {s : List By} (hs : s.Pairwise (fun x y => ¬ ltB y x)) (m : Nat) (hm : m ≤ s.length) :
    (Lib.compactUpTo s.toArray m).Pairwise ltB ∧ (∀ x, x ∈ Lib.compactUpTo s.toArray m ↔ ∃ t, t < m ∧ s[t]? = some x) := by
  induction m with
  | zero => simp [Lib.compactUpTo]
  | succ m ih =>
    obtain ⟨h1, h2⟩ := ih (by omega)
    have hml : m < s.length := by omega
    rw [Lib.compactUpTo_succ]
    have hget : s.toArray[m]! = s[m] := by simp [hml]
    by_cases hk : Lib.keeps s.toArray m = true
    · rw [if_pos hk, hget]
      refine ⟨?_, fun x => ?_⟩
      · rw [List.pairwise_append]
        refine ⟨h1, List.pairwise_singleton _ _, fun a ha b hb => ?_⟩
        simp at hb; subst hb
        obtain ⟨t, ht, hta⟩ := (h2 a).1 ha
        obtain ⟨htl, hte⟩ := List.getElem?_eq_some_iff.1 hta
        have hle := List.pairwise_iff_getElem.1 hs t m htl hml ht
        rcases m with _ | m
        · omega
        · have hne : s[m + 1] ≠ s[m] := by
            have := hk; simp [Lib.keeps, hml, show m < s.length by omega] at this; exact this
          have hle2 := List.pairwise_iff_getElem.1 hs m (m + 1) (by omega) hml (by omega)
          have hlt2 : ltB s[m] s[m + 1] := by
            by_cases h5 : ltB s[m] s[m + 1]
            · exact h5
            · exact absurd (ltB_tri hle2 h5) hne
          rcases Nat.lt_or_eq_of_le (show t ≤ m by omega) with h3 | h3
          · have h6 := List.pairwise_iff_getElem.1 hs t m htl (by omega) h3
            rw [hte] at h6
            by_cases h7 : ltB a s[m]
            · exact ltB_trans h7 hlt2
            · have := ltB_tri h7 h6
              subst this; exact hlt2
          · subst h3; rw [hte] at hlt2; exact hlt2
      · rw [List.mem_append, h2, List.mem_singleton]
        constructor
        · rintro (⟨t, ht, h3⟩ | rfl)
          · exact ⟨t, by omega, h3⟩
          · exact ⟨m, by omega, List.getElem?_eq_getElem hml⟩
        · rintro ⟨t, ht, h3⟩
          by_cases e : t = m
          · subst e; rw [List.getElem?_eq_getElem hml] at h3; injection h3 with h3; exact .inr h3.symm
          · exact .inl ⟨t, by omega, h3⟩
    · rw [if_neg hk, List.append_nil]
      refine ⟨h1, fun x => ?_⟩
      rw [h2]
      constructor
      · rintro ⟨t, ht, h3⟩; exact ⟨t, by omega, h3⟩
      · rintro ⟨t, ht, h3⟩
        by_cases e : t = m
        · subst e
          rcases t with _ | t
          · simp [Lib.keeps] at hk
          · have he : s[t + 1] = s[t] := by
              have := hk; simp [Lib.keeps, hml, show t < s.length by omega] at this; exact this
            rw [List.getElem?_eq_getElem hml] at h3
            injection h3 with h3
            exact ⟨t, by omega, by rw [List.getElem?_eq_getElem (by omega), ← he, h3]⟩
        · exact ⟨t, by omega, h3⟩

/-! ### the reference's put -/
instance (x y : By) : Decidable (ltB x y) := inferInstanceAs (Decidable (Op.bytesLess x y = true))
/-- x ahead of the first greater one -/
def insB (x : By) : List By → List By
  | [] => [x]
  | y :: l => if ltB x y then x :: y :: l else y :: insB x l
def putB (l : List By) (x : By) : List By := if x ∈ l then l else insB x l
theorem insB_mem {x z : By} {l : List By} : z ∈ insB x l ↔ z = x ∨ z ∈ l := by
  induction l with
  | nil => simp [insB]
  | cons y l ih =>
    rw [insB]; split
    · simp
    · rw [List.mem_cons, ih, List.mem_cons]
      constructor
      · rintro (h | h | h) <;> simp [h]
      · rintro (h | h | h) <;> simp [h]
theorem insB_rising {x : By} {l : List By} (h : l.Pairwise ltB) (hx : x ∉ l) : (insB x l).Pairwise ltB := by
  induction l with
  | nil => simp [insB]
  | cons y l ih =>
    rw [List.pairwise_cons] at h
    rw [insB]; split
    · rename_i hxy
      rw [List.pairwise_cons]
      refine ⟨fun z hz => ?_, List.pairwise_cons.2 h⟩
      rcases List.mem_cons.1 hz with rfl | hz
      · exact hxy
      · exact ltB_trans hxy (h.1 z hz)
    · rename_i hxy
      rw [List.pairwise_cons]
      refine ⟨fun z hz => ?_, ih h.2 (fun hh => hx (List.mem_cons_of_mem _ hh))⟩
      rcases insB_mem.1 hz with rfl | hz
      · by_cases h5 : ltB y z
        · exact h5
        · exact absurd (ltB_tri hxy h5) (fun e => hx (by rw [e]; exact List.mem_cons_self ..))
      · exact h.1 z hz
theorem putB_mem {x z : By} {l : List By} : z ∈ putB l x ↔ z = x ∨ z ∈ l := by
  unfold putB; split
  · rename_i h
    exact ⟨.inr, fun hh => by rcases hh with rfl | hh; exact h; exact hh⟩
  · exact insB_mem
theorem putB_rising {x : By} {l : List By} (h : l.Pairwise ltB) : (putB l x).Pairwise ltB := by
  unfold putB; split
  · exact h
  · rename_i hx; exact insB_rising h hx
def putsB (ns : List By) : List By := ns.foldl putB []
theorem puts_aux (ns : List By) : ∀ (l : List By), l.Pairwise ltB → (ns.foldl putB l).Pairwise ltB ∧ ∀ z, z ∈ ns.foldl putB l ↔ z ∈ ns ∨ z ∈ l := by
  induction ns with
  | nil => intro l h; exact ⟨h, fun z => by simp⟩
  | cons x ns ih =>
    intro l h
    obtain ⟨h1, h2⟩ := ih (putB l x) (putB_rising h)
    refine ⟨h1, fun z => ?_⟩
    rw [List.foldl_cons, h2, putB_mem, List.mem_cons]
    constructor
    · rintro (h | h | h) <;> simp [h]
    · rintro ((h | h) | h) <;> simp [h]
/-- sorted and without repetition is what the puts make -/
theorem compact_sort (ns : List By) : Lib.compact (sortB ns) = putsB ns := by
  obtain ⟨h1, h2⟩ := compactB_up (sortB_le ns) (sortB ns).length (Nat.le_refl _)
  obtain ⟨h3, h4⟩ := puts_aux ns [] List.Pairwise.nil
  unfold Lib.compact putsB
  refine risingB_ext h1 h3 (fun x => ?_)
  rw [h2, h4, ← sortB_mem]
  constructor
  · rintro ⟨t, _, ht⟩; exact .inl (List.mem_of_getElem? ht)
  · rintro (h | h)
    · obtain ⟨t, ht, e⟩ := List.mem_iff_getElem.1 h
      exact ⟨t, ht, by rw [List.getElem?_eq_getElem ht, e]⟩
    · cases h
theorem putsB_snoc (ns : List By) (x : By) : putsB (ns ++ [x]) = putB (putsB ns) x := by simp [putsB]
theorem insB_len (x : By) (l : List By) : (insB x l).length = l.length + 1 := by
  induction l with
  | nil => simp [insB]
  | cons y l ih => rw [insB]; split <;> simp [ih]
theorem putB_len (l : List By) (x : By) : (putB l x).length ≤ l.length + 1 := by
  unfold putB; split
  · omega
  · rw [insB_len]; exact Nat.le_refl _
theorem putsB_len (ns : List By) : (putsB ns).length ≤ ns.length := by
  have : ∀ l, (ns.foldl putB l).length ≤ l.length + ns.length := by
    induction ns with
    | nil => simp
    | cons x ns ih => intro l; rw [List.foldl_cons]; have := ih (putB l x); have := putB_len l x; simp; omega
  simpa [putsB] using this []
theorem putsB_mem {ns : List By} {z : By} : z ∈ putsB ns ↔ z ∈ ns := by
  have := (puts_aux ns [] List.Pairwise.nil).2 z
  simpa [putsB] using this
end Go.Proofs.Ytbijkdpifnncmaa
