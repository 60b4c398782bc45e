/- Plain laws: the reference's readers against the program's. -/
import Derived.Test.YtbijkdpifnncmaaL4
namespace Go.Proofs.Ytbijkdpifnncmaa

noncomputable def TT (s : ByteArray) (a : Nat) : Sc := (s.extract a s.size, false)
theorem ext_ext (s : ByteArray) {a m : Nat} (_ : a + m ≤ s.size) : (s.extract a s.size).extract m (s.extract a s.size).size = s.extract (a + m) s.size := by
  apply ByteArray.ext
  simp only [ByteArray.data_extract, ByteArray.size_extract]
  show (s.data.extract a s.data.size).extract m _ = s.data.extract (a + m) s.data.size
  rw [Array.extract_extract]
  congr 1
  have : s.size = s.data.size := rfl
  omega
theorem ext_ext0 (s : ByteArray) {a n : Nat} (h : a + n ≤ s.size) : (s.extract a s.size).extract 0 n = s.extract a (a + n) := by
  apply ByteArray.ext
  simp only [ByteArray.data_extract]
  show (s.data.extract a s.data.size).extract 0 n = s.data.extract a (a + n)
  rw [Array.extract_extract]
  have : s.size = s.data.size := rfl
  rw [Nat.add_zero, Nat.min_eq_left (by omega)]
theorem cutT {s : ByteArray} {a n : Nat} (h : a + n ≤ s.size) : cutF (TT s a) n = (s.extract a (a + n), TT s (a + n)) := by
  have h1 : cutF (TT s a) n = if false = true ∨ ¬ n ≤ (s.extract a s.size).size then (.empty, (s.extract a s.size, true)) else ((s.extract a s.size).extract 0 n, ((s.extract a s.size).extract n (s.extract a s.size).size, false)) := rfl
  rw [h1, if_neg (by rw [ByteArray.size_extract]; simp; omega), ext_ext s h, ext_ext0 s h]
  rfl
theorem cutT_no {s : ByteArray} {a n : Nat} (h : s.size < a + n) (ha : a ≤ s.size) : (cutF (TT s a) n).2.2 = true := by
  have h1 : cutF (TT s a) n = if false = true ∨ ¬ n ≤ (s.extract a s.size).size then (.empty, (s.extract a s.size, true)) else ((s.extract a s.size).extract 0 n, ((s.extract a s.size).extract n (s.extract a s.size).size, false)) := rfl
  rw [h1, if_pos (.inr (by rw [ByteArray.size_extract]; omega))]
theorem numT {s : ByteArray} {a : Nat} (ha : a ≤ s.size) : (vsF s 1 ([], (a : Int)) = ([], -1) ∧ (numF (TT s a)).2.2 = true) ∨ ∃ v e : Nat, vsF s 1 ([], (a : Int)) = ([v], (e : Int)) ∧ v ≤ 562949953421311 ∧ a ≤ e ∧ e ≤ s.size ∧ numF (TT s a) = (v, TT s e) := by
  have hz := rvF_size (s.extract a s.size)
  rw [ByteArray.size_extract] at hz
  have h1 : numF (TT s a) = if false = true ∨ (rvF (s.extract a s.size)).2 = 0 then (0, (s.extract a s.size, true)) else ((rvF (s.extract a s.size)).1, ((s.extract a s.size).extract (rvF (s.extract a s.size)).2 (s.extract a s.size).size, false)) := rfl
  obtain ⟨v, m, hvm⟩ : ∃ v m, rvF (s.extract a s.size) = (v, m) := ⟨_, _, rfl⟩
  rw [hvm] at h1 hz
  simp only at hz
  by_cases hm : m = 0
  · refine .inl ⟨vsF_no (.inr (.inr (by rw [Int.toNat_natCast, hvm]; exact hm))), ?_⟩
    rw [h1, if_pos (.inr hm)]
  · refine .inr ⟨v, a + m, ?_, hz.2.2, by omega, by omega, ?_⟩
    · rw [vsF_yes ha hvm hm]; rfl
    · rw [h1, if_neg (by simp; omega)]
      rw [ext_ext s (by omega)]
      rfl
theorem num_bad {x : Sc} (h : x.2 = true) : (numF x).2.2 = true := by unfold numF; rw [if_pos (.inl h)]
theorem cut_bad {x : Sc} {n : Nat} (h : x.2 = true) : (cutF x n).2.2 = true := by unfold cutF; rw [if_pos (.inl h)]
theorem many_bad {x : Sc} {n : Nat} (h : x.2 = true) : (manyF x n).2.2 = true := by unfold manyF; rw [if_pos (.inl (num_bad h))]
theorem tkT {s : ByteArray} {a : Nat} (ha : a ≤ s.size) : (tkF s (a : Int) = (.empty, -1) ∧ (textF (TT s a)).2.2 = true) ∨ ∃ (p : ByteArray) (e : Nat), tkF s (a : Int) = (p, (e : Int)) ∧ a ≤ e ∧ e ≤ s.size ∧ textF (TT s a) = (p, TT s e) := by
  rcases numT ha with ⟨h1, h2⟩ | ⟨v, e, h1, h2, h3, h4, h5⟩
  · exact .inl ⟨tkF_no h1, by unfold textF; exact cut_bad h2⟩
  · by_cases hb : e + v ≤ s.size
    · refine .inr ⟨_, _, tkF_yes h1 hb, by omega, hb, ?_⟩
      unfold textF; rw [h5]; exact cutT hb
    · refine .inl ⟨tkF_big h1 (by omega), ?_⟩
      unfold textF; rw [h5]; exact cutT_no (by omega) h4
theorem manyT {s : ByteArray} {a : Nat} (ha : a ≤ s.size) : (vsF s 1 ([], (a : Int)) = ([], -1) ∧ (manyF (TT s a) 4).2.2 = true) ∨ ∃ v e : Nat, vsF s 1 ([], (a : Int)) = ([v], (e : Int)) ∧ v ≤ 562949953421311 ∧ a ≤ e ∧ e ≤ s.size ∧ ((4 < v ∧ (manyF (TT s a) 4).2.2 = true) ∨ (v ≤ 4 ∧ manyF (TT s a) 4 = (v, TT s e))) := by
  rcases numT ha with ⟨h1, h2⟩ | ⟨v, e, h1, h2, h3, h4, h5⟩
  · exact .inl ⟨h1, by unfold manyF; rw [if_pos (.inl h2)]⟩
  · refine .inr ⟨v, e, h1, h2, h3, h4, ?_⟩
    by_cases h : 4 < v
    · exact .inl ⟨h, by unfold manyF; rw [h5, if_pos (.inr h)]⟩
    · exact .inr ⟨by omega, by unfold manyF; rw [h5, if_neg (by unfold TT; simp; omega)]⟩
/-- where the text is of no entries -/
theorem JI_bad {s : ByteArray} {l : List Ent} {p : ByteArray} {n : Nat} {cs : List ByteArray} {x : Sc} (h : JI s l p n cs x) (hx : x.2 = true) : ∀ l0, treeOkB l0 = true → treeText l0 = s → False := by
  intro l0 h1 h2
  obtain ⟨k, j, hk, e1, e2, e3, hj, e4, e5⟩ := h l0 h1 h2
  rw [e5] at hx; cases hx
theorem JI_full {s : ByteArray} {l : List Ent} {p : ByteArray} {n : Nat} {cs : List ByteArray} {x : Sc} (h : JI s l p n cs x) (hx : 12 ≤ l.length) : ∀ l0, treeOkB l0 = true → treeText l0 = s → False := by
  intro l0 h1 h2
  obtain ⟨k, j, hk, e1, e2, e3, hj, e4, e5⟩ := h l0 h1 h2
  have := tok_len h1
  rw [e1, List.length_take] at hx
  omega
theorem sum8 {l : List ByteArray} (h : ∀ j, j < l.length → (sAt l j).size = 8) : (chL l).size = 8 * l.length := by
  induction l with
  | nil => rfl
  | cons c l ih =>
    have h0 := h 0 (by simp)
    have e0 : sAt (c :: l) 0 = c := rfl
    rw [e0] at h0
    simp only [chL, ByteArray.size_append, List.length_cons]
    rw [ih (fun j hj => by have := h (j + 1) (by simpa using hj); simpa [sAt] using this), h0]
    omega
theorem JI_short {s : ByteArray} {l : List Ent} {p : ByteArray} {n : Nat} {x : Sc} (h : JI s l p n [] x) (hx : x.1.size < 8 * n) : ∀ l0, treeOkB l0 = true → treeText l0 = s → False := by
  intro l0 h1 h2
  obtain ⟨k, j, hk, e1, e2, e3, hj, e4, e5⟩ := h l0 h1 h2
  have hj0 : j = 0 := by
    have := congrArg List.length e4
    rw [List.length_take] at this
    simp only [List.length_nil] at this
    omega
  subst hj0
  rw [e5] at hx
  simp only [List.drop_zero, ByteArray.size_append] at hx
  have := sum8 (tok_at h1 hk).2
  omega
theorem treeText_no {l : List Ent} (h : treeOkB l = false) : treeText l = ByteArray.empty := by unfold treeText; rw [h]; rfl
theorem TT_size (s : ByteArray) (a : Nat) : (TT s a).1.size = s.size - a := by unfold TT; simp only [ByteArray.size_extract]; omega
theorem tree_empty : treeOkB [] = true ∧ treeText [] = ByteArray.empty := by
  have h : treeOkB [] = true := rfl
  exact ⟨h, by rw [treeText_restL h]; rfl⟩
end Go.Proofs.Ytbijkdpifnncmaa
