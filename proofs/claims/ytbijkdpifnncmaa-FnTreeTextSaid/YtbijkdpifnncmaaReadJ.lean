/- Plain laws of reading entries: what the reader's steps give on a text of entries. -/
import Derived.Test.YtbijkdpifnncmaaScan
import Derived.Test.YtbijkdpifnncmaaReadLaw
namespace Go.Proofs.Ytbijkdpifnncmaa

theorem numF_var {n : Nat} (hn : n ≤ 562949953421311) (t : ByteArray) : numF (varS n ++ t, false) = (n, (t, false)) := by
  have hp := varS_pos n
  have h : numF (varS n ++ t, false) = if false = true ∨ (rvF (varS n ++ t)).2 = 0 then (0, (varS n ++ t, true)) else ((rvF (varS n ++ t)).1, ((varS n ++ t).extract (rvF (varS n ++ t)).2 (varS n ++ t).size, false)) := rfl
  rw [h, rvF_var hn t, if_neg (fun h => h.elim (fun h => by cases h) (fun h => by replace h : (varS n).size = 0 := h; omega)), ext_right]
theorem cutF_app (a t : ByteArray) {n : Nat} (h : a.size = n) : cutF (a ++ t, false) n = (a, (t, false)) := by
  subst h
  have h : cutF (a ++ t, false) a.size = if false = true ∨ ¬ a.size ≤ (a ++ t).size then (.empty, (a ++ t, true)) else ((a ++ t).extract 0 a.size, ((a ++ t).extract a.size (a ++ t).size, false)) := rfl
  rw [h, if_neg (by rw [ByteArray.size_append]; simp), ext_left, ext_right]
theorem textF_app {p : ByteArray} (hp : p.size ≤ 562949953421311) (t : ByteArray) : textF (varS p.size ++ (p ++ t), false) = (p, (t, false)) := by
  unfold textF; rw [numF_var hp]; exact cutF_app p t rfl
theorem manyF_var {n most : Nat} (hn : n ≤ most) (hm : most ≤ 562949953421311) (t : ByteArray) : manyF (varS n ++ t, false) most = (n, (t, false)) := by
  unfold manyF; rw [numF_var (by omega), if_neg (by simp; omega)]
theorem cutF_cost (x : Sc) (n : Nat) : (cutF x n).1.size + (cutF x n).2.1.size ≤ x.1.size := by
  unfold cutF
  split
  · simp
  · show (x.1.extract 0 n).size + (x.1.extract n x.1.size).size ≤ _
    rw [ByteArray.size_extract, ByteArray.size_extract]; omega
theorem textF_cost (x : Sc) : (textF x).1.size + (textF x).2.1.size ≤ x.1.size := by
  unfold textF
  have h1 := cutF_cost (numF x).2 (numF x).1
  have h2 := (numF_le x).2
  omega
theorem manyF_le (x : Sc) (most : Nat) : (manyF x most).1 ≤ most ∧ (manyF x most).2.1.size ≤ x.1.size := by
  have h2 := (numF_le x).2
  unfold manyF
  split
  · exact ⟨Nat.zero_le _, h2⟩
  · exact ⟨by simp only; omega, h2⟩
theorem strsSz_snoc (l : List ByteArray) (c : ByteArray) : strsSz (l ++ [c]) = strsSz l + 1 + c.size := by
  unfold strsSz; simp; omega
theorem entsSz_snoc (l : List Ent) (e : Ent) : entsSz (l ++ [e]) = entsSz l + 1 + entSz e := by
  unfold entsSz; simp; omega

/-- entries and the reader's state agree with whatever the text is the text of -/
def JR (s : ByteArray) (l : List Ent) (x : Sc) : Prop := ∀ l0, treeOkB l0 = true → treeText l0 = s → ∃ k, k ≤ l0.length ∧ l = l0.take k ∧ x = (restL (l0.drop k), false)
/-- likewise within an entry: its path, its number of chunks, the chunks so far -/
def JI (s : ByteArray) (l : List Ent) (p : ByteArray) (n : Nat) (cs : List ByteArray) (x : Sc) : Prop :=
  ∀ l0, treeOkB l0 = true → treeText l0 = s → ∃ k j, k < l0.length ∧ l = l0.take k ∧ p = (enAt l0 k).p ∧ n = (enAt l0 k).ch.length ∧ j ≤ n ∧ cs = (enAt l0 k).ch.take j ∧ x = (chL ((enAt l0 k).ch.drop j) ++ restL (l0.drop (k + 1)), false)
theorem tok_at {l : List Ent} (h : treeOkB l = true) {k : Nat} (hk : k < l.length) : (enAt l k).ch.length ≤ 4 ∧ ∀ j, j < (enAt l k).ch.length → (sAt (enAt l k).ch j).size = 8 := by
  unfold treeOkB at h
  simp only [Bool.and_eq_true, decide_eq_true_eq, List.all_eq_true, List.mem_range] at h
  have h1 := h.2 k hk
  unfold entryAt at h1
  simp only [Bool.and_eq_true, decide_eq_true_eq] at h1
  refine ⟨h1.1.1.2, fun j hj => ?_⟩
  have h2 := h1.1.2
  unfold all8 at h2
  simp only [List.all_eq_true, List.mem_range, decide_eq_true_eq] at h2
  exact h2 j hj
theorem tok_len {l : List Ent} (h : treeOkB l = true) : l.length ≤ 12 := by
  unfold treeOkB at h; simp only [Bool.and_eq_true, decide_eq_true_eq] at h; exact h.1
theorem JR_start (s : ByteArray) : JR s [] (s, false) := fun l0 h1 h2 => ⟨0, Nat.zero_le _, by simp, by rw [← h2, treeText_restL h1, List.drop_zero]⟩
theorem restL_nil {l : List Ent} {k : Nat} (hk : k ≤ l.length) (h : restL (l.drop k) = ByteArray.empty) : k = l.length := by
  rcases Nat.lt_or_ge k l.length with hlt | hge
  · have h1 := restL_drop hlt
    rw [h] at h1
    have h2 := congrArg ByteArray.size h1
    rw [ByteArray.size_append] at h2
    have h3 := varS_pos (enAt l k).p.size
    have h4 : ByteArray.empty.size = 0 := rfl
    omega
  · omega
theorem JR_step {s : ByteArray} {l : List Ent} {x : Sc} (h : JR s l x) (hx : x.1 ≠ ByteArray.empty) (hz : x.1.size ≤ 562949953421311) : JI s l (textF x).1 (manyF (textF x).2 4).1 [] (manyF (textF x).2 4).2 := by
  intro l0 h1 h2
  obtain ⟨k, hk, e1, e2⟩ := h l0 h1 h2
  have hlt : k < l0.length := by
    rcases Nat.lt_or_ge k l0.length with hlt | hge
    · exact hlt
    · exfalso; apply hx; rw [e2]; show restL (l0.drop k) = _; rw [List.drop_eq_nil_of_le hge]; rfl
  have h3 := restL_drop hlt
  have hps : (enAt l0 k).p.size ≤ 562949953421311 := by
    rw [e2] at hz
    have : x.1 = restL (l0.drop k) := by rw [e2]
    have h4 := congrArg ByteArray.size h3
    simp only [ByteArray.size_append] at h4
    simp only at hz
    omega
  have ht := tok_at h1 hlt
  rw [e2, h3, textF_app hps]
  simp only
  rw [manyF_var ht.1 (by omega)]
  exact ⟨k, 0, hlt, e1, rfl, rfl, Nat.zero_le _, by simp, by simp⟩
theorem JI_step {s : ByteArray} {l : List Ent} {p : ByteArray} {n : Nat} {cs : List ByteArray} {x : Sc} (h : JI s l p n cs x) (hn : cs.length < n) : JI s l p n (cs ++ [(cutF x 8).1]) (cutF x 8).2 := by
  intro l0 h1 h2
  obtain ⟨k, j, hk, e1, e2, e3, hj, e4, e5⟩ := h l0 h1 h2
  have hl : cs.length = j := by rw [e4, List.length_take]; omega
  have hjl : j < (enAt l0 k).ch.length := by omega
  have h8 := (tok_at h1 hk).2 j hjl
  have hc := chL_drop hjl
  rw [e5, hc, ByteArray.append_assoc, cutF_app _ _ h8]
  refine ⟨k, j + 1, hk, e1, e2, e3, by omega, ?_, rfl⟩
  rw [e4, List.take_succ_eq_append_getElem hjl]
  simp [sAt, hjl]
theorem JI_end {s : ByteArray} {l : List Ent} {p : ByteArray} {n : Nat} {cs : List ByteArray} {x : Sc} (h : JI s l p n cs x) (hn : cs.length = n) : JR s (l ++ [⟨p, cs⟩]) x := by
  intro l0 h1 h2
  obtain ⟨k, j, hk, e1, e2, e3, hj, e4, e5⟩ := h l0 h1 h2
  have hl : cs.length = j := by rw [e4, List.length_take]; omega
  have hjl : j = (enAt l0 k).ch.length := by omega
  have e6 : cs = (enAt l0 k).ch := by rw [e4, hjl, List.take_length]
  refine ⟨k + 1, hk, ?_, ?_⟩
  · rw [List.take_succ_eq_append_getElem hk, e1, e2, e6, ← enAt_get hk]
  · rw [e5, hjl, List.drop_length]
    simp [chL]
theorem JR_end {s : ByteArray} {l : List Ent} {x : Sc} (h : JR s l x) (hx : x.1 = ByteArray.empty ∨ x.2 = true ∨ 12 < l.length) : ∀ l0, treeOkB l0 = true → treeText l0 = s → l = l0 ∧ x.2 = false := by
  intro l0 h1 h2
  obtain ⟨k, hk, e1, e2⟩ := h l0 h1 h2
  have hl : l.length = k := by rw [e1, List.length_take]; omega
  have hb : x.2 = false := by rw [e2]
  have h12 := tok_len h1
  rcases hx with hx | hx | hx
  · have : k = l0.length := restL_nil hk (by rw [e2] at hx; exact hx)
    exact ⟨by rw [e1, this, List.take_length], hb⟩
  · rw [hb] at hx; cases hx
  · omega

open Classical in
/-- the entries that a text spells, and whether there are any -/
noncomputable def trL (s : ByteArray) : List Ent := if h : ∃ l, treeOkB l = true ∧ treeText l = s then Classical.choose h else []
open Classical in
noncomputable def trB (s : ByteArray) : Bool := decide (∃ l, treeOkB l = true ∧ treeText l = s)
theorem tr_yes {s : ByteArray} {l : List Ent} (h1 : treeOkB l = true) (h2 : treeText l = s) (hu : ∀ l0, treeOkB l0 = true → treeText l0 = s → l = l0) : trL s = l ∧ trB s = true := by
  have hex : ∃ l, treeOkB l = true ∧ treeText l = s := ⟨l, h1, h2⟩
  unfold trL trB
  rw [dif_pos hex]
  have hc := Classical.choose_spec hex
  exact ⟨(hu _ hc.1 hc.2).symm, by simpa using hex⟩
theorem tr_no {s : ByteArray} (h : ∀ l, treeOkB l = true → treeText l = s → False) : trL s = [] ∧ trB s = false := by
  have hex : ¬ ∃ l, treeOkB l = true ∧ treeText l = s := fun ⟨l, h1, h2⟩ => h l h1 h2
  unfold trL trB
  rw [dif_neg hex]
  exact ⟨rfl, by simpa using hex⟩
theorem chL_size (l : List ByteArray) : (chL l).size = (l.map ByteArray.size).sum := by
  induction l with
  | nil => rfl
  | cons c l ih => simp only [chL, ByteArray.size_append, List.map_cons, List.sum_cons, ih]
theorem restL_size (l : List Ent) (h : ∀ k, k < l.length → (enAt l k).ch.length ≤ 4) : entsSz l ≤ (restL l).size + 4 * l.length := by
  induction l with
  | nil => simp [entsSz]
  | cons e l ih =>
    have h0 := h 0 (by simp)
    have e0 : enAt (e :: l) 0 = e := rfl
    rw [e0] at h0
    have ih := ih (fun k hk => by have := h (k + 1) (by simpa using hk); simpa [enAt] using this)
    have hz : (restL (e :: l)).size = (varS e.p.size).size + (e.p.size + ((varS e.ch.length).size + ((chL e.ch).size + (restL l).size))) := by
      simp only [restL, ByteArray.size_append]
    have hv1 := varS_pos e.p.size
    have hv2 := varS_pos e.ch.length
    rw [hz, chL_size]
    unfold entsSz at ih ⊢
    simp only [List.length_cons, List.map_cons, List.sum_cons]
    have e1 : entSz e = e.p.size + (e.ch.length + (e.ch.map ByteArray.size).sum) := rfl
    rw [e1]
    omega
theorem trL_sz {s : ByteArray} (hs : s.size ≤ 1048576) : entsSz (trL s) ≤ 1048624 := by
  unfold trL
  split
  · rename_i h
    have hc := Classical.choose_spec h
    have h1 := restL_size (Classical.choose h) (fun k hk => (tok_at hc.1 hk).1)
    have h2 := tok_len hc.1
    have h3 := treeText_restL hc.1
    rw [hc.2] at h3
    rw [← h3] at h1
    omega
  · simp [entsSz]
end Go.Proofs.Ytbijkdpifnncmaa
