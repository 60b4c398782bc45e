/- Plain laws of Recon: two rising sets, one behind the other and sorted, are what the puts make. -/
import Derived.Test.YtfbfomlgjghcmaaDoorUnlike
import Derived.Test.YtfbfomlgjghcmaaDoorHasI
import Derived.Test.YtfbfomlgjghcmaaDoorPut
import Derived.Test.YtfbfomlgjghcmaaDoorLacks
namespace Go.Proofs.YtfbfomlgjghcmaaDoor
open Go.RowKit

/-! ### sizes -/
theorem txsSz_cons (x : By) (l : List By) : strsSz (txs (x :: l)) = 1 + x.length + strsSz (txs l) := by
  have h : (ofL x).size = x.length := by show x.toArray.size = _; simp
  unfold strsSz txs
  simp [h]; omega
theorem insB_sz (x : By) (l : List By) : strsSz (txs (insB x l)) = 1 + x.length + strsSz (txs l) := by
  induction l with
  | nil => rw [insB, txsSz_cons]
  | cons y l ih =>
    rw [insB]
    split
    · rw [txsSz_cons, txsSz_cons]
    · rw [txsSz_cons, ih, txsSz_cons]; omega
theorem putB_sz (l : List By) (x : By) : strsSz (txs (putB l x)) ≤ 1 + x.length + strsSz (txs l) := by
  unfold putB; split
  · omega
  · rw [insB_sz]; exact Nat.le_refl _
theorem putsB_sz (ns : List By) : strsSz (txs (putsB ns)) ≤ strsSz (txs ns) := by
  have : ∀ l, strsSz (txs (ns.foldl putB l)) ≤ strsSz (txs l) + strsSz (txs ns) := by
    induction ns with
    | nil => intro l; simp
    | cons x ns ih => intro l; rw [List.foldl_cons, txsSz_cons]; have := ih (putB l x); have := putB_sz l x; omega
  have h0 := this []
  simp [txs, strsSz] at h0
  simpa [putsB, txs, strsSz] using h0

/-! ### sets -/
theorem setOk_get {l : List ByteArray} (h : setOkB l = true) {i : Nat} (hi : i < l.length) : setAt l i = true := List.all_eq_true.1 h i (List.mem_range.2 hi)
theorem setOk_next {l : List ByteArray} (h : setOkB l = true) {i : Nat} (hi : i + 1 < l.length) : ltB (toL (sAt l i)) (toL (sAt l (i + 1))) := by
  have := setOk_get h hi
  simp only [setAt, Bool.and_eq_true, Bool.or_eq_true, decide_eq_true_eq] at this
  rcases this.2 with h0 | h1
  · omega
  · unfold ltB toL
    rw [← Lib.toList_data, ← Lib.toList_data]
    simpa using h1
theorem setOk_lt {l : List ByteArray} (h : setOkB l = true) (i : Nat) : ∀ d, i + d + 1 < l.length → ltB (toL (sAt l i)) (toL (sAt l (i + d + 1)))
  | 0, hd => setOk_next h hd
  | d + 1, hd => ltB_trans (setOk_lt h i d (by omega)) (setOk_next h (i := i + d + 1) hd)
theorem setOk_rising {l : List ByteArray} (h : setOkB l = true) : (l.map toL).Pairwise ltB := by
  rw [List.pairwise_iff_getElem]
  intro i j hi hj hij
  have hi' : i < l.length := by simpa using hi
  have hj' : j < l.length := by simpa using hj
  have := setOk_lt h i (j - i - 1) (by omega)
  rw [show i + (j - i - 1) + 1 = j by omega, sAt_get hi', sAt_get hj'] at this
  simpa using this
theorem rising_nodup {l : List By} (h : l.Pairwise ltB) : l.Nodup := h.imp (fun hab e => by subst e; exact ltB_irr _ hab)
theorem sortB_nodup {l : List By} (h : l.Nodup) : (sortB l).Pairwise ltB := by
  have hn : (sortB l).Nodup := (List.mergeSort_perm l _).nodup_iff.2 h
  exact (List.pairwise_and_iff.2 ⟨sortB_le l, hn⟩).imp (fun {x y} hxy => by
    by_cases hlt : ltB x y
    · exact hlt
    · exact absurd (ltB_tri hlt hxy.1) hxy.2)
theorem toL_inj {s t : ByteArray} (h : toL s = toL t) : s = t := by rw [← ofL_toL s, ← ofL_toL t, h]
theorem lacks_all {a b : List ByteArray} (ha : setOkB a = true) (hb : setOkB b = true) : lacks a b = b.filter (fun x => !hasS a x) := by simp [lacks, ha, hb, lackTo]
theorem hasS_mem (a : List ByteArray) (x : ByteArray) : hasS a x = true ↔ x ∈ a := by
  unfold hasS; rw [List.any_eq_true]
  exact ⟨fun ⟨y, h, e⟩ => by simp at e; subst e; exact h, fun h => ⟨x, h, by simp⟩⟩
/-- the union by sorting is the union by puts -/
theorem recon_sort {a b : List ByteArray} (ha : setOkB a = true) (hb : setOkB b = true) : sortB ((a ++ lacks a b).map toL) = putsB ((a ++ b).map toL) := by
  have na := rising_nodup (setOk_rising ha)
  have nb := rising_nodup (setOk_rising hb)
  rw [lacks_all ha hb]
  refine risingB_ext (sortB_nodup ?_) (puts_aux _ [] List.Pairwise.nil).1 (fun x => ?_)
  · rw [List.map_append, List.nodup_append]
    refine ⟨na, nb.sublist (List.filter_sublist.map _), ?_⟩
    intro x hx y hy e
    subst e
    obtain ⟨s, hs, rfl⟩ := List.mem_map.1 hx
    obtain ⟨t, ht, e⟩ := List.mem_map.1 hy
    have := toL_inj e
    subst this
    have h2 := (List.mem_filter.1 ht).2
    rw [(hasS_mem a t).2 hs] at h2
    simp at h2
  · rw [sortB_mem, putsB_mem]
    simp only [List.mem_map, List.mem_append]
    constructor
    · rintro ⟨s, hs | hs, rfl⟩
      · exact ⟨s, .inl hs, rfl⟩
      · exact ⟨s, .inr (List.mem_filter.1 hs).1, rfl⟩
    · rintro ⟨s, hs | hs, rfl⟩
      · exact ⟨s, .inl hs, rfl⟩
      · by_cases h : s ∈ a
        · exact ⟨s, .inl h, rfl⟩
        · refine ⟨s, .inr (List.mem_filter.2 ⟨hs, ?_⟩), rfl⟩
          rw [Bool.not_eq_true', Bool.eq_false_iff]
          exact fun hh => h ((hasS_mem a s).1 hh)
/-! ### how many lie in buckets of a list -/
def cntTo (u : List Int) (l : List ByteArray) : Nat → Nat
  | 0 => 0
  | k + 1 => cntTo u l k + (if hasI u (bucketOf (sAt l k)) = true then 1 else 0)
theorem cntTo_le (u : List Int) (l : List ByteArray) (k : Nat) : cntTo u l k ≤ k := by
  induction k with
  | zero => exact Nat.le_refl _
  | succ k ih => unfold cntTo; split <;> omega
theorem cntTo_left (u : List Int) (a b : List ByteArray) (k : Nat) (h : k ≤ a.length) : cntTo u (a ++ b) k = cntTo u a k := by
  induction k with
  | zero => rfl
  | succ k ih =>
    have e : sAt (a ++ b) k = sAt a k := by
      unfold sAt
      rw [List.getD_eq_getElem?_getD, List.getD_eq_getElem?_getD, List.getElem?_append_left (by omega)]
    unfold cntTo; rw [ih (by omega), e]
theorem cntTo_right (u : List Int) (a b : List ByteArray) (k : Nat) : cntTo u (a ++ b) (a.length + k) = cntTo u a a.length + cntTo u b k := by
  induction k with
  | zero => rw [Nat.add_zero, cntTo_left u a b _ (Nat.le_refl _)]; rfl
  | succ k ih =>
    have e : sAt (a ++ b) (a.length + k) = sAt b k := by
      unfold sAt
      rw [List.getD_eq_getElem?_getD, List.getD_eq_getElem?_getD, List.getElem?_append_right (by omega)]
      congr 2; omega
    rw [← Nat.add_assoc]
    show cntTo u (a ++ b) (a.length + k) + _ = cntTo u a a.length + (cntTo u b k + _)
    rw [ih, e]; omega
/-! ### what Recon answers -/
def reconL (a b : List ByteArray) : List ByteArray := if (setOkB a && setOkB b) = true then txs (putsB ((a ++ b).map toL)) else []
def reconN (a b : List ByteArray) : Int := if (setOkB a && setOkB b) = true then ((cntTo (unlL a b) a a.length + cntTo (unlL a b) b b.length : Nat) : Int) else 0
theorem reconL_sz (a b : List ByteArray) {m : Nat} (h : strsSz a + strsSz b ≤ m) : strsSz (reconL a b) ≤ m := by
  unfold reconL
  split
  · refine Nat.le_trans (putsB_sz _) ?_
    rw [txs_toL]
    unfold strsSz at h ⊢
    simp at h ⊢
    omega
  · simp [strsSz]
/-- the answer is texts in memory of the call's own, and a number -/
def ReconR (l : List ByteArray) (q : Int) (w : World) (e : Ending) (w' : World) : Prop :=
  ∃ A n c, e = .returned (.tuple #[.slice A n c, .int .i64 q]) ∧ StrsIn w.heap.size w'.heap.size w' A n c l ∧ Below w.heap.size w w'
end Go.Proofs.YtfbfomlgjghcmaaDoor
