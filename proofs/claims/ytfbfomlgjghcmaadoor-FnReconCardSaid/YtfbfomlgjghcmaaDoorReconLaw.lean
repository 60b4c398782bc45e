/- Plain laws behind FnRecon: a union of sets is a set; a set joined with itself is itself; what one lacks. -/
import Derived.Test.YtfbfomlgjghcmaaDoorReconL
namespace Go.Proofs.YtfbfomlgjghcmaaDoor
open Go.RowKit

theorem toL_len (s : ByteArray) : (toL s).length = s.size := by unfold toL; rw [Array.length_toList]; rfl
theorem setOk_sizes {l : List ByteArray} (h : setOkB l = true) : ∀ x ∈ l, x.size = 8 := fun x hx => by
  obtain ⟨i, hi, rfl⟩ := List.mem_iff_getElem.1 hx
  have := setOk_get h hi
  simp only [setAt, Bool.and_eq_true, decide_eq_true_eq] at this
  rw [← sAt_get hi]
  exact this.1
theorem setOk_txs {L : List By} (hr : L.Pairwise ltB) (h8 : ∀ x ∈ L, x.length = 8) : setOkB (txs L) = true := by
  unfold setOkB
  rw [List.all_eq_true]
  intro i hi
  have hi' : i < L.length := by have := List.mem_range.1 hi; rwa [txs_len] at this
  simp only [setAt, Bool.and_eq_true, Bool.or_eq_true, decide_eq_true_eq]
  refine ⟨?_, ?_⟩
  · rw [txs_at hi']
    have := h8 _ (List.getElem_mem hi')
    show (L[i]).toArray.size = 8
    simpa using this
  · by_cases h0 : i = 0
    · exact .inl h0
    · refine .inr ?_
      rw [txs_at hi', txs_at (show i - 1 < L.length by omega), ofL_list, ofL_list]
      exact List.pairwise_iff_getElem.1 hr (i - 1) i (by omega) hi' (by omega)
theorem recon_ok {a b : List ByteArray} (ha : setOkB a = true) (hb : setOkB b = true) : setOkB (reconL a b) = true := by
  unfold reconL
  rw [if_pos (by rw [ha, hb]; rfl)]
  refine setOk_txs (puts_aux _ [] List.Pairwise.nil).1 (fun x hx => ?_)
  have hx' := putsB_mem.1 hx
  obtain ⟨s, hs, rfl⟩ := List.mem_map.1 hx'
  rw [toL_len]
  rcases List.mem_append.1 hs with h | h
  · exact setOk_sizes ha _ h
  · exact setOk_sizes hb _ h
theorem recon_self {x : List ByteArray} (h : setOkB x = true) : reconL x x = x := by
  unfold reconL
  rw [if_pos (by rw [h]; rfl)]
  have e : putsB ((x ++ x).map toL) = x.map toL := risingB_ext (puts_aux _ [] List.Pairwise.nil).1 (setOk_rising h) (fun y => by
    rw [putsB_mem]
    simp)
  rw [e, txs_toL]
theorem unlTo_self (x : List ByteArray) (k : Nat) : unlTo x x k = [] := by
  induction k with
  | zero => rfl
  | succ k ih => unfold unlTo; rw [if_pos rfl, ih]
theorem unl_self (x : List ByteArray) : unlL x x = [] := unlTo_self _ _
theorem cntTo_nil (l : List ByteArray) (k : Nat) : cntTo [] l k = 0 := by
  induction k with
  | zero => rfl
  | succ k ih => unfold cntTo; rw [ih]; simp [hasI]
theorem reconN_self (x : List ByteArray) : reconN x x = 0 := by
  unfold reconN
  rw [unl_self, cntTo_nil]
  split <;> rfl
theorem recon_len {a b : List ByteArray} (ha : setOkB a = true) (hb : setOkB b = true) : (reconL a b).length = a.length + (lacks a b).length := by
  unfold reconL
  rw [if_pos (by rw [ha, hb]; rfl), ← recon_sort ha hb, txs_len, sortB_len]
  simp
theorem lacks_has {a b : List ByteArray} (ha : setOkB a = true) (hb : setOkB b = true) {i : Nat} (hi : i < (lacks a b).length) :
    hasS a (sAt (lacks a b) i) = false ∧ hasS b (sAt (lacks a b) i) = true ∧ hasS (reconL a b) (sAt (lacks a b) i) = true := by
  have hm : sAt (lacks a b) i ∈ lacks a b := by rw [sAt_get hi]; exact List.getElem_mem hi
  generalize sAt (lacks a b) i = x at *
  have hm2 := hm
  rw [lacks_all ha hb] at hm2
  obtain ⟨h1, h2⟩ := List.mem_filter.1 hm2
  refine ⟨by simpa using h2, (hasS_mem _ _).2 h1, (hasS_mem _ _).2 ?_⟩
  unfold reconL
  rw [if_pos (by rw [ha, hb]; rfl), ← recon_sort ha hb]
  exact List.mem_map.2 ⟨toL x, sortB_mem.2 (List.mem_map.2 ⟨_, List.mem_append_right _ hm, rfl⟩), ofL_toL _⟩
theorem recon_no {a b : List ByteArray} (h : ¬ (setOkB a = true ∧ setOkB b = true)) : reconL a b = [] ∧ reconN a b = 0 := by
  have : (setOkB a && setOkB b) = false := by
    rw [Bool.eq_false_iff]; intro hh; exact h (by simpa using hh)
  simp [reconL, reconN, this]
end Go.Proofs.YtfbfomlgjghcmaaDoor
