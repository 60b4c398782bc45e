/- Numbers as bytes (varints): read back from a text that begins with them, and nothing else is one. -/
import Derived.Test.YtbijkdpifnncmaaVar
namespace Go.Proofs.Ytbijkdpifnncmaa

def bVal (s : ByteArray) : Nat → Nat
  | 0 => 0
  | k + 1 => bVal s k + bAt s k % 128 * 128 ^ k
theorem bVal_lt (s : ByteArray) (k : Nat) : bVal s k < 128 ^ k := by
  induction k with
  | zero => simp [bVal]
  | succ k ih =>
    unfold bVal
    have h : bAt s k % 128 * 128 ^ k ≤ 127 * 128 ^ k := Nat.mul_le_mul_right _ (by omega)
    rw [Nat.pow_succ]
    omega
/-- the value of a list of bytes, the least first -/
def lVal : List UInt8 → Nat
  | [] => 0
  | b :: l => b.toNat % 128 + 128 * lVal l
theorem varL_ne (n : Nat) : varL n ≠ [] := by
  by_cases h : n < 128
  · rw [varL_small h]; simp
  · rw [varL_big h]; simp
theorem varL_val (n : Nat) : lVal (varL n) = n := by
  induction n using Nat.strongRecOn with
  | _ n ih =>
    by_cases h : n < 128
    · rw [varL_small h]; simp [lVal]; omega
    · rw [varL_big h]
      show (UInt8.ofNat (128 + n % 128)).toNat % 128 + 128 * lVal (varL (n / 128)) = n
      rw [ih (n / 128) (by omega)]
      simp; omega
theorem varL_cons {n : Nat} {b : UInt8} {l : List UInt8} (h : varL n = b :: l) : (l = [] ∧ b.toNat < 128) ∨ (l = varL (n / 128) ∧ 128 ≤ b.toNat ∧ 128 ≤ n) := by
  by_cases hn : n < 128
  · rw [varL_small hn] at h
    injection h with h1 h2
    subst h1
    exact .inl ⟨h2.symm, by simp; omega⟩
  · rw [varL_big hn] at h
    injection h with h1 h2
    subst h1
    exact .inr ⟨h2.symm, by simp; omega, by omega⟩
/-- but the last, all bytes are from 128 on -/
theorem varL_hi (n : Nat) : ∀ i, i + 1 < (varL n).length → ∃ b, (varL n)[i]? = some b ∧ 128 ≤ b.toNat := by
  induction n using Nat.strongRecOn with
  | _ n ih =>
    intro i hi
    cases hl : varL n with
    | nil => exact absurd hl (varL_ne n)
    | cons b l =>
      rcases varL_cons hl with ⟨rfl, _⟩ | ⟨rfl, hb, hn⟩
      · rw [hl] at hi; simp at hi
      · cases i with
        | zero => exact ⟨b, rfl, hb⟩
        | succ i =>
          rw [hl] at hi
          simp only [List.length_cons] at hi
          obtain ⟨c, h1, h2⟩ := ih (n / 128) (by omega) i (by omega)
          exact ⟨c, by simpa using h1, h2⟩
theorem varL_lo (n : Nat) : ∃ b, (varL n)[(varL n).length - 1]? = some b ∧ b.toNat < 128 := by
  induction n using Nat.strongRecOn with
  | _ n ih =>
    cases hl : varL n with
    | nil => exact absurd hl (varL_ne n)
    | cons b l =>
      rcases varL_cons hl with ⟨rfl, hb⟩ | ⟨rfl, hb, hn⟩
      · exact ⟨b, rfl, hb⟩
      · obtain ⟨c, h1, h2⟩ := ih (n / 128) (by omega)
        refine ⟨c, ?_, h2⟩
        have hp : 0 < (varL (n / 128)).length := List.length_pos_iff.2 (varL_ne _)
        rw [List.length_cons, show (varL (n / 128)).length + 1 - 1 = ((varL (n / 128)).length - 1) + 1 by omega, List.getElem?_cons_succ]
        exact h1
/-- at most seven bytes, up to MaxVar -/
theorem varL_lenk {n : Nat} (k : Nat) (h : n < 128 ^ (k + 1)) : (varL n).length ≤ k + 1 := by
  induction k generalizing n with
  | zero => rw [varL_small (by simpa using h)]; simp
  | succ k ih =>
    by_cases hn : n < 128
    · rw [varL_small hn]; simp
    · rw [varL_big hn, List.length_cons]
      have : n / 128 < 128 ^ (k + 1) := by
        rw [Nat.div_lt_iff_lt_mul (by decide)]
        rwa [Nat.pow_succ] at h
      have := ih this
      omega
theorem varL_len7 {n : Nat} (h : n ≤ 562949953421311) : (varL n).length ≤ 7 := varL_lenk 6 (by omega)

/-! ### a text that begins with a varint -/
/-- the first k bytes of s are those of l -/
def Begins (s : ByteArray) (l : List UInt8) : Prop := l.length ≤ s.size ∧ ∀ i (h : i < l.length), bAt s i = l[i].toNat
theorem lVal_bVal {s : ByteArray} : ∀ {l : List UInt8}, Begins s l → bVal s l.length = lVal l := by
  -- by the sum from the least on
  have key : ∀ (l : List UInt8) (k : Nat), (∀ i (h : i < l.length), bAt s (k + i) = l[i].toNat) → bVal s (k + l.length) = bVal s k + 128 ^ k * lVal l := by
    intro l
    induction l with
    | nil => intro k _; simp [lVal]
    | cons b l ih =>
      intro k h
      have h0 := h 0 (by simp)
      have h1 := ih (k + 1) (fun i hi => by have := h (i + 1) (by simpa using hi); simpa [Nat.add_assoc, Nat.add_comm 1 i] using this)
      rw [List.length_cons, show k + (l.length + 1) = k + 1 + l.length by omega, h1]
      simp only [bVal, lVal]
      simp only [Nat.add_zero, List.getElem_cons_zero] at h0
      rw [h0, Nat.pow_succ, Nat.mul_add, ← Nat.mul_assoc, Nat.mul_comm (b.toNat % 128)]
      omega
  intro l hb
  have := key l 0 (fun i hi => by rw [Nat.zero_add]; exact hb.2 i hi)
  simpa [bVal] using this
theorem begins_val {s : ByteArray} {n : Nat} (h : Begins s (varL n)) : bVal s (varL n).length = n := by rw [lVal_bVal h, varL_val]
theorem begins_hi {s : ByteArray} {n i : Nat} (h : Begins s (varL n)) (hi : i + 1 < (varL n).length) : 128 ≤ bAt s i := by
  obtain ⟨b, h1, h2⟩ := varL_hi n i hi
  obtain ⟨hl, h3⟩ := List.getElem?_eq_some_iff.1 h1
  rw [h.2 i hl, h3]; exact h2
theorem begins_lo {s : ByteArray} {n : Nat} (h : Begins s (varL n)) : bAt s ((varL n).length - 1) < 128 := by
  obtain ⟨b, h1, h2⟩ := varL_lo n
  obtain ⟨hl, h3⟩ := List.getElem?_eq_some_iff.1 h1
  rw [h.2 _ hl, h3]; exact h2
theorem begins_uniq {s : ByteArray} {n m : Nat} (h : Begins s (varL n)) (k : Begins s (varL m)) : n = m := by
  have h1 : (varL n).length = (varL m).length := by
    rcases Nat.lt_trichotomy (varL n).length (varL m).length with hlt | he | hgt
    · have hp : 0 < (varL n).length := List.length_pos_iff.2 (varL_ne _)
      have := begins_hi k (i := (varL n).length - 1) (by omega)
      have := begins_lo h
      omega
    · exact he
    · have hp : 0 < (varL m).length := List.length_pos_iff.2 (varL_ne _)
      have := begins_hi h (i := (varL m).length - 1) (by omega)
      have := begins_lo k
      omega
  rw [← begins_val h, ← begins_val k, h1]

open Classical in
/-- the varint that a text begins with, and its size; (0, 0) where there is none -/
noncomputable def rvF (s : ByteArray) : Nat × Nat := if h : ∃ n, n ≤ 562949953421311 ∧ Begins s (varL n) then (Classical.choose h, (varL (Classical.choose h)).length) else (0, 0)
theorem rvF_yes {s : ByteArray} {n : Nat} (hn : n ≤ 562949953421311) (h : Begins s (varL n)) : rvF s = (n, (varL n).length) := by
  have hex : ∃ n, n ≤ 562949953421311 ∧ Begins s (varL n) := ⟨n, hn, h⟩
  unfold rvF
  rw [dif_pos hex]
  rw [begins_uniq (Classical.choose_spec hex).2 h]
theorem rvF_no {s : ByteArray} (h : ∀ n, n ≤ 562949953421311 → ¬ Begins s (varL n)) : rvF s = (0, 0) := by
  unfold rvF
  rw [dif_neg (fun ⟨n, h1, h2⟩ => h n h1 h2)]
theorem rvF_size (s : ByteArray) : (rvF s).2 ≤ 7 ∧ (rvF s).2 ≤ s.size ∧ (rvF s).1 ≤ 562949953421311 := by
  by_cases h : ∃ n, n ≤ 562949953421311 ∧ Begins s (varL n)
  · obtain ⟨n, hn, hb⟩ := h
    rw [rvF_yes hn hb]
    exact ⟨varL_len7 hn, hb.1, hn⟩
  · rw [rvF_no (fun n h1 h2 => h ⟨n, h1, h2⟩)]
    exact ⟨by omega, by omega, by omega⟩
/-- the check by the encoder -/
theorem begins_of_extract {s : ByteArray} {n k : Nat} (hk : k ≤ s.size) (h : varS n = s.extract 0 k) : Begins s (varL n) ∧ (varL n).length = k := by
  have hl : (varL n).length = k := by
    have := congrArg ByteArray.size h
    rw [ByteArray.size_extract] at this
    have e : (varS n).size = (varL n).length := by show (varL n).toArray.size = _; simp
    omega
  refine ⟨⟨by omega, fun i hi => ?_⟩, hl⟩
  have e1 : bAt (varS n) i = (varL n)[i].toNat := by
    unfold bAt
    rw [dif_pos (by show i < (varL n).toArray.size; simpa using hi)]
    rfl
  have e2 : bAt (s.extract 0 k) i = bAt s i := by
    unfold bAt
    rw [dif_pos (by rw [ByteArray.size_extract]; omega), dif_pos (by omega), ByteArray.getElem_extract]
    simp
  rw [← e2, ← h, e1]
theorem extract_of_begins {s : ByteArray} {n : Nat} (h : Begins s (varL n)) : varS n = s.extract 0 (varL n).length := by
  apply str_ext
  rw [Lib.toList_data, Lib.toList_data]
  apply List.ext_getElem?
  intro i
  by_cases hi : i < (varL n).length
  · have e2 : bAt (s.extract 0 (varL n).length) i = bAt s i := by
      unfold bAt
      rw [dif_pos (by rw [ByteArray.size_extract]; have := h.1; omega), dif_pos (by have := h.1; omega), ByteArray.getElem_extract]
      simp
    have hs : i < (s.extract 0 (varL n).length).data.toList.length := by
      rw [Array.length_toList]
      show i < (s.extract 0 (varL n).length).size
      rw [ByteArray.size_extract]; have := h.1; omega
    rw [List.getElem?_eq_getElem hs]
    show (varL n).toArray.toList[i]? = _
    rw [List.getElem?_eq_getElem (by simpa using hi)]
    congr 1
    apply UInt8.toNat.inj
    have h3 := h.2 i hi
    rw [← e2] at h3
    unfold bAt at h3
    rw [dif_pos (by simpa using hs)] at h3
    have h4 : (s.extract 0 (varL n).length).data.toList[i]'hs = (s.extract 0 (varL n).length)[i]'(by simpa using hs) := by rw [Array.getElem_toList]; rfl
    rw [h4]
    exact h3.symm
  · rw [List.getElem?_eq_none (by show (varL n).toArray.toList.length ≤ i; simp; omega), List.getElem?_eq_none]
    rw [Array.length_toList]
    show (s.extract 0 (varL n).length).size ≤ i
    rw [ByteArray.size_extract]; omega
end Go.Proofs.Ytbijkdpifnncmaa
