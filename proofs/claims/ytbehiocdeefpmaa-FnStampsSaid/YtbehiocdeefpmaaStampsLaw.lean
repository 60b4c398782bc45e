/- The plain law of FnStamps: encodings keep the order and are read back; a new stamp is above the last one and the one that was heard. -/
import Derived.Test.YtbehiocdeefpmaaShowStamp
import Derived.Test.YtbehiocdeefpmaaHear
namespace Go.Proofs.Ytbehiocdeefpmaa

/-- bytes as a number, the greatest first -/
def vb : List UInt8 → Nat
  | [] => 0
  | x :: l => x.toNat * 256 ^ l.length + vb l
theorem vb_lt (l : List UInt8) : vb l < 256 ^ l.length := by
  induction l with
  | nil => simp [vb]
  | cons x l ih =>
    have hx := x.toNat_lt
    rw [vb, List.length_cons, Nat.pow_succ]
    have : x.toNat * 256 ^ l.length ≤ 255 * 256 ^ l.length := Nat.mul_le_mul_right _ (by omega)
    omega
theorem vb_app (u v : List UInt8) : vb (u ++ v) = vb u * 256 ^ v.length + vb v := by
  induction u with
  | nil => simp [vb]
  | cons x u ih =>
    rw [List.cons_append, vb, vb, ih, List.length_append, Nat.pow_add, Nat.add_mul, Nat.mul_assoc]
    omega
theorem less_vb : ∀ (u v : List UInt8), u.length = v.length → Op.bytesLess u v = decide (vb u < vb v)
  | [], [], _ => by simp [Op.bytesLess]
  | [], _ :: _, h => by simp at h
  | _ :: _, [], h => by simp at h
  | x :: u, y :: v, h => by
    have hl : u.length = v.length := by simpa using h
    have ih := less_vb u v hl
    have h1 := vb_lt u
    have h2 := vb_lt v
    rw [hl] at h1
    rw [Op.bytesLess, ih, vb, vb, hl]
    generalize 256 ^ v.length = m at *
    rw [Bool.eq_iff_iff]
    simp only [Bool.or_eq_true, Bool.and_eq_true, decide_eq_true_eq, beq_iff_eq, UInt8.lt_iff_toNat_lt]
    constructor
    · rintro (hlt | ⟨rfl, hlt⟩)
      · have : (x.toNat + 1) * m ≤ y.toNat * m := Nat.mul_le_mul_right _ hlt
        rw [Nat.add_mul] at this; omega
      · omega
    · intro hlt
      rcases Nat.lt_trichotomy x.toNat y.toNat with h3 | h3 | h3
      · exact .inl h3
      · exact .inr ⟨UInt8.toNat_inj.1 h3, by rw [h3] at hlt; omega⟩
      · have : (y.toNat + 1) * m ≤ x.toNat * m := Nat.mul_le_mul_right _ h3
        rw [Nat.add_mul] at this; omega
theorem vb_fixL (n k : Nat) : vb (fixL n k) = n % 256 ^ k := by
  induction k with
  | zero => simp [fixL, vb, Nat.mod_one]
  | succ k ih =>
    rw [fixL, vb, fixL_length, ih, Nat.mod_pow_succ]
    have : (UInt8.ofNat (dv n k % 256)).toNat = n / 256 ^ k % 256 := by
      rw [UInt8.toNat_ofNat']; unfold dv; omega
    rw [this, Nat.mul_comm, Nat.add_comm]
theorem fixS_list {n w : Nat} (h1 : 1 ≤ w) (h7 : w ≤ 7) (h : n < 256 ^ w) : (fixS n w).toList = fixL n w := by
  have hok : fixOk n w = true := by
    unfold fixOk inB pw
    simp only [Int.toNat_natCast, Bool.and_eq_true, decide_eq_true_eq]
    exact ⟨⟨⟨by omega, by omega⟩, by omega⟩, Int.ofNat_lt.2 h⟩
  unfold fixS
  rw [if_pos hok, Lib.toList_data]
  simp
theorem app_toList (a b : ByteArray) : (a ++ b).toList = a.toList ++ b.toList := by rw [Lib.toList_data, Lib.toList_data, Lib.toList_data]; simp [ByteArray.data_append]
/-- the encoding's bytes -/
theorem show_list {a b c : Nat} (h : stampOkB a b c = true) : (showStamp a b c).toList = fixL a 4 ++ fixL b 2 ++ fixL c 1 := by
  have hb := stampOkB_iff.1 h
  unfold showStamp
  rw [if_pos h, app_toList, app_toList]
  have e4 := fixS_list (n := a) (w := 4) (by omega) (by omega) (by omega)
  have e2 := fixS_list (n := b) (w := 2) (by omega) (by omega) (by omega)
  have e1 := fixS_list (n := c) (w := 1) (by omega) (by omega) (by omega)
  exact congr (congrArg _ (congr (congrArg _ e4) e2)) e1
theorem stamp_nat {a b c : Int} (h : stampOkB a b c = true) : ∃ a' b' c' : Nat, a = (a' : Int) ∧ b = (b' : Int) ∧ c = (c' : Int) ∧ a' ≤ 1000000 ∧ b' ≤ 999 ∧ c' ≤ 2 := by
  have hb := stampOkB_iff.1 h
  exact ⟨a.toNat, b.toNat, c.toNat, by omega, by omega, by omega, by omega, by omega, by omega⟩
theorem show_less {a b c x y z : Int} (h : stampOkB a b c = true) (h' : stampOkB x y z = true) : Op.bytesLess (showStamp a b c).toList (showStamp x y z).toList = stampLessB a b c x y z := by
  obtain ⟨a, b, c, rfl, rfl, rfl, ha, hb, hc⟩ := stamp_nat h
  obtain ⟨x, y, z, rfl, rfl, rfl, hx, hy, hz⟩ := stamp_nat h'
  rw [show_list h, show_list h', less_vb _ _ (by simp [fixL_length])]
  simp only [vb_app, vb_fixL, fixL_length]
  rw [Nat.mod_eq_of_lt (show a < 256 ^ 4 by omega), Nat.mod_eq_of_lt (show b < 256 ^ 2 by omega), Nat.mod_eq_of_lt (show c < 256 ^ 1 by omega), Nat.mod_eq_of_lt (show x < 256 ^ 4 by omega), Nat.mod_eq_of_lt (show y < 256 ^ 2 by omega), Nat.mod_eq_of_lt (show z < 256 ^ 1 by omega)]
  unfold stampLessB
  by_cases e1 : a = x
  · subst e1
    by_cases e2 : b = y
    · subst e2; simp
    · have : ¬ (b : Int) = (y : Int) := by omega
      simp only [ne_eq, not_true_eq_false, if_false, this, not_false_eq_true, if_true]
      rw [Bool.eq_iff_iff, decide_eq_true_eq, decide_eq_true_eq]; omega
  · have : ¬ (a : Int) = (x : Int) := by omega
    simp only [ne_eq, this, not_false_eq_true, if_true]
    rw [Bool.eq_iff_iff, decide_eq_true_eq, decide_eq_true_eq]; omega

theorem rdN_vb (s : ByteArray) : ∀ k, k ≤ s.size → rdN s k = vb (s.data.toList.take k)
  | 0, _ => by simp [rdN, vb]
  | k + 1, h => by
    have hk : k < s.data.toList.length := by rw [Array.length_toList]; exact h
    rw [rdN, rdN_vb s k (by omega), List.take_succ_eq_append_getElem hk, vb_app]
    have : bAt s k = (s.data.toList[k]).toNat := by rw [← bAt_get (show k < s.size from h)]; rfl
    rw [this]; simp [vb]
theorem show_data {a b c : Nat} (h : stampOkB a b c = true) : (showStamp a b c).data.toList = fixL a 4 ++ fixL b 2 ++ fixL c 1 := by rw [← Lib.toList_data]; exact show_list h
theorem ext_data (s : ByteArray) (i j : Nat) : (s.extract i j).data.toList = (s.data.toList.take j).drop i := by
  rw [ByteArray.data_extract, Array.toList_extract]
  simp [List.extract_eq_take_drop, List.drop_take]
theorem size_list (s : ByteArray) : s.size = s.data.toList.length := by rw [Array.length_toList]; rfl
theorem read_show {a b c : Int} (h : stampOkB a b c = true) : readStamp (showStamp a b c) = ((a, b, c), true) := by
  obtain ⟨a, b, c, rfl, rfl, rfl, ha, hb, hc⟩ := stamp_nat h
  have hd := show_data h
  generalize showStamp a b c = s at *
  have hs : s.size = 7 := by rw [size_list, hd]; simp [fixL_length]
  have e1 : (s.extract 0 4).data.toList = fixL a 4 := by rw [ext_data, hd]; simp [fixL]
  have e2 : (s.extract 4 6).data.toList = fixL b 2 := by rw [ext_data, hd]; simp [fixL]
  have z1 : (s.extract 0 4).size = 4 := by rw [size_list, e1, fixL_length]
  have z2 : (s.extract 4 6).size = 2 := by rw [size_list, e2, fixL_length]
  refine readStamp_yes hs ?_ ?_ ?_ h
  · have hok : rdOk (s.extract 0 4) 4 = true := by simp [rdOk, inB, z1]
    unfold rdF; rw [if_pos hok]
    show ((rdN (s.extract 0 4) 4 : Nat) : Int) = a
    rw [rdN_vb _ 4 (by omega), e1, List.take_of_length_le (by simp [fixL_length]), vb_fixL, Nat.mod_eq_of_lt (by omega)]
  · have hok : rdOk (s.extract 4 6) 2 = true := by simp [rdOk, inB, z2]
    unfold rdF; rw [if_pos hok]
    show ((rdN (s.extract 4 6) 2 : Nat) : Int) = b
    rw [rdN_vb _ 2 (by omega), e2, List.take_of_length_le (by simp [fixL_length]), vb_fixL, Nat.mod_eq_of_lt (by omega)]
  · have h6 : 6 < s.size := by omega
    have hl : 6 < s.data.toList.length := by rw [← size_list]; exact h6
    have e6 : bAt s 6 = (s.data.toList[6]).toNat := by rw [← bAt_get h6]; rfl
    have e7 : s.data.toList[6]? = some (UInt8.ofNat (dv c 0 % 256)) := by rw [hd]; simp [fixL]
    rw [List.getElem?_eq_getElem hl] at e7
    rw [e6, Option.some.inj e7, dv_zero, UInt8.toNat_ofNat']
    omega

theorem less_iff {a b c x y z : Int} : stampLessB a b c x y z = true ↔ a < x ∨ (a = x ∧ (b < y ∨ (b = y ∧ c < z))) := by
  unfold stampLessB
  by_cases e1 : a = x
  · by_cases e2 : b = y
    · simp [e1, e2]
    · simp [e1, e2]
  · simp [e1]
theorem show_size (a b c : Int) : (showStamp a b c).size ≤ 21 := by
  unfold showStamp
  split
  · have h1 := fixS_size a 4; have h2 := fixS_size b 2; have h3 := fixS_size c 1
    rw [ByteArray.size_append, ByteArray.size_append]; omega
  · simp
theorem now_ok {a b c wall : Int} (h : (stampNow a b c wall).2 = true) : ∃ p q, stampNow a b c wall = ((p, q, c), true) ∧ stampOkB p q c = true ∧ stampLessB a b c p q c = true ∧ wall ≤ p ∧ 0 ≤ wall ∧ (p = wall ∨ p = a ∨ p = a + 1) ∧ stampOkB a b c = true := by
  unfold stampNow at h ⊢
  split at h
  · rename_i hc
    rw [if_pos hc]
    have h1 := stampOkB_iff.1 hc.1
    have h2 := inB_iff.1 hc.2.1
    refine ⟨_, _, rfl, hc.2.2, ?_, ?_, h2.1, ?_, hc.1⟩
    · unfold stampNext stampLessB
      by_cases e1 : a < wall
      · rw [if_pos e1]; simp only; rw [if_pos (by omega)]; simpa using e1
      · rw [if_neg e1]
        by_cases e2 : b = 999
        · rw [if_pos e2]; simp only; rw [if_pos (by omega)]; simp; omega
        · rw [if_neg e2]; simp only; rw [if_neg (by simp), if_pos (by omega)]; simp; omega
    · unfold stampNext
      by_cases e1 : a < wall
      · rw [if_pos e1]; simp
      · rw [if_neg e1]; split <;> simp <;> omega
    · unfold stampNext
      by_cases e1 : a < wall
      · rw [if_pos e1]; simp
      · rw [if_neg e1]; split <;> simp
  · simp at h
/-- what a stamp that was heard brings -/
theorem hear_ok {a b c x y z wall p q r : Int} (h : stampHear a b c x y z wall = ((p, q, r), true)) :
    r = c ∧ stampOkB p q r = true ∧ stampOkB a b c = true ∧ stampOkB x y z = true ∧ stampLessB a b c p q r = true ∧ stampLessB x y c p q r = true ∧ wall ≤ p ∧ 0 ≤ wall ∧ wall ≤ 1000000 ∧ p ≤ a + x + wall + 1 := by
  unfold stampHear at h
  split at h
  · rename_i hc
    have h1 := stampOkB_iff.1 hc.1
    have h2 := stampOkB_iff.1 hc.2
    split at h
    · rename_i h3
      split at h
      · rename_i h4
        obtain ⟨p', q', e, k1, k2, k3, k4, k5, k6⟩ := now_ok h4
        rw [e] at h
        simp at h
        obtain ⟨rfl, rfl, rfl⟩ := h
        have h5 := stampOkB_iff.1 k1
        refine ⟨rfl, k1, hc.1, hc.2, ?_, k2, k3, k4, ?_, by omega⟩
        · rw [less_iff] at k2 ⊢; omega
        · omega
      · simp at h
    · rename_i h3
      split at h
      · rename_i h4
        obtain ⟨p', q', e, k1, k2, k3, k4, k5, k6⟩ := now_ok h4
        rw [e] at h
        simp at h
        obtain ⟨rfl, rfl, rfl⟩ := h
        have h5 := stampOkB_iff.1 k1
        refine ⟨rfl, k1, hc.1, hc.2, k2, ?_, k3, k4, ?_, by omega⟩
        · rw [less_iff] at k2 ⊢; omega
        · omega
      · simp at h
  · simp at h
theorem hear_no {a b c x y z wall : Int} {s : Int × Int × Int} (h : stampHear a b c x y z wall = (s, false)) : s = (a, b, c) := by
  unfold stampHear at h
  split at h
  · split at h <;> split at h
    · rename_i h4
      obtain ⟨p', q', e, _⟩ := now_ok h4
      rw [e] at h; simp at h
    · simpa using h.symm
    · rename_i h4
      obtain ⟨p', q', e, _⟩ := now_ok h4
      rw [e] at h; simp at h
    · simpa using h.symm
  · simpa using h.symm
end Go.Proofs.Ytbehiocdeefpmaa
