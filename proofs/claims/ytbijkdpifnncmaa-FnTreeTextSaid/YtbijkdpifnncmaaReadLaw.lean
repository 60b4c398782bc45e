/- Plain laws of reading: a text that is put together of pieces is cut again. -/
import Derived.Test.YtbijkdpifnncmaaVarLaw
import Derived.Test.YtbijkdpifnncmaaTreeText
namespace Go.Proofs.Ytbijkdpifnncmaa

theorem ext_left (a b : ByteArray) : (a ++ b).extract 0 a.size = a := by
  apply ByteArray.ext
  rw [ByteArray.data_extract, ByteArray.data_append]
  show (a.data ++ b.data).extract 0 a.data.size = a.data
  simp
theorem ext_right (a b : ByteArray) : (a ++ b).extract a.size (a ++ b).size = b := by
  rw [show (a ++ b).size = a.size + b.size from ByteArray.size_append, ByteArray.extract_append_eq_right rfl (by omega)]
theorem bAt_left {a b : ByteArray} {i : Nat} (h : i < a.size) : bAt (a ++ b) i = bAt a i := by
  unfold bAt
  rw [dif_pos (by rw [ByteArray.size_append]; omega), dif_pos h, ByteArray.getElem_append_left h]
theorem varS_sz (n : Nat) : (varS n).size = (varL n).length := by show (varL n).toArray.size = _; simp
theorem begins_var (n : Nat) (t : ByteArray) : Begins (varS n ++ t) (varL n) := by
  refine ⟨by rw [ByteArray.size_append, varS_sz]; omega, fun i hi => ?_⟩
  rw [bAt_left (by rw [varS_sz]; exact hi)]
  unfold bAt
  rw [dif_pos (by rw [varS_sz]; exact hi)]
  rfl
theorem rvF_var {n : Nat} (hn : n ≤ 562949953421311) (t : ByteArray) : rvF (varS n ++ t) = (n, (varS n).size) := by
  rw [rvF_yes hn (begins_var n t), varS_sz]
theorem varS_pos (n : Nat) : 0 < (varS n).size := by rw [varS_sz]; exact List.length_pos_iff.2 (varL_ne n)

/-- texts, one behind the other -/
def chL : List ByteArray → ByteArray
  | [] => .empty
  | c :: cs => c ++ chL cs
theorem chL_app (a b : List ByteArray) : chL (a ++ b) = chL a ++ chL b := by
  induction a with
  | nil => simp [chL]
  | cons x a ih => simp only [List.cons_append, chL, ih, ByteArray.append_assoc]
theorem joinTo_chL (l : List ByteArray) : ∀ k, k ≤ l.length → joinTo l k = chL (l.take k)
  | 0, _ => by simp [joinTo, chL]
  | k + 1, h => by
    have e : sAt l k = l[k]'(by omega) := by simp [sAt, show k < l.length by omega]
    rw [List.take_succ_eq_append_getElem (by omega), chL_app, ← joinTo_chL l k (by omega), joinTo, e]
    simp [chL]
theorem joinS_chL (l : List ByteArray) : joinS l = chL l := by unfold joinS; rw [joinTo_chL l _ (Nat.le_refl _), List.take_length]
/-- the text of entries, from the first on -/
def restL : List Ent → ByteArray
  | [] => .empty
  | e :: l => varS e.p.size ++ (e.p ++ (varS e.ch.length ++ (chL e.ch ++ restL l)))
theorem restL_app (a b : List Ent) : restL (a ++ b) = restL a ++ restL b := by
  induction a with
  | nil => simp [restL]
  | cons x a ih => simp only [List.cons_append, restL, ih, ByteArray.append_assoc]
theorem textTo_restL (l : List Ent) : ∀ k, k ≤ l.length → textTo l k = restL (l.take k)
  | 0, _ => by simp [textTo, restL]
  | k + 1, h => by
    have e : enAt l k = l[k]'(by omega) := enAt_get (by omega)
    rw [List.take_succ_eq_append_getElem (by omega), restL_app, ← textTo_restL l k (by omega), textTo, e, joinS_chL]
    simp only [restL, ByteArray.append_assoc, ByteArray.append_empty]
theorem treeText_restL {l : List Ent} (h : treeOkB l = true) : treeText l = restL l := by
  unfold treeText
  rw [if_pos h, textTo_restL l _ (Nat.le_refl _), List.take_length]
theorem restL_drop {l : List Ent} {k : Nat} (h : k < l.length) : restL (l.drop k) = varS (enAt l k).p.size ++ ((enAt l k).p ++ (varS (enAt l k).ch.length ++ (chL (enAt l k).ch ++ restL (l.drop (k + 1))))) := by
  rw [enAt_get h, List.drop_eq_getElem_cons h]
  rfl
theorem chL_drop {l : List ByteArray} {k : Nat} (h : k < l.length) : chL (l.drop k) = sAt l k ++ chL (l.drop (k + 1)) := by
  rw [show sAt l k = l[k] by simp [sAt, h], List.drop_eq_getElem_cons h]
  rfl
end Go.Proofs.Ytbijkdpifnncmaa
