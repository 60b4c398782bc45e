/- Contracts of the laws' helpers on lists of strings of the call's own: copy, marks. -/
import Derived.Test.YtbijkdpifnncmaaRow
import Derived.Test.YtbijkdpifnncmaaLawStrs
import Derived.Laws.BytesArg
import Derived.Laws.IdiomStrings
import Derived.Deep.RegionHeld3
namespace Go.Proofs.Ytbijkdpifnncmaa
open Go.RowKit

/-- the digits of a mark -/
def mtd (k : Nat) : List UInt8 := if h : k = 0 then [] else mtd (k / 10) ++ [48 + UInt8.ofNat (k % 10)]
termination_by k
decreasing_by omega
theorem mtd_zero : mtd 0 = [] := by rw [mtd]; simp
theorem mtd_pos {k : Nat} (h : 0 < k) : mtd k = mtd (k / 10) ++ [48 + UInt8.ofNat (k % 10)] := by
  conv => lhs; rw [mtd]
  rw [dif_neg (by omega)]
theorem mtd_len (k : Nat) : (mtd k).length ≤ k := by
  induction k using Nat.strongRecOn with
  | _ k ih =>
    rcases Nat.eq_zero_or_pos k with rfl | h
    · rw [mtd_zero]; simp
    · rw [mtd_pos h]
      have := ih (k / 10) (by omega)
      simp; omega
/-- a mark -/
def mtx (k : Int) : ByteArray := ⟨(109 :: mtd k.toNat).toArray⟩

/-- marks from k0 on -/
def mkT (k0 : Int) (j : Nat) : ByteArray := mtx (k0 + j)
def marks (k0 : Int) (n : Nat) : List ByteArray := (List.range n).map (mkT k0)
theorem marks_len (k0 : Int) (n : Nat) : (marks k0 n).length = n := by simp [marks]
theorem sAt_marks {k0 : Int} {n j : Nat} (h : j < n) : sAt (marks k0 n) j = mkT k0 j := by simp [sAt, marks, h]
theorem marks_str (k0 : Int) (n : Nat) : (marks k0 n).map Value.string = (List.range n).map (fun j => Value.string (mkT k0 j)) := by simp [marks]

/-! ### the law's helpers in one shape -/
/-- texts that came in: their bounds -/
structure StrsOk (w : World) (A : Option Addr) (n : Nat) (l : List ByteArray) : Prop where
  at_ : StrsAt w A n l
  bn : n ≤ 9223372036854775807
  bs : ∀ i, i < n → (sAt l i).size ≤ 9223372036854775807
theorem StrsOk.keep {w w' : World} {A : Option Addr} {n : Nat} {l : List ByteArray} (h : StrsOk w A n l) (hb : Below w.heap.size w w') : StrsOk w' A n l := ⟨h.at_.keep hb, h.bn, h.bs⟩
/-- texts of the call's own -/
structure StrsIn (lo hi : Nat) (w : World) (A : Option Addr) (n c : Nat) (l : List ByteArray) : Prop where
  row : RowIn 9 1 lo hi w A n c (l.map Value.string)
section
variable {lo hi lo' hi' n c : Nat} {w w' : World} {A : Option Addr} {l : List ByteArray}
theorem StrsIn.keep (h : StrsIn lo hi w A n c l) (hb : Below w.heap.size w w') : StrsIn lo hi w' A n c l := ⟨h.row.keep hb⟩
theorem StrsIn.ch {S : Nat → Prop} (h : StrsIn lo hi w A n c l) (hc : Ch S w w') (hS : ∀ k, Iv lo hi k → ¬ S k) : StrsIn lo hi w' A n c l := ⟨h.row.ch hc hS⟩
theorem StrsIn.wide (h : StrsIn lo hi w A n c l) (h1 : lo' ≤ lo) (h2 : hi ≤ hi') : StrsIn lo' hi' w A n c l := ⟨h.row.wide h1 h2⟩
theorem StrsIn.at_ (h : StrsIn lo hi w A n c l) : StrsAt w A n l := StrsAt.of_row h.row
theorem StrsIn.of_own (h : w.ownsRow lo 9 1 (.slice A n c) n (l.map Value.string)) : StrsIn lo w.heap.size w A n c l := ⟨RowIn.of_own h⟩
theorem StrsIn.nil : StrsIn lo hi w none 0 0 [] := ⟨RowIn.nil⟩
end
/-- the answer is texts in memory of the call's own -/
def StrsR (l : List ByteArray) (w : World) (e : Ending) (w' : World) : Prop :=
  ∃ A n c, e = .returned (.slice A n c) ∧ StrsIn w.heap.size w'.heap.size w' A n c l ∧ Below w.heap.size w w'
theorem strs_n {w : World} {A : Option Addr} {n : Nat} {l : List ByteArray} {m : Nat} (h : StrsAt w A n l) (hs : strsSz l ≤ m) : n ≤ m := by
  have := h.1; unfold strsSz at hs; omega
def strsMk (k : Int) (l : List ByteArray) : List ByteArray := marks k l.length
def strsCnt (l : List ByteArray) : Nat := l.length
theorem strs_cnt (l : List ByteArray) : strsCnt l ≤ strsSz l := by unfold strsCnt strsSz; omega
theorem strsSz_cons (x : ByteArray) (l : List ByteArray) : strsSz (x :: l) = 1 + x.size + strsSz l := by simp [strsSz]; omega
theorem strsSz_filter (p : ByteArray → Bool) (l : List ByteArray) : strsSz (l.filter p) ≤ strsSz l := by
  induction l with
  | nil => simp
  | cons x l ih =>
    rw [List.filter_cons]
    split
    · rw [strsSz_cons, strsSz_cons]; omega
    · rw [strsSz_cons]; omega
end Go.Proofs.Ytbijkdpifnncmaa
