/- Contracts and lemmas: IntList. -/
import Derived.Test.YtdphdnllhmnelaaGreatJ6
import Derived.Test.YtdphdnllhmnelaaGreatJ9
/- The laws' helpers on []int in one shape. -/
namespace Go.Proofs.YtdphdnllhmnelaaGreat
open Go.RowKit

def iAt (l : List Int) (i : Nat) : Int := l.getD i 0
theorem iAt_get {l : List Int} {k : Nat} (h : k < l.length) : iAt l k = l[k] := by simp [iAt, h]
theorem map_iAt (l : List Int) : (List.range l.length).map (intV (iAt l)) = l.map (Value.int .i64) := by
  apply List.ext_getElem?
  intro j
  rcases Nat.lt_or_ge j l.length with hj | hj
  · simp [hj, iAt, intV]
  · rw [List.getElem?_eq_none (by simp; omega), List.getElem?_eq_none (by simp; omega)]
/-- a row of ints -/
def IntsAt (w : World) (A : Option Addr) (n : Nat) (l : List Int) : Prop := n = l.length ∧ ValsAt w A n (intV (iAt l))
theorem IntsAt.keep {w w' : World} {A : Option Addr} {n : Nat} {l : List Int} (h : IntsAt w A n l) (hb : Below w.heap.size w w') : IntsAt w' A n l := ⟨h.1, h.2.keep hb⟩
theorem IntsAt.at_ {w : World} {A : Option Addr} {n : Nat} {l : List Int} (h : IntsAt w A n l) (hn : 0 < n) :
    ∃ b off, A = some ⟨b, off, none⟩ ∧ b < w.heap.size ∧ ∀ i, i < n → w.cell? ⟨b, off + i, none⟩ = some (.int .i64 (iAt l i)) := h.2 hn
structure IntsOk (w : World) (A : Option Addr) (n : Nat) (l : List Int) : Prop where
  at_ : IntsAt w A n l
  bn : n ≤ 9223372036854775807
theorem IntsOk.keep {w w' : World} {A : Option Addr} {n : Nat} {l : List Int} (h : IntsOk w A n l) (hb : Below w.heap.size w w') : IntsOk w' A n l := ⟨h.at_.keep hb, h.bn⟩
structure IntsIn (lo hi : Nat) (w : World) (A : Option Addr) (n c : Nat) (l : List Int) : Prop where
  row : RowIn 3 1 lo hi w A n c (l.map (Value.int .i64))
section
variable {lo hi lo' hi' n c : Nat} {w w' : World} {A : Option Addr} {l : List Int}
theorem IntsIn.keep (h : IntsIn lo hi w A n c l) (hb : Below w.heap.size w w') : IntsIn lo hi w' A n c l := ⟨h.row.keep hb⟩
theorem IntsIn.ch {S : Nat → Prop} (h : IntsIn lo hi w A n c l) (hc : Ch S w w') (hS : ∀ k, Iv lo hi k → ¬ S k) : IntsIn lo hi w' A n c l := ⟨h.row.ch hc hS⟩
theorem IntsIn.wide (h : IntsIn lo hi w A n c l) (h1 : lo' ≤ lo) (h2 : hi ≤ hi') : IntsIn lo' hi' w A n c l := ⟨h.row.wide h1 h2⟩
theorem IntsIn.len (h : IntsIn lo hi w A n c l) : n = l.length := by have := h.row.len; simp at this; omega
theorem IntsIn.rowF (h : IntsIn lo hi w A n c l) : RowF 3 lo hi w A n c (intV (iAt l)) := by
  have hr := h.row
  unfold RowF
  rw [h.len, map_iAt]
  rwa [h.len] at hr
theorem IntsIn.of_rowF (h : RowF 3 lo hi w A n c (intV (iAt l))) (hn : n = l.length) : IntsIn lo hi w A n c l := by
  subst hn
  unfold RowF at h
  rw [map_iAt] at h
  exact ⟨h⟩
theorem IntsIn.at_ (h : IntsIn lo hi w A n c l) : IntsAt w A n l := ⟨h.len, h.rowF.vals⟩
theorem IntsIn.of_own (h : w.ownsRow lo 3 1 (.slice A n c) n (l.map (Value.int .i64))) : IntsIn lo w.heap.size w A n c l := ⟨RowIn.of_own h⟩
theorem IntsIn.nil : IntsIn lo hi w none 0 0 [] := ⟨RowIn.nil⟩
end
/-- the answer is ints in memory of the call's own -/
def IntsR (l : List Int) (w : World) (e : Ending) (w' : World) : Prop :=
  ∃ A n c, e = .returned (.slice A n c) ∧ IntsIn w.heap.size w'.heap.size w' A n c l ∧ Below w.heap.size w w'
def intsSz (l : List Int) : Nat := l.length
def intsMk (k : Int) (l : List Int) : List Int := (List.range l.length).map (mkI k)
def intsCnt (l : List Int) : Nat := l.length
theorem ints_cnt (l : List Int) : intsCnt l ≤ intsSz l := Nat.le_refl _
theorem iAt_mk {k : Int} {l : List Int} {j : Nat} (h : j < l.length) : iAt (intsMk k l) j = mkI k j := by simp [iAt, intsMk, h]
theorem ints_n {w : World} {A : Option Addr} {n : Nat} {l : List Int} {m : Nat} (h : IntsAt w A n l) (hs : intsSz l ≤ m) : n ≤ m := by
  have := h.1; unfold intsSz at hs; omega
theorem ints_to (A : Option Addr) (n c : Nat) (l : List Int) (w : World) (h : IntsAt w A n l) (hs : intsSz l ≤ 1048576) :
    Calls Tryz.prog 8 #[.slice A n c] w fun e w' => ∃ A' n' c', e = .returned (.slice A' n' c') ∧ IntsIn w.heap.size w'.heap.size w' A' n' c' l ∧ Below w.heap.size w w' :=
  (toInts_row A n c (iAt l) w h.2 (by have := ints_n h hs; omega)).mono fun e w' ⟨g, he, hr, hb⟩ => ⟨_, _, _, he, IntsIn.of_rowF hr h.1, hb⟩
theorem ints_eq (A : Option Addr) (n c : Nat) (A' : Option Addr) (n' c' : Nat) (l : List Int) (w : World) (h : IntsAt w A n l) (h' : IntsAt w A' n' l) (hs : intsSz l ≤ 16777216) :
    Calls Tryz.prog 12 #[.slice A n c, .slice A' n' c'] w fun e w' => e = .returned (.bool true) ∧ Below w.heap.size w w' := by
  obtain rfl : n = n' := h.1.trans h'.1.symm
  exact eqInts_same A A' n c c' (iAt l) w h.2 h'.2 (by have := ints_n h hs; omega)
theorem ints_markb (A : Option Addr) (n c : Nat) (l : List Int) (k : Int) (lo hi : Nat) (w : World) (h : IntsIn lo hi w A n c l) (hs : intsSz l ≤ 16777216) (hk0 : 0 < k) (hk1 : k ≤ 576460752303423488) :
    Calls Tryz.prog 14 #[.slice A n c, .int .i64 k] w fun e w' => e = .returned (.int .i64 (k + (intsCnt l : Nat))) ∧ IntsIn lo hi w' A n c (intsMk k l) ∧ Ch (BlkOf A) w w' :=
  (markInts_row A n c _ k lo hi _ w h.row (ints_n h.at_ hs) (by omega) (by omega)).mono fun e w' ⟨h1, h2, h3⟩ =>
    ⟨by rw [h1]; unfold intsCnt; rw [← h.len], IntsIn.of_rowF (h2.congr fun j hj => by unfold intV; rw [iAt_mk (by have := h.len; omega)]) (by rw [h.len]; simp [intsMk]), h3⟩
theorem ints_mark (A : Option Addr) (n c : Nat) (l : List Int) (k : Int) (lo hi : Nat) (w : World) (h : IntsIn lo hi w A n c l) (hs : intsSz l ≤ 16777216) (hk0 : 0 < k) (hk1 : k ≤ 576460752303423488) :
    Calls Tryz.prog 14 #[.slice A n c, .int .i64 k] w fun e w' => e = .returned (.int .i64 (k + (intsCnt l : Nat))) ∧ IntsIn lo hi w' A n c (intsMk k l) ∧ Ch (Iv lo hi) w w' :=
  (markInts_row A n c _ k lo hi _ w h.row (ints_n h.at_ hs) (by omega) (by omega)).mono fun e w' ⟨h1, h2, h3⟩ =>
    ⟨by rw [h1]; unfold intsCnt; rw [← h.len], IntsIn.of_rowF (h2.congr fun j hj => by unfold intV; rw [iAt_mk (by have := h.len; omega)]) (by rw [h.len]; simp [intsMk]), h3.mono fun g hg => (h.row.blk hg).1⟩
end Go.Proofs.YtdphdnllhmnelaaGreat
