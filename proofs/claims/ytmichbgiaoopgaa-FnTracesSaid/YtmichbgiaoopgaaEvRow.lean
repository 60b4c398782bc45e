/- The laws' helpers on lists of events in one shape: copy, marks. -/
import Derived.Test.YtmichbgiaoopgaaLawEvents
import Derived.Test.YtmichbgiaoopgaaStrRow
import Derived.Test.YtmichbgiaoopgaaNest
namespace Go.Proofs.Ytmichbgiaoopgaa
open Go.RowKit

def evL (e : Ev) : List Value := [.int .i64 e.t, .int .i64 e.c, .int .i64 e.n, .string e.x]
def evsL (l : List Ev) : List Value := (l.map evL).flatten
theorem evL_len (l : List Ev) : ∀ cs ∈ l.map evL, cs.length = 4 := fun cs h => by obtain ⟨x, _, rfl⟩ := List.mem_map.1 h; rfl
theorem evsL_len (l : List Ev) : (evsL l).length = l.length * 4 := by unfold evsL; rw [flat_len (evL_len l), List.length_map]
theorem evsL_get (l : List Ev) {i j : Nat} (hi : i < l.length) (hj : j < 4) : (evsL l)[i * 4 + j]? = (evL (eAt l i))[j]? := by
  unfold evsL
  exact flat_get (evL_len l) (i := i) (cs := evL (eAt l i)) (by rw [eAt_get hi]; simp [hi]) hj
theorem evsL_cells (l : List Ev) : evCells (evsL l) l l.length := fun j hj =>
  ⟨evsL_get l hj (j := 0) (by omega), evsL_get l hj (j := 1) (by omega), evsL_get l hj (j := 2) (by omega), evsL_get l hj (j := 3) (by omega)⟩
theorem evsL_of {xs : List Value} {l : List Ev} (hl : xs.length = l.length * 4) (h : evCells xs l l.length) : xs = evsL l := by
  apply List.ext_getElem?
  intro j
  rcases Nat.lt_or_ge j (l.length * 4) with hj | hj
  · have hi : j / 4 < l.length := by omega
    obtain ⟨h0, h1, h2, h3⟩ := h _ hi
    obtain ⟨g0, g1, g2, g3⟩ := evsL_cells l _ hi
    rcases (show j = j / 4 * 4 ∨ j = j / 4 * 4 + 1 ∨ j = j / 4 * 4 + 2 ∨ j = j / 4 * 4 + 3 by omega) with e | e | e | e
    · rw [e, h0, g0]
    · rw [e, h1, g1]
    · rw [e, h2, g2]
    · rw [e, h3, g3]
  · rw [List.getElem?_eq_none (by omega), List.getElem?_eq_none (by rw [evsL_len]; omega)]
theorem evsL_snoc (l : List Ev) (e : Ev) : evsL (l ++ [e]) = evsL l ++ evL e := by simp [evsL]

theorem evsL_set (L : List Ev) {k r : Nat} (hk : k < L.length) (hr : r < 4) {v : Value} {e' : Ev} (he : (evL (eAt L k)).set r v = evL e') : (evsL L).set (k * 4 + r) v = evsL (L.set k e') := by
  unfold evsL
  rw [← flat_set (css := L.map evL) (sz := 4) (q := k) (cs := evL (eAt L k)) (evL_len L) (by rw [eAt_get hk]; simp [hk]) hr, he, List.map_set]

structure EvsOk (w : World) (A : Option Addr) (n : Nat) (l : List Ev) : Prop where
  at_ : EvsAt w A n l
  bn : n ≤ 9223372036854775807
  bs : ∀ i, i < n → (eAt l i).x.size ≤ 9223372036854775807
theorem EvsOk.keep {w w' : World} {A : Option Addr} {n : Nat} {l : List Ev} (h : EvsOk w A n l) (hb : Below w.heap.size w w') : EvsOk w' A n l := ⟨h.at_.keep hb, h.bn, h.bs⟩
structure EvsIn (lo hi : Nat) (w : World) (A : Option Addr) (n c : Nat) (l : List Ev) : Prop where
  row : RowIn 63 4 lo hi w A n c (evsL l)
section
variable {lo hi lo' hi' n c : Nat} {w w' : World} {A : Option Addr} {l : List Ev}
theorem EvsIn.keep (h : EvsIn lo hi w A n c l) (hb : Below w.heap.size w w') : EvsIn lo hi w' A n c l := ⟨h.row.keep hb⟩
theorem EvsIn.ch {S : Nat → Prop} (h : EvsIn lo hi w A n c l) (hc : Ch S w w') (hS : ∀ k, Iv lo hi k → ¬ S k) : EvsIn lo hi w' A n c l := ⟨h.row.ch hc hS⟩
theorem EvsIn.wide (h : EvsIn lo hi w A n c l) (h1 : lo' ≤ lo) (h2 : hi ≤ hi') : EvsIn lo' hi' w A n c l := ⟨h.row.wide h1 h2⟩
theorem EvsIn.len (h : EvsIn lo hi w A n c l) : n = l.length := by have := h.row.len; rw [evsL_len] at this; omega
theorem EvsIn.at_ (h : EvsIn lo hi w A n c l) : EvsAt w A n l := EvsAt.of_own h.row.own h.len (by rw [h.len]; exact evsL_cells l)
theorem EvsIn.of_own (h : w.ownsRow lo 63 4 (.slice A n c) n (evsL l)) : EvsIn lo w.heap.size w A n c l := ⟨RowIn.of_own h⟩
theorem EvsIn.nil : EvsIn lo hi w none 0 0 [] := ⟨RowIn.nil⟩
end
/-- the answer is events in memory of the call's own -/
def EvsR (l : List Ev) (w : World) (e : Ending) (w' : World) : Prop :=
  ∃ A n c, e = .returned (.slice A n c) ∧ EvsIn w.heap.size w'.heap.size w' A n c l ∧ Below w.heap.size w w'
theorem evs_n {w : World} {A : Option Addr} {n : Nat} {l : List Ev} {m : Nat} (h : EvsAt w A n l) (hs : evsSz l ≤ m) : n ≤ m := by
  have := h.1; unfold evsSz at hs; omega
end Go.Proofs.Ytmichbgiaoopgaa
