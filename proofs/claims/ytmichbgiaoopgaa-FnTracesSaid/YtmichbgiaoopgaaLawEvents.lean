/- Contracts of the laws' helpers on lists of events: size, copy, comparison; opening an argument. -/
import Derived.Test.YtmichbgiaoopgaaEvents
import Derived.Test.YtmichbgiaoopgaaFrame
import Derived.Test.YtmichbgiaoopgaaRowAt
import Derived.StillTailTactics
namespace Go.Proofs.Ytmichbgiaoopgaa
open Go.RowKit

def evSz (e : Ev) : Nat := e.x.size
def evsSz (l : List Ev) : Nat := l.length + (l.map evSz).sum

theorem infoEvent : (Try.prog.info? 63).map (fun i => (i.zero, i.size, i.bytes)) = some (some (.agg #[.int .i64 0, .int .i64 0, .int .i64 0, .string ByteArray.empty]), 4, 40) := by kernel_rfl

/-- a row's cells of events up to k -/
def evCells (xs : List Value) (l : List Ev) (k : Nat) : Prop := ∀ j, j < k → xs[j * 4]? = some (.int .i64 (eAt l j).t) ∧ xs[j * 4 + 1]? = some (.int .i64 (eAt l j).c) ∧ xs[j * 4 + 2]? = some (.int .i64 (eAt l j).n) ∧ xs[j * 4 + 3]? = some (.string (eAt l j).x)
theorem EvsAt.of_own {w : World} {base e : Nat} {A : Option Addr} {n c : Nat} {xs : List Value} {l : List Ev} (h : w.ownsRow base e 4 (.slice A n c) n xs) (hl : n = l.length) (hx : evCells xs l n) : EvsAt w A n l := by
  refine ⟨hl, fun hn => ?_⟩
  obtain ⟨b, off, rfl, hc⟩ := (own_cells h).2 hn
  have h0 := hx 0 hn
  refine ⟨b, off, rfl, cell_lt (hc _ _ h0.1), fun i hi => ?_⟩
  have hi' := hx i hi
  exact ⟨hc _ _ hi'.1, hc _ _ hi'.2.1, hc _ _ hi'.2.2.1, hc _ _ hi'.2.2.2⟩
theorem own_keep {w w' : World} {base e sz n : Nat} {v : Value} {xs : List Value} (h : w.ownsRow base e sz v n xs) (hb : Below w.heap.size w w') : w'.ownsRow base e sz v n xs := by
  refine ⟨h.1, ?_⟩
  rcases h.2 with hn | ⟨g, cap, cur, rfl, hbb, hgg, rest⟩
  · exact .inl hn
  · exact .inr ⟨g, cap, cur, rfl, hbb, by rw [hb.block g (Array.getElem?_eq_some_iff.1 hgg).1]; exact hgg, rest⟩
theorem evCells_set {xs : List Value} {l : List Ev} {k n : Nat} (h : evCells xs l k) (hl : xs.length = n * 4) (hk : k < n) {e : Ev} (he : e = eAt l k) :
    evCells ((((xs.set (k * 4) (.int .i64 e.t)).set (k * 4 + 1) (.int .i64 e.c)).set (k * 4 + 2) (.int .i64 e.n)).set (k * 4 + 3) (.string e.x)) l (k + 1) := by
  subst he
  intro j hj
  simp only [List.getElem?_set, List.length_set]
  by_cases e : j = k
  · subst e
    refine ⟨?_, ?_, ?_, ?_⟩ <;> simp <;> omega
  · obtain ⟨h0, h1, h2, h3⟩ := h j (by omega)
    refine ⟨?_, ?_, ?_, ?_⟩ <;> (repeat rw [if_neg (by omega)]) <;> assumption

/-- an event's cells -/
def evC (_ : World) (cs : List Value) (e : Ev) : Prop :=
  cs = [.int .i64 e.t, .int .i64 e.c, .int .i64 e.n, .string e.x] ∧ (-9223372036854775808 ≤ e.t ∧ e.t ≤ 9223372036854775807) ∧ (-9223372036854775808 ≤ e.c ∧ e.c ≤ 9223372036854775807) ∧ (-9223372036854775808 ≤ e.n ∧ e.n ≤ 9223372036854775807) ∧ e.x.size ≤ 9223372036854775807
theorem four_of {cs : List Value} (h : cs.length = 4) : ∃ a b c d, cs = [a, b, c, d] := by
  match cs, h with
  | [a, b, c, d], _ => exact ⟨a, b, c, d, rfl⟩
theorem EvsAt.of_row {w : World} {A : Option Addr} {n : Nat} {l : List Ev} (h : RowAt evC 4 w A n l) : EvsAt w A n l := by
  refine ⟨h.1, fun hn => ?_⟩
  obtain ⟨b, off, rfl, hlt, hc⟩ := h.2 hn
  refine ⟨b, off, rfl, hlt, fun i hi => ?_⟩
  have hl := h.1
  obtain ⟨cs, ⟨rfl, _⟩, _, hcell⟩ := hc i (eAt l i) (by rw [eAt_get (by omega)]; exact List.getElem?_eq_getElem (by omega))
  exact ⟨hcell 0 _ rfl, hcell 1 _ rfl, hcell 2 _ rfl, hcell 3 _ rfl⟩
theorem evs_bound {w : World} {A : Option Addr} {n : Nat} {l : List Ev} (h : RowAt evC 4 w A n l) : ∀ i, i < n → (eAt l i).x.size ≤ 9223372036854775807 := by
  intro i hi
  obtain ⟨b, off, rfl, hlt, hc⟩ := h.2 (by omega)
  have hl := h.1
  obtain ⟨cs, hC, _⟩ := hc i (eAt l i) (by rw [eAt_get (by omega)]; exact List.getElem?_eq_getElem (by omega))
  exact hC.2.2.2.2
end Go.Proofs.Ytmichbgiaoopgaa
