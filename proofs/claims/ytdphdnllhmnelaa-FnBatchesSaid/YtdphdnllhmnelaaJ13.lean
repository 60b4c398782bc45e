/- Contracts and lemmas: RowAt. -/
import Derived.Test.YtdphdnllhmnelaaJ1
import Derived.Test.YtdphdnllhmnelaaJ12
import Derived.Deep.Slices
import Derived.Deep.Fields
/- Rows of elements of whatever make that are read; opening a slice argument. -/
namespace Go.Proofs.Ytdphdnllhmnelaa
open Go.RowKit Go.ChangeShapes Go.WideShapes Go.Deep

/-- n elements, sz cells each, lie at A; the cells of element i are in relation C with l[i] -/
def RowAt {α : Type} (C : World → List Value → α → Prop) (sz : Nat) (w : World) (A : Option Addr) (n : Nat) (l : List α) : Prop :=
  n = l.length ∧ (0 < n → ∃ b off, A = some ⟨b, off, none⟩ ∧ b < w.heap.size ∧ ∀ i x, l[i]? = some x → ∃ cs, C w cs x ∧ cs.length = sz ∧ ∀ j u, cs[j]? = some u → w.cell? ⟨b, off + i * sz + j, none⟩ = some u)

theorem RowAt.keep {α : Type} {C : World → List Value → α → Prop} {sz : Nat} {w w' : World} {A : Option Addr} {n : Nat} {l : List α} (h : RowAt C sz w A n l) (hb : Below w.heap.size w w')
    (hC : ∀ cs x, x ∈ l → C w cs x → C w' cs x) : RowAt C sz w' A n l := by
  refine ⟨h.1, fun hn => ?_⟩
  obtain ⟨b, off, rfl, hlt, hc⟩ := h.2 hn
  refine ⟨b, off, rfl, Nat.lt_of_lt_of_le hlt hb.size, fun i x hx => ?_⟩
  obtain ⟨cs, h1, h2, h3⟩ := hc i x hx
  exact ⟨cs, hC cs x (List.mem_of_getElem? hx) h1, h2, fun j u hu => keep_cell hb (h3 j u hu)⟩

section
variable {H : Type} {enc : TypeId × Value → H} {P : Program} {w : World} {base : Nat} {spare : Nat → Bool} {held : Bool}
/-- a slice that reads as data, its elements opened by what reads one element's cells -/
theorem open_rows_cs {α : Type} {C : World → List Value → α → Prop} {sz : Nat} {t e : TypeId} {fuel : Nat} {cs : List Value} {x : DataW H × List MemPlace} (ht : P.underlying t = some (.slice e)) (hsz : P.cellsOf e = sz) (h0 : 0 < sz)
    (hel : ∀ (fu : Nat) (cs : List Value) (y : DataW H × List MemPlace), DataW.trod enc P w base spare held fu e cs = some y → ∃ x, C w cs x)
    (h : DataW.trod enc P w base spare held fuel t cs = some x) :
    ∃ (A : Option Addr) (n c : Nat) (l : List α), cs = [.slice A n c] ∧ RowAt C sz w A n l ∧ n ≤ 9223372036854775807 ∧ n ≤ c ∧ (A = none → c = 0) := by
  rcases open_slice ht h with ⟨hcs, _⟩ | ⟨a, n, c, m, fu, D, Pl, hcs, _, hl, hm, hmm, _, hi⟩
  · exact ⟨none, 0, 0, [], hcs, ⟨rfl, fun h => absurd h (by omega)⟩, by omega, by omega, fun _ => rfl⟩
  · have hnm : n ≤ m := by rw [hmm]; split <;> omega
    have hex : ∀ i : Fin n, ∃ x, ∃ cs', C w cs' x ∧ cs'.length = sz ∧ ∀ j, j < sz → w.cell? (a.add (i * sz + j)) = cs'[j]? := by
      intro i
      obtain ⟨cs', hc, ht'⟩ := hi i (by omega)
      obtain ⟨x, hx⟩ := hel fu cs' _ ht'
      obtain ⟨_, hlen, hcell⟩ := World.cells?_some hc
      rw [hsz] at hlen hcell
      refine ⟨x, cs', hx, hlen, fun j hj => ?_⟩
      rw [← hcell j hj, Go.Addr.add_add]
    refine ⟨some a, n, c, List.ofFn (fun i => Classical.choose (hex i)), hcs, ⟨by simp, fun hn => ?_⟩, by unfold maxLen at hm; omega, hl, fun h => by cases h⟩
    have hsp : a.spot = none := by
      obtain ⟨cs', _, hlen, hcell⟩ := Classical.choose_spec (hex ⟨0, hn⟩)
      have h1 := hcell 0 h0
      rw [List.getElem?_eq_getElem (by omega)] at h1
      simp only [Nat.zero_mul, Nat.add_zero, Addr.add_zero'] at h1
      exact cell_spot h1
    obtain ⟨b, off, sp⟩ := a
    simp at hsp
    subst hsp
    refine ⟨b, off, rfl, ?_, fun i x hx => ?_⟩
    · obtain ⟨cs', _, hlen, hcell⟩ := Classical.choose_spec (hex ⟨0, hn⟩)
      have h1 := hcell 0 h0
      rw [List.getElem?_eq_getElem (by omega)] at h1
      simp only [Nat.zero_mul, Nat.add_zero, Addr.add_zero'] at h1
      exact cell_lt h1
    · have hin : i < n := by
        rcases Nat.lt_or_ge i n with h' | h'
        · exact h'
        · rw [List.getElem?_eq_none (by simpa using h')] at hx; cases hx
      have hx' : Classical.choose (hex ⟨i, hin⟩) = x := by simpa [hin] using hx
      obtain ⟨cs', hC, hlen, hcell⟩ := Classical.choose_spec (hex ⟨i, hin⟩)
      rw [hx'] at hC
      refine ⟨cs', hC, hlen, fun j u hu => ?_⟩
      have hj : j < sz := by
        rcases Nat.lt_or_ge j cs'.length with h' | h'
        · omega
        · rw [List.getElem?_eq_none h'] at hu; cases hu
      have := hcell j hj
      rw [Addr.add_lit] at this
      rw [Nat.add_assoc, this, hu]
/-- the same of an argument -/
theorem open_rows {α : Type} {C : World → List Value → α → Prop} {sz : Nat} {r : Reach} {b0 : Nat} {t e : TypeId} {v : Value} {d : DataW H} {p : List MemPlace} (ht : P.underlying t = some (.slice e)) (hsz : P.cellsOf e = sz) (h0 : 0 < sz)
    (hel : ∀ (fu : Nat) (cs : List Value) (y : DataW H × List MemPlace), DataW.trod enc P w base spare held fu e cs = some y → ∃ x, C w cs x)
    (hv : Value.okWide P w r b0 t v) (h : DataW.Trod enc P w base spare held t v d p) :
    ∃ (A : Option Addr) (n c : Nat) (l : List α), v = .slice A n c ∧ RowAt C sz w A n l ∧ n ≤ 9223372036854775807 := by
  obtain ⟨A, n, c, rfl⟩ := okWide_slice ht hv
  obtain ⟨fuel, hf⟩ := h
  obtain ⟨A', n', c', l, hcs, hr, hn, _⟩ := open_rows_cs ht hsz h0 hel hf
  simp [Value.cells] at hcs
  obtain ⟨rfl, rfl, rfl⟩ := hcs
  exact ⟨_, _, _, l, rfl, hr, hn⟩

/-! ### one element's cells -/
end
end Go.Proofs.Ytdphdnllhmnelaa
