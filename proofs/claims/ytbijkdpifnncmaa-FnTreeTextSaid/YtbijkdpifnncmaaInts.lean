/- Contracts of the laws' helpers on []int and []bool; rows given by a function of the place. -/
import Derived.Test.YtbijkdpifnncmaaOwn
import Derived.Test.YtbijkdpifnncmaaRows
import Derived.BigQuiet
import Derived.Deep.QuietTactic
import Derived.StillTailTactics
namespace Go.Proofs.Ytbijkdpifnncmaa
open Go.RowKit

/-- n cells lie at A: cell i holds f i -/
def ValsAt (w : World) (A : Option Addr) (n : Nat) (f : Nat → Value) : Prop :=
  0 < n → ∃ b off, A = some ⟨b, off, none⟩ ∧ b < w.heap.size ∧ ∀ i, i < n → w.cell? ⟨b, off + i, none⟩ = some (f i)
section
variable {w w' : World} {A : Option Addr} {n : Nat} {f : Nat → Value}
theorem ValsAt.keep (h : ValsAt w A n f) (hb : Below w.heap.size w w') : ValsAt w' A n f := fun hn => by
  obtain ⟨b, off, rfl, hlt, hc⟩ := h hn
  exact ⟨b, off, rfl, Nat.lt_of_lt_of_le hlt hb.size, fun i hi => keep_cell hb (hc i hi)⟩
theorem ValsAt.of_own {base e c : Nat} {xs : List Value} (h : w.ownsRow base e 1 (.slice A n c) n xs) (hx : ∀ j, j < n → xs[j]? = some (f j)) : ValsAt w A n f := fun hn => by
  obtain ⟨b, off, rfl, hc⟩ := (own_cells h).2 hn
  exact ⟨b, off, rfl, cell_lt (hc 0 _ (hx 0 hn)), fun i hi => hc i _ (hx i hi)⟩
end
def intV (f : Nat → Int) (i : Nat) : Value := .int .i64 (f i)
def boolV (f : Nat → Bool) (i : Nat) : Value := .bool (f i)

theorem infoInt : (Try.prog.info? 3).map (fun i => (i.zero, i.size, i.bytes)) = some (some (.int .i64 0), 1, 8) := by kernel_rfl
theorem infoBool : (Try.prog.info? 4).map (fun i => (i.zero, i.size, i.bytes)) = some (some (.bool false), 1, 1) := by kernel_rfl



end Go.Proofs.Ytbijkdpifnncmaa
