/- Contracts and lemmas: ReadVar, Scan. -/
import Derived.Test.YtdphdnllhmnelaaJ1
import Derived.Test.YtdphdnllhmnelaaJ2
import Derived.BigQuiet
import Derived.Deep.QuietTactic
/- Contracts of ReadVar, the program's and the reference's. -/
namespace Go.Proofs.Ytdphdnllhmnelaa
open Go.RowKit
attribute [local irreducible] rvF

/-- the value of the bytes from j up to k, the least first -/
def dF (s : ByteArray) (j : Nat) : Nat → Nat
  | 0 => 0
  | d + 1 => bAt s j % 128 + 128 * dF s (j + 1) d
def dV (s : ByteArray) (j k : Nat) : Nat := dF s j (k - j)
end Go.Proofs.Ytdphdnllhmnelaa
/- The reader's state: contracts of num, cut, text, many. -/
namespace Go.Proofs.Ytdphdnllhmnelaa
open Go.RowKit
attribute [local irreducible] rvF

/-- a reader: what is left, and whether something was amiss -/
abbrev Sc := ByteArray × Bool
noncomputable def numF (x : Sc) : Nat × Sc := if x.2 = true ∨ (rvF x.1).2 = 0 then (0, (x.1, true)) else ((rvF x.1).1, (x.1.extract (rvF x.1).2 x.1.size, false))
noncomputable def cutF (x : Sc) (n : Nat) : ByteArray × Sc := if x.2 = true ∨ ¬ n ≤ x.1.size then (.empty, (x.1, true)) else (x.1.extract 0 n, (x.1.extract n x.1.size, false))
noncomputable def textF (x : Sc) : ByteArray × Sc := cutF (numF x).2 (numF x).1
noncomputable def manyF (x : Sc) (most : Nat) : Nat × Sc := if (numF x).2.2 = true ∨ most < (numF x).1 then (0, ((numF x).2.1, true)) else ((numF x).1, (numF x).2)
structure Scn (w : World) (g : Nat) (x : Sc) : Prop where
  c0 : w.cell? ⟨g, 0, none⟩ = some (.string x.1)
  c1 : w.cell? ⟨g, 1, none⟩ = some (.bool x.2)
  f0 : w.frozen? ⟨g, 0, none⟩ = false
  f1 : w.frozen? ⟨g, 1, none⟩ = false
  sz : x.1.size ≤ 9223372036854775807
theorem Scn.lt {w : World} {g : Nat} {x : Sc} (h : Scn w g x) : g < w.heap.size := by
  have := World.block_lt_of_cell? w ⟨g, 0, none⟩ h.c0; simpa using this
theorem Scn.ch {S : Nat → Prop} {w w' : World} {g : Nat} {x : Sc} (h : Scn w g x) (hc : Ch S w w') (hS : ¬ S g) : Scn w' g x :=
  ⟨hc.cell h.c0 hS, hc.cell h.c1 hS, (World.frozen?_of_block (hc.block g h.lt hS)).trans h.f0, (World.frozen?_of_block (hc.block g h.lt hS)).trans h.f1, h.sz⟩
theorem Scn.keep {w w' : World} {g : Nat} {x : Sc} (h : Scn w g x) (hb : Below w.heap.size w w') : Scn w' g x := h.ch (S := fun _ => False) (Ch.of_below hb) (fun h => h)
theorem Scn.set1 {w : World} {g : Nat} {x : Sc} {b : Bool} (h : Scn w g x) : Scn (w.setCell ⟨g, 1, none⟩ (.bool b)) g (x.1, b) :=
  ⟨setoff h.c0 (.inr (by omega)), sethere h.c1, (World.frozen?_setCell _ _ _ _).trans h.f0, (World.frozen?_setCell _ _ _ _).trans h.f1, h.sz⟩

end Go.Proofs.Ytdphdnllhmnelaa
