/- Contracts and lemmas: LawStrs, Grow. -/
import Derived.Test.YtdphdnllhmnelaaJ0
import Derived.Test.YtdphdnllhmnelaaRows
import Derived.BigQuiet
import Derived.Deep.QuietTactic
import Derived.Deep.Quiet
/- Contracts of the laws' helpers on lists of strings: size, copy, comparison. -/
namespace Go.Proofs.Ytdphdnllhmnelaa
open Go.RowKit

theorem infoString : (Try.prog.info? 9).map (fun i => (i.zero, i.size, i.bytes)) = some (some (.string ByteArray.empty), 1, 16) := by kernel_rfl

end Go.Proofs.Ytdphdnllhmnelaa
/- A region that draws its order and holds loads of old cells and calls that make memory: one walk in the order of the text, over the class of worlds in which all that lay lies. -/
namespace Go.Proofs.Ytdphdnllhmnelaa
open Go.RowKit

/-- a world in which all that lay in w lies -/
def Grow (w : World) : Type := { X : World // Below w.heap.size w X }
instance {w : World} : Nonempty (Grow w) := ⟨⟨w, Below.refl _ _⟩⟩
def Grow.at_ {w : World} (X : Grow w) : World := X.1
theorem Grow.below {w : World} (X : Grow w) : Below w.heap.size w X.at_ := X.2
theorem Grow.cell {w : World} (X : Grow w) {b o : Nat} (h : b < w.heap.size) : X.at_.cell? ⟨b, o, none⟩ = w.cell? ⟨b, o, none⟩ := X.2.cell h
theorem Grow.frozen {w : World} (X : Grow w) {b o : Nat} (h : b < w.heap.size) : X.at_.frozen? ⟨b, o, none⟩ = w.frozen? ⟨b, o, none⟩ := X.2.frozen h
theorem Grow.cell_of {w : World} (X : Grow w) {b o : Nat} {v : Value} (h : b < w.heap.size) (hc : w.cell? ⟨b, o, none⟩ = some v) : X.at_.cell? ⟨b, o, none⟩ = some v := (X.cell h).trans hc
def Grow.mk' {w W : World} (h : Below w.heap.size w W) : Grow w := ⟨W, h⟩
theorem wp_region_grow {P : Program} {id : Nat} {Q : Exit → Act → World → Prop} {a : Act} {w : World} {l : List Oper} (hm : P.follows .mixedOrders = true) (hB : Region.lexB .any l.toArray = true)
    (h : wpQuiet P l.toArray (fun w' => ∃ X : Grow w, w' = X.at_) (fun a' => ∀ w', (∃ X : Grow w, w' = X.at_) → Q .normal a' w') l a) : (Code.region id l.toArray true).wp P Q a w :=
  wp_region_quiet (C := fun w' => ∃ X : Grow w, w' = X.at_) hm hB ⟨⟨w.drew, (Below.refl _ _).drew⟩, rfl⟩ (by simpa using h)
theorem grow_of {P : Program} {f : FuncId} {args : Array Value} {w : World} {X : Grow w} {v : Value} (h : Calls P f args X.at_ fun e w' => e = .returned v ∧ Below X.at_.heap.size X.at_ w') :
    Calls P f args X.at_ fun e w'' => e = .returned v ∧ ∃ Y : Grow w, w'' = Y.at_ :=
  h.mono fun _ w' ⟨he, hb⟩ => ⟨he, Grow.mk' (bthen X.below hb), rfl⟩
theorem grow_same {P : Program} {f : FuncId} {args : Array Value} {w : World} {X : Grow w} {v : Value} (h : Calls P f args X.at_ fun e w' => e = .returned v ∧ X.at_ = w') :
    Calls P f args X.at_ fun e w'' => e = .returned v ∧ ∃ Y : Grow w, w'' = Y.at_ :=
  h.mono fun _ w' ⟨he, hb⟩ => ⟨he, X, hb.symm⟩
/-- an answer that is known -/
theorem known {P : Program} {f : FuncId} {args : Array Value} {w : World} {T : World → Prop} {x y : Bool} (hx : x = y) (h : Calls P f args w fun e w' => e = .returned (.bool x) ∧ T w') : Calls P f args w fun e w' => e = .returned (.bool y) ∧ T w' := by
  subst hx; exact h
end Go.Proofs.Ytdphdnllhmnelaa
