/- Contracts and lemmas: GrowL. -/
import Derived.Test.YtdphdnllhmnelaaJ2
import Derived.Deep.MidRow
/- A whole struct read in a region that draws (XGrow). -/
namespace Go.Proofs.Ytdphdnllhmnelaa
open Go.RowKit
theorem Grow.range {w : World} (X : Grow w) {b o : Nat} {cs : List Value} (hb : b < w.heap.size) (hc : w.rangeAt b o cs) : X.at_.rangeAt b o cs := fun j v hv => X.cell_of hb (hc j v hv)
theorem wpQuiet_load {P : Program} {ops : Array Oper} {w : World} {Q : Act → Prop} {a : Act} {o : Oper} {rest : List Oper} (ty : TypeId) (x : Operand) (b off : Nat) (cs : List Value) (d : TypeDesc) (hb : b < w.heap.size) (hc : w.rangeAt b off cs)
    (hu : P.underlying ty = some d) {n : Nat} (hi : (P.info? ty).map (·.size) = some n) (hl : cs.length = n) (ho : o.op = .load ty x) (hx : a.eval x = .pointer (some ⟨b, off, none⟩)) (hw : Region.wanted o (yielded ops a.tmps) = true) (hd : d.isRow = true)
    (h : wpQuiet P ops (fun w' => ∃ X : Grow w, w' = X.at_) Q rest (a.put o.dst (.agg cs.toArray))) : wpQuiet P ops (fun w' => ∃ X : Grow w, w' = X.at_) Q (o :: rest) a :=
  by
  subst hl
  exact BigFrame.wpQuiet_want hw fun K hK => ⟨_, fun w' ⟨X, hX⟩ => by
    subst hX
    unfold Oper.quietAt execOp
    simp only [ho, hx, Instr.loadAt, Instr.sureAddr, Sem.run_bind, Sem.run_pure, Result.andThen_ok, run_loadVar_mid _ b off ty cs d (X.range hb hc) hu hd hi]
    exact ⟨rfl, rfl⟩, hK _ h⟩
/-- a struct is read whole, at any offset -/
theorem wpList_load_o {P : Program} {ops : Array Oper} {rest : List Oper} {op : Oper} {a : Act} {w : World} {Q : Exit → Act → World → Prop} (ty : TypeId) (x : Operand) (b o : Nat) (cs : List Value) (d : TypeDesc) (hc : w.rangeAt b o cs)
    (hu : P.underlying ty = some d) {n : Nat} (hi : (P.info? ty).map (·.size) = some n) (hl : cs.length = n) (ho : op.op = .load ty x) (hx : a.eval x = .pointer (some ⟨b, o, none⟩)) (hgd : op.guard = none) (hd : d.isRow = true)
    (h : wpList P ops Q rest (a.put op.dst (.agg cs.toArray)) w) : wpList P ops Q (op :: rest) a w :=
  wpList_load_mid hgd ty x ho b o hx cs d hc hu hd (by rw [hl]; exact hi) h
end Go.Proofs.Ytdphdnllhmnelaa
