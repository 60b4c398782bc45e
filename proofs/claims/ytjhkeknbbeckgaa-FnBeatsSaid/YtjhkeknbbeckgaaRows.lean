/-
  No cell of these rows narrows 'for every input' (looked for: loops, veiled, ifaces, maps, wideKeys, modest, calm, conditions, laid).
  DERIVED. THE GIVEN ROWS OF THIS SEAT. 12 by the template 'for every input the law returns true; each argument reads behind the call as it read before'; 0 by the template 'total and deterministic' (their statements: YtjhkeknbbeckgaaTotals.lean).
  GIVEN WITH THE SEED: the statements are not yours to turn. If you find one false, say at which input.
  Laid BY PROGRAM, IN A SANDBOX (cutbox-rows.mjs): the forced cells as the released guide's own fill.sh prints them over the translation e5f56cb2c7121fda… (all of the seat's roots in one cut). By AI agents, Wed Nov 11 2026. No macro, syntax, notation, axiom, sorry.
-/
import Derived.Test.YtjhkeknbbeckgaaChecked
import GoSem.Claim
import GoSem.ClaimJoined
import GoSem.ClaimMapViews
import Derived.JoinedTies
import Derived.KernelRfl
namespace Go.Proofs.Ytjhkeknbbeckgaa
/- THE CELL 'sum', in the pinned program and in every row, IS THE sha256 OF THE DUMP (.gsa) THAT YtjhkeknbbeckgaaProg.lean LOADS. Nothing in Lean hashes anything: it is a label: what it is worth is what the hold of that sum in a sandbox is worth. -/
noncomputable def Try.pinned : Pinned := { name := "ytjhkeknbbeckgaa", sum := "e5f56cb2c7121fdaf02599efae8d3da769ed8cc200f0dff0b1314f55451661d6", checked := Try.checked }
namespace Rows
def none {H : Type} : Left H := { results := [], args := [] }

/-- 'laws.FnBeats': WHATEVER THE INPUT: true; the input reads as it did. -/
def fnBeatsSpec : ChangeSpec := { name := "fnBeats", fn := fun _ => fun
  | [d] => { results := [.lit (.bool true)], args := [d] }
  | _ => none }
def fnBeatsRow : OpenClaim := { program := "ytjhkeknbbeckgaa", sum := "e5f56cb2c7121fdaf02599efae8d3da769ed8cc200f0dff0b1314f55451661d6", func := "loop.example/g00954/laws.FnBeats", spec := "fnBeats", apart := false }
def FnBeatsSaid : Prop := fnBeatsRow.holds Try.pinned (OpenSpec.ofChange fnBeatsSpec)

/-- ITS FALSE NEIGHBOUR: 'it returns false'. Refute it at one input. -/
def fnBeatsWrong : ChangeSpec := { name := "fnBeats", fn := fun _ => fun
  | [d] => { results := [.lit (.bool false)], args := [d] }
  | _ => none }
def FnBeatsWrongFalsely : Prop := fnBeatsRow.holds Try.pinned (OpenSpec.ofChange fnBeatsWrong)

/-- 'laws.FnExactFlat': WHATEVER THE INPUT: true; the input reads as it did. -/
def fnExactFlatSpec : ChangeSpec := { name := "fnExactFlat", fn := fun _ => fun
  | [d] => { results := [.lit (.bool true)], args := [d] }
  | _ => none }
def fnExactFlatRow : OpenClaim := { program := "ytjhkeknbbeckgaa", sum := "e5f56cb2c7121fdaf02599efae8d3da769ed8cc200f0dff0b1314f55451661d6", func := "loop.example/g00954/laws.FnExactFlat", spec := "fnExactFlat", apart := false }
def FnExactFlatSaid : Prop := fnExactFlatRow.holds Try.pinned (OpenSpec.ofChange fnExactFlatSpec)

/-- ITS FALSE NEIGHBOUR: 'it returns false'. Refute it at one input. -/
def fnExactFlatWrong : ChangeSpec := { name := "fnExactFlat", fn := fun _ => fun
  | [d] => { results := [.lit (.bool false)], args := [d] }
  | _ => none }
def FnExactFlatWrongFalsely : Prop := fnExactFlatRow.holds Try.pinned (OpenSpec.ofChange fnExactFlatWrong)

/-- 'laws.FnExactBeatOk': WHATEVER THE INPUT: true; the input reads as it did. -/
def fnExactBeatOkSpec : ChangeSpec := { name := "fnExactBeatOk", fn := fun _ => fun
  | [d] => { results := [.lit (.bool true)], args := [d] }
  | _ => none }
def fnExactBeatOkRow : OpenClaim := { program := "ytjhkeknbbeckgaa", sum := "e5f56cb2c7121fdaf02599efae8d3da769ed8cc200f0dff0b1314f55451661d6", func := "loop.example/g00954/laws.FnExactBeatOk", spec := "fnExactBeatOk", apart := false }
def FnExactBeatOkSaid : Prop := fnExactBeatOkRow.holds Try.pinned (OpenSpec.ofChange fnExactBeatOkSpec)

/-- ITS FALSE NEIGHBOUR: 'it returns false'. Refute it at one input. -/
def fnExactBeatOkWrong : ChangeSpec := { name := "fnExactBeatOk", fn := fun _ => fun
  | [d] => { results := [.lit (.bool false)], args := [d] }
  | _ => none }
def FnExactBeatOkWrongFalsely : Prop := fnExactBeatOkRow.holds Try.pinned (OpenSpec.ofChange fnExactBeatOkWrong)

/-- 'laws.FnExactBeatNew': WHATEVER THE INPUT: true; the input reads as it did. -/
def fnExactBeatNewSpec : ChangeSpec := { name := "fnExactBeatNew", fn := fun _ => fun
  | [d] => { results := [.lit (.bool true)], args := [d] }
  | _ => none }
def fnExactBeatNewRow : OpenClaim := { program := "ytjhkeknbbeckgaa", sum := "e5f56cb2c7121fdaf02599efae8d3da769ed8cc200f0dff0b1314f55451661d6", func := "loop.example/g00954/laws.FnExactBeatNew", spec := "fnExactBeatNew", apart := false }
def FnExactBeatNewSaid : Prop := fnExactBeatNewRow.holds Try.pinned (OpenSpec.ofChange fnExactBeatNewSpec)

/-- ITS FALSE NEIGHBOUR: 'it returns false'. Refute it at one input. -/
def fnExactBeatNewWrong : ChangeSpec := { name := "fnExactBeatNew", fn := fun _ => fun
  | [d] => { results := [.lit (.bool false)], args := [d] }
  | _ => none }
def FnExactBeatNewWrongFalsely : Prop := fnExactBeatNewRow.holds Try.pinned (OpenSpec.ofChange fnExactBeatNewWrong)

/-- 'laws.FnExactLacks': WHATEVER THE INPUT: true; the input reads as it did. -/
def fnExactLacksSpec : ChangeSpec := { name := "fnExactLacks", fn := fun _ => fun
  | [d1, d2] => { results := [.lit (.bool true)], args := [d1, d2] }
  | _ => none }
def fnExactLacksRow : OpenClaim := { program := "ytjhkeknbbeckgaa", sum := "e5f56cb2c7121fdaf02599efae8d3da769ed8cc200f0dff0b1314f55451661d6", func := "loop.example/g00954/laws.FnExactLacks", spec := "fnExactLacks", apart := false }
def FnExactLacksSaid : Prop := fnExactLacksRow.holds Try.pinned (OpenSpec.ofChange fnExactLacksSpec)

/-- ITS FALSE NEIGHBOUR: 'it returns false'. Refute it at one input. -/
def fnExactLacksWrong : ChangeSpec := { name := "fnExactLacks", fn := fun _ => fun
  | [d1, d2] => { results := [.lit (.bool false)], args := [d1, d2] }
  | _ => none }
def FnExactLacksWrongFalsely : Prop := fnExactLacksRow.holds Try.pinned (OpenSpec.ofChange fnExactLacksWrong)

/-- 'laws.FnExactBeatUp': WHATEVER THE INPUT: true; the input reads as it did. -/
def fnExactBeatUpSpec : ChangeSpec := { name := "fnExactBeatUp", fn := fun _ => fun
  | [d] => { results := [.lit (.bool true)], args := [d] }
  | _ => none }
def fnExactBeatUpRow : OpenClaim := { program := "ytjhkeknbbeckgaa", sum := "e5f56cb2c7121fdaf02599efae8d3da769ed8cc200f0dff0b1314f55451661d6", func := "loop.example/g00954/laws.FnExactBeatUp", spec := "fnExactBeatUp", apart := false }
def FnExactBeatUpSaid : Prop := fnExactBeatUpRow.holds Try.pinned (OpenSpec.ofChange fnExactBeatUpSpec)

/-- ITS FALSE NEIGHBOUR: 'it returns false'. Refute it at one input. -/
def fnExactBeatUpWrong : ChangeSpec := { name := "fnExactBeatUp", fn := fun _ => fun
  | [d] => { results := [.lit (.bool false)], args := [d] }
  | _ => none }
def FnExactBeatUpWrongFalsely : Prop := fnExactBeatUpRow.holds Try.pinned (OpenSpec.ofChange fnExactBeatUpWrong)

/-- 'laws.FnExactDoubles': WHATEVER THE INPUT: true; the input reads as it did. -/
def fnExactDoublesSpec : ChangeSpec := { name := "fnExactDoubles", fn := fun _ => fun
  | [d] => { results := [.lit (.bool true)], args := [d] }
  | _ => none }
def fnExactDoublesRow : OpenClaim := { program := "ytjhkeknbbeckgaa", sum := "e5f56cb2c7121fdaf02599efae8d3da769ed8cc200f0dff0b1314f55451661d6", func := "loop.example/g00954/laws.FnExactDoubles", spec := "fnExactDoubles", unfollowed := true, recurses := true, apart := false }
def FnExactDoublesSaid : Prop := fnExactDoublesRow.holds Try.pinned (OpenSpec.ofChange fnExactDoublesSpec)

/-- ITS FALSE NEIGHBOUR: 'it returns false'. Refute it at one input. -/
def fnExactDoublesWrong : ChangeSpec := { name := "fnExactDoubles", fn := fun _ => fun
  | [d] => { results := [.lit (.bool false)], args := [d] }
  | _ => none }
def FnExactDoublesWrongFalsely : Prop := fnExactDoublesRow.holds Try.pinned (OpenSpec.ofChange fnExactDoublesWrong)

/-- 'laws.FnExactBeatLook': WHATEVER THE INPUT: true; the input reads as it did. -/
def fnExactBeatLookSpec : ChangeSpec := { name := "fnExactBeatLook", fn := fun _ => fun
  | [d1, d2] => { results := [.lit (.bool true)], args := [d1, d2] }
  | _ => none }
def fnExactBeatLookRow : OpenClaim := { program := "ytjhkeknbbeckgaa", sum := "e5f56cb2c7121fdaf02599efae8d3da769ed8cc200f0dff0b1314f55451661d6", func := "loop.example/g00954/laws.FnExactBeatLook", spec := "fnExactBeatLook", apart := false }
def FnExactBeatLookSaid : Prop := fnExactBeatLookRow.holds Try.pinned (OpenSpec.ofChange fnExactBeatLookSpec)

/-- ITS FALSE NEIGHBOUR: 'it returns false'. Refute it at one input. -/
def fnExactBeatLookWrong : ChangeSpec := { name := "fnExactBeatLook", fn := fun _ => fun
  | [d1, d2] => { results := [.lit (.bool false)], args := [d1, d2] }
  | _ => none }
def FnExactBeatLookWrongFalsely : Prop := fnExactBeatLookRow.holds Try.pinned (OpenSpec.ofChange fnExactBeatLookWrong)

/-- 'laws.FnExactBeatHear': WHATEVER THE INPUT: true; the input reads as it did. -/
def fnExactBeatHearSpec : ChangeSpec := { name := "fnExactBeatHear", fn := fun _ => fun
  | [d1, d2, d3] => { results := [.lit (.bool true)], args := [d1, d2, d3] }
  | _ => none }
def fnExactBeatHearRow : OpenClaim := { program := "ytjhkeknbbeckgaa", sum := "e5f56cb2c7121fdaf02599efae8d3da769ed8cc200f0dff0b1314f55451661d6", func := "loop.example/g00954/laws.FnExactBeatHear", spec := "fnExactBeatHear", apart := false }
def FnExactBeatHearSaid : Prop := fnExactBeatHearRow.holds Try.pinned (OpenSpec.ofChange fnExactBeatHearSpec)

/-- ITS FALSE NEIGHBOUR: 'it returns false'. Refute it at one input. -/
def fnExactBeatHearWrong : ChangeSpec := { name := "fnExactBeatHear", fn := fun _ => fun
  | [d1, d2, d3] => { results := [.lit (.bool false)], args := [d1, d2, d3] }
  | _ => none }
def FnExactBeatHearWrongFalsely : Prop := fnExactBeatHearRow.holds Try.pinned (OpenSpec.ofChange fnExactBeatHearWrong)

/-- 'laws.FnExactTreeOk': WHATEVER THE INPUT: true; the input reads as it did. -/
def fnExactTreeOkSpec : ChangeSpec := { name := "fnExactTreeOk", fn := fun _ => fun
  | [d] => { results := [.lit (.bool true)], args := [d] }
  | _ => none }
def fnExactTreeOkRow : OpenClaim := { program := "ytjhkeknbbeckgaa", sum := "e5f56cb2c7121fdaf02599efae8d3da769ed8cc200f0dff0b1314f55451661d6", func := "loop.example/g00954/laws.FnExactTreeOk", spec := "fnExactTreeOk", unfollowed := true, recurses := true, apart := false }
def FnExactTreeOkSaid : Prop := fnExactTreeOkRow.holds Try.pinned (OpenSpec.ofChange fnExactTreeOkSpec)

/-- ITS FALSE NEIGHBOUR: 'it returns false'. Refute it at one input. -/
def fnExactTreeOkWrong : ChangeSpec := { name := "fnExactTreeOk", fn := fun _ => fun
  | [d] => { results := [.lit (.bool false)], args := [d] }
  | _ => none }
def FnExactTreeOkWrongFalsely : Prop := fnExactTreeOkRow.holds Try.pinned (OpenSpec.ofChange fnExactTreeOkWrong)

/-- 'laws.FnExactGaps': WHATEVER THE INPUT: true; the input reads as it did. -/
def fnExactGapsSpec : ChangeSpec := { name := "fnExactGaps", fn := fun _ => fun
  | [d1, d2] => { results := [.lit (.bool true)], args := [d1, d2] }
  | _ => none }
def fnExactGapsRow : OpenClaim := { program := "ytjhkeknbbeckgaa", sum := "e5f56cb2c7121fdaf02599efae8d3da769ed8cc200f0dff0b1314f55451661d6", func := "loop.example/g00954/laws.FnExactGaps", spec := "fnExactGaps", recurses := true, apart := false }
def FnExactGapsSaid : Prop := fnExactGapsRow.holds Try.pinned (OpenSpec.ofChange fnExactGapsSpec)

/-- ITS FALSE NEIGHBOUR: 'it returns false'. Refute it at one input. -/
def fnExactGapsWrong : ChangeSpec := { name := "fnExactGaps", fn := fun _ => fun
  | [d1, d2] => { results := [.lit (.bool false)], args := [d1, d2] }
  | _ => none }
def FnExactGapsWrongFalsely : Prop := fnExactGapsRow.holds Try.pinned (OpenSpec.ofChange fnExactGapsWrong)

/-- 'laws.FnExactClients': WHATEVER THE INPUT: true; the input reads as it did. -/
def fnExactClientsSpec : ChangeSpec := { name := "fnExactClients", fn := fun _ => fun
  | [d] => { results := [.lit (.bool true)], args := [d] }
  | _ => none }
def fnExactClientsRow : OpenClaim := { program := "ytjhkeknbbeckgaa", sum := "e5f56cb2c7121fdaf02599efae8d3da769ed8cc200f0dff0b1314f55451661d6", func := "loop.example/g00954/laws.FnExactClients", spec := "fnExactClients", recurses := true, apart := false }
def FnExactClientsSaid : Prop := fnExactClientsRow.holds Try.pinned (OpenSpec.ofChange fnExactClientsSpec)

/-- ITS FALSE NEIGHBOUR: 'it returns false'. Refute it at one input. -/
def fnExactClientsWrong : ChangeSpec := { name := "fnExactClients", fn := fun _ => fun
  | [d] => { results := [.lit (.bool false)], args := [d] }
  | _ => none }
def FnExactClientsWrongFalsely : Prop := fnExactClientsRow.holds Try.pinned (OpenSpec.ofChange fnExactClientsWrong)

/- THE SECOND FORM. 'bulk': how many values and letters a reading holds, each counted each time it is reached (what is shared counts as often as it is met; a slice's spare places count too). A statement '..UptoSaid' is the law's where the arguments, and the package variables that the reading takes, are together of bulk at most 1048576: NARROWER than '..Said'. Prove '..Said' where nothing that the law and all that it calls make is longer than what came in: it says more and counts as full. Else prove '..UptoSaid'. A law counts once. -/
mutual
def uptoBulk {H : Type} : DataW H → Nat
  | .lit (.string bytes) => bytes.length + 1
  | .lit _ => 1
  | .nil => 1
  | .ptr d => uptoBulk d + 1
  | .slice elems spare => uptoBulkAll elems + uptoBulkAll spare + 1
  | .agg parts => uptoBulkAll parts + 1
  | .iface _ d => uptoBulk d + 1
  | .map entries => uptoBulkEntries entries + 1
  | .held _ => 1
def uptoBulkAll {H : Type} : List (DataW H) → Nat
  | [] => 0
  | d :: r => uptoBulk d + uptoBulkAll r
def uptoBulkEntries {H : Type} : List (Lit × DataW H) → Nat
  | [] => 0
  | x :: r => uptoBulkEntry x + uptoBulkEntries r
def uptoBulkEntry {H : Type} : Lit × DataW H → Nat
  | (.string bytes, d) => bytes.length + uptoBulk d + 1
  | (_, d) => uptoBulk d + 1
 end
def uptoSmall : (H : Type) → List (DataW H) → Bool := fun _ ds => decide (uptoBulkAll ds ≤ 1048576)
def OpenSpec.upto (s : _root_.Go.ChangeSpec) : _root_.Go.OpenSpec := { _root_.Go.OpenSpec.ofChange s with cond := some uptoSmall }

/-- 'laws.FnBeats', WHERE WHAT IT READS IS OF BULK AT MOST 1048576: true; the input reads as it did. -/
def fnBeatsUptoRow : OpenClaim := { program := "ytjhkeknbbeckgaa", sum := "e5f56cb2c7121fdaf02599efae8d3da769ed8cc200f0dff0b1314f55451661d6", func := "loop.example/g00954/laws.FnBeats", spec := "fnBeats", apart := false, narrowed := true }
def FnBeatsUptoSaid : Prop := fnBeatsUptoRow.holds Try.pinned (OpenSpec.upto fnBeatsSpec)

/-- 'laws.FnExactFlat', WHERE WHAT IT READS IS OF BULK AT MOST 1048576: true; the input reads as it did. -/
def fnExactFlatUptoRow : OpenClaim := { program := "ytjhkeknbbeckgaa", sum := "e5f56cb2c7121fdaf02599efae8d3da769ed8cc200f0dff0b1314f55451661d6", func := "loop.example/g00954/laws.FnExactFlat", spec := "fnExactFlat", apart := false, narrowed := true }
def FnExactFlatUptoSaid : Prop := fnExactFlatUptoRow.holds Try.pinned (OpenSpec.upto fnExactFlatSpec)

/-- 'laws.FnExactBeatOk', WHERE WHAT IT READS IS OF BULK AT MOST 1048576: true; the input reads as it did. -/
def fnExactBeatOkUptoRow : OpenClaim := { program := "ytjhkeknbbeckgaa", sum := "e5f56cb2c7121fdaf02599efae8d3da769ed8cc200f0dff0b1314f55451661d6", func := "loop.example/g00954/laws.FnExactBeatOk", spec := "fnExactBeatOk", apart := false, narrowed := true }
def FnExactBeatOkUptoSaid : Prop := fnExactBeatOkUptoRow.holds Try.pinned (OpenSpec.upto fnExactBeatOkSpec)

/-- 'laws.FnExactBeatNew', WHERE WHAT IT READS IS OF BULK AT MOST 1048576: true; the input reads as it did. -/
def fnExactBeatNewUptoRow : OpenClaim := { program := "ytjhkeknbbeckgaa", sum := "e5f56cb2c7121fdaf02599efae8d3da769ed8cc200f0dff0b1314f55451661d6", func := "loop.example/g00954/laws.FnExactBeatNew", spec := "fnExactBeatNew", apart := false, narrowed := true }
def FnExactBeatNewUptoSaid : Prop := fnExactBeatNewUptoRow.holds Try.pinned (OpenSpec.upto fnExactBeatNewSpec)

/-- 'laws.FnExactLacks', WHERE WHAT IT READS IS OF BULK AT MOST 1048576: true; the input reads as it did. -/
def fnExactLacksUptoRow : OpenClaim := { program := "ytjhkeknbbeckgaa", sum := "e5f56cb2c7121fdaf02599efae8d3da769ed8cc200f0dff0b1314f55451661d6", func := "loop.example/g00954/laws.FnExactLacks", spec := "fnExactLacks", apart := false, narrowed := true }
def FnExactLacksUptoSaid : Prop := fnExactLacksUptoRow.holds Try.pinned (OpenSpec.upto fnExactLacksSpec)

/-- 'laws.FnExactBeatUp', WHERE WHAT IT READS IS OF BULK AT MOST 1048576: true; the input reads as it did. -/
def fnExactBeatUpUptoRow : OpenClaim := { program := "ytjhkeknbbeckgaa", sum := "e5f56cb2c7121fdaf02599efae8d3da769ed8cc200f0dff0b1314f55451661d6", func := "loop.example/g00954/laws.FnExactBeatUp", spec := "fnExactBeatUp", apart := false, narrowed := true }
def FnExactBeatUpUptoSaid : Prop := fnExactBeatUpUptoRow.holds Try.pinned (OpenSpec.upto fnExactBeatUpSpec)

/-- 'laws.FnExactDoubles', WHERE WHAT IT READS IS OF BULK AT MOST 1048576: true; the input reads as it did. -/
def fnExactDoublesUptoRow : OpenClaim := { program := "ytjhkeknbbeckgaa", sum := "e5f56cb2c7121fdaf02599efae8d3da769ed8cc200f0dff0b1314f55451661d6", func := "loop.example/g00954/laws.FnExactDoubles", spec := "fnExactDoubles", unfollowed := true, recurses := true, apart := false, narrowed := true }
def FnExactDoublesUptoSaid : Prop := fnExactDoublesUptoRow.holds Try.pinned (OpenSpec.upto fnExactDoublesSpec)

/-- 'laws.FnExactBeatLook', WHERE WHAT IT READS IS OF BULK AT MOST 1048576: true; the input reads as it did. -/
def fnExactBeatLookUptoRow : OpenClaim := { program := "ytjhkeknbbeckgaa", sum := "e5f56cb2c7121fdaf02599efae8d3da769ed8cc200f0dff0b1314f55451661d6", func := "loop.example/g00954/laws.FnExactBeatLook", spec := "fnExactBeatLook", apart := false, narrowed := true }
def FnExactBeatLookUptoSaid : Prop := fnExactBeatLookUptoRow.holds Try.pinned (OpenSpec.upto fnExactBeatLookSpec)

/-- 'laws.FnExactBeatHear', WHERE WHAT IT READS IS OF BULK AT MOST 1048576: true; the input reads as it did. -/
def fnExactBeatHearUptoRow : OpenClaim := { program := "ytjhkeknbbeckgaa", sum := "e5f56cb2c7121fdaf02599efae8d3da769ed8cc200f0dff0b1314f55451661d6", func := "loop.example/g00954/laws.FnExactBeatHear", spec := "fnExactBeatHear", apart := false, narrowed := true }
def FnExactBeatHearUptoSaid : Prop := fnExactBeatHearUptoRow.holds Try.pinned (OpenSpec.upto fnExactBeatHearSpec)

/-- 'laws.FnExactTreeOk', WHERE WHAT IT READS IS OF BULK AT MOST 1048576: true; the input reads as it did. -/
def fnExactTreeOkUptoRow : OpenClaim := { program := "ytjhkeknbbeckgaa", sum := "e5f56cb2c7121fdaf02599efae8d3da769ed8cc200f0dff0b1314f55451661d6", func := "loop.example/g00954/laws.FnExactTreeOk", spec := "fnExactTreeOk", unfollowed := true, recurses := true, apart := false, narrowed := true }
def FnExactTreeOkUptoSaid : Prop := fnExactTreeOkUptoRow.holds Try.pinned (OpenSpec.upto fnExactTreeOkSpec)

/-- 'laws.FnExactGaps', WHERE WHAT IT READS IS OF BULK AT MOST 1048576: true; the input reads as it did. -/
def fnExactGapsUptoRow : OpenClaim := { program := "ytjhkeknbbeckgaa", sum := "e5f56cb2c7121fdaf02599efae8d3da769ed8cc200f0dff0b1314f55451661d6", func := "loop.example/g00954/laws.FnExactGaps", spec := "fnExactGaps", recurses := true, apart := false, narrowed := true }
def FnExactGapsUptoSaid : Prop := fnExactGapsUptoRow.holds Try.pinned (OpenSpec.upto fnExactGapsSpec)

/-- 'laws.FnExactClients', WHERE WHAT IT READS IS OF BULK AT MOST 1048576: true; the input reads as it did. -/
def fnExactClientsUptoRow : OpenClaim := { program := "ytjhkeknbbeckgaa", sum := "e5f56cb2c7121fdaf02599efae8d3da769ed8cc200f0dff0b1314f55451661d6", func := "loop.example/g00954/laws.FnExactClients", spec := "fnExactClients", recurses := true, apart := false, narrowed := true }
def FnExactClientsUptoSaid : Prop := fnExactClientsUptoRow.holds Try.pinned (OpenSpec.upto fnExactClientsSpec)

end Rows
end Go.Proofs.Ytjhkeknbbeckgaa
