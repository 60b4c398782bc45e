/-
  No cell of these rows narrows 'for every input' (looked for: loops, veiled, ifaces, maps, wideKeys, modest, calm, conditions, laid).
  DERIVED. THE GIVEN ROWS OF THIS SEAT. 7 by the template 'for every input the law returns true; each argument reads behind the call as it read before'; 0 by the template 'total and deterministic' (their statements: YtdphdnllhmnelaaTotals.lean).
  GIVEN WITH THE SEED: the statements are not yours to turn. If you find one false, say at which input.
  Laid BY PROGRAM, IN A SANDBOX (cutbox-rows.mjs): the forced cells as the released guide's own fill.sh prints them over the translation b6527993a1c4391b… (all of the seat's roots in one cut). By AI agents, Wed Nov 11 2026. No macro, syntax, notation, axiom, sorry.
-/
import Derived.Test.YtdphdnllhmnelaaChecked
import GoSem.Claim
import GoSem.ClaimJoined
import GoSem.ClaimMapViews
import Derived.JoinedTies
import Derived.KernelRfl
namespace Go.Proofs.Ytdphdnllhmnelaa
/- THE CELL 'sum', in the pinned program and in every row, IS THE sha256 OF THE DUMP (.gsa) THAT YtdphdnllhmnelaaProg.lean LOADS. Nothing in Lean hashes anything: it is a label: what it is worth is what the hold of that sum in a sandbox is worth. -/
noncomputable def Try.pinned : Pinned := { name := "ytdphdnllhmnelaa", sum := "b6527993a1c4391b4538d564ee4e6e0991ddbbddad46ca4a2eeb1603403acb9e", checked := Try.checked }
namespace Rows
def none {H : Type} : Left H := { results := [], args := [] }

/-- 'laws.FnExactBatches': WHATEVER THE INPUT: true; the input reads as it did. -/
def fnExactBatchesSpec : ChangeSpec := { name := "fnExactBatches", fn := fun _ => fun
  | [d] => { results := [.lit (.bool true)], args := [d] }
  | _ => none }
def fnExactBatchesRow : OpenClaim := { program := "ytdphdnllhmnelaa", sum := "b6527993a1c4391b4538d564ee4e6e0991ddbbddad46ca4a2eeb1603403acb9e", func := "loop.example/g00954/laws.FnExactBatches", spec := "fnExactBatches", apart := false }
def FnExactBatchesSaid : Prop := fnExactBatchesRow.holds Try.pinned (OpenSpec.ofChange fnExactBatchesSpec)

/-- ITS FALSE NEIGHBOUR: 'it returns false'. Refute it at one input. -/
def fnExactBatchesWrong : ChangeSpec := { name := "fnExactBatches", fn := fun _ => fun
  | [d] => { results := [.lit (.bool false)], args := [d] }
  | _ => none }
def FnExactBatchesWrongFalsely : Prop := fnExactBatchesRow.holds Try.pinned (OpenSpec.ofChange fnExactBatchesWrong)

/-- 'laws.FnExactBatchFits': WHATEVER THE INPUT: true; the input reads as it did. -/
def fnExactBatchFitsSpec : ChangeSpec := { name := "fnExactBatchFits", fn := fun _ => fun
  | [d1, d2] => { results := [.lit (.bool true)], args := [d1, d2] }
  | _ => none }
def fnExactBatchFitsRow : OpenClaim := { program := "ytdphdnllhmnelaa", sum := "b6527993a1c4391b4538d564ee4e6e0991ddbbddad46ca4a2eeb1603403acb9e", func := "loop.example/g00954/laws.FnExactBatchFits", spec := "fnExactBatchFits", unfollowed := true, recurses := true, apart := false }
def FnExactBatchFitsSaid : Prop := fnExactBatchFitsRow.holds Try.pinned (OpenSpec.ofChange fnExactBatchFitsSpec)

/-- ITS FALSE NEIGHBOUR: 'it returns false'. Refute it at one input. -/
def fnExactBatchFitsWrong : ChangeSpec := { name := "fnExactBatchFits", fn := fun _ => fun
  | [d1, d2] => { results := [.lit (.bool false)], args := [d1, d2] }
  | _ => none }
def FnExactBatchFitsWrongFalsely : Prop := fnExactBatchFitsRow.holds Try.pinned (OpenSpec.ofChange fnExactBatchFitsWrong)

/-- 'laws.FnExactShowInst': WHATEVER THE INPUT: true; the input reads as it did. -/
def fnExactShowInstSpec : ChangeSpec := { name := "fnExactShowInst", fn := fun _ => fun
  | [d] => { results := [.lit (.bool true)], args := [d] }
  | _ => none }
def fnExactShowInstRow : OpenClaim := { program := "ytdphdnllhmnelaa", sum := "b6527993a1c4391b4538d564ee4e6e0991ddbbddad46ca4a2eeb1603403acb9e", func := "loop.example/g00954/laws.FnExactShowInst", spec := "fnExactShowInst", apart := false }
def FnExactShowInstSaid : Prop := fnExactShowInstRow.holds Try.pinned (OpenSpec.ofChange fnExactShowInstSpec)

/-- ITS FALSE NEIGHBOUR: 'it returns false'. Refute it at one input. -/
def fnExactShowInstWrong : ChangeSpec := { name := "fnExactShowInst", fn := fun _ => fun
  | [d] => { results := [.lit (.bool false)], args := [d] }
  | _ => none }
def FnExactShowInstWrongFalsely : Prop := fnExactShowInstRow.holds Try.pinned (OpenSpec.ofChange fnExactShowInstWrong)

/-- 'laws.FnExactReadInst': WHATEVER THE INPUT: true; the input reads as it did. -/
def fnExactReadInstSpec : ChangeSpec := { name := "fnExactReadInst", fn := fun _ => fun
  | [d] => { results := [.lit (.bool true)], args := [d] }
  | _ => none }
def fnExactReadInstRow : OpenClaim := { program := "ytdphdnllhmnelaa", sum := "b6527993a1c4391b4538d564ee4e6e0991ddbbddad46ca4a2eeb1603403acb9e", func := "loop.example/g00954/laws.FnExactReadInst", spec := "fnExactReadInst", apart := false }
def FnExactReadInstSaid : Prop := fnExactReadInstRow.holds Try.pinned (OpenSpec.ofChange fnExactReadInstSpec)

/-- ITS FALSE NEIGHBOUR: 'it returns false'. Refute it at one input. -/
def fnExactReadInstWrong : ChangeSpec := { name := "fnExactReadInst", fn := fun _ => fun
  | [d] => { results := [.lit (.bool false)], args := [d] }
  | _ => none }
def FnExactReadInstWrongFalsely : Prop := fnExactReadInstRow.holds Try.pinned (OpenSpec.ofChange fnExactReadInstWrong)

/-- 'laws.FnExactSaveNode': WHATEVER THE INPUT: true; the input reads as it did. -/
def fnExactSaveNodeSpec : ChangeSpec := { name := "fnExactSaveNode", fn := fun _ => fun
  | [d] => { results := [.lit (.bool true)], args := [d] }
  | _ => none }
def fnExactSaveNodeRow : OpenClaim := { program := "ytdphdnllhmnelaa", sum := "b6527993a1c4391b4538d564ee4e6e0991ddbbddad46ca4a2eeb1603403acb9e", func := "loop.example/g00954/laws.FnExactSaveNode", spec := "fnExactSaveNode", unfollowed := true, recurses := true, apart := false }
def FnExactSaveNodeSaid : Prop := fnExactSaveNodeRow.holds Try.pinned (OpenSpec.ofChange fnExactSaveNodeSpec)

/-- ITS FALSE NEIGHBOUR: 'it returns false'. Refute it at one input. -/
def fnExactSaveNodeWrong : ChangeSpec := { name := "fnExactSaveNode", fn := fun _ => fun
  | [d] => { results := [.lit (.bool false)], args := [d] }
  | _ => none }
def FnExactSaveNodeWrongFalsely : Prop := fnExactSaveNodeRow.holds Try.pinned (OpenSpec.ofChange fnExactSaveNodeWrong)

/-- 'laws.FnExactLoadNode': WHATEVER THE INPUT: true; the input reads as it did. -/
def fnExactLoadNodeSpec : ChangeSpec := { name := "fnExactLoadNode", fn := fun _ => fun
  | [d] => { results := [.lit (.bool true)], args := [d] }
  | _ => none }
def fnExactLoadNodeRow : OpenClaim := { program := "ytdphdnllhmnelaa", sum := "b6527993a1c4391b4538d564ee4e6e0991ddbbddad46ca4a2eeb1603403acb9e", func := "loop.example/g00954/laws.FnExactLoadNode", spec := "fnExactLoadNode", unfollowed := true, recurses := true, apart := false }
def FnExactLoadNodeSaid : Prop := fnExactLoadNodeRow.holds Try.pinned (OpenSpec.ofChange fnExactLoadNodeSpec)

/-- ITS FALSE NEIGHBOUR: 'it returns false'. Refute it at one input. -/
def fnExactLoadNodeWrong : ChangeSpec := { name := "fnExactLoadNode", fn := fun _ => fun
  | [d] => { results := [.lit (.bool false)], args := [d] }
  | _ => none }
def FnExactLoadNodeWrongFalsely : Prop := fnExactLoadNodeRow.holds Try.pinned (OpenSpec.ofChange fnExactLoadNodeWrong)

/-- 'laws.FnBatches': WHATEVER THE INPUT: true; the input reads as it did. -/
def fnBatchesSpec : ChangeSpec := { name := "fnBatches", fn := fun _ => fun
  | [d] => { results := [.lit (.bool true)], args := [d] }
  | _ => none }
def fnBatchesRow : OpenClaim := { program := "ytdphdnllhmnelaa", sum := "b6527993a1c4391b4538d564ee4e6e0991ddbbddad46ca4a2eeb1603403acb9e", func := "loop.example/g00954/laws.FnBatches", spec := "fnBatches", inPlace := ["slices.overlaps[loop.example/g00954/impl.CSet]", "slices.overlaps[loop.example/g00954/impl.Said]"], unfollowed := true, recurses := true, apart := false }
def FnBatchesSaid : Prop := fnBatchesRow.holds Try.pinned (OpenSpec.ofChange fnBatchesSpec)

/-- ITS FALSE NEIGHBOUR: 'it returns false'. Refute it at one input. -/
def fnBatchesWrong : ChangeSpec := { name := "fnBatches", fn := fun _ => fun
  | [d] => { results := [.lit (.bool false)], args := [d] }
  | _ => none }
def FnBatchesWrongFalsely : Prop := fnBatchesRow.holds Try.pinned (OpenSpec.ofChange fnBatchesWrong)

/- THE SECOND FORM. 'bulk': how many values and letters a reading holds, each counted each time it is reached (what is shared counts as often as it is met; a slice's spare places count too). A statement '..UptoSaid' is the law's where the arguments, and the package variables that the reading takes, are together of bulk at most 1048576: NARROWER than '..Said'. Prove '..Said' where nothing that the law and all that it calls make is longer than what came in: it says more and counts as full. Else prove '..UptoSaid'. A law counts once. -/
mutual
def uptoBulk {H : Type} : DataW H → Nat
  | .lit (.string bytes) => bytes.length + 1
  | .lit _ => 1
  | .nil => 1
  | .ptr d => uptoBulk d + 1
  | .slice elems spare => uptoBulkAll elems + uptoBulkAll spare + 1
  | .agg parts => uptoBulkAll parts + 1
  | .iface _ d => uptoBulk d + 1
  | .map entries => uptoBulkEntries entries + 1
  | .held _ => 1
def uptoBulkAll {H : Type} : List (DataW H) → Nat
  | [] => 0
  | d :: r => uptoBulk d + uptoBulkAll r
def uptoBulkEntries {H : Type} : List (Lit × DataW H) → Nat
  | [] => 0
  | x :: r => uptoBulkEntry x + uptoBulkEntries r
def uptoBulkEntry {H : Type} : Lit × DataW H → Nat
  | (.string bytes, d) => bytes.length + uptoBulk d + 1
  | (_, d) => uptoBulk d + 1
 end
def uptoSmall : (H : Type) → List (DataW H) → Bool := fun _ ds => decide (uptoBulkAll ds ≤ 1048576)
def OpenSpec.upto (s : _root_.Go.ChangeSpec) : _root_.Go.OpenSpec := { _root_.Go.OpenSpec.ofChange s with cond := some uptoSmall }

/-- 'laws.FnExactBatches', WHERE WHAT IT READS IS OF BULK AT MOST 1048576: true; the input reads as it did. -/
def fnExactBatchesUptoRow : OpenClaim := { program := "ytdphdnllhmnelaa", sum := "b6527993a1c4391b4538d564ee4e6e0991ddbbddad46ca4a2eeb1603403acb9e", func := "loop.example/g00954/laws.FnExactBatches", spec := "fnExactBatches", apart := false, narrowed := true }
def FnExactBatchesUptoSaid : Prop := fnExactBatchesUptoRow.holds Try.pinned (OpenSpec.upto fnExactBatchesSpec)

/-- 'laws.FnExactBatchFits', WHERE WHAT IT READS IS OF BULK AT MOST 1048576: true; the input reads as it did. -/
def fnExactBatchFitsUptoRow : OpenClaim := { program := "ytdphdnllhmnelaa", sum := "b6527993a1c4391b4538d564ee4e6e0991ddbbddad46ca4a2eeb1603403acb9e", func := "loop.example/g00954/laws.FnExactBatchFits", spec := "fnExactBatchFits", unfollowed := true, recurses := true, apart := false, narrowed := true }
def FnExactBatchFitsUptoSaid : Prop := fnExactBatchFitsUptoRow.holds Try.pinned (OpenSpec.upto fnExactBatchFitsSpec)

/-- 'laws.FnExactShowInst', WHERE WHAT IT READS IS OF BULK AT MOST 1048576: true; the input reads as it did. -/
def fnExactShowInstUptoRow : OpenClaim := { program := "ytdphdnllhmnelaa", sum := "b6527993a1c4391b4538d564ee4e6e0991ddbbddad46ca4a2eeb1603403acb9e", func := "loop.example/g00954/laws.FnExactShowInst", spec := "fnExactShowInst", apart := false, narrowed := true }
def FnExactShowInstUptoSaid : Prop := fnExactShowInstUptoRow.holds Try.pinned (OpenSpec.upto fnExactShowInstSpec)

/-- 'laws.FnExactReadInst', WHERE WHAT IT READS IS OF BULK AT MOST 1048576: true; the input reads as it did. -/
def fnExactReadInstUptoRow : OpenClaim := { program := "ytdphdnllhmnelaa", sum := "b6527993a1c4391b4538d564ee4e6e0991ddbbddad46ca4a2eeb1603403acb9e", func := "loop.example/g00954/laws.FnExactReadInst", spec := "fnExactReadInst", apart := false, narrowed := true }
def FnExactReadInstUptoSaid : Prop := fnExactReadInstUptoRow.holds Try.pinned (OpenSpec.upto fnExactReadInstSpec)

/-- 'laws.FnExactSaveNode', WHERE WHAT IT READS IS OF BULK AT MOST 1048576: true; the input reads as it did. -/
def fnExactSaveNodeUptoRow : OpenClaim := { program := "ytdphdnllhmnelaa", sum := "b6527993a1c4391b4538d564ee4e6e0991ddbbddad46ca4a2eeb1603403acb9e", func := "loop.example/g00954/laws.FnExactSaveNode", spec := "fnExactSaveNode", unfollowed := true, recurses := true, apart := false, narrowed := true }
def FnExactSaveNodeUptoSaid : Prop := fnExactSaveNodeUptoRow.holds Try.pinned (OpenSpec.upto fnExactSaveNodeSpec)

/-- 'laws.FnExactLoadNode', WHERE WHAT IT READS IS OF BULK AT MOST 1048576: true; the input reads as it did. -/
def fnExactLoadNodeUptoRow : OpenClaim := { program := "ytdphdnllhmnelaa", sum := "b6527993a1c4391b4538d564ee4e6e0991ddbbddad46ca4a2eeb1603403acb9e", func := "loop.example/g00954/laws.FnExactLoadNode", spec := "fnExactLoadNode", unfollowed := true, recurses := true, apart := false, narrowed := true }
def FnExactLoadNodeUptoSaid : Prop := fnExactLoadNodeUptoRow.holds Try.pinned (OpenSpec.upto fnExactLoadNodeSpec)

/-- 'laws.FnBatches', WHERE WHAT IT READS IS OF BULK AT MOST 1048576: true; the input reads as it did. -/
def fnBatchesUptoRow : OpenClaim := { program := "ytdphdnllhmnelaa", sum := "b6527993a1c4391b4538d564ee4e6e0991ddbbddad46ca4a2eeb1603403acb9e", func := "loop.example/g00954/laws.FnBatches", spec := "fnBatches", inPlace := ["slices.overlaps[loop.example/g00954/impl.CSet]", "slices.overlaps[loop.example/g00954/impl.Said]"], unfollowed := true, recurses := true, apart := false, narrowed := true }
def FnBatchesUptoSaid : Prop := fnBatchesUptoRow.holds Try.pinned (OpenSpec.upto fnBatchesSpec)

end Rows
end Go.Proofs.Ytdphdnllhmnelaa
