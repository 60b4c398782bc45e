/-
  No cell of these rows narrows 'for every input' (looked for: loops, veiled, ifaces, maps, wideKeys, modest, calm, conditions, laid).
  DERIVED. THE GIVEN ROWS OF THIS SEAT. 2 by the template 'for every input the law returns true; each argument reads behind the call as it read before'; 0 by the template 'total and deterministic' (their statements: YtdphdnllhmnelaaGreatTotals.lean).
  GIVEN WITH THE SEED: the statements are not yours to turn. If you find one false, say at which input.
  Laid BY PROGRAM, IN A SANDBOX (cutbox-rows.mjs): the forced cells as the released guide's own fill.sh prints them over the translation 8bc6d4dee74ccd4c… (all of the seat's roots in one cut). By AI agents, Wed Nov 11 2026. No macro, syntax, notation, axiom, sorry.
-/
import Derived.Test.YtdphdnllhmnelaaGreatChecked
import GoSem.Claim
import GoSem.ClaimJoined
import GoSem.ClaimMapViews
import Derived.JoinedTies
import Derived.KernelRfl
namespace Go.Proofs.YtdphdnllhmnelaaGreat
/- THE CELL 'sum', in the pinned program and in every row, IS THE sha256 OF THE DUMP (.gsa) THAT YtdphdnllhmnelaaGreatProg.lean LOADS. Nothing in Lean hashes anything: it is a label: what it is worth is what the hold of that sum in a sandbox is worth. -/
noncomputable def Tryz.pinned : Pinned := { name := "ytdphdnllhmnelaagreat", sum := "8bc6d4dee74ccd4c04e77ccaed2ad3e5ba1e5cf867e5328e8c0d2eba25b7a53c", checked := Tryz.checked }
namespace Rows
def none {H : Type} : Left H := { results := [], args := [] }

/-- 'laws.FnExactRunIn': WHATEVER THE INPUT: true; the input reads as it did. -/
def fnExactRunInSpec : ChangeSpec := { name := "fnExactRunIn", fn := fun _ => fun
  | [d1, d2] => { results := [.lit (.bool true)], args := [d1, d2] }
  | _ => none }
def fnExactRunInRow : OpenClaim := { program := "ytdphdnllhmnelaagreat", sum := "8bc6d4dee74ccd4c04e77ccaed2ad3e5ba1e5cf867e5328e8c0d2eba25b7a53c", func := "loop.example/g00954/laws.FnExactRunIn", spec := "fnExactRunIn", inPlace := ["slices.overlaps[loop.example/g00954/impl.CSet]", "slices.overlaps[loop.example/g00954/impl.Said]"], unfollowed := true, recurses := true, apart := false }
def FnExactRunInSaid : Prop := fnExactRunInRow.holds Tryz.pinned (OpenSpec.ofChange fnExactRunInSpec)

/-- ITS FALSE NEIGHBOUR: 'it returns false'. Refute it at one input. -/
def fnExactRunInWrong : ChangeSpec := { name := "fnExactRunIn", fn := fun _ => fun
  | [d1, d2] => { results := [.lit (.bool false)], args := [d1, d2] }
  | _ => none }
def FnExactRunInWrongFalsely : Prop := fnExactRunInRow.holds Tryz.pinned (OpenSpec.ofChange fnExactRunInWrong)

/-- 'laws.FnSaved': WHATEVER THE INPUT: true; the input reads as it did. -/
def fnSavedSpec : ChangeSpec := { name := "fnSaved", fn := fun _ => fun
  | [d] => { results := [.lit (.bool true)], args := [d] }
  | _ => none }
def fnSavedRow : OpenClaim := { program := "ytdphdnllhmnelaagreat", sum := "8bc6d4dee74ccd4c04e77ccaed2ad3e5ba1e5cf867e5328e8c0d2eba25b7a53c", func := "loop.example/g00954/laws.FnSaved", spec := "fnSaved", unfollowed := true, recurses := true, apart := false }
def FnSavedSaid : Prop := fnSavedRow.holds Tryz.pinned (OpenSpec.ofChange fnSavedSpec)

/-- ITS FALSE NEIGHBOUR: 'it returns false'. Refute it at one input. -/
def fnSavedWrong : ChangeSpec := { name := "fnSaved", fn := fun _ => fun
  | [d] => { results := [.lit (.bool false)], args := [d] }
  | _ => none }
def FnSavedWrongFalsely : Prop := fnSavedRow.holds Tryz.pinned (OpenSpec.ofChange fnSavedWrong)

/- THE SECOND FORM. 'bulk': how many values and letters a reading holds, each counted each time it is reached (what is shared counts as often as it is met; a slice's spare places count too). A statement '..UptoSaid' is the law's where the arguments, and the package variables that the reading takes, are together of bulk at most 1048576: NARROWER than '..Said'. Prove '..Said' where nothing that the law and all that it calls make is longer than what came in: it says more and counts as full. Else prove '..UptoSaid'. A law counts once. -/
mutual
def uptoBulk {H : Type} : DataW H → Nat
  | .lit (.string bytes) => bytes.length + 1
  | .lit _ => 1
  | .nil => 1
  | .ptr d => uptoBulk d + 1
  | .slice elems spare => uptoBulkAll elems + uptoBulkAll spare + 1
  | .agg parts => uptoBulkAll parts + 1
  | .iface _ d => uptoBulk d + 1
  | .map entries => uptoBulkEntries entries + 1
  | .held _ => 1
def uptoBulkAll {H : Type} : List (DataW H) → Nat
  | [] => 0
  | d :: r => uptoBulk d + uptoBulkAll r
def uptoBulkEntries {H : Type} : List (Lit × DataW H) → Nat
  | [] => 0
  | x :: r => uptoBulkEntry x + uptoBulkEntries r
def uptoBulkEntry {H : Type} : Lit × DataW H → Nat
  | (.string bytes, d) => bytes.length + uptoBulk d + 1
  | (_, d) => uptoBulk d + 1
 end
def uptoSmall : (H : Type) → List (DataW H) → Bool := fun _ ds => decide (uptoBulkAll ds ≤ 1048576)
def OpenSpec.upto (s : _root_.Go.ChangeSpec) : _root_.Go.OpenSpec := { _root_.Go.OpenSpec.ofChange s with cond := some uptoSmall }

/-- 'laws.FnExactRunIn', WHERE WHAT IT READS IS OF BULK AT MOST 1048576: true; the input reads as it did. -/
def fnExactRunInUptoRow : OpenClaim := { program := "ytdphdnllhmnelaagreat", sum := "8bc6d4dee74ccd4c04e77ccaed2ad3e5ba1e5cf867e5328e8c0d2eba25b7a53c", func := "loop.example/g00954/laws.FnExactRunIn", spec := "fnExactRunIn", inPlace := ["slices.overlaps[loop.example/g00954/impl.CSet]", "slices.overlaps[loop.example/g00954/impl.Said]"], unfollowed := true, recurses := true, apart := false, narrowed := true }
def FnExactRunInUptoSaid : Prop := fnExactRunInUptoRow.holds Tryz.pinned (OpenSpec.upto fnExactRunInSpec)

/-- 'laws.FnSaved', WHERE WHAT IT READS IS OF BULK AT MOST 1048576: true; the input reads as it did. -/
def fnSavedUptoRow : OpenClaim := { program := "ytdphdnllhmnelaagreat", sum := "8bc6d4dee74ccd4c04e77ccaed2ad3e5ba1e5cf867e5328e8c0d2eba25b7a53c", func := "loop.example/g00954/laws.FnSaved", spec := "fnSaved", unfollowed := true, recurses := true, apart := false, narrowed := true }
def FnSavedUptoSaid : Prop := fnSavedUptoRow.holds Tryz.pinned (OpenSpec.upto fnSavedSpec)

end Rows
end Go.Proofs.YtdphdnllhmnelaaGreat
