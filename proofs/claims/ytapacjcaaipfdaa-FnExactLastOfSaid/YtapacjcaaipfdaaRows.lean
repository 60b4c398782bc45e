/-
  No cell of these rows narrows 'for every input' (looked for: loops, veiled, ifaces, maps, wideKeys, modest, calm, conditions, laid).
  DERIVED. THE GIVEN ROWS OF THIS SEAT. 12 by the template 'for every input the law returns true; each argument reads behind the call as it read before'; 0 by the template 'total and deterministic' (their statements: YtapacjcaaipfdaaTotals.lean).
  GIVEN WITH THE SEED: the statements are not yours to turn. If you find one false, say at which input.
  Laid BY PROGRAM, IN A SANDBOX (cutbox-rows.mjs): the forced cells as the released guide's own fill.sh prints them over the translation 11dfd17674b97b23… (all of the seat's roots in one cut). By AI agents, Wed Nov 11 2026. No macro, syntax, notation, axiom, sorry.
-/
import Derived.Test.YtapacjcaaipfdaaChecked
import GoSem.Claim
import GoSem.ClaimJoined
import GoSem.ClaimMapViews
import Derived.JoinedTies
import Derived.KernelRfl
namespace Go.Proofs.Ytapacjcaaipfdaa
/- THE CELL 'sum', in the pinned program and in every row, IS THE sha256 OF THE DUMP (.gsa) THAT YtapacjcaaipfdaaProg.lean LOADS. Nothing in Lean hashes anything: it is a label: what it is worth is what the hold of that sum in a sandbox is worth. -/
noncomputable def Try.pinned : Pinned := { name := "ytapacjcaaipfdaa", sum := "11dfd17674b97b23176141c027ab00b6f45b89adac98942fdaed7ad70643b807", checked := Try.checked }
namespace Rows
def none {H : Type} : Left H := { results := [], args := [] }

/-- 'laws.FnExactBucketOf': WHATEVER THE INPUT: true; the input reads as it did. -/
def fnExactBucketOfSpec : ChangeSpec := { name := "fnExactBucketOf", fn := fun _ => fun
  | [d] => { results := [.lit (.bool true)], args := [d] }
  | _ => none }
def fnExactBucketOfRow : OpenClaim := { program := "ytapacjcaaipfdaa", sum := "11dfd17674b97b23176141c027ab00b6f45b89adac98942fdaed7ad70643b807", func := "loop.example/g00954/laws.FnExactBucketOf", spec := "fnExactBucketOf", apart := false }
def FnExactBucketOfSaid : Prop := fnExactBucketOfRow.holds Try.pinned (OpenSpec.ofChange fnExactBucketOfSpec)

/-- ITS FALSE NEIGHBOUR: 'it returns false'. Refute it at one input. -/
def fnExactBucketOfWrong : ChangeSpec := { name := "fnExactBucketOf", fn := fun _ => fun
  | [d] => { results := [.lit (.bool false)], args := [d] }
  | _ => none }
def FnExactBucketOfWrongFalsely : Prop := fnExactBucketOfRow.holds Try.pinned (OpenSpec.ofChange fnExactBucketOfWrong)

/-- 'laws.FnExactStampOk': WHATEVER THE INPUT: true; the input reads as it did. -/
def fnExactStampOkSpec : ChangeSpec := { name := "fnExactStampOk", fn := fun _ => fun
  | [d] => { results := [.lit (.bool true)], args := [d] }
  | _ => none }
def fnExactStampOkRow : OpenClaim := { program := "ytapacjcaaipfdaa", sum := "11dfd17674b97b23176141c027ab00b6f45b89adac98942fdaed7ad70643b807", func := "loop.example/g00954/laws.FnExactStampOk", spec := "fnExactStampOk", apart := false }
def FnExactStampOkSaid : Prop := fnExactStampOkRow.holds Try.pinned (OpenSpec.ofChange fnExactStampOkSpec)

/-- ITS FALSE NEIGHBOUR: 'it returns false'. Refute it at one input. -/
def fnExactStampOkWrong : ChangeSpec := { name := "fnExactStampOk", fn := fun _ => fun
  | [d] => { results := [.lit (.bool false)], args := [d] }
  | _ => none }
def FnExactStampOkWrongFalsely : Prop := fnExactStampOkRow.holds Try.pinned (OpenSpec.ofChange fnExactStampOkWrong)

/-- 'laws.FnExactStampLess': WHATEVER THE INPUT: true; the input reads as it did. -/
def fnExactStampLessSpec : ChangeSpec := { name := "fnExactStampLess", fn := fun _ => fun
  | [d1, d2] => { results := [.lit (.bool true)], args := [d1, d2] }
  | _ => none }
def fnExactStampLessRow : OpenClaim := { program := "ytapacjcaaipfdaa", sum := "11dfd17674b97b23176141c027ab00b6f45b89adac98942fdaed7ad70643b807", func := "loop.example/g00954/laws.FnExactStampLess", spec := "fnExactStampLess", apart := false }
def FnExactStampLessSaid : Prop := fnExactStampLessRow.holds Try.pinned (OpenSpec.ofChange fnExactStampLessSpec)

/-- ITS FALSE NEIGHBOUR: 'it returns false'. Refute it at one input. -/
def fnExactStampLessWrong : ChangeSpec := { name := "fnExactStampLess", fn := fun _ => fun
  | [d1, d2] => { results := [.lit (.bool false)], args := [d1, d2] }
  | _ => none }
def FnExactStampLessWrongFalsely : Prop := fnExactStampLessRow.holds Try.pinned (OpenSpec.ofChange fnExactStampLessWrong)

/-- 'laws.FnExactSetOk': WHATEVER THE INPUT: true; the input reads as it did. -/
def fnExactSetOkSpec : ChangeSpec := { name := "fnExactSetOk", fn := fun _ => fun
  | [d] => { results := [.lit (.bool true)], args := [d] }
  | _ => none }
def fnExactSetOkRow : OpenClaim := { program := "ytapacjcaaipfdaa", sum := "11dfd17674b97b23176141c027ab00b6f45b89adac98942fdaed7ad70643b807", func := "loop.example/g00954/laws.FnExactSetOk", spec := "fnExactSetOk", apart := false }
def FnExactSetOkSaid : Prop := fnExactSetOkRow.holds Try.pinned (OpenSpec.ofChange fnExactSetOkSpec)

/-- ITS FALSE NEIGHBOUR: 'it returns false'. Refute it at one input. -/
def fnExactSetOkWrong : ChangeSpec := { name := "fnExactSetOk", fn := fun _ => fun
  | [d] => { results := [.lit (.bool false)], args := [d] }
  | _ => none }
def FnExactSetOkWrongFalsely : Prop := fnExactSetOkRow.holds Try.pinned (OpenSpec.ofChange fnExactSetOkWrong)

/-- 'laws.FnExactShowStamp': WHATEVER THE INPUT: true; the input reads as it did. -/
def fnExactShowStampSpec : ChangeSpec := { name := "fnExactShowStamp", fn := fun _ => fun
  | [d] => { results := [.lit (.bool true)], args := [d] }
  | _ => none }
def fnExactShowStampRow : OpenClaim := { program := "ytapacjcaaipfdaa", sum := "11dfd17674b97b23176141c027ab00b6f45b89adac98942fdaed7ad70643b807", func := "loop.example/g00954/laws.FnExactShowStamp", spec := "fnExactShowStamp", apart := false }
def FnExactShowStampSaid : Prop := fnExactShowStampRow.holds Try.pinned (OpenSpec.ofChange fnExactShowStampSpec)

/-- ITS FALSE NEIGHBOUR: 'it returns false'. Refute it at one input. -/
def fnExactShowStampWrong : ChangeSpec := { name := "fnExactShowStamp", fn := fun _ => fun
  | [d] => { results := [.lit (.bool false)], args := [d] }
  | _ => none }
def FnExactShowStampWrongFalsely : Prop := fnExactShowStampRow.holds Try.pinned (OpenSpec.ofChange fnExactShowStampWrong)

/-- 'laws.FnExactPathOk': WHATEVER THE INPUT: true; the input reads as it did. -/
def fnExactPathOkSpec : ChangeSpec := { name := "fnExactPathOk", fn := fun _ => fun
  | [d] => { results := [.lit (.bool true)], args := [d] }
  | _ => none }
def fnExactPathOkRow : OpenClaim := { program := "ytapacjcaaipfdaa", sum := "11dfd17674b97b23176141c027ab00b6f45b89adac98942fdaed7ad70643b807", func := "loop.example/g00954/laws.FnExactPathOk", spec := "fnExactPathOk", apart := false }
def FnExactPathOkSaid : Prop := fnExactPathOkRow.holds Try.pinned (OpenSpec.ofChange fnExactPathOkSpec)

/-- ITS FALSE NEIGHBOUR: 'it returns false'. Refute it at one input. -/
def fnExactPathOkWrong : ChangeSpec := { name := "fnExactPathOk", fn := fun _ => fun
  | [d] => { results := [.lit (.bool false)], args := [d] }
  | _ => none }
def FnExactPathOkWrongFalsely : Prop := fnExactPathOkRow.holds Try.pinned (OpenSpec.ofChange fnExactPathOkWrong)

/-- 'laws.FnExactStampNow': WHATEVER THE INPUT: true; the input reads as it did. -/
def fnExactStampNowSpec : ChangeSpec := { name := "fnExactStampNow", fn := fun _ => fun
  | [d1, d2] => { results := [.lit (.bool true)], args := [d1, d2] }
  | _ => none }
def fnExactStampNowRow : OpenClaim := { program := "ytapacjcaaipfdaa", sum := "11dfd17674b97b23176141c027ab00b6f45b89adac98942fdaed7ad70643b807", func := "loop.example/g00954/laws.FnExactStampNow", spec := "fnExactStampNow", apart := false }
def FnExactStampNowSaid : Prop := fnExactStampNowRow.holds Try.pinned (OpenSpec.ofChange fnExactStampNowSpec)

/-- ITS FALSE NEIGHBOUR: 'it returns false'. Refute it at one input. -/
def fnExactStampNowWrong : ChangeSpec := { name := "fnExactStampNow", fn := fun _ => fun
  | [d1, d2] => { results := [.lit (.bool false)], args := [d1, d2] }
  | _ => none }
def FnExactStampNowWrongFalsely : Prop := fnExactStampNowRow.holds Try.pinned (OpenSpec.ofChange fnExactStampNowWrong)

/-- 'laws.FnExactReadStamp': WHATEVER THE INPUT: true; the input reads as it did. -/
def fnExactReadStampSpec : ChangeSpec := { name := "fnExactReadStamp", fn := fun _ => fun
  | [d] => { results := [.lit (.bool true)], args := [d] }
  | _ => none }
def fnExactReadStampRow : OpenClaim := { program := "ytapacjcaaipfdaa", sum := "11dfd17674b97b23176141c027ab00b6f45b89adac98942fdaed7ad70643b807", func := "loop.example/g00954/laws.FnExactReadStamp", spec := "fnExactReadStamp", apart := false }
def FnExactReadStampSaid : Prop := fnExactReadStampRow.holds Try.pinned (OpenSpec.ofChange fnExactReadStampSpec)

/-- ITS FALSE NEIGHBOUR: 'it returns false'. Refute it at one input. -/
def fnExactReadStampWrong : ChangeSpec := { name := "fnExactReadStamp", fn := fun _ => fun
  | [d] => { results := [.lit (.bool false)], args := [d] }
  | _ => none }
def FnExactReadStampWrongFalsely : Prop := fnExactReadStampRow.holds Try.pinned (OpenSpec.ofChange fnExactReadStampWrong)

/-- 'laws.FnExactEventsOk': WHATEVER THE INPUT: true; the input reads as it did. -/
def fnExactEventsOkSpec : ChangeSpec := { name := "fnExactEventsOk", fn := fun _ => fun
  | [d] => { results := [.lit (.bool true)], args := [d] }
  | _ => none }
def fnExactEventsOkRow : OpenClaim := { program := "ytapacjcaaipfdaa", sum := "11dfd17674b97b23176141c027ab00b6f45b89adac98942fdaed7ad70643b807", func := "loop.example/g00954/laws.FnExactEventsOk", spec := "fnExactEventsOk", apart := false }
def FnExactEventsOkSaid : Prop := fnExactEventsOkRow.holds Try.pinned (OpenSpec.ofChange fnExactEventsOkSpec)

/-- ITS FALSE NEIGHBOUR: 'it returns false'. Refute it at one input. -/
def fnExactEventsOkWrong : ChangeSpec := { name := "fnExactEventsOk", fn := fun _ => fun
  | [d] => { results := [.lit (.bool false)], args := [d] }
  | _ => none }
def FnExactEventsOkWrongFalsely : Prop := fnExactEventsOkRow.holds Try.pinned (OpenSpec.ofChange fnExactEventsOkWrong)

/-- 'laws.FnExactStampHear': WHATEVER THE INPUT: true; the input reads as it did. -/
def fnExactStampHearSpec : ChangeSpec := { name := "fnExactStampHear", fn := fun _ => fun
  | [d1, d2, d3] => { results := [.lit (.bool true)], args := [d1, d2, d3] }
  | _ => none }
def fnExactStampHearRow : OpenClaim := { program := "ytapacjcaaipfdaa", sum := "11dfd17674b97b23176141c027ab00b6f45b89adac98942fdaed7ad70643b807", func := "loop.example/g00954/laws.FnExactStampHear", spec := "fnExactStampHear", apart := false }
def FnExactStampHearSaid : Prop := fnExactStampHearRow.holds Try.pinned (OpenSpec.ofChange fnExactStampHearSpec)

/-- ITS FALSE NEIGHBOUR: 'it returns false'. Refute it at one input. -/
def fnExactStampHearWrong : ChangeSpec := { name := "fnExactStampHear", fn := fun _ => fun
  | [d1, d2, d3] => { results := [.lit (.bool false)], args := [d1, d2, d3] }
  | _ => none }
def FnExactStampHearWrongFalsely : Prop := fnExactStampHearRow.holds Try.pinned (OpenSpec.ofChange fnExactStampHearWrong)

/-- 'laws.FnExactLastOf': WHATEVER THE INPUT: true; the input reads as it did. -/
def fnExactLastOfSpec : ChangeSpec := { name := "fnExactLastOf", fn := fun _ => fun
  | [d1, d2] => { results := [.lit (.bool true)], args := [d1, d2] }
  | _ => none }
def fnExactLastOfRow : OpenClaim := { program := "ytapacjcaaipfdaa", sum := "11dfd17674b97b23176141c027ab00b6f45b89adac98942fdaed7ad70643b807", func := "loop.example/g00954/laws.FnExactLastOf", spec := "fnExactLastOf", apart := false }
def FnExactLastOfSaid : Prop := fnExactLastOfRow.holds Try.pinned (OpenSpec.ofChange fnExactLastOfSpec)

/-- ITS FALSE NEIGHBOUR: 'it returns false'. Refute it at one input. -/
def fnExactLastOfWrong : ChangeSpec := { name := "fnExactLastOf", fn := fun _ => fun
  | [d1, d2] => { results := [.lit (.bool false)], args := [d1, d2] }
  | _ => none }
def FnExactLastOfWrongFalsely : Prop := fnExactLastOfRow.holds Try.pinned (OpenSpec.ofChange fnExactLastOfWrong)

/-- 'laws.FnStamps': WHATEVER THE INPUT: true; the input reads as it did. -/
def fnStampsSpec : ChangeSpec := { name := "fnStamps", fn := fun _ => fun
  | [d] => { results := [.lit (.bool true)], args := [d] }
  | _ => none }
def fnStampsRow : OpenClaim := { program := "ytapacjcaaipfdaa", sum := "11dfd17674b97b23176141c027ab00b6f45b89adac98942fdaed7ad70643b807", func := "loop.example/g00954/laws.FnStamps", spec := "fnStamps", apart := false }
def FnStampsSaid : Prop := fnStampsRow.holds Try.pinned (OpenSpec.ofChange fnStampsSpec)

/-- ITS FALSE NEIGHBOUR: 'it returns false'. Refute it at one input. -/
def fnStampsWrong : ChangeSpec := { name := "fnStamps", fn := fun _ => fun
  | [d] => { results := [.lit (.bool false)], args := [d] }
  | _ => none }
def FnStampsWrongFalsely : Prop := fnStampsRow.holds Try.pinned (OpenSpec.ofChange fnStampsWrong)

/- THE SECOND FORM. 'bulk': how many values and letters a reading holds, each counted each time it is reached (what is shared counts as often as it is met; a slice's spare places count too). A statement '..UptoSaid' is the law's where the arguments, and the package variables that the reading takes, are together of bulk at most 1048576: NARROWER than '..Said'. Prove '..Said' where nothing that the law and all that it calls make is longer than what came in: it says more and counts as full. Else prove '..UptoSaid'. A law counts once. -/
mutual
def uptoBulk {H : Type} : DataW H → Nat
  | .lit (.string bytes) => bytes.length + 1
  | .lit _ => 1
  | .nil => 1
  | .ptr d => uptoBulk d + 1
  | .slice elems spare => uptoBulkAll elems + uptoBulkAll spare + 1
  | .agg parts => uptoBulkAll parts + 1
  | .iface _ d => uptoBulk d + 1
  | .map entries => uptoBulkEntries entries + 1
  | .held _ => 1
def uptoBulkAll {H : Type} : List (DataW H) → Nat
  | [] => 0
  | d :: r => uptoBulk d + uptoBulkAll r
def uptoBulkEntries {H : Type} : List (Lit × DataW H) → Nat
  | [] => 0
  | x :: r => uptoBulkEntry x + uptoBulkEntries r
def uptoBulkEntry {H : Type} : Lit × DataW H → Nat
  | (.string bytes, d) => bytes.length + uptoBulk d + 1
  | (_, d) => uptoBulk d + 1
 end
def uptoSmall : (H : Type) → List (DataW H) → Bool := fun _ ds => decide (uptoBulkAll ds ≤ 1048576)
def OpenSpec.upto (s : _root_.Go.ChangeSpec) : _root_.Go.OpenSpec := { _root_.Go.OpenSpec.ofChange s with cond := some uptoSmall }

/-- 'laws.FnExactBucketOf', WHERE WHAT IT READS IS OF BULK AT MOST 1048576: true; the input reads as it did. -/
def fnExactBucketOfUptoRow : OpenClaim := { program := "ytapacjcaaipfdaa", sum := "11dfd17674b97b23176141c027ab00b6f45b89adac98942fdaed7ad70643b807", func := "loop.example/g00954/laws.FnExactBucketOf", spec := "fnExactBucketOf", apart := false, narrowed := true }
def FnExactBucketOfUptoSaid : Prop := fnExactBucketOfUptoRow.holds Try.pinned (OpenSpec.upto fnExactBucketOfSpec)

/-- 'laws.FnExactStampOk', WHERE WHAT IT READS IS OF BULK AT MOST 1048576: true; the input reads as it did. -/
def fnExactStampOkUptoRow : OpenClaim := { program := "ytapacjcaaipfdaa", sum := "11dfd17674b97b23176141c027ab00b6f45b89adac98942fdaed7ad70643b807", func := "loop.example/g00954/laws.FnExactStampOk", spec := "fnExactStampOk", apart := false, narrowed := true }
def FnExactStampOkUptoSaid : Prop := fnExactStampOkUptoRow.holds Try.pinned (OpenSpec.upto fnExactStampOkSpec)

/-- 'laws.FnExactStampLess', WHERE WHAT IT READS IS OF BULK AT MOST 1048576: true; the input reads as it did. -/
def fnExactStampLessUptoRow : OpenClaim := { program := "ytapacjcaaipfdaa", sum := "11dfd17674b97b23176141c027ab00b6f45b89adac98942fdaed7ad70643b807", func := "loop.example/g00954/laws.FnExactStampLess", spec := "fnExactStampLess", apart := false, narrowed := true }
def FnExactStampLessUptoSaid : Prop := fnExactStampLessUptoRow.holds Try.pinned (OpenSpec.upto fnExactStampLessSpec)

/-- 'laws.FnExactSetOk', WHERE WHAT IT READS IS OF BULK AT MOST 1048576: true; the input reads as it did. -/
def fnExactSetOkUptoRow : OpenClaim := { program := "ytapacjcaaipfdaa", sum := "11dfd17674b97b23176141c027ab00b6f45b89adac98942fdaed7ad70643b807", func := "loop.example/g00954/laws.FnExactSetOk", spec := "fnExactSetOk", apart := false, narrowed := true }
def FnExactSetOkUptoSaid : Prop := fnExactSetOkUptoRow.holds Try.pinned (OpenSpec.upto fnExactSetOkSpec)

/-- 'laws.FnExactShowStamp', WHERE WHAT IT READS IS OF BULK AT MOST 1048576: true; the input reads as it did. -/
def fnExactShowStampUptoRow : OpenClaim := { program := "ytapacjcaaipfdaa", sum := "11dfd17674b97b23176141c027ab00b6f45b89adac98942fdaed7ad70643b807", func := "loop.example/g00954/laws.FnExactShowStamp", spec := "fnExactShowStamp", apart := false, narrowed := true }
def FnExactShowStampUptoSaid : Prop := fnExactShowStampUptoRow.holds Try.pinned (OpenSpec.upto fnExactShowStampSpec)

/-- 'laws.FnExactPathOk', WHERE WHAT IT READS IS OF BULK AT MOST 1048576: true; the input reads as it did. -/
def fnExactPathOkUptoRow : OpenClaim := { program := "ytapacjcaaipfdaa", sum := "11dfd17674b97b23176141c027ab00b6f45b89adac98942fdaed7ad70643b807", func := "loop.example/g00954/laws.FnExactPathOk", spec := "fnExactPathOk", apart := false, narrowed := true }
def FnExactPathOkUptoSaid : Prop := fnExactPathOkUptoRow.holds Try.pinned (OpenSpec.upto fnExactPathOkSpec)

/-- 'laws.FnExactStampNow', WHERE WHAT IT READS IS OF BULK AT MOST 1048576: true; the input reads as it did. -/
def fnExactStampNowUptoRow : OpenClaim := { program := "ytapacjcaaipfdaa", sum := "11dfd17674b97b23176141c027ab00b6f45b89adac98942fdaed7ad70643b807", func := "loop.example/g00954/laws.FnExactStampNow", spec := "fnExactStampNow", apart := false, narrowed := true }
def FnExactStampNowUptoSaid : Prop := fnExactStampNowUptoRow.holds Try.pinned (OpenSpec.upto fnExactStampNowSpec)

/-- 'laws.FnExactReadStamp', WHERE WHAT IT READS IS OF BULK AT MOST 1048576: true; the input reads as it did. -/
def fnExactReadStampUptoRow : OpenClaim := { program := "ytapacjcaaipfdaa", sum := "11dfd17674b97b23176141c027ab00b6f45b89adac98942fdaed7ad70643b807", func := "loop.example/g00954/laws.FnExactReadStamp", spec := "fnExactReadStamp", apart := false, narrowed := true }
def FnExactReadStampUptoSaid : Prop := fnExactReadStampUptoRow.holds Try.pinned (OpenSpec.upto fnExactReadStampSpec)

/-- 'laws.FnExactEventsOk', WHERE WHAT IT READS IS OF BULK AT MOST 1048576: true; the input reads as it did. -/
def fnExactEventsOkUptoRow : OpenClaim := { program := "ytapacjcaaipfdaa", sum := "11dfd17674b97b23176141c027ab00b6f45b89adac98942fdaed7ad70643b807", func := "loop.example/g00954/laws.FnExactEventsOk", spec := "fnExactEventsOk", apart := false, narrowed := true }
def FnExactEventsOkUptoSaid : Prop := fnExactEventsOkUptoRow.holds Try.pinned (OpenSpec.upto fnExactEventsOkSpec)

/-- 'laws.FnExactStampHear', WHERE WHAT IT READS IS OF BULK AT MOST 1048576: true; the input reads as it did. -/
def fnExactStampHearUptoRow : OpenClaim := { program := "ytapacjcaaipfdaa", sum := "11dfd17674b97b23176141c027ab00b6f45b89adac98942fdaed7ad70643b807", func := "loop.example/g00954/laws.FnExactStampHear", spec := "fnExactStampHear", apart := false, narrowed := true }
def FnExactStampHearUptoSaid : Prop := fnExactStampHearUptoRow.holds Try.pinned (OpenSpec.upto fnExactStampHearSpec)

/-- 'laws.FnExactLastOf', WHERE WHAT IT READS IS OF BULK AT MOST 1048576: true; the input reads as it did. -/
def fnExactLastOfUptoRow : OpenClaim := { program := "ytapacjcaaipfdaa", sum := "11dfd17674b97b23176141c027ab00b6f45b89adac98942fdaed7ad70643b807", func := "loop.example/g00954/laws.FnExactLastOf", spec := "fnExactLastOf", apart := false, narrowed := true }
def FnExactLastOfUptoSaid : Prop := fnExactLastOfUptoRow.holds Try.pinned (OpenSpec.upto fnExactLastOfSpec)

/-- 'laws.FnStamps', WHERE WHAT IT READS IS OF BULK AT MOST 1048576: true; the input reads as it did. -/
def fnStampsUptoRow : OpenClaim := { program := "ytapacjcaaipfdaa", sum := "11dfd17674b97b23176141c027ab00b6f45b89adac98942fdaed7ad70643b807", func := "loop.example/g00954/laws.FnStamps", spec := "fnStamps", apart := false, narrowed := true }
def FnStampsUptoSaid : Prop := fnStampsUptoRow.holds Try.pinned (OpenSpec.upto fnStampsSpec)

end Rows
end Go.Proofs.Ytapacjcaaipfdaa
