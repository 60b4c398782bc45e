/-
  No cell of these rows narrows 'for every input' (looked for: loops, veiled, ifaces, maps, wideKeys, modest, calm, conditions, laid).
  DERIVED. THE GIVEN ROWS OF THIS SEAT. 8 by the template 'for every input the law returns true; each argument reads behind the call as it read before'; 0 by the template 'total and deterministic' (their statements: YtmichbgiaoopgaaTotals.lean).
  GIVEN WITH THE SEED: the statements are not yours to turn. If you find one false, say at which input.
  Laid BY PROGRAM, IN A SANDBOX (cutbox-rows.mjs): the forced cells as the released guide's own fill.sh prints them over the translation 98e3f49465547ec8… (all of the seat's roots in one cut). By AI agents, Wed Nov 11 2026. No macro, syntax, notation, axiom, sorry.
-/
import Derived.Test.YtmichbgiaoopgaaChecked
import GoSem.Claim
import GoSem.ClaimJoined
import GoSem.ClaimMapViews
import Derived.JoinedTies
import Derived.KernelRfl
namespace Go.Proofs.Ytmichbgiaoopgaa
/- THE CELL 'sum', in the pinned program and in every row, IS THE sha256 OF THE DUMP (.gsa) THAT YtmichbgiaoopgaaProg.lean LOADS. Nothing in Lean hashes anything: it is a label: what it is worth is what the hold of that sum in a sandbox is worth. -/
noncomputable def Try.pinned : Pinned := { name := "ytmichbgiaoopgaa", sum := "98e3f49465547ec88bbafc75ac8eff82a0540981a252cef455ab720d5584f940", checked := Try.checked }
namespace Rows
def none {H : Type} : Left H := { results := [], args := [] }

/-- 'laws.FnExactTreeText': WHATEVER THE INPUT: true; the input reads as it did. -/
def fnExactTreeTextSpec : ChangeSpec := { name := "fnExactTreeText", fn := fun _ => fun
  | [d] => { results := [.lit (.bool true)], args := [d] }
  | _ => none }
def fnExactTreeTextRow : OpenClaim := { program := "ytmichbgiaoopgaa", sum := "98e3f49465547ec88bbafc75ac8eff82a0540981a252cef455ab720d5584f940", func := "loop.example/g00954/laws.FnExactTreeText", spec := "fnExactTreeText", unfollowed := true, recurses := true, apart := false }
def FnExactTreeTextSaid : Prop := fnExactTreeTextRow.holds Try.pinned (OpenSpec.ofChange fnExactTreeTextSpec)

/-- ITS FALSE NEIGHBOUR: 'it returns false'. Refute it at one input. -/
def fnExactTreeTextWrong : ChangeSpec := { name := "fnExactTreeText", fn := fun _ => fun
  | [d] => { results := [.lit (.bool false)], args := [d] }
  | _ => none }
def FnExactTreeTextWrongFalsely : Prop := fnExactTreeTextRow.holds Try.pinned (OpenSpec.ofChange fnExactTreeTextWrong)

/-- 'laws.FnExactTreeDrop': WHATEVER THE INPUT: true; the input reads as it did. -/
def fnExactTreeDropSpec : ChangeSpec := { name := "fnExactTreeDrop", fn := fun _ => fun
  | [d1, d2] => { results := [.lit (.bool true)], args := [d1, d2] }
  | _ => none }
def fnExactTreeDropRow : OpenClaim := { program := "ytmichbgiaoopgaa", sum := "98e3f49465547ec88bbafc75ac8eff82a0540981a252cef455ab720d5584f940", func := "loop.example/g00954/laws.FnExactTreeDrop", spec := "fnExactTreeDrop", unfollowed := true, recurses := true, apart := false }
def FnExactTreeDropSaid : Prop := fnExactTreeDropRow.holds Try.pinned (OpenSpec.ofChange fnExactTreeDropSpec)

/-- ITS FALSE NEIGHBOUR: 'it returns false'. Refute it at one input. -/
def fnExactTreeDropWrong : ChangeSpec := { name := "fnExactTreeDrop", fn := fun _ => fun
  | [d1, d2] => { results := [.lit (.bool false)], args := [d1, d2] }
  | _ => none }
def FnExactTreeDropWrongFalsely : Prop := fnExactTreeDropRow.holds Try.pinned (OpenSpec.ofChange fnExactTreeDropWrong)

/-- 'laws.FnExactTreeRead': WHATEVER THE INPUT: true; the input reads as it did. -/
def fnExactTreeReadSpec : ChangeSpec := { name := "fnExactTreeRead", fn := fun _ => fun
  | [d] => { results := [.lit (.bool true)], args := [d] }
  | _ => none }
def fnExactTreeReadRow : OpenClaim := { program := "ytmichbgiaoopgaa", sum := "98e3f49465547ec88bbafc75ac8eff82a0540981a252cef455ab720d5584f940", func := "loop.example/g00954/laws.FnExactTreeRead", spec := "fnExactTreeRead", unfollowed := true, recurses := true, apart := false }
def FnExactTreeReadSaid : Prop := fnExactTreeReadRow.holds Try.pinned (OpenSpec.ofChange fnExactTreeReadSpec)

/-- ITS FALSE NEIGHBOUR: 'it returns false'. Refute it at one input. -/
def fnExactTreeReadWrong : ChangeSpec := { name := "fnExactTreeRead", fn := fun _ => fun
  | [d] => { results := [.lit (.bool false)], args := [d] }
  | _ => none }
def FnExactTreeReadWrongFalsely : Prop := fnExactTreeReadRow.holds Try.pinned (OpenSpec.ofChange fnExactTreeReadWrong)

/-- 'laws.FnExactTreePut': WHATEVER THE INPUT: true; the input reads as it did. -/
def fnExactTreePutSpec : ChangeSpec := { name := "fnExactTreePut", fn := fun _ => fun
  | [d1, d2] => { results := [.lit (.bool true)], args := [d1, d2] }
  | _ => none }
def fnExactTreePutRow : OpenClaim := { program := "ytmichbgiaoopgaa", sum := "98e3f49465547ec88bbafc75ac8eff82a0540981a252cef455ab720d5584f940", func := "loop.example/g00954/laws.FnExactTreePut", spec := "fnExactTreePut", inPlace := ["slices.overlaps[loop.example/g00954/impl.Entry]"], unfollowed := true, recurses := true, apart := false }
def FnExactTreePutSaid : Prop := fnExactTreePutRow.holds Try.pinned (OpenSpec.ofChange fnExactTreePutSpec)

/-- ITS FALSE NEIGHBOUR: 'it returns false'. Refute it at one input. -/
def fnExactTreePutWrong : ChangeSpec := { name := "fnExactTreePut", fn := fun _ => fun
  | [d1, d2] => { results := [.lit (.bool false)], args := [d1, d2] }
  | _ => none }
def FnExactTreePutWrongFalsely : Prop := fnExactTreePutRow.holds Try.pinned (OpenSpec.ofChange fnExactTreePutWrong)

/-- 'laws.FnExactTreeList': WHATEVER THE INPUT: true; the input reads as it did. -/
def fnExactTreeListSpec : ChangeSpec := { name := "fnExactTreeList", fn := fun _ => fun
  | [d1, d2] => { results := [.lit (.bool true)], args := [d1, d2] }
  | _ => none }
def fnExactTreeListRow : OpenClaim := { program := "ytmichbgiaoopgaa", sum := "98e3f49465547ec88bbafc75ac8eff82a0540981a252cef455ab720d5584f940", func := "loop.example/g00954/laws.FnExactTreeList", spec := "fnExactTreeList", unfollowed := true, recurses := true, apart := false }
def FnExactTreeListSaid : Prop := fnExactTreeListRow.holds Try.pinned (OpenSpec.ofChange fnExactTreeListSpec)

/-- ITS FALSE NEIGHBOUR: 'it returns false'. Refute it at one input. -/
def fnExactTreeListWrong : ChangeSpec := { name := "fnExactTreeList", fn := fun _ => fun
  | [d1, d2] => { results := [.lit (.bool false)], args := [d1, d2] }
  | _ => none }
def FnExactTreeListWrongFalsely : Prop := fnExactTreeListRow.holds Try.pinned (OpenSpec.ofChange fnExactTreeListWrong)

/-- 'laws.FnTreeText': WHATEVER THE INPUT: true; the input reads as it did. -/
def fnTreeTextSpec : ChangeSpec := { name := "fnTreeText", fn := fun _ => fun
  | [d] => { results := [.lit (.bool true)], args := [d] }
  | _ => none }
def fnTreeTextRow : OpenClaim := { program := "ytmichbgiaoopgaa", sum := "98e3f49465547ec88bbafc75ac8eff82a0540981a252cef455ab720d5584f940", func := "loop.example/g00954/laws.FnTreeText", spec := "fnTreeText", unfollowed := true, recurses := true, apart := false }
def FnTreeTextSaid : Prop := fnTreeTextRow.holds Try.pinned (OpenSpec.ofChange fnTreeTextSpec)

/-- ITS FALSE NEIGHBOUR: 'it returns false'. Refute it at one input. -/
def fnTreeTextWrong : ChangeSpec := { name := "fnTreeText", fn := fun _ => fun
  | [d] => { results := [.lit (.bool false)], args := [d] }
  | _ => none }
def FnTreeTextWrongFalsely : Prop := fnTreeTextRow.holds Try.pinned (OpenSpec.ofChange fnTreeTextWrong)

/-- 'laws.FnTree': WHATEVER THE INPUT: true; the input reads as it did. -/
def fnTreeSpec : ChangeSpec := { name := "fnTree", fn := fun _ => fun
  | [d] => { results := [.lit (.bool true)], args := [d] }
  | _ => none }
def fnTreeRow : OpenClaim := { program := "ytmichbgiaoopgaa", sum := "98e3f49465547ec88bbafc75ac8eff82a0540981a252cef455ab720d5584f940", func := "loop.example/g00954/laws.FnTree", spec := "fnTree", inPlace := ["slices.overlaps[loop.example/g00954/impl.Entry]"], unfollowed := true, recurses := true, apart := false }
def FnTreeSaid : Prop := fnTreeRow.holds Try.pinned (OpenSpec.ofChange fnTreeSpec)

/-- ITS FALSE NEIGHBOUR: 'it returns false'. Refute it at one input. -/
def fnTreeWrong : ChangeSpec := { name := "fnTree", fn := fun _ => fun
  | [d] => { results := [.lit (.bool false)], args := [d] }
  | _ => none }
def FnTreeWrongFalsely : Prop := fnTreeRow.holds Try.pinned (OpenSpec.ofChange fnTreeWrong)

/-- 'laws.FnTraces': WHATEVER THE INPUT: true; the input reads as it did. -/
def fnTracesSpec : ChangeSpec := { name := "fnTraces", fn := fun _ => fun
  | [d] => { results := [.lit (.bool true)], args := [d] }
  | _ => none }
def fnTracesRow : OpenClaim := { program := "ytmichbgiaoopgaa", sum := "98e3f49465547ec88bbafc75ac8eff82a0540981a252cef455ab720d5584f940", func := "loop.example/g00954/laws.FnTraces", spec := "fnTraces", unfollowed := true, recurses := true, apart := false }
def FnTracesSaid : Prop := fnTracesRow.holds Try.pinned (OpenSpec.ofChange fnTracesSpec)

/-- ITS FALSE NEIGHBOUR: 'it returns false'. Refute it at one input. -/
def fnTracesWrong : ChangeSpec := { name := "fnTraces", fn := fun _ => fun
  | [d] => { results := [.lit (.bool false)], args := [d] }
  | _ => none }
def FnTracesWrongFalsely : Prop := fnTracesRow.holds Try.pinned (OpenSpec.ofChange fnTracesWrong)

/- THE SECOND FORM. 'bulk': how many values and letters a reading holds, each counted each time it is reached (what is shared counts as often as it is met; a slice's spare places count too). A statement '..UptoSaid' is the law's where the arguments, and the package variables that the reading takes, are together of bulk at most 1048576: NARROWER than '..Said'. Prove '..Said' where nothing that the law and all that it calls make is longer than what came in: it says more and counts as full. Else prove '..UptoSaid'. A law counts once. -/
mutual
def uptoBulk {H : Type} : DataW H → Nat
  | .lit (.string bytes) => bytes.length + 1
  | .lit _ => 1
  | .nil => 1
  | .ptr d => uptoBulk d + 1
  | .slice elems spare => uptoBulkAll elems + uptoBulkAll spare + 1
  | .agg parts => uptoBulkAll parts + 1
  | .iface _ d => uptoBulk d + 1
  | .map entries => uptoBulkEntries entries + 1
  | .held _ => 1
def uptoBulkAll {H : Type} : List (DataW H) → Nat
  | [] => 0
  | d :: r => uptoBulk d + uptoBulkAll r
def uptoBulkEntries {H : Type} : List (Lit × DataW H) → Nat
  | [] => 0
  | x :: r => uptoBulkEntry x + uptoBulkEntries r
def uptoBulkEntry {H : Type} : Lit × DataW H → Nat
  | (.string bytes, d) => bytes.length + uptoBulk d + 1
  | (_, d) => uptoBulk d + 1
 end
def uptoSmall : (H : Type) → List (DataW H) → Bool := fun _ ds => decide (uptoBulkAll ds ≤ 1048576)
def OpenSpec.upto (s : _root_.Go.ChangeSpec) : _root_.Go.OpenSpec := { _root_.Go.OpenSpec.ofChange s with cond := some uptoSmall }

/-- 'laws.FnExactTreeText', WHERE WHAT IT READS IS OF BULK AT MOST 1048576: true; the input reads as it did. -/
def fnExactTreeTextUptoRow : OpenClaim := { program := "ytmichbgiaoopgaa", sum := "98e3f49465547ec88bbafc75ac8eff82a0540981a252cef455ab720d5584f940", func := "loop.example/g00954/laws.FnExactTreeText", spec := "fnExactTreeText", unfollowed := true, recurses := true, apart := false, narrowed := true }
def FnExactTreeTextUptoSaid : Prop := fnExactTreeTextUptoRow.holds Try.pinned (OpenSpec.upto fnExactTreeTextSpec)

/-- 'laws.FnExactTreeDrop', WHERE WHAT IT READS IS OF BULK AT MOST 1048576: true; the input reads as it did. -/
def fnExactTreeDropUptoRow : OpenClaim := { program := "ytmichbgiaoopgaa", sum := "98e3f49465547ec88bbafc75ac8eff82a0540981a252cef455ab720d5584f940", func := "loop.example/g00954/laws.FnExactTreeDrop", spec := "fnExactTreeDrop", unfollowed := true, recurses := true, apart := false, narrowed := true }
def FnExactTreeDropUptoSaid : Prop := fnExactTreeDropUptoRow.holds Try.pinned (OpenSpec.upto fnExactTreeDropSpec)

/-- 'laws.FnExactTreeRead', WHERE WHAT IT READS IS OF BULK AT MOST 1048576: true; the input reads as it did. -/
def fnExactTreeReadUptoRow : OpenClaim := { program := "ytmichbgiaoopgaa", sum := "98e3f49465547ec88bbafc75ac8eff82a0540981a252cef455ab720d5584f940", func := "loop.example/g00954/laws.FnExactTreeRead", spec := "fnExactTreeRead", unfollowed := true, recurses := true, apart := false, narrowed := true }
def FnExactTreeReadUptoSaid : Prop := fnExactTreeReadUptoRow.holds Try.pinned (OpenSpec.upto fnExactTreeReadSpec)

/-- 'laws.FnExactTreePut', WHERE WHAT IT READS IS OF BULK AT MOST 1048576: true; the input reads as it did. -/
def fnExactTreePutUptoRow : OpenClaim := { program := "ytmichbgiaoopgaa", sum := "98e3f49465547ec88bbafc75ac8eff82a0540981a252cef455ab720d5584f940", func := "loop.example/g00954/laws.FnExactTreePut", spec := "fnExactTreePut", inPlace := ["slices.overlaps[loop.example/g00954/impl.Entry]"], unfollowed := true, recurses := true, apart := false, narrowed := true }
def FnExactTreePutUptoSaid : Prop := fnExactTreePutUptoRow.holds Try.pinned (OpenSpec.upto fnExactTreePutSpec)

/-- 'laws.FnExactTreeList', WHERE WHAT IT READS IS OF BULK AT MOST 1048576: true; the input reads as it did. -/
def fnExactTreeListUptoRow : OpenClaim := { program := "ytmichbgiaoopgaa", sum := "98e3f49465547ec88bbafc75ac8eff82a0540981a252cef455ab720d5584f940", func := "loop.example/g00954/laws.FnExactTreeList", spec := "fnExactTreeList", unfollowed := true, recurses := true, apart := false, narrowed := true }
def FnExactTreeListUptoSaid : Prop := fnExactTreeListUptoRow.holds Try.pinned (OpenSpec.upto fnExactTreeListSpec)

/-- 'laws.FnTreeText', WHERE WHAT IT READS IS OF BULK AT MOST 1048576: true; the input reads as it did. -/
def fnTreeTextUptoRow : OpenClaim := { program := "ytmichbgiaoopgaa", sum := "98e3f49465547ec88bbafc75ac8eff82a0540981a252cef455ab720d5584f940", func := "loop.example/g00954/laws.FnTreeText", spec := "fnTreeText", unfollowed := true, recurses := true, apart := false, narrowed := true }
def FnTreeTextUptoSaid : Prop := fnTreeTextUptoRow.holds Try.pinned (OpenSpec.upto fnTreeTextSpec)

/-- 'laws.FnTree', WHERE WHAT IT READS IS OF BULK AT MOST 1048576: true; the input reads as it did. -/
def fnTreeUptoRow : OpenClaim := { program := "ytmichbgiaoopgaa", sum := "98e3f49465547ec88bbafc75ac8eff82a0540981a252cef455ab720d5584f940", func := "loop.example/g00954/laws.FnTree", spec := "fnTree", inPlace := ["slices.overlaps[loop.example/g00954/impl.Entry]"], unfollowed := true, recurses := true, apart := false, narrowed := true }
def FnTreeUptoSaid : Prop := fnTreeUptoRow.holds Try.pinned (OpenSpec.upto fnTreeSpec)

/-- 'laws.FnTraces', WHERE WHAT IT READS IS OF BULK AT MOST 1048576: true; the input reads as it did. -/
def fnTracesUptoRow : OpenClaim := { program := "ytmichbgiaoopgaa", sum := "98e3f49465547ec88bbafc75ac8eff82a0540981a252cef455ab720d5584f940", func := "loop.example/g00954/laws.FnTraces", spec := "fnTraces", unfollowed := true, recurses := true, apart := false, narrowed := true }
def FnTracesUptoSaid : Prop := fnTracesUptoRow.holds Try.pinned (OpenSpec.upto fnTracesSpec)

end Rows
end Go.Proofs.Ytmichbgiaoopgaa
