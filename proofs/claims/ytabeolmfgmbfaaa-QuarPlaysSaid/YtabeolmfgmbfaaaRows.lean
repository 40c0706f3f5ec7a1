/-
  No cell of these rows narrows 'for every input' (looked for: loops, veiled, ifaces, maps, wideKeys, modest, calm, conditions, laid).
  DERIVED. THE GIVEN ROWS OF THIS SEAT. 13 by the template 'for every input the law returns true; each argument reads behind the call as it read before'; 0 by the template 'total and deterministic' (their statements: YtabeolmfgmbfaaaTotals.lean).
  GIVEN WITH THE SEED: the statements are not yours to turn. If you find one false, say at which input.
  Laid BY PROGRAM, IN A SANDBOX (cutbox-rows.mjs): the forced cells as the released guide's own fill.sh prints them over the translation a9eb44baef4aedd9… (all of the seat's roots in one cut). By AI agents, Wed Nov 11 2026. No macro, syntax, notation, axiom, sorry.
-/
import Derived.Test.YtabeolmfgmbfaaaChecked
import GoSem.Claim
import GoSem.ClaimJoined
import GoSem.ClaimMapViews
import Derived.JoinedTies
import Derived.KernelRfl
namespace Go.Proofs.Ytabeolmfgmbfaaa
/- THE CELL 'sum', in the pinned program and in every row, IS THE sha256 OF THE DUMP (.gsa) THAT YtabeolmfgmbfaaaProg.lean LOADS. Nothing in Lean hashes anything: it is a label: what it is worth is what the hold of that sum in a sandbox is worth. -/
noncomputable def Try.pinned : Pinned := { name := "ytabeolmfgmbfaaa", sum := "a9eb44baef4aedd98fc65245608c5321192544c1080e3dcaee3f8c89a2f035dd", checked := Try.checked }
namespace Rows
def none {H : Type} : Left H := { results := [], args := [] }

/-- 'cubbyholelaw34.EpochPlays': WHATEVER THE INPUT: true; the input reads as it did. -/
def epochPlaysSpec : ChangeSpec := { name := "epochPlays", fn := fun _ => fun
  | [d1, d2] => { results := [.lit (.bool true)], args := [d1, d2] }
  | _ => none }
def epochPlaysRow : OpenClaim := { program := "ytabeolmfgmbfaaa", sum := "a9eb44baef4aedd98fc65245608c5321192544c1080e3dcaee3f8c89a2f035dd", func := "cubbyhole/cubbyholelaw34.EpochPlays", spec := "epochPlays", plainKeys := false, apart := false }
def EpochPlaysSaid : Prop := epochPlaysRow.holds Try.pinned (OpenSpec.ofChange epochPlaysSpec)

/-- ITS FALSE NEIGHBOUR: 'it returns false'. Refute it at one input. -/
def epochPlaysWrong : ChangeSpec := { name := "epochPlays", fn := fun _ => fun
  | [d1, d2] => { results := [.lit (.bool false)], args := [d1, d2] }
  | _ => none }
def EpochPlaysWrongFalsely : Prop := epochPlaysRow.holds Try.pinned (OpenSpec.ofChange epochPlaysWrong)

/-- 'cubbyholelaw22.DrawOwn': WHATEVER THE INPUT: true; the input reads as it did. -/
def drawOwnSpec : ChangeSpec := { name := "drawOwn", fn := fun _ => fun
  | [d1, d2] => { results := [.lit (.bool true)], args := [d1, d2] }
  | _ => none }
def drawOwnRow : OpenClaim := { program := "ytabeolmfgmbfaaa", sum := "a9eb44baef4aedd98fc65245608c5321192544c1080e3dcaee3f8c89a2f035dd", func := "cubbyhole/cubbyholelaw22.DrawOwn", spec := "drawOwn", plainKeys := false, apart := false }
def DrawOwnSaid : Prop := drawOwnRow.holds Try.pinned (OpenSpec.ofChange drawOwnSpec)

/-- ITS FALSE NEIGHBOUR: 'it returns false'. Refute it at one input. -/
def drawOwnWrong : ChangeSpec := { name := "drawOwn", fn := fun _ => fun
  | [d1, d2] => { results := [.lit (.bool false)], args := [d1, d2] }
  | _ => none }
def DrawOwnWrongFalsely : Prop := drawOwnRow.holds Try.pinned (OpenSpec.ofChange drawOwnWrong)

/-- 'cubbyholelaw22.DrawNext': WHATEVER THE INPUT: true; the input reads as it did. -/
def drawNextSpec : ChangeSpec := { name := "drawNext", fn := fun _ => fun
  | [d1, d2, d3] => { results := [.lit (.bool true)], args := [d1, d2, d3] }
  | _ => none }
def drawNextRow : OpenClaim := { program := "ytabeolmfgmbfaaa", sum := "a9eb44baef4aedd98fc65245608c5321192544c1080e3dcaee3f8c89a2f035dd", func := "cubbyhole/cubbyholelaw22.DrawNext", spec := "drawNext", plainKeys := false, apart := false }
def DrawNextSaid : Prop := drawNextRow.holds Try.pinned (OpenSpec.ofChange drawNextSpec)

/-- ITS FALSE NEIGHBOUR: 'it returns false'. Refute it at one input. -/
def drawNextWrong : ChangeSpec := { name := "drawNext", fn := fun _ => fun
  | [d1, d2, d3] => { results := [.lit (.bool false)], args := [d1, d2, d3] }
  | _ => none }
def DrawNextWrongFalsely : Prop := drawNextRow.holds Try.pinned (OpenSpec.ofChange drawNextWrong)

/-- 'cubbyholelaw23.ShufOrder': WHATEVER THE INPUT: true; the input reads as it did. -/
def shufOrderSpec : ChangeSpec := { name := "shufOrder", fn := fun _ => fun
  | [d1, d2] => { results := [.lit (.bool true)], args := [d1, d2] }
  | _ => none }
def shufOrderRow : OpenClaim := { program := "ytabeolmfgmbfaaa", sum := "a9eb44baef4aedd98fc65245608c5321192544c1080e3dcaee3f8c89a2f035dd", func := "cubbyhole/cubbyholelaw23.ShufOrder", spec := "shufOrder", plainKeys := false, apart := false }
def ShufOrderSaid : Prop := shufOrderRow.holds Try.pinned (OpenSpec.ofChange shufOrderSpec)

/-- ITS FALSE NEIGHBOUR: 'it returns false'. Refute it at one input. -/
def shufOrderWrong : ChangeSpec := { name := "shufOrder", fn := fun _ => fun
  | [d1, d2] => { results := [.lit (.bool false)], args := [d1, d2] }
  | _ => none }
def ShufOrderWrongFalsely : Prop := shufOrderRow.holds Try.pinned (OpenSpec.ofChange shufOrderWrong)

/-- 'cubbyholelaw19.StateNext': WHATEVER THE INPUT: true; the input reads as it did. -/
def stateNextSpec : ChangeSpec := { name := "stateNext", fn := fun _ => fun
  | [d1, d2] => { results := [.lit (.bool true)], args := [d1, d2] }
  | _ => none }
def stateNextRow : OpenClaim := { program := "ytabeolmfgmbfaaa", sum := "a9eb44baef4aedd98fc65245608c5321192544c1080e3dcaee3f8c89a2f035dd", func := "cubbyhole/cubbyholelaw19.StateNext", spec := "stateNext", plainKeys := false, apart := false }
def StateNextSaid : Prop := stateNextRow.holds Try.pinned (OpenSpec.ofChange stateNextSpec)

/-- ITS FALSE NEIGHBOUR: 'it returns false'. Refute it at one input. -/
def stateNextWrong : ChangeSpec := { name := "stateNext", fn := fun _ => fun
  | [d1, d2] => { results := [.lit (.bool false)], args := [d1, d2] }
  | _ => none }
def StateNextWrongFalsely : Prop := stateNextRow.holds Try.pinned (OpenSpec.ofChange stateNextWrong)

/-- 'cubbyholelaw19.StateRuns': WHATEVER THE INPUT: true; the input reads as it did. -/
def stateRunsSpec : ChangeSpec := { name := "stateRuns", fn := fun _ => fun
  | [d1, d2] => { results := [.lit (.bool true)], args := [d1, d2] }
  | _ => none }
def stateRunsRow : OpenClaim := { program := "ytabeolmfgmbfaaa", sum := "a9eb44baef4aedd98fc65245608c5321192544c1080e3dcaee3f8c89a2f035dd", func := "cubbyhole/cubbyholelaw19.StateRuns", spec := "stateRuns", plainKeys := false, apart := false }
def StateRunsSaid : Prop := stateRunsRow.holds Try.pinned (OpenSpec.ofChange stateRunsSpec)

/-- ITS FALSE NEIGHBOUR: 'it returns false'. Refute it at one input. -/
def stateRunsWrong : ChangeSpec := { name := "stateRuns", fn := fun _ => fun
  | [d1, d2] => { results := [.lit (.bool false)], args := [d1, d2] }
  | _ => none }
def StateRunsWrongFalsely : Prop := stateRunsRow.holds Try.pinned (OpenSpec.ofChange stateRunsWrong)

/-- 'cubbyholelaw23.ShufBack': WHATEVER THE INPUT: true; the input reads as it did. -/
def shufBackSpec : ChangeSpec := { name := "shufBack", fn := fun _ => fun
  | [d1, d2, d3] => { results := [.lit (.bool true)], args := [d1, d2, d3] }
  | _ => none }
def shufBackRow : OpenClaim := { program := "ytabeolmfgmbfaaa", sum := "a9eb44baef4aedd98fc65245608c5321192544c1080e3dcaee3f8c89a2f035dd", func := "cubbyhole/cubbyholelaw23.ShufBack", spec := "shufBack", plainKeys := false, apart := false }
def ShufBackSaid : Prop := shufBackRow.holds Try.pinned (OpenSpec.ofChange shufBackSpec)

/-- ITS FALSE NEIGHBOUR: 'it returns false'. Refute it at one input. -/
def shufBackWrong : ChangeSpec := { name := "shufBack", fn := fun _ => fun
  | [d1, d2, d3] => { results := [.lit (.bool false)], args := [d1, d2, d3] }
  | _ => none }
def ShufBackWrongFalsely : Prop := shufBackRow.holds Try.pinned (OpenSpec.ofChange shufBackWrong)

/-- 'cubbyholelaw51.DrillBelow': WHATEVER THE INPUT: true; the input reads as it did. -/
def drillBelowSpec : ChangeSpec := { name := "drillBelow", fn := fun _ => fun
  | [d1, d2] => { results := [.lit (.bool true)], args := [d1, d2] }
  | _ => none }
def drillBelowRow : OpenClaim := { program := "ytabeolmfgmbfaaa", sum := "a9eb44baef4aedd98fc65245608c5321192544c1080e3dcaee3f8c89a2f035dd", func := "cubbyhole/cubbyholelaw51.DrillBelow", spec := "drillBelow", plainKeys := false, apart := false }
def DrillBelowSaid : Prop := drillBelowRow.holds Try.pinned (OpenSpec.ofChange drillBelowSpec)

/-- ITS FALSE NEIGHBOUR: 'it returns false'. Refute it at one input. -/
def drillBelowWrong : ChangeSpec := { name := "drillBelow", fn := fun _ => fun
  | [d1, d2] => { results := [.lit (.bool false)], args := [d1, d2] }
  | _ => none }
def DrillBelowWrongFalsely : Prop := drillBelowRow.holds Try.pinned (OpenSpec.ofChange drillBelowWrong)

/-- 'cubbyholelaw54.TraceBytes': WHATEVER THE INPUT: true; the input reads as it did. -/
def traceBytesSpec : ChangeSpec := { name := "traceBytes", fn := fun _ => fun
  | [d1, d2] => { results := [.lit (.bool true)], args := [d1, d2] }
  | _ => none }
def traceBytesRow : OpenClaim := { program := "ytabeolmfgmbfaaa", sum := "a9eb44baef4aedd98fc65245608c5321192544c1080e3dcaee3f8c89a2f035dd", func := "cubbyhole/cubbyholelaw54.TraceBytes", spec := "traceBytes", unfollowed := true, recurses := true, plainKeys := false, apart := false }
def TraceBytesSaid : Prop := traceBytesRow.holds Try.pinned (OpenSpec.ofChange traceBytesSpec)

/-- ITS FALSE NEIGHBOUR: 'it returns false'. Refute it at one input. -/
def traceBytesWrong : ChangeSpec := { name := "traceBytes", fn := fun _ => fun
  | [d1, d2] => { results := [.lit (.bool false)], args := [d1, d2] }
  | _ => none }
def TraceBytesWrongFalsely : Prop := traceBytesRow.holds Try.pinned (OpenSpec.ofChange traceBytesWrong)

/-- 'cubbyholelaw54.TraceBack': WHATEVER THE INPUT: true; the input reads as it did. -/
def traceBackSpec : ChangeSpec := { name := "traceBack", fn := fun _ => fun
  | [d] => { results := [.lit (.bool true)], args := [d] }
  | _ => none }
def traceBackRow : OpenClaim := { program := "ytabeolmfgmbfaaa", sum := "a9eb44baef4aedd98fc65245608c5321192544c1080e3dcaee3f8c89a2f035dd", func := "cubbyhole/cubbyholelaw54.TraceBack", spec := "traceBack", unfollowed := true, recurses := true, plainKeys := false, apart := false }
def TraceBackSaid : Prop := traceBackRow.holds Try.pinned (OpenSpec.ofChange traceBackSpec)

/-- ITS FALSE NEIGHBOUR: 'it returns false'. Refute it at one input. -/
def traceBackWrong : ChangeSpec := { name := "traceBack", fn := fun _ => fun
  | [d] => { results := [.lit (.bool false)], args := [d] }
  | _ => none }
def TraceBackWrongFalsely : Prop := traceBackRow.holds Try.pinned (OpenSpec.ofChange traceBackWrong)

/-- 'cubbyholelaw54.TraceAny': WHATEVER THE INPUT: true; the input reads as it did. -/
def traceAnySpec : ChangeSpec := { name := "traceAny", fn := fun _ => fun
  | [d] => { results := [.lit (.bool true)], args := [d] }
  | _ => none }
def traceAnyRow : OpenClaim := { program := "ytabeolmfgmbfaaa", sum := "a9eb44baef4aedd98fc65245608c5321192544c1080e3dcaee3f8c89a2f035dd", func := "cubbyhole/cubbyholelaw54.TraceAny", spec := "traceAny", unfollowed := true, recurses := true, plainKeys := false, apart := false }
def TraceAnySaid : Prop := traceAnyRow.holds Try.pinned (OpenSpec.ofChange traceAnySpec)

/-- ITS FALSE NEIGHBOUR: 'it returns false'. Refute it at one input. -/
def traceAnyWrong : ChangeSpec := { name := "traceAny", fn := fun _ => fun
  | [d] => { results := [.lit (.bool false)], args := [d] }
  | _ => none }
def TraceAnyWrongFalsely : Prop := traceAnyRow.holds Try.pinned (OpenSpec.ofChange traceAnyWrong)

/-- 'cubbyholelaw35.QuarPlays': WHATEVER THE INPUT: true; the input reads as it did. -/
def quarPlaysSpec : ChangeSpec := { name := "quarPlays", fn := fun _ => fun
  | [d] => { results := [.lit (.bool true)], args := [d] }
  | _ => none }
def quarPlaysRow : OpenClaim := { program := "ytabeolmfgmbfaaa", sum := "a9eb44baef4aedd98fc65245608c5321192544c1080e3dcaee3f8c89a2f035dd", func := "cubbyhole/cubbyholelaw35.QuarPlays", spec := "quarPlays", unfollowed := true, recurses := true, plainKeys := false, apart := false }
def QuarPlaysSaid : Prop := quarPlaysRow.holds Try.pinned (OpenSpec.ofChange quarPlaysSpec)

/-- ITS FALSE NEIGHBOUR: 'it returns false'. Refute it at one input. -/
def quarPlaysWrong : ChangeSpec := { name := "quarPlays", fn := fun _ => fun
  | [d] => { results := [.lit (.bool false)], args := [d] }
  | _ => none }
def QuarPlaysWrongFalsely : Prop := quarPlaysRow.holds Try.pinned (OpenSpec.ofChange quarPlaysWrong)

/-- 'cubbyholelaw54.TraceSame': WHATEVER THE INPUT: true; the input reads as it did. -/
def traceSameSpec : ChangeSpec := { name := "traceSame", fn := fun _ => fun
  | [d1, d2, d3] => { results := [.lit (.bool true)], args := [d1, d2, d3] }
  | _ => none }
def traceSameRow : OpenClaim := { program := "ytabeolmfgmbfaaa", sum := "a9eb44baef4aedd98fc65245608c5321192544c1080e3dcaee3f8c89a2f035dd", func := "cubbyhole/cubbyholelaw54.TraceSame", spec := "traceSame", unfollowed := true, recurses := true, plainKeys := false, apart := false }
def TraceSameSaid : Prop := traceSameRow.holds Try.pinned (OpenSpec.ofChange traceSameSpec)

/-- ITS FALSE NEIGHBOUR: 'it returns false'. Refute it at one input. -/
def traceSameWrong : ChangeSpec := { name := "traceSame", fn := fun _ => fun
  | [d1, d2, d3] => { results := [.lit (.bool false)], args := [d1, d2, d3] }
  | _ => none }
def TraceSameWrongFalsely : Prop := traceSameRow.holds Try.pinned (OpenSpec.ofChange traceSameWrong)

/- THE SECOND FORM. 'bulk': how many values and letters a reading holds, each counted each time it is reached (what is shared counts as often as it is met; a slice's spare places count too). A statement '..UptoSaid' is the law's where the arguments, and the package variables that the reading takes, are together of bulk at most 1048576: NARROWER than '..Said'. Prove '..Said' where nothing that the law and all that it calls make is longer than what came in: it says more and counts as full. Else prove '..UptoSaid'. A law counts once. -/
mutual
def uptoBulk {H : Type} : DataW H → Nat
  | .lit (.string bytes) => bytes.length + 1
  | .lit _ => 1
  | .nil => 1
  | .ptr d => uptoBulk d + 1
  | .slice elems spare => uptoBulkAll elems + uptoBulkAll spare + 1
  | .agg parts => uptoBulkAll parts + 1
  | .iface _ d => uptoBulk d + 1
  | .map entries => uptoBulkEntries entries + 1
  | .held _ => 1
def uptoBulkAll {H : Type} : List (DataW H) → Nat
  | [] => 0
  | d :: r => uptoBulk d + uptoBulkAll r
def uptoBulkEntries {H : Type} : List (Lit × DataW H) → Nat
  | [] => 0
  | x :: r => uptoBulkEntry x + uptoBulkEntries r
def uptoBulkEntry {H : Type} : Lit × DataW H → Nat
  | (.string bytes, d) => bytes.length + uptoBulk d + 1
  | (_, d) => uptoBulk d + 1
 end
def uptoSmall : (H : Type) → List (DataW H) → Bool := fun _ ds => decide (uptoBulkAll ds ≤ 1048576)
def OpenSpec.upto (s : _root_.Go.ChangeSpec) : _root_.Go.OpenSpec := { _root_.Go.OpenSpec.ofChange s with cond := some uptoSmall }

/-- 'cubbyholelaw34.EpochPlays', WHERE WHAT IT READS IS OF BULK AT MOST 1048576: true; the input reads as it did. -/
def epochPlaysUptoRow : OpenClaim := { program := "ytabeolmfgmbfaaa", sum := "a9eb44baef4aedd98fc65245608c5321192544c1080e3dcaee3f8c89a2f035dd", func := "cubbyhole/cubbyholelaw34.EpochPlays", spec := "epochPlays", plainKeys := false, apart := false, narrowed := true }
def EpochPlaysUptoSaid : Prop := epochPlaysUptoRow.holds Try.pinned (OpenSpec.upto epochPlaysSpec)

/-- 'cubbyholelaw22.DrawOwn', WHERE WHAT IT READS IS OF BULK AT MOST 1048576: true; the input reads as it did. -/
def drawOwnUptoRow : OpenClaim := { program := "ytabeolmfgmbfaaa", sum := "a9eb44baef4aedd98fc65245608c5321192544c1080e3dcaee3f8c89a2f035dd", func := "cubbyhole/cubbyholelaw22.DrawOwn", spec := "drawOwn", plainKeys := false, apart := false, narrowed := true }
def DrawOwnUptoSaid : Prop := drawOwnUptoRow.holds Try.pinned (OpenSpec.upto drawOwnSpec)

/-- 'cubbyholelaw22.DrawNext', WHERE WHAT IT READS IS OF BULK AT MOST 1048576: true; the input reads as it did. -/
def drawNextUptoRow : OpenClaim := { program := "ytabeolmfgmbfaaa", sum := "a9eb44baef4aedd98fc65245608c5321192544c1080e3dcaee3f8c89a2f035dd", func := "cubbyhole/cubbyholelaw22.DrawNext", spec := "drawNext", plainKeys := false, apart := false, narrowed := true }
def DrawNextUptoSaid : Prop := drawNextUptoRow.holds Try.pinned (OpenSpec.upto drawNextSpec)

/-- 'cubbyholelaw23.ShufOrder', WHERE WHAT IT READS IS OF BULK AT MOST 1048576: true; the input reads as it did. -/
def shufOrderUptoRow : OpenClaim := { program := "ytabeolmfgmbfaaa", sum := "a9eb44baef4aedd98fc65245608c5321192544c1080e3dcaee3f8c89a2f035dd", func := "cubbyhole/cubbyholelaw23.ShufOrder", spec := "shufOrder", plainKeys := false, apart := false, narrowed := true }
def ShufOrderUptoSaid : Prop := shufOrderUptoRow.holds Try.pinned (OpenSpec.upto shufOrderSpec)

/-- 'cubbyholelaw19.StateNext', WHERE WHAT IT READS IS OF BULK AT MOST 1048576: true; the input reads as it did. -/
def stateNextUptoRow : OpenClaim := { program := "ytabeolmfgmbfaaa", sum := "a9eb44baef4aedd98fc65245608c5321192544c1080e3dcaee3f8c89a2f035dd", func := "cubbyhole/cubbyholelaw19.StateNext", spec := "stateNext", plainKeys := false, apart := false, narrowed := true }
def StateNextUptoSaid : Prop := stateNextUptoRow.holds Try.pinned (OpenSpec.upto stateNextSpec)

/-- 'cubbyholelaw19.StateRuns', WHERE WHAT IT READS IS OF BULK AT MOST 1048576: true; the input reads as it did. -/
def stateRunsUptoRow : OpenClaim := { program := "ytabeolmfgmbfaaa", sum := "a9eb44baef4aedd98fc65245608c5321192544c1080e3dcaee3f8c89a2f035dd", func := "cubbyhole/cubbyholelaw19.StateRuns", spec := "stateRuns", plainKeys := false, apart := false, narrowed := true }
def StateRunsUptoSaid : Prop := stateRunsUptoRow.holds Try.pinned (OpenSpec.upto stateRunsSpec)

/-- 'cubbyholelaw23.ShufBack', WHERE WHAT IT READS IS OF BULK AT MOST 1048576: true; the input reads as it did. -/
def shufBackUptoRow : OpenClaim := { program := "ytabeolmfgmbfaaa", sum := "a9eb44baef4aedd98fc65245608c5321192544c1080e3dcaee3f8c89a2f035dd", func := "cubbyhole/cubbyholelaw23.ShufBack", spec := "shufBack", plainKeys := false, apart := false, narrowed := true }
def ShufBackUptoSaid : Prop := shufBackUptoRow.holds Try.pinned (OpenSpec.upto shufBackSpec)

/-- 'cubbyholelaw51.DrillBelow', WHERE WHAT IT READS IS OF BULK AT MOST 1048576: true; the input reads as it did. -/
def drillBelowUptoRow : OpenClaim := { program := "ytabeolmfgmbfaaa", sum := "a9eb44baef4aedd98fc65245608c5321192544c1080e3dcaee3f8c89a2f035dd", func := "cubbyhole/cubbyholelaw51.DrillBelow", spec := "drillBelow", plainKeys := false, apart := false, narrowed := true }
def DrillBelowUptoSaid : Prop := drillBelowUptoRow.holds Try.pinned (OpenSpec.upto drillBelowSpec)

/-- 'cubbyholelaw54.TraceBytes', WHERE WHAT IT READS IS OF BULK AT MOST 1048576: true; the input reads as it did. -/
def traceBytesUptoRow : OpenClaim := { program := "ytabeolmfgmbfaaa", sum := "a9eb44baef4aedd98fc65245608c5321192544c1080e3dcaee3f8c89a2f035dd", func := "cubbyhole/cubbyholelaw54.TraceBytes", spec := "traceBytes", unfollowed := true, recurses := true, plainKeys := false, apart := false, narrowed := true }
def TraceBytesUptoSaid : Prop := traceBytesUptoRow.holds Try.pinned (OpenSpec.upto traceBytesSpec)

/-- 'cubbyholelaw54.TraceBack', WHERE WHAT IT READS IS OF BULK AT MOST 1048576: true; the input reads as it did. -/
def traceBackUptoRow : OpenClaim := { program := "ytabeolmfgmbfaaa", sum := "a9eb44baef4aedd98fc65245608c5321192544c1080e3dcaee3f8c89a2f035dd", func := "cubbyhole/cubbyholelaw54.TraceBack", spec := "traceBack", unfollowed := true, recurses := true, plainKeys := false, apart := false, narrowed := true }
def TraceBackUptoSaid : Prop := traceBackUptoRow.holds Try.pinned (OpenSpec.upto traceBackSpec)

/-- 'cubbyholelaw54.TraceAny', WHERE WHAT IT READS IS OF BULK AT MOST 1048576: true; the input reads as it did. -/
def traceAnyUptoRow : OpenClaim := { program := "ytabeolmfgmbfaaa", sum := "a9eb44baef4aedd98fc65245608c5321192544c1080e3dcaee3f8c89a2f035dd", func := "cubbyhole/cubbyholelaw54.TraceAny", spec := "traceAny", unfollowed := true, recurses := true, plainKeys := false, apart := false, narrowed := true }
def TraceAnyUptoSaid : Prop := traceAnyUptoRow.holds Try.pinned (OpenSpec.upto traceAnySpec)

/-- 'cubbyholelaw35.QuarPlays', WHERE WHAT IT READS IS OF BULK AT MOST 1048576: true; the input reads as it did. -/
def quarPlaysUptoRow : OpenClaim := { program := "ytabeolmfgmbfaaa", sum := "a9eb44baef4aedd98fc65245608c5321192544c1080e3dcaee3f8c89a2f035dd", func := "cubbyhole/cubbyholelaw35.QuarPlays", spec := "quarPlays", unfollowed := true, recurses := true, plainKeys := false, apart := false, narrowed := true }
def QuarPlaysUptoSaid : Prop := quarPlaysUptoRow.holds Try.pinned (OpenSpec.upto quarPlaysSpec)

/-- 'cubbyholelaw54.TraceSame', WHERE WHAT IT READS IS OF BULK AT MOST 1048576: true; the input reads as it did. -/
def traceSameUptoRow : OpenClaim := { program := "ytabeolmfgmbfaaa", sum := "a9eb44baef4aedd98fc65245608c5321192544c1080e3dcaee3f8c89a2f035dd", func := "cubbyhole/cubbyholelaw54.TraceSame", spec := "traceSame", unfollowed := true, recurses := true, plainKeys := false, apart := false, narrowed := true }
def TraceSameUptoSaid : Prop := traceSameUptoRow.holds Try.pinned (OpenSpec.upto traceSameSpec)

end Rows
end Go.Proofs.Ytabeolmfgmbfaaa
