/-
  No cell of these rows narrows 'for every input' (looked for: loops, veiled, ifaces, maps, wideKeys, modest, calm, conditions, laid).
  DERIVED. THE GIVEN ROWS OF THIS SEAT. 5 by the template 'for every input the law returns true; each argument reads behind the call as it read before'; 0 by the template 'total and deterministic' (their statements: YtingmlhhabaplaaTotals.lean).
  GIVEN WITH THE SEED: the statements are not yours to turn. If you find one false, say at which input.
  Laid BY PROGRAM, IN A SANDBOX (cutbox-rows.mjs): the forced cells as the released guide's own fill.sh prints them over the translation 19988d3e2b57cd3a… (all of the seat's roots in one cut). By AI agents, Wed Nov 11 2026. No macro, syntax, notation, axiom, sorry.
-/
import Derived.Test.YtingmlhhabaplaaChecked
import GoSem.Claim
import GoSem.ClaimJoined
import GoSem.ClaimMapViews
import Derived.JoinedTies
import Derived.KernelRfl
namespace Go.Proofs.Ytingmlhhabaplaa
/- THE CELL 'sum', in the pinned program and in every row, IS THE sha256 OF THE DUMP (.gsa) THAT YtingmlhhabaplaaProg.lean LOADS. Nothing in Lean hashes anything: it is a label: what it is worth is what the hold of that sum in a sandbox is worth. -/
noncomputable def Try.pinned : Pinned := { name := "ytingmlhhabaplaa", sum := "19988d3e2b57cd3a4a3516553f356b7af82a522f895081b73bed2b6d18c158d8", checked := Try.checked }
namespace Rows
def none {H : Type} : Left H := { results := [], args := [] }

/-- 'conduitlaw06.WireCommands': WHATEVER THE INPUT: true; the input reads as it did. -/
def wireCommandsSpec : ChangeSpec := { name := "wireCommands", fn := fun _ => fun
  | [d1, d2] => { results := [.lit (.bool true)], args := [d1, d2] }
  | _ => none }
def wireCommandsRow : OpenClaim := { program := "ytingmlhhabaplaa", sum := "19988d3e2b57cd3a4a3516553f356b7af82a522f895081b73bed2b6d18c158d8", func := "conduit/conduitlaw06.WireCommands", spec := "wireCommands", unfollowed := true, recurses := true, apart := false }
def WireCommandsSaid : Prop := wireCommandsRow.holds Try.pinned (OpenSpec.ofChange wireCommandsSpec)

/-- ITS FALSE NEIGHBOUR: 'it returns false'. Refute it at one input. -/
def wireCommandsWrong : ChangeSpec := { name := "wireCommands", fn := fun _ => fun
  | [d1, d2] => { results := [.lit (.bool false)], args := [d1, d2] }
  | _ => none }
def WireCommandsWrongFalsely : Prop := wireCommandsRow.holds Try.pinned (OpenSpec.ofChange wireCommandsWrong)

/-- 'conduitlaw06.WireCalls': WHATEVER THE INPUT: true; the input reads as it did. -/
def wireCallsSpec : ChangeSpec := { name := "wireCalls", fn := fun _ => fun
  | [d1, d2, d3] => { results := [.lit (.bool true)], args := [d1, d2, d3] }
  | _ => none }
def wireCallsRow : OpenClaim := { program := "ytingmlhhabaplaa", sum := "19988d3e2b57cd3a4a3516553f356b7af82a522f895081b73bed2b6d18c158d8", func := "conduit/conduitlaw06.WireCalls", spec := "wireCalls", unfollowed := true, recurses := true, apart := false }
def WireCallsSaid : Prop := wireCallsRow.holds Try.pinned (OpenSpec.ofChange wireCallsSpec)

/-- ITS FALSE NEIGHBOUR: 'it returns false'. Refute it at one input. -/
def wireCallsWrong : ChangeSpec := { name := "wireCalls", fn := fun _ => fun
  | [d1, d2, d3] => { results := [.lit (.bool false)], args := [d1, d2, d3] }
  | _ => none }
def WireCallsWrongFalsely : Prop := wireCallsRow.holds Try.pinned (OpenSpec.ofChange wireCallsWrong)

/-- 'conduitlaw06.WireNumbers': WHATEVER THE INPUT: true; the input reads as it did. -/
def wireNumbersSpec : ChangeSpec := { name := "wireNumbers", fn := fun _ => fun
  | [] => { results := [.lit (.bool true)], args := [] }
  | _ => none }
def wireNumbersRow : OpenClaim := { program := "ytingmlhhabaplaa", sum := "19988d3e2b57cd3a4a3516553f356b7af82a522f895081b73bed2b6d18c158d8", func := "conduit/conduitlaw06.WireNumbers", spec := "wireNumbers", unfollowed := true, recurses := true, apart := false }
def WireNumbersSaid : Prop := wireNumbersRow.holds Try.pinned (OpenSpec.ofChange wireNumbersSpec)

/-- ITS FALSE NEIGHBOUR: 'it returns false'. Refute it at one input. -/
def wireNumbersWrong : ChangeSpec := { name := "wireNumbers", fn := fun _ => fun
  | [] => { results := [.lit (.bool false)], args := [] }
  | _ => none }
def WireNumbersWrongFalsely : Prop := wireNumbersRow.holds Try.pinned (OpenSpec.ofChange wireNumbersWrong)

/-- 'conduitlaw06.WireSpares': WHATEVER THE INPUT: true; the input reads as it did. -/
def wireSparesSpec : ChangeSpec := { name := "wireSpares", fn := fun _ => fun
  | [d1, d2] => { results := [.lit (.bool true)], args := [d1, d2] }
  | _ => none }
def wireSparesRow : OpenClaim := { program := "ytingmlhhabaplaa", sum := "19988d3e2b57cd3a4a3516553f356b7af82a522f895081b73bed2b6d18c158d8", func := "conduit/conduitlaw06.WireSpares", spec := "wireSpares", unfollowed := true, recurses := true, apart := false }
def WireSparesSaid : Prop := wireSparesRow.holds Try.pinned (OpenSpec.ofChange wireSparesSpec)

/-- ITS FALSE NEIGHBOUR: 'it returns false'. Refute it at one input. -/
def wireSparesWrong : ChangeSpec := { name := "wireSpares", fn := fun _ => fun
  | [d1, d2] => { results := [.lit (.bool false)], args := [d1, d2] }
  | _ => none }
def WireSparesWrongFalsely : Prop := wireSparesRow.holds Try.pinned (OpenSpec.ofChange wireSparesWrong)

/-- 'conduitlaw06.WireStates': WHATEVER THE INPUT: true; the input reads as it did. -/
def wireStatesSpec : ChangeSpec := { name := "wireStates", fn := fun _ => fun
  | [d1, d2] => { results := [.lit (.bool true)], args := [d1, d2] }
  | _ => none }
def wireStatesRow : OpenClaim := { program := "ytingmlhhabaplaa", sum := "19988d3e2b57cd3a4a3516553f356b7af82a522f895081b73bed2b6d18c158d8", func := "conduit/conduitlaw06.WireStates", spec := "wireStates", unfollowed := true, recurses := true, apart := false }
def WireStatesSaid : Prop := wireStatesRow.holds Try.pinned (OpenSpec.ofChange wireStatesSpec)

/-- ITS FALSE NEIGHBOUR: 'it returns false'. Refute it at one input. -/
def wireStatesWrong : ChangeSpec := { name := "wireStates", fn := fun _ => fun
  | [d1, d2] => { results := [.lit (.bool false)], args := [d1, d2] }
  | _ => none }
def WireStatesWrongFalsely : Prop := wireStatesRow.holds Try.pinned (OpenSpec.ofChange wireStatesWrong)

/- THE SECOND FORM. 'bulk': how many values and letters a reading holds, each counted each time it is reached (what is shared counts as often as it is met; a slice's spare places count too). A statement '..UptoSaid' is the law's where the arguments, and the package variables that the reading takes, are together of bulk at most 1048576: NARROWER than '..Said'. Prove '..Said' where nothing that the law and all that it calls make is longer than what came in: it says more and counts as full. Else prove '..UptoSaid'. A law counts once. -/
mutual
def uptoBulk {H : Type} : DataW H → Nat
  | .lit (.string bytes) => bytes.length + 1
  | .lit _ => 1
  | .nil => 1
  | .ptr d => uptoBulk d + 1
  | .slice elems spare => uptoBulkAll elems + uptoBulkAll spare + 1
  | .agg parts => uptoBulkAll parts + 1
  | .iface _ d => uptoBulk d + 1
  | .map entries => uptoBulkEntries entries + 1
  | .held _ => 1
def uptoBulkAll {H : Type} : List (DataW H) → Nat
  | [] => 0
  | d :: r => uptoBulk d + uptoBulkAll r
def uptoBulkEntries {H : Type} : List (Lit × DataW H) → Nat
  | [] => 0
  | x :: r => uptoBulkEntry x + uptoBulkEntries r
def uptoBulkEntry {H : Type} : Lit × DataW H → Nat
  | (.string bytes, d) => bytes.length + uptoBulk d + 1
  | (_, d) => uptoBulk d + 1
 end
def uptoSmall : (H : Type) → List (DataW H) → Bool := fun _ ds => decide (uptoBulkAll ds ≤ 1048576)
def OpenSpec.upto (s : _root_.Go.ChangeSpec) : _root_.Go.OpenSpec := { _root_.Go.OpenSpec.ofChange s with cond := some uptoSmall }

/-- 'conduitlaw06.WireCommands', WHERE WHAT IT READS IS OF BULK AT MOST 1048576: true; the input reads as it did. -/
def wireCommandsUptoRow : OpenClaim := { program := "ytingmlhhabaplaa", sum := "19988d3e2b57cd3a4a3516553f356b7af82a522f895081b73bed2b6d18c158d8", func := "conduit/conduitlaw06.WireCommands", spec := "wireCommands", unfollowed := true, recurses := true, apart := false, narrowed := true }
def WireCommandsUptoSaid : Prop := wireCommandsUptoRow.holds Try.pinned (OpenSpec.upto wireCommandsSpec)

/-- 'conduitlaw06.WireCalls', WHERE WHAT IT READS IS OF BULK AT MOST 1048576: true; the input reads as it did. -/
def wireCallsUptoRow : OpenClaim := { program := "ytingmlhhabaplaa", sum := "19988d3e2b57cd3a4a3516553f356b7af82a522f895081b73bed2b6d18c158d8", func := "conduit/conduitlaw06.WireCalls", spec := "wireCalls", unfollowed := true, recurses := true, apart := false, narrowed := true }
def WireCallsUptoSaid : Prop := wireCallsUptoRow.holds Try.pinned (OpenSpec.upto wireCallsSpec)

/-- 'conduitlaw06.WireNumbers', WHERE WHAT IT READS IS OF BULK AT MOST 1048576: true; the input reads as it did. -/
def wireNumbersUptoRow : OpenClaim := { program := "ytingmlhhabaplaa", sum := "19988d3e2b57cd3a4a3516553f356b7af82a522f895081b73bed2b6d18c158d8", func := "conduit/conduitlaw06.WireNumbers", spec := "wireNumbers", unfollowed := true, recurses := true, apart := false, narrowed := true }
def WireNumbersUptoSaid : Prop := wireNumbersUptoRow.holds Try.pinned (OpenSpec.upto wireNumbersSpec)

/-- 'conduitlaw06.WireSpares', WHERE WHAT IT READS IS OF BULK AT MOST 1048576: true; the input reads as it did. -/
def wireSparesUptoRow : OpenClaim := { program := "ytingmlhhabaplaa", sum := "19988d3e2b57cd3a4a3516553f356b7af82a522f895081b73bed2b6d18c158d8", func := "conduit/conduitlaw06.WireSpares", spec := "wireSpares", unfollowed := true, recurses := true, apart := false, narrowed := true }
def WireSparesUptoSaid : Prop := wireSparesUptoRow.holds Try.pinned (OpenSpec.upto wireSparesSpec)

/-- 'conduitlaw06.WireStates', WHERE WHAT IT READS IS OF BULK AT MOST 1048576: true; the input reads as it did. -/
def wireStatesUptoRow : OpenClaim := { program := "ytingmlhhabaplaa", sum := "19988d3e2b57cd3a4a3516553f356b7af82a522f895081b73bed2b6d18c158d8", func := "conduit/conduitlaw06.WireStates", spec := "wireStates", unfollowed := true, recurses := true, apart := false, narrowed := true }
def WireStatesUptoSaid : Prop := wireStatesUptoRow.holds Try.pinned (OpenSpec.upto wireStatesSpec)

end Rows
end Go.Proofs.Ytingmlhhabaplaa
