/-
  No cell of these rows narrows 'for every input' (looked for: loops, veiled, ifaces, maps, wideKeys, modest, calm, conditions, laid).
  DERIVED. THE GIVEN ROWS OF THIS SEAT. 6 by the template 'for every input the law returns true; each argument reads behind the call as it read before'; 0 by the template 'total and deterministic' (their statements: YtdkclofgaiaclaaTotals.lean).
  GIVEN WITH THE SEED: the statements are not yours to turn. If you find one false, say at which input.
  Laid BY PROGRAM, IN A SANDBOX (cutbox-rows.mjs): the forced cells as the released guide's own fill.sh prints them over the translation 5a3d1f2fe02f80f9… (all of the seat's roots in one cut). By AI agents, Wed Nov 11 2026. No macro, syntax, notation, axiom, sorry.
-/
import Derived.Test.YtdkclofgaiaclaaChecked
import GoSem.Claim
import GoSem.ClaimJoined
import GoSem.ClaimMapViews
import Derived.JoinedTies
import Derived.KernelRfl
namespace Go.Proofs.Ytdkclofgaiaclaa
/- THE CELL 'sum', in the pinned program and in every row, IS THE sha256 OF THE DUMP (.gsa) THAT YtdkclofgaiaclaaProg.lean LOADS. Nothing in Lean hashes anything: it is a label: what it is worth is what the hold of that sum in a sandbox is worth. -/
noncomputable def Try.pinned : Pinned := { name := "ytdkclofgaiaclaa", sum := "5a3d1f2fe02f80f9a0fcfa3b9979cbba2b28fa3d8331af3deb7b04c69845bc20", checked := Try.checked }
namespace Rows
def none {H : Type} : Left H := { results := [], args := [] }

/-- 'conduitlaw21.AppendAgrees': WHATEVER THE INPUT: true; the input reads as it did. -/
def appendAgreesSpec : ChangeSpec := { name := "appendAgrees", fn := fun _ => fun
  | [d1, d2, d3, d4] => { results := [.lit (.bool true)], args := [d1, d2, d3, d4] }
  | _ => none }
def appendAgreesRow : OpenClaim := { program := "ytdkclofgaiaclaa", sum := "5a3d1f2fe02f80f9a0fcfa3b9979cbba2b28fa3d8331af3deb7b04c69845bc20", func := "conduit/conduitlaw21.AppendAgrees", spec := "appendAgrees", unfollowed := true, recurses := true, apart := false }
def AppendAgreesSaid : Prop := appendAgreesRow.holds Try.pinned (OpenSpec.ofChange appendAgreesSpec)

/-- ITS FALSE NEIGHBOUR: 'it returns false'. Refute it at one input. -/
def appendAgreesWrong : ChangeSpec := { name := "appendAgrees", fn := fun _ => fun
  | [d1, d2, d3, d4] => { results := [.lit (.bool false)], args := [d1, d2, d3, d4] }
  | _ => none }
def AppendAgreesWrongFalsely : Prop := appendAgreesRow.holds Try.pinned (OpenSpec.ofChange appendAgreesWrong)

/-- 'conduitlaw21.AppendTwice': WHATEVER THE INPUT: true; the input reads as it did. -/
def appendTwiceSpec : ChangeSpec := { name := "appendTwice", fn := fun _ => fun
  | [d1, d2, d3, d4] => { results := [.lit (.bool true)], args := [d1, d2, d3, d4] }
  | _ => none }
def appendTwiceRow : OpenClaim := { program := "ytdkclofgaiaclaa", sum := "5a3d1f2fe02f80f9a0fcfa3b9979cbba2b28fa3d8331af3deb7b04c69845bc20", func := "conduit/conduitlaw21.AppendTwice", spec := "appendTwice", unfollowed := true, recurses := true, apart := false }
def AppendTwiceSaid : Prop := appendTwiceRow.holds Try.pinned (OpenSpec.ofChange appendTwiceSpec)

/-- ITS FALSE NEIGHBOUR: 'it returns false'. Refute it at one input. -/
def appendTwiceWrong : ChangeSpec := { name := "appendTwice", fn := fun _ => fun
  | [d1, d2, d3, d4] => { results := [.lit (.bool false)], args := [d1, d2, d3, d4] }
  | _ => none }
def AppendTwiceWrongFalsely : Prop := appendTwiceRow.holds Try.pinned (OpenSpec.ofChange appendTwiceWrong)

/-- 'conduitlaw21.AppendBase': WHATEVER THE INPUT: true; the input reads as it did. -/
def appendBaseSpec : ChangeSpec := { name := "appendBase", fn := fun _ => fun
  | [d1, d2, d3, d4] => { results := [.lit (.bool true)], args := [d1, d2, d3, d4] }
  | _ => none }
def appendBaseRow : OpenClaim := { program := "ytdkclofgaiaclaa", sum := "5a3d1f2fe02f80f9a0fcfa3b9979cbba2b28fa3d8331af3deb7b04c69845bc20", func := "conduit/conduitlaw21.AppendBase", spec := "appendBase", unfollowed := true, recurses := true, apart := false }
def AppendBaseSaid : Prop := appendBaseRow.holds Try.pinned (OpenSpec.ofChange appendBaseSpec)

/-- ITS FALSE NEIGHBOUR: 'it returns false'. Refute it at one input. -/
def appendBaseWrong : ChangeSpec := { name := "appendBase", fn := fun _ => fun
  | [d1, d2, d3, d4] => { results := [.lit (.bool false)], args := [d1, d2, d3, d4] }
  | _ => none }
def AppendBaseWrongFalsely : Prop := appendBaseRow.holds Try.pinned (OpenSpec.ofChange appendBaseWrong)

/-- 'conduitlaw21.AppendNumbers': WHATEVER THE INPUT: true; the input reads as it did. -/
def appendNumbersSpec : ChangeSpec := { name := "appendNumbers", fn := fun _ => fun
  | [] => { results := [.lit (.bool true)], args := [] }
  | _ => none }
def appendNumbersRow : OpenClaim := { program := "ytdkclofgaiaclaa", sum := "5a3d1f2fe02f80f9a0fcfa3b9979cbba2b28fa3d8331af3deb7b04c69845bc20", func := "conduit/conduitlaw21.AppendNumbers", spec := "appendNumbers", unfollowed := true, recurses := true, apart := false }
def AppendNumbersSaid : Prop := appendNumbersRow.holds Try.pinned (OpenSpec.ofChange appendNumbersSpec)

/-- ITS FALSE NEIGHBOUR: 'it returns false'. Refute it at one input. -/
def appendNumbersWrong : ChangeSpec := { name := "appendNumbers", fn := fun _ => fun
  | [] => { results := [.lit (.bool false)], args := [] }
  | _ => none }
def AppendNumbersWrongFalsely : Prop := appendNumbersRow.holds Try.pinned (OpenSpec.ofChange appendNumbersWrong)

/-- 'conduitlaw21.AppendTells': WHATEVER THE INPUT: true; the input reads as it did. -/
def appendTellsSpec : ChangeSpec := { name := "appendTells", fn := fun _ => fun
  | [d1, d2, d3, d4, d5, d6] => { results := [.lit (.bool true)], args := [d1, d2, d3, d4, d5, d6] }
  | _ => none }
def appendTellsRow : OpenClaim := { program := "ytdkclofgaiaclaa", sum := "5a3d1f2fe02f80f9a0fcfa3b9979cbba2b28fa3d8331af3deb7b04c69845bc20", func := "conduit/conduitlaw21.AppendTells", spec := "appendTells", unfollowed := true, recurses := true, apart := false }
def AppendTellsSaid : Prop := appendTellsRow.holds Try.pinned (OpenSpec.ofChange appendTellsSpec)

/-- ITS FALSE NEIGHBOUR: 'it returns false'. Refute it at one input. -/
def appendTellsWrong : ChangeSpec := { name := "appendTells", fn := fun _ => fun
  | [d1, d2, d3, d4, d5, d6] => { results := [.lit (.bool false)], args := [d1, d2, d3, d4, d5, d6] }
  | _ => none }
def AppendTellsWrongFalsely : Prop := appendTellsRow.holds Try.pinned (OpenSpec.ofChange appendTellsWrong)

/-- 'conduitlaw21.AppendHints': WHATEVER THE INPUT: true; the input reads as it did. -/
def appendHintsSpec : ChangeSpec := { name := "appendHints", fn := fun _ => fun
  | [d1, d2, d3] => { results := [.lit (.bool true)], args := [d1, d2, d3] }
  | _ => none }
def appendHintsRow : OpenClaim := { program := "ytdkclofgaiaclaa", sum := "5a3d1f2fe02f80f9a0fcfa3b9979cbba2b28fa3d8331af3deb7b04c69845bc20", func := "conduit/conduitlaw21.AppendHints", spec := "appendHints", unfollowed := true, recurses := true, apart := false }
def AppendHintsSaid : Prop := appendHintsRow.holds Try.pinned (OpenSpec.ofChange appendHintsSpec)

/-- ITS FALSE NEIGHBOUR: 'it returns false'. Refute it at one input. -/
def appendHintsWrong : ChangeSpec := { name := "appendHints", fn := fun _ => fun
  | [d1, d2, d3] => { results := [.lit (.bool false)], args := [d1, d2, d3] }
  | _ => none }
def AppendHintsWrongFalsely : Prop := appendHintsRow.holds Try.pinned (OpenSpec.ofChange appendHintsWrong)

/- THE SECOND FORM. 'bulk': how many values and letters a reading holds, each counted each time it is reached (what is shared counts as often as it is met; a slice's spare places count too). A statement '..UptoSaid' is the law's where the arguments, and the package variables that the reading takes, are together of bulk at most 1048576: NARROWER than '..Said'. Prove '..Said' where nothing that the law and all that it calls make is longer than what came in: it says more and counts as full. Else prove '..UptoSaid'. A law counts once. -/
mutual
def uptoBulk {H : Type} : DataW H → Nat
  | .lit (.string bytes) => bytes.length + 1
  | .lit _ => 1
  | .nil => 1
  | .ptr d => uptoBulk d + 1
  | .slice elems spare => uptoBulkAll elems + uptoBulkAll spare + 1
  | .agg parts => uptoBulkAll parts + 1
  | .iface _ d => uptoBulk d + 1
  | .map entries => uptoBulkEntries entries + 1
  | .held _ => 1
def uptoBulkAll {H : Type} : List (DataW H) → Nat
  | [] => 0
  | d :: r => uptoBulk d + uptoBulkAll r
def uptoBulkEntries {H : Type} : List (Lit × DataW H) → Nat
  | [] => 0
  | x :: r => uptoBulkEntry x + uptoBulkEntries r
def uptoBulkEntry {H : Type} : Lit × DataW H → Nat
  | (.string bytes, d) => bytes.length + uptoBulk d + 1
  | (_, d) => uptoBulk d + 1
 end
def uptoSmall : (H : Type) → List (DataW H) → Bool := fun _ ds => decide (uptoBulkAll ds ≤ 1048576)
def OpenSpec.upto (s : _root_.Go.ChangeSpec) : _root_.Go.OpenSpec := { _root_.Go.OpenSpec.ofChange s with cond := some uptoSmall }

/-- 'conduitlaw21.AppendAgrees', WHERE WHAT IT READS IS OF BULK AT MOST 1048576: true; the input reads as it did. -/
def appendAgreesUptoRow : OpenClaim := { program := "ytdkclofgaiaclaa", sum := "5a3d1f2fe02f80f9a0fcfa3b9979cbba2b28fa3d8331af3deb7b04c69845bc20", func := "conduit/conduitlaw21.AppendAgrees", spec := "appendAgrees", unfollowed := true, recurses := true, apart := false, narrowed := true }
def AppendAgreesUptoSaid : Prop := appendAgreesUptoRow.holds Try.pinned (OpenSpec.upto appendAgreesSpec)

/-- 'conduitlaw21.AppendTwice', WHERE WHAT IT READS IS OF BULK AT MOST 1048576: true; the input reads as it did. -/
def appendTwiceUptoRow : OpenClaim := { program := "ytdkclofgaiaclaa", sum := "5a3d1f2fe02f80f9a0fcfa3b9979cbba2b28fa3d8331af3deb7b04c69845bc20", func := "conduit/conduitlaw21.AppendTwice", spec := "appendTwice", unfollowed := true, recurses := true, apart := false, narrowed := true }
def AppendTwiceUptoSaid : Prop := appendTwiceUptoRow.holds Try.pinned (OpenSpec.upto appendTwiceSpec)

/-- 'conduitlaw21.AppendBase', WHERE WHAT IT READS IS OF BULK AT MOST 1048576: true; the input reads as it did. -/
def appendBaseUptoRow : OpenClaim := { program := "ytdkclofgaiaclaa", sum := "5a3d1f2fe02f80f9a0fcfa3b9979cbba2b28fa3d8331af3deb7b04c69845bc20", func := "conduit/conduitlaw21.AppendBase", spec := "appendBase", unfollowed := true, recurses := true, apart := false, narrowed := true }
def AppendBaseUptoSaid : Prop := appendBaseUptoRow.holds Try.pinned (OpenSpec.upto appendBaseSpec)

/-- 'conduitlaw21.AppendNumbers', WHERE WHAT IT READS IS OF BULK AT MOST 1048576: true; the input reads as it did. -/
def appendNumbersUptoRow : OpenClaim := { program := "ytdkclofgaiaclaa", sum := "5a3d1f2fe02f80f9a0fcfa3b9979cbba2b28fa3d8331af3deb7b04c69845bc20", func := "conduit/conduitlaw21.AppendNumbers", spec := "appendNumbers", unfollowed := true, recurses := true, apart := false, narrowed := true }
def AppendNumbersUptoSaid : Prop := appendNumbersUptoRow.holds Try.pinned (OpenSpec.upto appendNumbersSpec)

/-- 'conduitlaw21.AppendTells', WHERE WHAT IT READS IS OF BULK AT MOST 1048576: true; the input reads as it did. -/
def appendTellsUptoRow : OpenClaim := { program := "ytdkclofgaiaclaa", sum := "5a3d1f2fe02f80f9a0fcfa3b9979cbba2b28fa3d8331af3deb7b04c69845bc20", func := "conduit/conduitlaw21.AppendTells", spec := "appendTells", unfollowed := true, recurses := true, apart := false, narrowed := true }
def AppendTellsUptoSaid : Prop := appendTellsUptoRow.holds Try.pinned (OpenSpec.upto appendTellsSpec)

/-- 'conduitlaw21.AppendHints', WHERE WHAT IT READS IS OF BULK AT MOST 1048576: true; the input reads as it did. -/
def appendHintsUptoRow : OpenClaim := { program := "ytdkclofgaiaclaa", sum := "5a3d1f2fe02f80f9a0fcfa3b9979cbba2b28fa3d8331af3deb7b04c69845bc20", func := "conduit/conduitlaw21.AppendHints", spec := "appendHints", unfollowed := true, recurses := true, apart := false, narrowed := true }
def AppendHintsUptoSaid : Prop := appendHintsUptoRow.holds Try.pinned (OpenSpec.upto appendHintsSpec)

end Rows
end Go.Proofs.Ytdkclofgaiaclaa
