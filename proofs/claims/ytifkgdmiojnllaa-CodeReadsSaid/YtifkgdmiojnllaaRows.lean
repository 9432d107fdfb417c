/-
  No cell of these rows narrows 'for every input' (looked for: loops, veiled, ifaces, maps, wideKeys, modest, calm, conditions, laid).
  DERIVED. THE GIVEN ROWS OF THIS SEAT. 6 by the template 'for every input the law returns true; each argument reads behind the call as it read before'; 0 by the template 'total and deterministic' (their statements: YtifkgdmiojnllaaTotals.lean).
  GIVEN WITH THE SEED: the statements are not yours to turn. If you find one false, say at which input.
  Laid BY PROGRAM, IN A SANDBOX (cutbox-rows.mjs): the forced cells as the released guide's own fill.sh prints them over the translation 5f5d2c603ba6403c… (all of the seat's roots in one cut). By AI agents, Wed Nov 11 2026. No macro, syntax, notation, axiom, sorry.
-/
import Derived.Test.YtifkgdmiojnllaaChecked
import GoSem.Claim
import GoSem.ClaimJoined
import GoSem.ClaimMapViews
import Derived.JoinedTies
import Derived.KernelRfl
namespace Go.Proofs.Ytifkgdmiojnllaa
/- THE CELL 'sum', in the pinned program and in every row, IS THE sha256 OF THE DUMP (.gsa) THAT YtifkgdmiojnllaaProg.lean LOADS. Nothing in Lean hashes anything: it is a label: what it is worth is what the hold of that sum in a sandbox is worth. -/
noncomputable def Try.pinned : Pinned := { name := "ytifkgdmiojnllaa", sum := "5f5d2c603ba6403c59c89ce79cd0ff905f952c202c1a73c6dd2813e5a4b49543", checked := Try.checked }
namespace Rows
def none {H : Type} : Left H := { results := [], args := [] }

/-- 'purflelaw14.CodeReads': WHATEVER THE INPUT: true; the input reads as it did. -/
def codeReadsSpec : ChangeSpec := { name := "codeReads", fn := fun _ => fun
  | [d] => { results := [.lit (.bool true)], args := [d] }
  | _ => none }
def codeReadsRow : OpenClaim := { program := "ytifkgdmiojnllaa", sum := "5f5d2c603ba6403c59c89ce79cd0ff905f952c202c1a73c6dd2813e5a4b49543", func := "purfle/purflelaw14.CodeReads", spec := "codeReads", inPlace := ["internal/bytealg.IndexByteString"], unfollowed := true, recurses := true, apart := false }
def CodeReadsSaid : Prop := codeReadsRow.holds Try.pinned (OpenSpec.ofChange codeReadsSpec)

/-- ITS FALSE NEIGHBOUR: 'it returns false'. Refute it at one input. -/
def codeReadsWrong : ChangeSpec := { name := "codeReads", fn := fun _ => fun
  | [d] => { results := [.lit (.bool false)], args := [d] }
  | _ => none }
def CodeReadsWrongFalsely : Prop := codeReadsRow.holds Try.pinned (OpenSpec.ofChange codeReadsWrong)

/-- 'purflelaw14.CodeBends': WHATEVER THE INPUT: true; the input reads as it did. -/
def codeBendsSpec : ChangeSpec := { name := "codeBends", fn := fun _ => fun
  | [d] => { results := [.lit (.bool true)], args := [d] }
  | _ => none }
def codeBendsRow : OpenClaim := { program := "ytifkgdmiojnllaa", sum := "5f5d2c603ba6403c59c89ce79cd0ff905f952c202c1a73c6dd2813e5a4b49543", func := "purfle/purflelaw14.CodeBends", spec := "codeBends", inPlace := ["internal/bytealg.IndexByteString"], unfollowed := true, recurses := true, apart := false }
def CodeBendsSaid : Prop := codeBendsRow.holds Try.pinned (OpenSpec.ofChange codeBendsSpec)

/-- ITS FALSE NEIGHBOUR: 'it returns false'. Refute it at one input. -/
def codeBendsWrong : ChangeSpec := { name := "codeBends", fn := fun _ => fun
  | [d] => { results := [.lit (.bool false)], args := [d] }
  | _ => none }
def CodeBendsWrongFalsely : Prop := codeBendsRow.holds Try.pinned (OpenSpec.ofChange codeBendsWrong)

/-- 'purflelaw14.CodeShifts': WHATEVER THE INPUT: true; the input reads as it did. -/
def codeShiftsSpec : ChangeSpec := { name := "codeShifts", fn := fun _ => fun
  | [d1, d2, d3] => { results := [.lit (.bool true)], args := [d1, d2, d3] }
  | _ => none }
def codeShiftsRow : OpenClaim := { program := "ytifkgdmiojnllaa", sum := "5f5d2c603ba6403c59c89ce79cd0ff905f952c202c1a73c6dd2813e5a4b49543", func := "purfle/purflelaw14.CodeShifts", spec := "codeShifts", inPlace := ["internal/bytealg.IndexByteString"], unfollowed := true, recurses := true, apart := false }
def CodeShiftsSaid : Prop := codeShiftsRow.holds Try.pinned (OpenSpec.ofChange codeShiftsSpec)

/-- ITS FALSE NEIGHBOUR: 'it returns false'. Refute it at one input. -/
def codeShiftsWrong : ChangeSpec := { name := "codeShifts", fn := fun _ => fun
  | [d1, d2, d3] => { results := [.lit (.bool false)], args := [d1, d2, d3] }
  | _ => none }
def CodeShiftsWrongFalsely : Prop := codeShiftsRow.holds Try.pinned (OpenSpec.ofChange codeShiftsWrong)

/-- 'purflelaw14.CodeBack': WHATEVER THE INPUT: true; the input reads as it did. -/
def codeBackSpec : ChangeSpec := { name := "codeBack", fn := fun _ => fun
  | [d1, d2] => { results := [.lit (.bool true)], args := [d1, d2] }
  | _ => none }
def codeBackRow : OpenClaim := { program := "ytifkgdmiojnllaa", sum := "5f5d2c603ba6403c59c89ce79cd0ff905f952c202c1a73c6dd2813e5a4b49543", func := "purfle/purflelaw14.CodeBack", spec := "codeBack", inPlace := ["internal/bytealg.IndexByteString", "internal/abi.NoEscape"], unfollowed := true, recurses := true, apart := false }
def CodeBackSaid : Prop := codeBackRow.holds Try.pinned (OpenSpec.ofChange codeBackSpec)

/-- ITS FALSE NEIGHBOUR: 'it returns false'. Refute it at one input. -/
def codeBackWrong : ChangeSpec := { name := "codeBack", fn := fun _ => fun
  | [d1, d2] => { results := [.lit (.bool false)], args := [d1, d2] }
  | _ => none }
def CodeBackWrongFalsely : Prop := codeBackRow.holds Try.pinned (OpenSpec.ofChange codeBackWrong)

/-- 'purflelaw14.CodeLines': WHATEVER THE INPUT: true; the input reads as it did. -/
def codeLinesSpec : ChangeSpec := { name := "codeLines", fn := fun _ => fun
  | [d] => { results := [.lit (.bool true)], args := [d] }
  | _ => none }
def codeLinesRow : OpenClaim := { program := "ytifkgdmiojnllaa", sum := "5f5d2c603ba6403c59c89ce79cd0ff905f952c202c1a73c6dd2813e5a4b49543", func := "purfle/purflelaw14.CodeLines", spec := "codeLines", inPlace := ["internal/bytealg.IndexByteString", "internal/abi.NoEscape"], unfollowed := true, recurses := true, apart := false }
def CodeLinesSaid : Prop := codeLinesRow.holds Try.pinned (OpenSpec.ofChange codeLinesSpec)

/-- ITS FALSE NEIGHBOUR: 'it returns false'. Refute it at one input. -/
def codeLinesWrong : ChangeSpec := { name := "codeLines", fn := fun _ => fun
  | [d] => { results := [.lit (.bool false)], args := [d] }
  | _ => none }
def CodeLinesWrongFalsely : Prop := codeLinesRow.holds Try.pinned (OpenSpec.ofChange codeLinesWrong)

/-- 'purflelaw14.CodeTells': WHATEVER THE INPUT: true; the input reads as it did. -/
def codeTellsSpec : ChangeSpec := { name := "codeTells", fn := fun _ => fun
  | [d1, d2, d3, d4, d5] => { results := [.lit (.bool true)], args := [d1, d2, d3, d4, d5] }
  | _ => none }
def codeTellsRow : OpenClaim := { program := "ytifkgdmiojnllaa", sum := "5f5d2c603ba6403c59c89ce79cd0ff905f952c202c1a73c6dd2813e5a4b49543", func := "purfle/purflelaw14.CodeTells", spec := "codeTells", inPlace := ["internal/bytealg.IndexByteString", "internal/abi.NoEscape"], unfollowed := true, recurses := true, apart := false }
def CodeTellsSaid : Prop := codeTellsRow.holds Try.pinned (OpenSpec.ofChange codeTellsSpec)

/-- ITS FALSE NEIGHBOUR: 'it returns false'. Refute it at one input. -/
def codeTellsWrong : ChangeSpec := { name := "codeTells", fn := fun _ => fun
  | [d1, d2, d3, d4, d5] => { results := [.lit (.bool false)], args := [d1, d2, d3, d4, d5] }
  | _ => none }
def CodeTellsWrongFalsely : Prop := codeTellsRow.holds Try.pinned (OpenSpec.ofChange codeTellsWrong)

/- THE SECOND FORM. 'bulk': how many values and letters a reading holds, each counted each time it is reached (what is shared counts as often as it is met; a slice's spare places count too). A statement '..UptoSaid' is the law's where the arguments, and the package variables that the reading takes, are together of bulk at most 1048576: NARROWER than '..Said'. Prove '..Said' where nothing that the law and all that it calls make is longer than what came in: it says more and counts as full. Else prove '..UptoSaid'. A law counts once. -/
mutual
def uptoBulk {H : Type} : DataW H → Nat
  | .lit (.string bytes) => bytes.length + 1
  | .lit _ => 1
  | .nil => 1
  | .ptr d => uptoBulk d + 1
  | .slice elems spare => uptoBulkAll elems + uptoBulkAll spare + 1
  | .agg parts => uptoBulkAll parts + 1
  | .iface _ d => uptoBulk d + 1
  | .map entries => uptoBulkEntries entries + 1
  | .held _ => 1
def uptoBulkAll {H : Type} : List (DataW H) → Nat
  | [] => 0
  | d :: r => uptoBulk d + uptoBulkAll r
def uptoBulkEntries {H : Type} : List (Lit × DataW H) → Nat
  | [] => 0
  | x :: r => uptoBulkEntry x + uptoBulkEntries r
def uptoBulkEntry {H : Type} : Lit × DataW H → Nat
  | (.string bytes, d) => bytes.length + uptoBulk d + 1
  | (_, d) => uptoBulk d + 1
 end
def uptoSmall : (H : Type) → List (DataW H) → Bool := fun _ ds => decide (uptoBulkAll ds ≤ 1048576)
def OpenSpec.upto (s : _root_.Go.ChangeSpec) : _root_.Go.OpenSpec := { _root_.Go.OpenSpec.ofChange s with cond := some uptoSmall }

/-- 'purflelaw14.CodeReads', WHERE WHAT IT READS IS OF BULK AT MOST 1048576: true; the input reads as it did. -/
def codeReadsUptoRow : OpenClaim := { program := "ytifkgdmiojnllaa", sum := "5f5d2c603ba6403c59c89ce79cd0ff905f952c202c1a73c6dd2813e5a4b49543", func := "purfle/purflelaw14.CodeReads", spec := "codeReads", inPlace := ["internal/bytealg.IndexByteString"], unfollowed := true, recurses := true, apart := false, narrowed := true }
def CodeReadsUptoSaid : Prop := codeReadsUptoRow.holds Try.pinned (OpenSpec.upto codeReadsSpec)

/-- 'purflelaw14.CodeBends', WHERE WHAT IT READS IS OF BULK AT MOST 1048576: true; the input reads as it did. -/
def codeBendsUptoRow : OpenClaim := { program := "ytifkgdmiojnllaa", sum := "5f5d2c603ba6403c59c89ce79cd0ff905f952c202c1a73c6dd2813e5a4b49543", func := "purfle/purflelaw14.CodeBends", spec := "codeBends", inPlace := ["internal/bytealg.IndexByteString"], unfollowed := true, recurses := true, apart := false, narrowed := true }
def CodeBendsUptoSaid : Prop := codeBendsUptoRow.holds Try.pinned (OpenSpec.upto codeBendsSpec)

/-- 'purflelaw14.CodeShifts', WHERE WHAT IT READS IS OF BULK AT MOST 1048576: true; the input reads as it did. -/
def codeShiftsUptoRow : OpenClaim := { program := "ytifkgdmiojnllaa", sum := "5f5d2c603ba6403c59c89ce79cd0ff905f952c202c1a73c6dd2813e5a4b49543", func := "purfle/purflelaw14.CodeShifts", spec := "codeShifts", inPlace := ["internal/bytealg.IndexByteString"], unfollowed := true, recurses := true, apart := false, narrowed := true }
def CodeShiftsUptoSaid : Prop := codeShiftsUptoRow.holds Try.pinned (OpenSpec.upto codeShiftsSpec)

/-- 'purflelaw14.CodeBack', WHERE WHAT IT READS IS OF BULK AT MOST 1048576: true; the input reads as it did. -/
def codeBackUptoRow : OpenClaim := { program := "ytifkgdmiojnllaa", sum := "5f5d2c603ba6403c59c89ce79cd0ff905f952c202c1a73c6dd2813e5a4b49543", func := "purfle/purflelaw14.CodeBack", spec := "codeBack", inPlace := ["internal/bytealg.IndexByteString", "internal/abi.NoEscape"], unfollowed := true, recurses := true, apart := false, narrowed := true }
def CodeBackUptoSaid : Prop := codeBackUptoRow.holds Try.pinned (OpenSpec.upto codeBackSpec)

/-- 'purflelaw14.CodeLines', WHERE WHAT IT READS IS OF BULK AT MOST 1048576: true; the input reads as it did. -/
def codeLinesUptoRow : OpenClaim := { program := "ytifkgdmiojnllaa", sum := "5f5d2c603ba6403c59c89ce79cd0ff905f952c202c1a73c6dd2813e5a4b49543", func := "purfle/purflelaw14.CodeLines", spec := "codeLines", inPlace := ["internal/bytealg.IndexByteString", "internal/abi.NoEscape"], unfollowed := true, recurses := true, apart := false, narrowed := true }
def CodeLinesUptoSaid : Prop := codeLinesUptoRow.holds Try.pinned (OpenSpec.upto codeLinesSpec)

/-- 'purflelaw14.CodeTells', WHERE WHAT IT READS IS OF BULK AT MOST 1048576: true; the input reads as it did. -/
def codeTellsUptoRow : OpenClaim := { program := "ytifkgdmiojnllaa", sum := "5f5d2c603ba6403c59c89ce79cd0ff905f952c202c1a73c6dd2813e5a4b49543", func := "purfle/purflelaw14.CodeTells", spec := "codeTells", inPlace := ["internal/bytealg.IndexByteString", "internal/abi.NoEscape"], unfollowed := true, recurses := true, apart := false, narrowed := true }
def CodeTellsUptoSaid : Prop := codeTellsUptoRow.holds Try.pinned (OpenSpec.upto codeTellsSpec)

end Rows
end Go.Proofs.Ytifkgdmiojnllaa
