/-
  NARROWER THAN 'FOR EVERY INPUT', by the rows' own cells (each row's printed sentence says how): NotationFree: loops · NotationParts: loops · NotationLines: loops · NotationBack: loops.
  DERIVED. THE GIVEN ROWS OF THIS SEAT. 6 by the template 'for every input the law returns true; each argument reads behind the call as it read before'; 0 by the template 'total and deterministic' (their statements: YtpfploolkmcalaaTotals.lean).
  GIVEN WITH THE SEED: the statements are not yours to turn. If you find one false, say at which input.
  Laid BY PROGRAM, IN A SANDBOX (cutbox-rows.mjs): the forced cells as the released guide's own fill.sh prints them over the translation b864f574d977a33f… (all of the seat's roots in one cut). By AI agents, Wed Nov 11 2026. No macro, syntax, notation, axiom, sorry.
-/
import Derived.Test.YtpfploolkmcalaaChecked
import GoSem.Claim
import GoSem.ClaimJoined
import GoSem.ClaimMapViews
import Derived.JoinedTies
import Derived.KernelRfl
namespace Go.Proofs.Ytpfploolkmcalaa
/- THE CELL 'sum', in the pinned program and in every row, IS THE sha256 OF THE DUMP (.gsa) THAT YtpfploolkmcalaaProg.lean LOADS. Nothing in Lean hashes anything: it is a label: what it is worth is what the hold of that sum in a sandbox is worth. -/
noncomputable def Try.pinned : Pinned := { name := "ytpfploolkmcalaa", sum := "b864f574d977a33fae2d6c5c1e115fe85d4d2231b897efd35861e1e8f851f2b2", checked := Try.checked }
namespace Rows
def none {H : Type} : Left H := { results := [], args := [] }

/-- 'purflelaw09.NotationParses': WHATEVER THE INPUT: true; the input reads as it did. -/
def notationParsesSpec : ChangeSpec := { name := "notationParses", fn := fun _ => fun
  | [d] => { results := [.lit (.bool true)], args := [d] }
  | _ => none }
def notationParsesRow : OpenClaim := { program := "ytpfploolkmcalaa", sum := "b864f574d977a33fae2d6c5c1e115fe85d4d2231b897efd35861e1e8f851f2b2", func := "purfle/purflelaw09.NotationParses", spec := "notationParses", inPlace := ["internal/bytealg.IndexByteString"], unfollowed := true, recurses := true, apart := false }
def NotationParsesSaid : Prop := notationParsesRow.holds Try.pinned (OpenSpec.ofChange notationParsesSpec)

/-- ITS FALSE NEIGHBOUR: 'it returns false'. Refute it at one input. -/
def notationParsesWrong : ChangeSpec := { name := "notationParses", fn := fun _ => fun
  | [d] => { results := [.lit (.bool false)], args := [d] }
  | _ => none }
def NotationParsesWrongFalsely : Prop := notationParsesRow.holds Try.pinned (OpenSpec.ofChange notationParsesWrong)

/-- 'purflelaw09.NotationFree': WHATEVER THE INPUT: true; the input reads as it did. -/
def notationFreeSpec : ChangeSpec := { name := "notationFree", fn := fun _ => fun
  | [d1, d2, d3] => { results := [.lit (.bool true)], args := [d1, d2, d3] }
  | _ => none }
def notationFreeRow : OpenClaim := { program := "ytpfploolkmcalaa", sum := "b864f574d977a33fae2d6c5c1e115fe85d4d2231b897efd35861e1e8f851f2b2", func := "purfle/purflelaw09.NotationFree", spec := "notationFree", inPlace := ["internal/bytealg.IndexByteString"], unfollowed := true, recurses := true, loops := true, apart := false }
def NotationFreeSaid : Prop := notationFreeRow.holds Try.pinned (OpenSpec.ofChange notationFreeSpec)

/-- ITS FALSE NEIGHBOUR: 'it returns false'. Refute it at one input. -/
def notationFreeWrong : ChangeSpec := { name := "notationFree", fn := fun _ => fun
  | [d1, d2, d3] => { results := [.lit (.bool false)], args := [d1, d2, d3] }
  | _ => none }
def NotationFreeWrongFalsely : Prop := notationFreeRow.holds Try.pinned (OpenSpec.ofChange notationFreeWrong)

/-- 'purflelaw09.NotationParts': WHATEVER THE INPUT: true; the input reads as it did. -/
def notationPartsSpec : ChangeSpec := { name := "notationParts", fn := fun _ => fun
  | [d1, d2] => { results := [.lit (.bool true)], args := [d1, d2] }
  | _ => none }
def notationPartsRow : OpenClaim := { program := "ytpfploolkmcalaa", sum := "b864f574d977a33fae2d6c5c1e115fe85d4d2231b897efd35861e1e8f851f2b2", func := "purfle/purflelaw09.NotationParts", spec := "notationParts", inPlace := ["internal/bytealg.IndexByteString", "internal/abi.NoEscape"], unfollowed := true, recurses := true, loops := true, apart := false }
def NotationPartsSaid : Prop := notationPartsRow.holds Try.pinned (OpenSpec.ofChange notationPartsSpec)

/-- ITS FALSE NEIGHBOUR: 'it returns false'. Refute it at one input. -/
def notationPartsWrong : ChangeSpec := { name := "notationParts", fn := fun _ => fun
  | [d1, d2] => { results := [.lit (.bool false)], args := [d1, d2] }
  | _ => none }
def NotationPartsWrongFalsely : Prop := notationPartsRow.holds Try.pinned (OpenSpec.ofChange notationPartsWrong)

/-- 'purflelaw09.NotationAgain': WHATEVER THE INPUT: true; the input reads as it did. -/
def notationAgainSpec : ChangeSpec := { name := "notationAgain", fn := fun _ => fun
  | [d] => { results := [.lit (.bool true)], args := [d] }
  | _ => none }
def notationAgainRow : OpenClaim := { program := "ytpfploolkmcalaa", sum := "b864f574d977a33fae2d6c5c1e115fe85d4d2231b897efd35861e1e8f851f2b2", func := "purfle/purflelaw09.NotationAgain", spec := "notationAgain", inPlace := ["internal/bytealg.IndexByteString", "internal/abi.NoEscape"], unfollowed := true, recurses := true, apart := false }
def NotationAgainSaid : Prop := notationAgainRow.holds Try.pinned (OpenSpec.ofChange notationAgainSpec)

/-- ITS FALSE NEIGHBOUR: 'it returns false'. Refute it at one input. -/
def notationAgainWrong : ChangeSpec := { name := "notationAgain", fn := fun _ => fun
  | [d] => { results := [.lit (.bool false)], args := [d] }
  | _ => none }
def NotationAgainWrongFalsely : Prop := notationAgainRow.holds Try.pinned (OpenSpec.ofChange notationAgainWrong)

/-- 'purflelaw09.NotationLines': WHATEVER THE INPUT: true; the input reads as it did. -/
def notationLinesSpec : ChangeSpec := { name := "notationLines", fn := fun _ => fun
  | [d1, d2] => { results := [.lit (.bool true)], args := [d1, d2] }
  | _ => none }
def notationLinesRow : OpenClaim := { program := "ytpfploolkmcalaa", sum := "b864f574d977a33fae2d6c5c1e115fe85d4d2231b897efd35861e1e8f851f2b2", func := "purfle/purflelaw09.NotationLines", spec := "notationLines", inPlace := ["internal/bytealg.IndexByteString", "internal/abi.NoEscape"], unfollowed := true, recurses := true, loops := true, apart := false }
def NotationLinesSaid : Prop := notationLinesRow.holds Try.pinned (OpenSpec.ofChange notationLinesSpec)

/-- ITS FALSE NEIGHBOUR: 'it returns false'. Refute it at one input. -/
def notationLinesWrong : ChangeSpec := { name := "notationLines", fn := fun _ => fun
  | [d1, d2] => { results := [.lit (.bool false)], args := [d1, d2] }
  | _ => none }
def NotationLinesWrongFalsely : Prop := notationLinesRow.holds Try.pinned (OpenSpec.ofChange notationLinesWrong)

/-- 'purflelaw09.NotationBack': WHATEVER THE INPUT: true; the input reads as it did. -/
def notationBackSpec : ChangeSpec := { name := "notationBack", fn := fun _ => fun
  | [d1, d2] => { results := [.lit (.bool true)], args := [d1, d2] }
  | _ => none }
def notationBackRow : OpenClaim := { program := "ytpfploolkmcalaa", sum := "b864f574d977a33fae2d6c5c1e115fe85d4d2231b897efd35861e1e8f851f2b2", func := "purfle/purflelaw09.NotationBack", spec := "notationBack", inPlace := ["internal/bytealg.IndexByteString", "internal/abi.NoEscape"], unfollowed := true, recurses := true, loops := true, apart := false }
def NotationBackSaid : Prop := notationBackRow.holds Try.pinned (OpenSpec.ofChange notationBackSpec)

/-- ITS FALSE NEIGHBOUR: 'it returns false'. Refute it at one input. -/
def notationBackWrong : ChangeSpec := { name := "notationBack", fn := fun _ => fun
  | [d1, d2] => { results := [.lit (.bool false)], args := [d1, d2] }
  | _ => none }
def NotationBackWrongFalsely : Prop := notationBackRow.holds Try.pinned (OpenSpec.ofChange notationBackWrong)

/- THE SECOND FORM. 'bulk': how many values and letters a reading holds, each counted each time it is reached (what is shared counts as often as it is met; a slice's spare places count too). A statement '..UptoSaid' is the law's where the arguments, and the package variables that the reading takes, are together of bulk at most 1048576: NARROWER than '..Said'. Prove '..Said' where nothing that the law and all that it calls make is longer than what came in: it says more and counts as full. Else prove '..UptoSaid'. A law counts once. -/
mutual
def uptoBulk {H : Type} : DataW H → Nat
  | .lit (.string bytes) => bytes.length + 1
  | .lit _ => 1
  | .nil => 1
  | .ptr d => uptoBulk d + 1
  | .slice elems spare => uptoBulkAll elems + uptoBulkAll spare + 1
  | .agg parts => uptoBulkAll parts + 1
  | .iface _ d => uptoBulk d + 1
  | .map entries => uptoBulkEntries entries + 1
  | .held _ => 1
def uptoBulkAll {H : Type} : List (DataW H) → Nat
  | [] => 0
  | d :: r => uptoBulk d + uptoBulkAll r
def uptoBulkEntries {H : Type} : List (Lit × DataW H) → Nat
  | [] => 0
  | x :: r => uptoBulkEntry x + uptoBulkEntries r
def uptoBulkEntry {H : Type} : Lit × DataW H → Nat
  | (.string bytes, d) => bytes.length + uptoBulk d + 1
  | (_, d) => uptoBulk d + 1
 end
def uptoSmall : (H : Type) → List (DataW H) → Bool := fun _ ds => decide (uptoBulkAll ds ≤ 1048576)
def OpenSpec.upto (s : _root_.Go.ChangeSpec) : _root_.Go.OpenSpec := { _root_.Go.OpenSpec.ofChange s with cond := some uptoSmall }

/-- 'purflelaw09.NotationParses', WHERE WHAT IT READS IS OF BULK AT MOST 1048576: true; the input reads as it did. -/
def notationParsesUptoRow : OpenClaim := { program := "ytpfploolkmcalaa", sum := "b864f574d977a33fae2d6c5c1e115fe85d4d2231b897efd35861e1e8f851f2b2", func := "purfle/purflelaw09.NotationParses", spec := "notationParses", inPlace := ["internal/bytealg.IndexByteString"], unfollowed := true, recurses := true, apart := false, narrowed := true }
def NotationParsesUptoSaid : Prop := notationParsesUptoRow.holds Try.pinned (OpenSpec.upto notationParsesSpec)

/-- 'purflelaw09.NotationFree', WHERE WHAT IT READS IS OF BULK AT MOST 1048576: true; the input reads as it did. -/
def notationFreeUptoRow : OpenClaim := { program := "ytpfploolkmcalaa", sum := "b864f574d977a33fae2d6c5c1e115fe85d4d2231b897efd35861e1e8f851f2b2", func := "purfle/purflelaw09.NotationFree", spec := "notationFree", inPlace := ["internal/bytealg.IndexByteString"], unfollowed := true, recurses := true, loops := true, apart := false, narrowed := true }
def NotationFreeUptoSaid : Prop := notationFreeUptoRow.holds Try.pinned (OpenSpec.upto notationFreeSpec)

/-- 'purflelaw09.NotationParts', WHERE WHAT IT READS IS OF BULK AT MOST 1048576: true; the input reads as it did. -/
def notationPartsUptoRow : OpenClaim := { program := "ytpfploolkmcalaa", sum := "b864f574d977a33fae2d6c5c1e115fe85d4d2231b897efd35861e1e8f851f2b2", func := "purfle/purflelaw09.NotationParts", spec := "notationParts", inPlace := ["internal/bytealg.IndexByteString", "internal/abi.NoEscape"], unfollowed := true, recurses := true, loops := true, apart := false, narrowed := true }
def NotationPartsUptoSaid : Prop := notationPartsUptoRow.holds Try.pinned (OpenSpec.upto notationPartsSpec)

/-- 'purflelaw09.NotationAgain', WHERE WHAT IT READS IS OF BULK AT MOST 1048576: true; the input reads as it did. -/
def notationAgainUptoRow : OpenClaim := { program := "ytpfploolkmcalaa", sum := "b864f574d977a33fae2d6c5c1e115fe85d4d2231b897efd35861e1e8f851f2b2", func := "purfle/purflelaw09.NotationAgain", spec := "notationAgain", inPlace := ["internal/bytealg.IndexByteString", "internal/abi.NoEscape"], unfollowed := true, recurses := true, apart := false, narrowed := true }
def NotationAgainUptoSaid : Prop := notationAgainUptoRow.holds Try.pinned (OpenSpec.upto notationAgainSpec)

/-- 'purflelaw09.NotationLines', WHERE WHAT IT READS IS OF BULK AT MOST 1048576: true; the input reads as it did. -/
def notationLinesUptoRow : OpenClaim := { program := "ytpfploolkmcalaa", sum := "b864f574d977a33fae2d6c5c1e115fe85d4d2231b897efd35861e1e8f851f2b2", func := "purfle/purflelaw09.NotationLines", spec := "notationLines", inPlace := ["internal/bytealg.IndexByteString", "internal/abi.NoEscape"], unfollowed := true, recurses := true, loops := true, apart := false, narrowed := true }
def NotationLinesUptoSaid : Prop := notationLinesUptoRow.holds Try.pinned (OpenSpec.upto notationLinesSpec)

/-- 'purflelaw09.NotationBack', WHERE WHAT IT READS IS OF BULK AT MOST 1048576: true; the input reads as it did. -/
def notationBackUptoRow : OpenClaim := { program := "ytpfploolkmcalaa", sum := "b864f574d977a33fae2d6c5c1e115fe85d4d2231b897efd35861e1e8f851f2b2", func := "purfle/purflelaw09.NotationBack", spec := "notationBack", inPlace := ["internal/bytealg.IndexByteString", "internal/abi.NoEscape"], unfollowed := true, recurses := true, loops := true, apart := false, narrowed := true }
def NotationBackUptoSaid : Prop := notationBackUptoRow.holds Try.pinned (OpenSpec.upto notationBackSpec)

end Rows
end Go.Proofs.Ytpfploolkmcalaa
