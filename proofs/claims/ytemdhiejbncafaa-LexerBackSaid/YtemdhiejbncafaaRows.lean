/-
  No cell of these rows narrows 'for every input' (looked for: loops, veiled, ifaces, maps, wideKeys, modest, calm, conditions, laid).
  DERIVED. THE GIVEN ROWS OF THIS SEAT. 8 by the template 'for every input the law returns true; each argument reads behind the call as it read before'; 0 by the template 'total and deterministic' (their statements: YtemdhiejbncafaaTotals.lean).
  GIVEN WITH THE SEED: the statements are not yours to turn. If you find one false, say at which input.
  Laid BY PROGRAM, IN A SANDBOX (cutbox-rows.mjs): the forced cells as the released guide's own fill.sh prints them over the translation 2d2f112d7bafd867… (all of the seat's roots in one cut). By AI agents, Wed Nov 11 2026. No macro, syntax, notation, axiom, sorry.
-/
import Derived.Test.YtemdhiejbncafaaChecked
import GoSem.Claim
import GoSem.ClaimJoined
import GoSem.ClaimMapViews
import Derived.JoinedTies
import Derived.KernelRfl
namespace Go.Proofs.Ytemdhiejbncafaa
/- THE CELL 'sum', in the pinned program and in every row, IS THE sha256 OF THE DUMP (.gsa) THAT YtemdhiejbncafaaProg.lean LOADS. Nothing in Lean hashes anything: it is a label: what it is worth is what the hold of that sum in a sandbox is worth. -/
noncomputable def Try.pinned : Pinned := { name := "ytemdhiejbncafaa", sum := "2d2f112d7bafd8670c64d220cb2cb3a76f49b6e56a0ac3a62ef7d5aaa6295cad", checked := Try.checked }
namespace Rows
def none {H : Type} : Left H := { results := [], args := [] }

/-- 'purflelaw08.LexerCuts': WHATEVER THE INPUT: true; the input reads as it did. -/
def lexerCutsSpec : ChangeSpec := { name := "lexerCuts", fn := fun _ => fun
  | [d] => { results := [.lit (.bool true)], args := [d] }
  | _ => none }
def lexerCutsRow : OpenClaim := { program := "ytemdhiejbncafaa", sum := "2d2f112d7bafd8670c64d220cb2cb3a76f49b6e56a0ac3a62ef7d5aaa6295cad", func := "purfle/purflelaw08.LexerCuts", spec := "lexerCuts", inPlace := ["internal/bytealg.IndexByteString"], apart := false }
def LexerCutsSaid : Prop := lexerCutsRow.holds Try.pinned (OpenSpec.ofChange lexerCutsSpec)

/-- ITS FALSE NEIGHBOUR: 'it returns false'. Refute it at one input. -/
def lexerCutsWrong : ChangeSpec := { name := "lexerCuts", fn := fun _ => fun
  | [d] => { results := [.lit (.bool false)], args := [d] }
  | _ => none }
def LexerCutsWrongFalsely : Prop := lexerCutsRow.holds Try.pinned (OpenSpec.ofChange lexerCutsWrong)

/-- 'purflelaw08.LexerBlanks': WHATEVER THE INPUT: true; the input reads as it did. -/
def lexerBlanksSpec : ChangeSpec := { name := "lexerBlanks", fn := fun _ => fun
  | [d1, d2, d3] => { results := [.lit (.bool true)], args := [d1, d2, d3] }
  | _ => none }
def lexerBlanksRow : OpenClaim := { program := "ytemdhiejbncafaa", sum := "2d2f112d7bafd8670c64d220cb2cb3a76f49b6e56a0ac3a62ef7d5aaa6295cad", func := "purfle/purflelaw08.LexerBlanks", spec := "lexerBlanks", inPlace := ["internal/bytealg.IndexByteString"], apart := false }
def LexerBlanksSaid : Prop := lexerBlanksRow.holds Try.pinned (OpenSpec.ofChange lexerBlanksSpec)

/-- ITS FALSE NEIGHBOUR: 'it returns false'. Refute it at one input. -/
def lexerBlanksWrong : ChangeSpec := { name := "lexerBlanks", fn := fun _ => fun
  | [d1, d2, d3] => { results := [.lit (.bool false)], args := [d1, d2, d3] }
  | _ => none }
def LexerBlanksWrongFalsely : Prop := lexerBlanksRow.holds Try.pinned (OpenSpec.ofChange lexerBlanksWrong)

/-- 'purflelaw08.LexerFirst': WHATEVER THE INPUT: true; the input reads as it did. -/
def lexerFirstSpec : ChangeSpec := { name := "lexerFirst", fn := fun _ => fun
  | [d1, d2] => { results := [.lit (.bool true)], args := [d1, d2] }
  | _ => none }
def lexerFirstRow : OpenClaim := { program := "ytemdhiejbncafaa", sum := "2d2f112d7bafd8670c64d220cb2cb3a76f49b6e56a0ac3a62ef7d5aaa6295cad", func := "purfle/purflelaw08.LexerFirst", spec := "lexerFirst", inPlace := ["internal/bytealg.IndexByteString"], apart := false }
def LexerFirstSaid : Prop := lexerFirstRow.holds Try.pinned (OpenSpec.ofChange lexerFirstSpec)

/-- ITS FALSE NEIGHBOUR: 'it returns false'. Refute it at one input. -/
def lexerFirstWrong : ChangeSpec := { name := "lexerFirst", fn := fun _ => fun
  | [d1, d2] => { results := [.lit (.bool false)], args := [d1, d2] }
  | _ => none }
def LexerFirstWrongFalsely : Prop := lexerFirstRow.holds Try.pinned (OpenSpec.ofChange lexerFirstWrong)

/-- 'purflelaw08.LexerWords': WHATEVER THE INPUT: true; the input reads as it did. -/
def lexerWordsSpec : ChangeSpec := { name := "lexerWords", fn := fun _ => fun
  | [d1, d2] => { results := [.lit (.bool true)], args := [d1, d2] }
  | _ => none }
def lexerWordsRow : OpenClaim := { program := "ytemdhiejbncafaa", sum := "2d2f112d7bafd8670c64d220cb2cb3a76f49b6e56a0ac3a62ef7d5aaa6295cad", func := "purfle/purflelaw08.LexerWords", spec := "lexerWords", inPlace := ["internal/bytealg.IndexByteString"], recurses := true, apart := false }
def LexerWordsSaid : Prop := lexerWordsRow.holds Try.pinned (OpenSpec.ofChange lexerWordsSpec)

/-- ITS FALSE NEIGHBOUR: 'it returns false'. Refute it at one input. -/
def lexerWordsWrong : ChangeSpec := { name := "lexerWords", fn := fun _ => fun
  | [d1, d2] => { results := [.lit (.bool false)], args := [d1, d2] }
  | _ => none }
def LexerWordsWrongFalsely : Prop := lexerWordsRow.holds Try.pinned (OpenSpec.ofChange lexerWordsWrong)

/-- 'purflelaw08.LexerNumbers': WHATEVER THE INPUT: true; the input reads as it did. -/
def lexerNumbersSpec : ChangeSpec := { name := "lexerNumbers", fn := fun _ => fun
  | [d1, d2] => { results := [.lit (.bool true)], args := [d1, d2] }
  | _ => none }
def lexerNumbersRow : OpenClaim := { program := "ytemdhiejbncafaa", sum := "2d2f112d7bafd8670c64d220cb2cb3a76f49b6e56a0ac3a62ef7d5aaa6295cad", func := "purfle/purflelaw08.LexerNumbers", spec := "lexerNumbers", inPlace := ["internal/bytealg.IndexByteString"], apart := false }
def LexerNumbersSaid : Prop := lexerNumbersRow.holds Try.pinned (OpenSpec.ofChange lexerNumbersSpec)

/-- ITS FALSE NEIGHBOUR: 'it returns false'. Refute it at one input. -/
def lexerNumbersWrong : ChangeSpec := { name := "lexerNumbers", fn := fun _ => fun
  | [d1, d2] => { results := [.lit (.bool false)], args := [d1, d2] }
  | _ => none }
def LexerNumbersWrongFalsely : Prop := lexerNumbersRow.holds Try.pinned (OpenSpec.ofChange lexerNumbersWrong)

/-- 'purflelaw08.LexerRows': WHATEVER THE INPUT: true; the input reads as it did. -/
def lexerRowsSpec : ChangeSpec := { name := "lexerRows", fn := fun _ => fun
  | [d1, d2] => { results := [.lit (.bool true)], args := [d1, d2] }
  | _ => none }
def lexerRowsRow : OpenClaim := { program := "ytemdhiejbncafaa", sum := "2d2f112d7bafd8670c64d220cb2cb3a76f49b6e56a0ac3a62ef7d5aaa6295cad", func := "purfle/purflelaw08.LexerRows", spec := "lexerRows", inPlace := ["internal/bytealg.IndexByteString"], unfollowed := true, recurses := true, apart := false }
def LexerRowsSaid : Prop := lexerRowsRow.holds Try.pinned (OpenSpec.ofChange lexerRowsSpec)

/-- ITS FALSE NEIGHBOUR: 'it returns false'. Refute it at one input. -/
def lexerRowsWrong : ChangeSpec := { name := "lexerRows", fn := fun _ => fun
  | [d1, d2] => { results := [.lit (.bool false)], args := [d1, d2] }
  | _ => none }
def LexerRowsWrongFalsely : Prop := lexerRowsRow.holds Try.pinned (OpenSpec.ofChange lexerRowsWrong)

/-- 'purflelaw08.LexerBack': WHATEVER THE INPUT: true; the input reads as it did. -/
def lexerBackSpec : ChangeSpec := { name := "lexerBack", fn := fun _ => fun
  | [d1, d2] => { results := [.lit (.bool true)], args := [d1, d2] }
  | _ => none }
def lexerBackRow : OpenClaim := { program := "ytemdhiejbncafaa", sum := "2d2f112d7bafd8670c64d220cb2cb3a76f49b6e56a0ac3a62ef7d5aaa6295cad", func := "purfle/purflelaw08.LexerBack", spec := "lexerBack", inPlace := ["internal/bytealg.IndexByteString", "internal/abi.NoEscape"], apart := false }
def LexerBackSaid : Prop := lexerBackRow.holds Try.pinned (OpenSpec.ofChange lexerBackSpec)

/-- ITS FALSE NEIGHBOUR: 'it returns false'. Refute it at one input. -/
def lexerBackWrong : ChangeSpec := { name := "lexerBack", fn := fun _ => fun
  | [d1, d2] => { results := [.lit (.bool false)], args := [d1, d2] }
  | _ => none }
def LexerBackWrongFalsely : Prop := lexerBackRow.holds Try.pinned (OpenSpec.ofChange lexerBackWrong)

/-- 'purflelaw08.LexerJoins': WHATEVER THE INPUT: true; the input reads as it did. -/
def lexerJoinsSpec : ChangeSpec := { name := "lexerJoins", fn := fun _ => fun
  | [d] => { results := [.lit (.bool true)], args := [d] }
  | _ => none }
def lexerJoinsRow : OpenClaim := { program := "ytemdhiejbncafaa", sum := "2d2f112d7bafd8670c64d220cb2cb3a76f49b6e56a0ac3a62ef7d5aaa6295cad", func := "purfle/purflelaw08.LexerJoins", spec := "lexerJoins", inPlace := ["internal/bytealg.IndexByteString", "internal/abi.NoEscape"], unfollowed := true, recurses := true, apart := false }
def LexerJoinsSaid : Prop := lexerJoinsRow.holds Try.pinned (OpenSpec.ofChange lexerJoinsSpec)

/-- ITS FALSE NEIGHBOUR: 'it returns false'. Refute it at one input. -/
def lexerJoinsWrong : ChangeSpec := { name := "lexerJoins", fn := fun _ => fun
  | [d] => { results := [.lit (.bool false)], args := [d] }
  | _ => none }
def LexerJoinsWrongFalsely : Prop := lexerJoinsRow.holds Try.pinned (OpenSpec.ofChange lexerJoinsWrong)

/- THE SECOND FORM. 'bulk': how many values and letters a reading holds, each counted each time it is reached (what is shared counts as often as it is met; a slice's spare places count too). A statement '..UptoSaid' is the law's where the arguments, and the package variables that the reading takes, are together of bulk at most 1048576: NARROWER than '..Said'. Prove '..Said' where nothing that the law and all that it calls make is longer than what came in: it says more and counts as full. Else prove '..UptoSaid'. A law counts once. -/
mutual
def uptoBulk {H : Type} : DataW H → Nat
  | .lit (.string bytes) => bytes.length + 1
  | .lit _ => 1
  | .nil => 1
  | .ptr d => uptoBulk d + 1
  | .slice elems spare => uptoBulkAll elems + uptoBulkAll spare + 1
  | .agg parts => uptoBulkAll parts + 1
  | .iface _ d => uptoBulk d + 1
  | .map entries => uptoBulkEntries entries + 1
  | .held _ => 1
def uptoBulkAll {H : Type} : List (DataW H) → Nat
  | [] => 0
  | d :: r => uptoBulk d + uptoBulkAll r
def uptoBulkEntries {H : Type} : List (Lit × DataW H) → Nat
  | [] => 0
  | x :: r => uptoBulkEntry x + uptoBulkEntries r
def uptoBulkEntry {H : Type} : Lit × DataW H → Nat
  | (.string bytes, d) => bytes.length + uptoBulk d + 1
  | (_, d) => uptoBulk d + 1
 end
def uptoSmall : (H : Type) → List (DataW H) → Bool := fun _ ds => decide (uptoBulkAll ds ≤ 1048576)
def OpenSpec.upto (s : _root_.Go.ChangeSpec) : _root_.Go.OpenSpec := { _root_.Go.OpenSpec.ofChange s with cond := some uptoSmall }

/-- 'purflelaw08.LexerCuts', WHERE WHAT IT READS IS OF BULK AT MOST 1048576: true; the input reads as it did. -/
def lexerCutsUptoRow : OpenClaim := { program := "ytemdhiejbncafaa", sum := "2d2f112d7bafd8670c64d220cb2cb3a76f49b6e56a0ac3a62ef7d5aaa6295cad", func := "purfle/purflelaw08.LexerCuts", spec := "lexerCuts", inPlace := ["internal/bytealg.IndexByteString"], apart := false, narrowed := true }
def LexerCutsUptoSaid : Prop := lexerCutsUptoRow.holds Try.pinned (OpenSpec.upto lexerCutsSpec)

/-- 'purflelaw08.LexerBlanks', WHERE WHAT IT READS IS OF BULK AT MOST 1048576: true; the input reads as it did. -/
def lexerBlanksUptoRow : OpenClaim := { program := "ytemdhiejbncafaa", sum := "2d2f112d7bafd8670c64d220cb2cb3a76f49b6e56a0ac3a62ef7d5aaa6295cad", func := "purfle/purflelaw08.LexerBlanks", spec := "lexerBlanks", inPlace := ["internal/bytealg.IndexByteString"], apart := false, narrowed := true }
def LexerBlanksUptoSaid : Prop := lexerBlanksUptoRow.holds Try.pinned (OpenSpec.upto lexerBlanksSpec)

/-- 'purflelaw08.LexerFirst', WHERE WHAT IT READS IS OF BULK AT MOST 1048576: true; the input reads as it did. -/
def lexerFirstUptoRow : OpenClaim := { program := "ytemdhiejbncafaa", sum := "2d2f112d7bafd8670c64d220cb2cb3a76f49b6e56a0ac3a62ef7d5aaa6295cad", func := "purfle/purflelaw08.LexerFirst", spec := "lexerFirst", inPlace := ["internal/bytealg.IndexByteString"], apart := false, narrowed := true }
def LexerFirstUptoSaid : Prop := lexerFirstUptoRow.holds Try.pinned (OpenSpec.upto lexerFirstSpec)

/-- 'purflelaw08.LexerWords', WHERE WHAT IT READS IS OF BULK AT MOST 1048576: true; the input reads as it did. -/
def lexerWordsUptoRow : OpenClaim := { program := "ytemdhiejbncafaa", sum := "2d2f112d7bafd8670c64d220cb2cb3a76f49b6e56a0ac3a62ef7d5aaa6295cad", func := "purfle/purflelaw08.LexerWords", spec := "lexerWords", inPlace := ["internal/bytealg.IndexByteString"], recurses := true, apart := false, narrowed := true }
def LexerWordsUptoSaid : Prop := lexerWordsUptoRow.holds Try.pinned (OpenSpec.upto lexerWordsSpec)

/-- 'purflelaw08.LexerNumbers', WHERE WHAT IT READS IS OF BULK AT MOST 1048576: true; the input reads as it did. -/
def lexerNumbersUptoRow : OpenClaim := { program := "ytemdhiejbncafaa", sum := "2d2f112d7bafd8670c64d220cb2cb3a76f49b6e56a0ac3a62ef7d5aaa6295cad", func := "purfle/purflelaw08.LexerNumbers", spec := "lexerNumbers", inPlace := ["internal/bytealg.IndexByteString"], apart := false, narrowed := true }
def LexerNumbersUptoSaid : Prop := lexerNumbersUptoRow.holds Try.pinned (OpenSpec.upto lexerNumbersSpec)

/-- 'purflelaw08.LexerRows', WHERE WHAT IT READS IS OF BULK AT MOST 1048576: true; the input reads as it did. -/
def lexerRowsUptoRow : OpenClaim := { program := "ytemdhiejbncafaa", sum := "2d2f112d7bafd8670c64d220cb2cb3a76f49b6e56a0ac3a62ef7d5aaa6295cad", func := "purfle/purflelaw08.LexerRows", spec := "lexerRows", inPlace := ["internal/bytealg.IndexByteString"], unfollowed := true, recurses := true, apart := false, narrowed := true }
def LexerRowsUptoSaid : Prop := lexerRowsUptoRow.holds Try.pinned (OpenSpec.upto lexerRowsSpec)

/-- 'purflelaw08.LexerBack', WHERE WHAT IT READS IS OF BULK AT MOST 1048576: true; the input reads as it did. -/
def lexerBackUptoRow : OpenClaim := { program := "ytemdhiejbncafaa", sum := "2d2f112d7bafd8670c64d220cb2cb3a76f49b6e56a0ac3a62ef7d5aaa6295cad", func := "purfle/purflelaw08.LexerBack", spec := "lexerBack", inPlace := ["internal/bytealg.IndexByteString", "internal/abi.NoEscape"], apart := false, narrowed := true }
def LexerBackUptoSaid : Prop := lexerBackUptoRow.holds Try.pinned (OpenSpec.upto lexerBackSpec)

/-- 'purflelaw08.LexerJoins', WHERE WHAT IT READS IS OF BULK AT MOST 1048576: true; the input reads as it did. -/
def lexerJoinsUptoRow : OpenClaim := { program := "ytemdhiejbncafaa", sum := "2d2f112d7bafd8670c64d220cb2cb3a76f49b6e56a0ac3a62ef7d5aaa6295cad", func := "purfle/purflelaw08.LexerJoins", spec := "lexerJoins", inPlace := ["internal/bytealg.IndexByteString", "internal/abi.NoEscape"], unfollowed := true, recurses := true, apart := false, narrowed := true }
def LexerJoinsUptoSaid : Prop := lexerJoinsUptoRow.holds Try.pinned (OpenSpec.upto lexerJoinsSpec)

end Rows
end Go.Proofs.Ytemdhiejbncafaa
