/-
  No cell of these rows narrows 'for every input' (looked for: loops, veiled, ifaces, maps, wideKeys, modest, calm, conditions, laid).
  DERIVED. THE GIVEN ROWS OF THIS SEAT. 8 by the template 'for every input the law returns true; each argument reads behind the call as it read before'; 0 by the template 'total and deterministic' (their statements: YtcdeeppiljcddaaTotals.lean).
  GIVEN WITH THE SEED: the statements are not yours to turn. If you find one false, say at which input.
  Laid BY PROGRAM, IN A SANDBOX (cutbox-rows.mjs): the forced cells as the released guide's own fill.sh prints them over the translation 157e2362e516ca9e… (all of the seat's roots in one cut). By AI agents, Wed Nov 11 2026. No macro, syntax, notation, axiom, sorry.
-/
import Derived.Test.YtcdeeppiljcddaaChecked
import GoSem.Claim
import GoSem.ClaimJoined
import GoSem.ClaimMapViews
import Derived.JoinedTies
import Derived.KernelRfl
namespace Go.Proofs.Ytcdeeppiljcddaa
/- THE CELL 'sum', in the pinned program and in every row, IS THE sha256 OF THE DUMP (.gsa) THAT YtcdeeppiljcddaaProg.lean LOADS. Nothing in Lean hashes anything: it is a label: what it is worth is what the hold of that sum in a sandbox is worth. -/
noncomputable def Try.pinned : Pinned := { name := "ytcdeeppiljcddaa", sum := "157e2362e516ca9e9a8312c4981b4cae221f349295323f65bdfbe2b53b68051f", checked := Try.checked }
namespace Rows
def none {H : Type} : Left H := { results := [], args := [] }

/-- 'purflelaw03.PermCycles': WHATEVER THE INPUT: true; the input reads as it did. -/
def permCyclesSpec : ChangeSpec := { name := "permCycles", fn := fun _ => fun
  | [d] => { results := [.lit (.bool true)], args := [d] }
  | _ => none }
def permCyclesRow : OpenClaim := { program := "ytcdeeppiljcddaa", sum := "157e2362e516ca9e9a8312c4981b4cae221f349295323f65bdfbe2b53b68051f", func := "purfle/purflelaw03.PermCycles", spec := "permCycles", apart := false }
def PermCyclesSaid : Prop := permCyclesRow.holds Try.pinned (OpenSpec.ofChange permCyclesSpec)

/-- ITS FALSE NEIGHBOUR: 'it returns false'. Refute it at one input. -/
def permCyclesWrong : ChangeSpec := { name := "permCycles", fn := fun _ => fun
  | [d] => { results := [.lit (.bool false)], args := [d] }
  | _ => none }
def PermCyclesWrongFalsely : Prop := permCyclesRow.holds Try.pinned (OpenSpec.ofChange permCyclesWrong)

/-- 'purflelaw03.PermAfter': WHATEVER THE INPUT: true; the input reads as it did. -/
def permAfterSpec : ChangeSpec := { name := "permAfter", fn := fun _ => fun
  | [d1, d2, d3] => { results := [.lit (.bool true)], args := [d1, d2, d3] }
  | _ => none }
def permAfterRow : OpenClaim := { program := "ytcdeeppiljcddaa", sum := "157e2362e516ca9e9a8312c4981b4cae221f349295323f65bdfbe2b53b68051f", func := "purfle/purflelaw03.PermAfter", spec := "permAfter", unfollowed := true, recurses := true, apart := false }
def PermAfterSaid : Prop := permAfterRow.holds Try.pinned (OpenSpec.ofChange permAfterSpec)

/-- ITS FALSE NEIGHBOUR: 'it returns false'. Refute it at one input. -/
def permAfterWrong : ChangeSpec := { name := "permAfter", fn := fun _ => fun
  | [d1, d2, d3] => { results := [.lit (.bool false)], args := [d1, d2, d3] }
  | _ => none }
def PermAfterWrongFalsely : Prop := permAfterRow.holds Try.pinned (OpenSpec.ofChange permAfterWrong)

/-- 'purflelaw03.PermTurns': WHATEVER THE INPUT: true; the input reads as it did. -/
def permTurnsSpec : ChangeSpec := { name := "permTurns", fn := fun _ => fun
  | [d1, d2, d3, d4] => { results := [.lit (.bool true)], args := [d1, d2, d3, d4] }
  | _ => none }
def permTurnsRow : OpenClaim := { program := "ytcdeeppiljcddaa", sum := "157e2362e516ca9e9a8312c4981b4cae221f349295323f65bdfbe2b53b68051f", func := "purfle/purflelaw03.PermTurns", spec := "permTurns", unfollowed := true, recurses := true, apart := false }
def PermTurnsSaid : Prop := permTurnsRow.holds Try.pinned (OpenSpec.ofChange permTurnsSpec)

/-- ITS FALSE NEIGHBOUR: 'it returns false'. Refute it at one input. -/
def permTurnsWrong : ChangeSpec := { name := "permTurns", fn := fun _ => fun
  | [d1, d2, d3, d4] => { results := [.lit (.bool false)], args := [d1, d2, d3, d4] }
  | _ => none }
def PermTurnsWrongFalsely : Prop := permTurnsRow.holds Try.pinned (OpenSpec.ofChange permTurnsWrong)

/-- 'purflelaw03.PermBack': WHATEVER THE INPUT: true; the input reads as it did. -/
def permBackSpec : ChangeSpec := { name := "permBack", fn := fun _ => fun
  | [d1, d2] => { results := [.lit (.bool true)], args := [d1, d2] }
  | _ => none }
def permBackRow : OpenClaim := { program := "ytcdeeppiljcddaa", sum := "157e2362e516ca9e9a8312c4981b4cae221f349295323f65bdfbe2b53b68051f", func := "purfle/purflelaw03.PermBack", spec := "permBack", unfollowed := true, recurses := true, apart := false }
def PermBackSaid : Prop := permBackRow.holds Try.pinned (OpenSpec.ofChange permBackSpec)

/-- ITS FALSE NEIGHBOUR: 'it returns false'. Refute it at one input. -/
def permBackWrong : ChangeSpec := { name := "permBack", fn := fun _ => fun
  | [d1, d2] => { results := [.lit (.bool false)], args := [d1, d2] }
  | _ => none }
def PermBackWrongFalsely : Prop := permBackRow.holds Try.pinned (OpenSpec.ofChange permBackWrong)

/-- 'purflelaw03.PermOne': WHATEVER THE INPUT: true; the input reads as it did. -/
def permOneSpec : ChangeSpec := { name := "permOne", fn := fun _ => fun
  | [d1, d2] => { results := [.lit (.bool true)], args := [d1, d2] }
  | _ => none }
def permOneRow : OpenClaim := { program := "ytcdeeppiljcddaa", sum := "157e2362e516ca9e9a8312c4981b4cae221f349295323f65bdfbe2b53b68051f", func := "purfle/purflelaw03.PermOne", spec := "permOne", apart := false }
def PermOneSaid : Prop := permOneRow.holds Try.pinned (OpenSpec.ofChange permOneSpec)

/-- ITS FALSE NEIGHBOUR: 'it returns false'. Refute it at one input. -/
def permOneWrong : ChangeSpec := { name := "permOne", fn := fun _ => fun
  | [d1, d2] => { results := [.lit (.bool false)], args := [d1, d2] }
  | _ => none }
def PermOneWrongFalsely : Prop := permOneRow.holds Try.pinned (OpenSpec.ofChange permOneWrong)

/-- 'purflelaw03.PermOdd': WHATEVER THE INPUT: true; the input reads as it did. -/
def permOddSpec : ChangeSpec := { name := "permOdd", fn := fun _ => fun
  | [d1, d2, d3, d4] => { results := [.lit (.bool true)], args := [d1, d2, d3, d4] }
  | _ => none }
def permOddRow : OpenClaim := { program := "ytcdeeppiljcddaa", sum := "157e2362e516ca9e9a8312c4981b4cae221f349295323f65bdfbe2b53b68051f", func := "purfle/purflelaw03.PermOdd", spec := "permOdd", unfollowed := true, recurses := true, apart := false }
def PermOddSaid : Prop := permOddRow.holds Try.pinned (OpenSpec.ofChange permOddSpec)

/-- ITS FALSE NEIGHBOUR: 'it returns false'. Refute it at one input. -/
def permOddWrong : ChangeSpec := { name := "permOdd", fn := fun _ => fun
  | [d1, d2, d3, d4] => { results := [.lit (.bool false)], args := [d1, d2, d3, d4] }
  | _ => none }
def PermOddWrongFalsely : Prop := permOddRow.holds Try.pinned (OpenSpec.ofChange permOddWrong)

/-- 'purflelaw03.PermRanks': WHATEVER THE INPUT: true; the input reads as it did. -/
def permRanksSpec : ChangeSpec := { name := "permRanks", fn := fun _ => fun
  | [d1, d2, d3] => { results := [.lit (.bool true)], args := [d1, d2, d3] }
  | _ => none }
def permRanksRow : OpenClaim := { program := "ytcdeeppiljcddaa", sum := "157e2362e516ca9e9a8312c4981b4cae221f349295323f65bdfbe2b53b68051f", func := "purfle/purflelaw03.PermRanks", spec := "permRanks", recurses := true, apart := false }
def PermRanksSaid : Prop := permRanksRow.holds Try.pinned (OpenSpec.ofChange permRanksSpec)

/-- ITS FALSE NEIGHBOUR: 'it returns false'. Refute it at one input. -/
def permRanksWrong : ChangeSpec := { name := "permRanks", fn := fun _ => fun
  | [d1, d2, d3] => { results := [.lit (.bool false)], args := [d1, d2, d3] }
  | _ => none }
def PermRanksWrongFalsely : Prop := permRanksRow.holds Try.pinned (OpenSpec.ofChange permRanksWrong)

/-- 'purflelaw03.PermEnds': WHATEVER THE INPUT: true; the input reads as it did. -/
def permEndsSpec : ChangeSpec := { name := "permEnds", fn := fun _ => fun
  | [d] => { results := [.lit (.bool true)], args := [d] }
  | _ => none }
def permEndsRow : OpenClaim := { program := "ytcdeeppiljcddaa", sum := "157e2362e516ca9e9a8312c4981b4cae221f349295323f65bdfbe2b53b68051f", func := "purfle/purflelaw03.PermEnds", spec := "permEnds", apart := false }
def PermEndsSaid : Prop := permEndsRow.holds Try.pinned (OpenSpec.ofChange permEndsSpec)

/-- ITS FALSE NEIGHBOUR: 'it returns false'. Refute it at one input. -/
def permEndsWrong : ChangeSpec := { name := "permEnds", fn := fun _ => fun
  | [d] => { results := [.lit (.bool false)], args := [d] }
  | _ => none }
def PermEndsWrongFalsely : Prop := permEndsRow.holds Try.pinned (OpenSpec.ofChange permEndsWrong)

/- THE SECOND FORM. 'bulk': how many values and letters a reading holds, each counted each time it is reached (what is shared counts as often as it is met; a slice's spare places count too). A statement '..UptoSaid' is the law's where the arguments, and the package variables that the reading takes, are together of bulk at most 1048576: NARROWER than '..Said'. Prove '..Said' where nothing that the law and all that it calls make is longer than what came in: it says more and counts as full. Else prove '..UptoSaid'. A law counts once. -/
mutual
def uptoBulk {H : Type} : DataW H → Nat
  | .lit (.string bytes) => bytes.length + 1
  | .lit _ => 1
  | .nil => 1
  | .ptr d => uptoBulk d + 1
  | .slice elems spare => uptoBulkAll elems + uptoBulkAll spare + 1
  | .agg parts => uptoBulkAll parts + 1
  | .iface _ d => uptoBulk d + 1
  | .map entries => uptoBulkEntries entries + 1
  | .held _ => 1
def uptoBulkAll {H : Type} : List (DataW H) → Nat
  | [] => 0
  | d :: r => uptoBulk d + uptoBulkAll r
def uptoBulkEntries {H : Type} : List (Lit × DataW H) → Nat
  | [] => 0
  | x :: r => uptoBulkEntry x + uptoBulkEntries r
def uptoBulkEntry {H : Type} : Lit × DataW H → Nat
  | (.string bytes, d) => bytes.length + uptoBulk d + 1
  | (_, d) => uptoBulk d + 1
 end
def uptoSmall : (H : Type) → List (DataW H) → Bool := fun _ ds => decide (uptoBulkAll ds ≤ 1048576)
def OpenSpec.upto (s : _root_.Go.ChangeSpec) : _root_.Go.OpenSpec := { _root_.Go.OpenSpec.ofChange s with cond := some uptoSmall }

/-- 'purflelaw03.PermCycles', WHERE WHAT IT READS IS OF BULK AT MOST 1048576: true; the input reads as it did. -/
def permCyclesUptoRow : OpenClaim := { program := "ytcdeeppiljcddaa", sum := "157e2362e516ca9e9a8312c4981b4cae221f349295323f65bdfbe2b53b68051f", func := "purfle/purflelaw03.PermCycles", spec := "permCycles", apart := false, narrowed := true }
def PermCyclesUptoSaid : Prop := permCyclesUptoRow.holds Try.pinned (OpenSpec.upto permCyclesSpec)

/-- 'purflelaw03.PermAfter', WHERE WHAT IT READS IS OF BULK AT MOST 1048576: true; the input reads as it did. -/
def permAfterUptoRow : OpenClaim := { program := "ytcdeeppiljcddaa", sum := "157e2362e516ca9e9a8312c4981b4cae221f349295323f65bdfbe2b53b68051f", func := "purfle/purflelaw03.PermAfter", spec := "permAfter", unfollowed := true, recurses := true, apart := false, narrowed := true }
def PermAfterUptoSaid : Prop := permAfterUptoRow.holds Try.pinned (OpenSpec.upto permAfterSpec)

/-- 'purflelaw03.PermTurns', WHERE WHAT IT READS IS OF BULK AT MOST 1048576: true; the input reads as it did. -/
def permTurnsUptoRow : OpenClaim := { program := "ytcdeeppiljcddaa", sum := "157e2362e516ca9e9a8312c4981b4cae221f349295323f65bdfbe2b53b68051f", func := "purfle/purflelaw03.PermTurns", spec := "permTurns", unfollowed := true, recurses := true, apart := false, narrowed := true }
def PermTurnsUptoSaid : Prop := permTurnsUptoRow.holds Try.pinned (OpenSpec.upto permTurnsSpec)

/-- 'purflelaw03.PermBack', WHERE WHAT IT READS IS OF BULK AT MOST 1048576: true; the input reads as it did. -/
def permBackUptoRow : OpenClaim := { program := "ytcdeeppiljcddaa", sum := "157e2362e516ca9e9a8312c4981b4cae221f349295323f65bdfbe2b53b68051f", func := "purfle/purflelaw03.PermBack", spec := "permBack", unfollowed := true, recurses := true, apart := false, narrowed := true }
def PermBackUptoSaid : Prop := permBackUptoRow.holds Try.pinned (OpenSpec.upto permBackSpec)

/-- 'purflelaw03.PermOne', WHERE WHAT IT READS IS OF BULK AT MOST 1048576: true; the input reads as it did. -/
def permOneUptoRow : OpenClaim := { program := "ytcdeeppiljcddaa", sum := "157e2362e516ca9e9a8312c4981b4cae221f349295323f65bdfbe2b53b68051f", func := "purfle/purflelaw03.PermOne", spec := "permOne", apart := false, narrowed := true }
def PermOneUptoSaid : Prop := permOneUptoRow.holds Try.pinned (OpenSpec.upto permOneSpec)

/-- 'purflelaw03.PermOdd', WHERE WHAT IT READS IS OF BULK AT MOST 1048576: true; the input reads as it did. -/
def permOddUptoRow : OpenClaim := { program := "ytcdeeppiljcddaa", sum := "157e2362e516ca9e9a8312c4981b4cae221f349295323f65bdfbe2b53b68051f", func := "purfle/purflelaw03.PermOdd", spec := "permOdd", unfollowed := true, recurses := true, apart := false, narrowed := true }
def PermOddUptoSaid : Prop := permOddUptoRow.holds Try.pinned (OpenSpec.upto permOddSpec)

/-- 'purflelaw03.PermRanks', WHERE WHAT IT READS IS OF BULK AT MOST 1048576: true; the input reads as it did. -/
def permRanksUptoRow : OpenClaim := { program := "ytcdeeppiljcddaa", sum := "157e2362e516ca9e9a8312c4981b4cae221f349295323f65bdfbe2b53b68051f", func := "purfle/purflelaw03.PermRanks", spec := "permRanks", recurses := true, apart := false, narrowed := true }
def PermRanksUptoSaid : Prop := permRanksUptoRow.holds Try.pinned (OpenSpec.upto permRanksSpec)

/-- 'purflelaw03.PermEnds', WHERE WHAT IT READS IS OF BULK AT MOST 1048576: true; the input reads as it did. -/
def permEndsUptoRow : OpenClaim := { program := "ytcdeeppiljcddaa", sum := "157e2362e516ca9e9a8312c4981b4cae221f349295323f65bdfbe2b53b68051f", func := "purfle/purflelaw03.PermEnds", spec := "permEnds", apart := false, narrowed := true }
def PermEndsUptoSaid : Prop := permEndsUptoRow.holds Try.pinned (OpenSpec.upto permEndsSpec)

end Rows
end Go.Proofs.Ytcdeeppiljcddaa
