/-
  No cell of these rows narrows 'for every input' (looked for: loops, veiled, ifaces, maps, wideKeys, modest, calm, conditions, laid).
  DERIVED. THE GIVEN ROWS OF THIS SEAT. 6 by the template 'for every input the law returns true; each argument reads behind the call as it read before'; 0 by the template 'total and deterministic' (their statements: YtejfkiohnoiagaaTotals.lean).
  GIVEN WITH THE SEED: the statements are not yours to turn. If you find one false, say at which input.
  Laid BY PROGRAM, IN A SANDBOX (cutbox-rows.mjs): the forced cells as the released guide's own fill.sh prints them over the translation 6545b511e009bc58… (all of the seat's roots in one cut). By AI agents, Wed Nov 11 2026. No macro, syntax, notation, axiom, sorry.
-/
import Derived.Test.YtejfkiohnoiagaaChecked
import GoSem.Claim
import GoSem.ClaimJoined
import GoSem.ClaimMapViews
import Derived.JoinedTies
import Derived.KernelRfl
namespace Go.Proofs.Ytejfkiohnoiagaa
/- THE CELL 'sum', in the pinned program and in every row, IS THE sha256 OF THE DUMP (.gsa) THAT YtejfkiohnoiagaaProg.lean LOADS. Nothing in Lean hashes anything: it is a label: what it is worth is what the hold of that sum in a sandbox is worth. -/
noncomputable def Try.pinned : Pinned := { name := "ytejfkiohnoiagaa", sum := "6545b511e009bc58dbfec5cb55b4e4ea65e3c5e7e4169a25a9c34ae4c7ed1a92", checked := Try.checked }
namespace Rows
def none {H : Type} : Left H := { results := [], args := [] }

/-- 'purflelaw04.LevelMakes': WHATEVER THE INPUT: true; the input reads as it did. -/
def levelMakesSpec : ChangeSpec := { name := "levelMakes", fn := fun _ => fun
  | [d1, d2, d3] => { results := [.lit (.bool true)], args := [d1, d2, d3] }
  | _ => none }
def levelMakesRow : OpenClaim := { program := "ytejfkiohnoiagaa", sum := "6545b511e009bc58dbfec5cb55b4e4ea65e3c5e7e4169a25a9c34ae4c7ed1a92", func := "purfle/purflelaw04.LevelMakes", spec := "levelMakes", unfollowed := true, recurses := true, apart := false }
def LevelMakesSaid : Prop := levelMakesRow.holds Try.pinned (OpenSpec.ofChange levelMakesSpec)

/-- ITS FALSE NEIGHBOUR: 'it returns false'. Refute it at one input. -/
def levelMakesWrong : ChangeSpec := { name := "levelMakes", fn := fun _ => fun
  | [d1, d2, d3] => { results := [.lit (.bool false)], args := [d1, d2, d3] }
  | _ => none }
def LevelMakesWrongFalsely : Prop := levelMakesRow.holds Try.pinned (OpenSpec.ofChange levelMakesWrong)

/-- 'purflelaw04.LevelJoins': WHATEVER THE INPUT: true; the input reads as it did. -/
def levelJoinsSpec : ChangeSpec := { name := "levelJoins", fn := fun _ => fun
  | [d1, d2, d3, d4] => { results := [.lit (.bool true)], args := [d1, d2, d3, d4] }
  | _ => none }
def levelJoinsRow : OpenClaim := { program := "ytejfkiohnoiagaa", sum := "6545b511e009bc58dbfec5cb55b4e4ea65e3c5e7e4169a25a9c34ae4c7ed1a92", func := "purfle/purflelaw04.LevelJoins", spec := "levelJoins", unfollowed := true, recurses := true, apart := false }
def LevelJoinsSaid : Prop := levelJoinsRow.holds Try.pinned (OpenSpec.ofChange levelJoinsSpec)

/-- ITS FALSE NEIGHBOUR: 'it returns false'. Refute it at one input. -/
def levelJoinsWrong : ChangeSpec := { name := "levelJoins", fn := fun _ => fun
  | [d1, d2, d3, d4] => { results := [.lit (.bool false)], args := [d1, d2, d3, d4] }
  | _ => none }
def LevelJoinsWrongFalsely : Prop := levelJoinsRow.holds Try.pinned (OpenSpec.ofChange levelJoinsWrong)

/-- 'purflelaw04.LevelBack': WHATEVER THE INPUT: true; the input reads as it did. -/
def levelBackSpec : ChangeSpec := { name := "levelBack", fn := fun _ => fun
  | [d1, d2, d3] => { results := [.lit (.bool true)], args := [d1, d2, d3] }
  | _ => none }
def levelBackRow : OpenClaim := { program := "ytejfkiohnoiagaa", sum := "6545b511e009bc58dbfec5cb55b4e4ea65e3c5e7e4169a25a9c34ae4c7ed1a92", func := "purfle/purflelaw04.LevelBack", spec := "levelBack", unfollowed := true, recurses := true, apart := false }
def LevelBackSaid : Prop := levelBackRow.holds Try.pinned (OpenSpec.ofChange levelBackSpec)

/-- ITS FALSE NEIGHBOUR: 'it returns false'. Refute it at one input. -/
def levelBackWrong : ChangeSpec := { name := "levelBack", fn := fun _ => fun
  | [d1, d2, d3] => { results := [.lit (.bool false)], args := [d1, d2, d3] }
  | _ => none }
def LevelBackWrongFalsely : Prop := levelBackRow.holds Try.pinned (OpenSpec.ofChange levelBackWrong)

/-- 'purflelaw04.LevelPlaces': WHATEVER THE INPUT: true; the input reads as it did. -/
def levelPlacesSpec : ChangeSpec := { name := "levelPlaces", fn := fun _ => fun
  | [d1, d2, d3] => { results := [.lit (.bool true)], args := [d1, d2, d3] }
  | _ => none }
def levelPlacesRow : OpenClaim := { program := "ytejfkiohnoiagaa", sum := "6545b511e009bc58dbfec5cb55b4e4ea65e3c5e7e4169a25a9c34ae4c7ed1a92", func := "purfle/purflelaw04.LevelPlaces", spec := "levelPlaces", unfollowed := true, recurses := true, apart := false }
def LevelPlacesSaid : Prop := levelPlacesRow.holds Try.pinned (OpenSpec.ofChange levelPlacesSpec)

/-- ITS FALSE NEIGHBOUR: 'it returns false'. Refute it at one input. -/
def levelPlacesWrong : ChangeSpec := { name := "levelPlaces", fn := fun _ => fun
  | [d1, d2, d3] => { results := [.lit (.bool false)], args := [d1, d2, d3] }
  | _ => none }
def LevelPlacesWrongFalsely : Prop := levelPlacesRow.holds Try.pinned (OpenSpec.ofChange levelPlacesWrong)

/-- 'purflelaw04.LevelAll': WHATEVER THE INPUT: true; the input reads as it did. -/
def levelAllSpec : ChangeSpec := { name := "levelAll", fn := fun _ => fun
  | [d1, d2] => { results := [.lit (.bool true)], args := [d1, d2] }
  | _ => none }
def levelAllRow : OpenClaim := { program := "ytejfkiohnoiagaa", sum := "6545b511e009bc58dbfec5cb55b4e4ea65e3c5e7e4169a25a9c34ae4c7ed1a92", func := "purfle/purflelaw04.LevelAll", spec := "levelAll", unfollowed := true, recurses := true, apart := false }
def LevelAllSaid : Prop := levelAllRow.holds Try.pinned (OpenSpec.ofChange levelAllSpec)

/-- ITS FALSE NEIGHBOUR: 'it returns false'. Refute it at one input. -/
def levelAllWrong : ChangeSpec := { name := "levelAll", fn := fun _ => fun
  | [d1, d2] => { results := [.lit (.bool false)], args := [d1, d2] }
  | _ => none }
def LevelAllWrongFalsely : Prop := levelAllRow.holds Try.pinned (OpenSpec.ofChange levelAllWrong)

/-- 'purflelaw04.LevelTells': WHATEVER THE INPUT: true; the input reads as it did. -/
def levelTellsSpec : ChangeSpec := { name := "levelTells", fn := fun _ => fun
  | [d1, d2, d3, d4, d5, d6] => { results := [.lit (.bool true)], args := [d1, d2, d3, d4, d5, d6] }
  | _ => none }
def levelTellsRow : OpenClaim := { program := "ytejfkiohnoiagaa", sum := "6545b511e009bc58dbfec5cb55b4e4ea65e3c5e7e4169a25a9c34ae4c7ed1a92", func := "purfle/purflelaw04.LevelTells", spec := "levelTells", unfollowed := true, recurses := true, apart := false }
def LevelTellsSaid : Prop := levelTellsRow.holds Try.pinned (OpenSpec.ofChange levelTellsSpec)

/-- ITS FALSE NEIGHBOUR: 'it returns false'. Refute it at one input. -/
def levelTellsWrong : ChangeSpec := { name := "levelTells", fn := fun _ => fun
  | [d1, d2, d3, d4, d5, d6] => { results := [.lit (.bool false)], args := [d1, d2, d3, d4, d5, d6] }
  | _ => none }
def LevelTellsWrongFalsely : Prop := levelTellsRow.holds Try.pinned (OpenSpec.ofChange levelTellsWrong)

/- THE SECOND FORM. 'bulk': how many values and letters a reading holds, each counted each time it is reached (what is shared counts as often as it is met; a slice's spare places count too). A statement '..UptoSaid' is the law's where the arguments, and the package variables that the reading takes, are together of bulk at most 1048576: NARROWER than '..Said'. Prove '..Said' where nothing that the law and all that it calls make is longer than what came in: it says more and counts as full. Else prove '..UptoSaid'. A law counts once. -/
mutual
def uptoBulk {H : Type} : DataW H → Nat
  | .lit (.string bytes) => bytes.length + 1
  | .lit _ => 1
  | .nil => 1
  | .ptr d => uptoBulk d + 1
  | .slice elems spare => uptoBulkAll elems + uptoBulkAll spare + 1
  | .agg parts => uptoBulkAll parts + 1
  | .iface _ d => uptoBulk d + 1
  | .map entries => uptoBulkEntries entries + 1
  | .held _ => 1
def uptoBulkAll {H : Type} : List (DataW H) → Nat
  | [] => 0
  | d :: r => uptoBulk d + uptoBulkAll r
def uptoBulkEntries {H : Type} : List (Lit × DataW H) → Nat
  | [] => 0
  | x :: r => uptoBulkEntry x + uptoBulkEntries r
def uptoBulkEntry {H : Type} : Lit × DataW H → Nat
  | (.string bytes, d) => bytes.length + uptoBulk d + 1
  | (_, d) => uptoBulk d + 1
 end
def uptoSmall : (H : Type) → List (DataW H) → Bool := fun _ ds => decide (uptoBulkAll ds ≤ 1048576)
def OpenSpec.upto (s : _root_.Go.ChangeSpec) : _root_.Go.OpenSpec := { _root_.Go.OpenSpec.ofChange s with cond := some uptoSmall }

/-- 'purflelaw04.LevelMakes', WHERE WHAT IT READS IS OF BULK AT MOST 1048576: true; the input reads as it did. -/
def levelMakesUptoRow : OpenClaim := { program := "ytejfkiohnoiagaa", sum := "6545b511e009bc58dbfec5cb55b4e4ea65e3c5e7e4169a25a9c34ae4c7ed1a92", func := "purfle/purflelaw04.LevelMakes", spec := "levelMakes", unfollowed := true, recurses := true, apart := false, narrowed := true }
def LevelMakesUptoSaid : Prop := levelMakesUptoRow.holds Try.pinned (OpenSpec.upto levelMakesSpec)

/-- 'purflelaw04.LevelJoins', WHERE WHAT IT READS IS OF BULK AT MOST 1048576: true; the input reads as it did. -/
def levelJoinsUptoRow : OpenClaim := { program := "ytejfkiohnoiagaa", sum := "6545b511e009bc58dbfec5cb55b4e4ea65e3c5e7e4169a25a9c34ae4c7ed1a92", func := "purfle/purflelaw04.LevelJoins", spec := "levelJoins", unfollowed := true, recurses := true, apart := false, narrowed := true }
def LevelJoinsUptoSaid : Prop := levelJoinsUptoRow.holds Try.pinned (OpenSpec.upto levelJoinsSpec)

/-- 'purflelaw04.LevelBack', WHERE WHAT IT READS IS OF BULK AT MOST 1048576: true; the input reads as it did. -/
def levelBackUptoRow : OpenClaim := { program := "ytejfkiohnoiagaa", sum := "6545b511e009bc58dbfec5cb55b4e4ea65e3c5e7e4169a25a9c34ae4c7ed1a92", func := "purfle/purflelaw04.LevelBack", spec := "levelBack", unfollowed := true, recurses := true, apart := false, narrowed := true }
def LevelBackUptoSaid : Prop := levelBackUptoRow.holds Try.pinned (OpenSpec.upto levelBackSpec)

/-- 'purflelaw04.LevelPlaces', WHERE WHAT IT READS IS OF BULK AT MOST 1048576: true; the input reads as it did. -/
def levelPlacesUptoRow : OpenClaim := { program := "ytejfkiohnoiagaa", sum := "6545b511e009bc58dbfec5cb55b4e4ea65e3c5e7e4169a25a9c34ae4c7ed1a92", func := "purfle/purflelaw04.LevelPlaces", spec := "levelPlaces", unfollowed := true, recurses := true, apart := false, narrowed := true }
def LevelPlacesUptoSaid : Prop := levelPlacesUptoRow.holds Try.pinned (OpenSpec.upto levelPlacesSpec)

/-- 'purflelaw04.LevelAll', WHERE WHAT IT READS IS OF BULK AT MOST 1048576: true; the input reads as it did. -/
def levelAllUptoRow : OpenClaim := { program := "ytejfkiohnoiagaa", sum := "6545b511e009bc58dbfec5cb55b4e4ea65e3c5e7e4169a25a9c34ae4c7ed1a92", func := "purfle/purflelaw04.LevelAll", spec := "levelAll", unfollowed := true, recurses := true, apart := false, narrowed := true }
def LevelAllUptoSaid : Prop := levelAllUptoRow.holds Try.pinned (OpenSpec.upto levelAllSpec)

/-- 'purflelaw04.LevelTells', WHERE WHAT IT READS IS OF BULK AT MOST 1048576: true; the input reads as it did. -/
def levelTellsUptoRow : OpenClaim := { program := "ytejfkiohnoiagaa", sum := "6545b511e009bc58dbfec5cb55b4e4ea65e3c5e7e4169a25a9c34ae4c7ed1a92", func := "purfle/purflelaw04.LevelTells", spec := "levelTells", unfollowed := true, recurses := true, apart := false, narrowed := true }
def LevelTellsUptoSaid : Prop := levelTellsUptoRow.holds Try.pinned (OpenSpec.upto levelTellsSpec)

end Rows
end Go.Proofs.Ytejfkiohnoiagaa
