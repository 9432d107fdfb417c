/-
  No cell of these rows narrows 'for every input' (looked for: loops, veiled, ifaces, maps, wideKeys, modest, calm, conditions, laid).
  DERIVED. THE GIVEN ROWS OF THIS SEAT. 5 by the template 'for every input the law returns true; each argument reads behind the call as it read before'; 0 by the template 'total and deterministic' (their statements: YtgkdkjjohknfpaaTotals.lean).
  GIVEN WITH THE SEED: the statements are not yours to turn. If you find one false, say at which input.
  Laid BY PROGRAM, IN A SANDBOX (cutbox-rows.mjs): the forced cells as the released guide's own fill.sh prints them over the translation 25615d1885ecc5c6… (all of the seat's roots in one cut). By AI agents, Wed Nov 11 2026. No macro, syntax, notation, axiom, sorry.
-/
import Derived.Test.YtgkdkjjohknfpaaChecked
import GoSem.Claim
import GoSem.ClaimJoined
import GoSem.ClaimMapViews
import Derived.JoinedTies
import Derived.KernelRfl
namespace Go.Proofs.Ytgkdkjjohknfpaa
/- THE CELL 'sum', in the pinned program and in every row, IS THE sha256 OF THE DUMP (.gsa) THAT YtgkdkjjohknfpaaProg.lean LOADS. Nothing in Lean hashes anything: it is a label: what it is worth is what the hold of that sum in a sandbox is worth. -/
noncomputable def Try.pinned : Pinned := { name := "ytgkdkjjohknfpaa", sum := "25615d1885ecc5c697c40782b8599d135e6a18a68c13203835c78a010f4ed087", checked := Try.checked }
namespace Rows
def none {H : Type} : Left H := { results := [], args := [] }

/-- 'purflelaw15.ValidEnds': WHATEVER THE INPUT: true; the input reads as it did. -/
def validEndsSpec : ChangeSpec := { name := "validEnds", fn := fun _ => fun
  | [d1, d2] => { results := [.lit (.bool true)], args := [d1, d2] }
  | _ => none }
def validEndsRow : OpenClaim := { program := "ytgkdkjjohknfpaa", sum := "25615d1885ecc5c697c40782b8599d135e6a18a68c13203835c78a010f4ed087", func := "purfle/purflelaw15.ValidEnds", spec := "validEnds", inPlace := ["internal/bytealg.IndexByteString"], unfollowed := true, recurses := true, apart := false }
def ValidEndsSaid : Prop := validEndsRow.holds Try.pinned (OpenSpec.ofChange validEndsSpec)

/-- ITS FALSE NEIGHBOUR: 'it returns false'. Refute it at one input. -/
def validEndsWrong : ChangeSpec := { name := "validEnds", fn := fun _ => fun
  | [d1, d2] => { results := [.lit (.bool false)], args := [d1, d2] }
  | _ => none }
def ValidEndsWrongFalsely : Prop := validEndsRow.holds Try.pinned (OpenSpec.ofChange validEndsWrong)

/-- 'purflelaw15.ValidWays': WHATEVER THE INPUT: true; the input reads as it did. -/
def validWaysSpec : ChangeSpec := { name := "validWays", fn := fun _ => fun
  | [d1, d2] => { results := [.lit (.bool true)], args := [d1, d2] }
  | _ => none }
def validWaysRow : OpenClaim := { program := "ytgkdkjjohknfpaa", sum := "25615d1885ecc5c697c40782b8599d135e6a18a68c13203835c78a010f4ed087", func := "purfle/purflelaw15.ValidWays", spec := "validWays", inPlace := ["internal/bytealg.IndexByteString"], unfollowed := true, recurses := true, apart := false }
def ValidWaysSaid : Prop := validWaysRow.holds Try.pinned (OpenSpec.ofChange validWaysSpec)

/-- ITS FALSE NEIGHBOUR: 'it returns false'. Refute it at one input. -/
def validWaysWrong : ChangeSpec := { name := "validWays", fn := fun _ => fun
  | [d1, d2] => { results := [.lit (.bool false)], args := [d1, d2] }
  | _ => none }
def ValidWaysWrongFalsely : Prop := validWaysRow.holds Try.pinned (OpenSpec.ofChange validWaysWrong)

/-- 'purflelaw15.ValidTrims': WHATEVER THE INPUT: true; the input reads as it did. -/
def validTrimsSpec : ChangeSpec := { name := "validTrims", fn := fun _ => fun
  | [d1, d2] => { results := [.lit (.bool true)], args := [d1, d2] }
  | _ => none }
def validTrimsRow : OpenClaim := { program := "ytgkdkjjohknfpaa", sum := "25615d1885ecc5c697c40782b8599d135e6a18a68c13203835c78a010f4ed087", func := "purfle/purflelaw15.ValidTrims", spec := "validTrims", inPlace := ["internal/bytealg.IndexByteString"], unfollowed := true, recurses := true, apart := false }
def ValidTrimsSaid : Prop := validTrimsRow.holds Try.pinned (OpenSpec.ofChange validTrimsSpec)

/-- ITS FALSE NEIGHBOUR: 'it returns false'. Refute it at one input. -/
def validTrimsWrong : ChangeSpec := { name := "validTrims", fn := fun _ => fun
  | [d1, d2] => { results := [.lit (.bool false)], args := [d1, d2] }
  | _ => none }
def ValidTrimsWrongFalsely : Prop := validTrimsRow.holds Try.pinned (OpenSpec.ofChange validTrimsWrong)

/-- 'purflelaw15.ValidShifts': WHATEVER THE INPUT: true; the input reads as it did. -/
def validShiftsSpec : ChangeSpec := { name := "validShifts", fn := fun _ => fun
  | [d1, d2] => { results := [.lit (.bool true)], args := [d1, d2] }
  | _ => none }
def validShiftsRow : OpenClaim := { program := "ytgkdkjjohknfpaa", sum := "25615d1885ecc5c697c40782b8599d135e6a18a68c13203835c78a010f4ed087", func := "purfle/purflelaw15.ValidShifts", spec := "validShifts", inPlace := ["internal/bytealg.IndexByteString"], unfollowed := true, recurses := true, apart := false }
def ValidShiftsSaid : Prop := validShiftsRow.holds Try.pinned (OpenSpec.ofChange validShiftsSpec)

/-- ITS FALSE NEIGHBOUR: 'it returns false'. Refute it at one input. -/
def validShiftsWrong : ChangeSpec := { name := "validShifts", fn := fun _ => fun
  | [d1, d2] => { results := [.lit (.bool false)], args := [d1, d2] }
  | _ => none }
def ValidShiftsWrongFalsely : Prop := validShiftsRow.holds Try.pinned (OpenSpec.ofChange validShiftsWrong)

/-- 'purflelaw15.ValidTells': WHATEVER THE INPUT: true; the input reads as it did. -/
def validTellsSpec : ChangeSpec := { name := "validTells", fn := fun _ => fun
  | [d] => { results := [.lit (.bool true)], args := [d] }
  | _ => none }
def validTellsRow : OpenClaim := { program := "ytgkdkjjohknfpaa", sum := "25615d1885ecc5c697c40782b8599d135e6a18a68c13203835c78a010f4ed087", func := "purfle/purflelaw15.ValidTells", spec := "validTells", inPlace := ["internal/bytealg.IndexByteString"], unfollowed := true, recurses := true, apart := false }
def ValidTellsSaid : Prop := validTellsRow.holds Try.pinned (OpenSpec.ofChange validTellsSpec)

/-- ITS FALSE NEIGHBOUR: 'it returns false'. Refute it at one input. -/
def validTellsWrong : ChangeSpec := { name := "validTells", fn := fun _ => fun
  | [d] => { results := [.lit (.bool false)], args := [d] }
  | _ => none }
def ValidTellsWrongFalsely : Prop := validTellsRow.holds Try.pinned (OpenSpec.ofChange validTellsWrong)

/- THE SECOND FORM. 'bulk': how many values and letters a reading holds, each counted each time it is reached (what is shared counts as often as it is met; a slice's spare places count too). A statement '..UptoSaid' is the law's where the arguments, and the package variables that the reading takes, are together of bulk at most 1048576: NARROWER than '..Said'. Prove '..Said' where nothing that the law and all that it calls make is longer than what came in: it says more and counts as full. Else prove '..UptoSaid'. A law counts once. -/
mutual
def uptoBulk {H : Type} : DataW H → Nat
  | .lit (.string bytes) => bytes.length + 1
  | .lit _ => 1
  | .nil => 1
  | .ptr d => uptoBulk d + 1
  | .slice elems spare => uptoBulkAll elems + uptoBulkAll spare + 1
  | .agg parts => uptoBulkAll parts + 1
  | .iface _ d => uptoBulk d + 1
  | .map entries => uptoBulkEntries entries + 1
  | .held _ => 1
def uptoBulkAll {H : Type} : List (DataW H) → Nat
  | [] => 0
  | d :: r => uptoBulk d + uptoBulkAll r
def uptoBulkEntries {H : Type} : List (Lit × DataW H) → Nat
  | [] => 0
  | x :: r => uptoBulkEntry x + uptoBulkEntries r
def uptoBulkEntry {H : Type} : Lit × DataW H → Nat
  | (.string bytes, d) => bytes.length + uptoBulk d + 1
  | (_, d) => uptoBulk d + 1
 end
def uptoSmall : (H : Type) → List (DataW H) → Bool := fun _ ds => decide (uptoBulkAll ds ≤ 1048576)
def OpenSpec.upto (s : _root_.Go.ChangeSpec) : _root_.Go.OpenSpec := { _root_.Go.OpenSpec.ofChange s with cond := some uptoSmall }

/-- 'purflelaw15.ValidEnds', WHERE WHAT IT READS IS OF BULK AT MOST 1048576: true; the input reads as it did. -/
def validEndsUptoRow : OpenClaim := { program := "ytgkdkjjohknfpaa", sum := "25615d1885ecc5c697c40782b8599d135e6a18a68c13203835c78a010f4ed087", func := "purfle/purflelaw15.ValidEnds", spec := "validEnds", inPlace := ["internal/bytealg.IndexByteString"], unfollowed := true, recurses := true, apart := false, narrowed := true }
def ValidEndsUptoSaid : Prop := validEndsUptoRow.holds Try.pinned (OpenSpec.upto validEndsSpec)

/-- 'purflelaw15.ValidWays', WHERE WHAT IT READS IS OF BULK AT MOST 1048576: true; the input reads as it did. -/
def validWaysUptoRow : OpenClaim := { program := "ytgkdkjjohknfpaa", sum := "25615d1885ecc5c697c40782b8599d135e6a18a68c13203835c78a010f4ed087", func := "purfle/purflelaw15.ValidWays", spec := "validWays", inPlace := ["internal/bytealg.IndexByteString"], unfollowed := true, recurses := true, apart := false, narrowed := true }
def ValidWaysUptoSaid : Prop := validWaysUptoRow.holds Try.pinned (OpenSpec.upto validWaysSpec)

/-- 'purflelaw15.ValidTrims', WHERE WHAT IT READS IS OF BULK AT MOST 1048576: true; the input reads as it did. -/
def validTrimsUptoRow : OpenClaim := { program := "ytgkdkjjohknfpaa", sum := "25615d1885ecc5c697c40782b8599d135e6a18a68c13203835c78a010f4ed087", func := "purfle/purflelaw15.ValidTrims", spec := "validTrims", inPlace := ["internal/bytealg.IndexByteString"], unfollowed := true, recurses := true, apart := false, narrowed := true }
def ValidTrimsUptoSaid : Prop := validTrimsUptoRow.holds Try.pinned (OpenSpec.upto validTrimsSpec)

/-- 'purflelaw15.ValidShifts', WHERE WHAT IT READS IS OF BULK AT MOST 1048576: true; the input reads as it did. -/
def validShiftsUptoRow : OpenClaim := { program := "ytgkdkjjohknfpaa", sum := "25615d1885ecc5c697c40782b8599d135e6a18a68c13203835c78a010f4ed087", func := "purfle/purflelaw15.ValidShifts", spec := "validShifts", inPlace := ["internal/bytealg.IndexByteString"], unfollowed := true, recurses := true, apart := false, narrowed := true }
def ValidShiftsUptoSaid : Prop := validShiftsUptoRow.holds Try.pinned (OpenSpec.upto validShiftsSpec)

/-- 'purflelaw15.ValidTells', WHERE WHAT IT READS IS OF BULK AT MOST 1048576: true; the input reads as it did. -/
def validTellsUptoRow : OpenClaim := { program := "ytgkdkjjohknfpaa", sum := "25615d1885ecc5c697c40782b8599d135e6a18a68c13203835c78a010f4ed087", func := "purfle/purflelaw15.ValidTells", spec := "validTells", inPlace := ["internal/bytealg.IndexByteString"], unfollowed := true, recurses := true, apart := false, narrowed := true }
def ValidTellsUptoSaid : Prop := validTellsUptoRow.holds Try.pinned (OpenSpec.upto validTellsSpec)

end Rows
end Go.Proofs.Ytgkdkjjohknfpaa
