/-
  No cell of these rows narrows 'for every input' (looked for: loops, veiled, ifaces, maps, wideKeys, modest, calm, conditions, laid).
  DERIVED. THE GIVEN ROWS OF THIS SEAT. 4 by the template 'for every input the law returns true; each argument reads behind the call as it read before'; 0 by the template 'total and deterministic' (their statements: YtgnkehjjeoolcaaTotals.lean).
  GIVEN WITH THE SEED: the statements are not yours to turn. If you find one false, say at which input.
  Laid BY PROGRAM, IN A SANDBOX (cutbox-rows.mjs): the forced cells as the released guide's own fill.sh prints them over the translation 4da6649421cf37ff… (all of the seat's roots in one cut). By AI agents, Wed Nov 11 2026. No macro, syntax, notation, axiom, sorry.
-/
import Derived.Test.YtgnkehjjeoolcaaChecked
import GoSem.Claim
import GoSem.ClaimJoined
import GoSem.ClaimMapViews
import Derived.JoinedTies
import Derived.KernelRfl
namespace Go.Proofs.Ytgnkehjjeoolcaa
/- THE CELL 'sum', in the pinned program and in every row, IS THE sha256 OF THE DUMP (.gsa) THAT YtgnkehjjeoolcaaProg.lean LOADS. Nothing in Lean hashes anything: it is a label: what it is worth is what the hold of that sum in a sandbox is worth. -/
noncomputable def Try.pinned : Pinned := { name := "ytgnkehjjeoolcaa", sum := "4da6649421cf37ff90529a91ed6462ebc56bc8b86381a83675c02b806136cc38", checked := Try.checked }
namespace Rows
def none {H : Type} : Left H := { results := [], args := [] }

/-- 'skirmishlaw06.RosterPlays': WHATEVER THE INPUT: true; the input reads as it did. -/
def rosterPlaysSpec : ChangeSpec := { name := "rosterPlays", fn := fun _ => fun
  | [d] => { results := [.lit (.bool true)], args := [d] }
  | _ => none }
def rosterPlaysRow : OpenClaim := { program := "ytgnkehjjeoolcaa", sum := "4da6649421cf37ff90529a91ed6462ebc56bc8b86381a83675c02b806136cc38", func := "skirmish/skirmishlaw06.RosterPlays", spec := "rosterPlays", unfollowed := true, recurses := true, apart := false }
def RosterPlaysSaid : Prop := rosterPlaysRow.holds Try.pinned (OpenSpec.ofChange rosterPlaysSpec)

/-- ITS FALSE NEIGHBOUR: 'it returns false'. Refute it at one input. -/
def rosterPlaysWrong : ChangeSpec := { name := "rosterPlays", fn := fun _ => fun
  | [d] => { results := [.lit (.bool false)], args := [d] }
  | _ => none }
def RosterPlaysWrongFalsely : Prop := rosterPlaysRow.holds Try.pinned (OpenSpec.ofChange rosterPlaysWrong)

/-- 'skirmishlaw06.RosterNil': WHATEVER THE INPUT: true; the input reads as it did. -/
def rosterNilSpec : ChangeSpec := { name := "rosterNil", fn := fun _ => fun
  | [d1, d2] => { results := [.lit (.bool true)], args := [d1, d2] }
  | _ => none }
def rosterNilRow : OpenClaim := { program := "ytgnkehjjeoolcaa", sum := "4da6649421cf37ff90529a91ed6462ebc56bc8b86381a83675c02b806136cc38", func := "skirmish/skirmishlaw06.RosterNil", spec := "rosterNil", unfollowed := true, recurses := true, apart := false }
def RosterNilSaid : Prop := rosterNilRow.holds Try.pinned (OpenSpec.ofChange rosterNilSpec)

/-- ITS FALSE NEIGHBOUR: 'it returns false'. Refute it at one input. -/
def rosterNilWrong : ChangeSpec := { name := "rosterNil", fn := fun _ => fun
  | [d1, d2] => { results := [.lit (.bool false)], args := [d1, d2] }
  | _ => none }
def RosterNilWrongFalsely : Prop := rosterNilRow.holds Try.pinned (OpenSpec.ofChange rosterNilWrong)

/-- 'skirmishlaw06.RosterNever': WHATEVER THE INPUT: true; the input reads as it did. -/
def rosterNeverSpec : ChangeSpec := { name := "rosterNever", fn := fun _ => fun
  | [d] => { results := [.lit (.bool true)], args := [d] }
  | _ => none }
def rosterNeverRow : OpenClaim := { program := "ytgnkehjjeoolcaa", sum := "4da6649421cf37ff90529a91ed6462ebc56bc8b86381a83675c02b806136cc38", func := "skirmish/skirmishlaw06.RosterNever", spec := "rosterNever", unfollowed := true, recurses := true, apart := false }
def RosterNeverSaid : Prop := rosterNeverRow.holds Try.pinned (OpenSpec.ofChange rosterNeverSpec)

/-- ITS FALSE NEIGHBOUR: 'it returns false'. Refute it at one input. -/
def rosterNeverWrong : ChangeSpec := { name := "rosterNever", fn := fun _ => fun
  | [d] => { results := [.lit (.bool false)], args := [d] }
  | _ => none }
def RosterNeverWrongFalsely : Prop := rosterNeverRow.holds Try.pinned (OpenSpec.ofChange rosterNeverWrong)

/-- 'skirmishlaw06.RosterFull': WHATEVER THE INPUT: true; the input reads as it did. -/
def rosterFullSpec : ChangeSpec := { name := "rosterFull", fn := fun _ => fun
  | [d1, d2] => { results := [.lit (.bool true)], args := [d1, d2] }
  | _ => none }
def rosterFullRow : OpenClaim := { program := "ytgnkehjjeoolcaa", sum := "4da6649421cf37ff90529a91ed6462ebc56bc8b86381a83675c02b806136cc38", func := "skirmish/skirmishlaw06.RosterFull", spec := "rosterFull", unfollowed := true, recurses := true, apart := false }
def RosterFullSaid : Prop := rosterFullRow.holds Try.pinned (OpenSpec.ofChange rosterFullSpec)

/-- ITS FALSE NEIGHBOUR: 'it returns false'. Refute it at one input. -/
def rosterFullWrong : ChangeSpec := { name := "rosterFull", fn := fun _ => fun
  | [d1, d2] => { results := [.lit (.bool false)], args := [d1, d2] }
  | _ => none }
def RosterFullWrongFalsely : Prop := rosterFullRow.holds Try.pinned (OpenSpec.ofChange rosterFullWrong)

/- THE SECOND FORM. 'bulk': how many values and letters a reading holds, each counted each time it is reached (what is shared counts as often as it is met; a slice's spare places count too). A statement '..UptoSaid' is the law's where the arguments, and the package variables that the reading takes, are together of bulk at most 1048576: NARROWER than '..Said'. Prove '..Said' where nothing that the law and all that it calls make is longer than what came in: it says more and counts as full. Else prove '..UptoSaid'. A law counts once. -/
mutual
def uptoBulk {H : Type} : DataW H → Nat
  | .lit (.string bytes) => bytes.length + 1
  | .lit _ => 1
  | .nil => 1
  | .ptr d => uptoBulk d + 1
  | .slice elems spare => uptoBulkAll elems + uptoBulkAll spare + 1
  | .agg parts => uptoBulkAll parts + 1
  | .iface _ d => uptoBulk d + 1
  | .map entries => uptoBulkEntries entries + 1
  | .held _ => 1
def uptoBulkAll {H : Type} : List (DataW H) → Nat
  | [] => 0
  | d :: r => uptoBulk d + uptoBulkAll r
def uptoBulkEntries {H : Type} : List (Lit × DataW H) → Nat
  | [] => 0
  | x :: r => uptoBulkEntry x + uptoBulkEntries r
def uptoBulkEntry {H : Type} : Lit × DataW H → Nat
  | (.string bytes, d) => bytes.length + uptoBulk d + 1
  | (_, d) => uptoBulk d + 1
 end
def uptoSmall : (H : Type) → List (DataW H) → Bool := fun _ ds => decide (uptoBulkAll ds ≤ 1048576)
def OpenSpec.upto (s : _root_.Go.ChangeSpec) : _root_.Go.OpenSpec := { _root_.Go.OpenSpec.ofChange s with cond := some uptoSmall }

/-- 'skirmishlaw06.RosterPlays', WHERE WHAT IT READS IS OF BULK AT MOST 1048576: true; the input reads as it did. -/
def rosterPlaysUptoRow : OpenClaim := { program := "ytgnkehjjeoolcaa", sum := "4da6649421cf37ff90529a91ed6462ebc56bc8b86381a83675c02b806136cc38", func := "skirmish/skirmishlaw06.RosterPlays", spec := "rosterPlays", unfollowed := true, recurses := true, apart := false, narrowed := true }
def RosterPlaysUptoSaid : Prop := rosterPlaysUptoRow.holds Try.pinned (OpenSpec.upto rosterPlaysSpec)

/-- 'skirmishlaw06.RosterNil', WHERE WHAT IT READS IS OF BULK AT MOST 1048576: true; the input reads as it did. -/
def rosterNilUptoRow : OpenClaim := { program := "ytgnkehjjeoolcaa", sum := "4da6649421cf37ff90529a91ed6462ebc56bc8b86381a83675c02b806136cc38", func := "skirmish/skirmishlaw06.RosterNil", spec := "rosterNil", unfollowed := true, recurses := true, apart := false, narrowed := true }
def RosterNilUptoSaid : Prop := rosterNilUptoRow.holds Try.pinned (OpenSpec.upto rosterNilSpec)

/-- 'skirmishlaw06.RosterNever', WHERE WHAT IT READS IS OF BULK AT MOST 1048576: true; the input reads as it did. -/
def rosterNeverUptoRow : OpenClaim := { program := "ytgnkehjjeoolcaa", sum := "4da6649421cf37ff90529a91ed6462ebc56bc8b86381a83675c02b806136cc38", func := "skirmish/skirmishlaw06.RosterNever", spec := "rosterNever", unfollowed := true, recurses := true, apart := false, narrowed := true }
def RosterNeverUptoSaid : Prop := rosterNeverUptoRow.holds Try.pinned (OpenSpec.upto rosterNeverSpec)

/-- 'skirmishlaw06.RosterFull', WHERE WHAT IT READS IS OF BULK AT MOST 1048576: true; the input reads as it did. -/
def rosterFullUptoRow : OpenClaim := { program := "ytgnkehjjeoolcaa", sum := "4da6649421cf37ff90529a91ed6462ebc56bc8b86381a83675c02b806136cc38", func := "skirmish/skirmishlaw06.RosterFull", spec := "rosterFull", unfollowed := true, recurses := true, apart := false, narrowed := true }
def RosterFullUptoSaid : Prop := rosterFullUptoRow.holds Try.pinned (OpenSpec.upto rosterFullSpec)

end Rows
end Go.Proofs.Ytgnkehjjeoolcaa
