/-
  No cell of these rows narrows 'for every input' (looked for: loops, veiled, ifaces, maps, wideKeys, modest, calm, conditions, laid).
  DERIVED. THE GIVEN ROWS OF THIS SEAT. 4 by the template 'for every input the law returns true; each argument reads behind the call as it read before'; 0 by the template 'total and deterministic' (their statements: YtpdanppnpgfkeaaTotals.lean).
  GIVEN WITH THE SEED: the statements are not yours to turn. If you find one false, say at which input.
  Laid BY PROGRAM, IN A SANDBOX (cutbox-rows.mjs): the forced cells as the released guide's own fill.sh prints them over the translation 574e49c0bc4ac6b6… (all of the seat's roots in one cut). By AI agents, Wed Nov 11 2026. No macro, syntax, notation, axiom, sorry.
-/
import Derived.Test.YtpdanppnpgfkeaaChecked
import GoSem.Claim
import GoSem.ClaimJoined
import GoSem.ClaimMapViews
import Derived.JoinedTies
import Derived.KernelRfl
namespace Go.Proofs.Ytpdanppnpgfkeaa
/- THE CELL 'sum', in the pinned program and in every row, IS THE sha256 OF THE DUMP (.gsa) THAT YtpdanppnpgfkeaaProg.lean LOADS. Nothing in Lean hashes anything: it is a label: what it is worth is what the hold of that sum in a sandbox is worth. -/
noncomputable def Try.pinned : Pinned := { name := "ytpdanppnpgfkeaa", sum := "574e49c0bc4ac6b68cce66fed051c736dfbd941d2cf7ba20114493b9994c2601", checked := Try.checked }
namespace Rows
def none {H : Type} : Left H := { results := [], args := [] }

/-- 'skirmishlaw26.BracketPlays': WHATEVER THE INPUT: true; the input reads as it did. -/
def bracketPlaysSpec : ChangeSpec := { name := "bracketPlays", fn := fun _ => fun
  | [d1, d2] => { results := [.lit (.bool true)], args := [d1, d2] }
  | _ => none }
def bracketPlaysRow : OpenClaim := { program := "ytpdanppnpgfkeaa", sum := "574e49c0bc4ac6b68cce66fed051c736dfbd941d2cf7ba20114493b9994c2601", func := "skirmish/skirmishlaw26.BracketPlays", spec := "bracketPlays", recurses := true, plainKeys := false, apart := false }
def BracketPlaysSaid : Prop := bracketPlaysRow.holds Try.pinned (OpenSpec.ofChange bracketPlaysSpec)

/-- ITS FALSE NEIGHBOUR: 'it returns false'. Refute it at one input. -/
def bracketPlaysWrong : ChangeSpec := { name := "bracketPlays", fn := fun _ => fun
  | [d1, d2] => { results := [.lit (.bool false)], args := [d1, d2] }
  | _ => none }
def BracketPlaysWrongFalsely : Prop := bracketPlaysRow.holds Try.pinned (OpenSpec.ofChange bracketPlaysWrong)

/-- 'skirmishlaw26.BracketEnds': WHATEVER THE INPUT: true; the input reads as it did. -/
def bracketEndsSpec : ChangeSpec := { name := "bracketEnds", fn := fun _ => fun
  | [d1, d2, d3] => { results := [.lit (.bool true)], args := [d1, d2, d3] }
  | _ => none }
def bracketEndsRow : OpenClaim := { program := "ytpdanppnpgfkeaa", sum := "574e49c0bc4ac6b68cce66fed051c736dfbd941d2cf7ba20114493b9994c2601", func := "skirmish/skirmishlaw26.BracketEnds", spec := "bracketEnds", plainKeys := false, apart := false }
def BracketEndsSaid : Prop := bracketEndsRow.holds Try.pinned (OpenSpec.ofChange bracketEndsSpec)

/-- ITS FALSE NEIGHBOUR: 'it returns false'. Refute it at one input. -/
def bracketEndsWrong : ChangeSpec := { name := "bracketEnds", fn := fun _ => fun
  | [d1, d2, d3] => { results := [.lit (.bool false)], args := [d1, d2, d3] }
  | _ => none }
def BracketEndsWrongFalsely : Prop := bracketEndsRow.holds Try.pinned (OpenSpec.ofChange bracketEndsWrong)

/-- 'skirmishlaw26.BracketStrong': WHATEVER THE INPUT: true; the input reads as it did. -/
def bracketStrongSpec : ChangeSpec := { name := "bracketStrong", fn := fun _ => fun
  | [d1, d2] => { results := [.lit (.bool true)], args := [d1, d2] }
  | _ => none }
def bracketStrongRow : OpenClaim := { program := "ytpdanppnpgfkeaa", sum := "574e49c0bc4ac6b68cce66fed051c736dfbd941d2cf7ba20114493b9994c2601", func := "skirmish/skirmishlaw26.BracketStrong", spec := "bracketStrong", plainKeys := false, apart := false }
def BracketStrongSaid : Prop := bracketStrongRow.holds Try.pinned (OpenSpec.ofChange bracketStrongSpec)

/-- ITS FALSE NEIGHBOUR: 'it returns false'. Refute it at one input. -/
def bracketStrongWrong : ChangeSpec := { name := "bracketStrong", fn := fun _ => fun
  | [d1, d2] => { results := [.lit (.bool false)], args := [d1, d2] }
  | _ => none }
def BracketStrongWrongFalsely : Prop := bracketStrongRow.holds Try.pinned (OpenSpec.ofChange bracketStrongWrong)

/-- 'skirmishlaw26.BracketNil': WHATEVER THE INPUT: true; the input reads as it did. -/
def bracketNilSpec : ChangeSpec := { name := "bracketNil", fn := fun _ => fun
  | [d1, d2, d3] => { results := [.lit (.bool true)], args := [d1, d2, d3] }
  | _ => none }
def bracketNilRow : OpenClaim := { program := "ytpdanppnpgfkeaa", sum := "574e49c0bc4ac6b68cce66fed051c736dfbd941d2cf7ba20114493b9994c2601", func := "skirmish/skirmishlaw26.BracketNil", spec := "bracketNil", plainKeys := false, apart := false }
def BracketNilSaid : Prop := bracketNilRow.holds Try.pinned (OpenSpec.ofChange bracketNilSpec)

/-- ITS FALSE NEIGHBOUR: 'it returns false'. Refute it at one input. -/
def bracketNilWrong : ChangeSpec := { name := "bracketNil", fn := fun _ => fun
  | [d1, d2, d3] => { results := [.lit (.bool false)], args := [d1, d2, d3] }
  | _ => none }
def BracketNilWrongFalsely : Prop := bracketNilRow.holds Try.pinned (OpenSpec.ofChange bracketNilWrong)

/- THE SECOND FORM. 'bulk': how many values and letters a reading holds, each counted each time it is reached (what is shared counts as often as it is met; a slice's spare places count too). A statement '..UptoSaid' is the law's where the arguments, and the package variables that the reading takes, are together of bulk at most 1048576: NARROWER than '..Said'. Prove '..Said' where nothing that the law and all that it calls make is longer than what came in: it says more and counts as full. Else prove '..UptoSaid'. A law counts once. -/
mutual
def uptoBulk {H : Type} : DataW H → Nat
  | .lit (.string bytes) => bytes.length + 1
  | .lit _ => 1
  | .nil => 1
  | .ptr d => uptoBulk d + 1
  | .slice elems spare => uptoBulkAll elems + uptoBulkAll spare + 1
  | .agg parts => uptoBulkAll parts + 1
  | .iface _ d => uptoBulk d + 1
  | .map entries => uptoBulkEntries entries + 1
  | .held _ => 1
def uptoBulkAll {H : Type} : List (DataW H) → Nat
  | [] => 0
  | d :: r => uptoBulk d + uptoBulkAll r
def uptoBulkEntries {H : Type} : List (Lit × DataW H) → Nat
  | [] => 0
  | x :: r => uptoBulkEntry x + uptoBulkEntries r
def uptoBulkEntry {H : Type} : Lit × DataW H → Nat
  | (.string bytes, d) => bytes.length + uptoBulk d + 1
  | (_, d) => uptoBulk d + 1
 end
def uptoSmall : (H : Type) → List (DataW H) → Bool := fun _ ds => decide (uptoBulkAll ds ≤ 1048576)
def OpenSpec.upto (s : _root_.Go.ChangeSpec) : _root_.Go.OpenSpec := { _root_.Go.OpenSpec.ofChange s with cond := some uptoSmall }

/-- 'skirmishlaw26.BracketPlays', WHERE WHAT IT READS IS OF BULK AT MOST 1048576: true; the input reads as it did. -/
def bracketPlaysUptoRow : OpenClaim := { program := "ytpdanppnpgfkeaa", sum := "574e49c0bc4ac6b68cce66fed051c736dfbd941d2cf7ba20114493b9994c2601", func := "skirmish/skirmishlaw26.BracketPlays", spec := "bracketPlays", recurses := true, plainKeys := false, apart := false, narrowed := true }
def BracketPlaysUptoSaid : Prop := bracketPlaysUptoRow.holds Try.pinned (OpenSpec.upto bracketPlaysSpec)

/-- 'skirmishlaw26.BracketEnds', WHERE WHAT IT READS IS OF BULK AT MOST 1048576: true; the input reads as it did. -/
def bracketEndsUptoRow : OpenClaim := { program := "ytpdanppnpgfkeaa", sum := "574e49c0bc4ac6b68cce66fed051c736dfbd941d2cf7ba20114493b9994c2601", func := "skirmish/skirmishlaw26.BracketEnds", spec := "bracketEnds", plainKeys := false, apart := false, narrowed := true }
def BracketEndsUptoSaid : Prop := bracketEndsUptoRow.holds Try.pinned (OpenSpec.upto bracketEndsSpec)

/-- 'skirmishlaw26.BracketStrong', WHERE WHAT IT READS IS OF BULK AT MOST 1048576: true; the input reads as it did. -/
def bracketStrongUptoRow : OpenClaim := { program := "ytpdanppnpgfkeaa", sum := "574e49c0bc4ac6b68cce66fed051c736dfbd941d2cf7ba20114493b9994c2601", func := "skirmish/skirmishlaw26.BracketStrong", spec := "bracketStrong", plainKeys := false, apart := false, narrowed := true }
def BracketStrongUptoSaid : Prop := bracketStrongUptoRow.holds Try.pinned (OpenSpec.upto bracketStrongSpec)

/-- 'skirmishlaw26.BracketNil', WHERE WHAT IT READS IS OF BULK AT MOST 1048576: true; the input reads as it did. -/
def bracketNilUptoRow : OpenClaim := { program := "ytpdanppnpgfkeaa", sum := "574e49c0bc4ac6b68cce66fed051c736dfbd941d2cf7ba20114493b9994c2601", func := "skirmish/skirmishlaw26.BracketNil", spec := "bracketNil", plainKeys := false, apart := false, narrowed := true }
def BracketNilUptoSaid : Prop := bracketNilUptoRow.holds Try.pinned (OpenSpec.upto bracketNilSpec)

end Rows
end Go.Proofs.Ytpdanppnpgfkeaa
