/-
  No cell of these rows narrows 'for every input' (looked for: loops, veiled, ifaces, maps, wideKeys, modest, calm, conditions, laid).
  DERIVED. THE GIVEN ROWS OF THIS SEAT. 5 by the template 'for every input the law returns true; each argument reads behind the call as it read before'; 0 by the template 'total and deterministic' (their statements: YtpnakfagpklkoaaTotals.lean).
  GIVEN WITH THE SEED: the statements are not yours to turn. If you find one false, say at which input.
  Laid BY PROGRAM, IN A SANDBOX (cutbox-rows.mjs): the forced cells as the released guide's own fill.sh prints them over the translation 7217b12d5f9fa60b… (all of the seat's roots in one cut). By AI agents, Wed Nov 11 2026. No macro, syntax, notation, axiom, sorry.
-/
import Derived.Test.YtpnakfagpklkoaaChecked
import GoSem.Claim
import GoSem.ClaimJoined
import GoSem.ClaimMapViews
import Derived.JoinedTies
import Derived.KernelRfl
namespace Go.Proofs.Ytpnakfagpklkoaa
/- THE CELL 'sum', in the pinned program and in every row, IS THE sha256 OF THE DUMP (.gsa) THAT YtpnakfagpklkoaaProg.lean LOADS. Nothing in Lean hashes anything: it is a label: what it is worth is what the hold of that sum in a sandbox is worth. -/
noncomputable def Try.pinned : Pinned := { name := "ytpnakfagpklkoaa", sum := "7217b12d5f9fa60ba6ef20ce741d861a01193a5ee37bbbb86ce5b8da596a147e", checked := Try.checked }
namespace Rows
def none {H : Type} : Left H := { results := [], args := [] }

/-- 'skirmishlaw04.RngNext': WHATEVER THE INPUT: true; the input reads as it did. -/
def rngNextSpec : ChangeSpec := { name := "rngNext", fn := fun _ => fun
  | [d1, d2, d3] => { results := [.lit (.bool true)], args := [d1, d2, d3] }
  | _ => none }
def rngNextRow : OpenClaim := { program := "ytpnakfagpklkoaa", sum := "7217b12d5f9fa60ba6ef20ce741d861a01193a5ee37bbbb86ce5b8da596a147e", func := "skirmish/skirmishlaw04.RngNext", spec := "rngNext", apart := false }
def RngNextSaid : Prop := rngNextRow.holds Try.pinned (OpenSpec.ofChange rngNextSpec)

/-- ITS FALSE NEIGHBOUR: 'it returns false'. Refute it at one input. -/
def rngNextWrong : ChangeSpec := { name := "rngNext", fn := fun _ => fun
  | [d1, d2, d3] => { results := [.lit (.bool false)], args := [d1, d2, d3] }
  | _ => none }
def RngNextWrongFalsely : Prop := rngNextRow.holds Try.pinned (OpenSpec.ofChange rngNextWrong)

/-- 'skirmishlaw04.RngBelow': WHATEVER THE INPUT: true; the input reads as it did. -/
def rngBelowSpec : ChangeSpec := { name := "rngBelow", fn := fun _ => fun
  | [d1, d2] => { results := [.lit (.bool true)], args := [d1, d2] }
  | _ => none }
def rngBelowRow : OpenClaim := { program := "ytpnakfagpklkoaa", sum := "7217b12d5f9fa60ba6ef20ce741d861a01193a5ee37bbbb86ce5b8da596a147e", func := "skirmish/skirmishlaw04.RngBelow", spec := "rngBelow", apart := false }
def RngBelowSaid : Prop := rngBelowRow.holds Try.pinned (OpenSpec.ofChange rngBelowSpec)

/-- ITS FALSE NEIGHBOUR: 'it returns false'. Refute it at one input. -/
def rngBelowWrong : ChangeSpec := { name := "rngBelow", fn := fun _ => fun
  | [d1, d2] => { results := [.lit (.bool false)], args := [d1, d2] }
  | _ => none }
def RngBelowWrongFalsely : Prop := rngBelowRow.holds Try.pinned (OpenSpec.ofChange rngBelowWrong)

/-- 'skirmishlaw04.RngAlike': WHATEVER THE INPUT: true; the input reads as it did. -/
def rngAlikeSpec : ChangeSpec := { name := "rngAlike", fn := fun _ => fun
  | [d1, d2] => { results := [.lit (.bool true)], args := [d1, d2] }
  | _ => none }
def rngAlikeRow : OpenClaim := { program := "ytpnakfagpklkoaa", sum := "7217b12d5f9fa60ba6ef20ce741d861a01193a5ee37bbbb86ce5b8da596a147e", func := "skirmish/skirmishlaw04.RngAlike", spec := "rngAlike", apart := false }
def RngAlikeSaid : Prop := rngAlikeRow.holds Try.pinned (OpenSpec.ofChange rngAlikeSpec)

/-- ITS FALSE NEIGHBOUR: 'it returns false'. Refute it at one input. -/
def rngAlikeWrong : ChangeSpec := { name := "rngAlike", fn := fun _ => fun
  | [d1, d2] => { results := [.lit (.bool false)], args := [d1, d2] }
  | _ => none }
def RngAlikeWrongFalsely : Prop := rngAlikeRow.holds Try.pinned (OpenSpec.ofChange rngAlikeWrong)

/-- 'skirmishlaw04.RngShuffles': WHATEVER THE INPUT: true; the input reads as it did. -/
def rngShufflesSpec : ChangeSpec := { name := "rngShuffles", fn := fun _ => fun
  | [d1, d2] => { results := [.lit (.bool true)], args := [d1, d2] }
  | _ => none }
def rngShufflesRow : OpenClaim := { program := "ytpnakfagpklkoaa", sum := "7217b12d5f9fa60ba6ef20ce741d861a01193a5ee37bbbb86ce5b8da596a147e", func := "skirmish/skirmishlaw04.RngShuffles", spec := "rngShuffles", apart := false }
def RngShufflesSaid : Prop := rngShufflesRow.holds Try.pinned (OpenSpec.ofChange rngShufflesSpec)

/-- ITS FALSE NEIGHBOUR: 'it returns false'. Refute it at one input. -/
def rngShufflesWrong : ChangeSpec := { name := "rngShuffles", fn := fun _ => fun
  | [d1, d2] => { results := [.lit (.bool false)], args := [d1, d2] }
  | _ => none }
def RngShufflesWrongFalsely : Prop := rngShufflesRow.holds Try.pinned (OpenSpec.ofChange rngShufflesWrong)

/-- 'skirmishlaw04.RngNil': WHATEVER THE INPUT: true; the input reads as it did. -/
def rngNilSpec : ChangeSpec := { name := "rngNil", fn := fun _ => fun
  | [d1, d2] => { results := [.lit (.bool true)], args := [d1, d2] }
  | _ => none }
def rngNilRow : OpenClaim := { program := "ytpnakfagpklkoaa", sum := "7217b12d5f9fa60ba6ef20ce741d861a01193a5ee37bbbb86ce5b8da596a147e", func := "skirmish/skirmishlaw04.RngNil", spec := "rngNil", apart := false }
def RngNilSaid : Prop := rngNilRow.holds Try.pinned (OpenSpec.ofChange rngNilSpec)

/-- ITS FALSE NEIGHBOUR: 'it returns false'. Refute it at one input. -/
def rngNilWrong : ChangeSpec := { name := "rngNil", fn := fun _ => fun
  | [d1, d2] => { results := [.lit (.bool false)], args := [d1, d2] }
  | _ => none }
def RngNilWrongFalsely : Prop := rngNilRow.holds Try.pinned (OpenSpec.ofChange rngNilWrong)

/- THE SECOND FORM. 'bulk': how many values and letters a reading holds, each counted each time it is reached (what is shared counts as often as it is met; a slice's spare places count too). A statement '..UptoSaid' is the law's where the arguments, and the package variables that the reading takes, are together of bulk at most 1048576: NARROWER than '..Said'. Prove '..Said' where nothing that the law and all that it calls make is longer than what came in: it says more and counts as full. Else prove '..UptoSaid'. A law counts once. -/
mutual
def uptoBulk {H : Type} : DataW H → Nat
  | .lit (.string bytes) => bytes.length + 1
  | .lit _ => 1
  | .nil => 1
  | .ptr d => uptoBulk d + 1
  | .slice elems spare => uptoBulkAll elems + uptoBulkAll spare + 1
  | .agg parts => uptoBulkAll parts + 1
  | .iface _ d => uptoBulk d + 1
  | .map entries => uptoBulkEntries entries + 1
  | .held _ => 1
def uptoBulkAll {H : Type} : List (DataW H) → Nat
  | [] => 0
  | d :: r => uptoBulk d + uptoBulkAll r
def uptoBulkEntries {H : Type} : List (Lit × DataW H) → Nat
  | [] => 0
  | x :: r => uptoBulkEntry x + uptoBulkEntries r
def uptoBulkEntry {H : Type} : Lit × DataW H → Nat
  | (.string bytes, d) => bytes.length + uptoBulk d + 1
  | (_, d) => uptoBulk d + 1
 end
def uptoSmall : (H : Type) → List (DataW H) → Bool := fun _ ds => decide (uptoBulkAll ds ≤ 1048576)
def OpenSpec.upto (s : _root_.Go.ChangeSpec) : _root_.Go.OpenSpec := { _root_.Go.OpenSpec.ofChange s with cond := some uptoSmall }

/-- 'skirmishlaw04.RngNext', WHERE WHAT IT READS IS OF BULK AT MOST 1048576: true; the input reads as it did. -/
def rngNextUptoRow : OpenClaim := { program := "ytpnakfagpklkoaa", sum := "7217b12d5f9fa60ba6ef20ce741d861a01193a5ee37bbbb86ce5b8da596a147e", func := "skirmish/skirmishlaw04.RngNext", spec := "rngNext", apart := false, narrowed := true }
def RngNextUptoSaid : Prop := rngNextUptoRow.holds Try.pinned (OpenSpec.upto rngNextSpec)

/-- 'skirmishlaw04.RngBelow', WHERE WHAT IT READS IS OF BULK AT MOST 1048576: true; the input reads as it did. -/
def rngBelowUptoRow : OpenClaim := { program := "ytpnakfagpklkoaa", sum := "7217b12d5f9fa60ba6ef20ce741d861a01193a5ee37bbbb86ce5b8da596a147e", func := "skirmish/skirmishlaw04.RngBelow", spec := "rngBelow", apart := false, narrowed := true }
def RngBelowUptoSaid : Prop := rngBelowUptoRow.holds Try.pinned (OpenSpec.upto rngBelowSpec)

/-- 'skirmishlaw04.RngAlike', WHERE WHAT IT READS IS OF BULK AT MOST 1048576: true; the input reads as it did. -/
def rngAlikeUptoRow : OpenClaim := { program := "ytpnakfagpklkoaa", sum := "7217b12d5f9fa60ba6ef20ce741d861a01193a5ee37bbbb86ce5b8da596a147e", func := "skirmish/skirmishlaw04.RngAlike", spec := "rngAlike", apart := false, narrowed := true }
def RngAlikeUptoSaid : Prop := rngAlikeUptoRow.holds Try.pinned (OpenSpec.upto rngAlikeSpec)

/-- 'skirmishlaw04.RngShuffles', WHERE WHAT IT READS IS OF BULK AT MOST 1048576: true; the input reads as it did. -/
def rngShufflesUptoRow : OpenClaim := { program := "ytpnakfagpklkoaa", sum := "7217b12d5f9fa60ba6ef20ce741d861a01193a5ee37bbbb86ce5b8da596a147e", func := "skirmish/skirmishlaw04.RngShuffles", spec := "rngShuffles", apart := false, narrowed := true }
def RngShufflesUptoSaid : Prop := rngShufflesUptoRow.holds Try.pinned (OpenSpec.upto rngShufflesSpec)

/-- 'skirmishlaw04.RngNil', WHERE WHAT IT READS IS OF BULK AT MOST 1048576: true; the input reads as it did. -/
def rngNilUptoRow : OpenClaim := { program := "ytpnakfagpklkoaa", sum := "7217b12d5f9fa60ba6ef20ce741d861a01193a5ee37bbbb86ce5b8da596a147e", func := "skirmish/skirmishlaw04.RngNil", spec := "rngNil", apart := false, narrowed := true }
def RngNilUptoSaid : Prop := rngNilUptoRow.holds Try.pinned (OpenSpec.upto rngNilSpec)

end Rows
end Go.Proofs.Ytpnakfagpklkoaa
