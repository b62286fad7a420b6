/- RosterNil's walk, at the values that the row hands in. -/
import Derived.Test.YtgnkehjjeoolcaaOpen
import Derived.Test.YtgnkehjjeoolcaaNilWalk
namespace Go.Proofs.Ytgnkehjjeoolcaa
open Go.ChangeShapes Go.WideShapes Go.RowKit
theorem nil_end {H : Type} {enc : TypeId × Value → H} {base b0 : Nat} {spare : Nat → Bool} {d : DataW H} {p : List MemPlace} (v0 : Value) (a1 : Int) (w : World)
    (hv : Value.okWide Try.prog w .any b0 32 v0) (h : DataW.Trod enc Try.prog w base spare true 32 v0 d p) (_ : (Lit.int .i64 a1).wf = true) :
    Calls Try.prog 4 #[v0, .int .i64 a1] w fun r w' => r = .returned (.bool true) ∧ Below w.heap.size w w' := by
  obtain ⟨e, rfl⟩ := open_ent hv h
  exact nil_walk e a1 w
end Go.Proofs.Ytgnkehjjeoolcaa
