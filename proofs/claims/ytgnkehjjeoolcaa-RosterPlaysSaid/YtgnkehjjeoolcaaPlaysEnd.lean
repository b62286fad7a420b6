/- RosterPlays's walk, at the values that the row hands in. -/
import Derived.Test.YtgnkehjjeoolcaaPlaysWalk
namespace Go.Proofs.Ytgnkehjjeoolcaa
open Go.ChangeShapes Go.WideShapes Go.RowKit
theorem plays_end {H : Type} {enc : TypeId × Value → H} {base b0 : Nat} {d : DataW H} {p : List MemPlace} (v0 : Value) (w : World)
    (hv : Value.okWide Try.prog w .any b0 22 v0) (h : DataW.Trod enc Try.prog w base (fun _ => true) true 22 v0 d p) :
    Calls Try.prog 3 #[v0] w fun r w' => r = .returned (.bool true) ∧ Below w.heap.size w w' := by
  obtain ⟨a, len, cap, rfl, _, hr⟩ := open_ops hv h
  exact plays_walk a len cap w hr
end Go.Proofs.Ytgnkehjjeoolcaa
