/- BracketPlays's walk, at the values that the row hands in. -/
import Derived.Test.YtpdanppnpgfkeaaPlaysWalk
namespace Go.Proofs.Ytpdanppnpgfkeaa
open Go.ChangeShapes Go.WideShapes Go.RowKit
theorem plays_end {H : Type} {enc : TypeId × Value → H} {base b0 : Nat} {d : DataW H} {p : List MemPlace} (a0 : Int) (v1 : Value) (w : World) (_ : (Lit.int .i64 a0).wf = true)
    (hv : Value.okWide Try.prog w .any b0 22 v1) (h : DataW.Trod enc Try.prog w base (fun _ => true) true 22 v1 d p) :
    Calls Try.prog 3 #[.int .i64 a0, v1] w fun r w' => r = .returned (.bool true) ∧ Below w.heap.size w w' := by
  obtain ⟨a, len, cap, rfl, hr⟩ := open_ops hv h
  exact plays_walk a0 a len cap w hr
end Go.Proofs.Ytpdanppnpgfkeaa
