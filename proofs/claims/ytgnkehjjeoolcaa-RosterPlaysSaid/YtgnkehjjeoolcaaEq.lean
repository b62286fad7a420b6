/- '==' of entities and of cells. -/
import Derived.Test.YtgnkehjjeoolcaaDel
import Derived.Laws.StructEq
namespace Go.Proofs.Ytgnkehjjeoolcaa
open Go.RowKit

theorem eql_cell (a b c d : Int) (w : World) :
    (binOp .eql 30 (.agg #[.int .i64 a, .int .i64 b]) (.agg #[.int .i64 c, .int .i64 d])).run Try.prog w = .ok (.bool (decide (a = c ∧ b = d))) w := by
  simp [binOp, Op.equal, Op.maxDepth, go_sem]
  by_cases h1 : a = c <;> by_cases h2 : b = d <;> simp [h1, h2]

theorem eql_ent (e : Ent) (w : World) : (binOp .eql 32 (.agg e.cells.toArray) (.agg e.cells.toArray)).run Try.prog w = .ok (.bool true) w := by
  unfold Ent.cells
  simp [binOp, Op.equal, Op.maxDepth, go_sem]

theorem neq_ent (e : Ent) (w : World) : (binOp .neq 32 (.agg e.cells.toArray) (.agg e.cells.toArray)).run Try.prog w = .ok (.bool false) w := by
  unfold Ent.cells
  simp [binOp, Op.equal, Op.maxDepth, go_sem]

/-- does an entity stand there? -/
def standsB (x y : Int) (e : Ent) : Bool := decide (e.ax = x ∧ e.ay = y)
def atE (es : List Ent) (x y : Int) : Ent := (es.find? (standsB x y)).getD Ent.zero
def atB (es : List Ent) (x y : Int) : Bool := (es.find? (standsB x y)).isSome

theorem find_at {p : Ent → Bool} : ∀ (es : List Ent) (k : Nat) (e : Ent), (∀ (j : Nat) (f : Ent), j < k → es[j]? = some f → p f = false) → es[k]? = some e → p e = true → es.find? p = some e
  | [], _, _, _, h, _ => by simp at h
  | f :: es, 0, e, _, h, hp => by
    simp only [List.getElem?_cons_zero, Option.some.injEq] at h
    subst h
    simp [List.find?, hp]
  | f :: es, k + 1, e, hb, h, hp => by
    have hf := hb 0 f (by omega) rfl
    simp only [List.find?, hf]
    exact find_at es k e (fun j g hj hg => hb (j + 1) g (by omega) (by simpa using hg)) (by simpa using h) hp

theorem find_no {p : Ent → Bool} (es : List Ent) (h : ∀ (j : Nat) (f : Ent), es[j]? = some f → p f = false) : es.find? p = none := by
  rw [List.find?_eq_none]
  intro x hx
  obtain ⟨j, hj, rfl⟩ := List.mem_iff_getElem.1 hx
  simp [h j _ (List.getElem?_eq_getElem hj)]

/-- what a look at a cell leaves -/
def AtPost (es : List Ent) (x y : Int) (w : World) (r : Ending) (w' : World) : Prop :=
  r = .returned (.tuple #[.agg (atE es x y).cells.toArray, .bool (atB es x y)]) ∧ Below w.heap.size w w'
end Go.Proofs.Ytgnkehjjeoolcaa
