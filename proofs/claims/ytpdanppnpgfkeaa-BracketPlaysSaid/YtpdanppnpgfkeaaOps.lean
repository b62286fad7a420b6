/- What comes in, opened: a slice of calls of five numbers each. -/
import Derived.Test.YtpdanppnpgfkeaaPair
import Derived.ProofKit
import Derived.Deep.Slices
namespace Go.Proofs.Ytpdanppnpgfkeaa
open Go.ChangeShapes Go.WideShapes Go.RowKit

theorem cells44 : Try.prog.cellsOf 44 = 5 := by kernel_rfl

/-- a call's five numbers -/
structure Cl where
  o1 : Int
  o2 : Int
  o3 : Int
  o4 : Int
  o5 : Int
def Cl.cells (o : Cl) : List Value := [.int .i64 o.o1, .int .i64 o.o2, .int .i64 o.o3, .int .i64 o.o4, .int .i64 o.o5]

/-- a slice of calls, opened -/
def IsOps (w : World) (a : Option Addr) (len : Nat) : Prop := ∀ k, k < len → ∃ (b off : Nat) (o : Cl), a = some ⟨b, off, none⟩ ∧ b < w.heap.size ∧ w.rangeAt b (off + k * 5) o.cells ∧ (Lit.int .i64 o.o1).wf = true

theorem op5 {w : World} {b off k : Nat} {o : Cl} (h : w.rangeAt b (off + k * 5) o.cells) : w.cell? ⟨b, off + k * 5, none⟩ = some (.int .i64 o.o1) ∧ w.cell? ⟨b, off + k * 5 + 1, none⟩ = some (.int .i64 o.o2) ∧ w.cell? ⟨b, off + k * 5 + 2, none⟩ = some (.int .i64 o.o3) ∧ w.cell? ⟨b, off + k * 5 + 3, none⟩ = some (.int .i64 o.o4) ∧ w.cell? ⟨b, off + k * 5 + 4, none⟩ = some (.int .i64 o.o5) :=
  ⟨h 0 _ rfl, h 1 _ rfl, h 2 _ rfl, h 3 _ rfl, h 4 _ rfl⟩

theorem range_below {w w' : World} {B b o : Nat} {cs : List Value} (hb : Below B w w') (h : w.rangeAt b o cs) (hlt : b < B) : w'.rangeAt b o cs := fun j u hj => (hb.cell (p := ⟨b, o + j, none⟩) hlt).trans (h j u hj)

section
variable {H : Type} {enc : TypeId × Value → H} {w : World} {base : Nat} {spare : Nat → Bool} {held : Bool}

theorem int_of {n : Nat} {c : Value} {xs : List (DataW H × List MemPlace)} {i : Nat} (hi : i < xs.length) (h : DataW.trod enc Try.prog w base spare held n 3 [c] = xs[i]?) : ∃ a : Int, c = .int .i64 a ∧ (Lit.int .i64 a).wf = true := by
  rw [List.getElem?_eq_getElem hi] at h
  obtain ⟨a, h1, _, h3⟩ := DataW.trod_int Try.underlying3 h
  simp only [List.cons.injEq, and_true] at h1
  exact ⟨a, h1, h3⟩

theorem op_of {n : Nat} {cs : List Value} {x : DataW H × List MemPlace} (h : DataW.trod enc Try.prog w base spare held n 44 cs = some x) : ∃ o : Cl, cs = o.cells ∧ (Lit.int .i64 o.o1).wf = true := by
  obtain ⟨xs, m, _, _, hlen, hl, hf⟩ := DataW.trod_struct Try.underlying44 h
  rw [cells44] at hlen
  match cs, hlen with
  | [c0, c1, c2, c3, c4], _ =>
    have hl5 : xs.length = 5 := by rw [hl]; rfl
    have g0 : DataW.trod enc Try.prog w base spare held m 3 (List.take (Try.prog.cellsOf 3) (List.drop 0 [c0, c1, c2, c3, c4])) = xs[0]? := hf 0 _ rfl
    have g1 : DataW.trod enc Try.prog w base spare held m 3 (List.take (Try.prog.cellsOf 3) (List.drop 1 [c0, c1, c2, c3, c4])) = xs[1]? := hf 1 _ rfl
    have g2 : DataW.trod enc Try.prog w base spare held m 3 (List.take (Try.prog.cellsOf 3) (List.drop 2 [c0, c1, c2, c3, c4])) = xs[2]? := hf 2 _ rfl
    have g3 : DataW.trod enc Try.prog w base spare held m 3 (List.take (Try.prog.cellsOf 3) (List.drop 3 [c0, c1, c2, c3, c4])) = xs[3]? := hf 3 _ rfl
    have g4 : DataW.trod enc Try.prog w base spare held m 3 (List.take (Try.prog.cellsOf 3) (List.drop 4 [c0, c1, c2, c3, c4])) = xs[4]? := hf 4 _ rfl
    rw [cells3] at g0 g1 g2 g3 g4
    obtain ⟨a0, rfl, h0⟩ := int_of (by omega) g0
    obtain ⟨a1, rfl, _⟩ := int_of (by omega) g1
    obtain ⟨a2, rfl, _⟩ := int_of (by omega) g2
    obtain ⟨a3, rfl, _⟩ := int_of (by omega) g3
    obtain ⟨a4, rfl, _⟩ := int_of (by omega) g4
    exact ⟨⟨a0, a1, a2, a3, a4⟩, rfl, h0⟩

/-- a slice of calls -/
theorem open_ops {r : Reach} {b0 : Nat} {v : Value} {d : DataW H} {p : List MemPlace} (hv : Value.okWide Try.prog w r b0 22 v) (h : DataW.Trod enc Try.prog w base (fun _ => true) held 22 v d p) :
    ∃ (a : Option Addr) (len cap : Nat), v = .slice a len cap ∧ IsOps w a len := by
  obtain ⟨a, len, cap, rfl⟩ := okWide_slice Try.underlying22 hv
  obtain ⟨fuel, hf⟩ := h
  refine ⟨a, len, cap, rfl, ?_⟩
  rcases Deep.open_slice Try.underlying22 hf with ⟨hcs, _⟩ | ⟨x, l, c, m, n, D, Pl, hcs, hb, hlc, hcm, hm, hx, hi⟩
  · simp [Value.cells] at hcs
    obtain ⟨rfl, rfl, rfl⟩ := hcs
    exact fun k hk => by omega
  · simp [Value.cells] at hcs
    obtain ⟨rfl, rfl, rfl⟩ := hcs
    intro k hk
    have hall : ∀ k, k < len → ∃ o : Cl, (∀ j, j < 5 → w.cell? ((Addr.add x (k * 5)).add j) = o.cells[j]?) ∧ (Lit.int .i64 o.o1).wf = true := by
      intro k hk
      obtain ⟨cs', h1, h2⟩ := hi k (by rw [hm]; simp; omega)
      obtain ⟨o, rfl, hw⟩ := op_of h2
      rw [cells44] at h1
      obtain ⟨_, hcl, hat⟩ := World.cells?_some h1
      exact ⟨o, hat, hw⟩
    obtain ⟨b, off, spot⟩ := x
    have hsp : spot = none := by
      obtain ⟨o, h, _⟩ := hall 0 (by omega)
      have h0 : w.cell? ((Addr.add ⟨b, off, spot⟩ (0 * 5)).add 0) = some _ := h 0 (by omega)
      have := World.cell?_spot h0
      simpa [Addr.add] using this
    subst hsp
    obtain ⟨o, hat, hw⟩ := hall k hk
    refine ⟨b, off, o, rfl, ?_, ?_, hw⟩
    · have h0 : w.cell? ((Addr.add ⟨b, off, none⟩ (k * 5)).add 0) = some _ := hat 0 (by omega)
      rw [Addr.add_mid, Addr.add_mid] at h0
      exact World.block_lt_of_cell? w _ h0
    · intro i c hi2
      have hlt : i < 5 := by
        have := (List.getElem?_eq_some_iff.1 hi2).1
        exact this
      have := hat i hlt
      rw [Addr.add_mid, Addr.add_mid] at this
      rw [this, hi2]
end
end Go.Proofs.Ytpdanppnpgfkeaa
