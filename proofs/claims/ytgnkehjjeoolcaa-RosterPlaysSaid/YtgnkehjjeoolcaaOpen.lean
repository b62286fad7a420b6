/- What comes in, opened: an entity by value; a slice of calls. -/
import Derived.Test.YtgnkehjjeoolcaaWords
import Derived.ProofKit
import Derived.Deep.Slices
namespace Go.Proofs.Ytgnkehjjeoolcaa
open Go.ChangeShapes Go.WideShapes Go.RowKit

theorem cells3 : Try.prog.cellsOf 3 = 1 := by kernel_rfl
theorem cells30 : Try.prog.cellsOf 30 = 2 := by kernel_rfl
theorem cells32 : Try.prog.cellsOf 32 = 11 := by kernel_rfl
theorem cells34 : Try.prog.cellsOf 34 = 13 := by kernel_rfl

section
variable {H : Type} {enc : TypeId × Value → H} {w : World} {base : Nat} {spare : Nat → Bool} {held : Bool}

theorem int_of {n : Nat} {c : Value} {xs : List (DataW H × List MemPlace)} {i : Nat} (hi : i < xs.length) (h : DataW.trod enc Try.prog w base spare held n 3 [c] = xs[i]?) : ∃ a : Int, c = .int .i64 a := by
  rw [List.getElem?_eq_getElem hi] at h
  obtain ⟨a, h1, _⟩ := DataW.trod_int Try.underlying3 h
  simp only [List.cons.injEq, and_true] at h1
  exact ⟨a, h1⟩

theorem cell_of {n : Nat} {c d : Value} {xs : List (DataW H × List MemPlace)} {i : Nat} (hi : i < xs.length) (h : DataW.trod enc Try.prog w base spare held n 30 [c, d] = xs[i]?) : ∃ a b : Int, c = .int .i64 a ∧ d = .int .i64 b := by
  rw [List.getElem?_eq_getElem hi] at h
  obtain ⟨ys, m, _, _, _, hl, hf⟩ := DataW.trod_struct Try.underlying30 h
  have h0 : DataW.trod enc Try.prog w base spare held m 3 (List.take (Try.prog.cellsOf 3) (List.drop 0 [c, d])) = ys[0]? := hf 0 _ rfl
  have h1 : DataW.trod enc Try.prog w base spare held m 3 (List.take (Try.prog.cellsOf 3) (List.drop 1 [c, d])) = ys[1]? := hf 1 _ rfl
  rw [cells3] at h0 h1
  obtain ⟨a, ha⟩ := int_of (by rw [hl]; decide) h0
  obtain ⟨b, hb⟩ := int_of (by rw [hl]; decide) h1
  exact ⟨a, b, ha, hb⟩

theorem ent_of {n : Nat} {cs : List Value} {x : DataW H × List MemPlace} (h : DataW.trod enc Try.prog w base spare held n 32 cs = some x) : ∃ e : Ent, cs = e.cells := by
  obtain ⟨xs, m, _, _, hlen, hl, hf⟩ := DataW.trod_struct Try.underlying32 h
  rw [cells32] at hlen
  match cs, hlen with
  | [c0, c1, c2, c3, c4, c5, c6, c7, c8, c9, c10], _ =>
    have hl9 : xs.length = 9 := by rw [hl]; rfl
    have g0 : DataW.trod enc Try.prog w base spare held m 3 (List.take (Try.prog.cellsOf 3) (List.drop 0 [c0, c1, c2, c3, c4, c5, c6, c7, c8, c9, c10])) = xs[0]? := hf 0 _ rfl
    have g1 : DataW.trod enc Try.prog w base spare held m 3 (List.take (Try.prog.cellsOf 3) (List.drop 1 [c0, c1, c2, c3, c4, c5, c6, c7, c8, c9, c10])) = xs[1]? := hf 1 _ rfl
    have g2 : DataW.trod enc Try.prog w base spare held m 3 (List.take (Try.prog.cellsOf 3) (List.drop 2 [c0, c1, c2, c3, c4, c5, c6, c7, c8, c9, c10])) = xs[2]? := hf 2 _ rfl
    have g3 : DataW.trod enc Try.prog w base spare held m 30 (List.take (Try.prog.cellsOf 30) (List.drop 3 [c0, c1, c2, c3, c4, c5, c6, c7, c8, c9, c10])) = xs[3]? := hf 3 _ rfl
    have g4 : DataW.trod enc Try.prog w base spare held m 3 (List.take (Try.prog.cellsOf 3) (List.drop 5 [c0, c1, c2, c3, c4, c5, c6, c7, c8, c9, c10])) = xs[4]? := hf 4 _ rfl
    have g5 : DataW.trod enc Try.prog w base spare held m 3 (List.take (Try.prog.cellsOf 3) (List.drop 6 [c0, c1, c2, c3, c4, c5, c6, c7, c8, c9, c10])) = xs[5]? := hf 5 _ rfl
    have g6 : DataW.trod enc Try.prog w base spare held m 30 (List.take (Try.prog.cellsOf 30) (List.drop 7 [c0, c1, c2, c3, c4, c5, c6, c7, c8, c9, c10])) = xs[6]? := hf 6 _ rfl
    have g7 : DataW.trod enc Try.prog w base spare held m 3 (List.take (Try.prog.cellsOf 3) (List.drop 9 [c0, c1, c2, c3, c4, c5, c6, c7, c8, c9, c10])) = xs[7]? := hf 7 _ rfl
    have g8 : DataW.trod enc Try.prog w base spare held m 3 (List.take (Try.prog.cellsOf 3) (List.drop 10 [c0, c1, c2, c3, c4, c5, c6, c7, c8, c9, c10])) = xs[8]? := hf 8 _ rfl
    rw [cells3] at g0 g1 g2 g4 g5 g7 g8
    rw [cells30] at g3 g6
    obtain ⟨a0, rfl⟩ := int_of (by omega) g0
    obtain ⟨a1, rfl⟩ := int_of (by omega) g1
    obtain ⟨a2, rfl⟩ := int_of (by omega) g2
    obtain ⟨a3, a4, rfl, rfl⟩ := cell_of (by omega) g3
    obtain ⟨a5, rfl⟩ := int_of (by omega) g4
    obtain ⟨a6, rfl⟩ := int_of (by omega) g5
    obtain ⟨a7, a8, rfl, rfl⟩ := cell_of (by omega) g6
    obtain ⟨a9, rfl⟩ := int_of (by omega) g7
    obtain ⟨a10, rfl⟩ := int_of (by omega) g8
    exact ⟨⟨a0, a1, a2, a3, a4, a5, a6, a7, a8, a9, a10⟩, rfl⟩

/-- an entity by value -/
theorem open_ent {r : Reach} {b0 : Nat} {v : Value} {d : DataW H} {p : List MemPlace} (hv : Value.okWide Try.prog w r b0 32 v) (h : DataW.Trod enc Try.prog w base spare held 32 v d p) : ∃ e : Ent, v = .agg e.cells.toArray := by
  obtain ⟨cs, rfl, _⟩ := okWide_struct Try.underlying32 hv
  obtain ⟨fuel, hf⟩ := h
  obtain ⟨e, he⟩ := ent_of hf
  refine ⟨e, ?_⟩
  rw [← he]
  simp [Value.cells]

/-- the cells of a call -/
structure OpR where
  kind : Int
  id : Int
  e : Ent
def OpR.cells (o : OpR) : List Value := [.int .i64 o.kind, .int .i64 o.id] ++ o.e.cells

theorem op_of {n : Nat} {cs : List Value} {x : DataW H × List MemPlace} (h : DataW.trod enc Try.prog w base spare held n 34 cs = some x) : ∃ o : OpR, cs = o.cells := by
  obtain ⟨xs, m, _, _, hlen, hl, hf⟩ := DataW.trod_struct Try.underlying34 h
  rw [cells34] at hlen
  match cs, hlen with
  | [c0, c1, c2, c3, c4, c5, c6, c7, c8, c9, c10, c11, c12], _ =>
    have hl3 : xs.length = 3 := by rw [hl]; rfl
    have g0 : DataW.trod enc Try.prog w base spare held m 3 (List.take (Try.prog.cellsOf 3) (List.drop 0 [c0, c1, c2, c3, c4, c5, c6, c7, c8, c9, c10, c11, c12])) = xs[0]? := hf 0 _ rfl
    have g1 : DataW.trod enc Try.prog w base spare held m 3 (List.take (Try.prog.cellsOf 3) (List.drop 1 [c0, c1, c2, c3, c4, c5, c6, c7, c8, c9, c10, c11, c12])) = xs[1]? := hf 1 _ rfl
    have g2 : DataW.trod enc Try.prog w base spare held m 32 (List.take (Try.prog.cellsOf 32) (List.drop 2 [c0, c1, c2, c3, c4, c5, c6, c7, c8, c9, c10, c11, c12])) = xs[2]? := hf 2 _ rfl
    rw [cells3] at g0 g1
    rw [cells32] at g2
    obtain ⟨a0, rfl⟩ := int_of (by omega) g0
    obtain ⟨a1, rfl⟩ := int_of (by omega) g1
    rw [List.getElem?_eq_getElem (by omega)] at g2
    obtain ⟨e, he⟩ := ent_of g2
    refine ⟨⟨a0, a1, e⟩, ?_⟩
    rw [OpR.cells, ← he]
    rfl

/-- a slice of calls -/
theorem open_ops {r : Reach} {b0 : Nat} {v : Value} {d : DataW H} {p : List MemPlace} (hv : Value.okWide Try.prog w r b0 22 v) (h : DataW.Trod enc Try.prog w base (fun _ => true) held 22 v d p) :
    ∃ (a : Option Addr) (len cap : Nat), v = .slice a len cap ∧ len ≤ maxLen ∧ ∀ k, k < len → ∃ (b off : Nat) (o : OpR), a = some ⟨b, off, none⟩ ∧ b < w.heap.size ∧ w.rangeAt b (off + k * 13) o.cells := by
  obtain ⟨a, len, cap, rfl⟩ := okWide_slice Try.underlying22 hv
  obtain ⟨fuel, hf⟩ := h
  refine ⟨a, len, cap, rfl, ?_⟩
  rcases Deep.open_slice Try.underlying22 hf with ⟨hcs, _⟩ | ⟨x, l, c, m, n, D, Pl, hcs, hb, hlc, hcm, hm, hx, hi⟩
  · simp [Value.cells] at hcs
    obtain ⟨rfl, rfl, rfl⟩ := hcs
    exact ⟨Nat.zero_le _, fun k hk => by omega⟩
  · simp [Value.cells] at hcs
    obtain ⟨rfl, rfl, rfl⟩ := hcs
    refine ⟨by omega, fun k hk => ?_⟩
    have hall : ∀ k, k < len → ∃ o : OpR, ∀ j, j < 13 → w.cell? ((Addr.add x (k * 13)).add j) = o.cells[j]? := by
      intro k hk
      obtain ⟨cs', h1, h2⟩ := hi k (by rw [hm]; simp; omega)
      obtain ⟨o, rfl⟩ := op_of h2
      rw [cells34] at h1
      obtain ⟨_, hcl, hat⟩ := World.cells?_some h1
      exact ⟨o, hat⟩
    obtain ⟨b, off, spot⟩ := x
    have hsp : spot = none := by
      obtain ⟨o, h⟩ := hall 0 (by omega)
      have h0 : w.cell? ((Addr.add ⟨b, off, spot⟩ (0 * 13)).add 0) = some _ := h 0 (by omega)
      have := World.cell?_spot h0
      simpa [Addr.add] using this
    subst hsp
    obtain ⟨o, hat⟩ := hall k hk
    refine ⟨b, off, o, rfl, ?_, ?_⟩
    · have h0 : w.cell? ((Addr.add ⟨b, off, none⟩ (k * 13)).add 0) = some _ := hat 0 (by omega)
      rw [Addr.add_mid, Addr.add_mid] at h0
      exact World.block_lt_of_cell? w _ h0
    · intro i c hi2
      have hlt : i < 13 := by
        have := (List.getElem?_eq_some_iff.1 hi2).1
        exact this
      have := hat i hlt
      rw [Addr.add_mid, Addr.add_mid] at this
      rw [this, hi2]
end
end Go.Proofs.Ytgnkehjjeoolcaa
