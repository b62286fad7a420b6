/- Decide: a match is decided, or why not. -/
import Derived.Test.YtpdanppnpgfkeaaOut
namespace Go.Proofs.Ytpdanppnpgfkeaa
open Go.RowKit Go.Maps

theorem MapI.wf {w : World} {b k : Nat} {f : Int → Int → Option Int} (h : MapI w b k f) {r p : Int} (hr : ok64 r) (hp : ok64 p) : ok64 ((f r p).getD 0) := by
  obtain ⟨D, h1, h2⟩ := h
  obtain ⟨v, ps, _, hv⟩ := h1.look_ok law62 Try.underlying55 (zero3 w) (plainElem_int Try.underlying3 (q := .i64) (a := 0) (by decide)) (key_spot hr hp)
  obtain ⟨c, rfl, hc, hw⟩ := plainElem_int_inv Try.underlying3 hv
  obtain ⟨_, e2⟩ := h2 r p hr hp
  rw [e2] at hc
  simp only [Prod.mk.injEq, DataW.lit.injEq, Lit.int.injEq, true_and] at hc
  rw [hc.1]
  exact hw

def updW (W : Nat → Nat → Int) (r q : Nat) (x : Int) : Nat → Nat → Int := fun r' q' => if r' = r ∧ q' = q then x else W r' q'
def updP (P : Nat → Nat → Bool) (r q : Nat) : Nat → Nat → Bool := fun r' q' => if r' = r ∧ q' = q then true else P r' q'

/-- the code of a decision on a match that is there -/
def decN (W : Nat → Nat → Int) (P : Nat → Nat → Bool) (r q : Nat) (c : Int) : Int :=
  if (decide (0 ≤ W r (2 * q)) && decide (0 ≤ W r (2 * q + 1))) = false then 3
  else if P r q = true then 7
  else if (c == -1) = true then 0
  else if (c != W r (2 * q) && c != W r (2 * q + 1)) = true then 2
  else 0
def winN (W : Nat → Nat → Int) (r q : Nat) (c : Int) : Int := if (c == -1) = true then min (W r (2 * q)) (W r (2 * q + 1)) else c

theorem go_both {w w' : World} {b : Nat} (h : w.grownBy w' (some b)) {j : Nat} (hj : j < w.heap.size) (hne : j ≠ b) : w'.heap[j]? = w.heap[j]? := h.block j hj (fun e => hne (Option.some.inj e))

section
variable {w : World} {B p n R : Nat} {W : Nat → Nat → Int} {P : Nat → Nat → Bool} {bm pm k : Nat}

theorem Br.wf (h : Br w B p n R W P bm pm k) (r q : Nat) (hr : r ≤ R) (hq : q < 2 ^ (R - r)) : ok64 (W r q) := by
  obtain ⟨f, hf, hf2⟩ := h.mi
  have hR := h.R4
  have h16 : q < 16 := Nat.lt_of_lt_of_le hq (pow4 (by omega))
  have := hf.wf (r := r) (p := q) (ok64_of (by omega)) (ok64_of (by omega))
  rw [← hf2 r q hr hq]
  cases hx : f r q with
  | none => exact ok64_of (by simp)
  | some x => rw [hx] at this; simpa using this

/-- the two stores of a decision, one behind the other -/
theorem Br.put (h : Br w B p n R W P bm pm k) (hk : k < 900) (r q : Nat) (hr : r < R) (hq : q < 2 ^ (R - r - 1)) (x : Int) (hx : ok64 x) :
    ∃ w1 w2, (Instr.mapUpdate 56 (.map (some pm)) (.agg #[.int .i64 r, .int .i64 q]) (.bool true)).run Try.prog w = .ok () w1 ∧ w1.cell? ⟨p, 2, none⟩ = some (.map (some bm)) ∧
      (Instr.mapUpdate 55 (.map (some bm)) (.agg #[.int .i64 ((r : Int) + 1), .int .i64 q]) (.int .i64 x)).run Try.prog w1 = .ok () w2 ∧
      Br w2 B p n R (updW W (r + 1) q x) (updP P r q) bm pm (k + 1) ∧ Below B w w2 ∧ ∀ j, j < w.heap.size → j ≠ bm → j ≠ pm → w2.heap[j]? = w.heap[j]? := by
  obtain ⟨f, hf, hf2⟩ := h.mi
  obtain ⟨g, hg, hg2⟩ := h.mb
  have hR := h.R4
  have h16 : q < 16 := Nat.lt_of_lt_of_le hq (pow4 (by omega))
  have r0 : ok64 (r : Int) := ok64_of (by omega)
  have r1 : ok64 ((r : Int) + 1) := ok64_of (by omega)
  have q0 : ok64 (q : Int) := ok64_of (by omega)
  obtain ⟨w1, run1, g1, gr1⟩ := hg.put (by omega) (x := true) r0 q0
  have hb1 := hf.block (go_both gr1 hf.lt h.ne)
  obtain ⟨w2, run2, f2, gr2⟩ := hb1.put (by omega) r1 q0 hx
  have hp := h.lt
  have cell1 : ∀ j, w1.cell? ⟨p, j, none⟩ = w.cell? ⟨p, j, none⟩ := fun j => World.cell?_of_block (go_both gr1 hp h.nq)
  have hp1 : p < w1.heap.size := Nat.lt_of_lt_of_le hp gr1.size
  have cell2 : ∀ j, w2.cell? ⟨p, j, none⟩ = w.cell? ⟨p, j, none⟩ := fun j => (World.cell?_of_block (go_both gr2 hp1 h.np)).trans (cell1 j)
  refine ⟨w1, w2, run1, (cell1 2).trans h.c2, run2, ⟨(cell2 0).trans h.c0, (cell2 1).trans h.c1, (cell2 2).trans h.c2, (cell2 3).trans h.c3, ⟨_, f2, fun r' q' hr' hq' => ?_⟩, ⟨_, g1.block (go_both gr2 (Nat.lt_of_lt_of_le hg.lt gr1.size) h.ne.symm), fun r' q' hr' hq' => ?_⟩,
    h.ne, h.np, h.nq, h.gp, h.gb, h.gq, Nat.le_trans h.sz (Nat.le_trans gr1.size gr2.size), h.R4⟩, ?_, fun j hj hb hp => (go_both gr2 (Nat.lt_of_lt_of_le hj gr1.size) hb).trans (go_both gr1 hj hp)⟩
  · unfold updW
    by_cases he : r' = r + 1 ∧ q' = q
    · obtain ⟨rfl, rfl⟩ := he
      have := upd_same f ((r : Int) + 1) q' (some x)
      rw [if_pos ⟨rfl, rfl⟩, show ((r + 1 : Nat) : Int) = (r : Int) + 1 by omega, this]
      rfl
    · rw [if_neg he, upd_other _ _ _ _ (by omega)]
      exact hf2 r' q' hr' hq'
  · unfold updP
    by_cases he : r' = r ∧ q' = q
    · obtain ⟨rfl, rfl⟩ := he
      rw [if_pos ⟨rfl, rfl⟩, upd_same]
    · rw [if_neg he, upd_other _ _ _ _ (by omega)]
      exact hg2 r' q' hr' hq'
  · exact ((Below.refl B w).grown gr1 h.sz (fun j hj => by simp only [Option.some.injEq] at hj; have := h.gq; omega)).grown gr2 (Nat.le_trans h.sz gr1.size) (fun j hj => by simp only [Option.some.injEq] at hj; have := h.gb; omega)
end
end Go.Proofs.Ytpdanppnpgfkeaa
