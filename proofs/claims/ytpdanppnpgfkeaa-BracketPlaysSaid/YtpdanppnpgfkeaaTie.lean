/- What the document's list of decisions says of a bracket (plain Lean), and the document's bracket in memory. -/
import Derived.Test.YtpdanppnpgfkeaaCnt
import Derived.Test.YtpdanppnpgfkeaaRef
namespace Go.Proofs.Ytpdanppnpgfkeaa
open Go.RowKit Go.Maps

/-- a decision: round, place, winner -/
structure Dd where
  r : Nat
  q : Nat
  x : Int
def Dd.cells (d : Dd) : List Value := [.int .i64 d.r, .int .i64 d.q, .int .i64 d.x]
def ddCells (l : List Dd) : List Value := l.flatMap Dd.cells

theorem ddCells_len (l : List Dd) : (ddCells l).length = l.length * 3 := by
  induction l with
  | nil => rfl
  | cons m l ih => simp [ddCells] at ih ⊢; rw [ih]; simp [Dd.cells]; omega
theorem ddCells_snoc (l : List Dd) (m : Dd) : ddCells (l ++ [m]) = ddCells l ++ m.cells := by simp [ddCells]

/-- the list of decisions is what was played -/
structure Tie (R : Nat) (W : Nat → Nat → Int) (P : Nat → Nat → Bool) (L : List Dd) : Prop where
  mem : ∀ d ∈ L, d.r < R ∧ d.q < 2 ^ (R - d.r - 1) ∧ P d.r d.q = true ∧ d.x = W (d.r + 1) d.q
  all : ∀ r q, r < R → q < 2 ^ (R - r - 1) → P r q = true → ∃ d ∈ L, d.r = r ∧ d.q = q

theorem Tie.start (R : Nat) (W : Nat → Nat → Int) : Tie R W noP [] := ⟨(fun d h => by cases h), (fun r q _ _ h => by simp [noP] at h)⟩

theorem Tie.step {R : Nat} {W : Nat → Nat → Int} {P : Nat → Nat → Bool} {L : List Dd} (h : Tie R W P L) {r q : Nat} (hr : r < R) (hq : q < 2 ^ (R - r - 1)) (hp : P r q = false) (c : Int) :
    Tie R (updW W (r + 1) q c) (updP P r q) (L ++ [⟨r, q, c⟩]) := by
  refine ⟨fun d hd => ?_, fun r' q' hr' hq' hp' => ?_⟩
  · rcases List.mem_append.1 hd with hd | hd
    · obtain ⟨a, b, e, f⟩ := h.mem d hd
      have hne : ¬ (d.r = r ∧ d.q = q) := by rintro ⟨h1, h2⟩; rw [h1, h2, hp] at e; cases e
      refine ⟨a, b, ?_, ?_⟩
      · unfold updP; rw [if_neg hne]; exact e
      · unfold updW; rw [if_neg (by omega)]; exact f
    · simp at hd
      subst hd
      refine ⟨hr, hq, ?_, ?_⟩
      · unfold updP; rw [if_pos ⟨rfl, rfl⟩]
      · unfold updW; rw [if_pos ⟨rfl, rfl⟩]
  · by_cases he : r' = r ∧ q' = q
    · exact ⟨⟨r, q, c⟩, by simp, he.1.symm, he.2.symm⟩
    · unfold updP at hp'
      rw [if_neg he] at hp'
      obtain ⟨d, hd, h1, h2⟩ := h.all r' q' hr' hq' hp'
      exact ⟨d, List.mem_append_left _ hd, h1, h2⟩

section
variable {n R : Nat} {W : Nat → Nat → Int} {P : Nat → Nat → Bool}

theorem Inv.not_nobody (h : Inv n R W P) (hpr : Pairs n R) {r q : Nat} (hr : r < R) (hq : q < 2 ^ (R - r - 1)) : W (r + 1) q ≠ -1 := by
  cases hp : P r q with
  | true =>
    obtain ⟨a1, a2, a3⟩ := h.i1 r q hr hq hp
    omega
  | false =>
    rw [h.i2 r q hr hq hp]
    split
    · rename_i h0
      subst h0
      unfold bye
      rcases hpr q (by simpa using hq) with h1 | h1
      · rw [if_neg (by simp; omega)]
        split
        · omega
        · omega
      · split
        · omega
        · split
          · rename_i h2 _; simp at h2; exact h2
          · omega
    · omega

/-- what stands behind a match, in the document's words -/
theorem Inv.next (h : Inv n R W P) (hpr : Pairs n R) {r q : Nat} (hr : r < R) (hq : q < 2 ^ (R - r - 1)) :
    (W r (2 * q) = -1 → W (r + 1) q = W r (2 * q + 1)) ∧ (W r (2 * q) ≠ -1 → W r (2 * q + 1) = -1 → W (r + 1) q = W r (2 * q)) ∧ (W r (2 * q) ≠ -1 → W r (2 * q + 1) ≠ -1 → P r q = false → W (r + 1) q = -2) := by
  obtain ⟨l1, l2⟩ := two_lt hr hq
  have zero : W r (2 * q) = -1 ∨ W r (2 * q + 1) = -1 → r = 0 := by
    intro hx
    cases r with
    | zero => rfl
    | succ r =>
      have e : R - (r + 1) = R - r - 1 := by omega
      rw [e] at l1 l2
      rcases hx with hx | hx
      · exact absurd hx (h.not_nobody hpr (by omega) l1)
      · exact absurd hx (h.not_nobody hpr (by omega) l2)
  have nop : W r (2 * q) = -1 ∨ W r (2 * q + 1) = -1 → P r q = false := by
    intro hx
    cases hp : P r q with
    | false => rfl
    | true => obtain ⟨a1, a2, _⟩ := h.i1 r q hr hq hp; omega
  refine ⟨fun hx => ?_, fun hx hy => ?_, fun hx hy hp => ?_⟩
  · have h0 := zero (.inl hx)
    have hp := nop (.inl hx)
    subst h0
    rw [h.i2 0 q hr hq hp, if_pos rfl]
    rw [h.i0 _ (by simpa using l1)] at hx
    rw [h.i0 _ (by simpa using l2)]
    unfold bye
    rw [if_pos (by simp [hx])]
  · have h0 := zero (.inr hy)
    have hp := nop (.inr hy)
    subst h0
    rw [h.i2 0 q hr hq hp, if_pos rfl]
    rw [h.i0 _ (by simpa using l1)] at hx ⊢
    rw [h.i0 _ (by simpa using l2)] at hy
    unfold bye
    rw [if_neg (by simpa using hx), if_pos (by simp [hy])]
  · rw [h.i2 r q hr hq hp]
    split
    · rename_i h0
      subst h0
      rw [h.i0 _ (by simpa using l1)] at hx
      rw [h.i0 _ (by simpa using l2)] at hy
      unfold bye
      rw [if_neg (by simpa using hx), if_neg (by simpa using hy)]
    · rfl
end

/-- THE DOCUMENT's BRACKET IN MEMORY -/
structure Rb (w : World) (B p n : Nat) (v : Value) (L : List Dd) : Prop where
  c0 : w.cell? ⟨p, 0, none⟩ = some (.int .i64 n)
  c1 : w.cell? ⟨p, 1, none⟩ = some v
  f1 : w.frozen? ⟨p, 1, none⟩ = false
  own : w.ownsRow (p + 1) 71 3 v L.length (ddCells L)
  ge : B ≤ p
  sz : B ≤ w.heap.size

theorem Rb.lt {w : World} {B p n : Nat} {v : Value} {L : List Dd} (h : Rb w B p n v L) : p < w.heap.size := World.block_lt_of_cell? w _ h.c0
theorem Rb.keep {w w' : World} {B p n : Nat} {v : Value} {L : List Dd} (h : Rb w B p n v L) (hb : Below w.heap.size w w') : Rb w' B p n v L :=
  ⟨(hb.cell h.lt).trans h.c0, (hb.cell h.lt).trans h.c1, (hb.frozen (p := ⟨p, 1, none⟩) h.lt).trans h.f1, World.ownsRow.below h.own hb, h.ge, Nat.le_trans h.sz hb.size⟩
end Go.Proofs.Ytpdanppnpgfkeaa
