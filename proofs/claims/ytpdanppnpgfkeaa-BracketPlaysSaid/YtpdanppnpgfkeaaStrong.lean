/- BracketStrong, in plain Lean: the matches that are decided, one behind the other, if the stronger one always wins. -/
import Derived.Test.YtpdanppnpgfkeaaNilWalk
namespace Go.Proofs.Ytpdanppnpgfkeaa
open Go.RowKit Go.Maps

theorem mem_openL {W : Nat → Nat → Int} {P : Nat → Nat → Bool} {R : Nat} {m : Mt} (h : m ∈ openL W P R) :
    ∃ r q : Nat, r < R ∧ q < 2 ^ (R - r - 1) ∧ m = ⟨r, q, W r (2 * q), W r (2 * q + 1)⟩ ∧ 0 ≤ W r (2 * q) ∧ 0 ≤ W r (2 * q + 1) ∧ P r q = false := by
  unfold openL openUpto at h
  obtain ⟨r, hr, h⟩ := List.mem_flatMap.1 h
  unfold openRow at h
  obtain ⟨q, hq, h⟩ := List.mem_flatMap.1 h
  unfold openAt at h
  split at h
  · rename_i hc
    simp at hr hq h hc
    exact ⟨r, q, hr, hq, h, hc.1.1, hc.1.2, hc.2⟩
  · simp at h

/-- the matches of a bracket of n, in the order in which they are decided: round, place, the stronger one -/
def lits : Nat → List (Nat × Nat × Int)
  | 2 => [(0, 0, 0)]
  | 3 => [(0, 1, 1), (1, 0, 0)]
  | 4 => [(0, 0, 0), (0, 1, 1), (1, 0, 0)]
  | 5 => [(0, 1, 3), (1, 0, 0), (1, 1, 1), (2, 0, 0)]
  | 6 => [(0, 1, 3), (0, 3, 2), (1, 0, 0), (1, 1, 1), (2, 0, 0)]
  | 7 => [(0, 1, 3), (0, 2, 1), (0, 3, 2), (1, 0, 0), (1, 1, 1), (2, 0, 0)]
  | 8 => [(0, 0, 0), (0, 1, 3), (0, 2, 1), (0, 3, 2), (1, 0, 0), (1, 1, 1), (2, 0, 0)]
  | 9 => [(0, 1, 7), (1, 0, 0), (1, 1, 3), (1, 2, 1), (1, 3, 2), (2, 0, 0), (2, 1, 1), (3, 0, 0)]
  | 10 => [(0, 1, 7), (0, 5, 6), (1, 0, 0), (1, 1, 3), (1, 2, 1), (1, 3, 2), (2, 0, 0), (2, 1, 1), (3, 0, 0)]
  | 11 => [(0, 1, 7), (0, 5, 6), (0, 7, 5), (1, 0, 0), (1, 1, 3), (1, 2, 1), (1, 3, 2), (2, 0, 0), (2, 1, 1), (3, 0, 0)]
  | 12 => [(0, 1, 7), (0, 3, 4), (0, 5, 6), (0, 7, 5), (1, 0, 0), (1, 1, 3), (1, 2, 1), (1, 3, 2), (2, 0, 0), (2, 1, 1), (3, 0, 0)]
  | 13 => [(0, 1, 7), (0, 2, 3), (0, 3, 4), (0, 5, 6), (0, 7, 5), (1, 0, 0), (1, 1, 3), (1, 2, 1), (1, 3, 2), (2, 0, 0), (2, 1, 1), (3, 0, 0)]
  | 14 => [(0, 1, 7), (0, 2, 3), (0, 3, 4), (0, 5, 6), (0, 6, 2), (0, 7, 5), (1, 0, 0), (1, 1, 3), (1, 2, 1), (1, 3, 2), (2, 0, 0), (2, 1, 1), (3, 0, 0)]
  | 15 => [(0, 1, 7), (0, 2, 3), (0, 3, 4), (0, 4, 1), (0, 5, 6), (0, 6, 2), (0, 7, 5), (1, 0, 0), (1, 1, 3), (1, 2, 1), (1, 3, 2), (2, 0, 0), (2, 1, 1), (3, 0, 0)]
  | 16 => [(0, 0, 0), (0, 1, 7), (0, 2, 3), (0, 3, 4), (0, 4, 1), (0, 5, 6), (0, 6, 2), (0, 7, 5), (1, 0, 0), (1, 1, 3), (1, 2, 1), (1, 3, 2), (2, 0, 0), (2, 1, 1), (3, 0, 0)]
  | _ => []

def stW (n i : Nat) : Nat → Nat → Int := ((lits n).take i).foldl (fun W t => updW W (t.1 + 1) t.2.1 t.2.2) (W0 n (Rn n))
def stP (n i : Nat) : Nat → Nat → Bool := ((lits n).take i).foldl (fun P t => updP P t.1 t.2.1) noP

theorem st_succ {n i r q : Nat} {x : Int} (h : (lits n)[i]? = some (r, q, x)) : stW n (i + 1) = updW (stW n i) (r + 1) q x ∧ stP n (i + 1) = updP (stP n i) r q := by
  have hi : i < (lits n).length := (List.getElem?_eq_some_iff.1 h).1
  have hg : (lits n)[i] = (r, q, x) := (List.getElem?_eq_some_iff.1 h).2
  unfold stW stP
  rw [List.take_succ_eq_append_getElem hi, List.foldl_append, List.foldl_append, hg]
  exact ⟨rfl, rfl⟩

/-- the first open match is the one of the list -/
def chk (n i : Nat) : Bool :=
  match (lits n)[i]?, openL (stW n i) (stP n i) (Rn n) with
  | some (r, q, x), m :: _ => m.r == r && m.q == q && min m.x m.y == x && (i != n - 2 || (x == 0 && max m.x m.y == 1))
  | _, _ => false

def spots (R : Nat) : List (Nat × Nat) := (List.range R).flatMap fun r => (List.range (2 ^ (R - r - 1))).map fun q => (r, q)

/-- who lost where, in the end -/
def fin1 (n a : Nat) : Bool :=
  let h := (spots (Rn n)).filter (fun s => hit (stW n (n - 1)) (stP n (n - 1)) a s.1 s.2)
  let h' := (spots (Rn n)).filter (fun s => hit (stW n (n - 1)) (stP n (n - 1)) ((a : Int) - 1) s.1 s.2)
  !h.isEmpty && !h'.isEmpty && h.all (fun s => h'.all (fun t => decide (s.1 ≤ t.1)))

theorem all_chk : (List.range 15).all (fun d => (List.range (d + 1)).all (fun i => chk (d + 2) i)) = true := by kernel_rfl
theorem all_fin : (List.range 15).all (fun d => (stW (d + 2) (d + 1)) (Rn (d + 2)) 0 == 0) = true := by kernel_rfl
theorem all_fin1 : (List.range 15).all (fun d => (List.range d).all (fun j => fin1 (d + 2) (j + 2))) = true := by kernel_rfl
end Go.Proofs.Ytpdanppnpgfkeaa
