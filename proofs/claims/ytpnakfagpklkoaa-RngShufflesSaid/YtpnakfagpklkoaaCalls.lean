/- The contracts of the functions of chapter 4: New, Next, Seed, Mix and the document's Next, Mix. -/
import Derived.Test.YtpnakfagpklkoaaRows
import Derived.Test.YtpnakfagpklkoaaFns
import Derived.WalkKit
import Derived.WalkSpells
import Derived.WalkLawsBesides
import Derived.Lib.Hide
namespace Go.Proofs.Ytpnakfagpklkoaa
open Go.RowKit

theorem ret_int {k : IntKind} {a b : Int} (h : a = b) : Ending.returned (.int k a) = .returned (.int k b) := by rw [h]

theorem ret_bool {a b : Bool} (h : a = b) : Ending.returned (.bool a) = .returned (.bool b) := by rw [h]

set_option maxHeartbeats 400000 in
theorem new_any (s : Int) (w : World) :
    Calls Try.prog 11 #[.int .u64 s] w fun e w' => e = .returned (.pointer (some ⟨w.heap.size, 0, none⟩)) ∧ w' = w.alloc (.cells #[.int .u64 s] 41) := by
  go_enter Try.func11, Try.ntmps11
  go_wp2
  go_ret
  exact ⟨rfl, rfl⟩

set_option maxHeartbeats 400000 in
theorem next_any (s : Int) (a : Addr) (w : World) (hc : w.cell? a = some (.int .u64 s)) (hf : w.frozen? a = false) :
    Calls Try.prog 13 #[.pointer (some a)] w fun e w' => e = .returned (.int .u64 (mixv (gam s))) ∧ w' = w.setCell a (.int .u64 (gam s)) := by
  go_enter Try.func13, Try.ntmps13
  go_wp2
  go_ret
  exact ⟨rfl, rfl⟩

set_option maxHeartbeats 400000 in
theorem next_nil (w : World) :
    Calls Try.prog 13 #[.pointer none] w fun e w' => e = .returned (.int .u64 0) ∧ w' = w := by
  go_enter Try.func13, Try.ntmps13
  go_wp2
  go_ret
  exact ⟨rfl, rfl⟩

set_option maxHeartbeats 400000 in
theorem seed_any (s : Int) (a : Addr) (w : World) (hc : w.cell? a = some (.int .u64 s)) :
    Calls Try.prog 14 #[.pointer (some a)] w fun e w' => e = .returned (.int .u64 s) ∧ w = w' := by
  go_enter Try.func14, Try.ntmps14
  go_wp2
  go_ret
  exact ⟨rfl, rfl⟩

set_option maxHeartbeats 400000 in
theorem seed_nil (w : World) :
    Calls Try.prog 14 #[.pointer none] w fun e w' => e = .returned (.int .u64 0) ∧ w = w' := by
  go_enter Try.func14, Try.ntmps14
  go_wp2
  go_ret
  exact ⟨rfl, rfl⟩

set_option maxHeartbeats 400000 in
theorem rnext_raw (s : Int) (w : World) :
    Calls Try.prog 12 #[.int .u64 s] w fun e w' => e = .returned (.tuple #[.int .u64 (mixr (gam s)), .int .u64 (gam s)]) ∧ w = w' := by
  go_enter Try.func12, Try.ntmps12
  go_wp2
  go_ret2
  exact ⟨rfl, rfl⟩

theorem rnext_any (s : Int) (w : World) :
    Calls Try.prog 12 #[.int .u64 s] w fun e w' => e = .returned (.tuple #[.int .u64 (mixv (gam s)), .int .u64 (gam s)]) ∧ w = w' :=
  (rnext_raw s w).mono fun _ _ h => by rw [mixr_eq _ (gam_rng s)] at h; exact h

theorem cell_new1 (w : World) (v : Value) (T : TypeId) (n : Nat) (h : n = w.heap.size) : (w.alloc (.cells #[v] T)).cell? ⟨n, 0, none⟩ = some v := by
  exact World.cell?_alloc_at _ _ _ _ h
theorem froz_new1 (w : World) (v : Value) (T : TypeId) (n : Nat) (h : n = w.heap.size) : (w.alloc (.cells #[v] T)).frozen? ⟨n, 0, none⟩ = false := by
  exact World.frozen?_alloc_at _ _ _ _ h

/-- how the closed fact of 'awake' is written by the walk -/
theorem awake_fact : (mixv (gam 0) == 16294208416658607535) = true := by decide +kernel

set_option maxHeartbeats 400000 in
theorem awake_any (w : World) :
    Calls Try.prog 8 #[] w fun e w' => e = .returned (.bool true) ∧ Below w.heap.size w w' := by
  go_enter Try.func8, Try.ntmps8
  go_wp2_with fail
  refine (new_any 0 w).mono ?_
  rintro e w' ⟨rfl, rfl⟩
  go_wp2_with fail
  refine (next_any 0 _ _ (cell_new1 _ _ _ _ (by simp)) (froz_new1 _ _ _ _ (by simp))).mono ?_
  rintro e w' ⟨rfl, rfl⟩
  go_wp2_with fail
  go_ret
  exact ⟨ret_bool awake_fact, (Below.refl _ _).alloc (Nat.le_refl _) _⟩

set_option maxHeartbeats 400000 in
theorem mix_any (s t : Int) (w : World) :
    Calls Try.prog 9 #[.int .u64 s, .int .i64 t] w fun e w' => e = .returned (.int .u64 (mixv (gam (bits BinOp.xor IntKind.u64 s (mixv (gam (IntKind.u64.wrap t))))))) ∧ Below w.heap.size w w' := by
  go_enter Try.func9, Try.ntmps9
  go_wp2_with fail
  refine (new_any _ w).mono ?_
  rintro e w' ⟨rfl, rfl⟩
  go_wp2_with fail
  refine (next_any _ _ _ (cell_new1 _ _ _ _ (by simp)) (froz_new1 _ _ _ _ (by simp))).mono ?_
  rintro e w' ⟨rfl, rfl⟩
  go_wp2_with fail
  refine (new_any _ _).mono ?_
  rintro e w' ⟨rfl, rfl⟩
  go_wp2_with fail
  refine (next_any _ _ _ (cell_new1 _ _ _ _ (by simp)) (froz_new1 _ _ _ _ (by simp))).mono ?_
  rintro e w' ⟨rfl, rfl⟩
  go_wp2_with fail
  go_ret
  exact ⟨rfl, ((Below.refl _ _).alloc (Nat.le_refl _) _).alloc (by simp) _⟩

set_option maxHeartbeats 400000 in
theorem rmix_any (s t : Int) (w : World) :
    Calls Try.prog 10 #[.int .u64 s, .int .i64 t] w fun e w' => e = .returned (.int .u64 (mixv (gam (bits BinOp.xor IntKind.u64 s (mixv (gam (IntKind.u64.wrap t))))))) ∧ w = w' := by
  go_enter Try.func10, Try.ntmps10
  go_wp2_with fail
  refine (rnext_any _ w).mono ?_
  rintro e w' ⟨rfl, rfl⟩
  go_wp2_with fail
  refine (rnext_any _ w).mono ?_
  rintro e w' ⟨rfl, rfl⟩
  go_wp2_with fail
  go_ret
  exact ⟨rfl, rfl⟩

/-- what a walk is told of a slice of integers that came in: it is nil, or it leads to a row of 'cap' cells, the numbers 'zs' -/
def IsRow (k : IntKind) (w : World) (a : Option Addr) (len cap : Nat) (zs : List Int) : Prop :=
  (a = none ∧ len = 0 ∧ cap = 0 ∧ zs = []) ∨
  ∃ x, a = some x ∧ len ≤ cap ∧ cap ≤ maxLen ∧ zs.length = cap ∧ (∀ i, i < zs.length → w.cell? (x.add i) = some (.int k (zs.getD i 0))) ∧ ∀ n ∈ zs, (Lit.int k n).wf = true
end Go.Proofs.Ytpnakfagpklkoaa
