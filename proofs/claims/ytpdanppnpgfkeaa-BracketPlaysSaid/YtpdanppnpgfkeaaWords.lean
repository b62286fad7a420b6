/- Words for the proofs over the bracket: a spot as a key; a map from spots to numbers, and one from spots to Booleans, by what a look-up answers. -/
import Derived.Test.YtpdanppnpgfkeaaRows
import Derived.WalkKit
import Derived.WalkSpells
import Derived.WalkLawsBesides
import Derived.Lib.Hide
import Derived.Deep.LoopGhost
import Derived.Deep.QuietTactic
import Derived.BigQuiet
import Derived.BigRegion
import Derived.BigGuardPart
import Derived.ChangeAlike
import Derived.Maps.AppendAt
import Derived.Laws.AppendOwnNone
import Derived.Deep.RegionHeld3
import Derived.Deep.AppendLies
import Derived.Deep.MidRow
import Derived.Deep.RegionLaw
import Derived.Maps.Own
import Derived.Maps.OwnOps
import Derived.Maps.OwnSet
import Derived.Maps.Keyed
import Derived.Maps.Views
import Derived.DeepKeys4
namespace Go.Proofs.Ytpdanppnpgfkeaa
open Go.RowKit Go.Maps

/-- a spot as a key's literal -/
def kl (r p : Int) : Lit := .string (keyBytes [.int .i64 r, .int .i64 p])

def spotV (r p : Int) : Value := .agg #[.int .i64 r, .int .i64 p]

def ok64 (a : Int) : Prop := (Lit.int .i64 a).wf = true

theorem ok64_of {a : Int} (h : -9223372036854775808 ≤ a ∧ a ≤ 9223372036854775807) : ok64 a := by
  unfold ok64
  exact WalkArith.wf_i64 (by omega)

theorem law62 : Keyed Try.prog 62 := Keyed.of_law (deep_law_laid (P := Try.prog) (by kernel_rfl) (m := 2) (by omega) (of_decide_eq_true (by kernel_rfl)) (by kernel_rfl) (by kernel_rfl))

theorem cells3 : Try.prog.cellsOf 3 = 1 := by kernel_rfl
theorem cells62 : Try.prog.cellsOf 62 = 2 := by kernel_rfl
theorem keyType62 : Try.prog.keyType 62 = true := by kernel_rfl
theorem types2 : ∃ n, Try.prog.types.size + 1 = n + 2 := ⟨Try.prog.types.size - 1, by have : 1 ≤ Try.prog.types.size := of_decide_eq_true (by kernel_rfl); omega⟩

theorem lits3 (n : Nat) {a : Int} (h : ok64 a) : Try.prog.keyLits (n + 1) 3 [.int .i64 a] = some [.int .i64 a] := by
  unfold ok64 at h
  simp [Program.keyLits, Try.underlying3, h]

theorem key_spot {r p : Int} (hr : ok64 r) (hp : ok64 p) : keyOf Try.prog 62 (spotV r p) = some (kl r p) := by
  obtain ⟨n, hn⟩ := types2
  have hf : (spotV r p).formed Try.prog 62 = true := by
    simp [spotV, Value.formed, Try.underlying62, cells62]
  have hk : Try.prog.keyLits (n + 2) 62 [.int .i64 r, .int .i64 p] = some [.int .i64 r, .int .i64 p] := by
    have h1 := lits3 n hr
    have h2 := lits3 n hp
    unfold Program.keyLits
    simp [Try.underlying62, cells62, cells3, h1, h2]
  unfold keyOf
  rw [Try.underlying62, keyType62, hf, hn]
  simp [spotV, Value.cells, hk, kl]

theorem kl_inj {r p r' p' : Int} (hr : ok64 r) (hp : ok64 p) (hr' : ok64 r') (hp' : ok64 p') (h : kl r p = kl r' p') : r = r' ∧ p = p' := by
  have h1 := key_spot hr hp
  rw [h] at h1
  have h2 := law62.inj h1 (key_spot hr' hp')
  simp [spotV] at h2
  exact h2

theorem kl_isKey {r p : Int} : WideAt.IsKeyLit (kl r p) := trivial

theorem zero3 (w : World) : (zeroValue 3).run Try.prog w = .ok (.int .i64 0) w := by kernel_rfl
theorem zero4 (w : World) : (zeroValue 4).run Try.prog w = .ok (.bool false) w := by kernel_rfl

theorem plainElem_bool_inv {v : Value} {z : DataW Unit × List MemPlace} (h : plainElem Try.prog 4 v = some z) : ∃ x, v = .bool x ∧ z = (.lit (.bool x), []) := by
  unfold plainElem at h
  rw [Try.underlying4] at h
  split at h
  · rename_i x _
    exact ⟨x, by simp_all, by simp_all⟩
  · simp_all
  · simp_all
  · simp_all

/-- THE MAP IN BLOCK b ANSWERS f -/
def MapI (w : World) (b k : Nat) (f : Int → Int → Option Int) : Prop :=
  ∃ D : DataW Unit, w.ownsMap Try.prog 62 (plainElem Try.prog 3) b k D ∧ ∀ r p, ok64 r → ok64 p → Maps.has D (kl r p) = (f r p).isSome ∧ D.atKey (kl r p) (.lit (.int .i64 0)) = .lit (.int .i64 ((f r p).getD 0))
/-- .. OF BOOLEANS -/
def MapB (w : World) (b k : Nat) (g : Int → Int → Bool) : Prop :=
  ∃ D : DataW Unit, w.ownsMap Try.prog 62 (plainElem Try.prog 4) b k D ∧ ∀ r p, ok64 r → ok64 p → D.atKey (kl r p) (.lit (.bool false)) = .lit (.bool (g r p))

def upd {α : Type} (f : Int → Int → α) (r p : Int) (x : α) : Int → Int → α := fun r' p' => if r' = r ∧ p' = p then x else f r' p'

theorem upd_same {α : Type} (f : Int → Int → α) (r p : Int) (x : α) : upd f r p x r p = x := by simp [upd]
theorem upd_other {α : Type} (f : Int → Int → α) (r p : Int) (x : α) {r' p' : Int} (h : ¬ (r' = r ∧ p' = p)) : upd f r p x r' p' = f r' p' := by simp [upd, h]

theorem MapI.made (w : World) : MapI (w.alloc (.map #[] 0)) w.heap.size 0 (fun _ _ => none) :=
  ⟨_, World.ownsMap_made _ _ _ _, fun _ _ _ _ => ⟨rfl, rfl⟩⟩
theorem MapB.made (w : World) : MapB (w.alloc (.map #[] 0)) w.heap.size 0 (fun _ _ => false) :=
  ⟨_, World.ownsMap_made _ _ _ _, fun _ _ _ _ => rfl⟩

theorem MapI.lt {w : World} {b k : Nat} {f : Int → Int → Option Int} (h : MapI w b k f) : b < w.heap.size := h.choose_spec.1.lt
theorem MapB.lt {w : World} {b k : Nat} {g : Int → Int → Bool} (h : MapB w b k g) : b < w.heap.size := h.choose_spec.1.lt

theorem own_block {R : Value → Option (DataW Unit × List MemPlace)} {w w' : World} {b n : Nat} {D : DataW Unit} (h : w.ownsMap Try.prog 62 R b n D) (hb : w'.heap[b]? = w.heap[b]?) : w'.ownsMap Try.prog 62 R b n D := by
  obtain ⟨es, clock, h1, r⟩ := h
  exact ⟨es, clock, hb.trans h1, r⟩
theorem MapI.block {w w' : World} {b k : Nat} {f : Int → Int → Option Int} (h : MapI w b k f) (hb : w'.heap[b]? = w.heap[b]?) : MapI w' b k f := by
  obtain ⟨D, h1, h2⟩ := h
  exact ⟨D, own_block h1 hb, h2⟩
theorem MapB.block {w w' : World} {b k : Nat} {g : Int → Int → Bool} (h : MapB w b k g) (hb : w'.heap[b]? = w.heap[b]?) : MapB w' b k g := by
  obtain ⟨D, h1, h2⟩ := h
  exact ⟨D, own_block h1 hb, h2⟩

/-- 'v, ok := m[spot]' -/
theorem MapI.look {w : World} {b k : Nat} {f : Int → Int → Option Int} (h : MapI w b k f) {r p : Int} (hr : ok64 r) (hp : ok64 p) :
    (Instr.lookup 55 (.map (some b)) (spotV r p) true).run Try.prog w = .ok (.tuple #[.int .i64 ((f r p).getD 0), .bool (f r p).isSome]) w := by
  obtain ⟨D, h1, h2⟩ := h
  obtain ⟨v, ps, hrun, hv⟩ := h1.look_ok law62 Try.underlying55 (zero3 w) (plainElem_int Try.underlying3 (q := .i64) (a := 0) (by decide)) (key_spot hr hp)
  obtain ⟨c, rfl, hc, _⟩ := plainElem_int_inv Try.underlying3 hv
  obtain ⟨e1, e2⟩ := h2 r p hr hp
  rw [e2] at hc
  simp only [Prod.mk.injEq, DataW.lit.injEq, Lit.int.injEq, true_and] at hc
  rw [hrun, e1, ← hc.1]

/-- 'm[spot]' -/
theorem MapB.look {w : World} {b k : Nat} {g : Int → Int → Bool} (h : MapB w b k g) {r p : Int} (hr : ok64 r) (hp : ok64 p) :
    (Instr.lookup 56 (.map (some b)) (spotV r p) false).run Try.prog w = .ok (.bool (g r p)) w := by
  obtain ⟨D, h1, h2⟩ := h
  obtain ⟨v, ps, hrun, hv⟩ := h1.lookup law62 Try.underlying56 (zero4 w) (plainElem_bool Try.underlying4 false) (key_spot hr hp)
  obtain ⟨c, rfl, hc⟩ := plainElem_bool_inv hv
  rw [h2 r p hr hp] at hc
  simp only [Prod.mk.injEq, DataW.lit.injEq, Lit.bool.injEq] at hc
  rw [hrun, ← hc.1]

/-- 'm[spot] = x' -/
theorem MapI.put {w : World} {b k : Nat} {f : Int → Int → Option Int} (h : MapI w b k f) (hk : k < 1000) {r p x : Int} (hr : ok64 r) (hp : ok64 p) (hx : ok64 x) :
    ∃ w', (Instr.mapUpdate 55 (.map (some b)) (spotV r p) (.int .i64 x)).run Try.prog w = .ok () w' ∧ MapI w' b (k + 1) (upd f r p (some x)) ∧ w.grownBy w' (some b) := by
  obtain ⟨D, h1, h2⟩ := h
  obtain ⟨w', hrun, ho, hg⟩ := h1.update law62 Try.underlying55 (by unfold maxLen; omega) (key_spot hr hp) (plainElem_int Try.underlying3 (q := .i64) hx)
  refine ⟨w', hrun, ⟨_, ho, fun r' p' hr' hp' => ?_⟩, hg⟩
  by_cases he : r' = r ∧ p' = p
  · obtain ⟨rfl, rfl⟩ := he
    rw [upd_same]
    exact ⟨has_put_same h1.isMap kl_isKey _, atKey_put_same h1.isMap kl_isKey _ _⟩
  · rw [upd_other _ _ _ _ he]
    have hne : kl r' p' ≠ kl r p := fun e => he (kl_inj hr' hp' hr hp e)
    rw [has_put_other hne, atKey_put_other hne]
    exact h2 r' p' hr' hp'

theorem MapB.put {w : World} {b k : Nat} {g : Int → Int → Bool} (h : MapB w b k g) (hk : k < 1000) {r p : Int} {x : Bool} (hr : ok64 r) (hp : ok64 p) :
    ∃ w', (Instr.mapUpdate 56 (.map (some b)) (spotV r p) (.bool x)).run Try.prog w = .ok () w' ∧ MapB w' b (k + 1) (upd g r p x) ∧ w.grownBy w' (some b) := by
  obtain ⟨D, h1, h2⟩ := h
  obtain ⟨w', hrun, ho, hg⟩ := h1.update law62 Try.underlying56 (by unfold maxLen; omega) (key_spot hr hp) (plainElem_bool Try.underlying4 x)
  refine ⟨w', hrun, ⟨_, ho, fun r' p' hr' hp' => ?_⟩, hg⟩
  by_cases he : r' = r ∧ p' = p
  · obtain ⟨rfl, rfl⟩ := he
    rw [upd_same]
    exact atKey_put_same h1.isMap kl_isKey _ _
  · rw [upd_other _ _ _ _ he]
    have hne : kl r' p' ≠ kl r p := fun e => he (kl_inj hr' hp' hr hp e)
    rw [atKey_put_other hne]
    exact h2 r' p' hr' hp'
end Go.Proofs.Ytpdanppnpgfkeaa
