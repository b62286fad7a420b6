/- Where an ID stands in a list of entities. No program in sight. -/
import Derived.Test.YtgnkehjjeoolcaaWords
namespace Go.Proofs.Ytgnkehjjeoolcaa
open Go.RowKit

/-- the first place of an ID -/
def idx : List Ent → Int → Option Nat
  | [], _ => none
  | e :: es, id => if e.id = id then some 0 else (idx es id).map (· + 1)

/-- IDs rise -/
def Sorted (es : List Ent) : Prop := ∀ (i j : Nat) (a b : Ent), i < j → es[i]? = some a → es[j]? = some b → a.id < b.id

theorem idx_some {es : List Ent} {id : Int} : ∀ {k : Nat}, idx es id = some k → ∃ e, es[k]? = some e ∧ e.id = id := by
  induction es with
  | nil => intro k h; simp [idx] at h
  | cons e es ih =>
    intro k h
    simp only [idx] at h
    split at h
    · rename_i he
      simp only [Option.some.injEq] at h
      subst h
      exact ⟨e, rfl, he⟩
    · cases hx : idx es id with
      | none => rw [hx] at h; simp at h
      | some m =>
        rw [hx] at h
        simp only [Option.map_some, Option.some.injEq] at h
        subst h
        obtain ⟨f, h1, h2⟩ := ih hx
        exact ⟨f, by simpa using h1, h2⟩

theorem idx_none {es : List Ent} {id : Int} : idx es id = none ↔ ∀ (k : Nat) (e : Ent), es[k]? = some e → e.id ≠ id := by
  induction es with
  | nil => simp [idx]
  | cons e es ih =>
    simp only [idx]
    split
    · rename_i he
      constructor
      · intro h; simp at h
      · intro h; exact absurd he (h 0 e rfl)
    · rename_i he
      rw [Option.map_eq_none_iff, ih]
      constructor
      · intro h k f hk
        cases k with
        | zero => simp only [List.getElem?_cons_zero, Option.some.injEq] at hk; subst hk; exact he
        | succ k => exact h k f (by simpa using hk)
      · intro h k f hk
        exact h (k + 1) f (by simpa using hk)

theorem idx_lt {es : List Ent} {id : Int} {k : Nat} (h : idx es id = some k) : k < es.length := by
  obtain ⟨e, he, _⟩ := idx_some h
  exact (List.getElem?_eq_some_iff.1 he).1

theorem idx_before {es : List Ent} {id : Int} : ∀ {k : Nat}, idx es id = some k → ∀ (j : Nat) (e : Ent), j < k → es[j]? = some e → e.id ≠ id := by
  induction es with
  | nil => intro k h; simp [idx] at h
  | cons f es ih =>
    intro k h j e hj he
    simp only [idx] at h
    split at h
    · simp only [Option.some.injEq] at h; omega
    · rename_i hf
      cases hx : idx es id with
      | none => rw [hx] at h; simp at h
      | some m =>
        rw [hx] at h
        simp only [Option.map_some, Option.some.injEq] at h
        subst h
        cases j with
        | zero => simp only [List.getElem?_cons_zero, Option.some.injEq] at he; subst he; exact hf
        | succ j => exact ih hx j e (by omega) (by simpa using he)

theorem idx_of {es : List Ent} (hs : Sorted es) {id : Int} {k : Nat} {e : Ent} (hk : es[k]? = some e) (he : e.id = id) : idx es id = some k := by
  cases hx : idx es id with
  | none => exact absurd he (idx_none.1 hx k e hk)
  | some m =>
    obtain ⟨f, hm, hf⟩ := idx_some hx
    congr 1
    rcases Nat.lt_trichotomy m k with h | h | h
    · have := hs m k f e h hm hk; omega
    · exact h
    · exact absurd he (idx_before hx k e h hk)

theorem Sorted.nil : Sorted [] := fun i j a b _ h => by simp at h

theorem Sorted.snoc {es : List Ent} (hs : Sorted es) {e : Ent} (he : ∀ (k : Nat) (f : Ent), es[k]? = some f → f.id < e.id) : Sorted (es ++ [e]) := by
  intro i j a b hij ha hb
  rcases Nat.lt_or_ge j es.length with h | h
  · rw [List.getElem?_append_left h] at hb
    rw [List.getElem?_append_left (by omega)] at ha
    exact hs i j a b hij ha hb
  · rw [List.getElem?_append_right h] at hb
    have hj : j - es.length = 0 := by
      rcases Nat.eq_zero_or_pos (j - es.length) with h0 | h0
      · exact h0
      · rw [List.getElem?_eq_none (by simp; omega)] at hb; cases hb
    rw [hj] at hb
    simp only [List.getElem?_cons_zero, Option.some.injEq] at hb
    subst hb
    rw [List.getElem?_append_left (by omega)] at ha
    exact he i a ha

theorem Sorted.set {es : List Ent} (hs : Sorted es) {k : Nat} {e f : Ent} (hk : es[k]? = some f) (he : f.id = e.id) : Sorted (es.set k e) := by
  have key : ∀ (i : Nat) (a : Ent), (es.set k e)[i]? = some a → ∃ a', es[i]? = some a' ∧ a'.id = a.id := by
    intro i a ha
    rw [List.getElem?_set] at ha
    split at ha
    · rename_i hki
      subst hki
      split at ha
      · simp only [Option.some.injEq] at ha; subst ha; exact ⟨f, hk, he⟩
      · cases ha
    · exact ⟨a, ha, rfl⟩
  intro i j a b hij ha hb
  obtain ⟨a', h1, h2⟩ := key i a ha
  obtain ⟨b', h3, h4⟩ := key j b hb
  have := hs i j a' b' hij h1 h3
  omega

theorem Sorted.erase {es : List Ent} (hs : Sorted es) (k : Nat) : Sorted (es.eraseIdx k) := by
  intro i j a b hij ha hb
  rw [List.getElem?_eraseIdx] at ha hb
  split at ha <;> split at hb
  · exact hs i j a b hij ha hb
  · exact hs i (j + 1) a b (by omega) ha hb
  · omega
  · exact hs (i + 1) (j + 1) a b (by omega) ha hb
end Go.Proofs.Ytgnkehjjeoolcaa
