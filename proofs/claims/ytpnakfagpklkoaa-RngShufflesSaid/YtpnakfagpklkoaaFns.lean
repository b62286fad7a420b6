/- The plain numbers of chapter 4: the step of a seed, the mixing of it, and the first accepted number below a limit. No program in sight. -/
import Derived.WalkKit
namespace Go.Proofs.Ytpnakfagpklkoaa
open Go.RowKit

/-- the seed's step -/
def gam (s : Int) : Int := IntKind.u64.wrap (s + 11400714819323198485)
/-- the number of a seed that has been stepped -/
def mixv (z : Int) : Int :=
  bits BinOp.xor IntKind.u64
    (IntKind.u64.wrap (bits BinOp.xor IntKind.u64 (IntKind.u64.wrap (bits BinOp.xor IntKind.u64 z (z / 1073741824) * 13787848793156543929))
      (IntKind.u64.wrap (bits BinOp.xor IntKind.u64 z (z / 1073741824) * 13787848793156543929) / 134217728) * 10723151780598845931))
    (IntKind.u64.wrap (bits BinOp.xor IntKind.u64 (IntKind.u64.wrap (bits BinOp.xor IntKind.u64 z (z / 1073741824) * 13787848793156543929))
      (IntKind.u64.wrap (bits BinOp.xor IntKind.u64 z (z / 1073741824) * 13787848793156543929) / 134217728) * 10723151780598845931) / 2147483648)
/-- the document's text of it -/
def mixr (z : Int) : Int :=
  bits BinOp.xor IntKind.u64
    (IntKind.u64.wrap (bits BinOp.xor IntKind.u64 (IntKind.u64.wrap (bits BinOp.xor IntKind.u64 z (IntKind.u64.wrap (z.tdiv 1073741824)) * 13787848793156543929))
      (IntKind.u64.wrap ((IntKind.u64.wrap (bits BinOp.xor IntKind.u64 z (IntKind.u64.wrap (z.tdiv 1073741824)) * 13787848793156543929)).tdiv 134217728)) * 10723151780598845931))
    (IntKind.u64.wrap ((IntKind.u64.wrap (bits BinOp.xor IntKind.u64 (IntKind.u64.wrap (bits BinOp.xor IntKind.u64 z (IntKind.u64.wrap (z.tdiv 1073741824)) * 13787848793156543929))
      (IntKind.u64.wrap ((IntKind.u64.wrap (bits BinOp.xor IntKind.u64 z (IntKind.u64.wrap (z.tdiv 1073741824)) * 13787848793156543929)).tdiv 134217728)) * 10723151780598845931)).tdiv 2147483648))

theorem wrap_def (x : Int) : IntKind.u64.wrap x = x % 18446744073709551616 := by
  simp [IntKind.wrap, IntKind.signed, IntKind.bits]

theorem wrap_rng (x : Int) : 0 ≤ IntKind.u64.wrap x ∧ IntKind.u64.wrap x < 18446744073709551616 := by
  rw [wrap_def]; omega

theorem gam_rng (s : Int) : 0 ≤ gam s ∧ gam s < 18446744073709551616 := wrap_rng _

theorem wrap_tdiv (x d : Int) (hx : 0 ≤ x ∧ x < 18446744073709551616) (hd : 1 ≤ d) : IntKind.u64.wrap (x.tdiv d) = x / d := by
  rw [Int.tdiv_eq_ediv_of_nonneg hx.1, wrap_def]
  have h1 : 0 ≤ x / d := Int.ediv_nonneg hx.1 (by omega)
  have h2 : x / d ≤ x := Int.ediv_le_self _ hx.1
  exact Int.emod_eq_of_lt h1 (by omega)

theorem mixr_eq (z : Int) (hz : 0 ≤ z ∧ z < 18446744073709551616) : mixr z = mixv z := by
  unfold mixr mixv
  rw [wrap_tdiv z _ hz (by omega), wrap_tdiv _ 134217728 (wrap_rng _) (by omega), wrap_tdiv _ 2147483648 (wrap_rng _) (by omega)]

theorem mixv_rng (z : Int) : 0 ≤ mixv z ∧ mixv z < 18446744073709551616 := by
  unfold mixv
  generalize IntKind.u64.wrap _ = a
  generalize a / 2147483648 = b
  exact wrap_rng _

theorem mixv_zero : mixv 0 = 0 := by decide +kernel

/-- the seed, stepped k times -/
def gams (s : Int) : Nat → Int
  | 0 => s
  | k + 1 => gam (gams s k)

theorem gams_succ (s : Int) (k : Nat) : gams (gam s) k = gams s (k + 1) := by
  induction k with
  | zero => rfl
  | succ k ih => show gam (gams (gam s) k) = gam (gams s (k + 1)); rw [ih]

theorem gams_val (s : Int) (hs : 0 ≤ s ∧ s < 18446744073709551616) (k : Nat) : gams s k = (s + k * 11400714819323198485) % 18446744073709551616 := by
  induction k with
  | zero => simp [gams]; omega
  | succ k ih =>
    show gam (gams s k) = _
    rw [gam, wrap_def, ih]
    have : ((k + 1 : Nat) : Int) = (k : Int) + 1 := by omega
    rw [this]
    omega

/-- what is left of 2^64 by the limit -/
def rest (n : Int) : Int := 18446744073709551616 % n
/-- is the number taken, under the limit? -/
def okB (n x : Int) : Bool := decide (x < 18446744073709551616 - rest n)

theorem rest_rng (n : Int) (h0 : 0 < n) : 0 ≤ rest n ∧ rest n < n := ⟨Int.emod_nonneg _ (by omega), Int.emod_lt_of_pos _ h0⟩

/-- some step brings an accepted number: the seed comes by nought, and nought is mixed to nought -/
theorem hit (s n : Int) (hs : 0 ≤ s ∧ s < 18446744073709551616) (hn : 0 < n ∧ n < 18446744073709551616) : ∃ k, okB n (mixv (gams s (k + 1))) = true := by
  obtain ⟨m, hm⟩ : ∃ m : Nat, m = ((18446744073709551616 - s) * 17428512612931826493).toNat := ⟨_, rfl⟩
  have hm' : (m : Int) = (18446744073709551616 - s) * 17428512612931826493 := by omega
  refine ⟨m - 1, ?_⟩
  have h1 : m - 1 + 1 = m := by omega
  have h2 : gams s m = 0 := by
    rw [gams_val s hs, hm']
    omega
  rw [h1, h2, mixv_zero]
  have := rest_rng n hn.1
  unfold okB
  simp
  omega

theorem least (p : Nat → Bool) (h : ∃ k, p k = true) : ∃ k, p k = true ∧ ∀ j, j < k → p j = false := by
  obtain ⟨k, hk⟩ := h
  induction k using Nat.strongRecOn with
  | _ k ih =>
    by_cases hx : ∃ j, j < k ∧ p j = true
    · obtain ⟨j, hj, hpj⟩ := hx
      exact ih j hj hpj
    · refine ⟨k, hk, fun j hj => ?_⟩
      cases hpj : p j
      · rfl
      · exact absurd ⟨j, hj, hpj⟩ hx

/-- how many numbers are thrown away -/
noncomputable def tries (s n : Int) : Nat :=
  open Classical in if h : ∃ k, okB n (mixv (gams s (k + 1))) = true then (least _ h).choose else 0

theorem tries_spec (s n : Int) (hs : 0 ≤ s ∧ s < 18446744073709551616) (hn : 0 < n ∧ n < 18446744073709551616) :
    okB n (mixv (gams s (tries s n + 1))) = true ∧ ∀ j, j < tries s n → okB n (mixv (gams s (j + 1))) = false := by
  have h := hit s n hs hn
  unfold tries
  rw [dif_pos h]
  exact (least _ h).choose_spec

/-- the seed behind a number below n -/
noncomputable def belS (s n : Int) : Int := if n = 0 then s else gams s (tries s n + 1)
/-- a number below n -/
noncomputable def belV (s n : Int) : Int := if n = 0 then 0 else mixv (gams s (tries s n + 1)) % n

theorem belV_rng (s n : Int) (h : 0 < n) : 0 ≤ belV s n ∧ belV s n < n := by
  unfold belV
  rw [if_neg (by omega)]
  exact ⟨Int.emod_nonneg _ (by omega), Int.emod_lt_of_pos _ h⟩

theorem gams_rng (s : Int) (hs : 0 ≤ s ∧ s < 18446744073709551616) (k : Nat) : 0 ≤ gams s k ∧ gams s k < 18446744073709551616 := by
  cases k with
  | zero => exact hs
  | succ k => exact gam_rng _

theorem belS_rng (s n : Int) (hs : 0 ≤ s ∧ s < 18446744073709551616) : 0 ≤ belS s n ∧ belS s n < 18446744073709551616 := by
  unfold belS; split
  · exact hs
  · exact gams_rng s hs _
end Go.Proofs.Ytpnakfagpklkoaa
