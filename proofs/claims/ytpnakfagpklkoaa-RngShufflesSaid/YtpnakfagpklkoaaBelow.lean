/- The contracts of Below, the program's and the document's: both give the first accepted number, its rest by the limit. -/
import Derived.Test.YtpnakfagpklkoaaCalls
import Derived.BigQuiet
import Derived.Deep.LoopGhost
import Derived.BigGuardPart
namespace Go.Proofs.Ytpnakfagpklkoaa
open Go.RowKit

theorem ret_two {k : IntKind} {a b c d : Int} (h : a = b) (h' : c = d) : Ending.returned (.tuple #[.int k a, .int k c]) = .returned (.tuple #[.int k b, .int k d]) := by rw [h, h']

theorem set_set (w : World) (a : Addr) (u v : Value) : (w.setCell a u).setCell a v = w.setCell a v := by
  simp only [World.setCell]
  congr 1
  apply Array.ext_getElem?
  intro i
  simp only [Array.getElem?_modify]
  split
  · cases w.heap[i]? with
    | none => rfl
    | some o => cases o <;> simp <;> split <;> simp
  · rfl

theorem set_id (w : World) (a : Addr) (v : Value) (h : w.cell? a = some v) : w.setCell a v = w := by
  have e : (w.setCell a v).heap = w.heap := by
    simp only [World.setCell]
    apply Array.ext_getElem?
    intro i
    simp only [Array.getElem?_modify]
    split
    · rename_i hi
      subst hi
      simp only [World.cell?] at h
      cases hb : w.heap[a.block]? with
      | none => rfl
      | some o =>
        rw [hb] at h
        cases o with
        | cells c t fr =>
          simp only at h
          split at h
          · simp at h
          · rename_i hs
            simp only [Option.map_some]
            rw [if_neg hs]
            congr 2
            apply Array.ext_getElem?
            intro j
            rw [Array.getElem?_setIfInBounds]
            split
            · rename_i hj
              subst hj
              split
              · exact h.symm
              · rename_i hn
                rw [Array.getElem?_eq_none (by omega)] at h
                simp at h
            · rfl
        | _ => simp
    · rfl
  have : (w.setCell a v) = { w with heap := (w.setCell a v).heap } := rfl
  rw [this, e]

set_option maxHeartbeats 400000 in
theorem below_nil (n : Int) (w : World) :
    Calls Try.prog 15 #[.pointer none, .int .u64 n] w fun e w' => e = .returned (.int .u64 0) ∧ w = w' := by
  go_enter Try.func15, Try.ntmps15
  by_cases h : n = 0
  · subst h
    go_wp2
    go_ret
    exact ⟨rfl, rfl⟩
  · have hb : (n == 0) = false := by simpa using h
    go_wp2
    go_ret
    exact ⟨rfl, rfl⟩

set_option maxHeartbeats 400000 in
theorem below_zero (a : Option Addr) (w : World) :
    Calls Try.prog 15 #[.pointer a, .int .u64 0] w fun e w' => e = .returned (.int .u64 0) ∧ w = w' := by
  go_enter Try.func15, Try.ntmps15
  go_wp2
  go_ret
  exact ⟨rfl, rfl⟩

theorem most_eq (n : Int) (hn : 0 < n ∧ n < 18446744073709551616) : (IntKind.u64.wrap (-n)).tmod n = rest n := by
  have h0 := wrap_rng (-n)
  rw [Int.tmod_eq_emod_of_nonneg h0.1, wrap_def]
  have e : (-n) % 18446744073709551616 = 18446744073709551616 - n := by omega
  rw [e]
  unfold rest
  exact Int.sub_emod_right _ _

theorem neg_rest (n : Int) (hn : 0 < n ∧ n < 18446744073709551616) (h : rest n ≠ 0) : IntKind.u64.wrap (-rest n) = 18446744073709551616 - rest n := by
  have := rest_rng n hn.1
  rw [wrap_def]; omega

theorem belS_tries (s n : Int) (h : ¬ n = 0) : belS s n = gams s (tries s n + 1) := by unfold belS; rw [if_neg h]
theorem belV_tries (s n : Int) (h : ¬ n = 0) : belV s n = mixv (gams s (tries s n + 1)) % n := by unfold belV; rw [if_neg h]

set_option maxHeartbeats 400000 in
theorem below_some (s n : Int) (hs : 0 ≤ s ∧ s < 18446744073709551616) (hn : 0 < n ∧ n < 18446744073709551616) (a : Addr) (w : World) (hc : w.cell? a = some (.int .u64 s)) (hf : w.frozen? a = false) :
    Calls Try.prog 15 #[.pointer (some a), .int .u64 n] w fun e w' => e = .returned (.int .u64 (belV s n)) ∧ w' = w.setCell a (.int .u64 (belS s n)) := by
  have hz : (n == 0) = false := by have : n ≠ 0 := by omega
                                   simpa using this
  have hz2 : ¬ n = 0 := by omega
  go_enter Try.func15, Try.ntmps15
  go_wp2_with fail
  rw [most_eq n hn]
  go_loopg [6] (tries s n) (fun g _ wr => ∃ j : Nat, j ≤ tries s n ∧ g = tries s n - j ∧ wr = w.setCell a (.int .u64 (gams s j)))
  case atStart => exact ⟨0, Nat.zero_le _, rfl, (set_id _ _ _ hc).symm⟩
  case round =>
    obtain ⟨j, hj, hg, rfl⟩ := hrel
    have HG := Lib.hid hg
    clear hg
    have hcj := World.cell?_setCell_same w a (.int .u64 (gams s j)) hc
    have hfj : (w.setCell a (.int .u64 (gams s j))).frozen? a = false := by rw [World.frozen?_setCell]; exact hf
    have HS := Lib.hid (tries_spec s n hs hn)
    have HW := Lib.hid (set_set w a (.int .u64 (gams s j)) (.int .u64 (gams s (j + 1))))
    have HR := Lib.hid (mixv_rng (gams s (j + 1)))
    go_wp2_with fail
    refine (next_any _ a _ hcj hfj).mono ?_
    rintro e w4 ⟨rfl, rfl⟩
    clear hcj hfj
    rw [show gam (gams s j) = gams s (j + 1) from rfl, HW.out]
    by_cases hr : rest n = 0
    · have h1 : (mixv (gams s (j + 1)) < IntKind.u64.wrap (-rest n)) = False := by
        rw [hr, wrap_def]; have := HR.out; simp; omega
      have h2 : (rest n == 0) = true := by simp [hr]
      have hok : ∀ x, (0 ≤ x ∧ x < 18446744073709551616) → okB n x = true := fun x hx => by unfold okB; rw [hr]; simp; omega
      have h0 : j = tries s n := by
        rcases Nat.lt_or_ge j (tries s n) with h | h
        · have := HS.out.2 j h; rw [hok _ HR.out] at this; cases this
        · omega
      have H0 := Lib.hid h0
      clear hok hr h0
      have hlo := HR.out.1
      go_wp2_with fail
      go_ret
      have e0 := H0.out
      subst e0
      exact ⟨ret_int (belV_tries s n hz2).symm, by rw [belS_tries s n hz2]⟩
    · have h2 : (rest n == 0) = false := by simpa using hr
      have h3 := neg_rest n hn hr
      have h4 := rest_rng n hn.1
      rcases Nat.lt_or_ge j (tries s n) with h | h
      · have h5 := HS.out.2 j h
        have h1 : (mixv (gams s (j + 1)) < IntKind.u64.wrap (-rest n)) = False := by
          rw [h3]; unfold okB at h5; simpa using h5
        clear h3 h4 h5 hr
        go_wp2_with fail
        go_roundg (tries s n - (j + 1))
        case measure => rw [HG.out]; omega
        case rel => exact ⟨j + 1, by omega, rfl, rfl⟩
      · have H0 := Lib.hid (show j = tries s n by omega)
        have h5 : okB n (mixv (gams s (j + 1))) = true := by rw [H0.out]; exact HS.out.1
        have h1 : (mixv (gams s (j + 1)) < IntKind.u64.wrap (-rest n)) = True := by
          rw [h3]; unfold okB at h5; simpa using h5
        clear h3 h4 h5 hr h
        have hlo := HR.out.1
        go_wp2_with fail
        go_ret
        have e0 := H0.out
        subst e0
        exact ⟨ret_int (belV_tries s n hz2).symm, by rw [belS_tries s n hz2]⟩

set_option maxHeartbeats 400000 in
theorem rbelow_zero (s : Int) (w : World) :
    Calls Try.prog 16 #[.int .u64 s, .int .u64 0] w fun e w' => e = .returned (.tuple #[.int .u64 0, .int .u64 s]) ∧ w = w' := by
  go_enter Try.func16, Try.ntmps16
  go_wp2
  go_ret2
  exact ⟨rfl, rfl⟩

theorem most_req (n : Int) (hn : 0 < n ∧ n < 18446744073709551616) : (IntKind.u64.wrap (18446744073709551615 % n + 1)).tmod n = rest n := by
  have h0 := wrap_rng (18446744073709551615 % n + 1)
  rw [Int.tmod_eq_emod_of_nonneg h0.1, wrap_def]
  have h1 : 0 ≤ 18446744073709551615 % n := Int.emod_nonneg _ (by omega)
  have h2 : 18446744073709551615 % n < n := Int.emod_lt_of_pos _ (by omega)
  have e : (18446744073709551615 % n + 1) % 18446744073709551616 = 18446744073709551615 % n + 1 := Int.emod_eq_of_lt (by omega) (by omega)
  rw [e]
  unfold rest
  rw [Int.emod_add_emod]
  rfl

theorem sub_rest (n : Int) (hn : 0 < n ∧ n < 18446744073709551616) : IntKind.u64.wrap (18446744073709551615 - rest n) = 18446744073709551615 - rest n := by
  have := rest_rng n hn.1
  rw [wrap_def]; omega

set_option maxHeartbeats 400000 in
theorem rbelow_some (s n : Int) (hs : 0 ≤ s ∧ s < 18446744073709551616) (hn : 0 < n ∧ n < 18446744073709551616) (w : World) :
    Calls Try.prog 16 #[.int .u64 s, .int .u64 n] w fun e w' => e = .returned (.tuple #[.int .u64 (belV s n), .int .u64 (belS s n)]) ∧ w = w' := by
  have hz : (n == 0) = false := by have : n ≠ 0 := by omega
                                   simpa using this
  have hz2 : ¬ n = 0 := by omega
  go_enter Try.func16, Try.ntmps16
  go_wp2_with fail
  rw [most_req n hn]
  go_loopg [0] (tries s n) (fun g x wr => w = wr ∧ ∃ j : Nat, j ≤ tries s n ∧ g = tries s n - j ∧ x = .int .u64 (gams s j))
  case atStart => exact ⟨rfl, 0, Nat.zero_le _, rfl, rfl⟩
  case round =>
    obtain ⟨rfl, j, hj, hg, rfl⟩ := hrel
    have HG := Lib.hid hg
    clear hg
    have HS := Lib.hid (tries_spec s n hs hn)
    have HR := Lib.hid (mixv_rng (gams s (j + 1)))
    go_wp2_with fail
    refine (rnext_any _ _).mono ?_
    rintro e w4 ⟨rfl, rfl⟩
    rw [show gam (gams s j) = gams s (j + 1) from rfl]
    have h3 := sub_rest n hn
    rcases Nat.lt_or_ge j (tries s n) with h | h
    · have h5 := HS.out.2 j h
      have h1 : (mixv (gams s (j + 1)) ≤ IntKind.u64.wrap (18446744073709551615 - rest n)) = False := by
        rw [h3]; unfold okB at h5; simp at h5; simp; omega
      clear h3 h5
      go_wp2_with fail
      go_roundg (tries s n - (j + 1))
      case measure => rw [HG.out]; omega
      case rel => exact ⟨rfl, j + 1, by omega, rfl, rfl⟩
    · have H0 := Lib.hid (show j = tries s n by omega)
      have h5 : okB n (mixv (gams s (j + 1))) = true := by rw [H0.out]; exact HS.out.1
      have h1 : (mixv (gams s (j + 1)) ≤ IntKind.u64.wrap (18446744073709551615 - rest n)) = True := by
        rw [h3]; unfold okB at h5; simp at h5; simp; omega
      clear h3 h5 h
      have hlo := HR.out.1
      go_wp2_with fail
      go_ret2
      have e0 := H0.out
      subst e0
      exact ⟨ret_two (belV_tries s n hz2).symm (belS_tries s n hz2).symm, rfl⟩

/-- the program's Below, whatever the limit -/
theorem below_any (s n : Int) (hs : 0 ≤ s ∧ s < 18446744073709551616) (hn : 0 ≤ n ∧ n < 18446744073709551616) (a : Addr) (w : World) (hc : w.cell? a = some (.int .u64 s)) (hf : w.frozen? a = false) :
    Calls Try.prog 15 #[.pointer (some a), .int .u64 n] w fun e w' => e = .returned (.int .u64 (belV s n)) ∧ w' = w.setCell a (.int .u64 (belS s n)) := by
  by_cases h : n = 0
  · subst h
    refine (below_zero (some a) w).mono fun e w' ⟨he, hw⟩ => ?_
    subst hw
    exact ⟨by rw [he]; exact ret_int (by simp [belV]), by rw [show belS s 0 = s by simp [belS], set_id _ _ _ hc]⟩
  · exact below_some s n hs ⟨by omega, hn.2⟩ a w hc hf

/-- the document's Below, whatever the limit -/
theorem rbelow_any (s n : Int) (hs : 0 ≤ s ∧ s < 18446744073709551616) (hn : 0 ≤ n ∧ n < 18446744073709551616) (w : World) :
    Calls Try.prog 16 #[.int .u64 s, .int .u64 n] w fun e w' => e = .returned (.tuple #[.int .u64 (belV s n), .int .u64 (belS s n)]) ∧ w = w' := by
  by_cases h : n = 0
  · subst h
    refine (rbelow_zero s w).mono fun e w' ⟨he, hw⟩ => ?_
    exact ⟨by rw [he]; exact ret_two (by simp [belV]) (by simp [belS]), hw⟩
  · exact rbelow_some s n hs ⟨by omega, hn.2⟩ w

theorem u64_rng {n : Int} (h : (Lit.int .u64 n).wf = true) : 0 ≤ n ∧ n < 18446744073709551616 := by
  have : 0 ≤ n ∧ n ≤ 18446744073709551615 := by simpa [Lit.wf, IntKind.min, IntKind.max, IntKind.signed, IntKind.bits] using h
  omega

theorem addr_add (b off i : Nat) : Addr.add ⟨b, off, none⟩ i = ⟨b, off + i, none⟩ := by
  unfold Addr.add
  split
  · simp_all
  · rfl

/-- a slice that holds an element: where it lies, and what its cells hold -/
theorem IsRow.cells {k : IntKind} {w : World} {a : Option Addr} {len cap : Nat} {zs : List Int} (h : IsRow k w a len cap zs) (hl : 0 < len) :
    ∃ b off, a = some ⟨b, off, none⟩ ∧ b < w.heap.size ∧ (∀ i, i < len → w.cell? ⟨b, off + i, none⟩ = some (.int k (zs.getD i 0))) := by
  rcases h with ⟨rfl, rfl, rfl, rfl⟩ | ⟨x, rfl, h1, h2, h3, hc, h4⟩
  · omega
  · obtain ⟨b, off, spot⟩ := x
    have hc0 := hc 0 (by omega)
    have hspot : spot = none := by simpa [Addr.add] using World.cell?_spot hc0
    subst hspot
    refine ⟨b, off, rfl, ?_, fun i hi => ?_⟩
    case refine_2 =>
      have := hc i (by omega)
      rw [addr_add] at this
      exact this
    rcases Nat.lt_or_ge b w.heap.size with h | h
    · exact h
    · simp [Addr.add, World.cell?, Array.getElem?_eq_none h] at hc0

theorem IsRow.wf {k : IntKind} {w : World} {a : Option Addr} {len cap : Nat} {zs : List Int} (h : IsRow k w a len cap zs) (i : Nat) (hi : i < len) : (Lit.int k (zs.getD i 0)).wf = true := by
  rcases h with ⟨rfl, rfl, rfl, rfl⟩ | ⟨x, rfl, h1, h2, h3, hc, h4⟩
  · omega
  · apply h4
    have : i < zs.length := by omega
    simp [List.getD_eq_getElem?_getD, List.getElem?_eq_getElem this]
end Go.Proofs.Ytpnakfagpklkoaa
