/- The document's bracket: its small functions: Size, seat. -/
import Derived.Test.YtpdanppnpgfkeaaInv
namespace Go.Proofs.Ytpdanppnpgfkeaa
open Go.RowKit Go.Maps

set_option maxHeartbeats 1000000 in
theorem size_any (n : Nat) (hn : 2 ≤ n ∧ n ≤ 16) (w : World) :
    Calls Try.prog 28 #[.int .i64 n] w fun e w' => e = .returned (.int .i64 (2 ^ Rn n : Nat)) ∧ w' = w := by
  obtain ⟨hR1, hR4, hnR, hRn⟩ := Rn_ok hn
  obtain ⟨R, hR⟩ : ∃ R, Rn n = R := ⟨_, rfl⟩
  rw [hR] at hR1 hR4 hnR hRn
  obtain ⟨hn2, hn16⟩ := hn
  have HR := Lib.hid hR
  have HNR := Lib.hid hnR
  have HRN := Lib.hid hRn
  clear hR hnR hRn
  go_enter Try.func28, Try.ntmps28
  go_wp2_with fail
  go_loopg [3] R (fun m v wr => ∃ j N : Nat, j ≤ R ∧ m = R - j ∧ v = .int .i64 N ∧ Hid (2 ^ j = N) ∧ N ≤ 16 ∧ wr = w)
  case atStart => exact ⟨0, 1, Nat.zero_le _, rfl, rfl, Lib.hid rfl, by omega, rfl⟩
  case round =>
    obtain ⟨j, N, hj, hm, rfl, HN, hN, rfl⟩ := hrel
    have HM := Lib.hid hm
    clear hm
    by_cases hlt : j < R
    · have hNn : N < n := by
        have h1 := HRN.out
        have h2 : 2 ^ j ≤ 2 ^ (R - 1) := Nat.pow_le_pow_right (by omega) (by omega)
        rw [← HN.out]
        omega
      have hNI : (N : Int) < n := by omega
      have H2 := Lib.hid (show 2 ^ (j + 1) = 2 * N by rw [Nat.pow_succ, HN.out, Nat.mul_comm])
      have h16 : 2 * N ≤ 16 := by rw [← H2.out]; exact pow4 (by omega)
      clear hNn
      go_wp2_with fail
      go_roundg (R - (j + 1))
      case measure => rw [HM.out]; omega
      case rel => exact ⟨j + 1, 2 * N, by omega, rfl, by go_num, H2, h16, rfl⟩
    · obtain rfl : j = R := by omega
      have hNn : (n : Int) ≤ N := by have := HNR.out; rw [HN.out] at this; omega
      go_wp2_with fail
      go_ret
      exact ⟨by rw [HR.out, HN.out]; rfl, rfl⟩

set_option maxHeartbeats 1000000 in
theorem seat_any (j : Nat) (hj : j ≤ 4) : ∀ (i : Nat) (_ : i < 2 ^ j) (w : World),
    Calls Try.prog 30 #[.int .i64 i, .int .i64 (2 ^ j : Nat)] w fun e w' => e = .returned (.int .i64 (seat j i : Nat)) ∧ w' = w := by
  induction j with
  | zero =>
    intro i hi w
    go_enter Try.func30, Try.ntmps30
    go_wp2_with fail
    go_ret
    exact ⟨rfl, rfl⟩
  | succ j ih =>
    intro i hi w
    obtain ⟨f, hf⟩ : ∃ f, i / 2 = f := ⟨_, rfl⟩
    have hs := seat_lt j f
    have h16 : 2 ^ (j + 1) ≤ 16 := pow4 hj
    obtain ⟨N, hN⟩ : ∃ N, 2 ^ j = N := ⟨_, rfl⟩
    have h2 : 2 ^ (j + 1) = 2 * N := by rw [Nat.pow_succ, hN, Nat.mul_comm]
    have hih := ih (by omega) f (by rw [hN]; omega) w
    rw [hN] at hih hs
    rw [h2] at hi h16
    have HIH := Lib.hid hih
    have hdi : (i : Int) / 2 = (f : Int) := by omega
    have hseat : seat (j + 1) i = if i % 2 = 0 then seat j f else 2 * N - 1 - seat j f := by rw [seat, h2, hf]
    have HSEAT := Lib.hid hseat
    obtain ⟨s, hsv⟩ : ∃ s, seat j f = s := ⟨_, rfl⟩
    rw [hsv] at hs HSEAT HIH
    rw [h2]
    obtain ⟨K, hK⟩ : ∃ K, 2 * N = K := ⟨_, rfl⟩
    have HK := Lib.hid hK
    rw [hK] at hi h16 ⊢
    have hdk : (K : Int) / 2 = (N : Int) := by omega
    have hk1 : ((K : Int) == 1) = false := by simp; omega
    clear ih hih hseat hsv hN h2 hK hf
    by_cases hm : i % 2 = 0
    · have hmI : (i : Int) % 2 = 0 := by omega
      go_enter Try.func30, Try.ntmps30
      go_wp2_with fail
      refine HIH.out.mono ?_
      rintro e w' ⟨rfl, rfl⟩
      go_wp2_with fail
      go_ret
      exact ⟨by rw [HSEAT.out, if_pos hm]; rfl, rfl⟩
    · have hmI : (i : Int) % 2 = 1 := by omega
      go_enter Try.func30, Try.ntmps30
      go_wp2_with fail
      refine HIH.out.mono ?_
      rintro e w' ⟨rfl, rfl⟩
      go_wp2_with fail
      go_ret
      refine ⟨?_, rfl⟩
      rw [HSEAT.out, if_neg hm, HK.out, show ((K - 1 - s : Nat) : Int) = (K : Int) - 1 - s by have := HK.out; omega]
      rfl
end Go.Proofs.Ytpdanppnpgfkeaa
