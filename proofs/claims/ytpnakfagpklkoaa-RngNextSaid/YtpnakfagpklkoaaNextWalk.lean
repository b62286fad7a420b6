/- The walk of RngNext: for every seed, count and turn the call returns true and turns nothing that was there. -/
import Derived.Test.YtpnakfagpklkoaaCalls
namespace Go.Proofs.Ytpnakfagpklkoaa
open Go.RowKit

set_option maxHeartbeats 400000 in
theorem law_next (s n t : Int) (hn : 0 ≤ n ∧ n ≤ 255) (w : World) :
    Calls Try.prog 3 #[.int .u64 s, .int .u8 n, .int .i64 t] w fun e w' => e = .returned (.bool true) ∧ Below w.heap.size w w' := by
  obtain ⟨n, rfl⟩ := Int.eq_ofNat_of_zero_le hn.1
  have hn2 : n ≤ 255 := by omega
  clear hn
  go_enter Try.func3, Try.ntmps3
  go_wp2_with fail
  refine (awake_any w).mono ?_
  rintro e w1 ⟨rfl, b1⟩
  go_wp2_with fail
  refine (mix_any _ _ w1).mono ?_
  rintro e w2 ⟨rfl, b2⟩
  go_wp2_with fail
  refine (rmix_any _ _ w2).mono ?_
  rintro e w3 ⟨rfl, rfl⟩
  have b3 : Below w.heap.size w w2 := b1.trans (b2.mono b1.size)
  have hB : Hid (w.heap.size ≤ w2.heap.size) := b3.size
  clear b1 b2
  go_wp2_with fail
  refine (new_any _ w2).mono ?_
  rintro e w3 ⟨rfl, rfl⟩
  go_wp2_with fail
  go_loopw [8, 9] (fun a i wr => ∃ k : Nat, k ≤ n ∧ i = .int .i64 k ∧ ∃ t : Int, a = .int .u64 t ∧ wr.cell? ⟨w2.heap.size, 0, none⟩ = some (.int .u64 t) ∧ wr.frozen? ⟨w2.heap.size, 0, none⟩ = false ∧ Below w.heap.size w wr)
    (fun _ i _ => n - (intOf i).toNat)
  case atStart => exact ⟨0, Nat.zero_le _, rfl, s, rfl, cell_new1 _ _ _ _ rfl, froz_new1 _ _ _ _ rfl, b3.alloc hB.out _⟩
  case round =>
    clear b3
    obtain ⟨k, hk, rfl, t, rfl, hc, hf, hb⟩ := hrel
    by_cases hlt : k < n
    · go_wp2_with fail
      refine (rnext_any t _).mono ?_
      rintro e w4 ⟨rfl, rfl⟩
      go_wp2_with fail
      refine (next_any t _ _ hc hf).mono ?_
      rintro e w4 ⟨rfl, rfl⟩
      go_wp2_with fail
      refine (seed_any (gam t) _ _ (World.cell?_setCell_same _ _ _ hc)).mono ?_
      rintro e w4 ⟨rfl, rfl⟩
      go_wp2_with fail
      go_roundw
      case rel => exact ⟨k + 1, by omega, by go_num, gam t, rfl, World.cell?_setCell_same _ _ _ hc, by rw [World.frozen?_setCell]; exact hf, hb.setCell hB.out _⟩
      case measure => simp [intOf]; omega
    · go_wp2
      go_ret
      exact ⟨rfl, hb⟩

theorem next_walk (s n t : Int) (w : World) (_ : (Lit.int .u64 s).wf = true) (hn : (Lit.int .u8 n).wf = true) (_ : (Lit.int .i64 t).wf = true) :
    Calls Try.prog 3 #[.int .u64 s, .int .u8 n, .int .i64 t] w fun e w' => e = .returned (.bool true) ∧ Below w.heap.size w w' :=
  law_next s n t (by simpa [Lit.wf, IntKind.min, IntKind.max, IntKind.signed, IntKind.bits] using hn) w
end Go.Proofs.Ytpnakfagpklkoaa
