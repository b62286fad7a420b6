/- The walk of RngBelow: for every seed and all limits (at most 300) the call returns true and turns nothing that was there. -/
import Derived.Test.YtpnakfagpklkoaaBelow
namespace Go.Proofs.Ytpnakfagpklkoaa
open Go.RowKit

set_option maxHeartbeats 400000 in
theorem below_walk (s : Int) (a1 : Option Addr) (len cap : Nat) (zs : List Int) (w : World) (ws : (Lit.int .u64 s).wf = true) (hr : IsRow .u64 w a1 len cap zs) :
    Calls Try.prog 4 #[.int .u64 s, .slice a1 len cap] w fun e w' => e = .returned (.bool true) ∧ Below w.heap.size w w' := by
  have hs := u64_rng ws
  clear ws
  by_cases hbig : 300 < len
  · go_enter Try.func4, Try.ntmps4
    go_wp2_with fail
    refine (awake_any w).mono ?_
    rintro e w1 ⟨rfl, b1⟩
    go_wp2_with fail
    refine (awake_any w1).mono ?_
    rintro e w2 ⟨rfl, b2⟩
    go_wp2_with fail
    go_ret
    exact ⟨rfl, b1.trans (b2.mono b1.size)⟩
  · go_enter Try.func4, Try.ntmps4
    go_wp2_with fail
    refine (awake_any w).mono ?_
    rintro e w1 ⟨rfl, b1⟩
    go_wp2_with fail
    refine (new_any _ w1).mono ?_
    rintro e w3 ⟨rfl, rfl⟩
    have hB : Hid (w.heap.size ≤ w1.heap.size) := b1.size
    go_wp2_with fail
    go_loopg [6, 7] len (fun g a i wr => ∃ k : Nat, k ≤ len ∧ g = len - k ∧ i = .int .i64 k ∧ ∃ t : Int, (0 ≤ t ∧ t < 18446744073709551616) ∧ a = .int .u64 t ∧ wr.cell? ⟨w1.heap.size, 0, none⟩ = some (.int .u64 t) ∧ wr.frozen? ⟨w1.heap.size, 0, none⟩ = false ∧ Below w.heap.size w wr)
    case atStart => exact ⟨0, Nat.zero_le _, rfl, rfl, s, hs, rfl, cell_new1 _ _ _ _ rfl, froz_new1 _ _ _ _ rfl, b1.alloc hB.out _⟩
    case round =>
      clear b1
      obtain ⟨k, hk, hg, rfl, t, ht, rfl, hc, hf, hb⟩ := hrel
      have HG := Lib.hid hg
      clear hg
      by_cases hlt : k < len
      · obtain ⟨b, off, rfl, hbs, hcs⟩ := hr.cells (by omega)
        have hx := hcs k hlt
        have hxr := u64_rng (hr.wf k hlt)
        clear hcs
        generalize zs.getD k 0 = x at hx hxr
        have hx1 : wr.cell? ⟨b, off + k, none⟩ = some (.int .u64 x) := (hb.cell (by exact hbs)).trans hx
        have hbB : b ≠ w1.heap.size := by have := hB.out; omega
        have hx2 : ∀ v, (wr.setCell ⟨w1.heap.size, 0, none⟩ v).cell? ⟨b, off + k, none⟩ = some (.int .u64 x) := fun v => by
          rw [World.cell?_setCell_other _ _ _ _ (fun e => hbB (congrArg Addr.block e).symm)]; exact hx1
        clear hx
        go_wp2_with fail
        refine (below_any t x ht hxr _ _ hc hf).mono ?_
        rintro e w4 ⟨rfl, rfl⟩
        have hc4 := World.cell?_setCell_same wr ⟨w1.heap.size, 0, none⟩ (.int .u64 (belS t x)) hc
        have hx4 := hx2 (.int .u64 (belS t x))
        clear hx2
        go_wp2_with fail
        refine (rbelow_any t x ht hxr _).mono ?_
        rintro e w4 ⟨rfl, rfl⟩
        go_wp2_with fail
        refine (seed_any _ _ _ hc4).mono ?_
        rintro e w4 ⟨rfl, rfl⟩
        have hts := belS_rng t x ht
        by_cases h0 : 0 < x
        · have hv := belV_rng t x h0
          go_wp2_with fail
          go_roundg (len - (k + 1))
          case measure => rw [HG.out]; omega
          case rel => exact ⟨k + 1, by omega, rfl, by go_num, belS t x, hts, rfl, hc4, by rw [World.frozen?_setCell]; exact hf, hb.setCell hB.out _⟩
        · go_wp2_with fail
          go_roundg (len - (k + 1))
          case measure => rw [HG.out]; omega
          case rel => exact ⟨k + 1, by omega, rfl, by go_num, belS t x, hts, rfl, hc4, by rw [World.frozen?_setCell]; exact hf, hb.setCell hB.out _⟩
      · go_wp2
        go_ret
        exact ⟨rfl, hb⟩
end Go.Proofs.Ytpnakfagpklkoaa
