/- The contracts of Shuffle, the program's and the document's: both give the same order and leave the same seed. -/
import Derived.Test.YtpnakfagpklkoaaClone
import Derived.RegionTactic
import Derived.BigRegion
import Derived.ChangeAlike
import Derived.Maps.AppendAt
namespace Go.Proofs.Ytpnakfagpklkoaa
open Go.RowKit

/-- two places change what they hold -/
def swapAt (ys : List Int) (i k : Nat) : List Int := (ys.set i (ys.getD k 0)).set k (ys.getD i 0)

/-- the order of the chapter: 'n' places are still to be drawn -/
noncomputable def shuf : Nat → Int → List Int → List Int × Int
  | 0, s, ys => (ys, s)
  | 1, s, ys => (ys, s)
  | n + 2, s, ys => shuf (n + 1) (belS s (n + 2)) (swapAt ys (n + 1) (belV s (n + 2)).toNat)

theorem swapAt_length (ys : List Int) (i k : Nat) : (swapAt ys i k).length = ys.length := by simp [swapAt]

/-- what a shuffle leaves -/
def Shuffled (a : Addr) (len : Nat) (s : Int) (ys : List Int) (w : World) (e : Ending) (w' : World) : Prop :=
  ∃ v, e = .returned v ∧ w'.ownsRow w.heap.size 3 1 v len ((shuf len s ys).1.map (Value.int .i64)) ∧ w'.cell? a = some (.int .u64 (shuf len s ys).2) ∧ w'.frozen? a = false ∧ w.grownBy w' (some a.block)

set_option maxHeartbeats 400000 in
theorem shuffle_any (s : Int) (hs : 0 ≤ s ∧ s < 18446744073709551616) (a : Addr) (a1 : Option Addr) (len cap : Nat) (zs : List Int) (w : World) (hc : w.cell? a = some (.int .u64 s)) (hf : w.frozen? a = false)
    (hr : Seen w a1 len cap zs) (hl : len ≤ 1000) (ys : List Int) (hy : zs.take len = ys) :
    Calls Try.prog 17 #[.pointer (some a), .slice a1 len cap] w (Shuffled a len s ys w) := by
  have HY := Lib.hid hy
  clear hy
  have hab := World.block_lt_of_cell? w a hc
  go_enter Try.func17, Try.ntmps17
  go_wp2_with fail
  refine (clone_row a1 len cap zs w hr hl).mono ?_
  rintro e w1 ⟨v, rfl, hown, hbel⟩
  rw [HY.out] at hown
  have hzl : ys.length = len := by have := hown.1; simpa using this
  have hc1 : w1.cell? a = some (.int .u64 s) := (hbel.cell hab).trans hc
  have hf1 : w1.frozen? a = false := (hbel.frozen hab).trans hf
  have hg1 : w.grownBy w1 (some a.block) := ⟨hbel.os, hbel.tape, hbel.output, hbel.size, fun k hk _ => hbel.block k hk⟩
  have HZ := Lib.hid hzl
  clear hzl
  rcases hown.2 with ⟨rfl, rfl⟩ | ⟨g, cap1, cur, rfl, hgB, _⟩
  · go_wp2_with fail
    refine wp_loop_rounds 1 ?_
    rw [rounds_succ]
    go_wp2_with fail
    refine bodyPost_ret (v := .slice none 0 0) (by simp [results, Try.results17, go_sem]) rfl ?_
    exact ⟨_, rfl, hown, hc1, hf1, hg1⟩
  · clear hc hf hbel hr
    go_wp2_with fail
    go_loopg [6] len (fun m i wr => ∃ n : Nat, m = n ∧ n ≤ len ∧ i = .int .i64 ((n : Int) - 1) ∧ ∃ (t : Int) (xs : List Int), (0 ≤ t ∧ t < 18446744073709551616) ∧ xs.length = len ∧ shuf n t xs = shuf len s ys ∧
      wr.cell? a = some (.int .u64 t) ∧ wr.frozen? a = false ∧ wr.ownsRow w.heap.size 3 1 (.slice (some ⟨g, 0, none⟩) len cap1) len (xs.map (Value.int .i64)) ∧ w.grownBy wr (some a.block))
    case atStart => exact ⟨len, rfl, Nat.le_refl _, rfl, s, ys, hs, HZ.out, rfl, hc1, hf1, hown, hg1⟩
    case round =>
      clear hc1 hf1 hown hg1
      obtain ⟨n, hm, hn, rfl, t, xs, ht, hxl, hsh, hc, hf, hown, hg⟩ := hrel
      have HM := Lib.hid hm
      have HX := Lib.hid hxl
      have HS := Lib.hid hsh
      clear hm hxl hsh
      by_cases h2 : 2 ≤ n
      · obtain ⟨m, rfl⟩ : ∃ m, n = m + 2 := ⟨n - 2, by omega⟩
        rw [show (((m + 2 : Nat) : Int) - 1) = ((m + 1 : Nat) : Int) by omega]
        go_wp2_with fail
        rw [show ((m : Int) + 1 + 1) = (m : Int) + 2 by omega]
        refine (below_any t ((m : Int) + 2) ht (by omega) a wr hc hf).mono ?_
        rintro e w4 ⟨rfl, rfl⟩
        have hts := belS_rng t ((m : Int) + 2) ht
        have hkr := belV_rng t ((m : Int) + 2) (by omega)
        have hc4 := World.cell?_setCell_same wr a (.int .u64 (belS t ((m : Int) + 2))) hc
        have hf4 : (wr.setCell a (.int .u64 (belS t ((m : Int) + 2)))).frozen? a = false := by rw [World.frozen?_setCell]; exact hf
        have hg4 : w.grownBy (wr.setCell a (.int .u64 (belS t ((m : Int) + 2)))) (some a.block) :=
          ⟨hg.os, hg.tape, hg.output, Nat.le_trans hg.size (by simp), fun k hk hne => by
            rw [Below.heap_setCell _ _ _ _ (fun e => hne (by rw [e]))]; exact hg.block k hk hne⟩
        have hown4 : (wr.setCell a (.int .u64 (belS t ((m : Int) + 2)))).ownsRow w.heap.size 3 1 (.slice (some ⟨g, 0, none⟩) len cap1) len (xs.map (Value.int .i64)) := ownsRow_setCell_below hown hab _
        generalize wr.setCell a (.int .u64 (belS t ((m : Int) + 2))) = wy at hc4 hf4 hg4 hown4 ⊢
        obtain ⟨k, hk⟩ := Int.eq_ofNat_of_zero_le hkr.1
        have HK := Lib.hid hk
        rw [hk] at hkr
        rw [hk]
        clear hk hc hf hg hown
        have hkl : k < m + 2 := by have := hkr.2; clear hts ht hs; omega
        have hi : wy.cell? ⟨g, m + 1, none⟩ = some (.int .i64 (xs.getD (m + 1) 0)) := by
          rw [hown4.cellAt (m + 1) (by omega)]; exact get_map xs (m + 1) (by rw [HX.out]; omega)
        have hj : wy.cell? ⟨g, k, none⟩ = some (.int .i64 (xs.getD k 0)) := by
          rw [hown4.cellAt k (by omega)]; exact get_map xs k (by rw [HX.out]; omega)
        have hfi := hown4.frozenAt (m + 1)
        have hfj := hown4.frozenAt k
        have HO := Lib.hid hown4
        have HC := Lib.hid hc4
        have HF := Lib.hid hf4
        obtain ⟨x1, hx1⟩ : ∃ x, x = xs.getD (m + 1) 0 := ⟨_, rfl⟩
        obtain ⟨x2, hx2⟩ : ∃ x, x = xs.getD k 0 := ⟨_, rfl⟩
        rw [← hx1] at hi
        rw [← hx2] at hj
        have HX1 := Lib.hid hx1
        have HX2 := Lib.hid hx2
        obtain ⟨v', hy'⟩ := cell?_setCell_some (w := wy) (p := ⟨g, m + 1, none⟩) (x := .int .i64 x2) (q := ⟨g, k, none⟩) (v := .int .i64 x2) hj
        have hi0 : ((m : Int) + 1) < (len : Int) := by omega
        have hj0 : (k : Int) < (len : Int) := by omega
        clear hx1 hx2 hown4 hc4 hf4
        go_wp2_with fail
        go_region
        go_wp2_with fail
        go_roundg (m + 1)
        case measure => rw [HM.out]; omega
        case rel =>
          have ho1 := (HO.out.stored (m + 1) (.int .i64 x2)).1
          have ho2 := (ho1.stored k (.int .i64 x1)).1
          have hx : ((xs.map (Value.int .i64)).set (m + 1) (.int .i64 x2)).set k (.int .i64 x1) = (swapAt xs (m + 1) k).map (Value.int .i64) := by
            rw [HX1.out, HX2.out]; simp [swapAt, List.map_set]
          rw [hx] at ho2
          have hag : ∀ j, (⟨g, j, none⟩ : Addr) ≠ a := fun j e => by have := congrArg Addr.block e; simp at this; omega
          refine ⟨m + 1, rfl, by omega, by go_num, belS t ((m : Int) + 2), swapAt xs (m + 1) k, hts, by rw [swapAt_length, HX.out], ?_, ?_, ?_, ho2.drew, ?_⟩
          · rw [← HS.out]; show _ = shuf (m + 1) (belS t ((m : Int) + 2)) (swapAt xs (m + 1) (belV t ((m : Int) + 2)).toNat); rw [HK.out]; rfl
          · rw [World.cell?_drew, World.cell?_setCell_other _ _ _ _ (hag k), World.cell?_setCell_other _ _ _ _ (hag (m + 1))]; exact HC.out
          · rw [World.frozen?_drew, World.frozen?_setCell, World.frozen?_setCell]; exact HF.out
          · refine ⟨hg4.os, hg4.tape, hg4.output, Nat.le_trans hg4.size (by simp), fun j hj hne => ?_⟩
            show (World.setCell _ _ _).heap[j]? = _
            rw [Below.heap_setCell _ _ _ _ (by simp; omega), Below.heap_setCell _ _ _ _ (by simp; omega)]
            exact hg4.block j hj hne
      · go_wp2_with fail
        refine bodyPost_ret (v := .slice (some ⟨g, 0, none⟩) len cap1) (by simp [results, Try.results17, go_sem]) rfl ?_
        have hx : shuf n t xs = (xs, t) := by
          match n, h2 with
          | 0, _ => rfl
          | 1, _ => rfl
          | n + 2, h2 => omega
        rw [HS.out] at hx
        refine ⟨_, rfl, ?_, ?_, hf, hg⟩
        · rw [hx]; exact hown
        · rw [hx]; exact hc
end Go.Proofs.Ytpnakfagpklkoaa
