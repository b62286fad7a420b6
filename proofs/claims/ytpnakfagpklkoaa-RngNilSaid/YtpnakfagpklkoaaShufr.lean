/- The contract of the document's Shuffle, and of the program's at no source. -/
import Derived.Test.YtpnakfagpklkoaaShuf
import Derived.Laws.AppendOwnNone
namespace Go.Proofs.Ytpnakfagpklkoaa
open Go.RowKit

/-- what the document's shuffle leaves -/
def ShuffledR (len : Nat) (s : Int) (ys : List Int) (w : World) (e : Ending) (w' : World) : Prop :=
  ∃ v, e = .returned (.tuple #[v, .int .u64 (shuf len s ys).2]) ∧ w'.ownsRow w.heap.size 3 1 v len ((shuf len s ys).1.map (Value.int .i64)) ∧ Below w.heap.size w w'

set_option maxHeartbeats 400000 in
theorem shuffle_none (a1 : Option Addr) (len cap : Nat) (zs : List Int) (w : World) (hr : Seen w a1 len cap zs) (hl : len ≤ 1000) :
    Calls Try.prog 17 #[.pointer none, .slice a1 len cap] w (Made w.heap.size len (zs.take len) w) := by
  go_enter Try.func17, Try.ntmps17
  go_wp2_with fail
  refine (clone_row a1 len cap zs w hr hl).mono ?_
  rintro e w1 ⟨v, rfl, hown, hbel⟩
  go_wp2_with fail
  refine bodyPost_ret (v := v) (by simp [results, Try.results17, go_sem]) rfl ?_
  exact ⟨v, rfl, hown, hbel⟩

set_option maxHeartbeats 400000 in
theorem rshuffle_none (s : Int) (w : World) :
    Calls Try.prog 18 #[.int .u64 s, .slice none 0 0] w (ShuffledR 0 s [] w) := by
  obtain ⟨i0, hi, hz0, hz1, hz2⟩ := info_parts info3
  go_enter Try.func18, Try.ntmps18
  go_wp2_with (at_builtin; refine wpList_append_own_none rfl _ _ 35 rfl w.heap.size 3 i0 1 Try.underlying35 hi _ _ _ rfl (World.ownsRow_nil _ _ _ _) rfl ?_)
  refine wp_loop_rounds 1 ?_
  rw [rounds_succ]
  go_wp2_with fail
  refine bodyPost_ret (v := .tuple #[.slice none 0 0, .int .u64 s]) (by simp [results, Try.results18, go_sem]) rfl ?_
  exact ⟨_, rfl, World.ownsRow_nil _ _ _ _, Below.refl _ _⟩

set_option maxHeartbeats 400000 in
theorem rshuffle_some (s : Int) (hs : 0 ≤ s ∧ s < 18446744073709551616) (x : Addr) (len cap : Nat) (zs : List Int) (w : World) (hl : len ≤ 1000) (hz : len ≤ zs.length)
    (hc : ∀ i, i < len → w.cell? (x.add i) = some (.int .i64 (zs.getD i 0))) (ys : List Int) (hy : zs.take len = ys) :
    Calls Try.prog 18 #[.int .u64 s, .slice (some x) len cap] w (ShuffledR len s ys w) := by
  obtain ⟨i0, hi, hz0, hz1, hz2⟩ := info_parts info3
  have HY := Lib.hid hy
  clear hy
  go_enter Try.func18, Try.ntmps18
  go_wp2_with (at_builtin; refine wpList_append_own _ rfl _ _ 35 rfl w.heap.size 3 i0 (.int .i64 0) 1 8 Try.underlying35 hi hz0 hz1 hz2 rfl (by decide) _ _ _ rfl (World.ownsRow_nil _ _ _ _) x len cap ((zs.take len).map (.int .i64)) rfl ?c0 ?c1 ?c2 ?c3 ?c4 ?c5 ?_)
  case c0 => simp; omega
  case c1 =>
    intro j u hj
    have hjl : j < len := by
      rcases Nat.lt_or_ge j len with h | h
      · exact h
      · rw [List.getElem?_eq_none (by simp; omega)] at hj; cases hj
    rw [hc j hjl]
    rw [← hj]
    simp [hjl, List.getElem?_eq_getElem (show j < zs.length by omega)]
  case c2 => exact ints_oneCell _ _
  case c3 => unfold maxLen; omega
  case c4 => omega
  case c5 => simp
  intro v w1 hown hgr hnil
  replace hown : w1.ownsRow w.heap.size 3 1 v len (ys.map (Value.int .i64)) := by rw [← HY.out]; simpa using hown
  have hzl : ys.length = len := by have := hown.1; simpa using this
  have HZ := Lib.hid hzl
  have HN := Lib.hid hnil
  have hbel : Below w.heap.size w w1 := (Below.refl _ w).grown hgr (Nat.le_refl _) (by intro k hk; simp [Value.ownBlock] at hk)
  clear hzl hnil hgr hc
  rcases hown.2 with ⟨rfl, h0⟩ | ⟨g, cap1, cur, rfl, hgB, _⟩
  · subst h0
    go_wp2_with fail
    refine wp_loop_rounds 1 ?_
    rw [rounds_succ]
    go_wp2_with fail
    refine bodyPost_ret (v := .tuple #[.slice none 0 0, .int .u64 s]) (by simp [results, Try.results18, go_sem]) rfl ?_
    exact ⟨_, rfl, hown, hbel⟩
  · go_wp2_with fail
    go_loopg [0, 7] len (fun m st i wr => ∃ n : Nat, m = n ∧ n ≤ len ∧ i = .int .i64 ((n : Int) - 1) ∧ ∃ (t : Int) (xs : List Int), st = .int .u64 t ∧ (0 ≤ t ∧ t < 18446744073709551616) ∧ xs.length = len ∧ shuf n t xs = shuf len s ys ∧
      wr.ownsRow w.heap.size 3 1 (.slice (some ⟨g, 0, none⟩) len cap1) len (xs.map (Value.int .i64)) ∧ Below w.heap.size w wr)
    case atStart => exact ⟨len, rfl, Nat.le_refl _, rfl, s, ys, rfl, hs, HZ.out, rfl, hown, hbel⟩
    case round =>
      clear hown hbel
      obtain ⟨n, hm, hn, rfl, t, xs, rfl, ht, hxl, hsh, hown, hbel⟩ := hrel
      have HM := Lib.hid hm
      have HX := Lib.hid hxl
      have HS := Lib.hid hsh
      clear hm hxl hsh
      by_cases h2 : 2 ≤ n
      · obtain ⟨m, rfl⟩ : ∃ m, n = m + 2 := ⟨n - 2, by omega⟩
        rw [show (((m + 2 : Nat) : Int) - 1) = ((m + 1 : Nat) : Int) by omega]
        go_wp2_with fail
        rw [show ((m : Int) + 1 + 1) = (m : Int) + 2 by omega]
        refine (rbelow_any t ((m : Int) + 2) ht (by omega) wr).mono ?_
        rintro e w4 ⟨rfl, rfl⟩
        have hts := belS_rng t ((m : Int) + 2) ht
        have hkr := belV_rng t ((m : Int) + 2) (by omega)
        obtain ⟨k, hk⟩ := Int.eq_ofNat_of_zero_le hkr.1
        have HK := Lib.hid hk
        rw [hk] at hkr
        rw [hk]
        clear hk
        have hkl : k < m + 2 := by have := hkr.2; clear hts ht hs; omega
        have hi : wr.cell? ⟨g, m + 1, none⟩ = some (.int .i64 (xs.getD (m + 1) 0)) := by
          rw [hown.cellAt (m + 1) (by omega)]; exact get_map xs (m + 1) (by rw [HX.out]; omega)
        have hj : wr.cell? ⟨g, k, none⟩ = some (.int .i64 (xs.getD k 0)) := by
          rw [hown.cellAt k (by omega)]; exact get_map xs k (by rw [HX.out]; omega)
        have hfi := hown.frozenAt (m + 1)
        have hfj := hown.frozenAt k
        have HO := Lib.hid hown
        obtain ⟨x1, hx1⟩ : ∃ x, x = xs.getD (m + 1) 0 := ⟨_, rfl⟩
        obtain ⟨x2, hx2⟩ : ∃ x, x = xs.getD k 0 := ⟨_, rfl⟩
        rw [← hx1] at hi
        rw [← hx2] at hj
        have HX1 := Lib.hid hx1
        have HX2 := Lib.hid hx2
        obtain ⟨v', hy'⟩ := cell?_setCell_some (w := wr) (p := ⟨g, m + 1, none⟩) (x := .int .i64 x2) (q := ⟨g, k, none⟩) (v := .int .i64 x2) hj
        have hi0 : ((m : Int) + 1) < (len : Int) := by omega
        have hj0 : (k : Int) < (len : Int) := by omega
        clear hx1 hx2 hown
        go_wp2_with fail
        go_roundg (m + 1)
        case measure => rw [HM.out]; omega
        case rel =>
          have ho1 := (HO.out.stored (m + 1) (.int .i64 x2)).1
          have ho2 := (ho1.stored k (.int .i64 x1)).1
          have hx : ((xs.map (Value.int .i64)).set (m + 1) (.int .i64 x2)).set k (.int .i64 x1) = (swapAt xs (m + 1) k).map (Value.int .i64) := by
            rw [HX1.out, HX2.out]; simp [swapAt, List.map_set]
          rw [hx] at ho2
          refine ⟨m + 1, rfl, by omega, by go_num, belS t ((m : Int) + 2), swapAt xs (m + 1) k, rfl, hts, by rw [swapAt_length, HX.out], ?_, ho2, (hbel.setCell hgB _).setCell hgB _⟩
          rw [← HS.out]; show _ = shuf (m + 1) (belS t ((m : Int) + 2)) (swapAt xs (m + 1) (belV t ((m : Int) + 2)).toNat); rw [HK.out]; rfl
      · go_wp2_with fail
        refine bodyPost_ret (v := .tuple #[.slice (some ⟨g, 0, none⟩) len cap1, .int .u64 t]) (by simp [results, Try.results18, go_sem]) rfl ?_
        have hx : shuf n t xs = (xs, t) := by
          match n, h2 with
          | 0, _ => rfl
          | 1, _ => rfl
          | n + 2, h2 => omega
        rw [HS.out] at hx
        refine ⟨_, by rw [hx], ?_, hbel⟩
        rw [hx]; exact hown

/-- the document's shuffle of a slice of integers that came in -/
theorem rshuffle_any (s : Int) (hs : 0 ≤ s ∧ s < 18446744073709551616) (a1 : Option Addr) (len cap : Nat) (zs : List Int) (w : World) (hr : Seen w a1 len cap zs) (hl : len ≤ 1000) (ys : List Int) (hy : zs.take len = ys) :
    Calls Try.prog 18 #[.int .u64 s, .slice a1 len cap] w (ShuffledR len s ys w) := by
  rcases hr with ⟨rfl, rfl, rfl⟩ | ⟨x, rfl, h1, hc⟩
  · simp at hy; subst hy; exact rshuffle_none s w
  · exact rshuffle_some s hs x len cap zs w hl h1 hc ys hy
end Go.Proofs.Ytpnakfagpklkoaa
