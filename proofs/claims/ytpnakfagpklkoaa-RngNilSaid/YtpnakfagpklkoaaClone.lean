/- The contract of slices.Clone at []int. -/
import Derived.Test.YtpnakfagpklkoaaBelow
namespace Go.Proofs.Ytpnakfagpklkoaa
open Go.RowKit

theorem info3 : (Try.prog.info? 3).map (fun i => (i.zero, i.size, i.bytes)) = some (some (.int .i64 0), 1, 8) := by kernel_rfl

/-- what a clone leaves: a slice of the call's own that holds the numbers -/
def Made (B : Nat) (n : Nat) (ys : List Int) (w : World) (e : Ending) (w' : World) : Prop :=
  ∃ v, e = .returned v ∧ w'.ownsRow B 3 1 v n (ys.map (Value.int .i64)) ∧ Below B w w'

set_option maxHeartbeats 400000 in
theorem clone_some (x : Addr) (len cap : Nat) (zs : List Int) (w : World) (hl : len ≤ 1000) (hz : len ≤ zs.length) (hc : ∀ i, i < len → w.cell? (x.add i) = some (.int .i64 (zs.getD i 0))) :
    Calls Try.prog 19 #[.slice (some x) len cap] w (Made w.heap.size len (zs.take len) w) := by
  obtain ⟨i0, hi, hz0, hz1, hz2⟩ := info_parts info3
  have hnil := Lib.run_eql_slice_nil (P := Try.prog) w 35 3 (some x) len cap 0 0 Try.underlying35
  go_enter Try.func19, Try.ntmps19
  go_wp2_with (at_builtin; refine wpList_append_own _ rfl _ _ 35 rfl w.heap.size 3 i0 (.int .i64 0) 1 8 Try.underlying35 hi hz0 hz1 hz2 rfl (by decide) _ _ _ rfl (World.ownsRow_made w #[] 0 (Nat.le_refl _) (by unfold maxLen; omega) rfl) x len cap ((zs.take len).map (.int .i64)) rfl ?c0 ?c1 ?c2 ?c3 ?c4 ?c5 ?_)
  case c0 => simp; omega
  case c1 =>
    intro j u hj
    have hjl : j < len := by
      rcases Nat.lt_or_ge j len with h | h
      · exact h
      · rw [List.getElem?_eq_none (by simp; omega)] at hj; cases hj
    rw [World.cell?_alloc_lt _ _ _ (World.block_lt_of_cell? w _ (hc j hjl)), hc j hjl]
    rw [← hj]
    simp [hjl, List.getElem?_eq_getElem (show j < zs.length by omega)]
  case c2 => exact ints_oneCell _ _
  case c3 => unfold maxLen; omega
  case c4 => omega
  case c5 => simp
  intro v' w1 hown hgr _
  go_wp2
  refine bodyPost_ret (v := v') (by simp [results, Try.results19, go_sem]) rfl ?_
  exact ⟨v', rfl, by simpa using hown, ((Below.refl _ w).alloc (Nat.le_refl _) _).grown hgr (by simp) (by intro k hk; simp [Value.ownBlock] at hk; omega)⟩

set_option maxHeartbeats 400000 in
theorem clone_nil (w : World) :
    Calls Try.prog 19 #[.slice none 0 0] w (Made w.heap.size 0 [] w) := by
  have hnil := Lib.run_eql_slice_nil (P := Try.prog) w 35 3 none 0 0 0 0 Try.underlying35
  go_enter Try.func19, Try.ntmps19
  go_wp2_with fail
  refine bodyPost_ret (v := .slice none 0 0) (by simp [results, Try.results19, go_sem]) rfl ?_
  exact ⟨_, rfl, World.ownsRow_nil _ _ _ _, Below.refl _ _⟩

/-- a slice of integers that came in, cloned -/
theorem clone_row (a : Option Addr) (len cap : Nat) (zs : List Int) (w : World) (hr : IsRow .i64 w a len cap zs) (hl : len ≤ 1000) :
    Calls Try.prog 19 #[.slice a len cap] w (Made w.heap.size len (zs.take len) w) := by
  rcases hr with ⟨rfl, rfl, rfl, rfl⟩ | ⟨x, rfl, h1, h2, h3, hc, h4⟩
  · exact clone_nil w
  · exact clone_some x len cap zs w hl (by omega) (fun i hi => hc i (by omega))

/-- a slice that came in is there still -/
theorem IsRow.below {k : IntKind} {w w' : World} {a : Option Addr} {len cap : Nat} {zs : List Int} (h : IsRow k w a len cap zs) (hb : Below w.heap.size w w') : IsRow k w' a len cap zs := by
  rcases h with h | ⟨x, rfl, h1, h2, h3, hc, h4⟩
  · exact .inl h
  · exact .inr ⟨x, rfl, h1, h2, h3, fun i hi => (hb.cell (World.block_lt_of_cell? w _ (hc i hi))).trans (hc i hi), h4⟩
end Go.Proofs.Ytpnakfagpklkoaa
