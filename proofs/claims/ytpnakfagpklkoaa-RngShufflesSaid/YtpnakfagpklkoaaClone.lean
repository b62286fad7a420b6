/- The contract of slices.Clone at []int. -/
import Derived.Test.YtpnakfagpklkoaaBelow
import Derived.Laws.AppendOwnNone
namespace Go.Proofs.Ytpnakfagpklkoaa
open Go.RowKit

theorem info3 : (Try.prog.info? 3).map (fun i => (i.zero, i.size, i.bytes)) = some (some (.int .i64 0), 1, 8) := by kernel_rfl

/-- what a clone leaves: a slice of the call's own that holds the numbers -/
def Made (B : Nat) (n : Nat) (ys : List Int) (w : World) (e : Ending) (w' : World) : Prop :=
  ∃ v, e = .returned v ∧ w'.ownsRow B 3 1 v n (ys.map (Value.int .i64)) ∧ Below B w w'

set_option maxHeartbeats 400000 in
theorem clone_some (x : Addr) (len cap : Nat) (zs : List Int) (w : World) (hl : len ≤ 1000) (hz : len ≤ zs.length) (hc : ∀ i, i < len → w.cell? (x.add i) = some (.int .i64 (zs.getD i 0))) :
    Calls Try.prog 19 #[.slice (some x) len cap] w (Made w.heap.size len (zs.take len) w) := by
  obtain ⟨i0, hi, hz0, hz1, hz2⟩ := info_parts info3
  have hnil := Lib.run_eql_slice_nil (P := Try.prog) w 35 3 (some x) len cap 0 0 Try.underlying35
  go_enter Try.func19, Try.ntmps19
  go_wp2_with (at_builtin; refine wpList_append_own _ rfl _ _ 35 rfl w.heap.size 3 i0 (.int .i64 0) 1 8 Try.underlying35 hi hz0 hz1 hz2 rfl (by decide) _ _ _ rfl (World.ownsRow_made w #[] 0 (Nat.le_refl _) (by unfold maxLen; omega) rfl) x len cap ((zs.take len).map (.int .i64)) rfl ?c0 ?c1 ?c2 ?c3 ?c4 ?c5 ?_)
  case c0 => simp; omega
  case c1 =>
    intro j u hj
    have hjl : j < len := by
      rcases Nat.lt_or_ge j len with h | h
      · exact h
      · rw [List.getElem?_eq_none (by simp; omega)] at hj; cases hj
    rw [World.cell?_alloc_lt _ _ _ (World.block_lt_of_cell? w _ (hc j hjl)), hc j hjl]
    rw [← hj]
    simp [hjl, List.getElem?_eq_getElem (show j < zs.length by omega)]
  case c2 => exact ints_oneCell _ _
  case c3 => unfold maxLen; omega
  case c4 => omega
  case c5 => simp
  intro v' w1 hown hgr _
  go_wp2
  refine bodyPost_ret (v := v') (by simp [results, Try.results19, go_sem]) rfl ?_
  exact ⟨v', rfl, by simpa using hown, ((Below.refl _ w).alloc (Nat.le_refl _) _).grown hgr (by simp) (by intro k hk; simp [Value.ownBlock] at hk; omega)⟩

set_option maxHeartbeats 400000 in
theorem clone_nil (w : World) :
    Calls Try.prog 19 #[.slice none 0 0] w (Made w.heap.size 0 [] w) := by
  have hnil := Lib.run_eql_slice_nil (P := Try.prog) w 35 3 none 0 0 0 0 Try.underlying35
  go_enter Try.func19, Try.ntmps19
  go_wp2_with fail
  refine bodyPost_ret (v := .slice none 0 0) (by simp [results, Try.results19, go_sem]) rfl ?_
  exact ⟨_, rfl, World.ownsRow_nil _ _ _ _, Below.refl _ _⟩

/-- the elements of a slice of integers, wherever they lie -/
def Seen (w : World) (a : Option Addr) (len cap : Nat) (zs : List Int) : Prop :=
  (a = none ∧ len = 0 ∧ cap = 0) ∨ ∃ x, a = some x ∧ len ≤ zs.length ∧ ∀ i, i < len → w.cell? (x.add i) = some (.int .i64 (zs.getD i 0))

theorem IsRow.seen {w : World} {a : Option Addr} {len cap : Nat} {zs : List Int} (h : IsRow .i64 w a len cap zs) : Seen w a len cap zs := by
  rcases h with ⟨rfl, rfl, rfl, rfl⟩ | ⟨x, rfl, h1, h2, h3, hc, h4⟩
  · exact .inl ⟨rfl, rfl, rfl⟩
  · exact .inr ⟨x, rfl, by omega, fun i hi => hc i (by omega)⟩

/-- one append of a slice of integers, nil or not, onto a slice of the call's own -/
theorem append_seen (w : World) {ops : Array Oper} {rest : List Oper} {o : Oper} {a : Act} {Q : Exit → Act → World → Prop} (hgd : o.guard = none)
    (s x : Operand) (ho : o.op = Op.call { callee := Callee.builtin Builtin.append, args := #[s, x], argTypes := #[35, 35] }) (base : Nat)
    (v : Value) (n : Nat) (xs : List Value) (hs : a.eval s = v) (hown : w.ownsRow base 3 1 v n xs) (ao : Option Addr) (m c : Nat) (zs : List Int)
    (hx : a.eval x = Value.slice ao m c) (hr : Seen w ao m c zs) (hb : n + m ≤ 100000) (hbase : base ≤ w.heap.size)
    (h : ∀ (v' : Value) (w' : World), w'.ownsRow base 3 1 v' (n + m) (xs ++ (zs.take m).map (Value.int .i64)) → w.grownBy w' v.ownBlock → wpList Try.prog ops Q rest (a.put o.dst v') w') :
    wpList Try.prog ops Q (o :: rest) a w := by
  obtain ⟨i0, hi, hz0, hz1, hz2⟩ := info_parts info3
  rcases hr with ⟨rfl, rfl, rfl⟩ | ⟨x', rfl, h1, hc⟩
  · exact wpList_append_own_none hgd s x 35 ho base 3 i0 1 Try.underlying35 hi v n xs hs hown hx (h v w (by simpa using hown) (World.grownBy.refl _ _))
  · refine wpList_append_own w hgd s x 35 ho base 3 i0 (.int .i64 0) 1 8 Try.underlying35 hi hz0 hz1 hz2 rfl (by decide) v n xs hs hown x' m c ((zs.take m).map (Value.int .i64)) hx ?_ ?_ (ints_oneCell _ _) (by unfold maxLen; omega) (by omega) hbase
      (fun v' w' h1 h2 _ => h v' w' h1 h2)
    · simp; omega
    · intro j u hj
      have hjl : j < m := by
        rcases Nat.lt_or_ge j m with h | h
        · exact h
        · rw [List.getElem?_eq_none (by simp; omega)] at hj; cases hj
      rw [hc j hjl, ← hj]
      simp [hjl, List.getElem?_eq_getElem (show j < zs.length by omega)]

theorem Seen.below {w w' : World} {a : Option Addr} {len cap : Nat} {zs : List Int} (h : Seen w a len cap zs) (hb : Below w.heap.size w w') : Seen w' a len cap zs := by
  rcases h with h | ⟨x, rfl, h1, hc⟩
  · exact .inl h
  · exact .inr ⟨x, rfl, h1, fun i hi => (hb.cell (World.block_lt_of_cell? w _ (hc i hi))).trans (hc i hi)⟩

theorem owns_form {w : World} {B e sz : Nat} {v : Value} {n : Nat} {xs : List Value} (h : w.ownsRow B e sz v n xs) : ∃ ao cap, v = .slice ao n cap := by
  rcases h.2 with ⟨rfl, rfl⟩ | ⟨g, cap, cur, rfl, _⟩
  · exact ⟨_, _, rfl⟩
  · exact ⟨_, _, rfl⟩

theorem owns_some {w : World} {B e sz : Nat} {ao : Option Addr} {n cap : Nat} {xs : List Value} (h : w.ownsRow B e sz (.slice ao n cap) n xs) (hn : 0 < n) : ∃ g, ao = some ⟨g, 0, none⟩ ∧ B ≤ g := by
  rcases h.2 with ⟨_, h0⟩ | ⟨g, cap', cur, hv, hg, _⟩
  · omega
  · simp only [Value.slice.injEq] at hv
    exact ⟨g, hv.1, hg⟩

theorem get_map (xs : List Int) (i : Nat) (h : i < xs.length) : (xs.map (Value.int .i64))[i]? = some (.int .i64 (xs.getD i 0)) := by
  simp [List.getD_eq_getElem?_getD, List.getElem?_eq_getElem h]

/-- what the call's own row holds is seen -/
theorem owns_seen {w : World} {B : Nat} {ao : Option Addr} {n cap : Nat} {ys : List Int} (h : w.ownsRow B 3 1 (.slice ao n cap) n (ys.map (Value.int .i64))) : Seen w ao n cap ys := by
  have hl : ys.length = n := by have := h.1; simpa using this
  rcases h.2 with ⟨hv, _⟩ | ⟨g, cap', cur, hv, hg, _⟩
  · simp only [Value.slice.injEq] at hv
    exact .inl hv
  · simp only [Value.slice.injEq] at hv
    obtain ⟨rfl, _, rfl⟩ := hv
    refine .inr ⟨_, rfl, by omega, fun i hi => ?_⟩
    rw [addr_add, Nat.zero_add, h.cellAt i (by omega), get_map ys i (by omega)]

theorem owns_below {w w' : World} {B e sz : Nat} {v : Value} {n : Nat} {xs : List Value} (h : w.ownsRow B e sz v n xs) (hb : Below w.heap.size w w') : w'.ownsRow B e sz v n xs :=
  h.kept (row := none) ⟨hb.os, hb.tape, hb.output, hb.size, fun k hk _ => hb.block k hk⟩ (by cases v.ownBlock <;> simp)

/-- a slice of integers, cloned -/
theorem clone_row (a : Option Addr) (len cap : Nat) (zs : List Int) (w : World) (hr : Seen w a len cap zs) (hl : len ≤ 1000) :
    Calls Try.prog 19 #[.slice a len cap] w (Made w.heap.size len (zs.take len) w) := by
  rcases hr with ⟨rfl, rfl, rfl⟩ | ⟨x, rfl, h1, hc⟩
  · exact clone_nil w
  · exact clone_some x len cap zs w hl h1 hc

/-- a slice that came in is there still -/
theorem IsRow.below {k : IntKind} {w w' : World} {a : Option Addr} {len cap : Nat} {zs : List Int} (h : IsRow k w a len cap zs) (hb : Below w.heap.size w w') : IsRow k w' a len cap zs := by
  rcases h with h | ⟨x, rfl, h1, h2, h3, hc, h4⟩
  · exact .inl h
  · exact .inr ⟨x, rfl, h1, h2, h3, fun i hi => (hb.cell (World.block_lt_of_cell? w _ (hc i hi))).trans (hc i hi), h4⟩
end Go.Proofs.Ytpnakfagpklkoaa
