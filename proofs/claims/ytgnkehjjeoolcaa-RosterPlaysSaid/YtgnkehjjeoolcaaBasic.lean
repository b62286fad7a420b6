/- The contracts of New, Next, List, Clone, and the comparison of find. -/
import Derived.Test.YtgnkehjjeoolcaaWords
namespace Go.Proofs.Ytgnkehjjeoolcaa
open Go.RowKit

set_option maxHeartbeats 400000 in
theorem new_raw (w : World) :
    Calls Try.prog 8 #[] w fun e w' => e = .returned (.pointer (some ⟨w.heap.size, 0, none⟩)) ∧ w' = w.alloc (.cells #[.slice none 0 0, .int .i64 0] 54) := by
  go_enter Try.func8, Try.ntmps8
  go_wp2
  go_ret
  exact ⟨rfl, rfl⟩

set_option maxHeartbeats 400000 in
theorem rnew_raw (w : World) :
    Calls Try.prog 9 #[] w fun e w' => e = .returned (.pointer (some ⟨w.heap.size, 0, none⟩)) ∧ w' = w.alloc (.cells #[.slice none 0 0, .int .i64 1] 38) := by
  go_enter Try.func9, Try.ntmps9
  go_wp2
  go_ret
  exact ⟨rfl, rfl⟩

theorem tab_new (w : World) (B : Nat) (hB : B ≤ w.heap.size) (given : Int) (T : TypeId) : Tab (w.alloc (.cells #[.slice none 0 0, .int .i64 given] T)) B w.heap.size (.slice none 0 0) [] given :=
  ⟨World.cell?_alloc_at _ _ _ _ rfl, World.cell?_alloc_at _ _ _ _ rfl, World.frozen?_alloc_at _ _ _ _ rfl, World.frozen?_alloc_at _ _ _ _ rfl, World.ownsRow_nil _ _ _ _, by simp [Value.ownBlock], hB, by simp; omega⟩

theorem new_any (w : World) (B : Nat) (hB : B ≤ w.heap.size) :
    Calls Try.prog 8 #[] w fun e w' => e = .returned (.pointer (some ⟨w.heap.size, 0, none⟩)) ∧ Tab w' B w.heap.size (.slice none 0 0) [] 0 ∧ Below w.heap.size w w' :=
  (new_raw w).mono fun e w' ⟨he, hw⟩ => ⟨he, by rw [hw]; exact tab_new w B hB 0 54, by rw [hw]; exact (Below.refl _ _).alloc (Nat.le_refl _) _⟩

theorem rnew_any (w : World) (B : Nat) (hB : B ≤ w.heap.size) :
    Calls Try.prog 9 #[] w fun e w' => e = .returned (.pointer (some ⟨w.heap.size, 0, none⟩)) ∧ Tab w' B w.heap.size (.slice none 0 0) [] 1 ∧ Below w.heap.size w w' :=
  (rnew_raw w).mono fun e w' ⟨he, hw⟩ => ⟨he, by rw [hw]; exact tab_new w B hB 1 38, by rw [hw]; exact (Below.refl _ _).alloc (Nat.le_refl _) _⟩

set_option maxHeartbeats 400000 in
theorem next_any (w : World) (p : Nat) (given : Int) (hc : w.cell? ⟨p, 1, none⟩ = some (.int .i64 given)) (hg : 0 ≤ given ∧ given ≤ 2147483647) :
    Calls Try.prog 11 #[.pointer (some ⟨p, 0, none⟩)] w fun e w' => e = .returned (.int .i64 (given + 1)) ∧ w = w' := by
  go_enter Try.func11, Try.ntmps11
  go_wp2
  go_ret
  exact ⟨rfl, rfl⟩

set_option maxHeartbeats 400000 in
theorem next_nil (w : World) :
    Calls Try.prog 11 #[.pointer none] w fun e w' => e = .returned (.int .i64 0) ∧ w = w' := by
  go_enter Try.func11, Try.ntmps11
  go_wp2
  go_ret
  exact ⟨rfl, rfl⟩

/-- the sign by which an entity's ID stands to another -/
def cmpI (a b : Int) : Int := if a < b then -1 else if b < a then 1 else 0

set_option maxHeartbeats 400000 in
theorem cmp_any (e : Ent) (id : Int) (w : World) :
    Calls Try.prog 33 #[.agg e.cells.toArray, .int .i64 id] w fun r w' => r = .returned (.int .i64 (cmpI e.id id)) ∧ w' = w.alloc (.cells e.cells.toArray 32) := by
  have h0 := e.c0
  rcases Int.lt_trichotomy e.id id with h | h | h
  · have h1 : ¬ id < e.id := by omega
    have HR := Lib.hid (show cmpI e.id id = -1 by simp [cmpI, h])
    go_enter Try.func33, Try.ntmps33
    go_wp2
    go_ret
    exact ⟨ret_int HR.out.symm, rfl⟩
  · have h1 : ¬ id < e.id := by omega
    have h2 : ¬ e.id < id := by omega
    have HR := Lib.hid (show cmpI e.id id = 0 by simp [cmpI, h1, h2])
    clear h
    go_enter Try.func33, Try.ntmps33
    go_wp2
    go_ret
    exact ⟨ret_int HR.out.symm, rfl⟩
  · have h1 : ¬ e.id < id := by omega
    have HR := Lib.hid (show cmpI e.id id = 1 by simp [cmpI, h1, h])
    go_enter Try.func33, Try.ntmps33
    go_wp2
    go_ret
    exact ⟨ret_int HR.out.symm, rfl⟩

/-- the entities of a slice, wherever they lie -/
def Seen (w : World) (a : Option Addr) (len cap : Nat) (es : List Ent) : Prop :=
  es.length = len ∧ ((a = none ∧ len = 0 ∧ cap = 0) ∨ ∃ x, a = some x ∧ ∀ j u, (cellsOf es)[j]? = some u → w.cell? (x.add j) = some u)

theorem owns_seen {w : World} {B : Nat} {ao : Option Addr} {cap : Nat} {es : List Ent} (h : w.ownsRow B 32 11 (.slice ao es.length cap) es.length (cellsOf es)) : Seen w ao es.length cap es := by
  refine ⟨rfl, ?_⟩
  rcases h.2 with ⟨hv, _⟩ | ⟨g, cap', cur, hv, hg, _⟩
  · simp only [Value.slice.injEq] at hv
    exact .inl hv
  · simp only [Value.slice.injEq] at hv
    obtain ⟨rfl, _, rfl⟩ := hv
    refine .inr ⟨_, rfl, fun j u hu => ?_⟩
    have hj : j < (cellsOf es).length := (List.getElem?_eq_some_iff.1 hu).1
    rw [cellsOf_len] at hj
    rw [Addr.add_mid, Nat.zero_add, h.cellAt j hj, hu]

/-- what a clone leaves: a slice of the call's own that holds the entities -/
def Made (B : Nat) (es : List Ent) (w : World) (e : Ending) (w' : World) : Prop :=
  ∃ v, e = .returned v ∧ w'.ownsRow B 32 11 v es.length (cellsOf es) ∧ Below B w w'

theorem cellsOf_one (es : List Ent) : ∀ u ∈ cellsOf es, u.oneCell' = true := by
  intro u hu
  obtain ⟨e, _, h⟩ := List.mem_flatMap.1 hu
  exact e.one u h

set_option maxHeartbeats 400000 in
theorem clone_some (x : Addr) (len cap : Nat) (es : List Ent) (w : World) (hl : len ≤ 100000) (hz : es.length = len) (hc : ∀ j u, (cellsOf es)[j]? = some u → w.cell? (x.add j) = some u) :
    Calls Try.prog 28 #[.slice (some x) len cap] w (Made w.heap.size es w) := by
  obtain ⟨i0, hi, hz0, hz1, hz2⟩ := info_parts info32
  have hnil := Lib.run_eql_slice_nil (P := Try.prog) w 36 32 (some x) len cap 0 0 Try.underlying36
  have HZ := Lib.hid hz
  clear hz
  go_enter Try.func28, Try.ntmps28
  go_wp2_with (at_builtin; refine wpList_append_own _ rfl _ _ 36 rfl w.heap.size 32 i0 (.agg Ent.zero.cells.toArray) 11 88 Try.underlying36 hi hz0 hz1 hz2 rfl (by decide) _ _ _ rfl (World.ownsRow_made w #[] 0 (Nat.le_refl _) (by unfold maxLen; omega) rfl) x len cap (cellsOf es) rfl ?c0 ?c1 ?c2 ?c3 ?c4 ?c5 ?_)
  case c0 => rw [cellsOf_len, HZ.out]
  case c1 =>
    intro j u hj
    have h := hc j u hj
    rw [World.cell?_alloc_lt _ _ _ (World.block_lt_of_cell? w _ h)]; exact h
  case c2 => exact cellsOf_one es
  case c3 => unfold maxLen; omega
  case c4 => omega
  case c5 => simp
  intro v' w1 hown hgr _
  go_wp2
  refine bodyPost_ret (v := v') (by simp [results, Try.results28, go_sem]) rfl ?_
  exact ⟨v', rfl, by rw [HZ.out]; simpa using hown, ((Below.refl _ w).alloc (Nat.le_refl _) _).grown hgr (by simp) (by intro k hk; simp [Value.ownBlock] at hk; omega)⟩

set_option maxHeartbeats 400000 in
theorem clone_nil (w : World) :
    Calls Try.prog 28 #[.slice none 0 0] w (Made w.heap.size [] w) := by
  have hnil := Lib.run_eql_slice_nil (P := Try.prog) w 36 32 none 0 0 0 0 Try.underlying36
  go_enter Try.func28, Try.ntmps28
  go_wp2_with fail
  refine bodyPost_ret (v := .slice none 0 0) (by simp [results, Try.results28, go_sem]) rfl ?_
  exact ⟨_, rfl, World.ownsRow_nil _ _ _ _, Below.refl _ _⟩

theorem clone_any (a : Option Addr) (len cap : Nat) (es : List Ent) (w : World) (hr : Seen w a len cap es) (hl : len ≤ 100000) :
    Calls Try.prog 28 #[.slice a len cap] w (Made w.heap.size es w) := by
  obtain ⟨hz, h⟩ := hr
  rcases h with ⟨rfl, rfl, rfl⟩ | ⟨x, rfl, hc⟩
  · rw [List.length_eq_zero_iff.1 hz]; exact clone_nil w
  · exact clone_some x len cap es w hl hz hc

set_option maxHeartbeats 400000 in
theorem list_any (w : World) (B p : Nat) (v : Value) (es : List Ent) (given : Int) (ht : Tab w B p v es given) (hl : es.length ≤ 100000) :
    Calls Try.prog 13 #[.pointer (some ⟨p, 0, none⟩)] w (Made w.heap.size es w) := by
  obtain ⟨ao, cap, rfl, _, _⟩ := owns_form ht.own
  have hc := ht.c0
  have hs := Lib.hid (owns_seen ht.own)
  clear ht
  go_enter Try.func13, Try.ntmps13
  go_wp2_with fail
  refine (clone_any ao _ cap es w hs.out hl).mono ?_
  rintro e w' ⟨v', rfl, hown, hb⟩
  go_wp2_with fail
  refine bodyPost_ret (v := v') (by simp [results, Try.results13, go_sem]) rfl ?_
  exact ⟨v', rfl, hown, hb⟩

set_option maxHeartbeats 400000 in
theorem list_nil (w : World) :
    Calls Try.prog 13 #[.pointer none] w fun e w' => e = .returned (.slice none 0 0) ∧ w = w' := by
  go_enter Try.func13, Try.ntmps13
  go_wp2
  refine bodyPost_ret (v := .slice none 0 0) (by simp [results, Try.results13, go_sem]) rfl ?_
  exact ⟨rfl, rfl⟩
end Go.Proofs.Ytgnkehjjeoolcaa
