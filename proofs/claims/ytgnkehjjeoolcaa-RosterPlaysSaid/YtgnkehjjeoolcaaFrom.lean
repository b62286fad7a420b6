/- The contract of From, where the list is formed. -/
import Derived.Test.YtgnkehjjeoolcaaSame
namespace Go.Proofs.Ytgnkehjjeoolcaa
open Go.RowKit

/-- the ID ahead of place k -/
def lastId (es : List Ent) : Nat → Int
  | 0 => 0
  | k + 1 => match es[k]? with | some e => e.id | none => 0

/-- what From leaves -/
def Formed (es : List Ent) (next : Int) (w : World) (r : Ending) (w' : World) : Prop :=
  ∃ p v, r = .returned (.tuple #[.pointer (some ⟨p, 0, none⟩), .int .i64 0]) ∧ Tab w' w.heap.size p v es (next - 1) ∧ Below w.heap.size w w'

theorem Seen.range {w : World} {a : Option Addr} {len cap : Nat} {es : List Ent} (h : Seen w a len cap es) {k : Nat} {e : Ent} (hk : es[k]? = some e) : ∃ x, a = some x ∧ ∀ j u, e.cells[j]? = some u → w.cell? (x.add (k * 11 + j)) = some u := by
  obtain ⟨h1, h2⟩ := h
  have hlt := (List.getElem?_eq_some_iff.1 hk).1
  rcases h2 with ⟨_, h3, _⟩ | ⟨x, rfl, hc⟩
  · omega
  · refine ⟨x, rfl, fun j u hj => hc _ _ ?_⟩
    have hj11 : j < 11 := by have := (List.getElem?_eq_some_iff.1 hj).1; rw [Ent.len] at this; exact this
    rw [cellsOf_get es k j e hk hj11, hj]

theorem Seen.below {w w' : World} {a : Option Addr} {len cap : Nat} {es : List Ent} (h : Seen w a len cap es) (hb : Below w.heap.size w w') : Seen w' a len cap es := by
  obtain ⟨h1, h2⟩ := h
  refine ⟨h1, ?_⟩
  rcases h2 with h2 | ⟨x, rfl, hc⟩
  · exact .inl h2
  · exact .inr ⟨x, rfl, fun j u hj => (hb.cell (World.block_lt_of_cell? w _ (hc j u hj))).trans (hc j u hj)⟩

set_option maxHeartbeats 1000000 in
theorem from_nil (w : World) (next : Int) (hn : 1 ≤ next ∧ next ≤ 2147483647) :
    Calls Try.prog 20 #[.slice none 0 0, .int .i64 next] w (Formed [] next w) := by
  go_enter Try.func20, Try.ntmps20
  go_wp2_with fail
  refine wp_loop_rounds 1 ?_
  rw [rounds_succ]
  go_wp2_with fail
  refine (clone_nil w).mono ?_
  rintro r w1 ⟨v, rfl, hown, hb⟩
  obtain ⟨ao, cap, rfl, _, _⟩ := owns_form hown
  have HO := Lib.hid hown
  have hsz := hb.size
  clear hown
  go_wp2_with fail
  go_ret2
  refine ⟨w1.heap.size, _, rfl, ⟨World.cell?_alloc_at _ _ _ _ rfl, World.cell?_alloc_at _ _ _ _ rfl, World.frozen?_alloc_at _ _ _ _ rfl, World.frozen?_alloc_at _ _ _ _ rfl, HO.out.alloc _, fun e => ?_, hsz, by simp; omega⟩, hb.alloc hsz _⟩
  have := (HO.out.lt _ e).2
  omega

set_option maxHeartbeats 2000000 in
theorem from_one (w : World) (g : Nat) (e : Ent) (next : Int) (hc : w.rangeAt g 0 e.cells) (h1 : 1 ≤ e.id) (hn : e.id < next ∧ next ≤ 2147483647) :
    Calls Try.prog 20 #[.slice (some ⟨g, 0, none⟩) 1 1, .int .i64 next] w (Formed [e] next w) := by
  have hgl : g < w.heap.size := World.block_lt_of_cell? w _ (hc 0 _ rfl)
  have HC := Lib.hid hc
  have TZ := Lib.hid (there_new w #[.int .i64 0, .int .i64 0, .int .i64 0, .int .i64 0, .int .i64 0, .int .i64 0, .int .i64 0, .int .i64 0, .int .i64 0, .int .i64 0, .int .i64 0] 32 11 rfl)
  obtain ⟨wz, hwz⟩ : ∃ wz, ((w.alloc (.cells #[.int .i64 0, .int .i64 0, .int .i64 0, .int .i64 0, .int .i64 0, .int .i64 0, .int .i64 0, .int .i64 0, .int .i64 0, .int .i64 0, .int .i64 0] 32)).setCells w.heap.size 0 e.cells) = wz := ⟨_, rfl⟩
  have RZ : wz.rangeAt w.heap.size 0 e.cells := by rw [← hwz]; exact World.rangeAt_setCells_same _ _ _ _ TZ.out
  have T0 : Touch w wz (fun _ => False) := by rw [← hwz]; exact Touch.setCells (S := fun _ => False) _ (.inr (Nat.le_refl _)) _ _ _ ((Touch.refl _ _).alloc _)
  have HWZ := Lib.hid hwz
  have r0 : wz.cell? ⟨w.heap.size, 0, none⟩ = some (.int .i64 e.id) := RZ 0 _ rfl
  have bz : Below w.heap.size w wz := T0.below (Nat.le_refl _) (fun _ h => h.elim)
  have HB := Lib.hid bz
  have hcz : wz.rangeAt g 0 e.cells := range_below bz hc hgl
  have hseen : Seen wz (some ⟨g, 0, none⟩) 1 1 [e] := ⟨rfl, .inr ⟨_, rfl, fun j u hj => by
    rw [Addr.add_mid]
    exact hcz j u (by simpa [cellsOf] using hj)⟩⟩
  have HS := Lib.hid hseen
  have hszz : w.heap.size ≤ wz.heap.size := bz.size
  clear RZ T0 hwz bz hcz hseen hc
  go_enter Try.func20, Try.ntmps20
  go_wp2_with fail
  refine wp_loop_rounds 2 ?_
  rw [rounds_succ]
  go_wp2_with (first | (refine load_ent rfl (.tmp 16) rfl _ _ rfl e HC.out ?_) | (refine store_ent rfl (.tmp 8) (.tmp 17) rfl _ _ e rfl rfl TZ.out ?_; rw [HWZ.out]))
  rw [rounds_succ]
  go_wp2_with fail
  refine (clone_any _ 1 1 [e] wz HS.out (by omega)).mono ?_
  rintro r w1 ⟨v, rfl, hown, hb⟩
  obtain ⟨ao, cap, rfl, _, _⟩ := owns_form hown
  have HO := Lib.hid (owns_base hown hszz)
  have hsz := Nat.le_trans hszz hb.size
  have HB1 := Lib.hid (HB.out.trans (hb.mono hszz))
  clear hown hb
  go_wp2_with fail
  go_ret2
  refine ⟨w1.heap.size, _, rfl, ⟨World.cell?_alloc_at _ _ _ _ rfl, World.cell?_alloc_at _ _ _ _ rfl, World.frozen?_alloc_at _ _ _ _ rfl, World.frozen?_alloc_at _ _ _ _ rfl, HO.out.alloc _, fun e => ?_, hsz, by simp; omega⟩, HB1.out.alloc hsz _⟩
  have := (HO.out.lt _ e).2
  omega
end Go.Proofs.Ytgnkehjjeoolcaa
