/- The contracts of the document's Of, and of the two comparisons of lists. -/
import Derived.Test.YtgnkehjjeoolcaaOf
namespace Go.Proofs.Ytgnkehjjeoolcaa
open Go.RowKit

set_option maxHeartbeats 2000000 in
theorem rof_any (w : World) (B p : Nat) (v : Value) (es : List Ent) (given : Int) (ht : Tab w B p v es given) (hl : es.length ≤ 100000) (o : Int) :
    Calls Try.prog 26 #[.pointer (some ⟨p, 0, none⟩), .int .i64 o] w (OfPost es o w) := by
  obtain ⟨i0, hi, hz0, hz1, hz2⟩ := info_parts info3
  obtain ⟨ao, cap, rfl, _, _⟩ := owns_form ht.own
  have HT := Lib.hid ht
  obtain ⟨n, hn⟩ : ∃ n, es.length = n := ⟨_, rfl⟩
  have HN := Lib.hid hn
  have hc0 := ht.c0
  have hpl : p < w.heap.size := World.block_lt_of_cell? w _ hc0
  have hgl := ht.own.lt
  have HOWN := Lib.hid ht.own
  rw [hn] at hl hc0 hgl HOWN
  have HC0 := Lib.hid hc0
  clear ht hn hc0
  go_enter Try.func26, Try.ntmps26
  go_wp2_with fail
  go_loopg [5, 6] n (fun m vo i wr => ∃ k : Nat, k ≤ n ∧ m = n - k ∧ i = .int .i64 k ∧ wr.ownsRow w.heap.size 3 1 vo (ofL (es.take k) o).length ((ofL (es.take k) o).map (Value.int .i64)) ∧ Below w.heap.size w wr)
  case atStart => exact ⟨0, Nat.zero_le _, rfl, rfl, World.ownsRow_nil _ _ _ _, Below.refl _ _⟩
  case round =>
    obtain ⟨k, hk, hm, rfl, hvo, hb⟩ := hrel
    have HM := Lib.hid hm
    clear hm
    have hc : wr.cell? ⟨p, 0, none⟩ = some (.slice ao n cap) := (hb.cell (p := ⟨p, 0, none⟩) hpl).trans HC0.out
    by_cases hlt : k < n
    · have hke : k < es.length := by rw [HN.out]; exact hlt
      obtain ⟨e, he⟩ : ∃ e, es[k]? = some e := ⟨_, List.getElem?_eq_getElem hke⟩
      obtain ⟨g, rfl, hg⟩ := owns_some HOWN.out (by omega)
      have hg1 := (hgl g rfl).2
      have hr := range_below hb (owns_range (by rw [HN.out]; exact HOWN.out) he) hg1
      have r0 : wr.cell? ⟨g, k * 11, none⟩ = some (.int .i64 e.id) := hr 0 _ rfl
      have r1 : wr.cell? ⟨g, k * 11 + 1, none⟩ = some (.int .i64 e.owner) := hr 1 _ rfl
      have hst := ofL_take es o k e he
      have HST := Lib.hid hst
      have HVO := Lib.hid hvo
      have HBZ := Lib.hid hb
      have hlo : (ofL (es.take k) o).length ≤ k := Nat.le_trans (ofL_len _ _) (by simp; omega)
      have hszz : w.heap.size ≤ wr.heap.size := hb.size
      clear he hke hst hvo hb hr
      by_cases ho : e.owner = o
      · have q1 : (e.owner == o) = true := by simpa using ho
        have hb1 : (ofL (es.take k) o).length + 1 ≤ maxLen := by unfold maxLen; omega
        have hb2 : ((ofL (es.take k) o).length + 1) * 8 ≤ 140737488355328 := by omega
        have hnil : Hid ((ofL (es.take (k + 1)) o) = ofL (es.take k) o ++ [e.id]) := by rw [Hid, HST.out, q1]; rfl
        have hsz2 : w.heap.size ≤ (wr.alloc (.cells #[.int .i64 e.id] 3)).heap.size := Nat.le_trans hszz (by simp)
        clear ho
        go_wp2_with (at_builtin; refine wpList_append_own _ rfl (.tmp 26) (.tmp 35) 51 rfl w.heap.size 3 i0 (.int .i64 0) 1 8 Try.underlying51 hi hz0 hz1 hz2 rfl (by decide) _ _ _ rfl (HVO.out.alloc _) ⟨wr.heap.size, 0, none⟩ 1 1 [.int .i64 e.id] rfl rfl (cell_one_new _ _ _) (ints_oneCell .i64 [e.id]) hb1 hb2 hsz2 ?_)
        intro v' w2 hown2 hgr2 _
        have hown3 : w2.ownsRow w.heap.size 3 1 v' (ofL (es.take (k + 1)) o).length ((ofL (es.take (k + 1)) o).map (Value.int .i64)) := by
          rw [hnil.out, List.length_append, List.map_append]; exact hown2
        have hb3 : Below w.heap.size w w2 := (HBZ.out.alloc hszz _).grown hgr2 hsz2 (fun j hj => by
          rcases owns_ge HVO.out with h | ⟨g1, h, h2⟩
          · rw [h] at hj; cases hj
          · rw [h] at hj; simp only [Option.some.injEq] at hj; omega)
        clear hown2 hgr2
        go_wp2_with fail
        go_roundg (n - (k + 1))
        case measure => rw [HM.out]; omega
        case rel => exact ⟨k + 1, by omega, rfl, by go_num, hown3, hb3⟩
      · have q1 : (e.owner == o) = false := by simpa using ho
        have hnil : Hid ((ofL (es.take (k + 1)) o) = ofL (es.take k) o) := by rw [Hid, HST.out, q1]; simp
        clear ho
        go_wp2_with fail
        go_roundg (n - (k + 1))
        case measure => rw [HM.out]; omega
        case rel => exact ⟨k + 1, by omega, rfl, by go_num, by rw [hnil.out]; exact HVO.out, HBZ.out⟩
    · have e1 : es.take k = es := List.take_of_length_le (by rw [HN.out]; omega)
      rw [e1] at hvo
      clear e1
      go_wp2_with fail
      refine bodyPost_ret (v := u5) (by simp [results, Try.results26, go_sem]) rfl ?_
      exact ⟨_, rfl, hvo, hb⟩

theorem get_map (xs : List Int) (i : Nat) (h : i < xs.length) : (xs.map (Value.int .i64))[i]? = some (.int .i64 (xs.getD i 0)) := by
  simp [List.getD_eq_getElem?_getD, List.getElem?_eq_getElem h]

set_option maxHeartbeats 1000000 in
/-- two slices of one list of numbers are the same -/
theorem sameInts_any (w : World) (B B' : Nat) (a b : Value) (xs : List Int) (ha : w.ownsRow B 3 1 a xs.length (xs.map (Value.int .i64))) (hb : w.ownsRow B' 3 1 b xs.length (xs.map (Value.int .i64))) (hl : xs.length ≤ 100000) :
    Calls Try.prog 25 #[a, b] w fun r w' => r = .returned (.bool true) ∧ Below w.heap.size w w' := by
  obtain ⟨n, hn⟩ : ∃ n, xs.length = n := ⟨_, rfl⟩
  have HN := Lib.hid hn
  rw [hn] at ha hb hl
  obtain ⟨a0, ca, rfl, _, _⟩ := owns_form ha
  obtain ⟨b0, cb, rfl, _, _⟩ := owns_form hb
  have HA := Lib.hid ha
  have HB := Lib.hid hb
  clear ha hb hn
  go_enter Try.func25, Try.ntmps25
  go_wp2_with fail
  go_loopg [5] n (fun m i wr => ∃ k : Nat, k ≤ n ∧ m = n - k ∧ i = .int .i64 k ∧ ∃ d, wr = w.drewN d)
  case atStart => exact ⟨0, Nat.zero_le _, rfl, rfl, 0, rfl⟩
  case round =>
    obtain ⟨k, hk, hm, rfl, d, rfl⟩ := hrel
    have HM := Lib.hid hm
    clear hm
    by_cases hlt : k < n
    · obtain ⟨g, rfl, _⟩ := owns_some HA.out (by omega)
      obtain ⟨g', rfl, _⟩ := owns_some HB.out (by omega)
      have h1 : w.cell? ⟨g, k, none⟩ = some (.int .i64 (xs.getD k 0)) := by rw [HA.out.cellAt k (by omega), get_map xs k (by rw [HN.out]; exact hlt)]
      have h2 : w.cell? ⟨g', k, none⟩ = some (.int .i64 (xs.getD k 0)) := by rw [HB.out.cellAt k (by omega), get_map xs k (by rw [HN.out]; exact hlt)]
      generalize xs.getD k 0 = x at h1 h2
      go_wp2_with fail
      go_quiet (fail)
      go_wp2_with fail
      go_roundg (n - (k + 1))
      case measure => rw [HM.out]; omega
      case rel => exact ⟨k + 1, by omega, rfl, by go_num, _, rfl⟩
    · go_wp2_with fail
      go_ret
      exact ⟨rfl, below_drewN (Below.refl _ _) d⟩

set_option maxHeartbeats 2000000 in
/-- two slices of one list of entities are the same -/
theorem same_any (w : World) (B B' : Nat) (a b : Value) (es : List Ent) (ha : w.ownsRow B 32 11 a es.length (cellsOf es)) (hb : w.ownsRow B' 32 11 b es.length (cellsOf es)) (hl : es.length ≤ 100000) :
    Calls Try.prog 12 #[a, b] w fun r w' => r = .returned (.bool true) ∧ Below w.heap.size w w' := by
  obtain ⟨n, hn⟩ : ∃ n, es.length = n := ⟨_, rfl⟩
  have HN := Lib.hid hn
  rw [hn] at ha hb hl
  obtain ⟨a0, ca, rfl, _, _⟩ := owns_form ha
  obtain ⟨b0, cb, rfl, _, _⟩ := owns_form hb
  have HA := Lib.hid ha
  have HB := Lib.hid hb
  clear ha hb hn
  go_enter Try.func12, Try.ntmps12
  go_wp2_with fail
  go_loopg [5] n (fun m i wr => ∃ k : Nat, k ≤ n ∧ m = n - k ∧ i = .int .i64 k ∧ ∃ d, wr = w.drewN d)
  case atStart => exact ⟨0, Nat.zero_le _, rfl, rfl, 0, rfl⟩
  case round =>
    obtain ⟨k, hk, hm, rfl, d, rfl⟩ := hrel
    have HM := Lib.hid hm
    clear hm
    by_cases hlt : k < n
    · obtain ⟨g, rfl, _⟩ := owns_some HA.out (by omega)
      obtain ⟨g', rfl, _⟩ := owns_some HB.out (by omega)
      have hke : k < es.length := by rw [HN.out]; exact hlt
      obtain ⟨e, he⟩ : ∃ e, es[k]? = some e := ⟨_, List.getElem?_eq_getElem hke⟩
      have h1 := owns_range (by rw [HN.out]; exact HA.out) he
      have h2 := owns_range (by rw [HN.out]; exact HB.out) he
      have hneq := neq_ent e
      simp only [Ent.cells] at hneq
      have r0 : w.cell? ⟨g, k * 11, none⟩ = some (.int .i64 e.id) := h1 0 _ rfl
      have r1 : w.cell? ⟨g, k * 11 + 1, none⟩ = some (.int .i64 e.owner) := h1 1 _ rfl
      have r2 : w.cell? ⟨g, k * 11 + 2, none⟩ = some (.int .i64 e.kind) := h1 2 _ rfl
      have r3 : w.cell? ⟨g, k * 11 + 3, none⟩ = some (.int .i64 e.ax) := h1 3 _ rfl
      have r4 : w.cell? ⟨g, k * 11 + 4, none⟩ = some (.int .i64 e.ay) := h1 4 _ rfl
      have r5 : w.cell? ⟨g, k * 11 + 5, none⟩ = some (.int .i64 e.hp) := h1 5 _ rfl
      have r6 : w.cell? ⟨g, k * 11 + 6, none⟩ = some (.int .i64 e.doing) := h1 6 _ rfl
      have r7 : w.cell? ⟨g, k * 11 + 7, none⟩ = some (.int .i64 e.gx) := h1 7 _ rfl
      have r8 : w.cell? ⟨g, k * 11 + 8, none⟩ = some (.int .i64 e.gy) := h1 8 _ rfl
      have r9 : w.cell? ⟨g, k * 11 + 9, none⟩ = some (.int .i64 e.target) := h1 9 _ rfl
      have r10 : w.cell? ⟨g, k * 11 + 10, none⟩ = some (.int .i64 e.load) := h1 10 _ rfl
      have s0 : w.cell? ⟨g', k * 11, none⟩ = some (.int .i64 e.id) := h2 0 _ rfl
      have s1 : w.cell? ⟨g', k * 11 + 1, none⟩ = some (.int .i64 e.owner) := h2 1 _ rfl
      have s2 : w.cell? ⟨g', k * 11 + 2, none⟩ = some (.int .i64 e.kind) := h2 2 _ rfl
      have s3 : w.cell? ⟨g', k * 11 + 3, none⟩ = some (.int .i64 e.ax) := h2 3 _ rfl
      have s4 : w.cell? ⟨g', k * 11 + 4, none⟩ = some (.int .i64 e.ay) := h2 4 _ rfl
      have s5 : w.cell? ⟨g', k * 11 + 5, none⟩ = some (.int .i64 e.hp) := h2 5 _ rfl
      have s6 : w.cell? ⟨g', k * 11 + 6, none⟩ = some (.int .i64 e.doing) := h2 6 _ rfl
      have s7 : w.cell? ⟨g', k * 11 + 7, none⟩ = some (.int .i64 e.gx) := h2 7 _ rfl
      have s8 : w.cell? ⟨g', k * 11 + 8, none⟩ = some (.int .i64 e.gy) := h2 8 _ rfl
      have s9 : w.cell? ⟨g', k * 11 + 9, none⟩ = some (.int .i64 e.target) := h2 9 _ rfl
      have s10 : w.cell? ⟨g', k * 11 + 10, none⟩ = some (.int .i64 e.load) := h2 10 _ rfl
      clear h1 h2 he hke
      go_wp2_with fail
      go_quiet (fail)
      go_wp2_with fail
      go_roundg (n - (k + 1))
      case measure => rw [HM.out]; omega
      case rel => exact ⟨k + 1, by omega, rfl, by go_num, _, rfl⟩
    · go_wp2_with fail
      go_ret
      exact ⟨rfl, below_drewN (Below.refl _ _) d⟩
end Go.Proofs.Ytgnkehjjeoolcaa
