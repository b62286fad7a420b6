/- The contracts of At at no table, and of the document's At. -/
import Derived.Test.YtgnkehjjeoolcaaAt
namespace Go.Proofs.Ytgnkehjjeoolcaa
open Go.RowKit

set_option maxHeartbeats 1000000 in
theorem at_nil (w : World) (x y : Int) :
    Calls Try.prog 16 #[.pointer none, .agg #[.int .i64 x, .int .i64 y]] w fun r w' => r = .returned (.tuple #[.agg Ent.zero.cells.toArray, .bool false]) ∧ Below w.heap.size w w' := by
  have HB0 := Lib.hid (show Below w.heap.size w ((w.alloc (.cells #[.int .i64 x, .int .i64 y] 30)).alloc (.cells #[.int .i64 0, .int .i64 0, .int .i64 0, .int .i64 0, .int .i64 0, .int .i64 0, .int .i64 0, .int .i64 0, .int .i64 0, .int .i64 0, .int .i64 0] 32)) from
    ((Below.refl _ w).alloc (Nat.le_refl _) _).alloc (by simp) _)
  have hN : ((w.alloc (.cells #[.int .i64 x, .int .i64 y] 30)).alloc (.cells #[.int .i64 0, .int .i64 0, .int .i64 0, .int .i64 0, .int .i64 0, .int .i64 0, .int .i64 0, .int .i64 0, .int .i64 0, .int .i64 0, .int .i64 0] 32)).there (w.heap.size + 1) 0 11 := by
    have := there_new (w.alloc (.cells #[.int .i64 x, .int .i64 y] 30)) #[.int .i64 0, .int .i64 0, .int .i64 0, .int .i64 0, .int .i64 0, .int .i64 0, .int .i64 0, .int .i64 0, .int .i64 0, .int .i64 0, .int .i64 0] 32 11 rfl; simpa using this
  have HNN := Lib.hid hN
  clear hN
  go_enter Try.func16, Try.ntmps16
  go_wp2_with fail
  refine (list_nil _).mono ?_
  rintro r w1 ⟨rfl, rfl⟩
  go_wp2_with fail
  refine wp_loop_rounds 1 ?_
  rw [rounds_succ]
  go_wp2_with (refine store_ent rfl (.tmp 4) (.tmp 21) rfl _ _ Ent.zero rfl rfl HNN.out ?_)
  refine bodyPost_ret (results_ent Try.results16 _ _ (w.heap.size + 1) 0 Ent.zero rfl (World.rangeAt_setCells_same _ _ _ _ HNN.out)) rfl ?_
  exact ⟨rfl, (Touch.setCells (S := fun _ => False) _ (.inr (by omega)) _ _ _ (Touch.of_below HB0.out)).below (Nat.le_refl _) (fun _ h => h.elim)⟩

set_option maxHeartbeats 2000000 in
theorem rat_any (w : World) (B p : Nat) (v : Value) (es : List Ent) (given : Int) (ht : Tab w B p v es given) (hl : es.length ≤ 100000) (x y : Int) :
    Calls Try.prog 27 #[.pointer (some ⟨p, 0, none⟩), .agg #[.int .i64 x, .int .i64 y]] w (AtPost es x y w) := by
  obtain ⟨ao, cap, rfl, _, _⟩ := owns_form ht.own
  have HT := Lib.hid ht
  clear ht
  obtain ⟨w1, hw1⟩ : ∃ w1, (w.alloc (.cells #[.int .i64 x, .int .i64 y] 30)).alloc (.cells #[.int .i64 0, .int .i64 0, .int .i64 0, .int .i64 0, .int .i64 0, .int .i64 0, .int .i64 0, .int .i64 0, .int .i64 0, .int .i64 0, .int .i64 0] 32) = w1 := ⟨_, rfl⟩
  have b1 : Below w.heap.size w w1 := by rw [← hw1]; exact ((Below.refl _ w).alloc (Nat.le_refl _) _).alloc (by simp) _
  have hx : w1.cell? ⟨w.heap.size, 0, none⟩ = some (.int .i64 x) := by rw [← hw1, World.cell?_alloc_past _ _ _ (by simp)]; exact World.cell?_alloc_at _ _ _ _ rfl
  have hy : w1.cell? ⟨w.heap.size, 1, none⟩ = some (.int .i64 y) := by rw [← hw1, World.cell?_alloc_past _ _ _ (by simp)]; exact World.cell?_alloc_at _ _ _ _ rfl
  have hN : w1.there (w.heap.size + 1) 0 11 := by rw [← hw1]; have := there_new (w.alloc (.cells #[.int .i64 x, .int .i64 y] 30)) #[.int .i64 0, .int .i64 0, .int .i64 0, .int .i64 0, .int .i64 0, .int .i64 0, .int .i64 0, .int .i64 0, .int .i64 0, .int .i64 0, .int .i64 0] 32 11 rfl; simpa using this
  have HT1 := Lib.hid (tab_below HT.out b1)
  have HW1 := Lib.hid hw1
  have HXY := Lib.hid (show w1.cell? ⟨w.heap.size, 0, none⟩ = some (.int .i64 x) ∧ w1.cell? ⟨w.heap.size, 1, none⟩ = some (.int .i64 y) from ⟨hx, hy⟩)
  have HNN := Lib.hid hN
  have HB := Lib.hid b1
  obtain ⟨n, hn⟩ : ∃ n, es.length = n := ⟨_, rfl⟩
  have HN := Lib.hid hn
  have hc := HT1.out.c0
  rw [hn] at hl hc
  clear hw1 hx hy hN b1 hn
  go_enter Try.func27, Try.ntmps27
  go_wp2_with fail
  rw [HW1.out]
  go_loopg [6] n (fun m i wr => ∃ k : Nat, k ≤ n ∧ m = n - k ∧ i = .int .i64 k ∧ (∀ (j : Nat) (e : Ent), j < k → es[j]? = some e → standsB x y e = false) ∧ ∃ d, wr = w1.drewN d)
  case atStart => exact ⟨0, Nat.zero_le _, rfl, rfl, fun j e h => by omega, 0, rfl⟩
  case round =>
    obtain ⟨k, hk, hm, rfl, hno, d, rfl⟩ := hrel
    have HM := Lib.hid hm
    have HNO := Lib.hid hno
    clear hm hno
    by_cases hlt : k < n
    · have hke : k < es.length := by rw [HN.out]; exact hlt
      obtain ⟨e, he⟩ : ∃ e, es[k]? = some e := ⟨_, List.getElem?_eq_getElem hke⟩
      have hown := HT1.out.own
      obtain ⟨g, rfl, hg⟩ := owns_some hown (by omega)
      have hr := owns_range hown he
      have r3 : w1.cell? ⟨g, k * 11 + 3, none⟩ = some (.int .i64 e.ax) := hr 3 _ rfl
      have r4 : w1.cell? ⟨g, k * 11 + 4, none⟩ = some (.int .i64 e.ay) := hr 4 _ rfl
      have HE := Lib.hid he
      have HR := Lib.hid hr
      obtain ⟨bx, by'⟩ := HXY.out
      clear he hke hown hr
      by_cases hm : e.ax = x ∧ e.ay = y
      · have hf := find_at es k e HNO.out HE.out (show standsB x y e = true by simp [standsB, hm])
        have HG := Lib.hid (show atE es x y = e ∧ atB es x y = true by simp [atE, atB, hf])
        have q1 : (e.ax == x) = true := by simpa using hm.1
        have q2 : (e.ay == y) = true := by simpa using hm.2
        clear hf hm
        go_wp2_with fail
        go_quiet (fail)
        have HRD : Hid (((w1.drewN d).drewN nq).rangeAt g (k * 11) e.cells) := HR.out
        have HND : Hid (((w1.drewN d).drewN nq).there (w.heap.size + 1) 0 11) := HNN.out
        have HBD : Hid (Below w.heap.size w ((w1.drewN d).drewN nq)) := below_drewN (below_drewN HB.out d) nq
        go_wp2_with (first | (refine load_ent rfl (.tmp 31) rfl _ _ rfl e HRD.out ?_) | (refine store_ent rfl (.tmp 4) (.tmp 32) rfl _ _ e rfl rfl HND.out ?_))
        refine bodyPost_ret (results_ent Try.results27 _ _ (w.heap.size + 1) 0 e rfl (World.rangeAt_setCells_same _ _ _ _ (show (w1.drewN (d + nq)).there (w.heap.size + 1) 0 11 from HNN.out))) rfl ?_
        rw [AtPost, HG.out.1, HG.out.2]
        exact ⟨rfl, (Touch.setCells (S := fun _ => False) _ (.inr (by omega)) _ _ _ (Touch.of_below (show Below w.heap.size w (w1.drewN (d + nq)) from below_drewN HB.out _))).below (Nat.le_refl _) (fun _ h => h.elim)⟩
      · have hno1 : ∀ (j : Nat) (f : Ent), j < k + 1 → es[j]? = some f → standsB x y f = false := fun j f hj hf => by
          rcases Nat.lt_or_ge j k with h | h
          · exact HNO.out j f h hf
          · have hjk : j = k := by omega
            subst hjk; rw [HE.out] at hf; simp only [Option.some.injEq] at hf; subst hf; simp [standsB, hm]
        have HNO1 := Lib.hid hno1
        clear hno1
        by_cases hm1 : e.ax = x
        · have hm2 : ¬ e.ay = y := fun h => hm ⟨hm1, h⟩
          have q1 : (e.ax == x) = true := by simpa using hm1
          have q2 : (e.ay == y) = false := by simpa using hm2
          clear hm hm1 hm2
          go_wp2_with fail
          go_quiet (fail)
          go_wp2_with fail
          go_roundg (n - (k + 1))
          case measure => rw [HM.out]; omega
          case rel => exact ⟨k + 1, by omega, rfl, by go_num, HNO1.out, _, rfl⟩
        · have q1 : (e.ax == x) = false := by simpa using hm1
          clear hm hm1
          go_wp2_with fail
          go_quiet (fail)
          go_wp2_with fail
          go_roundg (n - (k + 1))
          case measure => rw [HM.out]; omega
          case rel => exact ⟨k + 1, by omega, rfl, by go_num, HNO1.out, _, rfl⟩
    · have hf := find_no (p := standsB x y) es (fun j f hf => HNO.out j f (by have := (List.getElem?_eq_some_iff.1 hf).1; rw [HN.out] at this; omega) hf)
      have HG := Lib.hid (show atE es x y = Ent.zero ∧ atB es x y = false by simp [atE, atB, hf])
      have HND : Hid ((w1.drewN d).there (w.heap.size + 1) 0 11) := HNN.out
      clear hf
      go_wp2_with (refine store_ent rfl (.tmp 4) (.tmp 33) rfl _ _ Ent.zero rfl rfl HND.out ?_)
      refine bodyPost_ret (results_ent Try.results27 _ _ (w.heap.size + 1) 0 Ent.zero rfl (World.rangeAt_setCells_same _ _ _ _ HND.out)) rfl ?_
      rw [AtPost, HG.out.1, HG.out.2]
      exact ⟨rfl, (Touch.setCells (S := fun _ => False) _ (.inr (by omega)) _ _ _ (Touch.of_below (below_drewN HB.out d))).below (Nat.le_refl _) (fun _ h => h.elim)⟩
end Go.Proofs.Ytgnkehjjeoolcaa
