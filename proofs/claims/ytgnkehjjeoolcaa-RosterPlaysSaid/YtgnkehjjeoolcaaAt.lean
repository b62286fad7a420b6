/- The contracts of At, the program's and the document's. -/
import Derived.Test.YtgnkehjjeoolcaaEq
namespace Go.Proofs.Ytgnkehjjeoolcaa
open Go.RowKit

set_option maxHeartbeats 2000000 in
theorem at_any (w : World) (B p : Nat) (v : Value) (es : List Ent) (given : Int) (ht : Tab w B p v es given) (hl : es.length ≤ 100000) (x y : Int) :
    Calls Try.prog 16 #[.pointer (some ⟨p, 0, none⟩), .agg #[.int .i64 x, .int .i64 y]] w (AtPost es x y w) := by
  have HT := Lib.hid ht
  clear ht
  have b0 : Below w.heap.size w ((w.alloc (.cells #[.int .i64 x, .int .i64 y] 30)).alloc (.cells #[.int .i64 0, .int .i64 0, .int .i64 0, .int .i64 0, .int .i64 0, .int .i64 0, .int .i64 0, .int .i64 0, .int .i64 0, .int .i64 0, .int .i64 0] 32)) :=
    ((Below.refl _ w).alloc (Nat.le_refl _) _).alloc (by simp) _
  have HB0 := Lib.hid b0
  clear b0
  go_enter Try.func16, Try.ntmps16
  go_wp2_with fail
  refine (list_any _ B p v es given (tab_below HT.out HB0.out) hl).mono ?_
  rintro r w1 ⟨v1, rfl, hown, hb⟩
  have b1 : Below w.heap.size w w1 := HB0.out.trans (hb.mono (by simp; omega))
  have hx : w1.cell? ⟨w.heap.size, 0, none⟩ = some (.int .i64 x) := (hb.cell (by simp; omega)).trans (by rw [World.cell?_alloc_past _ _ _ (by simp)]; exact World.cell?_alloc_at _ _ _ _ rfl)
  have hy : w1.cell? ⟨w.heap.size, 1, none⟩ = some (.int .i64 y) := (hb.cell (by simp; omega)).trans (by rw [World.cell?_alloc_past _ _ _ (by simp)]; exact World.cell?_alloc_at _ _ _ _ rfl)
  have hN : w1.there (w.heap.size + 1) 0 11 := there_below hb (by have := there_new (w.alloc (.cells #[.int .i64 x, .int .i64 y] 30)) #[.int .i64 0, .int .i64 0, .int .i64 0, .int .i64 0, .int .i64 0, .int .i64 0, .int .i64 0, .int .i64 0, .int .i64 0, .int .i64 0, .int .i64 0] 32 11 rfl; simpa using this) (by simp)
  have hszb : w.heap.size + 2 ≤ w1.heap.size := by have := hb.size; simpa using this
  have hown2 := owns_base hown (B' := w.heap.size + 2) (by simp)
  obtain ⟨n, hn⟩ : ∃ n, es.length = n := ⟨_, rfl⟩
  have HN := Lib.hid hn
  rw [hn] at hl
  obtain ⟨ao, cap, rfl, _, _⟩ := owns_form hown2
  rw [hn] at hown2 ⊢
  clear hown hb hn
  go_wp2_with fail
  go_loopg [11] n (fun m i wr => ∃ k : Nat, k ≤ n ∧ m = n - k ∧ i = .int .i64 k ∧ (∀ (j : Nat) (e : Ent), j < k → es[j]? = some e → standsB x y e = false) ∧ Below w.heap.size w wr ∧ w.heap.size + 2 ≤ wr.heap.size ∧
    wr.cell? ⟨w.heap.size, 0, none⟩ = some (.int .i64 x) ∧ wr.cell? ⟨w.heap.size, 1, none⟩ = some (.int .i64 y) ∧ wr.there (w.heap.size + 1) 0 11 ∧ wr.ownsRow (w.heap.size + 2) 32 11 (.slice ao n cap) n (cellsOf es))
  case atStart => exact ⟨0, Nat.zero_le _, rfl, rfl, fun j e h => by omega, b1, hszb, hx, hy, hN, hown2⟩
  case round =>
    clear b1 hszb hx hy hN hown2
    obtain ⟨k, hk, hm, rfl, hno, b1, hszb, hx, hy, hN, hown2⟩ := hrel
    have HM := Lib.hid hm
    have HNO := Lib.hid hno
    clear hm hno
    by_cases hlt : k < n
    · have hke : k < es.length := by rw [HN.out]; exact hlt
      obtain ⟨e, he⟩ : ∃ e, es[k]? = some e := ⟨_, List.getElem?_eq_getElem hke⟩
      obtain ⟨g, rfl, hg⟩ := owns_some hown2 (by omega)
      have HR := Lib.hid (owns_range (by rw [HN.out]; exact hown2) he)
      have HE := Lib.hid he
      have TZ := Lib.hid (there_new wr #[.int .i64 0, .int .i64 0, .int .i64 0, .int .i64 0, .int .i64 0, .int .i64 0, .int .i64 0, .int .i64 0, .int .i64 0, .int .i64 0, .int .i64 0] 32 11 rfl)
      obtain ⟨wz, hwz⟩ : ∃ wz, ((wr.alloc (.cells #[.int .i64 0, .int .i64 0, .int .i64 0, .int .i64 0, .int .i64 0, .int .i64 0, .int .i64 0, .int .i64 0, .int .i64 0, .int .i64 0, .int .i64 0] 32)).setCells wr.heap.size 0 e.cells) = wz := ⟨_, rfl⟩
      have RZ : wz.rangeAt wr.heap.size 0 e.cells := by rw [← hwz]; exact World.rangeAt_setCells_same _ _ _ _ TZ.out
      have T0 : Touch wr wz (fun _ => False) := by rw [← hwz]; exact Touch.setCells (S := fun _ => False) _ (.inr (Nat.le_refl _)) _ _ _ ((Touch.refl _ _).alloc _)
      have HWZ := Lib.hid hwz
      have rx : wz.cell? ⟨wr.heap.size, 3, none⟩ = some (.int .i64 e.ax) := RZ 3 _ rfl
      have ry : wz.cell? ⟨wr.heap.size, 4, none⟩ = some (.int .i64 e.ay) := RZ 4 _ rfl
      have HRZ := Lib.hid RZ
      have bx : wz.cell? ⟨w.heap.size, 0, none⟩ = some (.int .i64 x) := T0.cell hx (fun h => h)
      have by' : wz.cell? ⟨w.heap.size, 1, none⟩ = some (.int .i64 y) := T0.cell hy (fun h => h)
      have hN11 : wz.there (w.heap.size + 1) 0 11 := there_below (T0.below (Nat.le_refl _) (fun _ h => h.elim)) hN (by omega)
      have HN11 := Lib.hid hN11
      have HOWN := Lib.hid (T0.owns hown2 (fun _ _ h => h))
      have bz : Below w.heap.size w wz := b1.trans (T0.below b1.size (fun _ h => h.elim))
      have hszz : w.heap.size + 2 ≤ wz.heap.size := Nat.le_trans hszb T0.size
      have HH := Lib.hid (show Below w.heap.size w wz ∧ w.heap.size + 2 ≤ wz.heap.size from ⟨bz, hszz⟩)
      clear he hke RZ T0 hx hy hN hown2 hwz bz hszz hN11
      by_cases hm : e.ax = x ∧ e.ay = y
      · have hf := find_at es k e HNO.out HE.out (show standsB x y e = true by simp [standsB, hm])
        have HG := Lib.hid (show atE es x y = e ∧ atB es x y = true by simp [atE, atB, hf])
        have q1 : (e.ax == x) = true := by simpa using hm.1
        have q2 : (e.ay == y) = true := by simpa using hm.2
        clear hf hm
        go_wp2_with (first | (refine load_ent rfl (.tmp 13) rfl _ _ rfl e HR.out ?_) | (refine store_ent rfl (.tmp 7) (.tmp 14) rfl _ _ e rfl rfl TZ.out ?_; rw [HWZ.out]) | (refine load_ent rfl (.tmp 7) rfl _ _ rfl e HRZ.out ?_) | (refine store_ent rfl (.tmp 4) (.tmp 19) rfl _ _ e rfl rfl HN11.out ?_))
        refine bodyPost_ret (results_ent Try.results16 _ _ (w.heap.size + 1) 0 e rfl (World.rangeAt_setCells_same _ _ _ _ HN11.out)) rfl ?_
        rw [AtPost, HG.out.1, HG.out.2]
        exact ⟨rfl, (Touch.setCells (S := fun _ => False) _ (.inr (by omega)) _ _ _ (Touch.of_below HH.out.1)).below (Nat.le_refl _) (fun _ h => h.elim)⟩
      · have hno1 : ∀ (j : Nat) (f : Ent), j < k + 1 → es[j]? = some f → standsB x y f = false := fun j f hj hf => by
          rcases Nat.lt_or_ge j k with h | h
          · exact HNO.out j f h hf
          · have hjk : j = k := by omega
            subst hjk; rw [HE.out] at hf; simp only [Option.some.injEq] at hf; subst hf; simp [standsB, hm]
        have HNO1 := Lib.hid hno1
        have HBX := Lib.hid (show wz.cell? ⟨w.heap.size, 0, none⟩ = some (.int .i64 x) ∧ wz.cell? ⟨w.heap.size, 1, none⟩ = some (.int .i64 y) from ⟨bx, by'⟩)
        clear hno1
        go_wp2_with (first | (refine load_ent rfl (.tmp 13) rfl _ _ rfl e HR.out ?_) | (refine store_ent rfl (.tmp 7) (.tmp 14) rfl _ _ e rfl rfl TZ.out ?_; rw [HWZ.out]))
        all_goals
          go_roundg (n - (k + 1))
          case measure => rw [HM.out]; omega
          case rel => exact ⟨k + 1, by omega, rfl, by go_num, HNO1.out, HH.out.1, HH.out.2, HBX.out.1, HBX.out.2, HN11.out, HOWN.out⟩
    · have hf := find_no (p := standsB x y) es (fun j f hf => HNO.out j f (by have := (List.getElem?_eq_some_iff.1 hf).1; rw [HN.out] at this; omega) hf)
      have HG := Lib.hid (show atE es x y = Ent.zero ∧ atB es x y = false by simp [atE, atB, hf])
      have HNN := Lib.hid hN
      clear hf hN
      go_wp2_with (refine store_ent rfl (.tmp 4) (.tmp 21) rfl _ _ Ent.zero rfl rfl HNN.out ?_)
      refine bodyPost_ret (results_ent Try.results16 _ _ (w.heap.size + 1) 0 Ent.zero rfl (World.rangeAt_setCells_same _ _ _ _ HNN.out)) rfl ?_
      rw [AtPost, HG.out.1, HG.out.2]
      exact ⟨rfl, (Touch.setCells (S := fun _ => False) _ (.inr (by omega)) _ _ _ (Touch.of_below b1)).below (Nat.le_refl _) (fun _ h => h.elim)⟩
end Go.Proofs.Ytgnkehjjeoolcaa
