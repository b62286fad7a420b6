/- Who stands where, in the document's words. -/
import Derived.Test.YtpdanppnpgfkeaaTie
namespace Go.Proofs.Ytpdanppnpgfkeaa
open Go.RowKit Go.Maps

theorem owns_dd {w : World} {B : Nat} {v : Value} {l : List Dd} (h : w.ownsRow B 71 3 v l.length (ddCells l)) (hl : 0 < l.length) :
    ∃ g cap, v = .slice (some ⟨g, 0, none⟩) l.length cap ∧ B ≤ g ∧ g < w.heap.size ∧ ∀ (i : Nat) (m : Dd), l[i]? = some m → w.cell? ⟨g, i * 3, none⟩ = some (.int .i64 m.r) ∧ w.cell? ⟨g, i * 3 + 1, none⟩ = some (.int .i64 m.q) ∧ w.cell? ⟨g, i * 3 + 2, none⟩ = some (.int .i64 m.x) := by
  obtain ⟨g, cap, rfl, h1, h2⟩ := owns_some h hl
  refine ⟨g, cap, rfl, h1, h2, fun i m hm => ?_⟩
  have hi : i < l.length := (List.getElem?_eq_some_iff.1 hm).1
  have hget : ∀ (l : List Dd) (i j : Nat) (m : Dd), l[i]? = some m → j < 3 → (ddCells l)[i * 3 + j]? = m.cells[j]? := by
    intro l
    induction l with
    | nil => intro i j m h; simp at h
    | cons a l ih =>
      intro i j m h hj
      have hc : ddCells (a :: l) = a.cells ++ ddCells l := by simp [ddCells]
      rw [hc]
      cases i with
      | zero =>
        simp at h
        subst h
        rw [List.getElem?_append_left (by simp [Dd.cells]; omega), Nat.zero_mul, Nat.zero_add]
      | succ i =>
        simp at h
        rw [List.getElem?_append_right (by simp [Dd.cells]; omega)]
        have e : (i + 1) * 3 + j - a.cells.length = i * 3 + j := by simp [Dd.cells]; omega
        rw [e]
        exact ih i j m h hj
  have hcell : ∀ j, j < 3 → w.cell? ⟨g, i * 3 + j, none⟩ = m.cells[j]? := fun j hj => by
    rw [h.cellAt (i * 3 + j) (by omega)]
    exact hget l i j m hm hj
  exact ⟨hcell 0 (by omega), hcell 1 (by omega), hcell 2 (by omega)⟩

theorem owns_ddform {w : World} {B : Nat} {v : Value} {l : List Dd} (h : w.ownsRow B 71 3 v l.length (ddCells l)) : ∃ ao cap, v = .slice ao l.length cap := by
  rcases h.2 with ⟨rfl, h2⟩ | ⟨g, cap, cur, hv, _⟩
  · exact ⟨none, 0, by rw [h2]⟩
  · exact ⟨_, _, hv⟩

set_option maxRecDepth 20000 in
set_option maxHeartbeats 4000000 in
theorem rwho_any {n : Nat} (hn : 2 ≤ n ∧ n ≤ 16) {W : Nat → Nat → Int} {P : Nat → Nat → Bool} {L : List Dd} (hinv : Inv n (Rn n) W P) (htie : Tie (Rn n) W P L) {B p : Nat} {v : Value} {w : World} (hrb : Rb w B p n v L) (hL : L.length ≤ 100) :
    ∀ r q : Nat, r ≤ Rn n → q < 2 ^ (Rn n - r) → Calls Try.prog 26 #[.pointer (some ⟨p, 0, none⟩), .int .i64 r, .int .i64 q] w fun e w' => e = .returned (.int .i64 (W r q)) ∧ w' = w := by
  obtain ⟨hR1, hR4, hnR, _⟩ := Rn_ok hn
  have c0 := hrb.c0
  intro r
  induction r with
  | zero =>
    intro q _ hq
    rw [Nat.sub_zero] at hq
    have hW := hinv.i0 q hq
    unfold sv at hW
    have hsz := size_any n hn w
    have hst := seat_any (Rn n) hR4 q hq w
    have h16 := pow4 hR4
    have hs := seat_lt (Rn n) q
    obtain ⟨s, hsv⟩ : ∃ s, seat (Rn n) q = s := ⟨_, rfl⟩
    obtain ⟨K, hK⟩ : ∃ K, 2 ^ Rn n = K := ⟨_, rfl⟩
    rw [hsv] at hW hst hs
    rw [hK] at hsz hst h16 hs hq
    have HW := Lib.hid hW
    have HSZ := Lib.hid hsz
    have HST := Lib.hid hst
    clear hW hsz hst hsv hK hinv htie hrb
    by_cases hns : n ≤ s
    · have hni : (n : Int) ≤ s := by omega
      go_enter Try.func26, Try.ntmps26
      go_wp2_with fail
      refine HSZ.out.mono ?_
      rintro e w1 ⟨rfl, rfl⟩
      go_wp2_with fail
      refine HST.out.mono ?_
      rintro e w1 ⟨rfl, rfl⟩
      go_wp2_with fail
      go_ret
      exact ⟨by rw [HW.out, if_pos hns]; rfl, rfl⟩
    · have hni : ¬ (n : Int) ≤ s := by omega
      go_enter Try.func26, Try.ntmps26
      go_wp2_with fail
      refine HSZ.out.mono ?_
      rintro e w1 ⟨rfl, rfl⟩
      go_wp2_with fail
      refine HST.out.mono ?_
      rintro e w1 ⟨rfl, rfl⟩
      go_wp2_with fail
      go_ret
      exact ⟨by rw [HW.out, if_neg hns]; rfl, rfl⟩
  | succ r ih =>
    intro q hr hq
    rw [show Rn n - (r + 1) = Rn n - r - 1 by omega] at hq
    obtain ⟨l1, l2⟩ := two_lt (by omega) hq
    have h16 : q < 16 := Nat.lt_of_lt_of_le hq (pow4 (by omega))
    have w1 := ih (2 * q) (by omega) l1
    have w2 := ih (2 * q + 1) (by omega) l2
    rw [show ((2 * q : Nat) : Int) = 2 * (q : Int) by omega] at w1
    rw [show ((2 * q + 1 : Nat) : Int) = 2 * (q : Int) + 1 by omega] at w2
    have hnext := hinv.next (pairs hn) (r := r) (q := q) (by omega) hq
    obtain ⟨x, hx⟩ : ∃ x, W r (2 * q) = x := ⟨_, rfl⟩
    obtain ⟨y, hy⟩ : ∃ y, W r (2 * q + 1) = y := ⟨_, rfl⟩
    rw [hx] at w1 hnext
    rw [hy] at w2 hnext
    have HN := Lib.hid hnext
    have W1 := Lib.hid w1
    have W2 := Lib.hid w2
    have HQ := Lib.hid hq
    have HI := Lib.hid hinv
    have HT := Lib.hid htie
    have HRB := Lib.hid hrb
    have c1 := hrb.c1
    clear ih l1 l2 w1 w2 hnext hx hy hq hinv htie hrb
    by_cases hx1 : x = -1
    · have t1 : (x == -1) = true := by simpa using hx1
      have HX1 := Lib.hid hx1
      clear hx1
      go_enter Try.func26, Try.ntmps26
      go_wp2_with fail
      refine W1.out.mono ?_
      rintro e w1 ⟨rfl, rfl⟩
      go_wp2_with fail
      refine W2.out.mono ?_
      rintro e w1 ⟨rfl, rfl⟩
      go_wp2_with fail
      go_ret
      exact ⟨by rw [HN.out.1 HX1.out]; rfl, rfl⟩
    · have t1 : (x == -1) = false := by simpa using hx1
      by_cases hy1 : y = -1
      · have t2 : (y == -1) = true := by simpa using hy1
        have HY1 := Lib.hid hy1
        clear hy1
        go_enter Try.func26, Try.ntmps26
        go_wp2_with fail
        refine W1.out.mono ?_
        rintro e w1 ⟨rfl, rfl⟩
        go_wp2_with fail
        refine W2.out.mono ?_
        rintro e w1 ⟨rfl, rfl⟩
        go_wp2_with fail
        go_ret
        exact ⟨by rw [HN.out.2.1 hx1 HY1.out]; rfl, rfl⟩
      · have t2 : (y == -1) = false := by simpa using hy1
        obtain ⟨ao, cap, rfl⟩ := owns_ddform HRB.out.own
        obtain ⟨len, hlen⟩ : ∃ len, L.length = len := ⟨_, rfl⟩
        have HLEN := Lib.hid hlen
        rw [hlen] at c1 hL
        clear hlen
        go_enter Try.func26, Try.ntmps26
        go_wp2_with fail
        refine W1.out.mono ?_
        rintro e w1 ⟨rfl, rfl⟩
        go_wp2_with fail
        refine W2.out.mono ?_
        rintro e w1 ⟨rfl, rfl⟩
        go_wp2_with fail
        go_loopg [10] len (fun m i wr => ∃ k : Nat, k ≤ len ∧ m = len - k ∧ i = .int .i64 k ∧ wr = w1 ∧ Hid (∀ (j : Nat) (d : Dd), j < k → L[j]? = some d → ¬ (d.r = r ∧ d.q = q)))
        case atStart => exact ⟨0, Nat.zero_le _, rfl, rfl, rfl, Lib.hid (fun j d h => by omega)⟩
        case round =>
          obtain ⟨k, hk, hm, rfl, rfl, HNO⟩ := hrel
          have HM := Lib.hid hm
          clear hm
          by_cases hlt : k < len
          · obtain ⟨g, gc, hv, _, _, hcl⟩ := owns_dd HRB.out.own (by rw [HLEN.out]; omega)
            rw [HLEN.out] at hv
            simp only [Value.slice.injEq, true_and] at hv
            obtain ⟨rfl, rfl⟩ := hv
            obtain ⟨d, hd⟩ : ∃ d, L[k]? = some d := ⟨_, List.getElem?_eq_getElem (by rw [HLEN.out]; exact hlt)⟩
            obtain ⟨d0, d1, d2⟩ := hcl k d hd
            have HD := Lib.hid hd
            clear hcl hd
            by_cases h1 : d.r = r
            · have s1 : ((d.r : Int) == r) = true := by rw [h1]; simp
              by_cases h2 : d.q = q
              · have s2 : ((d.q : Int) == q) = true := by rw [h2]; simp
                have hxx := (HT.out.mem d (List.mem_of_getElem? HD.out)).2.2.2
                rw [h1, h2] at hxx
                have HXX := Lib.hid hxx
                clear hxx h1 h2
                go_wp2_with fail
                go_ret
                exact ⟨by rw [← HXX.out]; rfl, rfl⟩
              · have s2 : ((d.q : Int) == q) = false := by simp; omega
                have HNO2 : Hid (∀ (j : Nat) (d : Dd), j < k + 1 → L[j]? = some d → ¬ (d.r = r ∧ d.q = q)) := Lib.hid (fun j d' hj hd' => by
                  rcases Nat.lt_or_ge j k with hl | hl
                  · exact HNO.out j d' hl hd'
                  · obtain rfl : j = k := by omega
                    rw [HD.out] at hd'
                    cases hd'
                    exact fun h => h2 h.2)
                clear h1 h2
                go_wp2_with fail
                go_roundg (len - (k + 1))
                case measure => rw [HM.out]; omega
                case rel => exact ⟨k + 1, by omega, rfl, by go_num, rfl, HNO2⟩
            · have s1 : ((d.r : Int) == r) = false := by simp; omega
              have HNO2 : Hid (∀ (j : Nat) (d : Dd), j < k + 1 → L[j]? = some d → ¬ (d.r = r ∧ d.q = q)) := Lib.hid (fun j d' hj hd' => by
                rcases Nat.lt_or_ge j k with hl | hl
                · exact HNO.out j d' hl hd'
                · obtain rfl : j = k := by omega
                  rw [HD.out] at hd'
                  cases hd'
                  exact fun h => h1 h.1)
              clear h1
              go_wp2_with fail
              go_roundg (len - (k + 1))
              case measure => rw [HM.out]; omega
              case rel => exact ⟨k + 1, by omega, rfl, by go_num, rfl, HNO2⟩
          · obtain rfl : k = len := by omega
            have hp : P r q = false := by
              cases hp : P r q with
              | false => rfl
              | true =>
                obtain ⟨d, hd, h1, h2⟩ := HT.out.all r q (by omega) HQ.out hp
                obtain ⟨j, hj, rfl⟩ := List.mem_iff_getElem.1 hd
                exact absurd ⟨h1, h2⟩ (HNO.out j _ (by rw [← HLEN.out]; exact hj) (List.getElem?_eq_getElem hj))
            have HP := Lib.hid hp
            clear hp
            go_wp2_with fail
            go_ret
            exact ⟨by rw [HN.out.2.2 hx1 hy1 HP.out]; rfl, rfl⟩
end Go.Proofs.Ytpdanppnpgfkeaa
