/- The document's bracket: Rounds, count, decided, Champion. -/
import Derived.Test.YtpdanppnpgfkeaaRwho
namespace Go.Proofs.Ytpdanppnpgfkeaa
open Go.RowKit Go.Maps

set_option maxHeartbeats 1000000 in
theorem rrounds_any {n p : Nat} (hn : 2 ≤ n ∧ n ≤ 16) {w : World} (c0 : w.cell? ⟨p, 0, none⟩ = some (.int .i64 n)) :
    Calls Try.prog 13 #[.pointer (some ⟨p, 0, none⟩)] w fun e w' => e = .returned (.int .i64 (Rn n)) ∧ w' = w := by
  obtain ⟨hR1, hR4, _, _⟩ := Rn_ok hn
  have hsz := size_any n hn w
  obtain ⟨R, hR⟩ : ∃ R, Rn n = R := ⟨_, rfl⟩
  rw [hR] at hsz hR1 hR4 ⊢
  have hp : R = 1 ∨ R = 2 ∨ R = 3 ∨ R = 4 := by omega
  clear hR hR1 hR4 hn
  rcases hp with rfl | rfl | rfl | rfl
  all_goals
    simp only [Nat.reducePow] at hsz
    have HSZ := Lib.hid hsz
    clear hsz
    go_enter Try.func13, Try.ntmps13
    go_wp2_with fail
    refine HSZ.out.mono ?_
    rintro e w' ⟨rfl, rfl⟩
    go_wp2_with fail
    refine wp_loop_rounds 5 ?_
    repeat (rw [rounds_succ]; go_wp2_with fail)
    go_ret
    exact ⟨rfl, rfl⟩

set_option maxHeartbeats 1000000 in
theorem count_any {n p : Nat} (hn : 2 ≤ n ∧ n ≤ 16) {w : World} (c0 : w.cell? ⟨p, 0, none⟩ = some (.int .i64 n)) (r : Nat) (hr : r < Rn n) :
    Calls Try.prog 25 #[.pointer (some ⟨p, 0, none⟩), .int .i64 r] w fun e w' => e = .returned (.int .i64 (2 ^ (Rn n - r - 1) : Nat)) ∧ w' = w := by
  obtain ⟨hR1, hR4, _, _⟩ := Rn_ok hn
  have hsz := size_any n hn w
  obtain ⟨R, hR⟩ : ∃ R, Rn n = R := ⟨_, rfl⟩
  rw [hR] at hsz hR1 hR4 hr ⊢
  have hp : R = 1 ∨ R = 2 ∨ R = 3 ∨ R = 4 := by omega
  have hq : r = 0 ∨ r = 1 ∨ r = 2 ∨ r = 3 := by omega
  clear hR hR1 hR4 hn
  rcases hp with rfl | rfl | rfl | rfl <;> rcases hq with rfl | rfl | rfl | rfl
  all_goals first | (exfalso; omega) | skip
  all_goals
    simp only [Nat.reducePow] at hsz
    have HSZ := Lib.hid hsz
    clear hsz hr
    go_enter Try.func25, Try.ntmps25
    go_wp2_with fail
    refine HSZ.out.mono ?_
    rintro e w' ⟨rfl, rfl⟩
    go_wp2_with fail
    refine wp_loop_rounds 6 ?_
    repeat (rw [rounds_succ]; go_wp2_with fail)
    go_ret
    exact ⟨rfl, rfl⟩

section
variable {n : Nat} {W : Nat → Nat → Int} {P : Nat → Nat → Bool} {L : List Dd} {B p : Nat} {v : Value} {w : World}

set_option maxRecDepth 20000 in
set_option maxHeartbeats 4000000 in
theorem decided_any (htie : Tie (Rn n) W P L) (hrb : Rb w B p n v L) (hL : L.length ≤ 100) (r q : Nat) (hr : r < Rn n) (hq : q < 2 ^ (Rn n - r - 1)) :
    Calls Try.prog 27 #[.pointer (some ⟨p, 0, none⟩), .int .i64 r, .int .i64 q] w fun e w' => e = .returned (.bool (P r q)) ∧ w' = w := by
  have c1 := hrb.c1
  have HT := Lib.hid htie
  have HRB := Lib.hid hrb
  have HQ := Lib.hid hq
  obtain ⟨ao, cap, rfl⟩ := owns_ddform HRB.out.own
  obtain ⟨len, hlen⟩ : ∃ len, L.length = len := ⟨_, rfl⟩
  have HLEN := Lib.hid hlen
  rw [hlen] at c1 hL
  obtain ⟨b, hb⟩ : ∃ b, P r q = b := ⟨_, rfl⟩
  rw [hb]
  have HB := Lib.hid hb
  clear hlen htie hrb hq hb
  go_enter Try.func27, Try.ntmps27
  go_wp2_with fail
  go_loopg [7] len (fun m i wr => ∃ k : Nat, k ≤ len ∧ m = len - k ∧ i = .int .i64 k ∧ wr = w ∧ Hid (∀ (j : Nat) (d : Dd), j < k → L[j]? = some d → ¬ (d.r = r ∧ d.q = q)))
  case atStart => exact ⟨0, Nat.zero_le _, rfl, rfl, rfl, Lib.hid (fun j d h => by omega)⟩
  case round =>
    obtain ⟨k, hk, hm, rfl, rfl, HNO⟩ := hrel
    have HM := Lib.hid hm
    clear hm
    by_cases hlt : k < len
    · obtain ⟨g, gc, hv, _, _, hcl⟩ := owns_dd HRB.out.own (by rw [HLEN.out]; omega)
      rw [HLEN.out] at hv
      simp only [Value.slice.injEq, true_and] at hv
      obtain ⟨rfl, rfl⟩ := hv
      obtain ⟨d, hd⟩ : ∃ d, L[k]? = some d := ⟨_, List.getElem?_eq_getElem (by rw [HLEN.out]; exact hlt)⟩
      obtain ⟨d0, d1, d2⟩ := hcl k d hd
      have HD := Lib.hid hd
      clear hcl hd
      by_cases h1 : d.r = r
      · have s1 : ((d.r : Int) == r) = true := by rw [h1]; simp
        by_cases h2 : d.q = q
        · have s2 : ((d.q : Int) == q) = true := by rw [h2]; simp
          have hxx := (HT.out.mem d (List.mem_of_getElem? HD.out)).2.2.1
          rw [h1, h2] at hxx
          have HXX := Lib.hid hxx
          clear hxx h1 h2
          go_wp2_with fail
          go_ret
          exact ⟨by rw [← HB.out, HXX.out]; rfl, rfl⟩
        · have s2 : ((d.q : Int) == q) = false := by simp; omega
          have HNO2 : Hid (∀ (j : Nat) (d : Dd), j < k + 1 → L[j]? = some d → ¬ (d.r = r ∧ d.q = q)) := Lib.hid (fun j d' hj hd' => by
            rcases Nat.lt_or_ge j k with hl | hl
            · exact HNO.out j d' hl hd'
            · obtain rfl : j = k := by omega
              rw [HD.out] at hd'
              cases hd'
              exact fun h => h2 h.2)
          clear h1 h2
          go_wp2_with fail
          go_roundg (len - (k + 1))
          case measure => rw [HM.out]; omega
          case rel => exact ⟨k + 1, by omega, rfl, by go_num, rfl, HNO2⟩
      · have s1 : ((d.r : Int) == r) = false := by simp; omega
        have HNO2 : Hid (∀ (j : Nat) (d : Dd), j < k + 1 → L[j]? = some d → ¬ (d.r = r ∧ d.q = q)) := Lib.hid (fun j d' hj hd' => by
          rcases Nat.lt_or_ge j k with hl | hl
          · exact HNO.out j d' hl hd'
          · obtain rfl : j = k := by omega
            rw [HD.out] at hd'
            cases hd'
            exact fun h => h1 h.1)
        clear h1
        go_wp2_with fail
        go_roundg (len - (k + 1))
        case measure => rw [HM.out]; omega
        case rel => exact ⟨k + 1, by omega, rfl, by go_num, rfl, HNO2⟩
    · obtain rfl : k = len := by omega
      have hp : P r q = false := by
        cases hp : P r q with
        | false => rfl
        | true =>
          obtain ⟨d, hd, h1, h2⟩ := HT.out.all r q (by omega) HQ.out hp
          obtain ⟨j, hj, rfl⟩ := List.mem_iff_getElem.1 hd
          exact absurd ⟨h1, h2⟩ (HNO.out j _ (by rw [← HLEN.out]; exact hj) (List.getElem?_eq_getElem hj))
      have HP := Lib.hid hp
      clear hp
      go_wp2_with fail
      go_ret
      exact ⟨by rw [← HB.out, HP.out]; rfl, rfl⟩

set_option maxRecDepth 20000 in
set_option maxHeartbeats 4000000 in
theorem rchamp_any (hn : 2 ≤ n ∧ n ≤ 16) (hinv : Inv n (Rn n) W P) (htie : Tie (Rn n) W P L) (hrb : Rb w B p n v L) (hL : L.length ≤ 100) :
    Calls Try.prog 15 #[.pointer (some ⟨p, 0, none⟩)] w fun e w' => e = .returned (.tuple #[.int .i64 (max (W (Rn n) 0) 0), .bool (decide (0 ≤ W (Rn n) 0))]) ∧ w' = w := by
  have hro := rrounds_any hn hrb.c0
  have hwh := rwho_any hn hinv htie hrb hL (Rn n) 0 (Nat.le_refl _) (by simp)
  obtain ⟨x, hx⟩ : ∃ x, W (Rn n) 0 = x := ⟨_, rfl⟩
  rw [hx] at hwh ⊢
  have HRO := Lib.hid hro
  have HWH := Lib.hid hwh
  clear hro hwh hx hinv htie hrb
  by_cases h0 : x < 0
  · have t0 : decide (x < 0) = true := by simpa using h0
    go_enter Try.func15, Try.ntmps15
    go_wp2_with fail
    refine HRO.out.mono ?_
    rintro e w' ⟨rfl, rfl⟩
    go_wp2_with fail
    refine HWH.out.mono ?_
    rintro e w' ⟨rfl, rfl⟩
    go_wp2_with fail
    refine bodyPost_ret (v := .tuple #[.int .i64 (max x 0), .bool (decide (0 ≤ x))]) (by simp [results, Try.results15, go_sem] <;> omega) rfl ?_
    exact ⟨rfl, rfl⟩
  · have t0 : decide (x < 0) = false := by simpa using h0
    go_enter Try.func15, Try.ntmps15
    go_wp2_with fail
    refine HRO.out.mono ?_
    rintro e w' ⟨rfl, rfl⟩
    go_wp2_with fail
    refine HWH.out.mono ?_
    rintro e w' ⟨rfl, rfl⟩
    go_wp2_with fail
    refine bodyPost_ret (v := .tuple #[.int .i64 (max x 0), .bool (decide (0 ≤ x))]) (by simp [results, Try.results15, go_sem] <;> omega) rfl ?_
    exact ⟨rfl, rfl⟩
end
end Go.Proofs.Ytpdanppnpgfkeaa
