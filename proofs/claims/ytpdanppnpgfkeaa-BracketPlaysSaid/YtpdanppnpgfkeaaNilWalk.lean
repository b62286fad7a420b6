/- The walk of BracketNil. -/
import Derived.Test.YtpdanppnpgfkeaaAwake
namespace Go.Proofs.Ytpdanppnpgfkeaa
open Go.RowKit Go.Maps

def noP : Nat → Nat → Bool := fun _ _ => false

theorem dec_no {W : Nat → Nat → Int} {r q : Nat} {c : Int} (h : (decide (0 ≤ W r (2 * q)) && decide (0 ≤ W r (2 * q + 1))) = false) : decN W noP r q c = 3 := by
  rw [decN, if_pos h]
theorem dec_yes {W : Nat → Nat → Int} {r q : Nat} {c x y : Int} (hx : W r (2 * q) = x) (hy : W r (2 * q + 1) = y) (h : (decide (0 ≤ x) && decide (0 ≤ y)) = true) :
    decN W noP r q c = if c = x ∨ c = y ∨ c = -1 then 0 else 2 := by
  rw [decN, hx, hy, h, if_neg (by simp), if_neg (by simp [noP])]
  by_cases h1 : c = -1
  · simp [h1]
  · by_cases h2 : c = x
    · simp [h2]
    · by_cases h3 : c = y
      · simp [h3]
      · simp [h1, h2, h3]

theorem code5 (a b c : Int) : decZ (W0 5 3) noP 3 a b c = if a = 0 ∧ b = 1 then (if c = 3 ∨ c = 4 ∨ c = -1 then 0 else 2) else if a = 1 ∧ b = 1 then (if c = 1 ∨ c = 2 ∨ c = -1 then 0 else 2) else 3 := by
  unfold decZ
  by_cases h1 : a < 0 ∨ ((3 : Nat) : Int) ≤ a
  · rw [if_pos h1, if_neg (by omega), if_neg (by omega)]
  · rw [if_neg h1]
    have ha : a = 0 ∨ a = 1 ∨ a = 2 := by omega
    rcases ha with rfl | rfl | rfl
    · by_cases h2 : b < 0 ∨ ((2 ^ (3 - (0 : Int).toNat - 1) : Nat) : Int) ≤ b
      · rw [if_pos h2, if_neg (by simp at h2; omega), if_neg (by omega)]
      · rw [if_neg h2]
        have hb : b = 0 ∨ b = 1 ∨ b = 2 ∨ b = 3 := by simp at h2; omega
        rcases hb with rfl | rfl | rfl | rfl
        · rw [dec_no (by decide)]; simp
        · rw [dec_yes (x := 3) (y := 4) (by decide) (by decide) (by decide)]; simp
        · rw [dec_no (by decide)]; simp
        · rw [dec_no (by decide)]; simp
    · by_cases h2 : b < 0 ∨ ((2 ^ (3 - (1 : Int).toNat - 1) : Nat) : Int) ≤ b
      · rw [if_pos h2, if_neg (by omega), if_neg (by simp at h2; omega)]
      · rw [if_neg h2]
        have hb : b = 0 ∨ b = 1 := by simp at h2; omega
        rcases hb with rfl | rfl
        · rw [dec_no (by decide)]; simp
        · rw [dec_yes (x := 1) (y := 2) (by decide) (by decide) (by decide)]; simp
    · by_cases h2 : b < 0 ∨ ((2 ^ (3 - (2 : Int).toNat - 1) : Nat) : Int) ≤ b
      · rw [if_pos h2, if_neg (by omega), if_neg (by omega)]
      · rw [if_neg h2]
        have hb : b = 0 := by simp at h2; omega
        subst hb
        rw [dec_no (by decide)]; simp

set_option maxRecDepth 20000 in
set_option maxHeartbeats 4000000 in
theorem nil_walk (a b c : Int) (w : World) (_ : (Lit.int .i64 a).wf = true) (_ : (Lit.int .i64 b).wf = true) (_ : (Lit.int .i64 c).wf = true) :
    Calls Try.prog 6 #[.int .i64 a, .int .i64 b, .int .i64 c] w fun e w' => e = .returned (.bool true) ∧ Below w.heap.size w w' := by
  go_enter Try.func6, Try.ntmps6
  go_wp2_with fail
  refine (awake_any w).mono ?_
  rintro e w1 ⟨rfl, b1⟩
  go_wp2_with fail
  refine (champ_nil w1).mono ?_
  rintro e w1 ⟨rfl, rfl⟩
  go_wp2_with fail
  refine (out_nil w1 c).mono ?_
  rintro e w1 ⟨rfl, rfl⟩
  go_wp2_with fail
  refine (decide_nil w1 a b c).mono ?_
  rintro e w1 ⟨rfl, rfl⟩
  go_wp2_with fail
  refine (open_nil w1).mono ?_
  rintro e w1 ⟨rfl, rfl⟩
  go_wp2_with fail
  refine (rounds_nil w1).mono ?_
  rintro e w1 ⟨rfl, rfl⟩
  have HNEW := Lib.hid (new_at 5 (by omega) w1 w.heap.size b1.size)
  go_wp2_with fail
  refine HNEW.out.mono ?_
  rintro e w2 ⟨p, bm, pm, k, rfl, hbr, hk, b2⟩
  have HBR := Lib.hid hbr
  have hb12 := b1.trans b2
  clear hbr HNEW b1 b2
  go_wp2_with fail
  refine (decide_any HBR.out (by omega) a b c).mono ?_
  rintro e w3 ⟨rfl, b3, _⟩
  have HC := Lib.hid (code5 a b c)
  have e5 : decZ (W0 5 (Rn 5)) (fun _ _ => false) (Rn 5) a b c = decZ (W0 5 3) noP 3 a b c := rfl
  rw [e5, HC.out]
  have hb13 := hb12.trans b3
  clear e5 HC HBR hb12 b3
  by_cases hb1 : b = 1
  · subst hb1
    by_cases ha0 : a = 0
    · subst ha0
      rw [if_pos ⟨rfl, rfl⟩]
      by_cases h3 : c = 3
      · subst h3
        go_wp2_with fail
        go_ret
        exact ⟨rfl, hb13⟩
      · have t3 : (c == 3) = false := by simpa using h3
        by_cases h4 : c = 4
        · subst h4
          go_wp2_with fail
          go_ret
          exact ⟨rfl, hb13⟩
        · have t4 : (c == 4) = false := by simpa using h4
          by_cases h5 : c = -1
          · subst h5
            go_wp2_with fail
            go_ret
            exact ⟨rfl, hb13⟩
          · have t5 : (c == -1) = false := by simpa using h5
            rw [if_neg (show ¬ (c = 3 ∨ c = 4 ∨ c = -1) by omega)]
            clear h3 h4 h5
            go_wp2_with fail
            go_ret
            exact ⟨rfl, hb13⟩
    · have t0 : (a == 0) = false := by simpa using ha0
      by_cases ha1 : a = 1
      · subst ha1
        rw [if_neg (by omega), if_pos ⟨rfl, rfl⟩]
        by_cases h3 : c = 1
        · subst h3
          go_wp2_with fail
          go_ret
          exact ⟨rfl, hb13⟩
        · have t3 : (c == 1) = false := by simpa using h3
          by_cases h4 : c = 2
          · subst h4
            go_wp2_with fail
            go_ret
            exact ⟨rfl, hb13⟩
          · have t4 : (c == 2) = false := by simpa using h4
            by_cases h5 : c = -1
            · subst h5
              go_wp2_with fail
              go_ret
              exact ⟨rfl, hb13⟩
            · have t5 : (c == -1) = false := by simpa using h5
              rw [if_neg (show ¬ (c = 1 ∨ c = 2 ∨ c = -1) by omega)]
              clear h3 h4 h5
              go_wp2_with fail
              go_ret
              exact ⟨rfl, hb13⟩
      · have t1 : (a == 1) = false := by simpa using ha1
        rw [if_neg (by omega), if_neg (by omega)]
        clear ha0 ha1
        go_wp2_with fail
        go_ret
        exact ⟨rfl, hb13⟩
  · have t0 : (b == 1) = false := by simpa using hb1
    rw [if_neg (by omega), if_neg (by omega)]
    clear hb1
    by_cases ha0 : a = 0
    · subst ha0
      go_wp2_with fail
      go_ret
      exact ⟨rfl, hb13⟩
    · have t1 : (a == 0) = false := by simpa using ha0
      clear ha0
      by_cases ha1 : a = 1
      · subst ha1
        go_wp2_with fail
        go_ret
        exact ⟨rfl, hb13⟩
      · have t2 : (a == 1) = false := by simpa using ha1
        clear ha1
        go_wp2_with fail
        go_ret
        exact ⟨rfl, hb13⟩
end Go.Proofs.Ytpdanppnpgfkeaa
