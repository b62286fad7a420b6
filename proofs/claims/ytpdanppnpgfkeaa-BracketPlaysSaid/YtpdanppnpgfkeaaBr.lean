/- The bracket in memory, and its small functions: Rounds, matches, who, real, Champion. -/
import Derived.Test.YtpdanppnpgfkeaaWords
namespace Go.Proofs.Ytpdanppnpgfkeaa
open Go.RowKit Go.Maps

/-- A BRACKET: its four cells, its two maps; W is who stands at a spot of a round (-2: not known), P is which matches were played -/
structure Br (w : World) (B p n R : Nat) (W : Nat → Nat → Int) (P : Nat → Nat → Bool) (bm pm k : Nat) : Prop where
  c0 : w.cell? ⟨p, 0, none⟩ = some (.int .i64 n)
  c1 : w.cell? ⟨p, 1, none⟩ = some (.int .i64 (2 ^ R : Nat))
  c2 : w.cell? ⟨p, 2, none⟩ = some (.map (some bm))
  c3 : w.cell? ⟨p, 3, none⟩ = some (.map (some pm))
  mi : ∃ f, MapI w bm k f ∧ ∀ r q : Nat, r ≤ R → q < 2 ^ (R - r) → (f r q).getD (-2) = W r q
  mb : ∃ g, MapB w pm k g ∧ ∀ r q : Nat, r < R → q < 2 ^ (R - r - 1) → g r q = P r q
  ne : bm ≠ pm
  np : p ≠ bm
  nq : p ≠ pm
  gp : B ≤ p
  gb : B ≤ bm
  gq : B ≤ pm
  sz : B ≤ w.heap.size
  R4 : 1 ≤ R ∧ R ≤ 4

theorem pow4 {R : Nat} (h : R ≤ 4) : 2 ^ R ≤ 16 := by
  have : 2 ^ R ≤ 2 ^ 4 := Nat.pow_le_pow_right (by omega) h
  simpa using this

theorem pow_half {R r : Nat} (h : r < R) : 2 ^ (R - r) = 2 * 2 ^ (R - r - 1) := by
  obtain ⟨m, rfl⟩ : ∃ m, R = r + 1 + m := ⟨R - r - 1, by omega⟩
  have e1 : r + 1 + m - r = m + 1 := by omega
  have e2 : r + 1 + m - r - 1 = m := by omega
  rw [e2, e1, Nat.pow_succ]; omega

section
variable {w : World} {B p n R : Nat} {W : Nat → Nat → Int} {P : Nat → Nat → Bool} {bm pm k : Nat}

theorem Br.lt (h : Br w B p n R W P bm pm k) : p < w.heap.size := World.block_lt_of_cell? w _ h.c0

theorem Br.keep {w' : World} (h : Br w B p n R W P bm pm k) (hb : Below w.heap.size w w') : Br w' B p n R W P bm pm k := by
  obtain ⟨f, hf, hf2⟩ := h.mi
  obtain ⟨g, hg, hg2⟩ := h.mb
  have hp := h.lt
  exact ⟨(hb.cell hp).trans h.c0, (hb.cell hp).trans h.c1, (hb.cell hp).trans h.c2, (hb.cell hp).trans h.c3, ⟨f, hf.block (hb.block bm hf.lt), hf2⟩, ⟨g, hg.block (hb.block pm hg.lt), hg2⟩,
    h.ne, h.np, h.nq, h.gp, h.gb, h.gq, Nat.le_trans h.sz hb.size, h.R4⟩

theorem below_drewN (w : World) (n : Nat) : Below w.heap.size w (w.drewN n) := ⟨rfl, rfl, rfl, Nat.le_refl _, fun _ _ => rfl⟩
theorem Br.drewN (h : Br w B p n R W P bm pm k) (m : Nat) : Br (w.drewN m) B p n R W P bm pm k := h.keep (below_drewN w m)

set_option maxHeartbeats 1000000 in
theorem who_any (h : Br w B p n R W P bm pm k) (r q : Nat) (hr : r ≤ R) (hq : q < 2 ^ (R - r)) :
    Calls Try.prog 29 #[.pointer (some ⟨p, 0, none⟩), .int .i64 r, .int .i64 q] w fun e w' => e = .returned (.int .i64 (W r q)) ∧ w' = w := by
  obtain ⟨f, hf, hf2⟩ := h.mi
  have c2 := h.c2
  have hR := h.R4
  have h16 : q < 16 := Nat.lt_of_lt_of_le hq (pow4 (by omega))
  have hl := hf.look (r := r) (p := q) (ok64_of (by omega)) (ok64_of (by omega))
  unfold spotV at hl
  have hW := hf2 r q hr hq
  clear hf hf2 h hq
  cases hx : f r q with
  | none =>
    rw [hx] at hl hW
    simp only [Option.isSome_none, Option.getD_none] at hl hW
    rw [← hW]
    clear hW hx
    go_enter Try.func29, Try.ntmps29
    go_wp2_with fail
    go_ret
    exact ⟨rfl, rfl⟩
  | some x =>
    rw [hx] at hl hW
    simp only [Option.isSome_some, Option.getD_some] at hl hW
    rw [← hW]
    clear hW hx
    go_enter Try.func29, Try.ntmps29
    go_wp2_with fail
    go_ret
    exact ⟨rfl, rfl⟩

set_option maxHeartbeats 1000000 in
theorem rounds_any (h : Br w B p n R W P bm pm k) :
    Calls Try.prog 12 #[.pointer (some ⟨p, 0, none⟩)] w fun e w' => e = .returned (.int .i64 R) ∧ w' = w := by
  have c1 := h.c1
  have hR := h.R4
  clear h
  have hp : R = 1 ∨ R = 2 ∨ R = 3 ∨ R = 4 := by omega
  rcases hp with rfl | rfl | rfl | rfl
  all_goals
    simp only [Nat.reducePow] at c1
    clear hR
    go_enter Try.func12, Try.ntmps12
    go_wp2_with fail
    refine wp_loop_rounds 5 ?_
    repeat (rw [rounds_succ]; go_wp2_with fail)
    go_ret
    exact ⟨rfl, rfl⟩

theorem rounds_nil (w : World) :
    Calls Try.prog 12 #[.pointer none] w fun e w' => e = .returned (.int .i64 0) ∧ w' = w := by
  go_enter Try.func12, Try.ntmps12
  go_wp2_with fail
  go_ret
  exact ⟨rfl, rfl⟩

set_option maxHeartbeats 1000000 in
theorem matches_any (h : Br w B p n R W P bm pm k) (r : Nat) (hr : r < R) :
    Calls Try.prog 23 #[.pointer (some ⟨p, 0, none⟩), .int .i64 r] w fun e w' => e = .returned (.int .i64 (2 ^ (R - r - 1) : Nat)) ∧ w' = w := by
  have c1 := h.c1
  have hR := h.R4
  clear h
  have hp : R = 1 ∨ R = 2 ∨ R = 3 ∨ R = 4 := by omega
  have hq : r = 0 ∨ r = 1 ∨ r = 2 ∨ r = 3 := by omega
  rcases hp with rfl | rfl | rfl | rfl <;> rcases hq with rfl | rfl | rfl | rfl
  all_goals first | (exfalso; omega) | skip
  all_goals
    simp only [Nat.reducePow] at c1
    clear hR hr
    go_enter Try.func23, Try.ntmps23
    go_wp2_with fail
    go_ret
    exact ⟨rfl, rfl⟩

theorem who_left (h : Br w B p n R W P bm pm k) (r q : Nat) (hr : r ≤ R) (hq : 2 * q < 2 ^ (R - r)) :
    Calls Try.prog 29 #[.pointer (some ⟨p, 0, none⟩), .int .i64 r, .int .i64 (2 * (q : Int))] w fun e w' => e = .returned (.int .i64 (W r (2 * q))) ∧ w' = w := by
  have := who_any h r (2 * q) hr hq
  rw [show ((2 * q : Nat) : Int) = 2 * (q : Int) by omega] at this
  exact this
theorem who_right (h : Br w B p n R W P bm pm k) (r q : Nat) (hr : r ≤ R) (hq : 2 * q + 1 < 2 ^ (R - r)) :
    Calls Try.prog 29 #[.pointer (some ⟨p, 0, none⟩), .int .i64 r, .int .i64 (2 * (q : Int) + 1)] w fun e w' => e = .returned (.int .i64 (W r (2 * q + 1))) ∧ w' = w := by
  have := who_any h r (2 * q + 1) hr hq
  rw [show ((2 * q + 1 : Nat) : Int) = 2 * (q : Int) + 1 by omega] at this
  exact this

set_option maxHeartbeats 1000000 in
theorem real_any (h : Br w B p n R W P bm pm k) (r q : Nat) (hr : r < R) (hq : q < 2 ^ (R - r - 1)) :
    Calls Try.prog 24 #[.pointer (some ⟨p, 0, none⟩), .agg #[.int .i64 r, .int .i64 q]] w fun e w' =>
      e = .returned (.tuple #[.int .i64 (W r (2 * q)), .int .i64 (W r (2 * q + 1)), .bool (decide (0 ≤ W r (2 * q)) && decide (0 ≤ W r (2 * q + 1)))]) ∧ Below w.heap.size w w' := by
  have hh := pow_half hr
  have h16 : 2 ^ (R - r) ≤ 16 := Nat.le_trans (Nat.pow_le_pow_right (by omega) (Nat.sub_le R r)) (pow4 h.R4.2)
  have hr4 := h.R4
  obtain ⟨w0, hw0⟩ : ∃ w0, w.alloc (.cells #[.int .i64 r, .int .i64 q] 62) = w0 := ⟨_, rfl⟩
  have b0 : Below w.heap.size w w0 := by rw [← hw0]; exact (Below.refl _ _).alloc (Nat.le_refl _) _
  have s0 : w0.cell? ⟨w.heap.size, 0, none⟩ = some (.int .i64 r) := by rw [← hw0]; exact World.cell?_alloc_at _ _ _ _ rfl
  have s1 : w0.cell? ⟨w.heap.size, 1, none⟩ = some (.int .i64 q) := by rw [← hw0]; exact World.cell?_alloc_at _ _ _ _ rfl
  have HX := Lib.hid (h.keep b0)
  have HB := Lib.hid b0
  have HW0 := Lib.hid hw0
  have q1 : 2 * q < 2 ^ (R - r) := by omega
  have q2 : 2 * q + 1 < 2 ^ (R - r) := by omega
  have q3 : q < 16 := by omega
  clear h hw0 hh h16 b0
  go_enter Try.func24, Try.ntmps24
  go_wp2_with fail
  rw [HW0.out]
  go_quiet (first
      | (go_at_call 29; with_reducible refine Calls.quiet_of_same (who_left (HX.out.drewN _) r q (by omega) q1))
      | (go_at_call 29; with_reducible refine Calls.quiet_of_same (who_right (HX.out.drewN _) r q (by omega) q2)))
  have hB : Below w.heap.size w (w0.drewN nq) := HB.out.trans ((below_drewN w0 nq).mono HB.out.size)
  obtain ⟨x, hWx⟩ : ∃ x, W r (2 * q) = x := ⟨_, rfl⟩
  obtain ⟨y, hWy⟩ : ∃ y, W r (2 * q + 1) = y := ⟨_, rfl⟩
  rw [hWx, hWy]
  have HWX := Lib.hid hWx
  have HWY := Lib.hid hWy
  clear hWx hWy
  clear HX HB HW0 s0 s1 q1 q2 q3
  by_cases hx : 0 ≤ x
  · have hx1 : decide (0 ≤ x) = true := by simpa using hx
    go_wp2_with fail
    refine bodyPost_ret (v := .tuple #[.int .i64 x, .int .i64 y, .bool (decide (0 ≤ x) && decide (0 ≤ y))]) (by simp [results, Try.results24, go_sem] <;> omega) rfl ?_
    exact ⟨by rw [HWX.out, HWY.out], hB⟩
  · have hx1 : decide (0 ≤ x) = false := by simpa using hx
    go_wp2_with fail
    refine bodyPost_ret (v := .tuple #[.int .i64 x, .int .i64 y, .bool (decide (0 ≤ x) && decide (0 ≤ y))]) (by simp [results, Try.results24, go_sem] <;> omega) rfl ?_
    exact ⟨by rw [HWX.out, HWY.out], hB⟩

set_option maxHeartbeats 1000000 in
theorem champ_any (h : Br w B p n R W P bm pm k) :
    Calls Try.prog 14 #[.pointer (some ⟨p, 0, none⟩)] w fun e w' => e = .returned (.tuple #[.int .i64 (max (W R 0) 0), .bool (decide (0 ≤ W R 0))]) ∧ w' = w := by
  have HX := Lib.hid h
  clear h
  go_enter Try.func14, Try.ntmps14
  go_wp2_with fail
  refine (rounds_any HX.out).mono ?_
  rintro e w' ⟨rfl, rfl⟩
  go_wp2_with fail
  change Calls Try.prog 29 #[_, _, .int .i64 ((0 : Nat) : Int)] _ _
  refine (who_any HX.out R 0 (Nat.le_refl _) (by simp)).mono ?_
  rintro e w' ⟨rfl, rfl⟩
  obtain ⟨x, hWx⟩ : ∃ x, W R 0 = x := ⟨_, rfl⟩
  rw [hWx]
  have HWX := Lib.hid hWx
  clear HX hWx
  go_wp2_with fail
  all_goals refine bodyPost_ret (v := .tuple #[.int .i64 (max x 0), .bool (decide (0 ≤ x))]) (by simp [results, Try.results14, go_sem] <;> omega) rfl ?_
  all_goals exact ⟨by rw [HWX.out], rfl⟩

theorem champ_nil (w : World) :
    Calls Try.prog 14 #[.pointer none] w fun e w' => e = .returned (.tuple #[.int .i64 0, .bool false]) ∧ w' = w := by
  go_enter Try.func14, Try.ntmps14
  go_wp2_with fail
  refine bodyPost_ret (v := .tuple #[.int .i64 0, .bool false]) (by simp [results, Try.results14, go_sem]) rfl ?_
  exact ⟨rfl, rfl⟩

theorem out_nil (w : World) (a : Int) :
    Calls Try.prog 16 #[.pointer none, .int .i64 a] w fun e w' => e = .returned (.tuple #[.int .i64 0, .bool false]) ∧ w' = w := by
  go_enter Try.func16, Try.ntmps16
  go_wp2_with fail
  refine (rounds_nil w).mono ?_
  rintro e w' ⟨rfl, rfl⟩
  go_wp2_with fail
  refine wp_loop_rounds 1 ?_
  rw [rounds_succ]
  go_wp2_with fail
  refine bodyPost_ret (v := .tuple #[.int .i64 0, .bool false]) (by simp [results, Try.results16, go_sem]) rfl ?_
  exact ⟨rfl, rfl⟩

theorem open_nil (w : World) :
    Calls Try.prog 10 #[.pointer none] w fun e w' => e = .returned (.slice none 0 0) ∧ w' = w := by
  go_enter Try.func10, Try.ntmps10
  go_wp2_with fail
  refine (rounds_nil w).mono ?_
  rintro e w' ⟨rfl, rfl⟩
  go_wp2_with fail
  refine wp_loop_rounds 1 ?_
  rw [rounds_succ]
  go_wp2_with fail
  go_ret
  exact ⟨rfl, rfl⟩

theorem decide_nil (w : World) (a b c : Int) :
    Calls Try.prog 19 #[.pointer none, .int .i64 a, .int .i64 b, .int .i64 c] w fun e w' => e = .returned (.int .i64 7) ∧ w' = w := by
  go_enter Try.func19, Try.ntmps19
  go_wp2_with fail
  go_ret
  exact ⟨rfl, rfl⟩
end
end Go.Proofs.Ytpdanppnpgfkeaa
