/- The seating: the entrants' order. -/
import Derived.Test.YtpdanppnpgfkeaaDecw
namespace Go.Proofs.Ytpdanppnpgfkeaa
open Go.RowKit Go.Maps

/-- number i of the seating of 2 ^ j -/
def seat : Nat → Nat → Nat
  | 0, _ => 0
  | j + 1, i => if i % 2 = 0 then seat j (i / 2) else 2 ^ (j + 1) - 1 - seat j (i / 2)

theorem seat_lt (j : Nat) : ∀ i, seat j i < 2 ^ j := by
  induction j with
  | zero => intro i; simp [seat]
  | succ j ih =>
    intro i
    have := ih (i / 2)
    have h2 : 2 ^ (j + 1) = 2 * 2 ^ j := by rw [Nat.pow_succ]; omega
    rw [seat]
    split <;> omega

theorem seat_even (j i : Nat) : seat (j + 1) (2 * i) = seat j i := by
  rw [seat, if_pos (by omega), show 2 * i / 2 = i by omega]
theorem seat_odd (j i : Nat) : seat (j + 1) (2 * i + 1) = 2 ^ (j + 1) - 1 - seat j i := by
  rw [seat, if_neg (by omega), show (2 * i + 1) / 2 = i by omega]

/-- the first m of the seating of 2 ^ j -/
def seatsV (j m : Nat) : List Value := (List.range m).map (fun i => Value.int .i64 (seat j i : Nat))

theorem seatsV_get (j m i : Nat) (h : i < m) : (seatsV j m)[i]? = some (.int .i64 (seat j i : Nat)) := by simp [seatsV, h]
theorem seatsV_two (j i : Nat) : seatsV (j + 1) (2 * (i + 1)) = seatsV (j + 1) (2 * i) ++ [.int .i64 (seat j i : Nat), .int .i64 ((2 ^ (j + 1) - 1 - seat j i : Nat) : Int)] := by
  rw [show 2 * (i + 1) = 2 * i + 1 + 1 by omega]
  simp [seatsV, List.range_succ, seat_even, seat_odd]

theorem info3 : (Try.prog.info? 3).map (fun i => (i.zero, i.size, i.bytes)) = some (some (.int .i64 0), 1, 8) := by kernel_rfl

theorem owns_some {w : World} {B e sz : Nat} {v : Value} {n : Nat} {xs : List Value} (h : w.ownsRow B e sz v n xs) (hn : 0 < n) : ∃ g cap, v = .slice (some ⟨g, 0, none⟩) n cap ∧ B ≤ g ∧ g < w.heap.size := by
  rcases h.2 with ⟨_, h2⟩ | ⟨g, cap, cur, hv, hg, hh, _⟩
  · omega
  · exact ⟨g, cap, hv, hg, (Array.getElem?_eq_some_iff.1 hh).1⟩

theorem owns_lower {w : World} {B B' e sz : Nat} {v : Value} {n : Nat} {xs : List Value} (h : w.ownsRow B e sz v n xs) (hB : B' ≤ B) : w.ownsRow B' e sz v n xs := by
  obtain ⟨h1, h2⟩ := h
  refine ⟨h1, ?_⟩
  rcases h2 with h2 | ⟨g, cap, cur, hv, hg, r⟩
  · exact .inl h2
  · exact .inr ⟨g, cap, cur, hv, Nat.le_trans hB hg, r⟩

set_option maxRecDepth 20000 in
set_option maxHeartbeats 4000000 in
theorem seating_any (R : Nat) (hR : R ≤ 4) (w : World) :
    Calls Try.prog 21 #[.int .i64 (2 ^ R : Nat)] w fun e w' => ∃ v, e = .returned v ∧ w'.ownsRow w.heap.size 3 1 v (2 ^ R) (seatsV R (2 ^ R)) ∧ Below w.heap.size w w' := by
  obtain ⟨i0, hi, hz0, hz1, hz2⟩ := info_parts info3
  obtain ⟨S, hS⟩ : ∃ S, 2 ^ R = S := ⟨_, rfl⟩
  have hS16 : S ≤ 16 := by rw [← hS]; exact pow4 hR
  rw [hS]
  have HS := Lib.hid hS
  clear hS
  obtain ⟨w0, hw0⟩ : ∃ w0, w.alloc (.cells #[.int .i64 0] 3) = w0 := ⟨_, rfl⟩
  have ho0 : w0.ownsRow w.heap.size 3 1 (.slice (some ⟨w.heap.size, 0, none⟩) 1 1) 1 (seatsV 0 1) := by
    rw [← hw0]
    exact ⟨rfl, .inr ⟨w.heap.size, 1, #[.int .i64 0], rfl, Nat.le_refl _, heap_alloc_new _ _, Nat.le_refl _, by unfold maxLen; omega, rfl, rfl⟩⟩
  have b0 : Below w.heap.size w w0 := by rw [← hw0]; exact (Below.refl _ _).alloc (Nat.le_refl _) _
  have HO0 := Lib.hid ho0
  have HW0 := Lib.hid hw0
  have HB0 := Lib.hid b0
  clear ho0 hw0 b0
  go_enter Try.func21, Try.ntmps21
  go_wp2_with fail
  rw [HW0.out]
  go_loopg [3] R (fun m vl wr => ∃ j N : Nat, j ≤ R ∧ m = R - j ∧ Hid (2 ^ j = N) ∧ N ≤ 16 ∧ 1 ≤ N ∧ wr.ownsRow w.heap.size 3 1 vl N (seatsV j N) ∧ Below w.heap.size w wr)
  case atStart => exact ⟨0, 1, Nat.zero_le _, rfl, Lib.hid rfl, by omega, by omega, HO0.out, HB0.out⟩
  case round =>
    obtain ⟨j, N, hj, hm, HN, hN, hN1, hvl, hb⟩ := hrel
    obtain ⟨wo, rfl⟩ : ∃ wo, wo = wr := ⟨_, rfl⟩
    have HM := Lib.hid hm
    clear hm
    obtain ⟨g, cap, rfl, hg, hgl⟩ := owns_some hvl (by omega)
    have HVL := Lib.hid hvl
    clear hvl
    by_cases hlt : j < R
    · have hNS : 2 * N ≤ S := by
        rw [← HN.out, ← HS.out]
        have : 2 ^ (j + 1) ≤ 2 ^ R := Nat.pow_le_pow_right (by omega) hlt
        rw [Nat.pow_succ] at this
        omega
      have hNI : (N : Int) < S := by omega
      go_wp2_with fail
      go_loopg [4, 14] N (fun m vn i wq => ∃ i' : Nat, i' ≤ N ∧ m = N - i' ∧ i = .int .i64 i' ∧ wq.ownsRow wo.heap.size 3 1 vn (2 * i') (seatsV (j + 1) (2 * i')) ∧ Below wo.heap.size wo wq)
      case atStart => exact ⟨0, Nat.zero_le _, rfl, rfl, World.ownsRow_nil _ _ _ _, Below.refl _ _⟩
      case round =>
        obtain ⟨i, hi2, hm, rfl, hvn, hb2⟩ := hrel
        have HM2 := Lib.hid hm
        clear hm
        by_cases hli : i < N
        · obtain ⟨s, hs⟩ : ∃ s, seat j i = s := ⟨_, rfl⟩
          have hsN : s < N := by rw [← hs, ← HN.out]; exact seat_lt j i
          have hc0 : wo.cell? ⟨g, i, none⟩ = some (.int .i64 s) := by
            rw [HVL.out.cellAt i (by omega), seatsV_get j N i hli, hs]
          have hc1 : wr.cell? ⟨g, i, none⟩ = some (.int .i64 s) := (hb2.cell hgl).trans hc0
          have h2N : Hid (2 ^ (j + 1) - 1 - s = 2 * N - 1 - s) := Lib.hid (by rw [Nat.pow_succ, HN.out, Nat.mul_comm])
          have htwo := seatsV_two j i
          rw [hs, h2N.out] at htwo
          have HTWO := Lib.hid htwo
          have HVN := Lib.hid hvn
          have hb1 : 2 * i + 2 ≤ maxLen := by unfold maxLen; omega
          have hb3 : (2 * i + 2) * 8 ≤ 140737488355328 := by omega
          have hsz2 : wo.heap.size ≤ (wr.alloc (.cells #[.int .i64 (s : Int), .int .i64 (2 * (N : Int) - 1 - (s : Int))] 3)).heap.size := by have := hb2.size; simp; omega
          clear hs hc0 htwo hvn
          go_wp2_with (at_builtin; refine wpList_append_own _ rfl (.tmp 18) (.tmp 26) 59 rfl wo.heap.size 3 i0 (.int .i64 0) 1 8 Try.underlying59 hi hz0 hz1 hz2 rfl (by decide) _ _ _ rfl (HVN.out.alloc _) ⟨wr.heap.size, 0, none⟩ 2 2 [.int .i64 (s : Int), .int .i64 (2 * (N : Int) - 1 - (s : Int))] rfl rfl (news_at wr _ 3 _ rfl) (by simp [Value.oneCell']) hb1 hb3 hsz2 ?_)
          intro v' w4 hown4 hgr4 _
          have HO4 := Lib.hid hown4
          have HB4 := Lib.hid ((hb2.alloc hb2.size _).grown hgr4 hsz2 (fun j hj => owns_block HVN.out j hj))
          clear hown4 hgr4 hsz2 hb1 hb3
          go_wp2_with fail
          go_roundg (N - (i + 1))
          case measure => rw [HM2.out]; omega
          case rel => exact ⟨i + 1, by omega, rfl, by go_num, by rw [HTWO.out, show ((2 * N - 1 - s : Nat) : Int) = 2 * (N : Int) - 1 - s by omega]; exact HO4.out, HB4.out⟩
        · obtain rfl : i = N := by omega
          have HP := Lib.hid (show 2 ^ (j + 1) = 2 * i by rw [Nat.pow_succ, HN.out, Nat.mul_comm])
          go_wp2_with fail
          go_roundg (R - (j + 1))
          case measure => rw [HM.out]; omega
          case rel => exact ⟨j + 1, 2 * i, by omega, rfl, HP, by omega, by omega, owns_lower hvn hb.size, hb.trans (hb2.mono hb.size)⟩
    · obtain rfl : j = R := by omega
      obtain rfl : N = S := by rw [← HN.out, ← HS.out]
      go_wp2_with fail
      go_ret
      exact ⟨_, rfl, HVL.out, hb⟩
end Go.Proofs.Ytpdanppnpgfkeaa
