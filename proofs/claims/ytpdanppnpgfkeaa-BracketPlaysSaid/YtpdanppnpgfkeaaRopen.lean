/- The document's Open. -/
import Derived.Test.YtpdanppnpgfkeaaRsmall
namespace Go.Proofs.Ytpdanppnpgfkeaa
open Go.RowKit Go.Maps

/-- the document's bracket, with all that is known of it -/
structure Rz (w : World) (B p n : Nat) (v : Value) (L : List Dd) (W : Nat → Nat → Int) (P : Nat → Nat → Bool) : Prop where
  hn : 2 ≤ n ∧ n ≤ 16
  inv : Inv n (Rn n) W P
  tie : Tie (Rn n) W P L
  rb : Rb w B p n v L
  len : L.length ≤ 100

section
variable {w : World} {B p n : Nat} {v : Value} {L : List Dd} {W : Nat → Nat → Int} {P : Nat → Nat → Bool}

theorem Rz.keep (h : Rz w B p n v L W P) {w' : World} (hb : Below w.heap.size w w') : Rz w' B p n v L W P := ⟨h.hn, h.inv, h.tie, h.rb.keep hb, h.len⟩
theorem Rz.rounds (h : Rz w B p n v L W P) : Calls Try.prog 13 #[.pointer (some ⟨p, 0, none⟩)] w fun e w' => e = .returned (.int .i64 (Rn n)) ∧ w' = w := rrounds_any h.hn h.rb.c0
theorem Rz.count (h : Rz w B p n v L W P) (r : Nat) (hr : r < Rn n) : Calls Try.prog 25 #[.pointer (some ⟨p, 0, none⟩), .int .i64 r] w fun e w' => e = .returned (.int .i64 (2 ^ (Rn n - r - 1) : Nat)) ∧ w' = w := count_any h.hn h.rb.c0 r hr
theorem Rz.decided (h : Rz w B p n v L W P) (r q : Nat) (hr : r < Rn n) (hq : q < 2 ^ (Rn n - r - 1)) : Calls Try.prog 27 #[.pointer (some ⟨p, 0, none⟩), .int .i64 r, .int .i64 q] w fun e w' => e = .returned (.bool (P r q)) ∧ w' = w := decided_any h.tie h.rb h.len r q hr hq
theorem Rz.who (h : Rz w B p n v L W P) (r q : Nat) (hr : r ≤ Rn n) (hq : q < 2 ^ (Rn n - r)) : Calls Try.prog 26 #[.pointer (some ⟨p, 0, none⟩), .int .i64 r, .int .i64 q] w fun e w' => e = .returned (.int .i64 (W r q)) ∧ w' = w := rwho_any h.hn h.inv h.tie h.rb h.len r q hr hq
theorem Rz.left (h : Rz w B p n v L W P) (r q : Nat) (hr : r < Rn n) (hq : q < 2 ^ (Rn n - r - 1)) : Calls Try.prog 26 #[.pointer (some ⟨p, 0, none⟩), .int .i64 r, .int .i64 (2 * (q : Int))] w fun e w' => e = .returned (.int .i64 (W r (2 * q))) ∧ w' = w := by
  have := h.who r (2 * q) (by omega) (two_lt hr hq).1
  rw [show ((2 * q : Nat) : Int) = 2 * (q : Int) by omega] at this
  exact this
theorem Rz.right (h : Rz w B p n v L W P) (r q : Nat) (hr : r < Rn n) (hq : q < 2 ^ (Rn n - r - 1)) : Calls Try.prog 26 #[.pointer (some ⟨p, 0, none⟩), .int .i64 r, .int .i64 (2 * (q : Int) + 1)] w fun e w' => e = .returned (.int .i64 (W r (2 * q + 1))) ∧ w' = w := by
  have := h.who r (2 * q + 1) (by omega) (two_lt hr hq).2
  rw [show ((2 * q + 1 : Nat) : Int) = 2 * (q : Int) + 1 by omega] at this
  exact this
theorem Rz.champ (h : Rz w B p n v L W P) : Calls Try.prog 15 #[.pointer (some ⟨p, 0, none⟩)] w fun e w' => e = .returned (.tuple #[.int .i64 (max (W (Rn n) 0) 0), .bool (decide (0 ≤ W (Rn n) 0))]) ∧ w' = w := rchamp_any h.hn h.inv h.tie h.rb h.len

theorem info64 : (Try.prog.info? 64).map (fun i => (i.zero, i.size, i.bytes)) = some (some (.agg #[.int .i64 0, .int .i64 0, .int .i64 0, .int .i64 0]), 4, 32) := by kernel_rfl

def Ropened (l : List Mt) (w : World) (e : Ending) (w' : World) : Prop :=
  ∃ v, e = .returned v ∧ w'.ownsRow w.heap.size 64 4 v l.length (msCells l) ∧ Below w.heap.size w w'

set_option maxRecDepth 20000 in
set_option maxHeartbeats 4000000 in
theorem ropen_any (h : Rz w B p n v L W P) :
    Calls Try.prog 11 #[.pointer (some ⟨p, 0, none⟩)] w (Ropened (openL W P (Rn n)) w) := by
  obtain ⟨i0, hi, hz0, hz1, hz2⟩ := info_parts info64
  obtain ⟨hR1, hR4, _, _⟩ := Rn_ok h.hn
  have HX := Lib.hid h
  clear h
  go_enter Try.func11, Try.ntmps11
  go_wp2_with fail
  go_loopg [3, 4] (Rn n) (fun m vl i wr => ∃ r : Nat, r ≤ Rn n ∧ m = Rn n - r ∧ i = .int .i64 r ∧ wr.ownsRow w.heap.size 64 4 vl (openUpto W P (Rn n) r).length (msCells (openUpto W P (Rn n) r)) ∧ Below w.heap.size w wr)
  case atStart => exact ⟨0, Nat.zero_le _, rfl, rfl, World.ownsRow_nil _ _ _ _, Below.refl _ _⟩
  case round =>
    obtain ⟨r, hr, hm, rfl, hvl, hb⟩ := hrel
    have HM := Lib.hid hm
    have HVL := Lib.hid hvl
    have HXr := Lib.hid (HX.out.keep hb)
    clear hm hvl
    go_wp2_with fail
    refine HXr.out.rounds.mono ?_
    rintro e w1 ⟨rfl, rfl⟩
    by_cases hlt : r < Rn n
    · obtain ⟨c, hc⟩ : ∃ c, 2 ^ (Rn n - r - 1) = c := ⟨_, rfl⟩
      have HC := Lib.hid hc
      have hc16 : c ≤ 16 := by rw [← hc]; exact pow4 (by omega)
      clear hc
      go_wp2_with fail
      go_loopg [3, 5] c (fun m vl i wq => ∃ q : Nat, q ≤ c ∧ m = c - q ∧ i = .int .i64 q ∧ wq.ownsRow w.heap.size 64 4 vl (openUpto W P (Rn n) r ++ openRow W P r q).length (msCells (openUpto W P (Rn n) r ++ openRow W P r q)) ∧ Below w.heap.size w wq)
      case atStart => exact ⟨0, Nat.zero_le _, rfl, rfl, by simpa [openRow] using HVL.out, hb⟩
      case round =>
        obtain ⟨q, hq, hm, rfl, hvl, hb2⟩ := hrel
        have HM2 := Lib.hid hm
        have HVQ := Lib.hid hvl
        have HXq := Lib.hid (HX.out.keep hb2)
        clear hm hvl
        go_wp2_with fail
        refine (HXq.out.count r hlt).mono ?_
        rintro e w2 ⟨rfl, rfl⟩
        rw [HC.out]
        by_cases hlq : q < c
        · have HQB := Lib.hid (show q < 2 ^ (Rn n - r - 1) by rw [HC.out]; exact hlq)
          go_wp2_with fail
          refine (HXq.out.left r q hlt HQB.out).mono ?_
          rintro e w3 ⟨rfl, rfl⟩
          go_wp2_with fail
          refine (HXq.out.right r q hlt HQB.out).mono ?_
          rintro e w3 ⟨rfl, rfl⟩
          have hdc := HXq.out.decided r q hlt HQB.out
          obtain ⟨b, hbP⟩ : ∃ b, P r q = b := ⟨_, rfl⟩
          obtain ⟨x, hx⟩ : ∃ x, W r (2 * q) = x := ⟨_, rfl⟩
          obtain ⟨y, hy⟩ : ∃ y, W r (2 * q + 1) = y := ⟨_, rfl⟩
          have hat : openAt W P r q = if (decide (0 ≤ x) && decide (0 ≤ y) && !b) = true then [⟨r, q, x, y⟩] else [] := by rw [openAt, hbP, hx, hy]
          have HAT := Lib.hid hat
          rw [hbP] at hdc
          rw [hx, hy]
          have HDC := Lib.hid hdc
          clear hat hbP hx hy hdc
          have hlen : (openUpto W P (Rn n) r ++ openRow W P r q).length ≤ 100 := by
            rw [List.length_append]
            have h1 := openUpto_len W P (Rn n) r hR4
            have h2 := openRow_len W P r q
            omega
          by_cases hx0 : 0 ≤ x
          · by_cases hy0 : 0 ≤ y
            · have tx : decide (0 ≤ x) = true := by simpa using hx0
              have ty : decide (0 ≤ y) = true := by simpa using hy0
              cases b
              · have hem : openRow W P r (q + 1) = openRow W P r q ++ [⟨r, q, x, y⟩] := by rw [openRow_succ, HAT.out]; simp [hx0, hy0]
                have HEM := Lib.hid hem
                have hb1 : (openUpto W P (Rn n) r ++ openRow W P r q).length + 1 ≤ maxLen := by unfold maxLen; omega
                have hb3 : ((openUpto W P (Rn n) r ++ openRow W P r q).length + 1) * 32 ≤ 140737488355328 := by omega
                have hsz2 : w.heap.size ≤ (w3.alloc (.cells #[.int .i64 r, .int .i64 q, .int .i64 x, .int .i64 y] 64)).heap.size := Nat.le_trans hb2.size (by simp)
                clear hem
                go_wp2_with fail
                refine HDC.out.mono ?_
                rintro e w4 ⟨rfl, rfl⟩
                go_wp2_with (at_builtin; refine wpList_append_own _ rfl (.tmp 45) (.tmp 51) 35 rfl w.heap.size 64 i0 (.agg #[.int .i64 0, .int .i64 0, .int .i64 0, .int .i64 0]) 4 32 Try.underlying35 hi hz0 hz1 hz2 rfl (by decide) _ _ _ rfl (HVQ.out.alloc _) ⟨w4.heap.size, 0, none⟩ 1 1 [.int .i64 r, .int .i64 q, .int .i64 x, .int .i64 y] rfl rfl (news_at w4 _ 64 w4.heap.size rfl) (by simp [Value.oneCell']) hb1 hb3 hsz2 ?_)
                intro v' w5 hown5 hgr5 _
                have HO5 := Lib.hid hown5
                have HB5 := Lib.hid ((hb2.alloc hb2.size _).grown hgr5 hsz2 (fun j hj => owns_block HVQ.out j hj))
                clear hown5 hgr5 hsz2 hb1 hb3
                go_wp2_with fail
                go_roundg (c - (q + 1))
                case measure => rw [HM2.out]; omega
                case rel => exact ⟨q + 1, by omega, rfl, by go_num, by rw [HEM.out, ← List.append_assoc, msCells_snoc, List.length_append, List.length_append]; exact HO5.out, HB5.out⟩
              · have hem : openRow W P r (q + 1) = openRow W P r q := by rw [openRow_succ, HAT.out]; simp
                have HEM := Lib.hid hem
                clear hem
                go_wp2_with fail
                refine HDC.out.mono ?_
                rintro e w4 ⟨rfl, rfl⟩
                go_wp2_with fail
                go_roundg (c - (q + 1))
                case measure => rw [HM2.out]; omega
                case rel => exact ⟨q + 1, by omega, rfl, by go_num, by rw [HEM.out]; exact HVQ.out, hb2⟩
            · have tx : decide (0 ≤ x) = true := by simpa using hx0
              have ty : decide (0 ≤ y) = false := by simpa using hy0
              have hem : openRow W P r (q + 1) = openRow W P r q := by rw [openRow_succ, HAT.out]; simp [hy0]
              have HEM := Lib.hid hem
              clear hem
              go_wp2_with fail
              go_roundg (c - (q + 1))
              case measure => rw [HM2.out]; omega
              case rel => exact ⟨q + 1, by omega, rfl, by go_num, by rw [HEM.out]; exact HVQ.out, hb2⟩
          · have tx : decide (0 ≤ x) = false := by simpa using hx0
            have hem : openRow W P r (q + 1) = openRow W P r q := by rw [openRow_succ, HAT.out]; simp [hx0]
            have HEM := Lib.hid hem
            clear hem
            go_wp2_with fail
            go_roundg (c - (q + 1))
            case measure => rw [HM2.out]; omega
            case rel => exact ⟨q + 1, by omega, rfl, by go_num, by rw [HEM.out]; exact HVQ.out, hb2⟩
        · obtain rfl : q = c := by omega
          go_wp2_with fail
          go_roundg (Rn n - (r + 1))
          case measure => rw [HM.out]; omega
          case rel => exact ⟨r + 1, by omega, rfl, by go_num, by rw [openUpto_succ, HC.out]; exact HVQ.out, hb2⟩
    · have hre : r = Rn n := by omega
      have HRE := Lib.hid (show openL W P (Rn n) = openUpto W P (Rn n) r by rw [openL, hre])
      clear hre
      go_wp2_with fail
      go_ret
      exact ⟨_, rfl, by rw [HRE.out]; exact HVL.out, hb⟩
end
end Go.Proofs.Ytpdanppnpgfkeaa
