/- The walk of BracketPlays: for every number of entrants and every script the call returns true and turns nothing that was there. -/
import Derived.Test.YtpdanppnpgfkeaaOps
namespace Go.Proofs.Ytpdanppnpgfkeaa
open Go.RowKit Go.Maps

set_option maxRecDepth 100000 in
set_option maxHeartbeats 4000000 in
theorem plays_big (n : Int) (a : Option Addr) (len cap : Nat) (w : World) (hbig : 60 < len) :
    Calls Try.prog 3 #[.int .i64 n, .slice a len cap] w fun e w' => e = .returned (.bool true) ∧ Below w.heap.size w w' := by
  go_enter Try.func3, Try.ntmps3
  go_wp2_with fail
  refine (awake_any w).mono ?_
  rintro e w1 ⟨rfl, b1⟩
  go_wp2_with fail
  refine (awake_any w1).mono ?_
  rintro e w2 ⟨rfl, b2⟩
  go_wp2_with fail
  go_ret
  exact ⟨rfl, b1.trans (b2.mono b1.size)⟩

set_option maxRecDepth 100000 in
set_option maxHeartbeats 4000000 in
theorem plays_bad (n : Int) (a : Option Addr) (len cap : Nat) (w : World) (hle : len ≤ 60) (hn : n < 2 ∨ 16 < n) :
    Calls Try.prog 3 #[.int .i64 n, .slice a len cap] w fun e w' => e = .returned (.bool true) ∧ Below w.heap.size w w' := by
  have HBAD := Lib.hid (new_bad n hn)
  by_cases h0 : n < 2
  · have t0 : decide (n < 2) = true := by simpa using h0
    clear hn
    go_enter Try.func3, Try.ntmps3
    go_wp2_with fail
    refine (awake_any w).mono ?_
    rintro e w1 ⟨rfl, b1⟩
    go_wp2_with fail
    refine (HBAD.out w1).mono ?_
    rintro e w2 ⟨rfl, rfl⟩
    go_wp2_with fail
    go_ret
    exact ⟨rfl, b1⟩
  · have t0 : decide (n < 2) = false := by simpa using h0
    have t1 : decide (16 < n) = true := by simp; omega
    clear hn
    go_enter Try.func3, Try.ntmps3
    go_wp2_with fail
    refine (awake_any w).mono ?_
    rintro e w1 ⟨rfl, b1⟩
    go_wp2_with fail
    refine (HBAD.out w1).mono ?_
    rintro e w2 ⟨rfl, rfl⟩
    go_wp2_with fail
    go_ret
    exact ⟨rfl, b1⟩

/-- both brackets as the walk begins -/
theorem Pair.start {n : Nat} (hn : 2 ≤ n ∧ n ≤ 16) {w2 w3 : World} {B p bm pm k : Nat} (h : Br w2 B p n (Rn n) (W0 n (Rn n)) (fun _ _ => false) bm pm k) (hw : w2.alloc (.cells #[.int .i64 n, .slice none 0 0] 31) = w3) :
    Pair w3 B w2.heap.size p w2.heap.size n bm pm k (W0 n (Rn n)) (fun _ _ => false) [] (.slice none 0 0) := by
  obtain ⟨f, hf, _⟩ := h.mi
  obtain ⟨g, hg, _⟩ := h.mb
  have hb : Below w2.heap.size w2 w3 := by rw [← hw]; exact (Below.refl _ _).alloc (Nat.le_refl _) _
  refine ⟨h.keep hb, ⟨hn, Inv.start hn, Tie.start _ _, ⟨?_, ?_, ?_, World.ownsRow_nil _ _ _ _, Nat.le_refl _, hb.size⟩, by simp⟩, h.lt, hf.lt, hg.lt⟩
  · rw [← hw]; exact World.cell?_alloc_at _ _ _ _ rfl
  · rw [← hw]; exact World.cell?_alloc_at _ _ _ _ rfl
  · rw [← hw]; exact World.frozen?_alloc_at _ _ _ _ rfl

theorem out_form {W : Nat → Nat → Int} {P : Nat → Nat → Bool} {R : Nat} {a : Int} {u : Value} (h : OutAns W P R a u) : ∃ (z : Int) (b : Bool), u = .tuple #[.int .i64 z, .bool b] := by
  rcases h with ⟨r, q, _, _, _, rfl⟩ | ⟨_, rfl⟩
  · exact ⟨_, _, rfl⟩
  · exact ⟨_, _, rfl⟩

/-- both brackets behind i decisions, whatever they were -/
def Goes (B C p n bm pm k i : Nat) (w : World) : Prop := ∃ k' W P L v, k' ≤ k + i ∧ L.length ≤ i ∧ Pair w B C p C n bm pm k' W P L v

set_option maxRecDepth 100000 in
set_option maxHeartbeats 8000000 in
theorem plays_in (n : Nat) (a : Option Addr) (len cap : Nat) (w : World) (hle : len ≤ 60) (hn : 2 ≤ n ∧ n ≤ 16) (hr : IsOps w a len) :
    Calls Try.prog 3 #[.int .i64 n, .slice a len cap] w fun e w' => e = .returned (.bool true) ∧ Below w.heap.size w w' := by
  have hn2 : (2 : Int) ≤ n := by omega
  have hn16 : (n : Int) ≤ 16 := by omega
  have HN := Lib.hid hn
  have HOPS := Lib.hid hr
  clear hn hr
  go_enter Try.func3, Try.ntmps3
  go_wp2_with fail
  refine (awake_any w).mono ?_
  rintro e w1 ⟨rfl, b1⟩
  go_wp2_with fail
  refine (new_at n HN.out w1 w.heap.size b1.size).mono ?_
  rintro e w2 ⟨p, bm, pm, k, rfl, hbr, hk, b2⟩
  obtain ⟨w3, hw3⟩ : ∃ w3, w2.alloc (.cells #[.int .i64 n, .slice none 0 0] 31) = w3 := ⟨_, rfl⟩
  have HP := Lib.hid (Pair.start HN.out hbr hw3)
  have hb3 : Below w.heap.size w w3 := by rw [← hw3]; exact (b1.trans b2).alloc (b1.trans b2).size _
  have HW3 := Lib.hid hw3
  obtain ⟨C, hC⟩ : ∃ C, w2.heap.size = C := ⟨_, rfl⟩
  have HC := Lib.hid hC
  rw [hC] at HP
  clear hw3 hC b1 b2 hbr
  go_wp2_with fail
  rw [HW3.out, HC.out]
  clear HW3
  go_loopg [8] (len + 1) (fun m v wr => ∃ i : Nat, i ≤ len + 1 ∧ m = len + 1 - i ∧ v = .int .i64 i ∧ Hid (Goes w.heap.size C p n bm pm k i wr) ∧ Below w.heap.size w wr)
  case atStart => exact ⟨0, by omega, rfl, rfl, Lib.hid ⟨k, _, _, _, _, by omega, by simp, HP.out⟩, hb3⟩
  case round =>
    clear HP hb3
    obtain ⟨i, hi, hm, rfl, HG, hb⟩ := hrel
    have HM := Lib.hid hm
    clear hm
    by_cases hlt : i ≤ len
    · obtain ⟨k', W, P, L, v, hk', hL, hpair⟩ := HG.out
      have HP := Lib.hid hpair
      have HB := Lib.hid hb
      have hol : (openL W P (Rn n)).length ≤ 100 := by
        have := openUpto_len W P (Rn n) (Rn n) (Rn_ok HN.out).2.1
        have := (Rn_ok HN.out).2.1
        unfold openL
        omega
      clear HG hpair hb
      go_wp2_with fail
      refine (open_any HP.out.br).mono ?_
      rintro e w4 ⟨v4, rfl, hown4, b4⟩
      have HP4 := Lib.hid (HP.out.keep b4)
      have HB4 := Lib.hid (HB.out.trans (b4.mono HB.out.size))
      have HO4 := Lib.hid hown4
      clear hown4 b4
      go_wp2_with fail
      refine (ropen_any HP4.out.rz).mono ?_
      rintro e w5 ⟨v5, rfl, hown5, b5⟩
      have HP5 := Lib.hid (HP4.out.keep b5)
      have HB5 := Lib.hid (HB4.out.trans (b5.mono HB4.out.size))
      have HO5 := Lib.hid hown5
      have HO4' := Lib.hid (World.ownsRow.below HO4.out b5)
      clear hown5 b5 HO4
      go_wp2_with fail
      refine (same_any w5 _ _ v4 v5 _ HO4'.out HO5.out hol).mono ?_
      rintro e w6 ⟨rfl, b6⟩
      have HP6 := Lib.hid (HP5.out.keep b6)
      have HB6 := Lib.hid (HB5.out.trans (b6.mono HB5.out.size))
      clear b6 HO4' HO5
      go_wp2_with fail
      refine (rounds_any HP6.out.br).mono ?_
      rintro e w7 ⟨rfl, rfl⟩
      go_wp2_with fail
      refine HP6.out.rz.rounds.mono ?_
      rintro e w7 ⟨rfl, rfl⟩
      go_wp2_with fail
      refine (champ_any HP6.out.br).mono ?_
      rintro e w7 ⟨rfl, rfl⟩
      have hrch := HP6.out.rz.champ
      obtain ⟨M, hM⟩ : ∃ M, max (W (Rn n) 0) 0 = M := ⟨_, rfl⟩
      obtain ⟨D, hD⟩ : ∃ D, decide (0 ≤ W (Rn n) 0) = D := ⟨_, rfl⟩
      rw [hM, hD] at hrch ⊢
      have HRCH := Lib.hid hrch
      clear hM hD hrch
      go_wp2_with fail
      refine HRCH.out.mono ?_
      rintro e w8 ⟨rfl, rfl⟩
      go_wp2_with fail
      go_loopg [13] (n + 2) (fun m u wx => ∃ j : Int, -1 ≤ j ∧ j ≤ n + 1 ∧ m = (n + 1 - j).toNat ∧ u = .int .i64 j ∧ Hid (Pair wx w.heap.size C p C n bm pm k' W P L v) ∧ Below w.heap.size w wx)
      case atStart => exact ⟨-1, by omega, by omega, by omega, rfl, HP6, HB6.out⟩
      case round =>
        clear HP6 HB6 HP5 HB5 HP4 HB4 HP HB
        obtain ⟨j, hj1, hj2, hm, rfl, HPX, hbx⟩ := hrel
        have HM2 := Lib.hid hm
        clear hm
        by_cases hjl : j ≤ n
        · go_wp2_with fail
          refine (out_any HPX.out.br j).mono ?_
          rintro e wy ⟨v1, rfl, o1, b1⟩
          obtain ⟨z, t, rfl⟩ := out_form o1
          have HO1 := Lib.hid o1
          have HPY := Lib.hid (HPX.out.keep b1)
          have HBY := Lib.hid (hbx.trans (b1.mono hbx.size))
          clear o1 b1 hbx
          go_wp2_with fail
          refine (rout_any HPY.out.rz j).mono ?_
          rintro e wz ⟨v2, rfl, o2, b2⟩
          obtain ⟨rfl, _⟩ := out_one HN.out HPY.out.rz.inv HO1.out o2
          have HPZ := Lib.hid (HPY.out.keep b2)
          have HBZ := Lib.hid (HBY.out.trans (b2.mono HBY.out.size))
          clear o2 b2
          go_wp2_with fail
          go_roundg (n + 1 - (j + 1)).toNat
          case measure => rw [HM2.out]; omega
          case rel => exact ⟨j + 1, by omega, by omega, rfl, by go_num, HPZ, HBZ.out⟩
        · by_cases hil : i < len
          · obtain ⟨b, off, ⟨o1, o2, o3, o4, o5⟩, rfl, hlb, hrow, hwf⟩ := HOPS.out i hil
            have hilI : (i : Int) < len := by omega
            have bd : Below wr.heap.size wr wr.drew := (Below.refl _ _).drew
            have HPD := Lib.hid (HPX.out.keep bd)
            have HBD := Lib.hid (hbx.trans (bd.mono hbx.size))
            have HROW := Lib.hid hrow
            have HLB := Lib.hid hlb
            have HWF := Lib.hid hwf
            have hcd : wr.drew.cell? ⟨b, off + i * 5, none⟩ = some (.int .i64 o1) ∧ wr.drew.cell? ⟨b, off + i * 5 + 1, none⟩ = some (.int .i64 o2) ∧ wr.drew.cell? ⟨b, off + i * 5 + 2, none⟩ = some (.int .i64 o3) ∧ wr.drew.cell? ⟨b, off + i * 5 + 3, none⟩ = some (.int .i64 o4) ∧ wr.drew.cell? ⟨b, off + i * 5 + 4, none⟩ = some (.int .i64 o5) := op5 (range_below HBD.out hrow hlb)
            clear hrow hlb hwf bd hbx
            go_wp2_with fail
            go_region_held3 (fun w' => w'.cell? ⟨b, off + i * 5, none⟩ = some (.int .i64 o1) ∧ w'.cell? ⟨b, off + i * 5 + 1, none⟩ = some (.int .i64 o2) ∧ w'.cell? ⟨b, off + i * 5 + 2, none⟩ = some (.int .i64 o3) ∧ w'.cell? ⟨b, off + i * 5 + 3, none⟩ = some (.int .i64 o4) ∧ w'.cell? ⟨b, off + i * 5 + 4, none⟩ = some (.int .i64 o5)) (first | assumption | (go_keep; done))
              (first
                | (go_at_call 10; refine (open_any HPD.out.br).mono ?_; rintro e w4 ⟨v4, rfl, hown4, b4⟩; have HO4 := Lib.hid hown4; have HP4 := Lib.hid (HPD.out.keep b4); have HB4 := Lib.hid (HBD.out.trans (b4.mono HBD.out.size)); have hc4 : w4.cell? ⟨b, off + i * 5, none⟩ = some (.int .i64 o1) ∧ w4.cell? ⟨b, off + i * 5 + 1, none⟩ = some (.int .i64 o2) ∧ w4.cell? ⟨b, off + i * 5 + 2, none⟩ = some (.int .i64 o3) ∧ w4.cell? ⟨b, off + i * 5 + 3, none⟩ = some (.int .i64 o4) ∧ w4.cell? ⟨b, off + i * 5 + 4, none⟩ = some (.int .i64 o5) := op5 (range_below HB4.out HROW.out HLB.out); clear hown4 b4)
                | (go_at_call 18; refine (asked_any w4 _ v4 _ HO4.out hol o1 o2 o3 o4 o5 HWF.out).mono ?_; rintro e w5 ⟨x, y, z, rfl, b5⟩; have HP5 := Lib.hid (HP4.out.keep b5); have HB5 := Lib.hid (HB4.out.trans (b5.mono HB4.out.size)); have hc5 : w5.cell? ⟨b, off + i * 5, none⟩ = some (.int .i64 o1) ∧ w5.cell? ⟨b, off + i * 5 + 1, none⟩ = some (.int .i64 o2) ∧ w5.cell? ⟨b, off + i * 5 + 2, none⟩ = some (.int .i64 o3) ∧ w5.cell? ⟨b, off + i * 5 + 3, none⟩ = some (.int .i64 o4) ∧ w5.cell? ⟨b, off + i * 5 + 4, none⟩ = some (.int .i64 o5) := op5 (range_below HB5.out HROW.out HLB.out); clear b5))
            all_goals
              clear hcd hc4 hc5
              go_wp2_with fail
              refine (decide_anyK HP5.out.br (by omega) x y z).mono ?_
              rintro e w6 ⟨rfl, b6, hk6, hs6, h6⟩
              have HRZ6 := Lib.hid (show Rz w6 C C n v L W P from ⟨HP5.out.rz.hn, HP5.out.rz.inv, HP5.out.rz.tie, HP5.out.rz.rb.kept hk6 hs6 HP5.out.lb HP5.out.lm, HP5.out.rz.len⟩)
              have HB6 := Lib.hid (HB5.out.trans b6)
              have H6 := Lib.hid h6
              obtain ⟨code, hcode⟩ : ∃ code, decZ W P (Rn n) x y z = code := ⟨_, rfl⟩
              have HCODE := Lib.hid hcode
              rw [hcode]
              clear b6 hk6 hs6 h6 hcode
              go_wp2_with fail
              refine (rdecide_any HRZ6.out x y z).mono ?_
              rintro e w7 ⟨rfl, b7, h7⟩
              obtain ⟨k2, W2, P2, L2, v2, hk2, hL2, hpair⟩ := HP5.out.step (by omega) H6.out b7 h7
              have HB7 := Lib.hid (HB6.out.trans (b7.mono (by have := HP5.out.br.gb; have := HP5.out.lb; omega)))
              have HG := Lib.hid (show Goes w.heap.size C p n bm pm k (i + 1) w7 from ⟨k2, W2, P2, L2, v2, by omega, by omega, hpair⟩)
              rw [HCODE.out]
              clear b7 h7 hpair hk2 hL2
              go_wp2_with fail
              go_roundg (len + 1 - (i + 1))
              case measure => rw [HM.out]; omega
              case rel => exact ⟨i + 1, by omega, rfl, by go_num, HG, HB7.out⟩
          · go_wp2_with fail
            go_roundg (len + 1 - (i + 1))
            case measure => rw [HM.out]; omega
            case rel => exact ⟨i + 1, by omega, rfl, by go_num, Lib.hid ⟨k', W, P, L, v, by omega, by omega, HPX.out⟩, hbx⟩
    · go_wp2_with fail
      go_ret
      exact ⟨rfl, hb⟩

/-- THE WALK -/
theorem plays_walk (a0 : Int) (v1 : Option Addr) (len cap : Nat) (w : World) (hr : IsOps w v1 len) :
    Calls Try.prog 3 #[.int .i64 a0, .slice v1 len cap] w fun e w' => e = .returned (.bool true) ∧ Below w.heap.size w w' := by
  by_cases hbig : 60 < len
  · exact plays_big a0 v1 len cap w hbig
  · by_cases hbad : a0 < 2 ∨ 16 < a0
    · exact plays_bad a0 v1 len cap w (by omega) hbad
    · obtain ⟨n, rfl⟩ := Int.eq_ofNat_of_zero_le (a := a0) (by omega)
      exact plays_in n v1 len cap w (by omega) (by omega) hr
end Go.Proofs.Ytpdanppnpgfkeaa
