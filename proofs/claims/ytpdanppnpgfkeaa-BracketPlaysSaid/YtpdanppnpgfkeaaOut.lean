/- Out: when an entrant has lost. -/
import Derived.Test.YtpdanppnpgfkeaaOpen
namespace Go.Proofs.Ytpdanppnpgfkeaa
open Go.RowKit Go.Maps

/-- did a lose that match? -/
def hit (W : Nat → Nat → Int) (P : Nat → Nat → Bool) (a : Int) (r q : Nat) : Bool :=
  (decide (0 ≤ W r (2 * q)) && decide (0 ≤ W r (2 * q + 1))) && P r q && (W r (2 * q) == a || W r (2 * q + 1) == a) && (W (r + 1) q != a)

def OutAns (W : Nat → Nat → Int) (P : Nat → Nat → Bool) (R : Nat) (a : Int) (v : Value) : Prop :=
  (∃ r q : Nat, r < R ∧ q < 2 ^ (R - r - 1) ∧ hit W P a r q = true ∧ v = .tuple #[.int .i64 r, .bool true]) ∨
  ((∀ r q : Nat, r < R → q < 2 ^ (R - r - 1) → hit W P a r q = false) ∧ v = .tuple #[.int .i64 0, .bool false])

/-- no hit ahead of spot (r, q) -/
def NoneRow (W : Nat → Nat → Int) (P : Nat → Nat → Bool) (R : Nat) (a : Int) (r q : Nat) : Prop :=
  (∀ r' q' : Nat, r' < r → q' < 2 ^ (R - r' - 1) → hit W P a r' q' = false) ∧ ∀ q', q' < q → hit W P a r q' = false

theorem noneRow_succ {W : Nat → Nat → Int} {P : Nat → Nat → Bool} {R : Nat} {a : Int} {r q : Nat} (h : NoneRow W P R a r q) (hh : hit W P a r q = false) : NoneRow W P R a r (q + 1) :=
  ⟨h.1, fun q' hq => by rcases Nat.lt_or_ge q' q with hl | hl; exact h.2 q' hl; obtain rfl : q' = q := by omega
                        exact hh⟩
theorem noneRow_next {W : Nat → Nat → Int} {P : Nat → Nat → Bool} {R : Nat} {a : Int} {r : Nat} (h : NoneRow W P R a r (2 ^ (R - r - 1))) : NoneRow W P R a (r + 1) 0 :=
  ⟨fun r' q' hr hq => by rcases Nat.lt_or_ge r' r with hl | hl; exact h.1 r' q' hl hq; obtain rfl : r' = r := by omega
                         exact h.2 q' hq, fun q' hq => by omega⟩

section
variable {w : World} {B p n R : Nat} {W : Nat → Nat → Int} {P : Nat → Nat → Bool} {bm pm k : Nat}

theorem who_next (h : Br w B p n R W P bm pm k) (r q : Nat) (hr : r < R) (hq : q < 2 ^ (R - r - 1)) :
    Calls Try.prog 29 #[.pointer (some ⟨p, 0, none⟩), .int .i64 ((r : Int) + 1), .int .i64 q] w fun e w' => e = .returned (.int .i64 (W (r + 1) q)) ∧ w' = w :=
  who_any h (r + 1) q (by omega) (by rw [show R - (r + 1) = R - r - 1 by omega]; exact hq)

set_option maxRecDepth 20000 in
set_option maxHeartbeats 4000000 in
theorem out_any (h : Br w B p n R W P bm pm k) (a : Int) :
    Calls Try.prog 16 #[.pointer (some ⟨p, 0, none⟩), .int .i64 a] w fun e w' => ∃ v, e = .returned v ∧ OutAns W P R a v ∧ Below w.heap.size w w' := by
  have hR4 := h.R4
  have HX := Lib.hid h
  clear h
  go_enter Try.func16, Try.ntmps16
  go_wp2_with fail
  refine (rounds_any HX.out).mono ?_
  rintro e w' ⟨rfl, rfl⟩
  go_wp2_with fail
  go_loopg [14] R (fun m i wr => ∃ r : Nat, r ≤ R ∧ m = R - r ∧ i = .int .i64 r ∧ NoneRow W P R a r 0 ∧ Below w'.heap.size w' wr)
  case atStart => exact ⟨0, Nat.zero_le _, rfl, rfl, ⟨fun r' q' h => by omega, fun q' h => by omega⟩, Below.refl _ _⟩
  case round =>
    obtain ⟨r, hr, hm, rfl, hno, hb⟩ := hrel
    have HM := Lib.hid hm
    have HNO := Lib.hid hno
    clear hm hno
    by_cases hlt : r < R
    · have HXr := Lib.hid (HX.out.keep hb)
      go_wp2_with fail
      refine (matches_any HXr.out r hlt).mono ?_
      rintro e w1 ⟨rfl, rfl⟩
      obtain ⟨c, hc⟩ : ∃ c, 2 ^ (R - r - 1) = c := ⟨_, rfl⟩
      have HC := Lib.hid hc
      have hc16 : c ≤ 16 := by rw [← hc]; exact pow4 (by omega)
      rw [hc]
      clear hc
      go_wp2_with fail
      go_loopg [20] c (fun m i wq => ∃ q : Nat, q ≤ c ∧ m = c - q ∧ i = .int .i64 q ∧ NoneRow W P R a r q ∧ Below w'.heap.size w' wq)
      case atStart => exact ⟨0, Nat.zero_le _, rfl, rfl, HNO.out, hb⟩
      case round =>
        clear HNO
        obtain ⟨q, hq, hm, rfl, hno, hb2⟩ := hrel
        have HM2 := Lib.hid hm
        have HNO := Lib.hid hno
        clear hm hno
        by_cases hlq : q < c
        · have HXq := Lib.hid (HX.out.keep hb2)
          have hqb : q < 2 ^ (R - r - 1) := by rw [HC.out]; exact hlq
          obtain ⟨wz, hwz⟩ : ∃ wz, wr.alloc (.cells #[.int .i64 r, .int .i64 q] 62) = wz := ⟨_, rfl⟩
          have bz : Below wr.heap.size wr wz := by rw [← hwz]; exact (Below.refl _ _).alloc (Nat.le_refl _) _
          have hsz : wr.heap.size < wz.heap.size := by rw [← hwz]; simp
          have z0 : wz.cell? ⟨wr.heap.size, 0, none⟩ = some (.int .i64 r) := by rw [← hwz]; exact World.cell?_alloc_at _ _ _ _ rfl
          have z1 : wz.cell? ⟨wr.heap.size, 1, none⟩ = some (.int .i64 q) := by rw [← hwz]; exact World.cell?_alloc_at _ _ _ _ rfl
          have HXz := Lib.hid (HXq.out.keep bz)
          have hbz := hb2.trans (bz.mono hb2.size)
          have HWZ := Lib.hid hwz
          have HQB := Lib.hid hqb
          clear hwz hqb bz
          go_wp2_with fail
          rw [HWZ.out]
          refine (real_any HXz.out r q hlt HQB.out).mono ?_
          rintro e w2 ⟨rfl, b2⟩
          have z20 : w2.cell? ⟨wr.heap.size, 0, none⟩ = some (.int .i64 r) := (b2.cell hsz).trans z0
          have z21 : w2.cell? ⟨wr.heap.size, 1, none⟩ = some (.int .i64 q) := (b2.cell hsz).trans z1
          have HX2 := Lib.hid (HXz.out.keep b2)
          have c3 := HX2.out.c3
          have hlook : ∀ m, (Instr.lookup 56 (.map (some pm)) (.agg #[.int .i64 r, .int .i64 q]) false).run Try.prog (w2.drewN m) = .ok (.bool (P r q)) (w2.drewN m) := fun m => (HX2.out.drewN m).look r q hlt HQB.out
          have HB2 := Lib.hid (hbz.trans (b2.mono hbz.size))
          clear z0 z1 hbz b2 hsz HXz HWZ
          obtain ⟨ok, hok⟩ : ∃ ok, (decide (0 ≤ W r (2 * q)) && decide (0 ≤ W r (2 * q + 1))) = ok := ⟨_, rfl⟩
          obtain ⟨b, hbP⟩ : ∃ b, P r q = b := ⟨_, rfl⟩
          obtain ⟨x, hx⟩ : ∃ x, W r (2 * q) = x := ⟨_, rfl⟩
          obtain ⟨y, hy⟩ : ∃ y, W r (2 * q + 1) = y := ⟨_, rfl⟩
          obtain ⟨z, hz⟩ : ∃ z, W (r + 1) q = z := ⟨_, rfl⟩
          obtain ⟨t1, ht1⟩ : ∃ t1, (x == a) = t1 := ⟨_, rfl⟩
          obtain ⟨t2, ht2⟩ : ∃ t2, (y == a) = t2 := ⟨_, rfl⟩
          obtain ⟨t3, ht3⟩ : ∃ t3, (z != a) = t3 := ⟨_, rfl⟩
          have hhit : hit W P a r q = (ok && b && (t1 || t2) && t3) := by rw [hit, hok, hbP, hx, hy, hz, ht1, ht2, ht3]
          have HHIT := Lib.hid hhit
          have who_next : ∀ m, Calls Try.prog 29 #[.pointer (some ⟨p, 0, none⟩), .int .i64 ((r : Int) + 1), .int .i64 q] (w2.drewN m) fun e w' => e = .returned (.int .i64 z) ∧ w' = w2.drewN m := fun m => by
            rw [← hz]; exact who_next (HX2.out.drewN m) r q hlt HQB.out
          have HWN := Lib.hid who_next
          rw [hbP] at hlook
          rw [hok, hx, hy]
          clear hhit hok hbP hx hy hz who_next
          cases ok
          · go_wp2_with fail
            go_quiet (first | (go_at_call 29; refine Calls.quiet_of_same (HWN.out _)))
            have hbn := HB2.out.trans ((below_drewN w2 nq).mono HB2.out.size)
            have HN2 := Lib.hid (noneRow_succ HNO.out HHIT.out)
            go_wp2_with fail
            go_roundg (c - (q + 1))
            case measure => rw [HM2.out]; omega
            case rel => exact ⟨q + 1, by omega, rfl, by go_num, HN2.out, hbn⟩
          · cases b
            · go_wp2_with fail
              go_quiet (first | (go_at_call 29; refine Calls.quiet_of_same (HWN.out _)))
              have hbn := HB2.out.trans ((below_drewN w2 nq).mono HB2.out.size)
              have HN2 := Lib.hid (noneRow_succ HNO.out HHIT.out)
              go_wp2_with fail
              go_roundg (c - (q + 1))
              case measure => rw [HM2.out]; omega
              case rel => exact ⟨q + 1, by omega, rfl, by go_num, HN2.out, hbn⟩
            · cases t1
              · cases t2
                · go_wp2_with fail
                  go_quiet (first | (go_at_call 29; refine Calls.quiet_of_same (HWN.out _)))
                  have hbn := HB2.out.trans ((below_drewN w2 nq).mono HB2.out.size)
                  have HN2 := Lib.hid (noneRow_succ HNO.out HHIT.out)
                  go_wp2_with fail
                  go_roundg (c - (q + 1))
                  case measure => rw [HM2.out]; omega
                  case rel => exact ⟨q + 1, by omega, rfl, by go_num, HN2.out, hbn⟩
                · cases t3
                  · go_wp2_with fail
                    go_quiet (first | (go_at_call 29; refine Calls.quiet_of_same (HWN.out _)))
                    have hbn := HB2.out.trans ((below_drewN w2 nq).mono HB2.out.size)
                    have HN2 := Lib.hid (noneRow_succ HNO.out HHIT.out)
                    go_wp2_with fail
                    go_roundg (c - (q + 1))
                    case measure => rw [HM2.out]; omega
                    case rel => exact ⟨q + 1, by omega, rfl, by go_num, HN2.out, hbn⟩
                  · go_wp2_with fail
                    go_quiet (first | (go_at_call 29; refine Calls.quiet_of_same (HWN.out _)))
                    have hbn := HB2.out.trans ((below_drewN w2 nq).mono HB2.out.size)
                    go_wp2_with fail
                    refine bodyPost_ret (v := .tuple #[.int .i64 r, .bool true]) (by simp [results, Try.results16, go_sem]) rfl ?_
                    exact ⟨_, rfl, .inl ⟨r, q, hlt, HQB.out, HHIT.out, rfl⟩, hbn⟩
              · cases t3
                · go_wp2_with fail
                  go_quiet (first | (go_at_call 29; refine Calls.quiet_of_same (HWN.out _)))
                  have hbn := HB2.out.trans ((below_drewN w2 nq).mono HB2.out.size)
                  have HN2 := Lib.hid (noneRow_succ HNO.out HHIT.out)
                  go_wp2_with fail
                  go_roundg (c - (q + 1))
                  case measure => rw [HM2.out]; omega
                  case rel => exact ⟨q + 1, by omega, rfl, by go_num, HN2.out, hbn⟩
                · go_wp2_with fail
                  go_quiet (first | (go_at_call 29; refine Calls.quiet_of_same (HWN.out _)))
                  have hbn := HB2.out.trans ((below_drewN w2 nq).mono HB2.out.size)
                  go_wp2_with fail
                  refine bodyPost_ret (v := .tuple #[.int .i64 r, .bool true]) (by simp [results, Try.results16, go_sem]) rfl ?_
                  exact ⟨_, rfl, .inl ⟨r, q, hlt, HQB.out, HHIT.out, rfl⟩, hbn⟩
        · obtain rfl : q = c := by omega
          go_wp2_with fail
          go_roundg (R - (r + 1))
          case measure => rw [HM.out]; omega
          case rel => exact ⟨r + 1, by omega, rfl, by go_num, noneRow_next (by rw [HC.out]; exact HNO.out), hb2⟩
    · obtain rfl : r = R := by omega
      go_wp2_with fail
      refine bodyPost_ret (v := .tuple #[.int .i64 0, .bool false]) (by simp [results, Try.results16, go_sem]) rfl ?_
      exact ⟨_, rfl, .inr ⟨HNO.out.1, rfl⟩, hb⟩
end
end Go.Proofs.Ytpdanppnpgfkeaa
