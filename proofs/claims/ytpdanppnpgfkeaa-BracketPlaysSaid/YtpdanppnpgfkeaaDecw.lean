/- The walk of Decide. -/
import Derived.Test.YtpdanppnpgfkeaaDec
import Derived.StillTailTactics
namespace Go.Proofs.Ytpdanppnpgfkeaa
open Go.RowKit Go.Maps

section
variable {w : World} {B p n R : Nat} {W : Nat → Nat → Int} {P : Nat → Nat → Bool} {bm pm k : Nat}

/-- what a decision of a match that is there leaves -/
def Decided (B p n R : Nat) (W : Nat → Nat → Int) (P : Nat → Nat → Bool) (bm pm k r q : Nat) (c : Int) (w : World) (e : Ending) (w' : World) : Prop :=
  e = .returned (.int .i64 (decN W P r q c)) ∧ Below B w w' ∧
    ((decN W P r q c ≠ 0 ∧ Br w' B p n R W P bm pm k) ∨ (decN W P r q c = 0 ∧ Br w' B p n R (updW W (r + 1) q (winN W r q c)) (updP P r q) bm pm (k + 1)))

/-- .. and what lies elsewhere stays -/
def Kept (bm pm : Nat) (w w' : World) : Prop := ∀ j, j < w.heap.size → j ≠ bm → j ≠ pm → w'.heap[j]? = w.heap[j]?
theorem Kept.of {bm pm : Nat} {w w' : World} (h : Below w.heap.size w w') : Kept bm pm w w' := fun j hj _ _ => h.block j hj

theorem decide_out (h : Br w B p n R W P bm pm k) (a b c : Int) (hout : a < 0 ∨ (R : Int) ≤ a) :
    Calls Try.prog 19 #[.pointer (some ⟨p, 0, none⟩), .int .i64 a, .int .i64 b, .int .i64 c] w fun e w' => e = .returned (.int .i64 3) ∧ w' = w := by
  have HX := Lib.hid h
  clear h
  by_cases h0 : a < 0
  · have t0 : decide (a < 0) = true := by simpa using h0
    go_enter Try.func19, Try.ntmps19
    go_wp2_with fail
    go_ret
    exact ⟨rfl, rfl⟩
  · have t0 : decide (a < 0) = false := by simpa using h0
    have t1 : decide ((R : Int) ≤ a) = true := by simp; omega
    go_enter Try.func19, Try.ntmps19
    go_wp2_with fail
    refine (rounds_any HX.out).mono ?_
    rintro e w' ⟨rfl, rfl⟩
    go_wp2_with fail
    go_ret
    exact ⟨rfl, rfl⟩

theorem decide_away (h : Br w B p n R W P bm pm k) (r : Nat) (hr : r < R) (b c : Int) (hout : b < 0 ∨ ((2 ^ (R - r - 1) : Nat) : Int) ≤ b) :
    Calls Try.prog 19 #[.pointer (some ⟨p, 0, none⟩), .int .i64 r, .int .i64 b, .int .i64 c] w fun e w' => e = .returned (.int .i64 3) ∧ w' = w := by
  have HX := Lib.hid h
  obtain ⟨C, hC⟩ : ∃ C, 2 ^ (R - r - 1) = C := ⟨_, rfl⟩
  rw [hC] at hout
  have HC := Lib.hid hC
  clear h hC
  by_cases h0 : b < 0
  · have t0 : decide (b < 0) = true := by simpa using h0
    go_enter Try.func19, Try.ntmps19
    go_wp2_with fail
    refine (rounds_any HX.out).mono ?_
    rintro e w' ⟨rfl, rfl⟩
    go_wp2_with fail
    go_ret
    exact ⟨rfl, rfl⟩
  · have t0 : decide (b < 0) = false := by simpa using h0
    have t1 : decide ((C : Int) ≤ b) = true := by simp; omega
    go_enter Try.func19, Try.ntmps19
    go_wp2_with fail
    refine (rounds_any HX.out).mono ?_
    rintro e w' ⟨rfl, rfl⟩
    go_wp2_with fail
    refine (matches_any HX.out r hr).mono ?_
    rintro e w' ⟨rfl, rfl⟩
    rw [HC.out]
    go_wp2_with fail
    go_ret
    exact ⟨rfl, rfl⟩

set_option maxRecDepth 20000 in
set_option maxHeartbeats 4000000 in
theorem decide_keep (h : Br w B p n R W P bm pm k) (hk : k < 900) (r q : Nat) (hr : r < R) (hq : q < 2 ^ (R - r - 1)) (c : Int) :
    Calls Try.prog 19 #[.pointer (some ⟨p, 0, none⟩), .int .i64 r, .int .i64 q, .int .i64 c] w (fun e w' => Decided B p n R W P bm pm k r q c w e w' ∧ Kept bm pm w w') := by
  have HX := Lib.hid h
  have HQ := Lib.hid hq
  have HR4 := h.R4
  obtain ⟨C, hC⟩ : ∃ C, 2 ^ (R - r - 1) = C := ⟨_, rfl⟩
  rw [hC] at hq
  have HC := Lib.hid hC
  have hc16 : C ≤ 16 := by rw [← hC]; exact pow4 (by omega)
  have tR' : (r : Int) < R := by omega
  have tC' : (q : Int) < C := by exact_mod_cast (hC ▸ hq : q < C)
  clear h hC
  go_enter Try.func19, Try.ntmps19
  go_wp2_with fail
  refine (rounds_any HX.out).mono ?_
  rintro e w' ⟨rfl, rfl⟩
  go_wp2_with fail
  refine (matches_any HX.out r hr).mono ?_
  rintro e w' ⟨rfl, rfl⟩
  rw [HC.out]
  obtain ⟨wz, hwz⟩ : ∃ wz, w'.alloc (.cells #[.int .i64 r, .int .i64 q] 62) = wz := ⟨_, rfl⟩
  have bz : Below w'.heap.size w' wz := by rw [← hwz]; exact (Below.refl _ _).alloc (Nat.le_refl _) _
  have hsz : w'.heap.size < wz.heap.size := by rw [← hwz]; simp
  have z0 : wz.cell? ⟨w'.heap.size, 0, none⟩ = some (.int .i64 r) := by rw [← hwz]; exact World.cell?_alloc_at _ _ _ _ rfl
  have z1 : wz.cell? ⟨w'.heap.size, 1, none⟩ = some (.int .i64 q) := by rw [← hwz]; exact World.cell?_alloc_at _ _ _ _ rfl
  have HXz := Lib.hid (HX.out.keep bz)
  have HBZ := Lib.hid (bz.mono HX.out.sz)
  have HWZ := Lib.hid hwz
  have HZF := Lib.hid bz
  clear hwz bz
  go_wp2_with fail
  rw [HWZ.out]
  refine (real_any HXz.out r q hr HQ.out).mono ?_
  rintro e w2 ⟨rfl, b2⟩
  have z20 : w2.cell? ⟨w'.heap.size, 0, none⟩ = some (.int .i64 r) := (b2.cell hsz).trans z0
  have z21 : w2.cell? ⟨w'.heap.size, 1, none⟩ = some (.int .i64 q) := (b2.cell hsz).trans z1
  have HX2 := Lib.hid (HXz.out.keep b2)
  have HB2 := Lib.hid (HBZ.out.trans (b2.mono HXz.out.sz))
  have HKF := Lib.hid (HZF.out.trans (b2.mono HZF.out.size))
  clear z0 z1 hsz b2
  have c3 := HX2.out.c3
  have hlook : ∀ m, (Instr.lookup 56 (.map (some pm)) (.agg #[.int .i64 r, .int .i64 q]) false).run Try.prog (w2.drewN m) = .ok (.bool (P r q)) (w2.drewN m) := fun m => (HX2.out.drewN m).look r q hr HQ.out
  have hD : decN W P r q c = decN W P r q c := rfl
  obtain ⟨ok, hok⟩ : ∃ ok, (decide (0 ≤ W r (2 * q)) && decide (0 ≤ W r (2 * q + 1))) = ok := ⟨_, rfl⟩
  obtain ⟨b, hbP⟩ : ∃ b, P r q = b := ⟨_, rfl⟩
  have hh := pow_half hr
  have wx := HX2.out.wf r (2 * q) (by omega) (by have := HQ.out; omega)
  have wy := HX2.out.wf r (2 * q + 1) (by omega) (by have := HQ.out; omega)
  obtain ⟨x, hx⟩ : ∃ x, W r (2 * q) = x := ⟨_, rfl⟩
  obtain ⟨y, hy⟩ : ∃ y, W r (2 * q + 1) = y := ⟨_, rfl⟩
  obtain ⟨t1, ht1⟩ : ∃ t1, (c == -1) = t1 := ⟨_, rfl⟩
  obtain ⟨t2, ht2⟩ : ∃ t2, (c != x) = t2 := ⟨_, rfl⟩
  obtain ⟨t3, ht3⟩ : ∃ t3, (c != y) = t3 := ⟨_, rfl⟩
  have hdec : decN W P r q c = if ok = false then 3 else if b = true then 7 else if t1 = true then 0 else if (t2 && t3) = true then 2 else 0 := by
    rw [decN, hok, hbP, hx, hy, ht1, ht2, ht3]
  have hwin : winN W r q c = if t1 = true then min x y else c := by rw [winN, hx, hy, ht1]
  have HDEC := Lib.hid hdec
  have HWIN := Lib.hid hwin
  rw [hx] at wx
  rw [hy] at wy
  rw [hbP] at hlook
  rw [hok, hx, hy]
  clear hdec hwin hD hh hok hbP hx hy HBZ HXz HWZ
  have bd : ∀ m, Below B w' (w2.drewN m) := fun m => HB2.out.trans ((below_drewN w2 m).mono HX2.out.sz)
  have HBD := Lib.hid bd
  clear bd
  cases ok
  · go_wp2_with fail
    go_ret
    exact ⟨⟨by rw [HDEC.out]; rfl, HB2.out, .inl ⟨by rw [HDEC.out]; simp, HX2.out⟩⟩, Kept.of HKF.out⟩
  · cases b
    · cases t1
      · cases t2
        · have hcx := Lib.hid (show c = x by simpa using ht2)
          go_wp2_with fail
          go_quiet (fail)
          obtain ⟨w3, h3⟩ : ∃ w3, w2.drewN nq = w3 := ⟨_, rfl⟩
          have HX3 := Lib.hid ((HX2.out.drewN nq).keep (Below.refl _ (w2.drewN nq)).drew)
          have HK3 := Lib.hid ((HKF.out.trans ((below_drewN w2 nq).mono HKF.out.size)).trans ((Below.refl _ (w2.drewN nq)).drew.mono (HKF.out.size)))
          have HB3 := Lib.hid ((HBD.out nq).trans ((Below.refl _ (w2.drewN nq)).drew.mono (HX2.out.drewN nq).sz))
          have z30 : (w2.drewN nq).drew.cell? ⟨w'.heap.size, 0, none⟩ = some (.int .i64 r) := z20
          have z31 : (w2.drewN nq).drew.cell? ⟨w'.heap.size, 1, none⟩ = some (.int .i64 q) := z21
          have c33 := HX3.out.c3
          rw [h3] at HX3 HB3 HK3 z30 z31 c33 ⊢
          clear h3 hlook z20 z21 c3
          obtain ⟨w5, w6, run1, c52, run2, hx6, hb6, hk6⟩ := HX3.out.put hk r q hr HQ.out c (by rw [hcx.out]; exact wx)
          have HX6 := Lib.hid hx6
          have HB6 := Lib.hid (HB3.out.trans hb6)
          have HK6 := Lib.hid (show Kept bm pm w' w6 from fun j hj h1 h2 => (hk6 j (Nat.lt_of_lt_of_le hj HK3.out.size) h1 h2).trans (HK3.out.block j hj))
          clear hx6 hb6 hk6 HK3
          go_wp2_with fail
          go_still_tail 5, (by kernel_rfl)
          change wpList _ _ _ _ _ w3.drew
          generalize w3.drew = w4 at *
          go_wp2_with fail
          go_ret
          have e0 : decN W P r q c = 0 := by rw [HDEC.out]; rfl
          have e1 : winN W r q c = c := by rw [HWIN.out]; rfl
          rw [← e1] at HX6
          exact ⟨⟨by rw [e0]; rfl, HB6.out, .inr ⟨e0, HX6.out⟩⟩, HK6.out⟩
        · cases t3
          · have hcy := Lib.hid (show c = y by simpa using ht3)
            go_wp2_with fail
            go_quiet (fail)
            obtain ⟨w3, h3⟩ : ∃ w3, w2.drewN nq = w3 := ⟨_, rfl⟩
            have HX3 := Lib.hid ((HX2.out.drewN nq).keep (Below.refl _ (w2.drewN nq)).drew)
            have HK3 := Lib.hid ((HKF.out.trans ((below_drewN w2 nq).mono HKF.out.size)).trans ((Below.refl _ (w2.drewN nq)).drew.mono (HKF.out.size)))
            have HB3 := Lib.hid ((HBD.out nq).trans ((Below.refl _ (w2.drewN nq)).drew.mono (HX2.out.drewN nq).sz))
            have z30 : (w2.drewN nq).drew.cell? ⟨w'.heap.size, 0, none⟩ = some (.int .i64 r) := z20
            have z31 : (w2.drewN nq).drew.cell? ⟨w'.heap.size, 1, none⟩ = some (.int .i64 q) := z21
            have c33 := HX3.out.c3
            rw [h3] at HX3 HB3 HK3 z30 z31 c33 ⊢
            clear h3 hlook z20 z21 c3
            obtain ⟨w5, w6, run1, c52, run2, hx6, hb6, hk6⟩ := HX3.out.put hk r q hr HQ.out c (by rw [hcy.out]; exact wy)
            have HX6 := Lib.hid hx6
            have HB6 := Lib.hid (HB3.out.trans hb6)
            have HK6 := Lib.hid (show Kept bm pm w' w6 from fun j hj h1 h2 => (hk6 j (Nat.lt_of_lt_of_le hj HK3.out.size) h1 h2).trans (HK3.out.block j hj))
            clear hx6 hb6 hk6 HK3
            go_wp2_with fail
            go_still_tail 5, (by kernel_rfl)
            change wpList _ _ _ _ _ w3.drew
            generalize w3.drew = w4 at *
            go_wp2_with fail
            go_ret
            have e0 : decN W P r q c = 0 := by rw [HDEC.out]; rfl
            have e1 : winN W r q c = c := by rw [HWIN.out]; rfl
            rw [← e1] at HX6
            exact ⟨⟨by rw [e0]; rfl, HB6.out, .inr ⟨e0, HX6.out⟩⟩, HK6.out⟩
          · go_wp2_with fail
            go_quiet (fail)
            go_wp2_with fail
            go_ret
            exact ⟨⟨by rw [HDEC.out]; rfl, HBD.out _, .inl ⟨by rw [HDEC.out]; simp, HX2.out.drewN _⟩⟩, Kept.of (HKF.out.trans ((below_drewN w2 nq).mono HKF.out.size))⟩
      · by_cases hxy : x ≤ y
        · go_wp2_with fail
          go_quiet (fail)
          obtain ⟨w3, h3⟩ : ∃ w3, w2.drewN nq = w3 := ⟨_, rfl⟩
          have HX3 := Lib.hid ((HX2.out.drewN nq).keep (Below.refl _ (w2.drewN nq)).drew)
          have HK3 := Lib.hid ((HKF.out.trans ((below_drewN w2 nq).mono HKF.out.size)).trans ((Below.refl _ (w2.drewN nq)).drew.mono (HKF.out.size)))
          have HB3 := Lib.hid ((HBD.out nq).trans ((Below.refl _ (w2.drewN nq)).drew.mono (HX2.out.drewN nq).sz))
          have z30 : (w2.drewN nq).drew.cell? ⟨w'.heap.size, 0, none⟩ = some (.int .i64 r) := z20
          have z31 : (w2.drewN nq).drew.cell? ⟨w'.heap.size, 1, none⟩ = some (.int .i64 q) := z21
          have c33 := HX3.out.c3
          rw [h3] at HX3 HB3 HK3 z30 z31 c33 ⊢
          clear h3 hlook z20 z21 c3
          obtain ⟨w5, w6, run1, c52, run2, hx6, hb6, hk6⟩ := HX3.out.put hk r q hr HQ.out x wx
          have HX6 := Lib.hid hx6
          have HB6 := Lib.hid (HB3.out.trans hb6)
          have HK6 := Lib.hid (show Kept bm pm w' w6 from fun j hj h1 h2 => (hk6 j (Nat.lt_of_lt_of_le hj HK3.out.size) h1 h2).trans (HK3.out.block j hj))
          clear hx6 hb6 hk6 HK3
          go_wp2_with fail
          go_still_tail 5, (by kernel_rfl)
          change wpList _ _ _ _ _ w3.drew
          generalize w3.drew = w4 at *
          go_wp2_with fail
          go_ret
          have e0 : decN W P r q c = 0 := by rw [HDEC.out]; rfl
          have e1 : winN W r q c = x := by rw [HWIN.out]; simp; omega
          rw [← e1] at HX6
          exact ⟨⟨by rw [e0]; rfl, HB6.out, .inr ⟨e0, HX6.out⟩⟩, HK6.out⟩
        · go_wp2_with fail
          go_quiet (fail)
          obtain ⟨w3, h3⟩ : ∃ w3, w2.drewN nq = w3 := ⟨_, rfl⟩
          have HX3 := Lib.hid ((HX2.out.drewN nq).keep (Below.refl _ (w2.drewN nq)).drew)
          have HK3 := Lib.hid ((HKF.out.trans ((below_drewN w2 nq).mono HKF.out.size)).trans ((Below.refl _ (w2.drewN nq)).drew.mono (HKF.out.size)))
          have HB3 := Lib.hid ((HBD.out nq).trans ((Below.refl _ (w2.drewN nq)).drew.mono (HX2.out.drewN nq).sz))
          have z30 : (w2.drewN nq).drew.cell? ⟨w'.heap.size, 0, none⟩ = some (.int .i64 r) := z20
          have z31 : (w2.drewN nq).drew.cell? ⟨w'.heap.size, 1, none⟩ = some (.int .i64 q) := z21
          have c33 := HX3.out.c3
          rw [h3] at HX3 HB3 HK3 z30 z31 c33 ⊢
          clear h3 hlook z20 z21 c3
          obtain ⟨w5, w6, run1, c52, run2, hx6, hb6, hk6⟩ := HX3.out.put hk r q hr HQ.out y wy
          have HX6 := Lib.hid hx6
          have HB6 := Lib.hid (HB3.out.trans hb6)
          have HK6 := Lib.hid (show Kept bm pm w' w6 from fun j hj h1 h2 => (hk6 j (Nat.lt_of_lt_of_le hj HK3.out.size) h1 h2).trans (HK3.out.block j hj))
          clear hx6 hb6 hk6 HK3
          go_wp2_with fail
          go_still_tail 5, (by kernel_rfl)
          change wpList _ _ _ _ _ w3.drew
          generalize w3.drew = w4 at *
          go_wp2_with fail
          go_ret
          have e0 : decN W P r q c = 0 := by rw [HDEC.out]; rfl
          have e1 : winN W r q c = y := by rw [HWIN.out]; simp; omega
          rw [← e1] at HX6
          exact ⟨⟨by rw [e0]; rfl, HB6.out, .inr ⟨e0, HX6.out⟩⟩, HK6.out⟩
    · go_wp2_with fail
      go_quiet (fail)
      go_wp2_with fail
      go_ret
      exact ⟨⟨by rw [HDEC.out]; rfl, HBD.out _, .inl ⟨by rw [HDEC.out]; simp, HX2.out.drewN _⟩⟩, Kept.of (HKF.out.trans ((below_drewN w2 nq).mono HKF.out.size))⟩

theorem decide_in (h : Br w B p n R W P bm pm k) (hk : k < 900) (r q : Nat) (hr : r < R) (hq : q < 2 ^ (R - r - 1)) (c : Int) :
    Calls Try.prog 19 #[.pointer (some ⟨p, 0, none⟩), .int .i64 r, .int .i64 q, .int .i64 c] w (Decided B p n R W P bm pm k r q c w) :=
  (decide_keep h hk r q hr hq c).mono fun _ _ x => x.1
end
end Go.Proofs.Ytpdanppnpgfkeaa
