/- free: who has nobody to meet goes on. -/
import Derived.Test.YtpdanppnpgfkeaaSeat
import Derived.StillTailTactics
namespace Go.Proofs.Ytpdanppnpgfkeaa
open Go.RowKit Go.Maps

theorem MapI.mono {w : World} {b k k' : Nat} {f : Int → Int → Option Int} (h : MapI w b k f) (hk : k ≤ k') : MapI w b k' f := by
  obtain ⟨D, h1, h2⟩ := h
  exact ⟨D, h1.mono hk, h2⟩
theorem MapB.mono {w : World} {b k k' : Nat} {g : Int → Int → Bool} (h : MapB w b k g) (hk : k ≤ k') : MapB w b k' g := by
  obtain ⟨D, h1, h2⟩ := h
  exact ⟨D, h1.mono hk, h2⟩

def freeW (W : Nat → Nat → Int) (q : Nat) : Nat → Nat → Int :=
  if (W 0 (2 * q) == -1) = true then updW W 1 q (W 0 (2 * q + 1)) else if (W 0 (2 * q + 1) == -1) = true then updW W 1 q (W 0 (2 * q)) else W

section
variable {w : World} {B p n R : Nat} {W : Nat → Nat → Int} {P : Nat → Nat → Bool} {bm pm k : Nat}

theorem Br.more (h : Br w B p n R W P bm pm k) {k' : Nat} (hk : k ≤ k') : Br w B p n R W P bm pm k' := by
  obtain ⟨f, hf, hf2⟩ := h.mi
  obtain ⟨g, hg, hg2⟩ := h.mb
  exact ⟨h.c0, h.c1, h.c2, h.c3, ⟨f, hf.mono hk, hf2⟩, ⟨g, hg.mono hk, hg2⟩, h.ne, h.np, h.nq, h.gp, h.gb, h.gq, h.sz, h.R4⟩

/-- one store into the map of who stands where -/
theorem Br.putW (h : Br w B p n R W P bm pm k) (hk : k < 900) (r q : Nat) (hr : r ≤ R) (hq : q < 2 ^ (R - r)) (x : Int) (hx : ok64 x) :
    ∃ w2, (Instr.mapUpdate 55 (.map (some bm)) (.agg #[.int .i64 r, .int .i64 q]) (.int .i64 x)).run Try.prog w = .ok () w2 ∧
      Br w2 B p n R (updW W r q x) P bm pm (k + 1) ∧ w.grownBy w2 (some bm) := by
  obtain ⟨f, hf, hf2⟩ := h.mi
  obtain ⟨g, hg, hg2⟩ := h.mb
  have hR := h.R4
  have h16 : q < 16 := Nat.lt_of_lt_of_le hq (pow4 (by omega))
  obtain ⟨w2, run2, f2, gr2⟩ := hf.put (by omega) (r := r) (p := q) (ok64_of (by omega)) (ok64_of (by omega)) hx
  have cell2 : ∀ j, w2.cell? ⟨p, j, none⟩ = w.cell? ⟨p, j, none⟩ := fun j => World.cell?_of_block (go_both gr2 h.lt h.np)
  refine ⟨w2, run2, ⟨(cell2 0).trans h.c0, (cell2 1).trans h.c1, (cell2 2).trans h.c2, (cell2 3).trans h.c3, ⟨_, f2, fun r' q' hr' hq' => ?_⟩, ⟨_, (hg.block (go_both gr2 hg.lt h.ne.symm)).mono (by omega), hg2⟩,
    h.ne, h.np, h.nq, h.gp, h.gb, h.gq, Nat.le_trans h.sz gr2.size, h.R4⟩, gr2⟩
  unfold updW
  by_cases he : r' = r ∧ q' = q
  · obtain ⟨rfl, rfl⟩ := he
    rw [if_pos ⟨rfl, rfl⟩, upd_same]
    rfl
  · rw [if_neg he, upd_other _ _ _ _ (by omega)]
    exact hf2 r' q' hr' hq'

theorem Br.grown (h : Br w B p n R W P bm pm k) {w2 : World} (hg : w.grownBy w2 (some bm)) : Below B w w2 :=
  (Below.refl B w).grown hg h.sz (fun j hj => by simp only [Option.some.injEq] at hj; have := h.gb; omega)

set_option maxRecDepth 20000 in
set_option maxHeartbeats 4000000 in
theorem free_any (h : Br w B p n R W P bm pm k) (hk : k < 800) (q : Nat) (hq : q < 2 ^ (R - 1)) :
    Calls Try.prog 22 #[.pointer (some ⟨p, 0, none⟩), .agg #[.int .i64 0, .int .i64 q]] w fun e w' => e = .returned (.tuple #[]) ∧ Br w' B p n R (freeW W q) P bm pm (k + 1) ∧ Below B w w' := by
  have hr4 := h.R4
  have hh := pow_half (R := R) (r := 0) (by omega)
  rw [Nat.sub_zero] at hh
  have h16 : 2 ^ R ≤ 16 := pow4 h.R4.2
  have q1 : 2 * q < 2 ^ (R - 0) := by rw [Nat.sub_zero]; omega
  have q2 : 2 * q + 1 < 2 ^ (R - 0) := by rw [Nat.sub_zero]; omega
  have q3 : q < 16 := by omega
  have wx := h.wf 0 (2 * q) (by omega) q1
  have wy := h.wf 0 (2 * q + 1) (by omega) q2
  obtain ⟨w0, hw0⟩ : ∃ w0, w.alloc (.cells #[.int .i64 0, .int .i64 q] 62) = w0 := ⟨_, rfl⟩
  have b0 : Below w.heap.size w w0 := by rw [← hw0]; exact (Below.refl _ _).alloc (Nat.le_refl _) _
  have s0 : ∀ m, (w0.drewN m).cell? ⟨w.heap.size, 0, none⟩ = some (.int .i64 0) := fun m => by rw [← hw0]; exact World.cell?_alloc_at _ _ _ _ rfl
  have s1 : ∀ m, (w0.drewN m).cell? ⟨w.heap.size, 1, none⟩ = some (.int .i64 q) := fun m => by rw [← hw0]; exact World.cell?_alloc_at _ _ _ _ rfl
  have z0 : w0.cell? ⟨w.heap.size, 0, none⟩ = some (.int .i64 0) := s0 0
  have z1 : w0.cell? ⟨w.heap.size, 1, none⟩ = some (.int .i64 q) := s1 0
  have HX := Lib.hid (h.keep b0)
  have HB := Lib.hid (b0.mono h.sz)
  have HW0 := Lib.hid hw0
  have S0 := Lib.hid s0
  have S1 := Lib.hid s1
  have wl := fun m => who_left (HX.out.drewN m) 0 q (by omega) q1
  have wr := fun m => who_right (HX.out.drewN m) 0 q (by omega) q2
  obtain ⟨x, hx⟩ : ∃ x, W 0 (2 * q) = x := ⟨_, rfl⟩
  obtain ⟨y, hy⟩ : ∃ y, W 0 (2 * q + 1) = y := ⟨_, rfl⟩
  obtain ⟨t1, ht1⟩ : ∃ t1, ((-1 : Int) == x) = t1 := ⟨_, rfl⟩
  obtain ⟨t2, ht2⟩ : ∃ t2, ((-1 : Int) == y) = t2 := ⟨_, rfl⟩
  have hfree : freeW W q = if t1 = true then updW W 1 q y else if t2 = true then updW W 1 q x else W := by
    rw [freeW, hx, hy, ← ht1, ← ht2, Bool.beq_comm, Bool.beq_comm (a := y)]
  rw [hx] at wx wl
  rw [hy] at wy wr
  have HF := Lib.hid hfree
  have WL := Lib.hid wl
  have WR := Lib.hid wr
  have HQ := Lib.hid hq
  clear h hw0 hh h16 b0 s0 s1 q1 q2 wl wr hfree hx hy hq
  go_enter Try.func22, Try.ntmps22
  go_wp2_with fail
  rw [HW0.out]
  go_quiet (first
      | (go_at_call 29; with_reducible refine Calls.quiet_of_same (WL.out _))
      | (go_at_call 29; with_reducible refine Calls.quiet_of_same (WR.out _)))
  cases t1
  · cases t2
    · go_wp2_with fail
      refine bodyPost_end (v := .tuple #[]) (by simp [results, Try.results22, go_sem]) rfl ?_
      exact ⟨rfl, by rw [HF.out]; exact (HX.out.drewN nq).more (by omega), HB.out.trans ((below_drewN w0 nq).mono HX.out.sz)⟩
    · have HX3 := Lib.hid (HX.out.drewN nq |>.keep (Below.refl _ (w0.drewN nq)).drew)
      have HB3 := Lib.hid (HB.out.trans (((below_drewN w0 nq).trans ((Below.refl _ (w0.drewN nq)).drew.mono (Nat.le_refl _))).mono HX.out.sz))
      have z30 : (w0.drewN nq).drew.cell? ⟨w.heap.size, 0, none⟩ = some (.int .i64 0) := S0.out nq
      have z31 : (w0.drewN nq).drew.cell? ⟨w.heap.size, 1, none⟩ = some (.int .i64 q) := S1.out nq
      have c32 := HX3.out.c2
      obtain ⟨w3, h3⟩ : ∃ w3, w0.drewN nq = w3 := ⟨_, rfl⟩
      rw [h3] at HX3 HB3 z30 z31 c32 ⊢
      clear h3 z0 z1 S0 S1 WL WR HX HB HW0
      obtain ⟨w6, run1, hx6, hg6⟩ := HX3.out.putW (by omega) 1 q (by omega) HQ.out x wx
      replace run1 : (Instr.mapUpdate 55 (.map (some bm)) (.agg #[.int .i64 1, .int .i64 q]) (.int .i64 x)).run Try.prog w3.drew = .ok () w6 := run1
      have HX6 := Lib.hid hx6
      have HB6 := Lib.hid (HB3.out.trans (HX3.out.grown hg6))
      clear hx6 hg6
      go_wp2_with fail
      go_still_tail 11, (by kernel_rfl)
      change wpList _ _ _ _ _ w3.drew
      generalize w3.drew = w4 at *
      go_wp2_with fail
      rw [show IntKind.i64.wrap 1 = 1 from rfl, run1]
      go_wp2_with fail
      refine bodyPost_end (v := .tuple #[]) (by simp [results, Try.results22, go_sem]) rfl ?_
      exact ⟨rfl, by rw [HF.out]; exact HX6.out, HB6.out⟩
  · have HX3 := Lib.hid (HX.out.drewN nq |>.keep (Below.refl _ (w0.drewN nq)).drew)
    have HB3 := Lib.hid (HB.out.trans (((below_drewN w0 nq).trans ((Below.refl _ (w0.drewN nq)).drew.mono (Nat.le_refl _))).mono HX.out.sz))
    have z30 : (w0.drewN nq).drew.cell? ⟨w.heap.size, 0, none⟩ = some (.int .i64 0) := S0.out nq
    have z31 : (w0.drewN nq).drew.cell? ⟨w.heap.size, 1, none⟩ = some (.int .i64 q) := S1.out nq
    have c32 := HX3.out.c2
    obtain ⟨w3, h3⟩ : ∃ w3, w0.drewN nq = w3 := ⟨_, rfl⟩
    rw [h3] at HX3 HB3 z30 z31 c32 ⊢
    clear h3 z0 z1 S0 S1 WL WR HX HB HW0
    obtain ⟨w6, run1, hx6, hg6⟩ := HX3.out.putW (by omega) 1 q (by omega) HQ.out y wy
    replace run1 : (Instr.mapUpdate 55 (.map (some bm)) (.agg #[.int .i64 1, .int .i64 q]) (.int .i64 y)).run Try.prog w3.drew = .ok () w6 := run1
    have HX6 := Lib.hid hx6
    have HB6 := Lib.hid (HB3.out.trans (HX3.out.grown hg6))
    clear hx6 hg6
    go_wp2_with fail
    go_still_tail 11, (by kernel_rfl)
    change wpList _ _ _ _ _ w3.drew
    generalize w3.drew = w4 at *
    go_wp2_with fail
    rw [show IntKind.i64.wrap 1 = 1 from rfl, run1]
    go_wp2_with fail
    refine bodyPost_end (v := .tuple #[]) (by simp [results, Try.results22, go_sem]) rfl ?_
    exact ⟨rfl, by rw [HF.out]; exact HX6.out, HB6.out⟩
end
end Go.Proofs.Ytpdanppnpgfkeaa
