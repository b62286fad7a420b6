/- New: a bracket of n. -/
import Derived.Test.YtpdanppnpgfkeaaFree
namespace Go.Proofs.Ytpdanppnpgfkeaa
open Go.RowKit Go.Maps

def Rn (n : Nat) : Nat := if n ≤ 2 then 1 else if n ≤ 4 then 2 else if n ≤ 8 then 3 else 4
theorem Rn_ok {n : Nat} (h : 2 ≤ n ∧ n ≤ 16) : 1 ≤ Rn n ∧ Rn n ≤ 4 ∧ n ≤ 2 ^ Rn n ∧ 2 ^ (Rn n - 1) < n := by
  unfold Rn
  split
  · simp; omega
  · split
    · simp; omega
    · split
      · simp; omega
      · simp; omega

def sv (n R q : Nat) : Int := if n ≤ seat R q then -1 else (seat R q : Nat)
def bye (n R q : Nat) : Int := if (sv n R (2 * q) == -1) = true then sv n R (2 * q + 1) else if (sv n R (2 * q + 1) == -1) = true then sv n R (2 * q) else -2
def Ws (n R i : Nat) : Nat → Nat → Int := fun r q => if r = 0 ∧ q < i then sv n R q else -2
def Wf (n R i : Nat) : Nat → Nat → Int := fun r q => if r = 0 ∧ q < 2 ^ R then sv n R q else if r = 1 ∧ q < i then bye n R q else -2
/-- a new bracket -/
def W0 (n R : Nat) : Nat → Nat → Int := Wf n R (2 ^ (R - 1))

theorem Ws_succ (n R i : Nat) : updW (Ws n R i) 0 i (sv n R i) = Ws n R (i + 1) := by
  funext r q
  unfold updW Ws
  by_cases h : r = 0 ∧ q = i
  · obtain ⟨rfl, rfl⟩ := h
    simp
  · rw [if_neg h]
    by_cases h2 : r = 0 ∧ q < i
    · rw [if_pos h2, if_pos (by omega)]
    · rw [if_neg h2, if_neg (by omega)]

theorem Ws_all (n R : Nat) : Ws n R (2 ^ R) = Wf n R 0 := by
  funext r q
  unfold Ws Wf
  by_cases h : r = 0 ∧ q < 2 ^ R
  · rw [if_pos h, if_pos h]
  · rw [if_neg h, if_neg h, if_neg (by omega)]

theorem Wf_succ (n R i : Nat) (hR : 1 ≤ R) (hi : i < 2 ^ (R - 1)) : freeW (Wf n R i) i = Wf n R (i + 1) := by
  have hh := pow_half (R := R) (r := 0) (by omega)
  rw [Nat.sub_zero] at hh
  have e1 : Wf n R i 0 (2 * i) = sv n R (2 * i) := by unfold Wf; rw [if_pos ⟨rfl, by omega⟩]
  have e2 : Wf n R i 0 (2 * i + 1) = sv n R (2 * i + 1) := by unfold Wf; rw [if_pos ⟨rfl, by omega⟩]
  have key : ∀ x, bye n R i = x → updW (Wf n R i) 1 i x = Wf n R (i + 1) := by
    intro x hx
    funext r q
    unfold updW Wf
    by_cases h : r = 1 ∧ q = i
    · obtain ⟨rfl, rfl⟩ := h
      simp [hx]
    · rw [if_neg h]
      by_cases h0 : r = 0 ∧ q < 2 ^ R
      · rw [if_pos h0, if_pos h0]
      · rw [if_neg h0, if_neg h0]
        by_cases h1 : r = 1 ∧ q < i
        · rw [if_pos h1, if_pos (by omega)]
        · rw [if_neg h1, if_neg (by omega)]
  unfold freeW
  rw [e1, e2]
  by_cases t1 : (sv n R (2 * i) == -1) = true
  · rw [if_pos t1]; exact key _ (by unfold bye; rw [if_pos t1])
  · rw [if_neg t1]
    by_cases t2 : (sv n R (2 * i + 1) == -1) = true
    · rw [if_pos t2]; exact key _ (by unfold bye; rw [if_neg t1, if_pos t2])
    · rw [if_neg t2]
      have hb : bye n R i = -2 := by unfold bye; rw [if_neg t1, if_neg t2]
      rw [← key _ hb]
      funext r q
      unfold updW
      by_cases h : r = 1 ∧ q = i
      · obtain ⟨rfl, rfl⟩ := h
        rw [if_pos ⟨rfl, rfl⟩]
        unfold Wf
        rw [if_neg (by omega), if_neg (by omega)]
      · rw [if_neg h]

theorem sv_ok (n R q : Nat) (h : R ≤ 4) : ok64 (sv n R q) := by
  have h1 := seat_lt R q
  have h2 := pow4 h
  unfold sv
  split
  · exact ok64_of (by omega)
  · exact ok64_of (by omega)

section
variable {w : World} {B p n R : Nat} {W : Nat → Nat → Int} {P : Nat → Nat → Bool} {bm pm k : Nat}
theorem Br.base (h : Br w B p n R W P bm pm k) {B' : Nat} (hB : B' ≤ B) : Br w B' p n R W P bm pm k :=
  ⟨h.c0, h.c1, h.c2, h.c3, h.mi, h.mb, h.ne, h.np, h.nq, Nat.le_trans hB h.gp, Nat.le_trans hB h.gb, Nat.le_trans hB h.gq, Nat.le_trans hB h.sz, h.R4⟩
end

theorem new_bad (n : Int) (h : n < 2 ∨ 16 < n) (w : World) :
    Calls Try.prog 8 #[.int .i64 n] w fun e w' => e = .returned (.tuple #[.pointer none, .int .i64 2]) ∧ w' = w := by
  by_cases h0 : n < 2
  · have t0 : decide (n < 2) = true := by simpa using h0
    clear h
    go_enter Try.func8, Try.ntmps8
    go_wp2_with fail
    refine bodyPost_ret (v := .tuple #[.pointer none, .int .i64 2]) (by simp [results, Try.results8, go_sem]) rfl ?_
    exact ⟨rfl, rfl⟩
  · have t0 : decide (n < 2) = false := by simpa using h0
    have t1 : decide (16 < n) = true := by simp; omega
    clear h
    go_enter Try.func8, Try.ntmps8
    go_wp2_with fail
    refine bodyPost_ret (v := .tuple #[.pointer none, .int .i64 2]) (by simp [results, Try.results8, go_sem]) rfl ?_
    exact ⟨rfl, rfl⟩

def Newed (B n : Nat) (w : World) (e : Ending) (w' : World) : Prop :=
  ∃ p bm pm k, e = .returned (.tuple #[.pointer (some ⟨p, 0, none⟩), .int .i64 0]) ∧ Br w' B p n (Rn n) (W0 n (Rn n)) (fun _ _ => false) bm pm k ∧ k ≤ 100 ∧ Below w.heap.size w w'

/-- the bracket while its size is sought -/
structure MkS (w : World) (b n N : Nat) : Prop where
  c0 : w.cell? ⟨b + 1 + 1, 0, none⟩ = some (.int .i64 n)
  c1 : w.cell? ⟨b + 1 + 1, 1, none⟩ = some (.int .i64 N)
  c2 : w.cell? ⟨b + 1 + 1, 2, none⟩ = some (.map (some b))
  c3 : w.cell? ⟨b + 1 + 1, 3, none⟩ = some (.map (some (b + 1)))
  fz : w.frozen? ⟨b + 1 + 1, 1, none⟩ = false
  mi : MapI w b 0 (fun _ _ => none)
  mb : MapB w (b + 1) 0 (fun _ _ => false)
  sz : b ≤ w.heap.size

theorem mkS_start (w : World) (n : Nat) : MkS (((w.alloc (.map #[] 0)).alloc (.map #[] 0)).alloc (.cells #[.int .i64 n, .int .i64 1, .map (some w.heap.size), .map (some (w.heap.size + 1))] 58)) w.heap.size n 1 := by
  have e : w.heap.size + 1 + 1 = ((w.alloc (.map #[] 0)).alloc (.map #[] 0)).heap.size := by simp
  have m1 := MapI.made w
  have m2 := MapB.made (w.alloc (.map #[] 0))
  rw [show (w.alloc (.map #[] 0)).heap.size = w.heap.size + 1 by simp] at m2
  refine ⟨?_, ?_, ?_, ?_, ?_, ?_, ?_, by simp; omega⟩
  · rw [e]; exact World.cell?_alloc_at _ _ _ _ rfl
  · rw [e]; exact World.cell?_alloc_at _ _ _ _ rfl
  · rw [e]; exact World.cell?_alloc_at _ _ _ _ rfl
  · rw [e]; exact World.cell?_alloc_at _ _ _ _ rfl
  · rw [e]; exact World.frozen?_alloc_at _ _ _ _ rfl
  · exact (m1.block (Below.heap_alloc _ _ _ (by simp))).block (Below.heap_alloc _ _ _ (by simp; omega))
  · exact m2.block (Below.heap_alloc _ _ _ (by simp))

theorem MkS.step {w : World} {b n N : Nat} (h : MkS w b n N) (M : Nat) : MkS (w.setCell ⟨b + 1 + 1, 1, none⟩ (.int .i64 M)) b n M := by
  refine ⟨?_, World.cell?_setCell_same _ _ _ h.c1, ?_, ?_, by rw [World.frozen?_setCell]; exact h.fz, h.mi.block (Below.heap_setCell _ _ _ _ (by simp; omega)), h.mb.block (Below.heap_setCell _ _ _ _ (by simp)), by have := h.sz; simp; omega⟩
  · rw [World.cell?_setCell_other _ _ _ _ (by simp)]; exact h.c0
  · rw [World.cell?_setCell_other _ _ _ _ (by simp)]; exact h.c2
  · rw [World.cell?_setCell_other _ _ _ _ (by simp)]; exact h.c3

theorem MkS.br {w : World} {b n R : Nat} (h : MkS w b n (2 ^ R)) (hR : 1 ≤ R ∧ R ≤ 4) : Br w b (b + 1 + 1) n R (fun _ _ => -2) (fun _ _ => false) b (b + 1) 0 :=
  ⟨h.c0, h.c1, h.c2, h.c3, ⟨_, h.mi, fun _ _ _ _ => rfl⟩, ⟨_, h.mb, fun _ _ _ _ => rfl⟩, by omega, by omega, by omega, by omega, by omega, by omega, h.sz, hR⟩

theorem Ws_zero (n R : Nat) : (fun _ _ => -2 : Nat → Nat → Int) = Ws n R 0 := by
  funext r q
  unfold Ws
  rw [if_neg (by omega)]

set_option maxRecDepth 20000 in
set_option maxHeartbeats 4000000 in
theorem new_any (n : Nat) (hn : 2 ≤ n ∧ n ≤ 16) (w : World) :
    Calls Try.prog 8 #[.int .i64 n] w (Newed w.heap.size n w) := by
  obtain ⟨hR1, hR4, hnR, hRn⟩ := Rn_ok hn
  obtain ⟨R, hR⟩ : ∃ R, Rn n = R := ⟨_, rfl⟩
  rw [hR] at hR1 hR4 hnR hRn
  obtain ⟨hn2, hn16⟩ := hn
  have HR := Lib.hid hR
  have HNR := Lib.hid hnR
  have HRN := Lib.hid hRn
  have hmm := @run_makeMap Try.prog
  clear hR hnR hRn
  go_enter Try.func8, Try.ntmps8
  go_wp2_with fail
  have hs := mkS_start w n
  obtain ⟨w0, hw0⟩ : ∃ w0, (((w.alloc (.map #[] 0)).alloc (.map #[] 0)).alloc (.cells #[.int .i64 n, .int .i64 1, .map (some w.heap.size), .map (some (w.heap.size + 1))] 58)) = w0 := ⟨_, rfl⟩
  have b0 : Below w.heap.size w w0 := by rw [← hw0]; exact (((Below.refl _ _).alloc (Nat.le_refl _) _).alloc (by simp) _).alloc (by simp; omega) _
  rw [hw0] at hs ⊢
  obtain ⟨b, hb⟩ : ∃ b, w.heap.size = b := ⟨_, rfl⟩
  rw [hb] at hs b0 ⊢
  have HB := Lib.hid hb
  have HS0 := Lib.hid hs
  clear hs hw0 hmm hb
  go_loopg [] R (fun m wr => ∃ j N : Nat, j ≤ R ∧ m = R - j ∧ Hid (2 ^ j = N) ∧ N ≤ 16 ∧ MkS wr b n N ∧ Below b w wr)
  case atStart => exact ⟨0, 1, Nat.zero_le _, rfl, Lib.hid rfl, by omega, HS0.out, b0⟩
  case round =>
    obtain ⟨j, N, hj, hm, HN, hN, hs, hb1⟩ := hrel
    have HM := Lib.hid hm
    have HS := Lib.hid hs
    clear hm hs b0 HS0
    have c1 := HS.out.c1
    have f1 := HS.out.fz
    by_cases hlt : j < R
    · have hNn : N < n := by
        have h1 := HRN.out
        have h2 : 2 ^ j ≤ 2 ^ (R - 1) := Nat.pow_le_pow_right (by omega) (by omega)
        rw [← HN.out]
        omega
      have hNI : (N : Int) < n := by omega
      have H2 := Lib.hid (show 2 ^ (j + 1) = 2 * N by rw [Nat.pow_succ, HN.out, Nat.mul_comm])
      have hs2 := HS.out.step (2 * N)
      rw [show ((2 * N : Nat) : Int) = (N : Int) * 2 by omega] at hs2
      have HS2 := Lib.hid hs2
      have hb2 : Below b w (wr.setCell ⟨b + 1 + 1, 1, none⟩ (.int .i64 ((N : Int) * 2))) := hb1.setCell (by simp; omega) _
      have HB2 := Lib.hid hb2
      have h16 : 2 * N ≤ 16 := by
        rw [← H2.out]; exact pow4 (by omega)
      clear hb2 hNn hs2
      go_wp2_with fail
      go_roundg (R - (j + 1))
      case measure => rw [HM.out]; omega
      case rel => exact ⟨j + 1, 2 * N, by omega, rfl, H2, h16, HS2.out, HB2.out⟩
    · obtain rfl : j = R := by omega
      have hNn : (n : Int) ≤ N := by have := HNR.out; rw [HN.out] at this; omega
      have hbr : Br wr b (b + 1 + 1) n j (Ws n j 0) (fun _ _ => false) b (b + 1) 0 := by
        rw [← Ws_zero n j]
        exact MkS.br (by rw [HN.out]; exact HS.out) ⟨hR1, hR4⟩
      have HBR := Lib.hid hbr
      have hseat := seating_any j hR4 wr
      rw [HN.out] at hseat
      have HSEAT := Lib.hid hseat
      have HB1 := Lib.hid hb1
      clear hbr hseat f1 hb1
      go_wp2_with fail
      refine HSEAT.out.mono ?_
      rintro e w1 ⟨vl, rfl, hvl, bl⟩
      have hN2 : 1 ≤ N := by have := HN.out; have : 0 < 2 ^ j := Nat.pow_pos (by omega); omega
      obtain ⟨g, cap, rfl, hg, hgl⟩ := owns_some hvl (by omega)
      have HVL := Lib.hid hvl
      have HBR1 := Lib.hid (HBR.out.keep bl)
      have HB2 := Lib.hid (HB1.out.trans (bl.mono HBR.out.sz))
      have hgb : b + 1 + 1 < g := by have := HBR.out.lt; omega
      clear hvl bl HSEAT c1 HS
      go_wp2_with fail
      go_loopg [38] N (fun m i wq => ∃ i' : Nat, i' ≤ N ∧ m = N - i' ∧ i = .int .i64 i' ∧ Br wq b (b + 1 + 1) n j (Ws n j i') (fun _ _ => false) b (b + 1) i' ∧ Below b w wq ∧ wq.heap[g]? = w1.heap[g]?)
      case atStart => exact ⟨0, Nat.zero_le _, rfl, rfl, HBR1.out, HB2.out, rfl⟩
      case round =>
        clear HBR1 HB2
        obtain ⟨i, hi, hm, rfl, hbr, hbw, hgg⟩ := hrel
        obtain ⟨wq, rfl⟩ : ∃ wq, wq = wr := ⟨_, rfl⟩
        have HM := Lib.hid hm
        have HGG := Lib.hid hgg
        have HBQ := Lib.hid hbr
        have hgq : g < wq.heap.size := Nat.lt_of_not_le (fun hle => by
          have h1 := HGG.out
          rw [Array.getElem?_eq_none (by omega), Array.getElem?_eq_getElem hgl] at h1
          cases h1)
        have c2 := HBQ.out.c2
        clear hm hgg hbr
        by_cases hlt : i < N
        · obtain ⟨s, hs⟩ : ∃ s, seat j i = s := ⟨_, rfl⟩
          have hsN : s < N := by rw [← hs, ← HN.out]; exact seat_lt j i
          have hc0 : wq.cell? ⟨g, i, none⟩ = some (.int .i64 s) := by
            rw [World.cell?_of_block (w := w1) (a := ⟨g, i, none⟩) HGG.out, HVL.out.cellAt i (by omega), seatsV_get j _ i (by omega), hs]
          have HI := Lib.hid (show i < 2 ^ (j - 0) by rw [Nat.sub_zero, HN.out]; exact hlt)
          have hsv : sv n j i = if n ≤ s then (-1 : Int) else (s : Int) := by rw [sv, hs]
          clear hs
          by_cases hns : n ≤ s
          · rw [if_pos hns] at hsv
            have HSV := Lib.hid hsv
            have hni : (n : Int) ≤ s := by omega
            clear hsv
            obtain ⟨w2, run, hbr2, hg2⟩ := HBQ.out.putW (by omega) 0 i (by omega) HI.out (-1) (ok64_of (by omega))
            replace run : (Instr.mapUpdate 55 (.map (some b)) (.agg #[.int .i64 0, .int .i64 i]) (.int .i64 (-1))).run Try.prog wq = .ok () w2 := run
            have hgg2 : w2.heap[g]? = w1.heap[g]? := (go_both hg2 hgq (by omega)).trans HGG.out
            have HB2 := Lib.hid (hbw.trans (HBQ.out.grown hg2))
            rw [← HSV.out, Ws_succ] at hbr2
            have HBR2 := Lib.hid hbr2
            have HGG2 := Lib.hid hgg2
            clear hbr2 hg2 hgg2
            go_wp2_with fail
            go_roundg (N - (i + 1))
            case measure => rw [HM.out]; omega
            case rel => exact ⟨i + 1, by omega, rfl, by go_num, HBR2.out, HB2.out, HGG2.out⟩
          · rw [if_neg hns] at hsv
            have HSV := Lib.hid hsv
            have hni : ¬ (n : Int) ≤ s := by omega
            clear hsv
            obtain ⟨w2, run, hbr2, hg2⟩ := HBQ.out.putW (by omega) 0 i (by omega) HI.out ((s : Nat)) (ok64_of (by omega))
            replace run : (Instr.mapUpdate 55 (.map (some b)) (.agg #[.int .i64 0, .int .i64 i]) (.int .i64 ((s : Nat)))).run Try.prog wq = .ok () w2 := run
            have hgg2 : w2.heap[g]? = w1.heap[g]? := (go_both hg2 hgq (by omega)).trans HGG.out
            have HB2 := Lib.hid (hbw.trans (HBQ.out.grown hg2))
            rw [← HSV.out, Ws_succ] at hbr2
            have HBR2 := Lib.hid hbr2
            have HGG2 := Lib.hid hgg2
            clear hbr2 hg2 hgg2
            go_wp2_with fail
            go_roundg (N - (i + 1))
            case measure => rw [HM.out]; omega
            case rel => exact ⟨i + 1, by omega, rfl, by go_num, HBR2.out, HB2.out, HGG2.out⟩
        · obtain rfl : i = N := by omega
          have hbf : Br wq b (b + 1 + 1) n j (Wf n j 0) (fun _ _ => false) b (b + 1) i := by
            have h1 := HBQ.out
            have h2 := HN.out
            rw [← Ws_all, h2]
            exact h1
          have HBF := Lib.hid hbf
          have c1 : wq.cell? ⟨b + 1 + 1, 1, none⟩ = some (.int .i64 i) := by rw [hbf.c1, HN.out]
          obtain ⟨H, hH⟩ : ∃ H, 2 ^ (j - 1) = H := ⟨_, rfl⟩
          have hiH : i = 2 * H := by
            have h1 := pow_half (R := j) (r := 0) (by omega)
            rw [Nat.sub_zero, HN.out, hH] at h1
            exact h1
          have hdiv : (i : Int) / 2 = H := by omega
          have HH := Lib.hid hH
          have HIH := Lib.hid hiH
          clear hbf hH hiH hi
          go_wp2_with fail
          go_loopg [59] H (fun m v wx => ∃ i' : Nat, i' ≤ H ∧ m = H - i' ∧ v = .int .i64 i' ∧ Br wx b (b + 1 + 1) n j (Wf n j i') (fun _ _ => false) b (b + 1) (i + i') ∧ Below b w wx)
          case atStart => exact ⟨0, Nat.zero_le _, rfl, rfl, HBF.out, hbw⟩
          case round =>
            obtain ⟨i', hi', hm, rfl, hbr, hbx⟩ := hrel
            have HM3 := Lib.hid hm
            have HBR := Lib.hid hbr
            clear hm hbr
            by_cases hlt3 : i' < H
            · have hfr := free_any HBR.out (by omega) i' (by rw [HH.out]; exact hlt3)
              rw [Wf_succ n j i' hR1 (by rw [HH.out]; exact hlt3)] at hfr
              have HFR := Lib.hid hfr
              clear hfr
              go_wp2_with fail
              refine HFR.out.mono ?_
              rintro e wy ⟨rfl, hy, hby⟩
              have HY := Lib.hid hy
              have hbY := hbx.trans hby
              clear hy hby
              go_wp2_with fail
              go_roundg (H - (i' + 1))
              case measure => rw [HM3.out]; omega
              case rel => exact ⟨i' + 1, by omega, rfl, by go_num, HY.out, hbY⟩
            · obtain rfl : i' = H := by omega
              go_wp2_with fail
              refine bodyPost_ret (v := .tuple #[.pointer (some ⟨b + 1 + 1, 0, none⟩), .int .i64 0]) (by simp [results, Try.results8, go_sem]) rfl ?_
              refine ⟨b + 1 + 1, b, b + 1, i + i', rfl, ?_, ?_, ?_⟩
              · rw [HR.out, W0, HH.out, HB.out]; exact HBR.out
              · omega
              · rw [HB.out]; exact hbx
end Go.Proofs.Ytpdanppnpgfkeaa
