/- The walk of BracketStrong. -/
import Derived.Test.YtpdanppnpgfkeaaStrong
namespace Go.Proofs.Ytpdanppnpgfkeaa
open Go.RowKit Go.Maps

theorem chk_at {n i : Nat} (hn : 2 ≤ n ∧ n ≤ 16) (hi : i < n - 1) : chk n i = true := by
  have h := List.all_eq_true.1 all_chk (n - 2) (by simp; omega)
  have h2 := List.all_eq_true.1 h i (by simp; omega)
  rw [show n - 2 + 2 = n by omega] at h2
  exact h2

theorem champ_at {n : Nat} (hn : 2 ≤ n ∧ n ≤ 16) : stW n (n - 1) (Rn n) 0 = 0 := by
  have h := List.all_eq_true.1 all_fin (n - 2) (by simp; omega)
  rw [show n - 2 + 2 = n by omega, show n - 2 + 1 = n - 1 by omega] at h
  simpa using h

theorem mem_spots {R r q : Nat} (hr : r < R) (hq : q < 2 ^ (R - r - 1)) : (r, q) ∈ spots R := by
  unfold spots
  exact List.mem_flatMap.2 ⟨r, by simpa using hr, List.mem_map.2 ⟨q, by simpa using hq, rfl⟩⟩
theorem of_spots {R : Nat} {s : Nat × Nat} (h : s ∈ spots R) : s.1 < R ∧ s.2 < 2 ^ (R - s.1 - 1) := by
  unfold spots at h
  obtain ⟨r, hr, h⟩ := List.mem_flatMap.1 h
  obtain ⟨q, hq, rfl⟩ := List.mem_map.1 h
  exact ⟨by simpa using hr, by simpa using hq⟩

/-- both have lost, the stronger one not ahead of the weaker -/
theorem fin_at {n a : Nat} (hn : n ≤ 16) (ha : 2 ≤ a ∧ a < n) {u v : Value} (hu : OutAns (stW n (n - 1)) (stP n (n - 1)) (Rn n) a u) (hv : OutAns (stW n (n - 1)) (stP n (n - 1)) (Rn n) ((a : Int) - 1) v) :
    ∃ r r' : Nat, u = .tuple #[.int .i64 r, .bool true] ∧ v = .tuple #[.int .i64 r', .bool true] ∧ r ≤ r' := by
  have h := List.all_eq_true.1 all_fin1 (n - 2) (by simp; omega)
  have h2 := List.all_eq_true.1 h (a - 2) (by simp; omega)
  rw [show n - 2 + 2 = n by omega, show a - 2 + 2 = a by omega] at h2
  unfold fin1 at h2
  simp only [Bool.and_eq_true] at h2
  obtain ⟨⟨h3, h4⟩, h5⟩ := h2
  have some_hit : ∀ b : Int, (!((spots (Rn n)).filter (fun s => hit (stW n (n - 1)) (stP n (n - 1)) b s.1 s.2)).isEmpty) = true → ∃ s, s ∈ spots (Rn n) ∧ hit (stW n (n - 1)) (stP n (n - 1)) b s.1 s.2 = true := by
    intro b hb
    cases hc : (spots (Rn n)).filter (fun s => hit (stW n (n - 1)) (stP n (n - 1)) b s.1 s.2) with
    | nil => rw [hc] at hb; simp at hb
    | cons s l =>
      have : s ∈ (spots (Rn n)).filter (fun s => hit (stW n (n - 1)) (stP n (n - 1)) b s.1 s.2) := by rw [hc]; simp
      exact ⟨s, List.mem_filter.1 this⟩
  rcases hu with ⟨r, q, hr, hq, hh, rfl⟩ | ⟨hno, _⟩
  · rcases hv with ⟨r', q', hr', hq', hh', rfl⟩ | ⟨hno, _⟩
    · refine ⟨r, r', rfl, rfl, ?_⟩
      have m1 := List.all_eq_true.1 h5 (r, q) (List.mem_filter.2 ⟨mem_spots hr hq, hh⟩)
      have m2 := List.all_eq_true.1 m1 (r', q') (List.mem_filter.2 ⟨mem_spots hr' hq', hh'⟩)
      simpa using m2
    · obtain ⟨s, hs, hs2⟩ := some_hit _ h4
      obtain ⟨a1, a2⟩ := of_spots hs
      rw [hno _ _ a1 a2] at hs2
      cases hs2
  · obtain ⟨s, hs, hs2⟩ := some_hit _ h3
    obtain ⟨a1, a2⟩ := of_spots hs
    rw [hno _ _ a1 a2] at hs2
    cases hs2

/-- what stands behind one round -/
theorem chk_out {n i : Nat} (hn : 2 ≤ n ∧ n ≤ 16) (hi : i < n - 1) : ∃ (r q : Nat) (x y : Int) (l : List Mt), openL (stW n i) (stP n i) (Rn n) = ⟨r, q, x, y⟩ :: l ∧ r < Rn n ∧ q < 2 ^ (Rn n - r - 1) ∧ 0 ≤ x ∧ 0 ≤ y ∧
    stW n i r (2 * q) = x ∧ stW n i r (2 * q + 1) = y ∧ stP n i r q = false ∧ stW n (i + 1) = updW (stW n i) (r + 1) q (min x y) ∧ stP n (i + 1) = updP (stP n i) r q ∧ (i = n - 2 → min x y = 0 ∧ max x y = 1) := by
  have h := chk_at hn hi
  unfold chk at h
  split at h
  · rename_i r q x m l hl ho
    have hm : m ∈ openL (stW n i) (stP n i) (Rn n) := by rw [ho]; simp
    obtain ⟨r', q', hr, hq, rfl, hx, hy, hp⟩ := mem_openL hm
    simp only [Bool.and_eq_true, beq_iff_eq] at h
    obtain ⟨⟨⟨e1, e2⟩, e3⟩, e4⟩ := h
    obtain rfl : r' = r := by omega
    obtain rfl : q' = q := by omega
    obtain ⟨s1, s2⟩ := st_succ hl
    refine ⟨r', q', _, _, l, ho, hr, hq, hx, hy, rfl, rfl, hp, by rw [s1, ← e3], s2, fun hin => ?_⟩
    subst hin
    simp at e4
    rw [e3]
    exact e4
  · cases h

set_option maxRecDepth 20000 in
set_option maxHeartbeats 8000000 in
theorem strong_walk (a : Int) (d : Int) (w : World) (wa : (Lit.int .u8 a).wf = true) (_ : (Lit.int .u64 d).wf = true) :
    Calls Try.prog 5 #[.int .u8 a, .int .u64 d] w fun e w' => e = .returned (.bool true) ∧ Below w.heap.size w w' := by
  have ha : 0 ≤ a ∧ a ≤ 255 := by simpa [Lit.wf, IntKind.min, IntKind.max, IntKind.signed, IntKind.bits] using wa
  obtain ⟨z, rfl⟩ := Int.eq_ofNat_of_zero_le ha.1
  obtain ⟨n, hn⟩ : ∃ n, 2 + z % 15 = n := ⟨_, rfl⟩
  have hnI : 2 + (z : Int) % 15 = n := by omega
  have hn2 : 2 ≤ n ∧ n ≤ 16 := by omega
  have hn2a : (2 : Int) ≤ n := by omega
  have hn2b : (n : Int) ≤ 16 := by omega
  have HN := Lib.hid hn
  clear wa hn
  go_enter Try.func5, Try.ntmps5
  go_wp2_with fail
  refine (awake_any w).mono ?_
  rintro e w1 ⟨rfl, b1⟩
  have HNEW := Lib.hid (new_at n hn2 w1 w.heap.size b1.size)
  go_wp2_with fail
  refine HNEW.out.mono ?_
  rintro e w2 ⟨p, bm, pm, k, rfl, hbr, hk, b2⟩
  have hbr0 : Br w2 w.heap.size p n (Rn n) (stW n 0) (stP n 0) bm pm (k + 0) := hbr
  have HBR0 := Lib.hid hbr0
  have hb0 := b1.trans b2
  obtain ⟨N, hN⟩ : ∃ N, n - 1 = N := ⟨_, rfl⟩
  have hNI : (n : Int) - 1 = N := by omega
  have HN1 := Lib.hid hN
  clear hbr hbr0 HNEW b1 b2 hN
  go_wp2_with fail
  go_loopg [8] N (fun m v wr => ∃ i : Nat, i ≤ N ∧ m = N - i ∧ v = .int .i64 i ∧ Br wr w.heap.size p n (Rn n) (stW n i) (stP n i) bm pm (k + i) ∧ Below w.heap.size w wr)
  case atStart => exact ⟨0, Nat.zero_le _, rfl, rfl, HBR0.out, hb0⟩
  case round =>
    clear HBR0 hb0
    obtain ⟨i, hi, hm, rfl, hbr, hb⟩ := hrel
    have HM := Lib.hid hm
    have HBR := Lib.hid hbr
    clear hm hbr
    by_cases hlt : i < N
    · obtain ⟨r, q, x, y, l, hopen, hr, hq, hx0, hy0, hWx, hWy, hP, hs1, hs2, hlast⟩ := chk_out hn2 (by rw [HN1.out]; exact hlt)
      have HS1 := Lib.hid hs1
      have HS2 := Lib.hid hs2
      have HOPEN := Lib.hid hopen
      have HQ := Lib.hid hq
      have hd : ∀ c : Int, c = min x y ∨ c = -1 → decN (stW n i) (stP n i) r q c = 0 ∧ winN (stW n i) r q c = min x y := by
        intro c hc
        unfold decN winN
        rw [hWx, hWy, hP]
        have h1 : (decide (0 ≤ x) && decide (0 ≤ y)) = true := by simp [hx0, hy0]
        rw [h1]
        rcases hc with rfl | rfl
        · have h2 : (min x y == -1) = false := by simp; omega
          have h3 : (min x y != x && min x y != y) = false := by simp; omega
          simp [h2, h3]
        · simp
      have HD := Lib.hid hd
      have HLAST := Lib.hid hlast
      have hr4 := HBR.out.R4
      clear hs1 hs2 hopen hq hd hWx hWy hP hlast
      go_wp2_with fail
      refine (open_any HBR.out).mono ?_
      rintro e w3 ⟨v, rfl, hown, b3⟩
      rw [HOPEN.out] at hown
      obtain ⟨g, cap, rfl, hg, hgl, hc⟩ := owns_match hown (by simp)
      obtain ⟨m0, m1, m2, m3⟩ := hc 0 _ rfl
      obtain ⟨len, hlen⟩ : ∃ len, (⟨r, q, x, y⟩ :: l : List Mt).length = len := ⟨_, rfl⟩
      have hl1 : 1 ≤ len := by rw [← hlen]; simp
      have hl0 : ((len : Int) == 0) = false := by simp; omega
      have hl2 : (0 : Int) < len := by omega
      rw [hlen]
      simp only [Nat.zero_mul, Nat.zero_add] at m0 m1 m2 m3
      have HBR3 := Lib.hid (HBR.out.keep b3)
      have hb3 := hb.trans (b3.mono HBR.out.sz)
      clear hown hc hlen b3 hb HOPEN
      obtain ⟨w4, hw4⟩ : ∃ w4, w3.alloc (.cells #[.int .i64 r, .int .i64 q, .int .i64 x, .int .i64 y] 50) = w4 := ⟨_, rfl⟩
      have b4 : Below w3.heap.size w3 w4 := by rw [← hw4]; exact (Below.refl _ _).alloc (Nat.le_refl _) _
      have n0 : w4.cell? ⟨w3.heap.size, 0, none⟩ = some (.int .i64 r) := by rw [← hw4]; exact World.cell?_alloc_at _ _ _ _ rfl
      have n1 : w4.cell? ⟨w3.heap.size, 1, none⟩ = some (.int .i64 q) := by rw [← hw4]; exact World.cell?_alloc_at _ _ _ _ rfl
      have n2 : w4.cell? ⟨w3.heap.size, 2, none⟩ = some (.int .i64 x) := by rw [← hw4]; exact World.cell?_alloc_at _ _ _ _ rfl
      have n3 : w4.cell? ⟨w3.heap.size, 3, none⟩ = some (.int .i64 y) := by rw [← hw4]; exact World.cell?_alloc_at _ _ _ _ rfl
      have HW4 := Lib.hid hw4
      have HBR4 := Lib.hid (HBR3.out.keep b4)
      have hb4 := hb3.trans (b4.mono HBR3.out.sz)
      clear hw4 b4 hb3 HBR3 n0 n1 n2 n3
      by_cases hin : i = n - 2
      · obtain ⟨l1, l2⟩ := HLAST.out hin
        have t1 : ((i : Int) == (n : Int) - 2) = true := by simp; omega
        by_cases hxy : x ≤ y
        · obtain rfl : x = 0 := by omega
          obtain rfl : y = 1 := by omega
          clear hin l1 l2 hxy
          go_wp2_with fail
          · rw [HW4.out]
            refine (decide_in HBR4.out (by omega) r q hr HQ.out (-1)).mono ?_
            rintro e w5 ⟨rfl, b5, h5⟩
            obtain ⟨e0, e1⟩ := HD.out (-1) (.inr rfl)
            rcases h5 with ⟨h5, _⟩ | ⟨_, h5⟩
            · exact absurd e0 h5
            rw [e1, ← HS1.out, ← HS2.out] at h5
            have HBR5 := Lib.hid h5
            have hb5 := hb4.trans b5
            rw [e0]
            clear h5 b5 e1 e0
            go_wp2_with fail
            go_roundg (N - (i + 1))
            case measure => rw [HM.out]; omega
            case rel => exact ⟨i + 1, by omega, rfl, by go_num, HBR5.out, hb5⟩
          · rw [HW4.out]
            refine (decide_in HBR4.out (by omega) r q hr HQ.out 0).mono ?_
            rintro e w5 ⟨rfl, b5, h5⟩
            obtain ⟨e0, e1⟩ := HD.out 0 (.inl (by omega))
            rcases h5 with ⟨h5, _⟩ | ⟨_, h5⟩
            · exact absurd e0 h5
            rw [e1, ← HS1.out, ← HS2.out] at h5
            have HBR5 := Lib.hid h5
            have hb5 := hb4.trans b5
            rw [e0]
            clear h5 b5 e1 e0
            go_wp2_with fail
            go_roundg (N - (i + 1))
            case measure => rw [HM.out]; omega
            case rel => exact ⟨i + 1, by omega, rfl, by go_num, HBR5.out, hb5⟩
        · obtain rfl : x = 1 := by omega
          obtain rfl : y = 0 := by omega
          clear hin l1 l2 hxy
          go_wp2_with fail
          · rw [HW4.out]
            refine (decide_in HBR4.out (by omega) r q hr HQ.out (-1)).mono ?_
            rintro e w5 ⟨rfl, b5, h5⟩
            obtain ⟨e0, e1⟩ := HD.out (-1) (.inr rfl)
            rcases h5 with ⟨h5, _⟩ | ⟨_, h5⟩
            · exact absurd e0 h5
            rw [e1, ← HS1.out, ← HS2.out] at h5
            have HBR5 := Lib.hid h5
            have hb5 := hb4.trans b5
            rw [e0]
            clear h5 b5 e1 e0
            go_wp2_with fail
            go_roundg (N - (i + 1))
            case measure => rw [HM.out]; omega
            case rel => exact ⟨i + 1, by omega, rfl, by go_num, HBR5.out, hb5⟩
          · rw [HW4.out]
            refine (decide_in HBR4.out (by omega) r q hr HQ.out 0).mono ?_
            rintro e w5 ⟨rfl, b5, h5⟩
            obtain ⟨e0, e1⟩ := HD.out 0 (.inl (by omega))
            rcases h5 with ⟨h5, _⟩ | ⟨_, h5⟩
            · exact absurd e0 h5
            rw [e1, ← HS1.out, ← HS2.out] at h5
            have HBR5 := Lib.hid h5
            have hb5 := hb4.trans b5
            rw [e0]
            clear h5 b5 e1 e0
            go_wp2_with fail
            go_roundg (N - (i + 1))
            case measure => rw [HM.out]; omega
            case rel => exact ⟨i + 1, by omega, rfl, by go_num, HBR5.out, hb5⟩
      · have t1 : ((i : Int) == (n : Int) - 2) = false := by simp; omega
        clear hin
        by_cases hxy : x ≤ y
        · go_wp2_with fail
          · rw [HW4.out]
            refine (decide_in HBR4.out (by omega) r q hr HQ.out (-1)).mono ?_
            rintro e w5 ⟨rfl, b5, h5⟩
            obtain ⟨e0, e1⟩ := HD.out (-1) (.inr rfl)
            rcases h5 with ⟨h5, _⟩ | ⟨_, h5⟩
            · exact absurd e0 h5
            rw [e1, ← HS1.out, ← HS2.out] at h5
            have HBR5 := Lib.hid h5
            have hb5 := hb4.trans b5
            rw [e0]
            clear h5 b5 e1 e0
            go_wp2_with fail
            go_roundg (N - (i + 1))
            case measure => rw [HM.out]; omega
            case rel => exact ⟨i + 1, by omega, rfl, by go_num, HBR5.out, hb5⟩
          · rw [HW4.out]
            refine (decide_in HBR4.out (by omega) r q hr HQ.out x).mono ?_
            rintro e w5 ⟨rfl, b5, h5⟩
            obtain ⟨e0, e1⟩ := HD.out x (.inl (by omega))
            rcases h5 with ⟨h5, _⟩ | ⟨_, h5⟩
            · exact absurd e0 h5
            rw [e1, ← HS1.out, ← HS2.out] at h5
            have HBR5 := Lib.hid h5
            have hb5 := hb4.trans b5
            rw [e0]
            clear h5 b5 e1 e0
            go_wp2_with fail
            go_roundg (N - (i + 1))
            case measure => rw [HM.out]; omega
            case rel => exact ⟨i + 1, by omega, rfl, by go_num, HBR5.out, hb5⟩
        · have hyx : y ≤ x := by omega
          go_wp2_with fail
          · rw [HW4.out]
            refine (decide_in HBR4.out (by omega) r q hr HQ.out (-1)).mono ?_
            rintro e w5 ⟨rfl, b5, h5⟩
            obtain ⟨e0, e1⟩ := HD.out (-1) (.inr rfl)
            rcases h5 with ⟨h5, _⟩ | ⟨_, h5⟩
            · exact absurd e0 h5
            rw [e1, ← HS1.out, ← HS2.out] at h5
            have HBR5 := Lib.hid h5
            have hb5 := hb4.trans b5
            rw [e0]
            clear h5 b5 e1 e0
            go_wp2_with fail
            go_roundg (N - (i + 1))
            case measure => rw [HM.out]; omega
            case rel => exact ⟨i + 1, by omega, rfl, by go_num, HBR5.out, hb5⟩
          · rw [HW4.out]
            refine (decide_in HBR4.out (by omega) r q hr HQ.out y).mono ?_
            rintro e w5 ⟨rfl, b5, h5⟩
            obtain ⟨e0, e1⟩ := HD.out y (.inl (by omega))
            rcases h5 with ⟨h5, _⟩ | ⟨_, h5⟩
            · exact absurd e0 h5
            rw [e1, ← HS1.out, ← HS2.out] at h5
            have HBR5 := Lib.hid h5
            have hb5 := hb4.trans b5
            rw [e0]
            clear h5 b5 e1 e0
            go_wp2_with fail
            go_roundg (N - (i + 1))
            case measure => rw [HM.out]; omega
            case rel => exact ⟨i + 1, by omega, rfl, by go_num, HBR5.out, hb5⟩
    · obtain rfl : i = N := by omega
      have hbf : Br wr w.heap.size p n (Rn n) (stW n (n - 1)) (stP n (n - 1)) bm pm (k + i) := by rw [HN1.out]; exact HBR.out
      have HBF := Lib.hid hbf
      clear hbf
      go_wp2_with fail
      go_loopg [12] (n - 2) (fun m v wx => ∃ j : Nat, 2 ≤ j ∧ j ≤ n ∧ m = n - j ∧ v = .int .i64 j ∧ Br wx w.heap.size p n (Rn n) (stW n (n - 1)) (stP n (n - 1)) bm pm (k + i) ∧ Below w.heap.size w wx)
      case atStart => exact ⟨2, by omega, by omega, by omega, rfl, HBF.out, hb⟩
      case round =>
        clear HBF hb
        obtain ⟨j, hj2, hjn, hm, rfl, hbr, hb⟩ := hrel
        have HM2 := Lib.hid hm
        have HBX := Lib.hid hbr
        clear hm hbr
        by_cases hjl : j < n
        · go_wp2_with fail
          refine (out_any HBX.out j).mono ?_
          rintro e wy ⟨v1, rfl, o1, b1⟩
          have HBY := Lib.hid (HBX.out.keep b1)
          have hby := hb.trans (b1.mono HBX.out.sz)
          have O1 := Lib.hid o1
          clear o1 b1 hb HBX
          have houtj := out_any HBY.out ((j : Int) - 1)
          have HO := Lib.hid houtj
          clear houtj
          have hfin : ∀ v2 : Value, OutAns (stW n (n - 1)) (stP n (n - 1)) (Rn n) ((j : Int) - 1) v2 → ∃ r r' : Nat, v1 = .tuple #[.int .i64 r, .bool true] ∧ v2 = .tuple #[.int .i64 r', .bool true] ∧ r ≤ r' := fun _ h => fin_at hn2.2 ⟨hj2, hjl⟩ O1.out h
          have HFIN := Lib.hid hfin
          obtain ⟨r0, hv1⟩ : ∃ r0 : Nat, v1 = .tuple #[.int .i64 r0, .bool true] := by
            rcases O1.out with ⟨r, q, _, _, _, h⟩ | ⟨hno, _⟩
            · exact ⟨r, h⟩
            · have hx := List.all_eq_true.1 all_fin1 (n - 2) (by simp; omega)
              have hx2 := List.all_eq_true.1 hx (j - 2) (by simp; omega)
              rw [show n - 2 + 2 = n by omega, show j - 2 + 2 = j by omega] at hx2
              unfold fin1 at hx2
              simp only [Bool.and_eq_true] at hx2
              have h3 := hx2.1.1
              cases hc : (spots (Rn n)).filter (fun s => hit (stW n (n - 1)) (stP n (n - 1)) j s.1 s.2) with
              | nil => rw [hc] at h3; simp at h3
              | cons s l =>
                have hs : s ∈ (spots (Rn n)).filter (fun s => hit (stW n (n - 1)) (stP n (n - 1)) j s.1 s.2) := by rw [hc]; simp
                obtain ⟨a1, a2⟩ := List.mem_filter.1 hs
                obtain ⟨a3, a4⟩ := of_spots a1
                rw [hno _ _ a3 a4] at a2
                cases a2
          subst hv1
          clear hfin
          go_wp2_with fail
          refine HO.out.mono ?_
          rintro e wz ⟨v2, rfl, o2, b2⟩
          obtain ⟨r, r', h1, rfl, hrr⟩ := HFIN.out _ o2
          simp only [Value.tuple.injEq, Array.mk.injEq, List.cons.injEq, Value.int.injEq, true_and, and_true, Int.ofNat_inj] at h1
          have hle : decide (r' < r0) = false := by simp; omega
          have hle2 : r0 ≤ r' := by omega
          have HBZ := Lib.hid (HBY.out.keep b2)
          have hbz := hby.trans (b2.mono HBY.out.sz)
          clear o2 b2 h1 hby HBY HFIN HO O1
          go_wp2_with fail
          go_roundg (n - (j + 1))
          case measure => rw [HM2.out]; omega
          case rel => exact ⟨j + 1, by omega, by omega, rfl, by go_num, HBZ.out, hbz⟩
        · have hch := champ_any HBX.out
          rw [champ_at hn2] at hch
          have HCH := Lib.hid hch
          clear hch
          go_wp2_with fail
          refine HCH.out.mono ?_
          rintro e wy ⟨rfl, rfl⟩
          go_wp2_with fail
          go_ret
          exact ⟨rfl, hb⟩
end Go.Proofs.Ytpdanppnpgfkeaa
